/-
  scan: number, word.
-/
import Derived.Test.YthifnahfcbgnoaaDoorScE
set_option maxRecDepth 100000
set_option linter.unusedVariables false
set_option linter.unusedSimpArgs false
namespace Go.Proofs.YthifnahfcbgnoaaDoor.B
open Go Go.Proofs Go.Proofs.YthifnahfcbgnoaaDoorEng Go.RowKit

theorem number_ok {w : World} {base r k : Nat} {t : List UInt8} {ws : List Wd} (h : RdO w base r t k ws) (hk : k ≤ t.length) (ht : t.length ≤ 65536) (hws : ws.length < 100000) (hE : Errs w) :
    Calls Tryd.prog 19 #[.pointer (some ⟨r, 0, none⟩)] w (endW (Res w base r t k ws (numAt t k)) (fun _ _ => False)) := by
  refine F19_calls _ ?_
  delta F19
  have hq1 : (w.alloc (.cells #[.pointer (some ⟨r, 0, none⟩)] 45)).heap[w.heap.size]? = some (.cells #[.pointer (some ⟨r, 0, none⟩)] 45 (0, 0)) := blk_alloc w _
  have hs1 : (w.alloc (.cells #[.pointer (some ⟨r, 0, none⟩)] 45)).heap.size = w.heap.size + 1 := size_alloc w _
  have hc1 : Chg NoS w (w.alloc (.cells #[.pointer (some ⟨r, 0, none⟩)] 45)) := chg_alloc w _ _
  generalize w.alloc (.cells #[.pointer (some ⟨r, 0, none⟩)] 45) = w1 at hq1 hs1 hc1 ⊢
  have hf := blk_alloc w1 (.cells #[.func (.func 38) #[] #[.pointer (some ⟨w.heap.size, 0, none⟩)], .func (.func 40) #[] #[.pointer (some ⟨w.heap.size, 0, none⟩)], .func (.func 41) #[] #[.pointer (some ⟨w.heap.size, 0, none⟩)]] 81)
  have hc2 := hc1.trans (chg_alloc w1 (.cells #[.func (.func 38) #[] #[.pointer (some ⟨w.heap.size, 0, none⟩)], .func (.func 40) #[] #[.pointer (some ⟨w.heap.size, 0, none⟩)], .func (.func 41) #[] #[.pointer (some ⟨w.heap.size, 0, none⟩)]] 81) NoS)
  have hq2 : Var (w1.alloc (.cells #[.func (.func 38) #[] #[.pointer (some ⟨w.heap.size, 0, none⟩)], .func (.func 40) #[] #[.pointer (some ⟨w.heap.size, 0, none⟩)], .func (.func 41) #[] #[.pointer (some ⟨w.heap.size, 0, none⟩)]] 81)) w.heap.size r := (chg_alloc w1 _ NoS).blk hq1 fun x => x
  generalize w1.alloc (.cells #[.func (.func 38) #[] #[.pointer (some ⟨w.heap.size, 0, none⟩)], .func (.func 40) #[] #[.pointer (some ⟨w.heap.size, 0, none⟩)], .func (.func 41) #[] #[.pointer (some ⟨w.heap.size, 0, none⟩)]] 81) = w2 at hf hc2 hq2 ⊢
  generalize hq : w.heap.size = q at *
  refine ⟨fun s w' => ∃ i : Nat, s = (i : Int) ∧ i ≤ 3 ∧ Chg NoS w2 w' ∧ (1 ≤ i → try1 t k = none) ∧ (2 ≤ i → try2 t k = none) ∧ (3 ≤ i → try3 t k = none), fun s _ => (3 - s).toNat, ⟨0, ⟨rfl, trivial⟩, 0, rfl, by omega, Chg.refl _ _, fun h => by omega, fun h => by omega, fun h => by omega⟩, ?_⟩
  rintro _ w3 ⟨i, rfl, hi, hc3, n1, n2, n3⟩ _
  have hc23 := hc2.trans hc3
  have h3 := h.chg hc23
  have hq3 : Var w3 q r := hc3.blk hq2 fun x => x
  have hf3 := hc3.blk hf fun x => x
  have cell : ∀ j : Nat, w3.cell? (addK ⟨w1.heap.size, 0, none⟩ ((j : Int).toNat * 1)) = (#[.func (.func 38) #[] #[.pointer (some ⟨q, 0, none⟩)], .func (.func 40) #[] #[.pointer (some ⟨q, 0, none⟩)], .func (.func 41) #[] #[.pointer (some ⟨q, 0, none⟩)]] : Array Value)[j]? := fun j => by
    rw [Int.toNat_natCast, Nat.mul_one, addK_lit, Nat.zero_add, cell_blk hf3]
  by_cases hlt : i < 3
  · rw [if_pos (by simp; omega)]
    refine ⟨by omega, by omega, ?_⟩
    have body : ∀ (o : Option One), (∀ o', o = some o' → numAt t k = o') → (o = none → (1 ≤ i + 1 → try1 t k = none) ∧ (2 ≤ i + 1 → try2 t k = none) ∧ (3 ≤ i + 1 → try3 t k = none)) → ∀ v w', TryR w3 base r t k ws o v w' →
        ∃ (vs : List Value), v = Value.tuple (List.toArray vs) ∧ ∃ (v : Value), ∃ (rest : List Value), vs = v :: rest ∧ ∃ (p : Option Addr), v = Value.pointer p ∧ ∃ (v : Value), ∃ (rest_1 : List Value), rest = v :: rest_1 ∧ ∃ (b : Bool), v = Value.bool b ∧ rest_1 = [] ∧ if b = Bool.true then Res w base r t k ws (numAt t k) (Value.pointer p) w' else ∃ (s' : Int), (Value.int IntKind.i64 s' = Value.int IntKind.i64 (IntKind.wrap IntKind.i64 ((i : Int) + 1)) ∧ True) ∧ (∃ i : Nat, s' = (i : Int) ∧ i ≤ 3 ∧ Chg NoS w2 w' ∧ (1 ≤ i → try1 t k = none) ∧ (2 ≤ i → try2 t k = none) ∧ (3 ≤ i → try3 t k = none)) ∧ (3 - s').toNat < (3 - (i : Int)).toNat := fun o ho hn v w' hr => by
      cases o with
      | some o' =>
        obtain ⟨p, rfl, hr⟩ := hr
        refine ⟨_, rfl, _, _, rfl, _, rfl, _, _, rfl, _, rfl, rfl, ?_⟩
        rw [if_pos rfl, ho o' rfl]
        exact hr.of_chg hc23
      | none =>
        obtain ⟨rfl, hc⟩ := hr
        refine ⟨_, rfl, _, _, rfl, _, rfl, _, _, rfl, _, rfl, rfl, ?_⟩
        rw [if_neg (by decide)]
        exact ⟨((i + 1 : Nat) : Int), ⟨by rw [i64w _ (by omega) (by omega)]; rfl, trivial⟩, ⟨i + 1, rfl, by omega, hc3.trans hc, hn rfl⟩, by omega⟩
    have : i = 0 ∨ i = 1 ∨ i = 2 := by omega
    rcases this with rfl | rfl | rfl
    · refine .inl ⟨some ⟨q, 0, none⟩, cell 0, ?_⟩
      refine Calls.then (try1_ok h3 hq3 hk ht hws (hE.chg hc23)) ?_
      refine body _ (fun o' e => ?_) (fun e => ⟨fun _ => e, fun h => by omega, fun h => by omega⟩)
      unfold try1 at e
      unfold numAt
      cases hp : pairsAt t k with
      | none => rw [hp] at e; cases e
      | some x =>
        obtain ⟨m, e1⟩ := x
        rw [hp] at e
        injection e
    · refine .inr (.inl ⟨some ⟨q, 0, none⟩, cell 1, ?_⟩)
      refine Calls.then (try2_ok h3 hq3 hk ht hws (hE.chg hc23)) ?_
      have hp : pairsAt t k = none := by
        have := n1 (by omega)
        unfold try1 at this
        cases hp : pairsAt t k with
        | none => rfl
        | some x => rw [hp] at this; cases this
      refine body _ (fun o' e => ?_) (fun e => ⟨fun _ => n1 (by omega), fun h => e, fun h => by omega⟩)
      unfold try2 at e
      unfold numAt
      rw [hp]
      split at e
      · rename_i hx
        simp only [if_pos hx]
        injection e
      · cases e
    · refine .inr (.inr ⟨some ⟨q, 0, none⟩, cell 2, ?_⟩)
      refine Calls.then (try3_ok h3 hq3 hk ht hws (hE.chg hc23)) ?_
      have hp : pairsAt t k = none := by
        have := n1 (by omega)
        unfold try1 at this
        cases hp : pairsAt t k with
        | none => rfl
        | some x => rw [hp] at this; cases this
      have hx : ¬ (isAt t k 48 = true ∧ isAt t (k + 1) 120 = true) := fun hx => by
        have := n2 (by omega)
        unfold try2 at this
        rw [if_pos hx] at this
        cases this
      refine body _ (fun o' e => ?_) (fun e => ⟨fun _ => n1 (by omega), fun h => n2 (by omega), fun h => e⟩)
      unfold try3 at e
      unfold numAt
      rw [hp]
      split at e
      · rename_i hy
        simp only [if_neg hx, if_pos hy]
        injection e
      · cases e
  · rw [if_neg (by simp; omega)]
    have : i = 3 := by omega
    subst this
    have hnum : numAt t k = decNum t k := by
      have a1 := n1 (by omega)
      have a2 := n2 (by omega)
      have a3 := n3 (by omega)
      unfold try1 at a1
      unfold try2 at a2
      unfold try3 at a3
      unfold numAt
      cases hp : pairsAt t k with
      | some x => rw [hp] at a1; cases a1
      | none =>
        have hx : ¬ (isAt t k 48 = true ∧ isAt t (k + 1) 120 = true) := fun hx => by rw [if_pos hx] at a2; cases a2
        have hy : ¬ (isAt t (span isDig t k) 46 = true) := fun hy => by rw [if_pos hy] at a3; cases a3
        simp only [if_neg hx, if_neg hy]
    rw [hnum]
    have h0 := h
    obtain ⟨a, n, c, h1, h2', h3', h4, h5, h6⟩ := h
    have hr3 : Rd w3.drew r t k a n c := (h1.chg hc23).drew
    have hqd : w3.drew.cell? ⟨q, 0, none⟩ = some (.pointer (some ⟨r, 0, none⟩)) := hq3.cell
    have hcd : Chg NoS w w3.drew := hc23.trans (chg_drew _ _)
    refine ⟨_, hqd, _, hqd, some_i ⟨_, hr3.at_, ?_⟩⟩
    refine Calls.then (span18_ok hr3 k hk ht) ?_
    rintro v w4 ⟨rfl, rfl⟩
    have hr4 : Rd w3.drew.drew r t k a n c := hr3
    have hq4 : w3.drew.drew.cell? ⟨q, 0, none⟩ = some (.pointer (some ⟨r, 0, none⟩)) := hqd
    have hc4 : Chg NoS w w3.drew.drew := hcd.trans (chg_drew _ _)
    have hsp := span_le isDig t k
    have hcd2 := cut_dig isDig (t := t) (k := k) hk
    unfold decNum
    refine ⟨_, rfl, _, hq4, some_i ⟨_, hr4.s, _, hq4, some_i ⟨_, hr4.at_, ?_⟩⟩⟩
    generalize w3.drew.drew = w5 at hr4 hq4 hc4 ⊢
    generalize hee : span isDig t k = e at hsp hcd2
    have hel := hsp.2 hk
    have hle := hsp.1
    refine ⟨by omega, by rw [bs_size]; omega, by omega, by rw [Int.toNat_natCast]; omega, ?_⟩
    rw [Int.toNat_natCast, Int.toNat_natCast, ext_cut]
    refine Calls.then (Parse_ok w5 (cut t k e) 10 64 (.inl rfl) (.inr rfl) (fun j hj => okD_dig (hcd2 j hj)) (by rw [cut_length _ _ _ hle hel]; omega) (hE.chg hc4)) ?_
    rintro v w6 ⟨hv', hc6⟩
    have hc16 := hc4.trans hc6
    have hq6 : w6.cell? ⟨q, 0, none⟩ = some (.pointer (some ⟨r, 0, none⟩)) := hc6.sameOld.cell hq4
    have hr6 := hr4.chg hc6
    have hq6d : w6.drew.cell? ⟨q, 0, none⟩ = some (.pointer (some ⟨r, 0, none⟩)) := hq6
    have hr6d : Rd w6.drew r t k a n c := hr6
    have hc16d : Chg NoS w w6.drew := hc16.trans (chg_drew _ _)
    have e1 : IntKind.wrap .i64 ((k : Int) + 1) = ((k + 1 : Nat) : Int) := by rw [i64w _ (by omega) (by omega)]; rfl
    rcases hv' with ⟨hne, hmax, rfl⟩ | ⟨hn, x, t1, z1, rfl⟩
    · have hmax' : vals 10 (cut t k e) ≤ 18446744073709551615 := hmax
      refine ⟨_, rfl, _, _, rfl, _, rfl, _, _, rfl, rfl, .inl rfl, ?_⟩
      rw [if_neg (by simp [isNilI]), if_pos ⟨hne, hmax'⟩]
      refine ⟨_, hq6d, some_i ⟨_, hr6d.at_, ?_⟩⟩
      rw [e1]
      by_cases hk1 : k + 1 < e
      · rw [if_pos (by simp; omega)]
        refine ⟨_, hq6d, _, hq6d, some_i ⟨_, hr6d.at_, ?_⟩⟩
        refine Calls.then (is_ok hr6d k 48) ?_
        rintro v w7 ⟨rfl, rfl⟩
        refine ⟨_, rfl, ?_⟩
        refine ite_both (fun hz => ?_) (fun hz => ?_)
        · refine ⟨_, hq6d, ?_⟩
          exact bad_to h0 hc16d (code := 150) (e := e) hle hel (by rw [if_pos ⟨hk1, hz⟩])
        · refine ⟨_, hq6d, ?_⟩
          exact put_to h0 hc16d hle hel ht hws (by rw [if_neg fun hh => hz hh.2])
      · rw [if_neg (by simp; omega)]
        refine ⟨_, hq6d, ?_⟩
        exact put_to h0 hc16d hle hel ht hws (by rw [if_neg fun hh => hk1 hh.1])
    · refine ⟨_, rfl, _, _, rfl, _, rfl, _, _, rfl, rfl, .inr ⟨_, _, rfl⟩, ?_⟩
      rw [if_pos (by simp [isNilI])]
      have hn' : ¬ (cut t k e ≠ [] ∧ vals 10 (cut t k e) ≤ 18446744073709551615) := hn
      rw [if_neg hn']
      refine ⟨_, hq6, ?_⟩
      exact bad_to h0 hc16 (code := 3) (e := e) hle hel rfl
end Go.Proofs.YthifnahfcbgnoaaDoor.B
