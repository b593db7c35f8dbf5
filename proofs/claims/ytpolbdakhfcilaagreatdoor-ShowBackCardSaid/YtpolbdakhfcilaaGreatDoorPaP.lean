/-
  parse: terms and policies compared (after the policy's texts).
-/
import Derived.Test.YtpolbdakhfcilaaGreatDoorPaMO
import Derived.Test.YtpolbdakhfcilaaGreatDoorBQ
import Derived.Test.YtpolbdakhfcilaaGreatDoorBI
set_option maxRecDepth 100000
set_option linter.unusedVariables false
set_option linter.unusedSimpArgs false
namespace Go.Proofs.YtpolbdakhfcilaaGreatDoor.B
open Go Go.Proofs Go.Proofs.YtpolbdakhfcilaaGreatDoorEng Go.RowKit

theorem wSome_of {o : Option Addr} {A : Addr} {K : Addr → Prop} (h : o = some A) (hk : K A) : wSome o K := by subst h; exact hk
theorem wSome_some (A : Addr) (K : Addr → Prop) : wSome (some A) K = K A := rfl
def Mine (w0 w : World) (b : Nat) (cs : Array Value) (t : TypeId) : Prop := w.heap[b]? = some (.cells cs t (0, 0)) ∧ Chg NoS w0 w ∧ w0.heap.size ≤ b
theorem mine_alloc {w0 w : World} (h : Chg NoS w0 w) (cs : Array Value) (t : TypeId) : Mine w0 (w.alloc (.cells cs t)) w.heap.size cs t := ⟨blk_alloc w _, h.trans (chg_alloc w _ NoS), h.size⟩
theorem Mine.set {w0 w : World} {b i : Nat} {cs : Array Value} {t : TypeId} {v : Value} {K : World → Prop} (h : Mine w0 w b cs t) (hi : i < cs.size) (hv : oneC v = true) (hK : ∀ w', Mine w0 w' b (cs.setIfInBounds i v) t → K w') : setW w ⟨b, i, none⟩ v K :=
  setW_blk h.1 hi hv fun w' h1 h2 _ => hK w' ⟨h1, h.2.1.trans2 h2 (fun k hk e => by have : k = b := e; have := h.2.2; omega), h.2.2⟩
theorem Mine.cell {w0 w : World} {b : Nat} {cs : Array Value} {t : TypeId} (h : Mine w0 w b cs t) (i : Nat) : w.cell? ⟨b, i, none⟩ = cs[i]? := cell_blk h.1 i
theorem Mine.keep {w0 w w' : World} {b : Nat} {cs : Array Value} {t : TypeId} (h : Mine w0 w b cs t) (hc : Chg NoS w w') : Mine w0 w' b cs t := ⟨hc.blk h.1 (fun x => x), h.2.1.trans hc, h.2.2⟩

theorem mine_cell {w w6 : World} {g : Nat} {cs : Array Value} {t : TypeId} (h : Mine w w6 g cs t) (i : Nat) : w6.cell? (addK ⟨g, 0, none⟩ i) = cs[i]? := by rw [addK_lit, Nat.zero_add]; exact h.cell i
theorem mine_cell2 {w w6 : World} {g : Nat} {cs : Array Value} {t : TypeId} (h : Mine w w6 g cs t) (k i : Nat) : w6.cell? (addK (addK ⟨g, 0, none⟩ k) i) = cs[k + i]? := by rw [addK_addK]; exact mine_cell h (k + i)
theorem take_snoc {α : Type} {l : List α} {j : Nat} (hj : j < l.length) : l.take (j + 1) = l.take j ++ [l[j]] := by
  rw [List.take_add_one, List.getElem?_eq_getElem hj]; rfl
theorem take_ext {ks ls : List Tm} {j : Nat} (hj : j < ks.length) (hl : j < ls.length) (h : ks.take j = ls.take j) : ks.take (j + 1) = ls.take (j + 1) ↔ ks[j] = ls[j] := by
  rw [take_snoc hj, take_snoc hl, h]
  constructor
  · intro e
    have := List.append_cancel_left e
    simpa using this
  · intro e; rw [e]
theorem Terms_ok : ∀ (ta tb : Tm) (v u : V4) (w : World), v.is w ta → u.is w tb → Calls Tryz.prog 29 #[.agg v.arr, .agg u.arr] w (endW (fun r w' => ∃ b, r = .bool b ∧ (b = true ↔ ta = tb) ∧ Chg NoS w w') (fun _ _ => False)) := by
  intro ta
  generalize hs : tsize ta = sz
  induction sz using Nat.strongRecOn generalizing ta with
  | _ sz ih =>
    subst hs
    intro tb v u w hv hu
    obtain ⟨ks, rfl, hlen, _, hcm, _, hget⟩ := TVal.parts hv
    obtain ⟨ls, rfl, hlen2, _, hcm2, _, hget2⟩ := TVal.parts hu
    refine F29_calls v.op v.f v.n v.b v.m v.c u.op u.f u.n u.b u.m u.c ?_
    delta F29
    have hP0 := mine_alloc (Chg.refl NoS w) v.arr 26
    generalize w.alloc (.cells v.arr 26) = w1 at *
    have hQ := mine_alloc hP0.2.1 u.arr 26
    have hP := hP0.keep (chg_alloc w1 (.cells u.arr 26) NoS)
    generalize w1.alloc (.cells u.arr 26) = w2 at *
    have hno : ∀ w', Chg NoS w w' → (Tm.mk v.op v.f v.n ks ≠ .mk u.op u.f u.n ls) → (∃ b, Value.bool false = .bool b ∧ (b = true ↔ Tm.mk v.op v.f v.n ks = .mk u.op u.f u.n ls) ∧ Chg NoS w w') := fun w' hc hne => ⟨false, rfl, by simp [hne], hc⟩
    refine ⟨fun _ w3 => w3 = w2 ∧ v.op = u.op ∧ v.f = u.f ∧ v.n = u.n ∧ v.m = u.m, ?_, ?_⟩
    rotate_left
    · refine ⟨_, (mine_cell hP 0).trans rfl, _, (mine_cell hQ 0).trans rfl, ?_⟩
      by_cases h0 : v.op = u.op
      rotate_left
      · rw [if_neg (by simp [h0])]
        exact hno _ hP.2.1 (fun e => by injection e with e1 e2 e3 e4; exact h0 e1)
      rw [if_pos (by simp [h0])]
      refine ⟨_, (mine_cell hP 1).trans rfl, _, (mine_cell hQ 1).trans rfl, ?_⟩
      by_cases h1 : v.f = u.f
      rotate_left
      · rw [if_neg (by simp [h1])]
        exact hno _ hP.2.1 (fun e => by injection e with e1 e2 e3 e4; exact h1 e2)
      rw [if_pos (by simp [h1])]
      refine ⟨_, (mine_cell hP 2).trans rfl, _, (mine_cell hQ 2).trans rfl, ?_⟩
      by_cases h2 : v.n = u.n
      rotate_left
      · rw [if_neg (by simp [h2])]
        exact hno _ hP.2.1 (fun e => by injection e with e1 e2 e3 e4; exact h2 e3)
      rw [if_pos (by simp [h2])]
      refine ⟨_, _, _, (mine_cell hP 3).trans rfl, _, _, _, (mine_cell hQ 3).trans rfl, ?_⟩
      by_cases h3 : v.m = u.m
      rotate_left
      · rw [if_pos (by simp; omega)]
        exact hno _ hP.2.1 (fun e => by injection e with e1 e2 e3 e4; exact h3 (by rw [hlen, hlen2, e4]))
      rw [if_neg (by simp; omega)]
      exact ⟨(), trivial, rfl, h0, h1, h2, h3⟩
    rintro _ w3 ⟨rfl, h0, h1, h2, h3⟩ _
    refine ⟨_, _, _, (mine_cell hP 3).trans rfl, fun s w4 => ∃ j : Nat, s = j ∧ j ≤ v.m ∧ ks.take j = ls.take j ∧ Chg NoS w3 w4, fun s _ => (v.m - s).toNat, ⟨0, ⟨rfl, trivial⟩, 0, rfl, by omega, by simp, Chg.refl _ _⟩, ?_⟩
    rintro s w4 ⟨j, rfl, hj, htk, hc4⟩ _
    have hP4 := hP.keep hc4
    have hQ4 := hQ.keep hc4
    by_cases hlt : (j : Int) < v.m
    · rw [if_pos (by simpa using hlt)]
      have hjk : j < ks.length := by omega
      have hjl : j < ls.length := by omega
      have hc5 := chg_drew w4 NoS
      have hP5 := hP4.keep hc5
      have hQ5 := hQ4.keep hc5
      generalize w4.drew = w5 at *
      obtain ⟨A, hA, hT⟩ := hget j _ (List.getElem?_eq_getElem hjk)
      obtain ⟨o, f, n, b, m, c, q0, q1, q2, q3, hq⟩ := hT.keep hP5.2.1
      obtain ⟨A2, hA2, hT2⟩ := hget2 j _ (List.getElem?_eq_getElem hjl)
      obtain ⟨o2, f2, n2, b2, m2, c2, p0, p1, p2, p3, hp⟩ := hT2.keep hP5.2.1
      refine ⟨_, _, _, (mine_cell hP5 3).trans rfl, by omega, by omega, ?_⟩
      rw [hA, wSome_some]
      refine ⟨_, q0, _, q1, _, q2, _, _, _, q3, _, _, _, (mine_cell hQ5 3).trans rfl, by omega, by omega, ?_⟩
      rw [hA2, wSome_some]
      refine ⟨_, p0, _, p1, _, p2, _, _, _, p3, ?_⟩
      refine Calls.then (ih _ (tsize_kid (List.getElem_mem hjk)) ks[j] rfl ls[j] ⟨o, f, n, b, m, c⟩ ⟨o2, f2, n2, b2, m2, c2⟩ w5 hq hp) ?_
      rintro r w6 ⟨bb, rfl, hb, hc6⟩
      refine ⟨_, rfl, ?_⟩
      have hext := take_ext hjk hjl htk
      cases bb with
      | false =>
        rw [if_pos (by decide)]
        refine hno _ (hP5.keep hc6).2.1 fun e => ?_
        injection e with e1 e2 e3 e4
        subst e4
        have := hb.2 rfl
        cases this
      | true =>
        rw [if_neg (by decide)]
        exact ⟨(j : Int) + 1, ⟨by rw [i64w _ (by omega) (by omega)], trivial⟩, ⟨j + 1, by omega, by omega, hext.2 (hb.1 rfl), (hc4.trans hc5).trans hc6⟩, by first | omega | (dsimp only; omega)⟩
    · rw [if_neg (by simpa using hlt)]
      rw [List.take_of_length_le (by omega), List.take_of_length_le (by omega)] at htk
      exact ⟨true, rfl, by simp [h0, h1, h2, htk], hP4.2.1⟩
theorem take_extq {ks ls : List Qu} {j : Nat} (hj : j < ks.length) (hl : j < ls.length) (h : ks.take j = ls.take j) : ks.take (j + 1) = ls.take (j + 1) ↔ ks[j] = ls[j] := by
  rw [take_snoc hj, take_snoc hl, h]
  constructor
  · intro h
    have := List.append_cancel_left h
    injection this
  · intro h
    rw [h]
/-- two policies are the same -/
theorem bytes_same {a b : ByteArray} (h : ByteArray.toList a = ByteArray.toList b) : a = b := by
  rw [Lib.toList_data, Lib.toList_data] at h
  obtain ⟨⟨x⟩⟩ := a
  obtain ⟨⟨y⟩⟩ := b
  have : x = y := h
  rw [this]
theorem wp_cell {w w6 : World} {g : Nat} {cs : Array Value} {t : TypeId} (h : Mine w w6 g cs t) (i : Nat) : w6.cell? (addK (addK ⟨g, 0, none⟩ 0) i) = cs[i]? := (mine_cell2 h 0 i).trans (by rw [Nat.zero_add])
theorem QsAt.cells {w : World} {qs : List Qu} {a : Option Addr} (h : QsAt w qs a) {j : Nat} {q : Qu} (hj : qs[j]? = some q) : ∃ A, ∃ v : V4, a = some A ∧ w.cell? (addK (addK A (j * 5)) 0) = some (.string q.1) ∧ w.cell? (addK (addK A (j * 5)) 1) = some (.int .i8 v.op) ∧ w.cell? (addK (addK A (j * 5)) 2) = some (.int .i8 v.f) ∧ w.cell? (addK (addK A (j * 5)) 3) = some (.int .u64 v.n) ∧ w.cell? (addK (addK A (j * 5)) 4) = some (.slice v.b v.m v.c) ∧ v.is w q.2 := by
  obtain ⟨A, h1, h2, op, f, n, b, m, c, h3, h4, h5, h6, h7⟩ := h j q hj
  refine ⟨A, ⟨op, f, n, b, m, c⟩, h1, h2, ?_, ?_, ?_, ?_, h7⟩
  · rw [addK_zero] at h3; exact h3
  · rw [addK_addK (addK A (j * 5)) 1 1] at h4; exact h4
  · rw [addK_addK (addK A (j * 5)) 1 2] at h5; exact h5
  · rw [addK_addK (addK A (j * 5)) 1 3] at h6; exact h6
theorem Policies_ok {w : World} {ma mb : Tm} {va vb : V4} {qa qb : List Qu} {aa ab : Option Addr} {na nb ca cb : Nat} (ha : va.is w ma) (hb : vb.is w mb) (hqa : QsAt w qa aa) (hqb : QsAt w qb ab) (hna : na = qa.length) (hnb : nb = qb.length) (hm : na ≤ 9223372036854775807) :
    Calls Tryz.prog 11 #[.agg (parr va aa na ca), .agg (parr vb ab nb cb)] w (endW (fun r w' => ∃ b, r = .bool b ∧ (b = true ↔ ma = mb ∧ qa = qb) ∧ Chg NoS w w') (fun _ _ => False)) := by
  refine F11_calls va.op va.f va.n va.b va.m va.c aa na ca vb.op vb.f vb.n vb.b vb.m vb.c ab nb cb ?_
  delta F11
  have hA0 := mine_alloc (Chg.refl NoS w) (parr va aa na ca) 29
  generalize w.alloc (.cells (parr va aa na ca) 29) = w1 at *
  have hB0 := mine_alloc hA0.2.1 (parr vb ab nb cb) 29
  have hA1 := hA0.keep (chg_alloc w1 (.cells (parr vb ab nb cb) 29) NoS)
  generalize w1.alloc (.cells (parr vb ab nb cb) 29) = w2 at *
  refine ⟨fun _ w3 => Chg NoS w2 w3 ∧ ma = mb ∧ na = nb, ?_, ?_⟩
  rotate_left
  · refine ⟨_, (wp_cell hA1 0).trans rfl, _, (wp_cell hA1 1).trans rfl, _, (wp_cell hA1 2).trans rfl, _, _, _, (wp_cell hA1 3).trans rfl, _, (wp_cell hB0 0).trans rfl, _, (wp_cell hB0 1).trans rfl, _, (wp_cell hB0 2).trans rfl, _, _, _, (wp_cell hB0 3).trans rfl, ?_⟩
    refine Calls.then (Terms_ok ma mb va vb w2 (ha.keep hA1.2.1) (hb.keep hA1.2.1)) ?_
    rintro r w3 ⟨b, rfl, hbb, hc3⟩
    have hA3 := hA1.keep hc3
    have hB3 := hB0.keep hc3
    refine ⟨_, rfl, ?_⟩
    by_cases h1 : b = true
    rotate_left
    · rw [if_neg (by simp [h1])]
      exact ⟨false, rfl, ⟨fun h => (by cases h), fun h => absurd (hbb.2 h.1) h1⟩, hA3.2.1⟩
    rw [if_pos (by simp [h1])]
    refine ⟨_, _, _, (mine_cell hA3 4).trans rfl, _, _, _, (mine_cell hB3 4).trans rfl, ?_⟩
    by_cases h2 : na = nb
    · rw [if_neg (by simp [h2])]
      exact ⟨(), trivial, hc3, hbb.1 h1, h2⟩
    · rw [if_pos (by simp; omega)]
      exact ⟨false, rfl, ⟨fun h => (by cases h), fun h => absurd (by rw [hna, hnb, h.2]) h2⟩, hA3.2.1⟩
  rintro _ w3 ⟨hc3, hmm, hnn⟩ _
  refine ⟨_, _, _, (mine_cell (hA1.keep hc3) 4).trans rfl, fun s w4 => ∃ j : Nat, s = j ∧ j ≤ na ∧ qa.take j = qb.take j ∧ Chg NoS w2 w4, fun s _ => (na - s).toNat, ⟨0, ⟨rfl, trivial⟩, 0, rfl, by omega, rfl, hc3⟩, ?_⟩
  rintro s w4 ⟨j, rfl, hj, heq, hc4⟩ _
  have hA4 := hA1.keep hc4
  have hB4 := hB0.keep hc4
  by_cases hlt : (j : Int) < na
  · rw [if_pos (by simpa using hlt)]
    have hja : j < qa.length := by omega
    have hjb : j < qb.length := by omega
    obtain ⟨A, q, hA, q0, q1, q2, q3, q4, hqv⟩ := hqa.cells (List.getElem?_eq_getElem hja)
    obtain ⟨B, p, hB, p0, p1, p2, p3, p4, hpv⟩ := hqb.cells (List.getElem?_eq_getElem hjb)
    have hc5 := chg_drew w4 NoS
    have hA5 := hA4.keep hc5
    have hB5 := hB4.keep hc5
    generalize w4.drew = w5 at *
    have hw5 := hA5.2.1
    have e1 : ∀ (A : Addr) i, addK (addK (addK A (j * 5)) 1) i = addK (addK A (j * 5)) (1 + i) := fun A i => addK_addK _ _ _
    refine ⟨_, _, _, (mine_cell hA5 4).trans rfl, by omega, by omega, wSome_of hA ⟨_, cell_keep q0 hw5, _, _, _, (mine_cell hB5 4).trans rfl, by omega, by omega, wSome_of hB ⟨_, cell_keep p0 hw5, ?_⟩⟩⟩
    have hte := take_extq hja hjb heq
    by_cases hs : qa[j].1 = qb[j].1
    · rw [if_pos (by simp [hs])]
      refine ⟨_, _, _, (mine_cell hA5 4).trans rfl, by omega, by omega, wSome_of hA ⟨_, (by rw [Int.toNat_natCast, e1]; exact cell_keep q1 hw5), _, (by rw [Int.toNat_natCast, e1]; exact cell_keep q2 hw5), _, (by rw [Int.toNat_natCast, e1]; exact cell_keep q3 hw5), _, _, _, (by rw [Int.toNat_natCast, e1]; exact cell_keep q4 hw5), _, _, _, (mine_cell hB5 4).trans rfl, by omega, by omega, wSome_of hB ⟨_, (by rw [Int.toNat_natCast, e1]; exact cell_keep p1 hw5), _, (by rw [Int.toNat_natCast, e1]; exact cell_keep p2 hw5), _, (by rw [Int.toNat_natCast, e1]; exact cell_keep p3 hw5), _, _, _, (by rw [Int.toNat_natCast, e1]; exact cell_keep p4 hw5), ?_⟩⟩⟩
      refine Calls.then (Terms_ok qa[j].2 qb[j].2 q p w5 (hqv.keep hw5) (hpv.keep hw5)) ?_
      rintro r w6 ⟨b, rfl, hbb, hc6⟩
      refine ⟨_, rfl, ?_⟩
      by_cases h1 : b = true
      · rw [if_neg (by simp [h1])]
        exact ⟨(j : Int) + 1, ⟨by rw [i64w _ (by omega) (by omega)], trivial⟩, ⟨j + 1, rfl, by omega, hte.2 (Prod.ext hs (hbb.1 h1)), (hc4.trans hc5).trans hc6⟩, by first | omega | (dsimp only; omega)⟩
      · rw [if_pos (by simp [h1])]
        exact ⟨false, rfl, ⟨fun h => (by cases h), fun h => absurd (hbb.2 (by have := h.2; subst this; rfl)) h1⟩, (hA5.keep hc6).2.1⟩
    · rw [if_neg (by
        intro h
        have h' : ¬ ¬ ((ByteArray.toList qa[j].1 == ByteArray.toList qb[j].1) = true) := by
          cases hh : (ByteArray.toList qa[j].1 == ByteArray.toList qb[j].1) with
          | true => exact fun h => h rfl
          | false => rw [hh] at h; cases h
        exact hs (bytes_same (eq_of_beq (Decidable.not_not.1 h'))))]
      exact ⟨false, rfl, ⟨fun h => (by cases h), fun h => absurd (by have := h.2; subst this; rfl) hs⟩, hw5⟩
  · rw [if_neg (by simpa using hlt)]
    have hjn : j = na := by omega
    rw [List.take_of_length_le (by omega), List.take_of_length_le (by omega)] at heq
    exact ⟨true, rfl, ⟨fun _ => ⟨hmm, heq⟩, fun _ => rfl⟩, hA4.2.1⟩
end Go.Proofs.YtpolbdakhfcilaaGreatDoor.B
