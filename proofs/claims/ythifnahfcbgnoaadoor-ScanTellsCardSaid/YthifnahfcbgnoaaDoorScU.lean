/-
  scan: the document's one.
-/
import Derived.Test.YthifnahfcbgnoaaDoorScT
set_option maxRecDepth 100000
set_option linter.unusedVariables false
set_option linter.unusedSimpArgs false
set_option maxHeartbeats 400000
namespace Go.Proofs.YthifnahfcbgnoaaDoor.B
open Go Go.Proofs Go.Proofs.YthifnahfcbgnoaaDoorEng Go.RowKit

theorem cut_two {t : List UInt8} {k : Nat} (hl : k + 1 < t.length) (h0 : g t k = 58) (h1 : g t (k + 1) = 61) : cut t k (k + 2) = [58, 61] := by
  have hc := cut_length t k (k + 2) (by omega) (by omega)
  have e0 : g (cut t k (k + 2)) 0 = 58 := (cut_get t k (k + 2) 0 (by omega)).trans h0
  have e1 : g (cut t k (k + 2)) 1 = 61 := (cut_get t k (k + 2) 1 (by omega)).trans h1
  generalize cut t k (k + 2) = l at hc e0 e1
  match l, hc with
  | [a, b], _ =>
    have ha : a = 58 := UInt8.toNat_inj.1 e0
    have hb : b = 61 := UInt8.toNat_inj.1 e1
    rw [ha, hb]
  | [], h => simp at h
  | [_], h => simp at h
  | _ :: _ :: _ :: _, h => simp at h
theorem signs_at : ∀ i, i < 11 → byteAt { data := #[(43 : UInt8), (59 : UInt8), (42 : UInt8), (61 : UInt8), (33 : UInt8), (38 : UInt8), (124 : UInt8), (40 : UInt8), (41 : UInt8), (123 : UInt8), (125 : UInt8)] } ((i : Nat) : Int) = ((signs.getD i 0 : Nat) : Int) := by decide
theorem signs_mem : ∀ i, i < 11 → signs.getD i 0 ∈ signs := by decide
theorem rone_ok (w : World) (t : List UInt8) (k : Nat) (hk : k < t.length) (ht : t.length ≤ 65536) : Calls Tryd.prog 14 #[.string (bs t), .int .i64 (k : Int)] w (endW (DocR t k (oneAt t k) w) (fun _ _ => False)) := by
  refine F14_calls _ _ ?_
  delta F14
  obtain ⟨h2, hc⟩ := two_new w
  have hs : w.heap.size ≤ (w.alloc W39).heap.size := by rw [size_alloc]; omega
  have e1 : IntKind.wrap .i64 ((k : Int) + 1) = ((k + 1 : Nat) : Int) := by rw [i64w _ (by omega) (by omega)]; rfl
  change _ ∧ _ ∧ ∃ J : Unit → World → Prop, _ ∧ Calls _ _ _ ((w.alloc W39).alloc F29o) _
  generalize (w.alloc W39).alloc F29o = w1 at h2 hc ⊢
  generalize (w.alloc W39).heap.size = q at h2 hs ⊢
  generalize hp : w.heap.size = p at h2 hs ⊢
  have hpw : w.heap.size ≤ p := by omega
  have hqw : w.heap.size ≤ q := by omega
  rw [e1, bs_size, g_at]
  refine ⟨by omega, by omega, fun _ w' => w' = w1 ∧ ¬ ((pairsAt t k).isSome = true ∨ isDig (g t k) = true), ?_, ?_⟩
  · rintro _ w2 ⟨rfl, hno⟩ _
    have hone : oneAt t k = if isLet (g t k) = true then (if k + 32 < span isAl t k then .bad 3 (span isAl t k) else .ok 1 (span isAl t k) 0) else if g t k = 58 then (if isAt t (k + 1) 61 = true then .ok 3 (k + 2) 0 else .bad 150 (k + 1)) else if g t k ∈ signs then .ok 3 (k + 1) 0 else .bad 150 (k + 1) := if_neg hno
    refine Calls.then (rletter_ok w2 _) ?_
    rintro v w3 ⟨rfl, rfl⟩
    refine ⟨_, rfl, ?_⟩
    by_cases hlet : isLet (g t k) = true
    · rw [if_pos hlet]
      rw [if_pos hlet] at hone
      refine Calls.then (rend_ok w3 t k (by omega) ht) ?_
      rintro v w4 ⟨rfl, rfl⟩
      have hsp := span_le isAl t k
      generalize span isAl t k = e at hsp hone ⊢
      have hel := hsp.2 (by omega)
      have hle := hsp.1
      refine ⟨_, rfl, ?_⟩
      rw [i64w ((e : Int) - k) (by omega) (by omega), Int.toNat_natCast, Int.toNat_natCast, ext_cut]
      by_cases h32 : k + 32 < e
      · rw [if_pos (by simp; omega)]
        exact ⟨by omega, by omega, by omega, by omega, ret2 (h2.chg (chg_drew _ _)) (doc_bad (h2.chg (chg_drew _ _)) hpw hqw (hc.trans (chg_drew _ _)) (by rw [hone, if_pos h32]))⟩
      · rw [if_neg (by simp; omega)]
        refine ⟨by omega, by omega, by omega, by omega, ?_⟩
        have ho : oneAt t k = .ok 1 e 0 := by rw [hone, if_neg h32]
        first
          | exact ret2 h2 (doc_ok h2 hpw hqw hc ho)
          | exact ret2 (h2.chg (chg_drew _ _)) (doc_ok (h2.chg (chg_drew _ _)) hpw hqw (hc.trans (chg_drew _ _)) ho)
    · rw [if_neg hlet]
      rw [if_neg hlet] at hone
      refine ⟨fun _ w' => w' = w3 ∧ ¬ (g t k = 58 ∧ isAt t (k + 1) 61 = true), ?_, ?_⟩
      · rintro _ w4 ⟨rfl, hnc⟩ _
        refine ⟨fun s w' => ∃ i : Nat, s = (i : Int) ∧ i ≤ 11 ∧ w' = w4 ∧ ∀ j, j < i → signs.getD j 0 ≠ g t k, fun s _ => (11 - s).toNat, ⟨0, ⟨rfl, trivial⟩, 0, rfl, by omega, rfl, fun j hj => by omega⟩, ?_⟩
        rintro _ w5 ⟨i, rfl, hi, rfl, hne⟩ _
        rw [Int.toNat_natCast, Int.toNat_natCast, ext_cut]
        by_cases hlt : i < 11
        · rw [if_pos (by simp; omega)]
          refine ⟨by omega, by omega, ?_⟩
          rw [signs_at i hlt]
          by_cases hx : signs.getD i 0 = g t k
          · rw [if_pos (by simp only [hx]; simp)]
            refine ⟨by omega, by omega, by omega, by omega, ?_⟩
            have hmem : g t k ∈ signs := by
              rw [← hx]
              exact signs_mem i hlt
            have h58 : g t k ≠ 58 := fun h => by rw [h] at hmem; revert hmem; decide
            have ho : oneAt t k = .ok 3 (k + 1) 0 := by rw [hone, if_neg h58, if_pos hmem]
            first
              | exact ret2 h2 (doc_ok h2 hpw hqw hc ho)
              | exact ret2 (h2.chg (chg_drew _ _)) (doc_ok (h2.chg (chg_drew _ _)) hpw hqw (hc.trans (chg_drew _ _)) ho)
          · rw [if_neg (by rw [beq_iff_eq]; exact fun h => hx (Int.ofNat_inj.1 h))]
            exact ⟨((i + 1 : Nat) : Int), ⟨by rw [i64w _ (by omega) (by omega)]; rfl, trivial⟩, ⟨i + 1, rfl, by omega, rfl, fun j hj => by
              rcases Nat.lt_or_ge j i with h | h
              · exact hne j h
              · rw [show j = i from by omega]; exact hx⟩, by dsimp only; omega⟩
        · rw [if_neg (by simp; omega)]
          refine ⟨by omega, by omega, by omega, by omega, ?_⟩
          have hnm : ¬ g t k ∈ signs := fun h => by
            obtain ⟨j, hj, e⟩ := List.getElem_of_mem h
            have hj' : j < 11 := hj
            exact hne j (by omega) (by rw [List.getD_eq_getElem?_getD, List.getElem?_eq_getElem hj]; exact e)
          have ho : oneAt t k = .bad 150 (k + 1) := by
            rw [hone]
            by_cases h58 : g t k = 58
            · rw [if_pos h58, if_neg fun h => hnc ⟨h58, h⟩]
            · rw [if_neg h58, if_neg hnm]
          exact ret2 (h2.chg (chg_drew _ _)) (doc_bad (h2.chg (chg_drew _ _)) hpw hqw (hc.trans (chg_drew _ _)) ho)
      · by_cases h58 : g t k = 58
        · rw [if_pos (by simp [h58])]
          by_cases hl : k + 1 < t.length
          · rw [if_pos (by simp; omega)]
            refine ⟨by omega, by omega, ?_⟩
            rw [g_at]
            by_cases hx : g t (k + 1) = 61
            · rw [if_pos (by simp [hx])]
              have hcut := cut_two hl h58 hx
              have ho : oneAt t k = .ok 3 (k + 2) 0 := by rw [hone, if_pos h58, if_pos (by simp [isAt, hl, hx])]
              have hb : ({ data := #[58, 61] } : ByteArray) = bs (cut t k (k + 2)) := by rw [hcut]
              rw [hb]
              first
                | exact ret2 h2 (doc_ok h2 hpw hqw hc ho)
                | exact ret2 (h2.chg (chg_drew _ _)) (doc_ok (h2.chg (chg_drew _ _)) hpw hqw (hc.trans (chg_drew _ _)) ho)
            · rw [if_neg (by simp; omega)]
              exact ⟨(), trivial, rfl, fun h => by have := h.2; simp [isAt] at this; exact hx this.2⟩
          · rw [if_neg (by simp; omega)]
            exact ⟨(), trivial, rfl, fun h => by simp [isAt, hl] at h⟩
        · rw [if_neg (by simp; omega)]
          exact ⟨(), trivial, rfl, fun h => h58 h.1⟩
  · refine Calls.then (rpairs_ok w1 t k (by omega) ht) ?_
    rintro v w2 ⟨rfl, rfl⟩
    have num : ((pairsAt t k).isSome = true ∨ isDig (g t k) = true) → Calls Tryd.prog 27 #[.string (bs t), .int .i64 (k : Int)] w2 (endW (fun v w'' => v = docV t k (oneAt t k) ∧ Chg NoS w w'' ∧ Two w'' p q) (fun _ _ => False)) := fun h => by
      refine Calls.then (rnumber_ok w2 t k hk ht fun hn => by rcases h with h | h; (rw [hn] at h; cases h); exact h) ?_
      rintro v w3 ⟨rfl, hc3⟩
      exact ⟨by rw [show oneAt t k = numAt t k from if_pos h], hc.trans hc3, h2.chg hc3⟩
    cases hpr : pairsAt t k with
    | some x =>
      obtain ⟨m, e⟩ := x
      refine ⟨_, rfl, _, _, rfl, _, rfl, _, _, rfl, _, rfl, _, _, rfl, _, rfl, rfl, ?_⟩
      rw [if_neg (by decide)]
      refine Calls.then (num (.inl (by rw [hpr]; rfl))) ?_
      rintro v w3 ⟨hv, hc3, h23⟩
      exact take2 hv (fun kd e m ho => ret2 h23 (doc_ok h23 hpw hqw hc3 ho)) (fun code e ho => ret2 h23 (doc_bad h23 hpw hqw hc3 ho))
    | none =>
      refine ⟨_, rfl, _, _, rfl, _, rfl, _, _, rfl, _, rfl, _, _, rfl, _, rfl, rfl, ?_⟩
      rw [if_pos rfl]
      refine Calls.then (rdigit_ok w2 _) ?_
      rintro v w3 ⟨rfl, rfl⟩
      refine ⟨_, rfl, ?_⟩
      by_cases hd : isDig (g t k) = true
      · rw [if_pos hd]
        refine Calls.then (num (.inr hd)) ?_
        rintro v w4 ⟨hv, hc3, h23⟩
        exact take2 hv (fun kd e m ho => ret2 h23 (doc_ok h23 hpw hqw hc3 ho)) (fun code e ho => ret2 h23 (doc_bad h23 hpw hqw hc3 ho))
      · rw [if_neg hd]
        exact ⟨(), trivial, rfl, fun h => by rcases h with h | h; (simp at h); exact hd h⟩
end Go.Proofs.YthifnahfcbgnoaaDoor.B
