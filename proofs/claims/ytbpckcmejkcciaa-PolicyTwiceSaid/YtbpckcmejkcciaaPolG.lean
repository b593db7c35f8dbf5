/-
  Policies: what is right, by the program: the walk.
-/
import Derived.Test.YtbpckcmejkcciaaPolF
set_option linter.unusedVariables false
set_option linter.unusedSimpArgs false
namespace Go.Proofs.Ytbpckcmejkcciaa.B
open Go Go.Proofs Go.Proofs.YtbpckcmejkcciaaEng

/-- what the program's 'right' is asked -/
def PRight (t : Tm) : Prop := ∀ (pred : Bool) (A : Addr) (w : World), TmP w t A →
  Calls Try.prog 25 #[.pointer (some A), .bool pred] w (endW (fun v w' => v = .bool (rightS t pred) ∧ Chg NoS w w') (fun _ _ => False))
theorem RT_ok {w w6 : World} {op f n : Int} {ks : List Tm} {A : Addr} {pred : Bool} {g : Nat} {b : Option Addr} {m c : Nat} (ihk : ∀ k ∈ ks, PRight k)
    (hc0 : w.cell? (addK A 0) = some (.int .i8 op)) (hc1 : w.cell? (addK A 1) = some (.int .i8 f)) (hc2 : w.cell? (addK A 2) = some (.int .u64 n)) (hc3 : w.cell? (addK A 3) = some (.slice b m c)) (hlen : m = ks.length) (hml : m ≤ 9223372036854775807) (hn : 0 ≤ n)
    (hrow : TmRow w ks b) (h0 : 0 ≤ op) (h10 : op ≤ 10)
    (hM : Mine w w6 g #[.int .i64 (wantsS op).1, .int .i64 (wantsS op).2.1, .bool (wantsS op).2.2.1, .bool (wantsS op).2.2.2.1, .bool (wantsS op).2.2.2.2] 61) :
    RT (some A) pred g w6 (fun v w' => v = .bool (rightS (.mk op f n ks) pred) ∧ Chg NoS w w') := by
  have hR := right_comb (f := f) (n := n) (ks := ks) (pred := pred) h0 h10
  rw [hR]
  clear hR
  have hmost : (wantsS op).2.1 = -1 ∨ 0 ≤ (wantsS op).2.1 := by
    unfold wantsS
    repeat' split
    all_goals simp
  generalize wantsS op = x at *
  obtain ⟨x0, x1, x2, x3, x4⟩ := x
  dsimp only at hM hmost
  have cellM : ∀ {w' : World}, Chg NoS w6 w' → ∀ i, w'.cell? (addK ⟨g, 0, none⟩ i) = (#[.int .i64 x0, .int .i64 x1, .bool x2, .bool x3, .bool x4] : Array Value)[i]? := fun h i => by
    rw [addK_lit, Nat.zero_add]; exact (hM.keep h).cell i
  have hw6 : Chg NoS w w6 := hM.2.1
  unfold RT
  refine ⟨b, m, c, cell_keep hc3 hw6, ?_⟩
  refine ⟨fun _ w7 => Chg NoS w6 w7 ∧ ¬ (x3 ≠ pred ∨ (m : Int) < x0 ∨ (0 ≤ x1 ∧ x1 < (m : Int))) ∧ ¬ x4 = true ∧ f = 0 ∧ n = 0, ?_, ?_⟩
  · rintro _ w7 ⟨h7, hwrong, hx4, rfl, rfl⟩ _
    have h7w := hw6.trans h7
    have hres : ∀ v, combS op 0 0 ks.length v pred (x0, x1, x2, x3, x4) = v x2 := fun v => by
      unfold combS
      dsimp only
      rw [← hlen, if_neg hwrong, if_neg hx4, if_neg (by omega)]
    refine ⟨b, m, c, cell_keep hc3 h7w, ?_⟩
    refine ⟨fun s w8 => ∃ j : Nat, s = j ∧ j ≤ m ∧ allS (ks.take j) x2 = true ∧ Chg NoS w7 w8, fun s _ => (m - s).toNat, ⟨0, ⟨rfl, trivial⟩, 0, rfl, by omega, rfl, Chg.refl _ _⟩, ?_⟩
    rintro s w8 ⟨j, rfl, hjm, hs, h8⟩ _
    by_cases hlt : (j : Int) < m
    · rw [if_pos (by simpa using hlt)]
      have hj : j < ks.length := by omega
      have h8d := (h7w.trans h8).trans (chg_drew w8 NoS)
      obtain ⟨B, rfl, hB⟩ := hrow.keep h8d j _ (List.getElem?_eq_getElem hj)
      refine ⟨_, _, _, cell_keep hc3 h8d, by omega, by omega, x2, (cellM ((h7.trans h8).trans (chg_drew w8 NoS)) 2).trans rfl, ?_⟩
      refine Calls.then (ihk _ (List.getElem_mem hj) x2 _ _ hB) ?_
      rintro v w9 ⟨rfl, h9⟩
      refine ⟨_, rfl, ?_⟩
      have ht := allS_take hj x2
      by_cases hr : rightS ks[j] x2 = true
      · rw [if_neg (by simp [hr])]
        exact ⟨(j : Int) + 1, ⟨by rw [i64w _ (by omega) (by omega)], trivial⟩, ⟨j + 1, by omega, by omega, by rw [ht, hs, hr]; rfl, (h8.trans (chg_drew w8 NoS)).trans h9⟩, by first | omega | (dsimp only; omega)⟩
      · rw [if_pos (by simp [hr])]
        refine ⟨?_, h8d.trans h9⟩
        rw [hres, allS_false (ks := ks) (j := j + 1) (by rw [ht, hs]; simpa using hr)]
    · rw [if_neg (by simpa using hlt)]
      rw [List.take_of_length_le (by omega)] at hs
      exact ⟨by rw [hres, hs], h7w.trans h8⟩
  refine ⟨fun s w7 => Chg NoS w6 w7 ∧ s = decide (x3 ≠ pred ∨ (m : Int) < x0 ∨ (0 ≤ x1 ∧ x1 < (m : Int))), ?_, ?_⟩
  · rintro s w7 ⟨h7, rfl⟩ _
    have h7w := hw6.trans h7
    by_cases hwrong : x3 ≠ pred ∨ (m : Int) < x0 ∨ (0 ≤ x1 ∧ x1 < (m : Int))
    · rw [if_pos (decide_eq_true hwrong)]
      refine ⟨?_, h7w⟩
      unfold combS
      dsimp only
      rw [← hlen, if_pos hwrong]
    rw [if_neg (by simpa using hwrong)]
    refine ⟨x4, (cellM h7 4).trans rfl, ?_⟩
    by_cases hx4 : x4 = true
    · rw [if_pos hx4]
      refine Calls.then (Field_ok (cell_keep hc0 h7w) (cell_keep hc1 h7w) (cell_keep hc2 h7w) (b := b) (m := m) (c := c) hn) ?_
      rintro v w8 ⟨rfl, h8⟩
      refine ⟨_, rfl, ?_, h7w.trans h8⟩
      unfold combS
      dsimp only
      rw [← hlen, if_neg hwrong, if_pos hx4]
    rw [if_neg hx4]
    refine ⟨f, cell_keep hc1 h7w, ?_⟩
    by_cases hf : f = 0
    · rw [if_pos (by simp [hf])]
      refine ⟨n, cell_keep hc2 h7w, ?_⟩
      by_cases hn0 : n = 0
      · rw [if_neg (by simp [hn0])]
        exact ⟨(), trivial, h7, hwrong, hx4, hf, hn0⟩
      · rw [if_pos (by simpa using hn0)]
        refine ⟨?_, h7w⟩
        unfold combS
        dsimp only
        rw [← hlen, if_neg hwrong, if_neg hx4, if_pos (.inr hn0)]
    · rw [if_neg (by simpa using hf)]
      refine ⟨?_, h7w⟩
      unfold combS
      dsimp only
      rw [← hlen, if_neg hwrong, if_neg hx4, if_pos (.inl hf)]
  · refine ⟨x3, (cellM (Chg.refl _ _) 3).trans rfl, ?_⟩
    by_cases h3 : x3 = pred
    · rw [if_neg (by simp [h3])]
      refine ⟨x0, (cellM (Chg.refl _ _) 0).trans rfl, ?_⟩
      by_cases hlo : (m : Int) < x0
      · rw [if_pos (by simpa using hlo)]
        exact ⟨_, ⟨rfl, trivial⟩, Chg.refl _ _, by simp [hlo]⟩
      rw [if_neg (by simpa using hlo)]
      refine ⟨x1, (cellM (Chg.refl _ _) 1).trans rfl, ?_⟩
      by_cases hge : 0 ≤ x1
      · rw [if_pos (by simpa using hge)]
        refine ⟨x1, (cellM (Chg.refl _ _) 1).trans rfl, _, ⟨rfl, trivial⟩, Chg.refl _ _, ?_⟩
        by_cases hgt : x1 < (m : Int) <;> simp [h3, hlo, hge, hgt]
      · rw [if_neg (by simpa using hge)]
        exact ⟨_, ⟨rfl, trivial⟩, Chg.refl _ _, by simp [h3, hlo, hge]⟩
    · rw [if_pos (by cases x3 <;> cases pred <;> simp at h3 ⊢)]
      exact ⟨_, ⟨rfl, trivial⟩, Chg.refl _ _, by cases x3 <;> cases pred <;> simp at h3 ⊢⟩
end Go.Proofs.Ytbpckcmejkcciaa.B
