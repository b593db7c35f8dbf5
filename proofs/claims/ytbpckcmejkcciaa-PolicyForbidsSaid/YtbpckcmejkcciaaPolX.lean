/-
  Policies: parts replaced, parts forbidden, in plain Lean.
-/
import Derived.Test.YtbpckcmejkcciaaPolN
import Derived.Test.YtbpckcmejkcciaaPolK
set_option linter.unusedVariables false
set_option linter.unusedSimpArgs false
namespace Go.Proofs.Ytbpckcmejkcciaa.B
open Go Go.Proofs Go.Proofs.YtbpckcmejkcciaaEng

/-- which of so many kids a number of a path means -/
def kidOf (x : Int) (n : Nat) : Nat := (((x.tmod n) + n).tmod n).toNat
theorem kidOf_lt {x : Int} {n : Nat} (h : 0 < n) : kidOf x n < n ∧ ((x.tmod n) + n).tmod n = (kidOf x n : Int) ∧ 0 ≤ (x.tmod n) + n ∧ (x.tmod n) + n < 2 * n := by
  have h1 : -(n : Int) < x.tmod n := by
    exact Int.lt_tmod_of_pos x (show (0 : Int) < n by omega)
  have h2 : x.tmod n < n := Int.tmod_lt_of_pos x (by omega)
  have h3 : 0 ≤ ((x.tmod n) + n).tmod n := Int.tmod_nonneg _ (by omega)
  have h4 : ((x.tmod n) + n).tmod n < n := Int.tmod_lt_of_pos _ (by omega)
  unfold kidOf
  omega
/-- what stands for a part that is replaced -/
def insteadS (op : Int) : Tm := if op ≤ 5 then bareS 1 else filS 1
def repS : List Int → Tm → Tm
  | [], .mk op f n ks => insteadS op
  | x :: path, .mk op f n ks => if ks = [] then insteadS op else .mk op f n (ks.set (kidOf x ks.length) (repS path (ks.getD (kidOf x ks.length) (bareS 0))))
theorem right_kids {op f n : Int} {ks ls : List Tm} {p : Bool} (h : rightS (.mk op f n ks) p = true) (hl : ls.length = ks.length) (ha : ∀ q, allS ks q = true → allS ls q = true) : rightS (.mk op f n ls) p = true := by
  unfold rightS at h ⊢
  rw [hl]
  have a1 := ha true
  have a2 := ha false
  by_cases g0 : op = 0 ∨ op = 1
  · rw [if_pos g0] at h ⊢; exact h
  rw [if_neg g0] at h ⊢
  by_cases g2 : op = 2
  · rw [if_pos g2] at h ⊢; exact h
  rw [if_neg g2] at h ⊢
  by_cases g3 : op = 3
  · rw [if_pos g3] at h ⊢; rw [Bool.and_eq_true] at h ⊢; exact ⟨h.1, a1 h.2⟩
  rw [if_neg g3] at h ⊢
  by_cases g4 : op = 4 ∨ op = 5
  · rw [if_pos g4] at h ⊢; rw [Bool.and_eq_true] at h ⊢; exact ⟨h.1, a1 h.2⟩
  rw [if_neg g4] at h ⊢
  by_cases g6 : op = 6
  · rw [if_pos g6] at h ⊢; rw [Bool.and_eq_true] at h ⊢; exact ⟨h.1, a1 h.2⟩
  rw [if_neg g6] at h ⊢
  by_cases g7 : op = 7
  · rw [if_pos g7] at h ⊢; exact h
  rw [if_neg g7] at h ⊢
  by_cases g8 : op = 8 ∨ op = 9
  · rw [if_pos g8] at h ⊢; rw [Bool.and_eq_true] at h ⊢; exact ⟨h.1, a2 h.2⟩
  rw [if_neg g8] at h ⊢
  by_cases g10 : op = 10
  · rw [if_pos g10] at h ⊢; rw [Bool.and_eq_true] at h ⊢; exact ⟨h.1, a2 h.2⟩
  rw [if_neg g10] at h
  exact absurd h (by simp)
theorem right_instead {op f n : Int} {ks : List Tm} {p : Bool} (h : rightS (.mk op f n ks) p = true) : rightS (insteadS op) p = true := by
  have h1 := r_ops h
  simp only [opS] at h1
  unfold insteadS
  by_cases h5 : op ≤ 5
  · rw [if_pos h5, h1.2.2.2 h5]
    exact right_bareS (by simp)
  · rw [if_neg h5]
    have : p = false := by
      cases p with
      | false => rfl
      | true => exact absurd (h1.2.2.1 rfl) h5
    rw [this]
    exact right_filS (by simp)
theorem rep_right : ∀ (path : List Int) (t : Tm) (p : Bool), rightS t p = true → rightS (repS path t) p = true
  | [], .mk op f n ks, p, h => right_instead h
  | x :: path, .mk op f n ks, p, h => by
    unfold repS
    by_cases hk : ks = []
    · rw [if_pos hk]
      exact right_instead h
    · rw [if_neg hk]
      refine right_kids h (by simp) fun q hq => allS_iff.2 fun k hm => ?_
      rcases List.mem_or_eq_of_mem_set hm with h1 | h1
      · exact allS_iff.1 hq k h1
      · subst h1
        have hlt := (kidOf_lt (x := x) (List.length_pos_iff.2 hk)).1
        refine rep_right path _ q (allS_iff.1 hq _ ?_)
        rw [List.getD_eq_getElem?_getD, List.getElem?_eq_getElem hlt]
        exact List.getElem_mem hlt
theorem check_rep {main : Tm} {qs : List Qu} (h : checkS main qs = 0) (path : List Int) : checkS (repS path main) qs = 0 ∨ checkS (repS path main) qs = 200 := by
  unfold checkS at h ⊢
  by_cases h1 : 32 < qs.length
  · simp [h1]
  · rw [if_neg h1] at h ⊢
    by_cases h2 : bigS (main :: preds qs) = true
    · simp [h2] at h
    · rw [if_neg h2] at h
      by_cases h3 : rightS main false = true ∧ qAll qs qs.length = true
      · by_cases h4 : bigS (repS path main :: preds qs) = true
        · simp [h4]
        · rw [if_neg h4, if_pos ⟨rep_right path main false h3.1, h3.2⟩]
          simp
      · simp [h3] at h
/-- the part that is forbidden, or fine -/
def badS (test : Bool) (f n : Int) : Tm := if test = true then .mk 6 0 0 [.mk 2 f n []] else .mk 7 f n []
def fineS (test : Bool) (f n : Int) : Bool := if test = true then decide (0 ≤ f ∧ f < 11 ∧ f ≠ 3) else mayS f n
theorem right_bad (test : Bool) (f n : Int) : rightS (badS test f n) false = (fineS test f n && fitsS f n) := by
  unfold badS fineS
  cases test with
  | false =>
    simp [rightS]
  | true =>
    have hw : fitsS f n = true → 0 ≤ f ∧ f < 11 := fun h => by
      unfold fitsS widthS at h
      by_cases h1 : 0 ≤ f ∧ f < 11
      · exact h1
      · rw [if_neg (by omega), if_neg (by omega), if_neg (by omega), if_neg (by omega), if_neg (by omega)] at h
        simp at h
    rw [if_pos rfl, if_pos rfl]
    have e : rightS (.mk 6 0 0 [.mk 2 f n []]) false = (fitsS f n && decide (f ≠ 3)) := by simp [rightS, allS]
    rw [e]
    by_cases h : fitsS f n = true
    · have := hw h
      by_cases h3 : f = 3 <;> simp [h, h3, this]
    · have h' : fitsS f n = false := by simpa using h
      simp [h']
theorem check_bad {main : Tm} {qs : List Qu} (h : checkS main qs = 0) (test : Bool) (f n : Int) (h2 : checkS (.mk 8 0 0 [main, badS test f n]) qs ≠ 200) :
    (checkS (.mk 8 0 0 [main, badS test f n]) qs = 0 ↔ (fineS test f n && fitsS f n) = true) := by
  unfold checkS at h h2 ⊢
  by_cases h1 : 32 < qs.length
  · simp [h1] at h
  · rw [if_neg h1] at h h2 ⊢
    by_cases h5 : bigS (main :: preds qs) = true
    · simp [h5] at h
    · rw [if_neg h5] at h
      by_cases h4 : bigS (.mk 8 0 0 [main, badS test f n] :: preds qs) = true
      · simp [h4] at h2
      · rw [if_neg h4]
        by_cases h3 : rightS main false = true ∧ qAll qs qs.length = true
        · have : rightS (.mk 8 0 0 [main, badS test f n]) false = (fineS test f n && fitsS f n) := by
            simp only [rightS, allS, h3.1, right_bad]
            simp
          rw [this]
          by_cases h6 : (fineS test f n && fitsS f n) = true
          · simp [h6, h3.2]
          · simp [h6]
        · simp [h3] at h
end Go.Proofs.Ytbpckcmejkcciaa.B
