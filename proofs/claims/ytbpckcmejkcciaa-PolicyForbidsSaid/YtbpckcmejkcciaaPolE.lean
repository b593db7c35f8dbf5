/-
  Policies: what is right, by the document.
-/
import Derived.Test.YtbpckcmejkcciaaPolD
set_option linter.unusedVariables false
set_option linter.unusedSimpArgs false
namespace Go.Proofs.Ytbpckcmejkcciaa.B
open Go Go.Proofs Go.Proofs.YtbpckcmejkcciaaEng

theorem rWidth_ok (w : World) (f : Int) : Calls Try.prog 50 #[.int .i8 f] w (endW (fun v w' => v = .int .i64 (widthS f) ∧ w' = w) (fun _ _ => False)) := by
  refine F50_calls f ?_
  delta F50
  by_cases h0 : f = 0
  · subst h0
    rw [if_pos (by decide), if_pos (by decide)]
    exact ⟨rfl, rfl⟩
  rw [if_neg (by simpa using h0)]
  by_cases h1 : f = 1
  · subst h1
    rw [if_pos (by decide)]
    exact ⟨rfl, rfl⟩
  rw [if_neg (by simpa using h1)]
  refine ⟨fun s w' => w' = w ∧ s = decide (f = 2 ∨ f = 7 ∨ f = 8 ∨ f = 9 ∨ f = 10), ?_, ?_⟩
  · rintro s w' ⟨rfl, rfl⟩ _
    have hW : widthS f = if f = 2 ∨ f = 7 ∨ f = 8 ∨ f = 9 ∨ f = 10 then 16 else if f = 3 then 12 else if f = 4 ∨ f = 5 then 32 else if f = 6 then 8 else 0 := by
      unfold widthS
      rw [if_neg (by omega)]
    by_cases h16 : f = 2 ∨ f = 7 ∨ f = 8 ∨ f = 9 ∨ f = 10
    · rw [if_pos (by simpa using h16)]
      exact ⟨by rw [hW, if_pos h16]; rfl, rfl⟩
    rw [if_neg (by simpa using h16)]
    by_cases h3 : f = 3
    · rw [if_pos (by simpa using h3)]
      exact ⟨by rw [hW, if_neg h16, if_pos h3]; rfl, rfl⟩
    rw [if_neg (by simpa using h3)]
    by_cases h4 : f = 4
    · rw [if_pos (by simpa using h4), if_pos (by simpa using h4)]
      exact ⟨by rw [hW, if_neg h16, if_neg h3, if_pos (by omega)]; rfl, rfl⟩
    rw [if_neg (by simpa using h4)]
    by_cases h5 : f = 5
    · rw [if_pos (by simpa using h5)]
      exact ⟨by rw [hW, if_neg h16, if_neg h3, if_pos (by omega)]; rfl, rfl⟩
    rw [if_neg (by simpa using h5)]
    by_cases h6 : f = 6
    · rw [if_pos (by simpa using h6)]
      exact ⟨by rw [hW, if_neg h16, if_neg h3, if_neg (by omega), if_pos h6]; rfl, rfl⟩
    · rw [if_neg (by simpa using h6)]
      exact ⟨by rw [hW, if_neg h16, if_neg h3, if_neg (by omega), if_neg h6]; rfl, rfl⟩
  · by_cases h2 : f = 2
    · rw [if_pos (by simpa using h2)]
      exact ⟨_, ⟨rfl, trivial⟩, rfl, by simp [h2]⟩
    rw [if_neg (by simpa using h2)]
    by_cases h7 : f = 7
    · rw [if_pos (by simpa using h7)]
      exact ⟨_, ⟨rfl, trivial⟩, rfl, by simp [h7]⟩
    rw [if_neg (by simpa using h7)]
    by_cases h8 : f = 8
    · rw [if_pos (by simpa using h8)]
      exact ⟨_, ⟨rfl, trivial⟩, rfl, by simp [h8]⟩
    rw [if_neg (by simpa using h8)]
    by_cases h9 : f = 9
    · rw [if_pos (by simpa using h9)]
      exact ⟨_, ⟨rfl, trivial⟩, rfl, by simp [h9]⟩
    rw [if_neg (by simpa using h9)]
    exact ⟨_, ⟨rfl, trivial⟩, rfl, by by_cases h10 : f = 10 <;> simp [h2, h7, h8, h9, h10]⟩
theorem rFits_ok (w : World) (op f n : Int) (a : Option Addr) (m c : Nat) (hn : 0 ≤ n) : Calls Try.prog 41 #[.agg #[.int .i8 op, .int .i8 f, .int .u64 n, .slice a m c]] w (endW (fun v w' => v = .bool (fitsS f n) ∧ Chg NoS w w') (fun _ _ => False)) := by
  refine F41_calls op f n a m c ?_
  delta F41
  refine ⟨f, par_cell (Chg.refl _ _) 1, ?_⟩
  refine Calls.then (rWidth_ok _ f) ?_
  rintro v w1 ⟨rfl, rfl⟩
  refine ⟨_, rfl, ?_⟩
  have hw := widthS_le f
  have hc0 := chg_alloc w (.cells #[.int .i8 op, .int .i8 f, .int .u64 n, .slice a m c] 26) NoS
  by_cases h0 : 0 < widthS f
  · rw [if_pos (by simp; omega)]
    refine ⟨n, par_cell (Chg.refl _ _) 2, by omega, ?_, hc0⟩
    rw [Int.toNat_natCast, Nat.min_eq_left (by omega)]
    congr 1
    unfold fitsS
    by_cases hlt : n < 2 ^ widthS f
    · simp [(fdiv0 hn).2 hlt, hlt, h0]
    · have : ¬ Int.fdiv n (2 ^ widthS f) = 0 := fun e => hlt ((fdiv0 hn).1 e)
      simp [this, hlt]
  · rw [if_neg (by simp; omega)]
    refine ⟨?_, hc0⟩
    unfold fitsS
    simp [h0]

/-- what the document's 'right' is asked -/
def RRight (t : Tm) : Prop := ∀ (pred : Bool) (op f n : Int) (a : Option Addr) (m c : Nat) (w : World), TVal w t op f n a m c →
  Calls Try.prog 28 #[.agg #[.int .i8 op, .int .i8 f, .int .u64 n, .slice a m c], .bool pred] w (endW (fun v w' => v = .bool (rightS t pred) ∧ Chg NoS w w') (fun _ _ => False))
theorem allS_take {ks : List Tm} {j : Nat} (hj : j < ks.length) (p : Bool) : allS (ks.take (j + 1)) p = (allS (ks.take j) p && rightS ks[j] p) := by
  rw [List.take_add_one, List.getElem?_eq_getElem hj, allS_append]
  simp [allS]
theorem allS_false {ks : List Tm} {j : Nat} {p : Bool} (h : allS (ks.take j) p = false) : allS ks p = false := by
  have := allS_append (ks.take j) (ks.drop j) p
  rw [List.take_append_drop, h] at this
  simpa using this
theorem rAll_ok {ks : List Tm} (ih : ∀ k ∈ ks, RRight k) {w : World} {a : Option Addr} {m c : Nat} (hm : m = ks.length) (hml : m ≤ 9223372036854775807) (h : TmRow w ks a) (p : Bool) :
    Calls Try.prog 42 #[.slice a m c, .bool p] w (endW (fun v w' => v = .bool (allS ks p) ∧ Chg NoS w w') (fun _ _ => False)) := by
  refine F42_calls a m c p ?_
  delta F42
  refine ⟨fun s w1 => ∃ j : Nat, s = j ∧ j ≤ m ∧ allS (ks.take j) p = true ∧ Chg NoS w w1, fun s _ => (m - s).toNat, ⟨0, ⟨rfl, trivial⟩, 0, rfl, by omega, rfl, Chg.refl _ _⟩, ?_⟩
  rintro s w1 ⟨j, rfl, hjm, hs, hc1⟩ _
  by_cases hlt : (j : Int) < m
  · rw [if_pos (by simpa using hlt)]
    have hj : j < ks.length := by omega
    obtain ⟨A, rfl, hA⟩ := h j _ (List.getElem?_eq_getElem hj)
    obtain ⟨op', f', n', b, m', c', h0, h1, h2, h3, hv'⟩ := hA.keep hc1
    refine ⟨by omega, by omega, _, h0, _, h1, _, h2, _, _, _, h3, ?_⟩
    refine Calls.then (ih _ (List.getElem_mem hj) p _ _ _ _ _ _ _ hv') ?_
    rintro v w2 ⟨rfl, hc2⟩
    refine ⟨_, rfl, ?_⟩
    have ht := allS_take hj p
    by_cases hr : rightS ks[j] p = true
    · rw [if_neg (by simp [hr])]
      exact ⟨(j : Int) + 1, ⟨by rw [i64w _ (by omega) (by omega)], trivial⟩, ⟨j + 1, by omega, by omega, by rw [ht, hs, hr]; rfl, hc1.trans hc2⟩, by first | omega | (dsimp only; omega)⟩
    · rw [if_pos (by simp [hr])]
      refine ⟨?_, hc1.trans hc2⟩
      rw [allS_false (ks := ks) (j := j + 1) (by rw [ht, hs]; simpa using hr)]
  · rw [if_neg (by simpa using hlt)]
    rw [List.take_of_length_le (by omega)] at hs
    exact ⟨by rw [hs], hc1⟩

theorem rRight_ok : ∀ t, RRight t := by
  intro t
  generalize hs : tsize t = sz
  induction sz using Nat.strongRecOn generalizing t with
  | _ sz ih =>
    intro pred op f n a m c w hv
    subst hs
    obtain ⟨ks, rfl, hlen, hmc, hcm, hbd, hk⟩ := hv.parts
    have ihk : ∀ k ∈ ks, RRight k := fun k hk => ih (tsize k) (tsize_kid hk) k rfl
    refine F28_calls op f n a m c pred ?_
    delta F28
    have hc0 := chg_alloc w (.cells #[.int .i8 op, .int .i8 f, .int .u64 n, .slice a m c] 26) NoS
    refine ⟨fun s w1 => Chg NoS (w.alloc (.cells #[.int .i8 op, .int .i8 f, .int .u64 n, .slice a m c] 26)) w1 ∧ s = decide (f = 0 ∧ n = 0), ?_, ?_⟩
    rotate_left
    · refine ⟨f, par_cell (Chg.refl _ _) 1, ?_⟩
      by_cases hf : f = 0
      · rw [if_pos (by simpa using hf)]
        exact ⟨n, par_cell (Chg.refl _ _) 2, _, ⟨rfl, trivial⟩, Chg.refl _ _, by by_cases hn : n = 0 <;> simp [hf, hn]⟩
      · rw [if_neg (by simpa using hf)]
        exact ⟨_, ⟨rfl, trivial⟩, Chg.refl _ _, by simp [hf]⟩
    rintro s w1 ⟨hc1, rfl⟩ _
    refine ⟨a, m, c, par_cell hc1 3, op, par_cell hc1 0, ?_⟩
    refine ⟨fun s w2 => w2 = w1 ∧ s = decide (op = 0 ∨ op = 1), ?_, ?_⟩
    rotate_left
    · by_cases h0 : op = 0
      · rw [if_pos (by simpa using h0)]
        exact ⟨_, ⟨rfl, trivial⟩, rfl, by simp [h0]⟩
      · rw [if_neg (by simpa using h0)]
        exact ⟨_, ⟨rfl, trivial⟩, rfl, by by_cases h1 : op = 1 <;> simp [h0, h1]⟩
    rintro s w2 ⟨rfl, rfl⟩ _
    have hcw := hc0.trans hc1
    have hrow : TmRow w2 ks a := fun j k hj => by obtain ⟨A, h1, h2⟩ := hk j k hj; exact ⟨A, h1, h2.keep hcw⟩
    have leaf : ∀ b, b = rightS (.mk op f n ks) pred → (Value.bool b = .bool (rightS (.mk op f n ks) pred) ∧ Chg NoS w w2) := fun b h => ⟨by rw [h], hcw⟩
    have callA : ∀ p, allS ks p = rightS (.mk op f n ks) pred → Calls Try.prog 42 #[.slice a m c, .bool p] w2 (endW (fun v w' => ∃ b, v = Value.bool b ∧ (Value.bool b = .bool (rightS (.mk op f n ks) pred) ∧ Chg NoS w w')) (fun _ _ => False)) := fun p hp => by
      refine Calls.then (rAll_ok ihk hlen (by omega) hrow p) ?_
      rintro v w3 ⟨rfl, hc3⟩
      exact ⟨_, rfl, by rw [hp], hcw.trans hc3⟩
    have hm0 : ((m : Int) == 0) = decide (ks.length = 0) := by by_cases h : m = 0 <;> simp [← hlen, h]
    have hm1 : ((m : Int) == 1) = decide (ks.length = 1) := by by_cases h : m = 1 <;> simp [← hlen, h] <;> omega
    by_cases h01 : op = 0 ∨ op = 1
    · rw [if_pos (by simpa using h01)]
      by_cases hp : pred = true
      · rw [if_pos hp]
        by_cases hb : f = 0 ∧ n = 0
        · rw [if_pos (by simpa using hb)]
          exact leaf _ (by rw [hm0]; simp only [rightS]; rw [if_pos h01, hp, decide_eq_true hb]; simp)
        · rw [if_neg (by simpa using hb)]
          exact leaf _ (by simp only [rightS]; rw [if_pos h01, decide_eq_false hb]; simp)
      · rw [if_neg hp]
        exact leaf _ (by simp only [rightS]; rw [if_pos h01, eq_false_of_ne_true hp]; simp)
    rw [if_neg (by simpa using h01)]
    by_cases h2 : op = 2
    · rw [if_pos (by simpa using h2)]
      have hR : rightS (.mk op f n ks) pred = (pred && decide (ks.length = 0) && fitsS f n && decide (f ≠ 3)) := by simp only [rightS]; rw [if_neg h01, if_pos h2]
      by_cases hp : pred = true
      · rw [if_pos hp]
        by_cases hz : ks.length = 0
        · rw [if_pos (by rw [hm0]; simpa using hz)]
          refine ⟨op, par_cell hc1 0, f, par_cell hc1 1, n, par_cell hc1 2, a, m, c, par_cell hc1 3, ?_⟩
          refine Calls.then (rFits_ok w2 op f n a m c hbd.2.2.2.2.1) ?_
          rintro v w3 ⟨rfl, hc3⟩
          refine ⟨_, rfl, ?_⟩
          by_cases hfit : fitsS f n = true
          · rw [if_pos hfit]
            refine ⟨f, par_cell (hc1.trans hc3) 1, ?_, hcw.trans hc3⟩
            rw [hR, hp, hfit, decide_eq_true hz]
            by_cases h3 : f = 3 <;> simp [h3]
          · rw [if_neg hfit]
            refine ⟨?_, hcw.trans hc3⟩
            rw [hR, eq_false_of_ne_true hfit]
            simp
        · rw [if_neg (by rw [hm0]; simpa using hz)]
          exact leaf _ (by rw [hR, decide_eq_false hz]; simp)
      · rw [if_neg hp]
        exact leaf _ (by rw [hR, eq_false_of_ne_true hp]; simp)
    rw [if_neg (by simpa using h2)]
    by_cases h3 : op = 3
    · rw [if_pos (by simpa using h3)]
      have hR : rightS (.mk op f n ks) pred = (pred && decide (f = 0 ∧ n = 0) && decide (ks.length = 1) && allS ks true) := by simp only [rightS]; rw [if_neg h01, if_neg h2, if_pos h3]
      by_cases hp : pred = true
      · rw [if_pos hp]
        by_cases hb : f = 0 ∧ n = 0
        · rw [if_pos (by simpa using hb)]
          by_cases hz : ks.length = 1
          · rw [if_pos (by rw [hm1]; simpa using hz)]
            exact ⟨a, m, c, par_cell hc1 3, callA true (by rw [hR, hp, decide_eq_true hb, decide_eq_true hz]; simp)⟩
          · rw [if_neg (by rw [hm1]; simpa using hz)]
            exact leaf _ (by rw [hR, decide_eq_false hz]; simp)
        · rw [if_neg (by simpa using hb)]
          exact leaf _ (by rw [hR, decide_eq_false hb]; simp)
      · rw [if_neg hp]
        exact leaf _ (by rw [hR, eq_false_of_ne_true hp]; simp)
    rw [if_neg (by simpa using h3)]
    refine ⟨fun s w3 => w3 = w2 ∧ s = decide (op = 4 ∨ op = 5), ?_, ?_⟩
    rotate_left
    · by_cases h0 : op = 4
      · rw [if_pos (by simpa using h0)]
        exact ⟨_, ⟨rfl, trivial⟩, rfl, by simp [h0]⟩
      · rw [if_neg (by simpa using h0)]
        exact ⟨_, ⟨rfl, trivial⟩, rfl, by by_cases h1 : op = 5 <;> simp [h0, h1]⟩
    rintro s w3 ⟨rfl, rfl⟩ _
    by_cases h45 : op = 4 ∨ op = 5
    · rw [if_pos (by simpa using h45)]
      have hR : rightS (.mk op f n ks) pred = (pred && decide (f = 0 ∧ n = 0) && decide (0 < ks.length) && allS ks true) := by simp only [rightS]; rw [if_neg h01, if_neg h2, if_neg h3, if_pos h45]
      by_cases hp : pred = true
      · rw [if_pos hp]
        by_cases hb : f = 0 ∧ n = 0
        · rw [if_pos (by simpa using hb)]
          by_cases hz : 0 < ks.length
          · rw [if_pos (by simp; omega)]
            exact ⟨a, m, c, par_cell hc1 3, callA true (by rw [hR, hp, decide_eq_true hb, decide_eq_true hz]; simp)⟩
          · rw [if_neg (by simp; omega)]
            exact leaf _ (by rw [hR, decide_eq_false hz]; simp)
        · rw [if_neg (by simpa using hb)]
          exact leaf _ (by rw [hR, decide_eq_false hb]; simp)
      · rw [if_neg hp]
        exact leaf _ (by rw [hR, eq_false_of_ne_true hp]; simp)
    rw [if_neg (by simpa using h45)]
    by_cases h6 : op = 6
    · rw [if_pos (by simpa using h6)]
      have hR : rightS (.mk op f n ks) pred = (!pred && decide (f = 0 ∧ n = 0) && decide (ks.length = 1) && allS ks true) := by simp only [rightS]; rw [if_neg h01, if_neg h2, if_neg h3, if_neg h45, if_pos h6]
      by_cases hp : (!pred) = true
      · rw [if_pos hp]
        by_cases hb : f = 0 ∧ n = 0
        · rw [if_pos (by simpa using hb)]
          by_cases hz : ks.length = 1
          · rw [if_pos (by rw [hm1]; simpa using hz)]
            exact ⟨a, m, c, par_cell hc1 3, callA true (by rw [hR, hp, decide_eq_true hb, decide_eq_true hz]; simp)⟩
          · rw [if_neg (by rw [hm1]; simpa using hz)]
            exact leaf _ (by rw [hR, decide_eq_false hz]; simp)
        · rw [if_neg (by simpa using hb)]
          exact leaf _ (by rw [hR, decide_eq_false hb]; simp)
      · rw [if_neg hp]
        exact leaf _ (by rw [hR, eq_false_of_ne_true hp]; simp)
    rw [if_neg (by simpa using h6)]
    by_cases h7 : op = 7
    · rw [if_pos (by simpa using h7)]
      have hR : rightS (.mk op f n ks) pred = (!pred && decide (ks.length = 0) && mayS f n && fitsS f n) := by simp only [rightS]; rw [if_neg h01, if_neg h2, if_neg h3, if_neg h45, if_neg h6, if_pos h7]
      refine ⟨f, par_cell hc1 1, fun s w4 => w4 = w3 ∧ s = mayS f n, ?_, ?_⟩
      rotate_left
      · unfold mayS
        by_cases e0 : f = 0
        · rw [if_neg (by simp [e0])]; exact ⟨_, ⟨rfl, trivial⟩, rfl, by simp [e0]⟩
        rw [if_pos (by simpa using e0)]
        by_cases e1 : f = 1
        · rw [if_neg (by simp [e1])]; exact ⟨_, ⟨rfl, trivial⟩, rfl, by simp [e1]⟩
        rw [if_pos (by simpa using e1)]
        by_cases e4 : f = 4
        · rw [if_neg (by simp [e4])]; exact ⟨_, ⟨rfl, trivial⟩, rfl, by simp [e4]⟩
        rw [if_pos (by simpa using e4)]
        by_cases e5 : f = 5
        · rw [if_neg (by simp [e5])]; exact ⟨_, ⟨rfl, trivial⟩, rfl, by simp [e5]⟩
        rw [if_pos (by simpa using e5)]
        by_cases e7 : f = 7
        · rw [if_neg (by simp [e7])]; exact ⟨_, ⟨rfl, trivial⟩, rfl, by simp [e7]⟩
        rw [if_pos (by simpa using e7)]
        by_cases e8 : f = 8
        · rw [if_neg (by simp [e8])]; exact ⟨_, ⟨rfl, trivial⟩, rfl, by simp [e8]⟩
        rw [if_pos (by simpa using e8)]
        by_cases e9 : f = 9
        · rw [if_pos (by simp [e9])]
          exact ⟨n, par_cell hc1 2, _, ⟨rfl, trivial⟩, rfl, by by_cases hn : n = 0 <;> simp [e9, hn]⟩
        · rw [if_neg (by simpa using e9)]
          exact ⟨_, ⟨rfl, trivial⟩, rfl, by simp [e0, e1, e4, e5, e7, e8, e9]⟩
      rintro s w4 ⟨rfl, rfl⟩ _
      by_cases hp : (!pred) = true
      · rw [if_pos hp]
        by_cases hz : ks.length = 0
        · rw [if_pos (by rw [hm0]; simpa using hz)]
          by_cases hmy : mayS f n = true
          · rw [if_pos hmy]
            refine ⟨op, par_cell hc1 0, f, par_cell hc1 1, n, par_cell hc1 2, a, m, c, par_cell hc1 3, ?_⟩
            refine Calls.then (rFits_ok w4 op f n a m c hbd.2.2.2.2.1) ?_
            rintro v w5 ⟨rfl, hc5⟩
            refine ⟨_, rfl, ?_, hcw.trans hc5⟩
            rw [hR, hp, hmy, decide_eq_true hz]
            simp
          · rw [if_neg hmy]
            exact leaf _ (by rw [hR, eq_false_of_ne_true hmy]; simp)
        · rw [if_neg (by rw [hm0]; simpa using hz)]
          exact leaf _ (by rw [hR, decide_eq_false hz]; simp)
      · rw [if_neg hp]
        exact leaf _ (by rw [hR, eq_false_of_ne_true hp]; simp)
    rw [if_neg (by simpa using h7)]
    refine ⟨fun s w4 => w4 = w3 ∧ s = decide (op = 8 ∨ op = 9), ?_, ?_⟩
    rotate_left
    · by_cases h0 : op = 8
      · rw [if_pos (by simpa using h0)]
        exact ⟨_, ⟨rfl, trivial⟩, rfl, by simp [h0]⟩
      · rw [if_neg (by simpa using h0)]
        exact ⟨_, ⟨rfl, trivial⟩, rfl, by by_cases h1 : op = 9 <;> simp [h0, h1]⟩
    rintro s w4 ⟨rfl, rfl⟩ _
    by_cases h89 : op = 8 ∨ op = 9
    · rw [if_pos (by simpa using h89)]
      have hR : rightS (.mk op f n ks) pred = (!pred && decide (f = 0 ∧ n = 0) && decide (0 < ks.length) && allS ks false) := by simp only [rightS]; rw [if_neg h01, if_neg h2, if_neg h3, if_neg h45, if_neg h6, if_neg h7, if_pos h89]
      by_cases hp : (!pred) = true
      · rw [if_pos hp]
        by_cases hb : f = 0 ∧ n = 0
        · rw [if_pos (by simpa using hb)]
          by_cases hz : 0 < ks.length
          · rw [if_pos (by simp; omega)]
            exact ⟨a, m, c, par_cell hc1 3, callA false (by rw [hR, hp, decide_eq_true hb, decide_eq_true hz]; simp)⟩
          · rw [if_neg (by simp; omega)]
            exact leaf _ (by rw [hR, decide_eq_false hz]; simp)
        · rw [if_neg (by simpa using hb)]
          exact leaf _ (by rw [hR, decide_eq_false hb]; simp)
      · rw [if_neg hp]
        exact leaf _ (by rw [hR, eq_false_of_ne_true hp]; simp)
    rw [if_neg (by simpa using h89)]
    by_cases h10 : op = 10
    · rw [if_pos (by simpa using h10)]
      have hR : rightS (.mk op f n ks) pred = (!pred && decide (f = 0 ∧ n = 0) && decide (ks.length = 1) && allS ks false) := by simp only [rightS]; rw [if_neg h01, if_neg h2, if_neg h3, if_neg h45, if_neg h6, if_neg h7, if_neg h89, if_pos h10]
      by_cases hp : (!pred) = true
      · rw [if_pos hp]
        by_cases hb : f = 0 ∧ n = 0
        · rw [if_pos (by simpa using hb)]
          by_cases hz : ks.length = 1
          · rw [if_pos (by rw [hm1]; simpa using hz)]
            exact ⟨a, m, c, par_cell hc1 3, callA false (by rw [hR, hp, decide_eq_true hb, decide_eq_true hz]; simp)⟩
          · rw [if_neg (by rw [hm1]; simpa using hz)]
            exact leaf _ (by rw [hR, decide_eq_false hz]; simp)
        · rw [if_neg (by simpa using hb)]
          exact leaf _ (by rw [hR, decide_eq_false hb]; simp)
      · rw [if_neg hp]
        exact leaf _ (by rw [hR, eq_false_of_ne_true hp]; simp)
    rw [if_neg (by simpa using h10)]
    exact leaf _ (by simp only [rightS]; rw [if_neg h01, if_neg h2, if_neg h3, if_neg h45, if_neg h6, if_neg h7, if_neg h89, if_neg h10])
end Go.Proofs.Ytbpckcmejkcciaa.B
