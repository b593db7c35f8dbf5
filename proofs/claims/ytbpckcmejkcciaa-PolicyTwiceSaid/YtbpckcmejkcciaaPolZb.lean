/-
  Policies: the laws PolicyParts and PolicyForbids.
-/
import Derived.Test.YtbpckcmejkcciaaPolZa
import Derived.Test.YtbpckcmejkcciaaEngO
set_option maxRecDepth 100000
set_option linter.unusedVariables false
set_option linter.unusedSimpArgs false
namespace Go.Proofs.Ytbpckcmejkcciaa.B
open Go Go.Proofs Go.Proofs.YtbpckcmejkcciaaEng

theorem cells3 : Try.prog.cellsOf 3 = 1 := by kernel_rfl
theorem ints_in {B : Nat} {w : World} {a : Option Addr} {n c : Nat} (h : Is B Try.prog w 12 43 [.slice a n c]) : ∃ zs : List Int, n = zs.length ∧ n ≤ c ∧ Reads w a (zs.map (.int .i64)) := by
  obtain ⟨a', n', c', e, h1, _, _, zs, hz, _, hr⟩ := Is.ints (k := .i64) (e := 3) Try.underlying43 Try.underlying3 cells3 h
  simp only [List.cons.injEq, Value.slice.injEq, and_true] at e
  obtain ⟨rfl, rfl, rfl⟩ := e
  exact ⟨zs, hz.symm, h1, hr⟩
theorem PolicyParts_walk (u0 : V4) (qa0 : Option Addr) (qn0 qc0 : Nat) (main0 : Tm) (qs0 : List Qu) (a1 : Option Addr) (len1 cap1 : Nat) (w : World) (i0 : PolIn w u0 qa0 qn0 qc0 main0 qs0) (i1 : Is maxLen Try.prog w 12 43 [.slice a1 len1 cap1]) :
    Calls Try.prog 7 #[.agg (parr u0 qa0 qn0 qc0), .slice a1 len1 cap1] w (endW (fun v w' => v = .bool true ∧ Chg NoS w w') (fun _ _ => False)) := by
  obtain ⟨zs, hzl, hzc, hzr⟩ := ints_in i1
  refine F7_calls u0.op u0.f u0.n u0.b u0.m u0.c qa0 qn0 qc0 a1 len1 cap1 ?_
  delta F7
  have hP := mine_alloc (Chg.refl NoS w) (parr u0 qa0 qn0 qc0) 29
  generalize w.alloc (.cells (parr u0 qa0 qn0 qc0) 29) = w1 at *
  refine get5p hP ?_
  refine Calls.then (Check_ok (i0.main.keep hP.2.1) (i0.row.keep hP.2.1) i0.len) ?_
  rintro r w2 ⟨rfl, hc2⟩
  have hP2 := hP.keep hc2
  refine ⟨_, rfl, ?_⟩
  by_cases he : checkS main0 qs0 = 0
  rotate_left
  · rw [if_neg (by simp [he])]
    refine Calls.then (Wakes_ok w2) ?_
    rintro r w7 ⟨rfl, hc7⟩
    exact ⟨_, rfl, rfl, hP2.2.1.trans hc7⟩
  rw [if_pos (by simp [he])]
  by_cases h2 : (len1 : Int) > 200
  · rw [if_pos (by simpa using h2)]
    refine Calls.then (Wakes_ok w2) ?_
    rintro r w7 ⟨rfl, hc7⟩
    exact ⟨_, rfl, rfl, hP2.2.1.trans hc7⟩
  rw [if_neg (by simpa using h2)]
  obtain ⟨k1, k2, k3, k4, k5⟩ := check_zero he
  refine ⟨_, (wp_cell hP2 0).trans rfl, _, (wp_cell hP2 1).trans rfl, _, (wp_cell hP2 2).trans rfl, _, _, _, (wp_cell hP2 3).trans rfl, ?_⟩
  have hw2 := hP2.2.1
  refine Calls.then (Replaced_ok (w0 := w) zs main0 u0 a1 len1 cap1 w2 hw2 hzr hzl hzc i0.main (by simp only [lsize] at k2; omega)) ?_
  rintro r w3 ⟨u, rfl, hc3, hst⟩
  refine agg4 ?_
  refine set4 u (mine_alloc (Chg.refl NoS w3) _ _) rfl ?_
  intro w4 hM4 _
  have hc4 := hM4.2.1
  have hP4 := (hP2.keep hc3).keep hc4
  refine get4 hM4 ⟨_, _, _, (mine_cell hP4 4).trans rfl, ?_⟩
  have hu : u.is w4 (repS zs main0) := hst NoS w4 hc4 fun b hb => hb.elim
  refine Calls.then (Check_ok hu (i0.row.keep hP4.2.1) i0.len) ?_
  rintro r w5 ⟨rfl, hc5⟩
  refine ⟨_, rfl, ?_⟩
  have hP5 := hP4.keep hc5
  rcases check_rep he zs with h | h
  · rw [if_neg (by simp [h])]
    refine Calls.then (Wakes_ok w5) ?_
    rintro r w7 ⟨rfl, hc7⟩
    exact ⟨_, rfl, rfl, hP5.2.1.trans hc7⟩
  · rw [if_pos (by simp [h]), if_pos (by simp [h])]
    refine Calls.then (Wakes_ok w5) ?_
    rintro r w7 ⟨rfl, hc7⟩
    exact ⟨_, rfl, rfl, hP5.2.1.trans hc7⟩
theorem i8_in {B : Nat} {w : World} {a : Int} (h : Is B Try.prog w 12 22 [.int .i8 a]) : -128 ≤ a ∧ a ≤ 127 := by
  obtain ⟨i, e, hi⟩ := Is.int (k := .i8) Try.underlying22 h
  simp only [List.cons.injEq, Value.int.injEq, and_true] at e
  obtain ⟨_, rfl⟩ := e
  exact wf_i8 hi
theorem u64_in {B : Nat} {w : World} {a : Int} (h : Is B Try.prog w 12 23 [.int .u64 a]) : 0 ≤ a ∧ a ≤ 18446744073709551615 := by
  obtain ⟨i, e, hi⟩ := Is.int (k := .u64) Try.underlying23 h
  simp only [List.cons.injEq, Value.int.injEq, and_true] at e
  obtain ⟨_, rfl⟩ := e
  exact wf_u64 hi
theorem may_cases (f n : Int) (K : Bool → Prop) (h : K (mayS f n)) :
    (if (f == 0) = false then if (f == 1) = false then if (f == 4) = false then if (f == 5) = false then if (f == 7) = false then if (f == 8) = false then if (f == 9) = true then K (n != 0) else K false else K true else K true else K true else K true else K true else K true) := by
  unfold mayS at h
  by_cases h0 : f = 0
  · subst h0; simpa using h
  by_cases h1 : f = 1
  · subst h1; simpa using h
  by_cases h4 : f = 4
  · subst h4; simpa using h
  by_cases h5 : f = 5
  · subst h5; simpa using h
  by_cases h7 : f = 7
  · subst h7; simpa using h
  by_cases h8 : f = 8
  · subst h8; simpa using h
  rw [if_pos (by simp [h0]), if_pos (by simp [h1]), if_pos (by simp [h4]), if_pos (by simp [h5]), if_pos (by simp [h7]), if_pos (by simp [h8])]
  by_cases h9 : f = 9
  · subst h9
    rw [if_pos (by simp)]
    by_cases hn : n = 0
    · subst hn; simpa using h
    · have e : decide ((9 : Int) = 0 ∨ (9 : Int) = 1 ∨ (9 : Int) = 4 ∨ (9 : Int) = 5 ∨ (9 : Int) = 7 ∨ (9 : Int) = 8 ∨ (9 : Int) = 9 ∧ n ≠ 0) = (n != 0) := by simp [hn]
      rw [e] at h
      exact h
  · rw [if_neg (by simp [h9])]
    have e : decide (f = 0 ∨ f = 1 ∨ f = 4 ∨ f = 5 ∨ f = 7 ∨ f = 8 ∨ f = 9 ∧ n ≠ 0) = false := by simp [h0, h1, h4, h5, h7, h8, h9]
    rw [e] at h
    exact h
theorem PolicyForbids_walk (u0 : V4) (qa0 : Option Addr) (qn0 qc0 : Nat) (main0 : Tm) (qs0 : List Qu) (a1 a2 : Int) (b3 : Bool) (w : World) (i0 : PolIn w u0 qa0 qn0 qc0 main0 qs0) (i1 : Is maxLen Try.prog w 12 22 [.int .i8 a1]) (i2 : Is maxLen Try.prog w 12 23 [.int .u64 a2]) (i3 : Is maxLen Try.prog w 12 4 [.bool b3]) :
    Calls Try.prog 8 #[.agg (parr u0 qa0 qn0 qc0), .int .i8 a1, .int .u64 a2, .bool b3] w (endW (fun v w' => v = .bool true ∧ Chg NoS w w') (fun _ _ => False)) := by
  have hf8 := i8_in i1
  have hn64 := u64_in i2
  refine F8_calls u0.op u0.f u0.n u0.b u0.m u0.c qa0 qn0 qc0 a1 a2 b3 ?_
  delta F8
  have hP := mine_alloc (Chg.refl NoS w) (parr u0 qa0 qn0 qc0) 29
  generalize w.alloc (.cells (parr u0 qa0 qn0 qc0) 29) = w1 at *
  refine get5p hP ?_
  refine Calls.then (Check_ok (i0.main.keep hP.2.1) (i0.row.keep hP.2.1) i0.len) ?_
  rintro r w2 ⟨rfl, hc2⟩
  have hP2 := hP.keep hc2
  refine ⟨_, rfl, ?_⟩
  by_cases he : checkS main0 qs0 = 0
  rotate_left
  · rw [if_pos (by simp [he])]
    refine Calls.then (Wakes_ok w2) ?_
    rintro r w7 ⟨rfl, hc7⟩
    exact ⟨_, rfl, rfl, hP2.2.1.trans hc7⟩
  rw [if_neg (by simp [he])]
  have hlt2 := lt_of_blk hP2.1
  refine set4 ⟨7, a1, a2, none, 0, 0⟩ (mine_alloc hP2.2.1 _ _) rfl ?_
  intro w4 hB4 hc4
  have hP4 : Mine w w4 w.heap.size (parr u0 qa0 qn0 qc0) 29 := ⟨hc4.blk ((chg_alloc w2 _ NoS).blk hP2.1 (fun x => x)) (fun e => by have : w.heap.size = w2.heap.size := e; omega), hB4.2.1, Nat.le_refl _⟩
  -- is it fine?
  refine ⟨fun s w5 => s = mayS a1 a2 ∧ w5 = w4, ?_, may_cases a1 a2 (fun b => ∃ s : Bool, (Value.bool s = .bool b ∧ True) ∧ s = mayS a1 a2 ∧ w4 = w4) ⟨_, ⟨rfl, trivial⟩, rfl, rfl⟩⟩
  rintro s w5 ⟨rfl, rfl⟩ _
  refine ⟨fun s w6 => s = fineS b3 a1 a2 ∧ Mine w w6 w2.heap.size (V4.arr ⟨if b3 = true then 2 else 7, a1, a2, none, 0, 0⟩) 26 ∧ Mine w w6 w.heap.size (parr u0 qa0 qn0 qc0) 29, ?_, ?_⟩
  rotate_left
  · by_cases h3 : b3 = true
    · rw [if_pos h3, addK_lit, Nat.zero_add]
      refine setW_blk hB4.1 (by simp) rfl fun w6 b6 c6 _ => ?_
      have hw6 : Chg NoS w w6 := hB4.2.1.trans2 c6 fun k hk e => by have : k = w2.heap.size := e; omega
      have hB6 : Mine w w6 w2.heap.size (V4.arr ⟨if b3 = true then 2 else 7, a1, a2, none, 0, 0⟩) 26 := ⟨by rw [if_pos h3]; exact b6, hw6, hB4.2.2⟩
      have hP6 : Mine w w6 w.heap.size (parr u0 qa0 qn0 qc0) 29 := ⟨c6.blk hP4.1 (fun e => by have : w.heap.size = w2.heap.size := e; omega), hw6, Nat.le_refl _⟩
      unfold fineS
      rw [if_pos h3]
      by_cases h0 : a1 ≥ 0
      · rw [if_pos (by simpa using h0)]
        by_cases h11 : a1 < 11
        · rw [if_pos (by simpa using h11)]
          refine ⟨a1 != 3, ⟨rfl, trivial⟩, ?_, hB6, hP6⟩
          by_cases h33 : a1 = 3
          · subst h33; rfl
          · rw [decide_eq_true (⟨h0, h11, h33⟩ : 0 ≤ a1 ∧ a1 < 11 ∧ a1 ≠ 3)]
            simpa using h33
        · rw [if_neg (by simpa using h11)]
          exact ⟨false, ⟨rfl, trivial⟩, by simp; omega, hB6, hP6⟩
      · rw [if_neg (by simpa using h0)]
        exact ⟨false, ⟨rfl, trivial⟩, by simp; omega, hB6, hP6⟩
    · rw [if_neg h3]
      exact ⟨_, ⟨rfl, trivial⟩, by unfold fineS; rw [if_neg h3], by rw [if_neg h3]; exact hB4, hP4⟩
  rintro s w6 ⟨rfl, hB6, hP6⟩ _
  refine ⟨fun s w7 => s = fitsS a1 a2 ∧ Chg NoS w6 w7, ?_, ?_⟩
  rotate_left
  · have hno : ¬ (0 ≤ a1 ∧ a1 < 11) → fitsS a1 a2 = false := fun h => by
      unfold fitsS widthS
      rw [if_neg (by omega), if_neg (by omega), if_neg (by omega), if_neg (by omega), if_neg (by omega)]
      simp
    by_cases h0 : a1 ≥ 0
    · rw [if_pos (by simpa using h0)]
      by_cases h11 : a1 < 11
      · rw [if_pos (by simpa using h11)]
        refine Calls.then (Width_ok w6 a1) ?_
        rintro r w7 ⟨rfl, hc7⟩
        refine ⟨_, rfl, by omega, _, ⟨rfl, trivial⟩, ?_, hc7⟩
        have hwp : 0 < widthS a1 := by
          unfold widthS
          rcases (show a1 = 0 ∨ a1 = 1 ∨ a1 = 2 ∨ a1 = 3 ∨ a1 = 4 ∨ a1 = 5 ∨ a1 = 6 ∨ a1 = 7 ∨ a1 = 8 ∨ a1 = 9 ∨ a1 = 10 by omega) with h | h | h | h | h | h | h | h | h | h | h <;> subst h <;> decide
        have hwl := widthS_le a1
        rw [Int.toNat_natCast, Nat.min_eq_left (by omega)]
        unfold fitsS
        have hfd := fdiv0 (n := a2) (k := widthS a1) hn64.1
        rw [decide_eq_true hwp, Bool.true_and]
        apply Bool.eq_iff_iff.2
        simp only [beq_iff_eq, decide_eq_true_eq]
        rw [hfd]
      · rw [if_neg (by simpa using h11)]
        exact ⟨false, ⟨rfl, trivial⟩, (hno (by omega)).symm, Chg.refl _ _⟩
    · rw [if_neg (by simpa using h0)]
      exact ⟨false, ⟨rfl, trivial⟩, (hno (by omega)).symm, Chg.refl _ _⟩
  rintro s w7 ⟨rfl, hc7⟩ _
  have hB7 := hB6.keep hc7
  have hP7 := hP6.keep hc7
  have hT7 := chg_alloc w7 (.cells #[.int .i8 0, .int .i8 0, .int .u64 0, .slice none 0 0] 26) NoS
  have hlt7 := lt_of_blk hB7.1
  have hlt7' := lt_of_blk hP7.1
  refine get4 hB7 ?_
  refine set4 ⟨if b3 = true then 2 else 7, a1, a2, none, 0, 0⟩ (mine_alloc hP7.2.1 _ _) rfl ?_
  intro w11 hT11 c11
  have hB11 : Mine w w11 w2.heap.size (V4.arr ⟨if b3 = true then 2 else 7, a1, a2, none, 0, 0⟩) 26 := ⟨c11.blk (hT7.blk hB7.1 (fun x => x)) (fun e => by have : w2.heap.size = w7.heap.size := e; omega), hT11.2.1, hB7.2.2⟩
  have hP11 : Mine w w11 w.heap.size (parr u0 qa0 qn0 qc0) 29 := ⟨c11.blk (hT7.blk hP7.1 (fun x => x)) (fun e => by have : w.heap.size = w7.heap.size := e; omega), hT11.2.1, Nat.le_refl _⟩
  have leaf : ∀ w', V4.own ⟨if b3 = true then 2 else 7, a1, a2, none, 0, 0⟩ w' (fun _ => False) (.mk (if b3 = true then 2 else 7) a1 a2 []) := fun w' => (own_leaf (S := fun _ => False) (v := ⟨if b3 = true then 2 else 7, a1, a2, none, 0, 0⟩) (by by_cases h : b3 = true <;> simp only [h, if_true, if_false] <;> refine ⟨by omega, by omega, by omega, by omega, by omega, by omega⟩) rfl (Nat.le_refl _) (by simp))
  -- the check of the whole
  have last : ∀ (w15 : World) (ub : V4), Mine w w15 w.heap.size (parr u0 qa0 qn0 qc0) 29 → ub.is w15 (badS b3 a1 a2) →
      ∃ x, w15.cell? (addK (addK ⟨w.heap.size, 0, none⟩ 0) 0) = some (.int .i8 x) ∧ ∃ x1, w15.cell? (addK (addK ⟨w.heap.size, 0, none⟩ 0) 1) = some (.int .i8 x1) ∧ ∃ x2, w15.cell? (addK (addK ⟨w.heap.size, 0, none⟩ 0) 2) = some (.int .u64 x2) ∧ ∃ a n c, w15.cell? (addK (addK ⟨w.heap.size, 0, none⟩ 0) 3) = some (.slice a n c) ∧
      ∃ a1' n1' c1', (w15.alloc (.cells #[.int .i8 x, .int .i8 x1, .int .u64 x2, .slice a n c, .int .i8 ub.op, .int .i8 ub.f, .int .u64 ub.n, .slice ub.b ub.m ub.c] 26)).cell? (addK ⟨w.heap.size, 0, none⟩ 4) = some (.slice a1' n1' c1') ∧
      Calls Try.prog 9 #[.agg #[.int .i8 8, .int .i8 0, .int .u64 0, .slice (some ⟨w15.heap.size, 0, none⟩) 2 2, .slice a1' n1' c1']] (w15.alloc (.cells #[.int .i8 x, .int .i8 x1, .int .u64 x2, .slice a n c, .int .i8 ub.op, .int .i8 ub.f, .int .u64 ub.n, .slice ub.b ub.m ub.c] 26)) (endW (fun r w' => r = .int .i64 (checkS (.mk 8 0 0 [main0, badS b3 a1 a2]) qs0) ∧ Chg NoS w w') (fun _ _ => False)) := by
    intro w15 ub hP15 hub
    refine ⟨_, (wp_cell hP15 0).trans rfl, _, (wp_cell hP15 1).trans rfl, _, (wp_cell hP15 2).trans rfl, _, _, _, (wp_cell hP15 3).trans rfl, ?_⟩
    have hb := blk_alloc w15 (.cells #[.int .i8 u0.op, .int .i8 u0.f, .int .u64 u0.n, .slice u0.b u0.m u0.c, .int .i8 ub.op, .int .i8 ub.f, .int .u64 ub.n, .slice ub.b ub.m ub.c] 26)
    have hc := chg_alloc w15 (.cells #[.int .i8 u0.op, .int .i8 u0.f, .int .u64 u0.n, .slice u0.b u0.m u0.c, .int .i8 ub.op, .int .i8 ub.f, .int .u64 ub.n, .slice ub.b ub.m ub.c] 26) NoS
    have hP16 := hP15.keep hc
    have z := size_alloc w15 (.cells #[.int .i8 u0.op, .int .i8 u0.f, .int .u64 u0.n, .slice u0.b u0.m u0.c, .int .i8 ub.op, .int .i8 ub.f, .int .u64 ub.n, .slice ub.b ub.m ub.c] 26)
    generalize w15.alloc (.cells #[.int .i8 u0.op, .int .i8 u0.f, .int .u64 u0.n, .slice u0.b u0.m u0.c, .int .i8 ub.op, .int .i8 ub.f, .int .u64 ub.n, .slice ub.b ub.m ub.c] 26) = w16 at *
    refine ⟨_, _, _, (mine_cell hP16 4).trans rfl, ?_⟩
    refine Calls.then (Check_ok (v := ⟨8, 0, 0, some ⟨w15.heap.size, 0, none⟩, 2, 2⟩) (main := .mk 8 0 0 [main0, badS b3 a1 a2]) (tval_mk (us := [u0, ub]) (by omega) rfl (by omega) (by omega) (.cons (i0.main.keep hP16.2.1) (.cons (hub.keep hc) .nil)) (reads_lit hb)) (i0.row.keep hP16.2.1) i0.len) ?_
    rintro r w17 ⟨rfl, hc17⟩
    exact ⟨rfl, hP16.2.1.trans hc17⟩
  have fin : ∀ (x : Int) (w' : World), x = checkS (.mk 8 0 0 [main0, badS b3 a1 a2]) qs0 → Chg NoS w w' →
      (if (x == 200) = true then Calls Try.prog 13 #[] w' (endW (fun v w' => ∃ b, v = .bool b ∧ (Value.bool b = .bool true ∧ Chg NoS w w')) (fun _ _ => False))
      else if fineS b3 a1 a2 = true then if ((x == 0) == fitsS a1 a2) = true then Calls Try.prog 13 #[] w' (endW (fun v w' => ∃ b, v = .bool b ∧ (Value.bool b = .bool true ∧ Chg NoS w w')) (fun _ _ => False)) else (Value.bool false = .bool true ∧ Chg NoS w w')
      else if ((x == 0) == false) = true then Calls Try.prog 13 #[] w' (endW (fun v w' => ∃ b, v = .bool b ∧ (Value.bool b = .bool true ∧ Chg NoS w w')) (fun _ _ => False)) else (Value.bool false = .bool true ∧ Chg NoS w w')) := by
    intro x w' hx hc
    have wk : Calls Try.prog 13 #[] w' (endW (fun v w' => ∃ b, v = .bool b ∧ (Value.bool b = .bool true ∧ Chg NoS w w')) (fun _ _ => False)) := by
      refine Calls.then (Wakes_ok w') ?_
      rintro r w7 ⟨rfl, hc7⟩
      exact ⟨_, rfl, rfl, hc.trans hc7⟩
    by_cases h200 : x = 200
    · rw [if_pos (by simp [h200])]; exact wk
    rw [if_neg (by simp [h200])]
    have hcb := check_bad he b3 a1 a2 (by rw [← hx]; exact h200)
    rw [← hx] at hcb
    by_cases hf : fineS b3 a1 a2 = true
    · rw [if_pos hf]
      rw [if_pos]
      · exact wk
      · rw [hf, Bool.true_and] at hcb
        by_cases h0 : x = 0
        · simp [h0, hcb.1 h0]
        · have : fitsS a1 a2 = false := by
            cases hh : fitsS a1 a2 with
            | false => rfl
            | true => exact absurd (hcb.2 hh) h0
          simp [h0, this]
    · rw [if_neg hf]
      have hff : fineS b3 a1 a2 = false := by simpa using hf
      rw [hff, Bool.false_and] at hcb
      have h0 : x ≠ 0 := fun h => by have := hcb.1 h; cases this
      rw [if_pos (by simp [h0])]
      exact wk
  by_cases h3 : b3 = true
  · rw [if_pos h3]
    refine get4 hB11 ?_
    have hl := leaf w11
    refine Calls.then (LFilter_own (v := ⟨if b3 = true then 2 else 7, a1, a2, none, 0, 0⟩) hl) ?_
    rintro r w12 ⟨ub, rfl, hub, hc12⟩
    refine agg4 ?_
    have hP12 := hP11.keep hc12
    have hT12 := hT11.keep hc12
    refine set4 ub hT12 rfl ?_
    intro w15 hM15 hc15
    have z12 := hc12.size
    have hlt11 := lt_of_blk hT11.1
    have hP15 : Mine w w15 w.heap.size (parr u0 qa0 qn0 qc0) 29 := ⟨hc15.blk hP12.1 (fun e => by have : w.heap.size = w7.heap.size := e; omega), hM15.2.1, Nat.le_refl _⟩
    have hub15 : ub.is w15 (badS b3 a1 a2) := by
      have := (hub.keep hc15 (fun b hb e => by have : b = w7.heap.size := e; omega) (T := fun _ => True) fun _ _ => trivial).is
      unfold badS
      rw [if_pos h3]
      rw [if_pos h3] at this
      exact this
    obtain ⟨x, e0, x1, e1, x2, e2, a, n, c, e3, a', n', c', e4, hcall⟩ := last w15 ub hP15 hub15
    refine ⟨x, e0, x1, e1, x2, e2, a, n, c, e3, ?_⟩
    refine get4 hM15 ?_
    refine ⟨a', n', c', e4, ?_⟩
    refine Calls.then hcall ?_
    rintro r w17 ⟨rfl, hc17⟩
    exact ⟨_, rfl, fin _ w17 rfl hc17⟩
  · rw [if_neg h3]
    obtain ⟨x, e0, x1, e1, x2, e2, a, n, c, e3, a', n', c', e4, hcall⟩ := last w11 ⟨if b3 = true then 2 else 7, a1, a2, none, 0, 0⟩ hP11 (by have := (leaf w11).is; unfold badS; rw [if_neg h3]; rw [if_neg h3] at this; simp only [h3, if_false] at this ⊢; exact this)
    refine ⟨x, e0, x1, e1, x2, e2, a, n, c, e3, ?_⟩
    refine get4 hT11 ?_
    refine ⟨a', n', c', e4, ?_⟩
    refine Calls.then hcall ?_
    rintro r w17 ⟨rfl, hc17⟩
    exact ⟨_, rfl, fin _ w17 rfl hc17⟩
end Go.Proofs.Ytbpckcmejkcciaa.B
