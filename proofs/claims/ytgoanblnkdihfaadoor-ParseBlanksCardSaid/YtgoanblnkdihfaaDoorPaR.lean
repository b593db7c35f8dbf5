/-
  parse: the texts by hand.
-/
import Derived.Test.YtgoanblnkdihfaaDoorPaQ
set_option maxRecDepth 100000
set_option linter.unusedVariables false
set_option linter.unusedSimpArgs false
namespace Go.Proofs.YtgoanblnkdihfaaDoor.B
open Go Go.Proofs Go.Proofs.YtgoanblnkdihfaaDoorEng Go.RowKit

def wt1 : List UInt8 := [102, 105, 108, 116, 101, 114, 32, 116, 111, 61, 49, 48, 46, 48, 46, 48, 46, 49, 32, 59, 32, 112, 111, 114, 116, 58, 61, 50]
def wt2 : List UInt8 := [102, 105, 108, 116, 101, 114]
def wt3 : List UInt8 := [105, 102, 32, 112, 114, 111, 116, 111, 61, 54, 32, 116, 104, 101, 110, 32, 112, 111, 114, 116, 58, 61, 49, 32, 101, 108, 115, 101, 32, 100, 114, 111, 112, 32, 99, 111, 117, 110, 116, 32, 119, 101, 98, 32, 61, 32, 100, 112, 111, 114, 116, 61, 56, 48, 32, 38, 32, 112, 114, 111, 116, 111, 61, 54]
def wm1 : Tm := .mk 9 0 0 [.mk 6 0 0 [.mk 2 5 167772161 []], .mk 7 9 2 []]
def wm3 : Tm := .mk 8 0 0 [.mk 9 0 0 [.mk 6 0 0 [.mk 2 6 6 []], .mk 7 9 1 []], .mk 9 0 0 [.mk 6 0 0 [.mk 3 0 0 [.mk 2 6 6 []]], .mk 6 0 0 [.mk 0 0 0 []]]]
def wq3 : List UInt8 × Tm := ([119, 101, 98], .mk 4 0 0 [.mk 2 8 80 [], .mk 2 6 6 []])
def ww1 : List Wd := [⟨1, [102, 105, 108, 116, 101, 114], 0, 0⟩, ⟨1, [116, 111], 0, 7⟩, ⟨3, [61], 0, 9⟩, ⟨2, [49, 48, 46, 48, 46, 48, 46, 49], 167772161, 10⟩, ⟨3, [59], 0, 19⟩, ⟨1, [112, 111, 114, 116], 0, 21⟩, ⟨3, [58, 61], 0, 25⟩, ⟨2, [50], 2, 27⟩, ⟨0, [], 0, 28⟩]
def ww2 : List Wd := [⟨1, [102, 105, 108, 116, 101, 114], 0, 0⟩, ⟨0, [], 0, 6⟩]
def ww3 : List Wd := [⟨1, [105, 102], 0, 0⟩, ⟨1, [112, 114, 111, 116, 111], 0, 3⟩, ⟨3, [61], 0, 8⟩, ⟨2, [54], 6, 9⟩, ⟨1, [116, 104, 101, 110], 0, 11⟩, ⟨1, [112, 111, 114, 116], 0, 16⟩, ⟨3, [58, 61], 0, 20⟩, ⟨2, [49], 1, 22⟩, ⟨1, [101, 108, 115, 101], 0, 24⟩, ⟨1, [100, 114, 111, 112], 0, 29⟩, ⟨1, [99, 111, 117, 110, 116], 0, 34⟩, ⟨1, [119, 101, 98], 0, 40⟩, ⟨3, [61], 0, 44⟩, ⟨1, [100, 112, 111, 114, 116], 0, 46⟩, ⟨3, [61], 0, 51⟩, ⟨2, [56, 48], 80, 52⟩, ⟨3, [38], 0, 55⟩, ⟨1, [112, 114, 111, 116, 111], 0, 57⟩, ⟨3, [61], 0, 62⟩, ⟨2, [54], 6, 63⟩, ⟨0, [], 0, 64⟩]
theorem wa1 : allR wt1 = .inl ww1 := by kernel_rfl
theorem wa2 : allR wt2 = .inl ww2 := by kernel_rfl
theorem wa3 : allR wt3 = .inl ww3 := by kernel_rfl
theorem wo1 : PolP wt1 (.ok wm1 []) := by
  unfold PolP
  rw [wa1]
  exact .inr ⟨wm1, 8, [], 8, true, ⟨0, [], 0, 28⟩, ⟨by simp, 60, by kernel_rfl⟩, .stop (by kernel_rfl), by kernel_rfl, by kernel_rfl⟩
theorem wo2 : PolP wt2 (.fault 160 6 []) := by
  unfold PolP
  rw [wa2]
  exact .inl ⟨1, ⟨0, [], 0, 6⟩, ⟨by simp, 60, by kernel_rfl⟩, by kernel_rfl, rfl⟩
theorem wo3 : PolP wt3 (.ok wm3 [wq3]) := by
  unfold PolP
  rw [wa3]
  refine .inr ⟨wm3, 10, [wq3], 20, true, ⟨0, [], 0, 64⟩, ⟨by simp, 60, by kernel_rfl⟩, ?_, by kernel_rfl, by kernel_rfl⟩
  refine .go (x := ⟨1, [119, 101, 98], 0, 40⟩) (t := wq3.2) (j := 20) (by kernel_rfl) (by kernel_rfl) ?_ (.stop (by kernel_rfl))
  unfold Qa
  rw [show ww3[10 + 1]? = some ⟨1, [119, 101, 98], 0, 40⟩ by kernel_rfl]
  dsimp only
  rw [if_pos (by kernel_rfl), if_pos (by kernel_rfl)]
  exact ⟨by simp, 60, by kernel_rfl⟩
theorem wakes_ok (w : World) (hL : Libs w) : Calls Tryd.prog 4 #[] w (endW (fun v w' => v = .bool true ∧ Chg NoS w w') (fun _ _ => False)) := by
  refine F4_calls ?_
  delta F4
  refine Calls.then (Policy_is (t := wt1) hL.1 wo1) ?_
  rintro v w1 ⟨c1, u1, qa1, qc1, rfl, hu1, hq1, _⟩
  refine ⟨_, rfl, _, _, rfl, _, rfl, _, _, rfl, _, rfl, _, _, rfl, _, rfl, _, _, rfl, _, rfl, _, _, rfl, _, _, _, rfl, _, _, rfl, _, _, _, rfl, rfl, _, _, rfl, rfl, ?_⟩
  refine (put4 (w := w1) (vs := [.int .i8 u1.op, .int .i8 u1.f, .int .u64 u1.n, .slice u1.b u1.m u1.c, .slice qa1 0 qc1]) (cs := [.int .i8 0, .int .i8 0, .int .u64 0, .slice none 0 0, .slice none 0 0]) (blk_alloc w1 _) (chg_alloc w1 _ _) (Nat.le_refl _) rfl (by simp [oneC]) fun w2 b2 c2 _ z2 => ?_ : setsW _ _ _ _ _)
  have c02 := c1.trans c2
  refine Calls.then (Policy_is (t := wt2) (hL.chg c02).1 wo2) ?_
  rintro v w3 ⟨c3, p, rfl, hp0, hp⟩
  refine ⟨_, rfl, _, _, rfl, _, rfl, _, _, rfl, _, rfl, _, _, rfl, _, rfl, _, _, rfl, _, rfl, _, _, rfl, _, _, _, rfl, _, _, rfl, _, _, _, rfl, rfl, _, _, rfl, rfl, ?_⟩
  refine (put4 (w := w3) (vs := [.int .i8 0, .int .i8 0, .int .u64 0, .slice none 0 0, .slice none 0 0]) (cs := [.int .i8 0, .int .i8 0, .int .u64 0, .slice none 0 0, .slice none 0 0]) (blk_alloc w3 _) (chg_alloc w3 _ _) (Nat.le_refl _) rfl (by simp [oneC]) fun w4 b4 c4 _ z4 => ?_ : setsW _ _ _ _ _)
  have c04 := (c02.trans c3).trans c4
  refine Calls.then (Fault_ok (c4.blk hp fun x => x) (by omega) (hL.chg c04)) ?_
  rintro v w5 ⟨rfl, c5⟩
  refine ⟨_, rfl, _, _, rfl, _, rfl, _, _, rfl, _, rfl, _, _, rfl, _, rfl, _, _, rfl, _, rfl, rfl, _, _, rfl, _, rfl, rfl, ?_⟩
  refine (put4 (w := w5) (vs := [.int .i64 160, .int .i64 6, .string (bs [])]) (cs := [.int .i64 0, .int .i64 0, .string { data := #[] }]) (blk_alloc w5 _) (chg_alloc w5 _ _) (Nat.le_refl _) rfl (by simp [oneC]) fun w6 b6 c6 _ z6 => ?_ : setsW _ _ _ _ _)
  have c06 := (c04.trans c5).trans c6
  refine Calls.then (Policy_is (t := wt3) (hL.chg c06).1 wo3) ?_
  rintro v w7 ⟨c7, u3, qa3, qc3, rfl, hu3, hq3, _⟩
  refine ⟨_, rfl, _, _, rfl, _, rfl, _, _, rfl, _, rfl, _, _, rfl, _, rfl, _, _, rfl, _, rfl, _, _, rfl, _, _, _, rfl, _, _, rfl, _, _, _, rfl, rfl, _, _, rfl, rfl, ?_⟩
  refine (put4 (w := w7) (vs := [.int .i8 u3.op, .int .i8 u3.f, .int .u64 u3.n, .slice u3.b u3.m u3.c, .slice qa3 1 qc3]) (cs := [.int .i8 0, .int .i8 0, .int .u64 0, .slice none 0 0, .slice none 0 0]) (blk_alloc w7 _) (chg_alloc w7 _ _) (Nat.le_refl _) rfl (by simp [oneC]) fun w8 b8 c8 _ z8 => ?_ : setsW _ _ _ _ _)
  have c28 := ((((c3.trans c4).trans c5).trans c6).trans c7).trans c8
  have c08 := c02.trans c28
  have d2 := c28.blk b2 fun x => x
  have d6 := (c7.trans c8).blk b6 fun x => x
  have hu8 := hu1.keep (c2.trans c28)
  unfold V4.is wm1 at hu8
  simp only [TVal, KsAt, List.length_cons, List.length_nil] at hu8
  obtain ⟨e1, e2, e3, e4, _, _, _, ⟨A0, _⟩, ⟨A, o, f, n, b, m, c, hA, k0, k1, k2, k3, q1, q2, q3, _⟩, _⟩ := hu8
  have hu3' := hu3
  unfold V4.is wm3 at hu3'
  simp only [TVal, List.length_cons, List.length_nil] at hu3'
  have f1 := hu3'.1
  obtain ⟨A3, hA3, s3, _⟩ := (hq3.keep c8) 0 (bs wq3.1, wq3.2) rfl
  have g1 : ∀ {wx : World}, Chg NoS w8 wx → ∀ k v, [.int .i8 u1.op, .int .i8 u1.f, .int .u64 u1.n, .slice u1.b u1.m u1.c, .slice qa1 0 qc1][k]? = some v → wx.cell? (addK ⟨w1.heap.size, 0, none⟩ k) = some v := fun h k v hv => get_blk (h.blk d2 fun x => x) k v hv
  have g3 : ∀ {wx : World}, Chg NoS w8 wx → ∀ k v, [.int .i8 u3.op, .int .i8 u3.f, .int .u64 u3.n, .slice u3.b u3.m u3.c, .slice qa3 1 qc3][k]? = some v → wx.cell? (addK ⟨w7.heap.size, 0, none⟩ k) = some v := fun h k v hv => get_blk (h.blk b8 fun x => x) k v hv
  have r8 := Chg.refl NoS w8
  refine ⟨fun _ w' => w' = w8, ?_, .inl rfl, ?_⟩
  · rintro _ wx rfl _
    refine ⟨_, _, _, by rw [addK_zero]; exact g1 r8 3 _ rfl, by omega, by rw [e4]; decide, ?_⟩
    rw [hA]
    refine some_w ⟨_, k0, _, k1, _, k2, _, _, _, k3, ?_⟩
    refine (put4 (w := wx) (vs := [.int .i8 o, .int .i8 f, .int .u64 n, .slice b m c]) (cs := [.int .i8 0, .int .i8 0, .int .u64 0, .slice none 0 0]) (blk_alloc wx _) (chg_alloc wx _ _) (Nat.le_refl _) rfl (by simp [oneC]) fun w9 b9 c9 _ z9 => ?_ : setsW _ _ _ _ _)
    have d69 := c9.blk d6 fun x => x
    refine ⟨_, get_blk b9 0 _ rfl, ?_⟩
    rw [if_pos (by simp [q1])]
    refine ⟨_, get_blk b9 1 _ rfl, ?_⟩
    rw [if_pos (by simp [q2])]
    refine ⟨_, get_blk b9 2 _ rfl, ?_⟩
    rw [if_pos (by simp [q3]), if_pos rfl]
    refine ⟨_, get_blk d69 0 _ rfl, ?_⟩
    rw [if_pos (by rfl)]
    refine ⟨_, get_blk d69 1 _ rfl, ?_⟩
    rw [if_pos (by rfl)]
    refine ⟨_, get_blk d69 2 _ rfl, ?_⟩
    exact ⟨by rw [show (bs [] : ByteArray) = { data := #[] } from rfl]; simp, c08.trans c9⟩
  · rw [if_pos (by rfl)]
    refine ⟨_, by rw [addK_zero]; exact g1 r8 0 _ rfl, ?_⟩
    rw [if_pos (by simp [e1])]
    refine ⟨_, _, _, by rw [addK_zero]; exact g1 r8 3 _ rfl, ?_⟩
    rw [if_pos (by simp [e4])]
    refine ⟨.inl rfl, ?_⟩
    rw [if_pos (by rfl)]
    refine ⟨_, _, _, g3 r8 4 _ rfl, ?_⟩
    rw [if_pos (by rfl)]
    refine ⟨_, _, _, g3 r8 4 _ rfl, by omega, by decide, ?_⟩
    rw [hA3]
    refine some_w ⟨_, s3, ?_⟩
    rw [if_pos (by show (!(ByteArray.toList (bs [119, 101, 98]) == ByteArray.toList (bs [119, 101, 98]))) = false; rw [bs_beq]; rfl)]
    refine ⟨_, by rw [addK_zero]; exact g3 r8 0 _ rfl, ?_⟩
    rw [if_neg (by simp [f1])]
    exact ⟨(), trivial, rfl⟩
end Go.Proofs.YtgoanblnkdihfaaDoor.B
