/-
  parse: the table of names.
-/
import Derived.Test.YtgoanblnkdihfaaDoorPaI
set_option maxRecDepth 100000
set_option linter.unusedVariables false
set_option linter.unusedSimpArgs false
namespace Go.Proofs.YtgoanblnkdihfaaDoor.B
open Go Go.Proofs Go.Proofs.YtgoanblnkdihfaaDoorEng Go.RowKit

def nmAt (j : Nat) : List UInt8 := (keyL.getD (9 + j) ([], 0)).1
def nmRow : Array Value := #[.string (bs [115, 114, 99]), .string (bs [100, 115, 116]), .string (bs [107, 105, 110, 100]), .string (bs [118, 108, 97, 110]), .string (bs [102, 114, 111, 109]), .string (bs [116, 111]), .string (bs [112, 114, 111, 116, 111]), .string (bs [115, 112, 111, 114, 116]), .string (bs [100, 112, 111, 114, 116]), .string (bs [112, 111, 114, 116]), .string (bs [115, 119, 105, 116, 99, 104])]
theorem nmRow_at : ∀ j, j < 11 → nmRow[j]? = some (.string (bs (nmAt j)))
  | 0, _ => rfl
  | 1, _ => rfl
  | 2, _ => rfl
  | 3, _ => rfl
  | 4, _ => rfl
  | 5, _ => rfl
  | 6, _ => rfl
  | 7, _ => rfl
  | 8, _ => rfl
  | 9, _ => rfl
  | 10, _ => rfl
  | n + 11, h => by omega
theorem keyV_next : ∀ j, j < 11 → keyV.take (9 + (j + 1)) = keyV.take (9 + j) ++ [(nmAt j, .int .i8 (IntKind.wrap .i8 (j : Int)))]
  | 0, _ => rfl
  | 1, _ => rfl
  | 2, _ => rfl
  | 3, _ => rfl
  | 4, _ => rfl
  | 5, _ => rfl
  | 6, _ => rfl
  | 7, _ => rfl
  | 8, _ => rfl
  | 9, _ => rfl
  | 10, _ => rfl
  | n + 11, h => by omega
theorem nm_new : ∀ j, j < 11 → nmAt j ∉ (keyV.take (9 + j)).map Prod.fst := by
  intro j hj
  have h : ∀ i : Fin 11, nmAt i.1 ∉ ((keyL.map Prod.fst).take (9 + i.1)) := by decide
  have e : (keyV.take (9 + j)).map Prod.fst = (keyL.map Prod.fst).take (9 + j) := by
    rw [List.map_take]
    congr 1
  rw [e]
  exact h ⟨j, hj⟩
theorem keys_ok (w : World) : Calls Tryd.prog 10 #[] w (endW (fun v w' => ∃ m, v = .map (some m) ∧ w.heap.size ≤ m ∧ Mp w' m keyV ∧ Chg NoS w w') (fun _ _ => False)) := by
  refine F10_calls ?_
  delta F10
  refine mp_new fun w0 m0 c0 z0 => ?_
  refine ⟨_, rfl, ?_⟩
  refine mp_put (s := [99, 111, 117, 110, 116]) (v := .int .i8 (-1)) map58 m0 (by decide) fun w1 m1 c1 z1 => ?_
  refine mp_put (s := [102, 105, 108, 116, 101, 114]) (v := .int .i8 (-1)) map58 m1 (by decide) fun w2 m2 c2 z2 => ?_
  refine mp_put (s := [105, 100]) (v := .int .i8 (-1)) map58 m2 (by decide) fun w3 m3 c3 z3 => ?_
  refine mp_put (s := [100, 114, 111, 112]) (v := .int .i8 (-1)) map58 m3 (by decide) fun w4 m4 c4 z4 => ?_
  refine mp_put (s := [105, 102]) (v := .int .i8 (-1)) map58 m4 (by decide) fun w5 m5 c5 z5 => ?_
  refine mp_put (s := [116, 104, 101, 110]) (v := .int .i8 (-1)) map58 m5 (by decide) fun w6 m6 c6 z6 => ?_
  refine mp_put (s := [101, 108, 115, 101]) (v := .int .i8 (-1)) map58 m6 (by decide) fun w7 m7 c7 z7 => ?_
  refine mp_put (s := [116, 114, 117, 101]) (v := .int .i8 (-1)) map58 m7 (by decide) fun w8 m8 c8 z8 => ?_
  refine mp_put (s := [102, 97, 108, 115, 101]) (v := .int .i8 (-1)) map58 m8 (by decide) fun w9 m9 c9 z9 => ?_
  have hm : Mp w9 w.heap.size (keyV.take (9 + 0)) := m9
  have cB : Chg (OnlyB w.heap.size) w0 w9 := (((((((c1.trans c2).trans c3).trans c4).trans c5).trans c6).trans c7).trans c8).trans c9
  have hc : Chg NoS w w9 := c0.trans2 cB fun k hk e => by have : k = w.heap.size := e; omega
  have hz : w9.heap.size = w.heap.size + 1 := by rw [z9, z8, z7, z6, z5, z4, z3, z2, z1, z0]
  clear m0 m1 m2 m3 m4 m5 m6 m7 m8 m9 c0 c1 c2 c3 c4 c5 c6 c7 c8 c9 z0 z1 z2 z3 z4 z5 z6 z7 z8 z9 cB
  have ca := chg_alloc w9 (.cells nmRow 9) NoS
  have ba := blk_alloc w9 (.cells nmRow 9)
  refine ⟨fun s w' => ∃ j : Nat, s = (j : Int) ∧ j ≤ 11 ∧ Mp w' w.heap.size (keyV.take (9 + j)) ∧ w'.heap[w9.heap.size]? = some (.cells nmRow 9 (0, 0)) ∧ Chg NoS w w', fun s _ => (11 - s).toNat, ⟨0, ⟨rfl, trivial⟩, 0, rfl, by omega, ca.blk hm (fun x => x), ba, hc.trans ca⟩, ?_⟩
  rintro _ w1 ⟨j, rfl, hj, hm1, hb1, hc1⟩ _
  by_cases hlt : j < 11
  · rw [if_pos (by simp; omega)]
    refine ⟨by omega, by omega, _, by rw [Int.toNat_natCast, Nat.mul_one, addK_lit, Nat.zero_add, cell_blk hb1]; exact nmRow_at j hlt, ?_⟩
    refine mp_put (s := nmAt j) (v := .int .i8 (IntKind.wrap .i8 (j : Int))) map58 hm1 (nm_new j hlt) fun w2 m2 c2 z2 => ?_
    rw [← keyV_next j hlt] at m2
    refine ⟨((j + 1 : Nat) : Int), ⟨by rw [i64w _ (by omega) (by omega)]; rfl, trivial⟩, ⟨j + 1, rfl, by omega, m2, c2.blk hb1 (fun e => by have : w9.heap.size = w.heap.size := e; omega), hc1.trans2 c2 fun k hk e => by have : k = w.heap.size := e; omega⟩, by dsimp only; omega⟩
  · rw [if_neg (by simp; omega)]
    obtain rfl : j = 11 := by omega
    exact ⟨_, rfl, Nat.le_refl _, hm1, hc1⟩
end Go.Proofs.YtgoanblnkdihfaaDoor.B
