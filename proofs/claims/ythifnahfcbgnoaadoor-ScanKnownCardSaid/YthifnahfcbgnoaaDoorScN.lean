/-
  scan: the texts by hand.
-/
import Derived.Test.YthifnahfcbgnoaaDoorScM
set_option maxRecDepth 100000
set_option linter.unusedVariables false
set_option linter.unusedSimpArgs false
namespace Go.Proofs.YthifnahfcbgnoaaDoor.B
open Go Go.Proofs Go.Proofs.YthifnahfcbgnoaaDoorEng Go.RowKit
theorem wakeA : allR [116, 111, 32, 61, 32, 49, 48, 46, 48, 46, 48, 46, 49, 32, 35, 32, 120] = .inl [⟨1, [116, 111], 0, 0⟩, ⟨3, [61], 0, 3⟩, ⟨2, [49, 48, 46, 48, 46, 48, 46, 49], 167772161, 5⟩, ⟨0, [], 0, 17⟩] := by kernel_rfl
theorem wakeB : allR [97, 58, 98] = .inr (150, 1, [58]) := by kernel_rfl
theorem wakes_ok (w : World) (hL : Libs w) : Calls Tryd.prog 11 #[] w (endW (fun v w' => v = .bool true ∧ Chg NoS w w') (fun _ _ => False)) := by
  refine F11_calls ?_
  delta F11
  refine Calls.then (All_ok w [116, 111, 32, 61, 32, 49, 48, 46, 48, 46, 48, 46, 49, 32, 35, 32, 120] hL.1) ?_
  rw [wakeA]
  rintro v w1 ⟨hc1, a, n, c, rfl, ho, hn⟩
  refine ⟨_, rfl, _, _, rfl, _, _, _, rfl, _, _, rfl, rfl, ?_⟩
  refine Calls.then (All_ok w1 [97, 58, 98] (hL.1.chg hc1)) ?_
  rw [wakeB]
  rintro v w2 ⟨hc2, b, rfl, hb, hcell⟩
  have ho2 := own_of_chg ho hc2 fun _ _ x => x
  have hn4 : n = 4 := hn
  subst hn4
  have get : ∀ j u, (wcells [⟨1, [116, 111], 0, 0⟩, ⟨3, [61], 0, 3⟩, ⟨2, [49, 48, 46, 48, 46, 48, 46, 49], 167772161, 5⟩, ⟨0, [], 0, 17⟩])[j]? = some u → ∃ A, a = some A ∧ w2.cell? (addK A j) = some u := fun j u hu => own_cell ho2 hu
  obtain ⟨A, rfl, g1⟩ := get 1 _ rfl
  obtain ⟨A', e, g10⟩ := get 10 _ rfl
  cases e
  obtain ⟨A', e, g15⟩ := get 15 _ rfl
  cases e
  refine ⟨_, rfl, _, _, rfl, _, _, _, rfl, _, _, rfl, rfl, .inl rfl, ?_⟩
  rw [if_pos (by rfl), if_pos (by rfl)]
  refine ⟨by omega, by omega, _, by rw [addK_addK]; exact g1, ?_⟩
  rw [if_pos (by exact beq_iff_eq.2 rfl)]
  refine ⟨by omega, by omega, _, by rw [addK_addK]; exact g10, ?_⟩
  rw [if_pos (by rfl)]
  refine ⟨by omega, by omega, _, by rw [addK_addK]; exact g15, ?_⟩
  rw [if_pos (by rfl)]
  refine Calls.then (told_same b 150 1 [58] w2 hcell (by omega) (hL.chg (hc1.trans hc2))) ?_
  rintro v w3 ⟨rfl, hc3⟩
  exact ⟨_, rfl, rfl, (hc1.trans hc2).trans hc3⟩
theorem wake_end {w0 w : World} (hL : Libs w) (hc : Chg NoS w0 w) : Calls Tryd.prog 11 #[] w (endW (fun (v : Value) (w' : World) => ∃ b, v = .bool b ∧ (.bool b = Value.bool true ∧ Chg NoS w0 w')) (fun _ _ => False)) := by
  refine Calls.then (wakes_ok w hL) ?_
  rintro v w' ⟨rfl, hc2⟩
  exact ⟨_, rfl, rfl, hc.trans hc2⟩
end Go.Proofs.YthifnahfcbgnoaaDoor.B
