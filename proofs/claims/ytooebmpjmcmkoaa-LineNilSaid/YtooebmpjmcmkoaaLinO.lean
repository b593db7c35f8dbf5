/-
  LineNil: no end answers no end's answers.
-/
import Derived.Test.YtooebmpjmcmkoaaLinN
import Derived.Test.YtooebmpjmcmkoaaBB
set_option maxRecDepth 100000
set_option linter.unusedVariables false
set_option linter.unusedSimpArgs false
namespace Go.Proofs.Ytooebmpjmcmkoaa.B
open Go Go.Proofs Go.Proofs.YtooebmpjmcmkoaaEng
theorem LineNil_walk (a0 : Option Addr) (len0 cap0 : Nat) (w : World) (i0 : Is maxLen Try.prog w 12 31 [.slice a0 len0 cap0]) :
    Calls Try.prog 4 #[.slice a0 len0 cap0] w (endW (fun v w' => v = .bool true ∧ Chg NoS w w') (fun _ _ => False)) := by
  refine F4_calls _ _ _ ?_
  delta F4
  refine Calls.then (Reset_nil w 3) ?_
  rintro v w1 ⟨rfl, rfl⟩
  refine Calls.then (Send_nil _ _ _ _) ?_
  rintro v w2 ⟨rfl, rfl⟩
  refine ⟨_, rfl, ?_⟩
  rw [if_pos (by simp)]
  refine Calls.then (Take_nil _ _ _ _) ?_
  rintro v w3 ⟨rfl, rfl⟩
  refine ⟨_, rfl, ?_⟩
  rw [if_pos (by simp)]
  refine Calls.then (Tick_nil _) ?_
  rintro v w4 ⟨rfl, rfl⟩
  refine ⟨_, _, _, rfl, ?_⟩
  rw [if_pos (by simp)]
  refine Calls.then (Came_nil _) ?_
  rintro v w5 ⟨rfl, rfl⟩
  refine ⟨_, _, _, rfl, ?_⟩
  rw [if_pos (by simp)]
  refine Calls.then (Left_nil _) ?_
  rintro v w6 ⟨rfl, rfl⟩
  refine ⟨_, rfl, ?_⟩
  rw [if_pos (by simp)]
  refine Calls.then (wakes_ok _) ?_
  rintro v w7 ⟨rfl, hc⟩
  exact ⟨_, rfl, rfl, hc⟩
end Go.Proofs.Ytooebmpjmcmkoaa.B
