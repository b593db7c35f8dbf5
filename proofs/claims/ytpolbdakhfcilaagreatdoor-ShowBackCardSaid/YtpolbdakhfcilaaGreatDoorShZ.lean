/-
  show: ShowAgain walked.
-/
import Derived.Test.YtpolbdakhfcilaaGreatDoorShY
import Derived.Test.YtpolbdakhfcilaaGreatDoorShQ
import Derived.Test.YtpolbdakhfcilaaGreatDoorPaP
import Derived.Test.YtpolbdakhfcilaaGreatDoorBR
set_option maxRecDepth 100000
set_option linter.unusedVariables false
set_option linter.unusedSimpArgs false
namespace Go.Proofs.YtpolbdakhfcilaaGreatDoor.B
open Go Go.Proofs Go.Proofs.YtpolbdakhfcilaaGreatDoorEng Go.RowKit

theorem wake2 {w wx : World} (hL : Libs w) (hc : Chg NoS w wx) : Calls Tryz.prog 8 #[] wx (endW (fun v w' => ∃ b, v = .bool b ∧ (Value.bool b = .bool true ∧ Chg NoS w w')) (fun _ _ => False)) :=
  Calls.then (wakes_ok wx (hL.chg hc)) fun v w' h => ⟨true, h.1, rfl, hc.trans h.2⟩
abbrev vs5 (u : V4) (qa : Option Addr) (n k : Nat) : List Value := [.int .i8 u.op, .int .i8 u.f, .int .u64 u.n, .slice u.b u.m u.c, .slice qa n k]
abbrev zs5 : List Value := [.int .i8 0, .int .i8 0, .int .u64 0, .slice none 0 0, .slice none 0 0]
theorem bs_beq (x : List UInt8) : (ByteArray.toList (bs x) == ByteArray.toList (bs x)) = true := by simp
end Go.Proofs.YtpolbdakhfcilaaGreatDoor.B
