/-
  Policies: plain forms, in plain Lean.
-/
import Derived.Test.YtpolbdakhfcilaaGreatDoorPolA
set_option linter.unusedVariables false
set_option linter.unusedSimpArgs false
namespace Go.Proofs.YtpolbdakhfcilaaGreatDoor.B
open Go Go.Proofs Go.Proofs.YtpolbdakhfcilaaGreatDoorEng

def opS : Tm → Int
  | .mk op _ _ _ => op
def kidsS : Tm → List Tm
  | .mk _ _ _ ks => ks
def bareS (op : Int) : Tm := .mk op 0 0 []

/-! ### what is right -/
/-! ### plain ones -/
/-! ### its size -/
end Go.Proofs.YtpolbdakhfcilaaGreatDoor.B
