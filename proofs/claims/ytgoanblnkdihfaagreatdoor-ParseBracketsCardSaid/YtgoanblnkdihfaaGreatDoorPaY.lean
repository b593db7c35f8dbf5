/-
  parse: ParseBrackets, as the frame takes it.
-/
import Derived.Test.YtgoanblnkdihfaaGreatDoorPaX
import Derived.Test.YtgoanblnkdihfaaGreatDoorScP
import Derived.Test.YtgoanblnkdihfaaGreatDoorEngO
set_option maxRecDepth 100000
set_option linter.unusedVariables false
namespace Go.Proofs.YtgoanblnkdihfaaGreatDoor.B
open Go Go.Proofs Go.Proofs.YtgoanblnkdihfaaGreatDoorEng Go.RowKit
theorem ParseBrackets_walk {T0 T1 : TypeId} (s0 s1 : ByteArray) (w : World) (i0 : Is maxLen Tryz.prog w 12 T0 [.string s0]) (i1 : Is maxLen Tryz.prog w 12 T1 [.string s1]) (hL : Libs w) : Calls Tryz.prog 4 #[.string s0, .string s1] w (endW (fun v w' => v = .bool true ∧ Chg NoS w w') (fun _ _ => False)) := ParseBrackets_w s0 s1 w hL
end Go.Proofs.YtgoanblnkdihfaaGreatDoor.B
