/-
  No cell of these rows narrows 'for every input' (looked for: loops, veiled, ifaces, maps, wideKeys, modest, calm, conditions, laid).
  DERIVED. THE GIVEN ROWS OF THIS SEAT. 5 by the template 'for every input the law returns true; each argument reads behind the call as it read before'; 0 by the template 'total and deterministic' (their statements: YtcfagkmkfjhhiaaTotals.lean).
  GIVEN WITH THE SEED: the statements are not yours to turn. If you find one false, say at which input.
  Laid BY PROGRAM, IN A SANDBOX (cutbox-rows.mjs): the forced cells as the released guide's own fill.sh prints them over the translation 07137ebb082e7ab5… (all of the seat's roots in one cut). By AI agents, Wed Nov 11 2026. No macro, syntax, notation, axiom, sorry.
-/
import Derived.Test.YtcfagkmkfjhhiaaChecked
import GoSem.Claim
import GoSem.ClaimJoined
import GoSem.ClaimMapViews
import Derived.JoinedTies
import Derived.KernelRfl
namespace Go.Proofs.Ytcfagkmkfjhhiaa
/- THE CELL 'sum', in the pinned program and in every row, IS THE sha256 OF THE DUMP (.gsa) THAT YtcfagkmkfjhhiaaProg.lean LOADS. Nothing in Lean hashes anything: it is a label: what it is worth is what the hold of that sum in a sandbox is worth. -/
noncomputable def Try.pinned : Pinned := { name := "ytcfagkmkfjhhiaa", sum := "07137ebb082e7ab5011524838d1a46b6b3f39c2cac8befbe9567b61ac0343fae", checked := Try.checked }
namespace Rows
def none {H : Type} : Left H := { results := [], args := [] }

/-- 'tollbridgelaw08.AirPlays': WHATEVER THE INPUT: true; the input reads as it did. -/
def airPlaysSpec : ChangeSpec := { name := "airPlays", fn := fun _ => fun
  | [d] => { results := [.lit (.bool true)], args := [d] }
  | _ => none }
def airPlaysRow : OpenClaim := { program := "ytcfagkmkfjhhiaa", sum := "07137ebb082e7ab5011524838d1a46b6b3f39c2cac8befbe9567b61ac0343fae", func := "tollbridge/tollbridgelaw08.AirPlays", spec := "airPlays", apart := false }
def AirPlaysSaid : Prop := airPlaysRow.holds Try.pinned (OpenSpec.ofChange airPlaysSpec)

/-- ITS FALSE NEIGHBOUR: 'it returns false'. Refute it at one input. -/
def airPlaysWrong : ChangeSpec := { name := "airPlays", fn := fun _ => fun
  | [d] => { results := [.lit (.bool false)], args := [d] }
  | _ => none }
def AirPlaysWrongFalsely : Prop := airPlaysRow.holds Try.pinned (OpenSpec.ofChange airPlaysWrong)

/-- 'tollbridgelaw08.AirNil': WHATEVER THE INPUT: true; the input reads as it did. -/
def airNilSpec : ChangeSpec := { name := "airNil", fn := fun _ => fun
  | [d1, d2, d3] => { results := [.lit (.bool true)], args := [d1, d2, d3] }
  | _ => none }
def airNilRow : OpenClaim := { program := "ytcfagkmkfjhhiaa", sum := "07137ebb082e7ab5011524838d1a46b6b3f39c2cac8befbe9567b61ac0343fae", func := "tollbridge/tollbridgelaw08.AirNil", spec := "airNil", apart := false }
def AirNilSaid : Prop := airNilRow.holds Try.pinned (OpenSpec.ofChange airNilSpec)

/-- ITS FALSE NEIGHBOUR: 'it returns false'. Refute it at one input. -/
def airNilWrong : ChangeSpec := { name := "airNil", fn := fun _ => fun
  | [d1, d2, d3] => { results := [.lit (.bool false)], args := [d1, d2, d3] }
  | _ => none }
def AirNilWrongFalsely : Prop := airNilRow.holds Try.pinned (OpenSpec.ofChange airNilWrong)

/-- 'tollbridgelaw08.AirCounts': WHATEVER THE INPUT: true; the input reads as it did. -/
def airCountsSpec : ChangeSpec := { name := "airCounts", fn := fun _ => fun
  | [d] => { results := [.lit (.bool true)], args := [d] }
  | _ => none }
def airCountsRow : OpenClaim := { program := "ytcfagkmkfjhhiaa", sum := "07137ebb082e7ab5011524838d1a46b6b3f39c2cac8befbe9567b61ac0343fae", func := "tollbridge/tollbridgelaw08.AirCounts", spec := "airCounts", apart := false }
def AirCountsSaid : Prop := airCountsRow.holds Try.pinned (OpenSpec.ofChange airCountsSpec)

/-- ITS FALSE NEIGHBOUR: 'it returns false'. Refute it at one input. -/
def airCountsWrong : ChangeSpec := { name := "airCounts", fn := fun _ => fun
  | [d] => { results := [.lit (.bool false)], args := [d] }
  | _ => none }
def AirCountsWrongFalsely : Prop := airCountsRow.holds Try.pinned (OpenSpec.ofChange airCountsWrong)

/-- 'tollbridgelaw08.AirOnce': WHATEVER THE INPUT: true; the input reads as it did. -/
def airOnceSpec : ChangeSpec := { name := "airOnce", fn := fun _ => fun
  | [d1, d2] => { results := [.lit (.bool true)], args := [d1, d2] }
  | _ => none }
def airOnceRow : OpenClaim := { program := "ytcfagkmkfjhhiaa", sum := "07137ebb082e7ab5011524838d1a46b6b3f39c2cac8befbe9567b61ac0343fae", func := "tollbridge/tollbridgelaw08.AirOnce", spec := "airOnce", apart := false }
def AirOnceSaid : Prop := airOnceRow.holds Try.pinned (OpenSpec.ofChange airOnceSpec)

/-- ITS FALSE NEIGHBOUR: 'it returns false'. Refute it at one input. -/
def airOnceWrong : ChangeSpec := { name := "airOnce", fn := fun _ => fun
  | [d1, d2] => { results := [.lit (.bool false)], args := [d1, d2] }
  | _ => none }
def AirOnceWrongFalsely : Prop := airOnceRow.holds Try.pinned (OpenSpec.ofChange airOnceWrong)

/-- 'tollbridgelaw08.AirSealed': WHATEVER THE INPUT: true; the input reads as it did. -/
def airSealedSpec : ChangeSpec := { name := "airSealed", fn := fun _ => fun
  | [d1, d2] => { results := [.lit (.bool true)], args := [d1, d2] }
  | _ => none }
def airSealedRow : OpenClaim := { program := "ytcfagkmkfjhhiaa", sum := "07137ebb082e7ab5011524838d1a46b6b3f39c2cac8befbe9567b61ac0343fae", func := "tollbridge/tollbridgelaw08.AirSealed", spec := "airSealed", inPlace := ["sync/atomic.LoadUint32", "(*internal/sync.Mutex).Lock", "internal/race.Disable", "sync/atomic.CompareAndSwapInt32", "internal/race.Enable", "internal/race.Acquire", "(*internal/sync.Mutex).lockSlow", "internal/sync.runtime_canSpin", "internal/sync.runtime_doSpin", "internal/sync.throw", "internal/sync.runtime_nanotime", "internal/sync.runtime_SemacquireMutex", "sync/atomic.AddInt32", "(*internal/sync.Mutex).Unlock", "internal/race.ReleaseMerge", "(*internal/sync.Mutex).unlockSlow", "internal/sync.fatal", "internal/sync.runtime_Semrelease", "sync/atomic.StoreUint32"], unfollowed := true, recurses := true, apart := false }
def AirSealedSaid : Prop := airSealedRow.holds Try.pinned (OpenSpec.ofChange airSealedSpec)

/-- ITS FALSE NEIGHBOUR: 'it returns false'. Refute it at one input. -/
def airSealedWrong : ChangeSpec := { name := "airSealed", fn := fun _ => fun
  | [d1, d2] => { results := [.lit (.bool false)], args := [d1, d2] }
  | _ => none }
def AirSealedWrongFalsely : Prop := airSealedRow.holds Try.pinned (OpenSpec.ofChange airSealedWrong)

/- THE SECOND FORM. 'bulk': how many values and letters a reading holds, each counted each time it is reached (what is shared counts as often as it is met; a slice's spare places count too). A statement '..UptoSaid' is the law's where the arguments, and the package variables that the reading takes, are together of bulk at most 1048576: NARROWER than '..Said'. Prove '..Said' where nothing that the law and all that it calls make is longer than what came in: it says more and counts as full. Else prove '..UptoSaid'. A law counts once. -/
mutual
def uptoBulk {H : Type} : DataW H → Nat
  | .lit (.string bytes) => bytes.length + 1
  | .lit _ => 1
  | .nil => 1
  | .ptr d => uptoBulk d + 1
  | .slice elems spare => uptoBulkAll elems + uptoBulkAll spare + 1
  | .agg parts => uptoBulkAll parts + 1
  | .iface _ d => uptoBulk d + 1
  | .map entries => uptoBulkEntries entries + 1
  | .held _ => 1
def uptoBulkAll {H : Type} : List (DataW H) → Nat
  | [] => 0
  | d :: r => uptoBulk d + uptoBulkAll r
def uptoBulkEntries {H : Type} : List (Lit × DataW H) → Nat
  | [] => 0
  | x :: r => uptoBulkEntry x + uptoBulkEntries r
def uptoBulkEntry {H : Type} : Lit × DataW H → Nat
  | (.string bytes, d) => bytes.length + uptoBulk d + 1
  | (_, d) => uptoBulk d + 1
 end
def uptoSmall : (H : Type) → List (DataW H) → Bool := fun _ ds => decide (uptoBulkAll ds ≤ 1048576)
def OpenSpec.upto (s : _root_.Go.ChangeSpec) : _root_.Go.OpenSpec := { _root_.Go.OpenSpec.ofChange s with cond := some uptoSmall }

/-- 'tollbridgelaw08.AirPlays', WHERE WHAT IT READS IS OF BULK AT MOST 1048576: true; the input reads as it did. -/
def airPlaysUptoRow : OpenClaim := { program := "ytcfagkmkfjhhiaa", sum := "07137ebb082e7ab5011524838d1a46b6b3f39c2cac8befbe9567b61ac0343fae", func := "tollbridge/tollbridgelaw08.AirPlays", spec := "airPlays", apart := false, narrowed := true }
def AirPlaysUptoSaid : Prop := airPlaysUptoRow.holds Try.pinned (OpenSpec.upto airPlaysSpec)

/-- 'tollbridgelaw08.AirNil', WHERE WHAT IT READS IS OF BULK AT MOST 1048576: true; the input reads as it did. -/
def airNilUptoRow : OpenClaim := { program := "ytcfagkmkfjhhiaa", sum := "07137ebb082e7ab5011524838d1a46b6b3f39c2cac8befbe9567b61ac0343fae", func := "tollbridge/tollbridgelaw08.AirNil", spec := "airNil", apart := false, narrowed := true }
def AirNilUptoSaid : Prop := airNilUptoRow.holds Try.pinned (OpenSpec.upto airNilSpec)

/-- 'tollbridgelaw08.AirCounts', WHERE WHAT IT READS IS OF BULK AT MOST 1048576: true; the input reads as it did. -/
def airCountsUptoRow : OpenClaim := { program := "ytcfagkmkfjhhiaa", sum := "07137ebb082e7ab5011524838d1a46b6b3f39c2cac8befbe9567b61ac0343fae", func := "tollbridge/tollbridgelaw08.AirCounts", spec := "airCounts", apart := false, narrowed := true }
def AirCountsUptoSaid : Prop := airCountsUptoRow.holds Try.pinned (OpenSpec.upto airCountsSpec)

/-- 'tollbridgelaw08.AirOnce', WHERE WHAT IT READS IS OF BULK AT MOST 1048576: true; the input reads as it did. -/
def airOnceUptoRow : OpenClaim := { program := "ytcfagkmkfjhhiaa", sum := "07137ebb082e7ab5011524838d1a46b6b3f39c2cac8befbe9567b61ac0343fae", func := "tollbridge/tollbridgelaw08.AirOnce", spec := "airOnce", apart := false, narrowed := true }
def AirOnceUptoSaid : Prop := airOnceUptoRow.holds Try.pinned (OpenSpec.upto airOnceSpec)

/-- 'tollbridgelaw08.AirSealed', WHERE WHAT IT READS IS OF BULK AT MOST 1048576: true; the input reads as it did. -/
def airSealedUptoRow : OpenClaim := { program := "ytcfagkmkfjhhiaa", sum := "07137ebb082e7ab5011524838d1a46b6b3f39c2cac8befbe9567b61ac0343fae", func := "tollbridge/tollbridgelaw08.AirSealed", spec := "airSealed", inPlace := ["sync/atomic.LoadUint32", "(*internal/sync.Mutex).Lock", "internal/race.Disable", "sync/atomic.CompareAndSwapInt32", "internal/race.Enable", "internal/race.Acquire", "(*internal/sync.Mutex).lockSlow", "internal/sync.runtime_canSpin", "internal/sync.runtime_doSpin", "internal/sync.throw", "internal/sync.runtime_nanotime", "internal/sync.runtime_SemacquireMutex", "sync/atomic.AddInt32", "(*internal/sync.Mutex).Unlock", "internal/race.ReleaseMerge", "(*internal/sync.Mutex).unlockSlow", "internal/sync.fatal", "internal/sync.runtime_Semrelease", "sync/atomic.StoreUint32"], unfollowed := true, recurses := true, apart := false, narrowed := true }
def AirSealedUptoSaid : Prop := airSealedUptoRow.holds Try.pinned (OpenSpec.upto airSealedSpec)

end Rows
end Go.Proofs.Ytcfagkmkfjhhiaa
