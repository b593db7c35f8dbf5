/-
  NARROWER THAN 'FOR EVERY INPUT', by the rows' own cells (each row's printed sentence says how): PolicyChecks: loops · PolicyPlain: loops · PolicyOwn: loops · PolicyTwice: loops · PolicyParts: loops · PolicyForbids: loops.
  DERIVED. THE GIVEN ROWS OF THIS SEAT. 6 by the template 'for every input the law returns true; each argument reads behind the call as it read before'; 0 by the template 'total and deterministic' (their statements: YtbpckcmejkcciaaTotals.lean).
  GIVEN WITH THE SEED: the statements are not yours to turn. If you find one false, say at which input.
  Laid BY PROGRAM, IN A SANDBOX (cutbox-rows.mjs): the forced cells as the released guide's own fill.sh prints them over the translation 8c33528dc15a1760… (all of the seat's roots in one cut). By AI agents, Wed Nov 11 2026. No macro, syntax, notation, axiom, sorry.
-/
import Derived.Test.YtbpckcmejkcciaaChecked
import GoSem.Claim
import GoSem.ClaimJoined
import GoSem.ClaimMapViews
import Derived.JoinedTies
import Derived.KernelRfl
namespace Go.Proofs.Ytbpckcmejkcciaa
/- THE CELL 'sum', in the pinned program and in every row, IS THE sha256 OF THE DUMP (.gsa) THAT YtbpckcmejkcciaaProg.lean LOADS. Nothing in Lean hashes anything: it is a label: what it is worth is what the hold of that sum in a sandbox is worth. -/
noncomputable def Try.pinned : Pinned := { name := "ytbpckcmejkcciaa", sum := "8c33528dc15a1760a38a7ba40de3c2557445af162add04696c2db13287ecac00", checked := Try.checked }
namespace Rows
def none {H : Type} : Left H := { results := [], args := [] }

/-- 'tollbridgelaw18.PolicyChecks': WHATEVER THE INPUT: true; the input reads as it did. -/
def policyChecksSpec : ChangeSpec := { name := "policyChecks", fn := fun _ => fun
  | [d] => { results := [.lit (.bool true)], args := [d] }
  | _ => none }
def policyChecksRow : OpenClaim := { program := "ytbpckcmejkcciaa", sum := "8c33528dc15a1760a38a7ba40de3c2557445af162add04696c2db13287ecac00", func := "tollbridge/tollbridgelaw18.PolicyChecks", spec := "policyChecks", unfollowed := true, recurses := true, loops := true, apart := false }
def PolicyChecksSaid : Prop := policyChecksRow.holds Try.pinned (OpenSpec.ofChange policyChecksSpec)

/-- ITS FALSE NEIGHBOUR: 'it returns false'. Refute it at one input. -/
def policyChecksWrong : ChangeSpec := { name := "policyChecks", fn := fun _ => fun
  | [d] => { results := [.lit (.bool false)], args := [d] }
  | _ => none }
def PolicyChecksWrongFalsely : Prop := policyChecksRow.holds Try.pinned (OpenSpec.ofChange policyChecksWrong)

/-- 'tollbridgelaw18.PolicyPlain': WHATEVER THE INPUT: true; the input reads as it did. -/
def policyPlainSpec : ChangeSpec := { name := "policyPlain", fn := fun _ => fun
  | [d] => { results := [.lit (.bool true)], args := [d] }
  | _ => none }
def policyPlainRow : OpenClaim := { program := "ytbpckcmejkcciaa", sum := "8c33528dc15a1760a38a7ba40de3c2557445af162add04696c2db13287ecac00", func := "tollbridge/tollbridgelaw18.PolicyPlain", spec := "policyPlain", unfollowed := true, recurses := true, loops := true, apart := false }
def PolicyPlainSaid : Prop := policyPlainRow.holds Try.pinned (OpenSpec.ofChange policyPlainSpec)

/-- ITS FALSE NEIGHBOUR: 'it returns false'. Refute it at one input. -/
def policyPlainWrong : ChangeSpec := { name := "policyPlain", fn := fun _ => fun
  | [d] => { results := [.lit (.bool false)], args := [d] }
  | _ => none }
def PolicyPlainWrongFalsely : Prop := policyPlainRow.holds Try.pinned (OpenSpec.ofChange policyPlainWrong)

/-- 'tollbridgelaw18.PolicyOwn': WHATEVER THE INPUT: true; the input reads as it did. -/
def policyOwnSpec : ChangeSpec := { name := "policyOwn", fn := fun _ => fun
  | [d] => { results := [.lit (.bool true)], args := [d] }
  | _ => none }
def policyOwnRow : OpenClaim := { program := "ytbpckcmejkcciaa", sum := "8c33528dc15a1760a38a7ba40de3c2557445af162add04696c2db13287ecac00", func := "tollbridge/tollbridgelaw18.PolicyOwn", spec := "policyOwn", unfollowed := true, recurses := true, loops := true, apart := false }
def PolicyOwnSaid : Prop := policyOwnRow.holds Try.pinned (OpenSpec.ofChange policyOwnSpec)

/-- ITS FALSE NEIGHBOUR: 'it returns false'. Refute it at one input. -/
def policyOwnWrong : ChangeSpec := { name := "policyOwn", fn := fun _ => fun
  | [d] => { results := [.lit (.bool false)], args := [d] }
  | _ => none }
def PolicyOwnWrongFalsely : Prop := policyOwnRow.holds Try.pinned (OpenSpec.ofChange policyOwnWrong)

/-- 'tollbridgelaw18.PolicyTwice': WHATEVER THE INPUT: true; the input reads as it did. -/
def policyTwiceSpec : ChangeSpec := { name := "policyTwice", fn := fun _ => fun
  | [d] => { results := [.lit (.bool true)], args := [d] }
  | _ => none }
def policyTwiceRow : OpenClaim := { program := "ytbpckcmejkcciaa", sum := "8c33528dc15a1760a38a7ba40de3c2557445af162add04696c2db13287ecac00", func := "tollbridge/tollbridgelaw18.PolicyTwice", spec := "policyTwice", unfollowed := true, recurses := true, loops := true, apart := false }
def PolicyTwiceSaid : Prop := policyTwiceRow.holds Try.pinned (OpenSpec.ofChange policyTwiceSpec)

/-- ITS FALSE NEIGHBOUR: 'it returns false'. Refute it at one input. -/
def policyTwiceWrong : ChangeSpec := { name := "policyTwice", fn := fun _ => fun
  | [d] => { results := [.lit (.bool false)], args := [d] }
  | _ => none }
def PolicyTwiceWrongFalsely : Prop := policyTwiceRow.holds Try.pinned (OpenSpec.ofChange policyTwiceWrong)

/-- 'tollbridgelaw18.PolicyParts': WHATEVER THE INPUT: true; the input reads as it did. -/
def policyPartsSpec : ChangeSpec := { name := "policyParts", fn := fun _ => fun
  | [d1, d2] => { results := [.lit (.bool true)], args := [d1, d2] }
  | _ => none }
def policyPartsRow : OpenClaim := { program := "ytbpckcmejkcciaa", sum := "8c33528dc15a1760a38a7ba40de3c2557445af162add04696c2db13287ecac00", func := "tollbridge/tollbridgelaw18.PolicyParts", spec := "policyParts", unfollowed := true, recurses := true, loops := true, apart := false }
def PolicyPartsSaid : Prop := policyPartsRow.holds Try.pinned (OpenSpec.ofChange policyPartsSpec)

/-- ITS FALSE NEIGHBOUR: 'it returns false'. Refute it at one input. -/
def policyPartsWrong : ChangeSpec := { name := "policyParts", fn := fun _ => fun
  | [d1, d2] => { results := [.lit (.bool false)], args := [d1, d2] }
  | _ => none }
def PolicyPartsWrongFalsely : Prop := policyPartsRow.holds Try.pinned (OpenSpec.ofChange policyPartsWrong)

/-- 'tollbridgelaw18.PolicyForbids': WHATEVER THE INPUT: true; the input reads as it did. -/
def policyForbidsSpec : ChangeSpec := { name := "policyForbids", fn := fun _ => fun
  | [d1, d2, d3, d4] => { results := [.lit (.bool true)], args := [d1, d2, d3, d4] }
  | _ => none }
def policyForbidsRow : OpenClaim := { program := "ytbpckcmejkcciaa", sum := "8c33528dc15a1760a38a7ba40de3c2557445af162add04696c2db13287ecac00", func := "tollbridge/tollbridgelaw18.PolicyForbids", spec := "policyForbids", unfollowed := true, recurses := true, loops := true, apart := false }
def PolicyForbidsSaid : Prop := policyForbidsRow.holds Try.pinned (OpenSpec.ofChange policyForbidsSpec)

/-- ITS FALSE NEIGHBOUR: 'it returns false'. Refute it at one input. -/
def policyForbidsWrong : ChangeSpec := { name := "policyForbids", fn := fun _ => fun
  | [d1, d2, d3, d4] => { results := [.lit (.bool false)], args := [d1, d2, d3, d4] }
  | _ => none }
def PolicyForbidsWrongFalsely : Prop := policyForbidsRow.holds Try.pinned (OpenSpec.ofChange policyForbidsWrong)

/- THE SECOND FORM. 'bulk': how many values and letters a reading holds, each counted each time it is reached (what is shared counts as often as it is met; a slice's spare places count too). A statement '..UptoSaid' is the law's where the arguments, and the package variables that the reading takes, are together of bulk at most 1048576: NARROWER than '..Said'. Prove '..Said' where nothing that the law and all that it calls make is longer than what came in: it says more and counts as full. Else prove '..UptoSaid'. A law counts once. -/
mutual
def uptoBulk {H : Type} : DataW H → Nat
  | .lit (.string bytes) => bytes.length + 1
  | .lit _ => 1
  | .nil => 1
  | .ptr d => uptoBulk d + 1
  | .slice elems spare => uptoBulkAll elems + uptoBulkAll spare + 1
  | .agg parts => uptoBulkAll parts + 1
  | .iface _ d => uptoBulk d + 1
  | .map entries => uptoBulkEntries entries + 1
  | .held _ => 1
def uptoBulkAll {H : Type} : List (DataW H) → Nat
  | [] => 0
  | d :: r => uptoBulk d + uptoBulkAll r
def uptoBulkEntries {H : Type} : List (Lit × DataW H) → Nat
  | [] => 0
  | x :: r => uptoBulkEntry x + uptoBulkEntries r
def uptoBulkEntry {H : Type} : Lit × DataW H → Nat
  | (.string bytes, d) => bytes.length + uptoBulk d + 1
  | (_, d) => uptoBulk d + 1
 end
def uptoSmall : (H : Type) → List (DataW H) → Bool := fun _ ds => decide (uptoBulkAll ds ≤ 1048576)
def OpenSpec.upto (s : _root_.Go.ChangeSpec) : _root_.Go.OpenSpec := { _root_.Go.OpenSpec.ofChange s with cond := some uptoSmall }

/-- 'tollbridgelaw18.PolicyChecks', WHERE WHAT IT READS IS OF BULK AT MOST 1048576: true; the input reads as it did. -/
def policyChecksUptoRow : OpenClaim := { program := "ytbpckcmejkcciaa", sum := "8c33528dc15a1760a38a7ba40de3c2557445af162add04696c2db13287ecac00", func := "tollbridge/tollbridgelaw18.PolicyChecks", spec := "policyChecks", unfollowed := true, recurses := true, loops := true, apart := false, narrowed := true }
def PolicyChecksUptoSaid : Prop := policyChecksUptoRow.holds Try.pinned (OpenSpec.upto policyChecksSpec)

/-- 'tollbridgelaw18.PolicyPlain', WHERE WHAT IT READS IS OF BULK AT MOST 1048576: true; the input reads as it did. -/
def policyPlainUptoRow : OpenClaim := { program := "ytbpckcmejkcciaa", sum := "8c33528dc15a1760a38a7ba40de3c2557445af162add04696c2db13287ecac00", func := "tollbridge/tollbridgelaw18.PolicyPlain", spec := "policyPlain", unfollowed := true, recurses := true, loops := true, apart := false, narrowed := true }
def PolicyPlainUptoSaid : Prop := policyPlainUptoRow.holds Try.pinned (OpenSpec.upto policyPlainSpec)

/-- 'tollbridgelaw18.PolicyOwn', WHERE WHAT IT READS IS OF BULK AT MOST 1048576: true; the input reads as it did. -/
def policyOwnUptoRow : OpenClaim := { program := "ytbpckcmejkcciaa", sum := "8c33528dc15a1760a38a7ba40de3c2557445af162add04696c2db13287ecac00", func := "tollbridge/tollbridgelaw18.PolicyOwn", spec := "policyOwn", unfollowed := true, recurses := true, loops := true, apart := false, narrowed := true }
def PolicyOwnUptoSaid : Prop := policyOwnUptoRow.holds Try.pinned (OpenSpec.upto policyOwnSpec)

/-- 'tollbridgelaw18.PolicyTwice', WHERE WHAT IT READS IS OF BULK AT MOST 1048576: true; the input reads as it did. -/
def policyTwiceUptoRow : OpenClaim := { program := "ytbpckcmejkcciaa", sum := "8c33528dc15a1760a38a7ba40de3c2557445af162add04696c2db13287ecac00", func := "tollbridge/tollbridgelaw18.PolicyTwice", spec := "policyTwice", unfollowed := true, recurses := true, loops := true, apart := false, narrowed := true }
def PolicyTwiceUptoSaid : Prop := policyTwiceUptoRow.holds Try.pinned (OpenSpec.upto policyTwiceSpec)

/-- 'tollbridgelaw18.PolicyParts', WHERE WHAT IT READS IS OF BULK AT MOST 1048576: true; the input reads as it did. -/
def policyPartsUptoRow : OpenClaim := { program := "ytbpckcmejkcciaa", sum := "8c33528dc15a1760a38a7ba40de3c2557445af162add04696c2db13287ecac00", func := "tollbridge/tollbridgelaw18.PolicyParts", spec := "policyParts", unfollowed := true, recurses := true, loops := true, apart := false, narrowed := true }
def PolicyPartsUptoSaid : Prop := policyPartsUptoRow.holds Try.pinned (OpenSpec.upto policyPartsSpec)

/-- 'tollbridgelaw18.PolicyForbids', WHERE WHAT IT READS IS OF BULK AT MOST 1048576: true; the input reads as it did. -/
def policyForbidsUptoRow : OpenClaim := { program := "ytbpckcmejkcciaa", sum := "8c33528dc15a1760a38a7ba40de3c2557445af162add04696c2db13287ecac00", func := "tollbridge/tollbridgelaw18.PolicyForbids", spec := "policyForbids", unfollowed := true, recurses := true, loops := true, apart := false, narrowed := true }
def PolicyForbidsUptoSaid : Prop := policyForbidsUptoRow.holds Try.pinned (OpenSpec.upto policyForbidsSpec)

end Rows
end Go.Proofs.Ytbpckcmejkcciaa
