/-
  DERIVED. GIVEN WITH THE SEED: THE CARDS: each row of YtjbgckpalaodaaaDoorRows.lean that lists a variable, with what it lists TIED to the program's text (the seventh form; the later family's looks); each row that meets fmt, with fmt's text TOLD by the authors' own Lean function (tested against real Go, not proved from fmt's source: count such statements apart). THE CARD IS WHAT COUNTS. Prove the row's statement (the work); the ties are given (YtjbgckpalaodaaaDoorTie.lean); close each card by the builder's one call (the guide's Derived/Test/ToyasCard.lean, 'card_holds'). Laid BY PROGRAM, IN A SANDBOX (cutbox-door.mjs). By AI agents, Wed Nov 11 2026. No macro, syntax, notation, axiom, sorry.
-/
import Derived.Test.YtjbgckpalaodaaaDoorRows
import GoSem.ClaimSeven
namespace Go.Proofs.YtjbgckpalaodaaaDoor
namespace Rows

/-- THE TIED CARD OF 'tollbridgelaw01.HeaderTells'. -/
def headerTellsCard : Claim7 := { stood := { row := headerTellsRow, standIns := [], harness := (true, "5441f7927e051f0fb9adf9e5174c845ab87eb687be6c913469516c1470923c79"), looks := false }, kinds := [], alts := [], laidByText := true, laidKinds := [.data, .data, .data], laidTests := true, laidLooks := .later }
def HeaderTellsCardSaid : Prop := Claim7.holds Tryd.pinned (.plain (OpenSpec.ofChange headerTellsSpec)) headerTellsCard

/-- THE TIED CARD OF 'tollbridgelaw01.HeaderApart'. -/
def headerApartCard : Claim7 := { stood := { row := headerApartRow, standIns := [], harness := (true, "5441f7927e051f0fb9adf9e5174c845ab87eb687be6c913469516c1470923c79"), looks := false }, kinds := [], alts := [], laidByText := true, laidKinds := [.data, .data, .data], laidTests := true, laidLooks := .later }
def HeaderApartCardSaid : Prop := Claim7.holds Tryd.pinned (.plain (OpenSpec.ofChange headerApartSpec)) headerApartCard

/-- THE TIED CARD OF 'tollbridgelaw01.HeaderLess'. -/
def headerLessCard : Claim7 := { stood := { row := headerLessRow, standIns := [], harness := (true, "5441f7927e051f0fb9adf9e5174c845ab87eb687be6c913469516c1470923c79"), looks := false }, kinds := [], alts := [], laidByText := true, laidKinds := [.data, .data, .data], laidTests := true, laidLooks := .later }
def HeaderLessCardSaid : Prop := Claim7.holds Tryd.pinned (.plain (OpenSpec.ofChange headerLessSpec)) headerLessCard

/-- THE TIED CARD OF 'tollbridgelaw01.HeaderWide'. -/
def headerWideCard : Claim7 := { stood := { row := headerWideRow, standIns := [], harness := (true, "5441f7927e051f0fb9adf9e5174c845ab87eb687be6c913469516c1470923c79"), looks := false }, kinds := [], alts := [], laidByText := true, laidKinds := [.data, .data, .data], laidTests := true, laidLooks := .later }
def HeaderWideCardSaid : Prop := Claim7.holds Tryd.pinned (.plain (OpenSpec.ofChange headerWideSpec)) headerWideCard

/-- THE TIED CARD OF 'tollbridgelaw01.HeaderKnown'. -/
def headerKnownCard : Claim7 := { stood := { row := headerKnownRow, standIns := [], harness := (true, "5441f7927e051f0fb9adf9e5174c845ab87eb687be6c913469516c1470923c79"), looks := false }, kinds := [], alts := [], laidByText := true, laidKinds := [.data, .data, .data], laidTests := true, laidLooks := .later }
def HeaderKnownCardSaid : Prop := Claim7.holds Tryd.pinned (.plain (OpenSpec.ofChange headerKnownSpec)) headerKnownCard

/-- THE SECOND FORM's CARD OF 'tollbridgelaw01.HeaderTells'. -/
def headerTellsUptoCard : Claim7 := { stood := { row := headerTellsUptoRow, standIns := [], harness := (true, "5441f7927e051f0fb9adf9e5174c845ab87eb687be6c913469516c1470923c79"), looks := false }, kinds := [], alts := [], laidByText := true, laidKinds := [.data, .data, .data], laidTests := true, laidLooks := .later }
def HeaderTellsUptoCardSaid : Prop := Claim7.holds Tryd.pinned (.plain (OpenSpec.upto headerTellsSpec)) headerTellsUptoCard

/-- THE SECOND FORM's CARD OF 'tollbridgelaw01.HeaderApart'. -/
def headerApartUptoCard : Claim7 := { stood := { row := headerApartUptoRow, standIns := [], harness := (true, "5441f7927e051f0fb9adf9e5174c845ab87eb687be6c913469516c1470923c79"), looks := false }, kinds := [], alts := [], laidByText := true, laidKinds := [.data, .data, .data], laidTests := true, laidLooks := .later }
def HeaderApartUptoCardSaid : Prop := Claim7.holds Tryd.pinned (.plain (OpenSpec.upto headerApartSpec)) headerApartUptoCard

/-- THE SECOND FORM's CARD OF 'tollbridgelaw01.HeaderLess'. -/
def headerLessUptoCard : Claim7 := { stood := { row := headerLessUptoRow, standIns := [], harness := (true, "5441f7927e051f0fb9adf9e5174c845ab87eb687be6c913469516c1470923c79"), looks := false }, kinds := [], alts := [], laidByText := true, laidKinds := [.data, .data, .data], laidTests := true, laidLooks := .later }
def HeaderLessUptoCardSaid : Prop := Claim7.holds Tryd.pinned (.plain (OpenSpec.upto headerLessSpec)) headerLessUptoCard

/-- THE SECOND FORM's CARD OF 'tollbridgelaw01.HeaderWide'. -/
def headerWideUptoCard : Claim7 := { stood := { row := headerWideUptoRow, standIns := [], harness := (true, "5441f7927e051f0fb9adf9e5174c845ab87eb687be6c913469516c1470923c79"), looks := false }, kinds := [], alts := [], laidByText := true, laidKinds := [.data, .data, .data], laidTests := true, laidLooks := .later }
def HeaderWideUptoCardSaid : Prop := Claim7.holds Tryd.pinned (.plain (OpenSpec.upto headerWideSpec)) headerWideUptoCard

/-- THE SECOND FORM's CARD OF 'tollbridgelaw01.HeaderKnown'. -/
def headerKnownUptoCard : Claim7 := { stood := { row := headerKnownUptoRow, standIns := [], harness := (true, "5441f7927e051f0fb9adf9e5174c845ab87eb687be6c913469516c1470923c79"), looks := false }, kinds := [], alts := [], laidByText := true, laidKinds := [.data, .data, .data], laidTests := true, laidLooks := .later }
def HeaderKnownUptoCardSaid : Prop := Claim7.holds Tryd.pinned (.plain (OpenSpec.upto headerKnownSpec)) headerKnownUptoCard
end Rows
end Go.Proofs.YtjbgckpalaodaaaDoor
