/-
  DERIVED. GIVEN WITH THE SEED: THE CARDS: each row of YthifnahfcbgnoaaDoorRows.lean that lists a variable, with what it lists TIED to the program's text (the seventh form; the later family's looks); each row that meets fmt, with fmt's text TOLD by the authors' own Lean function (tested against real Go, not proved from fmt's source: count such statements apart). THE CARD IS WHAT COUNTS. Prove the row's statement (the work); the ties are given (YthifnahfcbgnoaaDoorTie.lean); close each card by the builder's one call (the guide's Derived/Test/ToyasCard.lean, 'card_holds'). Laid BY PROGRAM, IN A SANDBOX (cutbox-door.mjs). By AI agents, Wed Nov 11 2026. No macro, syntax, notation, axiom, sorry.
-/
import Derived.Test.YthifnahfcbgnoaaDoorRows
import GoSem.ClaimSeven
namespace Go.Proofs.YthifnahfcbgnoaaDoor
namespace Rows

/-- THE TIED CARD OF 'tollbridgelaw15.ScanTells'. -/
def scanTellsCard : Claim7 := { stood := { row := scanTellsRow, standIns := [], harness := (true, "3bedeaaa77f00428b9196af4c469d3ddbc68e8757134dfefb3b2a50a7c2ce059"), looks := true }, kinds := [], alts := [], laidByText := true, laidKinds := [.data, .data, .data, .handle, .sentinel, .sentinel], laidTests := true, laidLooks := .later }
def ScanTellsCardSaid : Prop := Claim7.holds Tryd.pinned (.plain (OpenSpec.ofChange scanTellsSpec)) scanTellsCard

/-- THE TIED CARD OF 'tollbridgelaw15.ScanStands'. -/
def scanStandsCard : Claim7 := { stood := { row := scanStandsRow, standIns := [], harness := (true, "3bedeaaa77f00428b9196af4c469d3ddbc68e8757134dfefb3b2a50a7c2ce059"), looks := true }, kinds := [], alts := [], laidByText := true, laidKinds := [.data, .data, .data, .handle, .sentinel, .sentinel], laidTests := true, laidLooks := .later }
def ScanStandsCardSaid : Prop := Claim7.holds Tryd.pinned (.plain (OpenSpec.ofChange scanStandsSpec)) scanStandsCard

/-- THE TIED CARD OF 'tollbridgelaw15.ScanBlank'. -/
def scanBlankCard : Claim7 := { stood := { row := scanBlankRow, standIns := [], harness := (true, "3bedeaaa77f00428b9196af4c469d3ddbc68e8757134dfefb3b2a50a7c2ce059"), looks := true }, kinds := [], alts := [], laidByText := true, laidKinds := [.data, .data, .data, .handle, .sentinel, .sentinel], laidTests := true, laidLooks := .later }
def ScanBlankCardSaid : Prop := Claim7.holds Tryd.pinned (.plain (OpenSpec.ofChange scanBlankSpec)) scanBlankCard

/-- THE TIED CARD OF 'tollbridgelaw15.ScanKnown'. -/
def scanKnownCard : Claim7 := { stood := { row := scanKnownRow, standIns := [], harness := (true, "3bedeaaa77f00428b9196af4c469d3ddbc68e8757134dfefb3b2a50a7c2ce059"), looks := true }, kinds := [], alts := [], laidByText := true, laidKinds := [.data, .data, .data, .handle, .sentinel, .sentinel], laidTests := true, laidLooks := .later }
def ScanKnownCardSaid : Prop := Claim7.holds Tryd.pinned (.plain (OpenSpec.ofChange scanKnownSpec)) scanKnownCard

/-- THE SECOND FORM's CARD OF 'tollbridgelaw15.ScanTells'. -/
def scanTellsUptoCard : Claim7 := { stood := { row := scanTellsUptoRow, standIns := [], harness := (true, "3bedeaaa77f00428b9196af4c469d3ddbc68e8757134dfefb3b2a50a7c2ce059"), looks := true }, kinds := [], alts := [], laidByText := true, laidKinds := [.data, .data, .data, .handle, .sentinel, .sentinel], laidTests := true, laidLooks := .later }
def ScanTellsUptoCardSaid : Prop := Claim7.holds Tryd.pinned (.plain (OpenSpec.upto scanTellsSpec)) scanTellsUptoCard

/-- THE SECOND FORM's CARD OF 'tollbridgelaw15.ScanStands'. -/
def scanStandsUptoCard : Claim7 := { stood := { row := scanStandsUptoRow, standIns := [], harness := (true, "3bedeaaa77f00428b9196af4c469d3ddbc68e8757134dfefb3b2a50a7c2ce059"), looks := true }, kinds := [], alts := [], laidByText := true, laidKinds := [.data, .data, .data, .handle, .sentinel, .sentinel], laidTests := true, laidLooks := .later }
def ScanStandsUptoCardSaid : Prop := Claim7.holds Tryd.pinned (.plain (OpenSpec.upto scanStandsSpec)) scanStandsUptoCard

/-- THE SECOND FORM's CARD OF 'tollbridgelaw15.ScanBlank'. -/
def scanBlankUptoCard : Claim7 := { stood := { row := scanBlankUptoRow, standIns := [], harness := (true, "3bedeaaa77f00428b9196af4c469d3ddbc68e8757134dfefb3b2a50a7c2ce059"), looks := true }, kinds := [], alts := [], laidByText := true, laidKinds := [.data, .data, .data, .handle, .sentinel, .sentinel], laidTests := true, laidLooks := .later }
def ScanBlankUptoCardSaid : Prop := Claim7.holds Tryd.pinned (.plain (OpenSpec.upto scanBlankSpec)) scanBlankUptoCard

/-- THE SECOND FORM's CARD OF 'tollbridgelaw15.ScanKnown'. -/
def scanKnownUptoCard : Claim7 := { stood := { row := scanKnownUptoRow, standIns := [], harness := (true, "3bedeaaa77f00428b9196af4c469d3ddbc68e8757134dfefb3b2a50a7c2ce059"), looks := true }, kinds := [], alts := [], laidByText := true, laidKinds := [.data, .data, .data, .handle, .sentinel, .sentinel], laidTests := true, laidLooks := .later }
def ScanKnownUptoCardSaid : Prop := Claim7.holds Tryd.pinned (.plain (OpenSpec.upto scanKnownSpec)) scanKnownUptoCard
end Rows
end Go.Proofs.YthifnahfcbgnoaaDoor
