/-
  DERIVED. GIVEN WITH THE SEED: THE CARDS: each row of YtalijabcedajaaaGreatDoorRows.lean that lists a variable, with what it lists TIED to the program's text (the seventh form; the later family's looks); each row that meets fmt, with fmt's text TOLD by the authors' own Lean function (tested against real Go, not proved from fmt's source: count such statements apart). THE CARD IS WHAT COUNTS. Prove the row's statement (the work); the ties are given (YtalijabcedajaaaGreatDoorTie.lean); close each card by the builder's one call (the guide's Derived/Test/ToyasCard.lean, 'card_holds'). Laid BY PROGRAM, IN A SANDBOX (cutbox-door.mjs). By AI agents, Wed Nov 11 2026. No macro, syntax, notation, axiom, sorry.
-/
import Derived.Test.YtalijabcedajaaaGreatDoorRows
import GoSem.ClaimSeven
namespace Go.Proofs.YtalijabcedajaaaGreatDoor
namespace Rows

/-- THE TIED CARD OF 'bobbinetkeep.EmitBack'. -/
def emitBackCard : Claim7 := { stood := { row := emitBackRow, standIns := [], harness := (true, "d68380b9ed24ea49418cd4ea0ac5f92ff2e051327112de2c77e98de4a9d0e5b6"), looks := true }, kinds := [], alts := [], laidByText := true, laidKinds := [.data, .data, .data, .sentinel, .sentinel], laidTests := true, laidLooks := .later }
def EmitBackCardSaid : Prop := Claim7.holds Tryz.pinned (.plain (OpenSpec.ofChange emitBackSpec)) emitBackCard

/-- THE TIED CARD OF 'bobbinettop.TopStyle'. -/
def topStyleCard : Claim7 := { stood := { row := topStyleRow, standIns := [], harness := (true, "d68380b9ed24ea49418cd4ea0ac5f92ff2e051327112de2c77e98de4a9d0e5b6"), looks := true }, kinds := [], alts := [], laidByText := true, laidKinds := [.data, .data, .data, .data, .sentinel, .sentinel, .pinned], laidTests := true, laidLooks := .later }
def TopStyleCardSaid : Prop := Claim7.holds Tryz.pinned (.plain (OpenSpec.ofChange topStyleSpec)) topStyleCard

/-- THE TIED CARD OF 'bobbinetlaw.ShowReads'. -/
def showReadsCard : Claim7 := { stood := { row := showReadsRow, standIns := [], harness := (true, "d68380b9ed24ea49418cd4ea0ac5f92ff2e051327112de2c77e98de4a9d0e5b6"), looks := true }, kinds := [], alts := [], laidByText := true, laidKinds := [.data, .data, .data, .sentinel, .sentinel], laidTests := true, laidLooks := .later }
def ShowReadsCardSaid : Prop := Claim7.holds Tryz.pinned (.plain (OpenSpec.ofChange showReadsSpec)) showReadsCard

/-- THE TIED CARD OF 'bobbinettop.TopMarks'. -/
def topMarksCard : Claim7 := { stood := { row := topMarksRow, standIns := [], harness := (true, "d68380b9ed24ea49418cd4ea0ac5f92ff2e051327112de2c77e98de4a9d0e5b6"), looks := true }, kinds := [], alts := [], laidByText := true, laidKinds := [.data, .data, .data, .widerDeep, .widerDeep, .sentinel, .sentinel, .listed, .data], laidTests := true, laidLooks := .later }
def TopMarksCardSaid : Prop := Claim7.holds Tryz.pinned (.plain (OpenSpec.ofChange topMarksSpec)) topMarksCard

/-- THE SECOND FORM's CARD OF 'bobbinetkeep.EmitBack'. -/
def emitBackUptoCard : Claim7 := { stood := { row := emitBackUptoRow, standIns := [], harness := (true, "d68380b9ed24ea49418cd4ea0ac5f92ff2e051327112de2c77e98de4a9d0e5b6"), looks := true }, kinds := [], alts := [], laidByText := true, laidKinds := [.data, .data, .data, .sentinel, .sentinel], laidTests := true, laidLooks := .later }
def EmitBackUptoCardSaid : Prop := Claim7.holds Tryz.pinned (.plain (OpenSpec.upto emitBackSpec)) emitBackUptoCard

/-- THE SECOND FORM's CARD OF 'bobbinettop.TopStyle'. -/
def topStyleUptoCard : Claim7 := { stood := { row := topStyleUptoRow, standIns := [], harness := (true, "d68380b9ed24ea49418cd4ea0ac5f92ff2e051327112de2c77e98de4a9d0e5b6"), looks := true }, kinds := [], alts := [], laidByText := true, laidKinds := [.data, .data, .data, .data, .sentinel, .sentinel, .pinned], laidTests := true, laidLooks := .later }
def TopStyleUptoCardSaid : Prop := Claim7.holds Tryz.pinned (.plain (OpenSpec.upto topStyleSpec)) topStyleUptoCard

/-- THE SECOND FORM's CARD OF 'bobbinetlaw.ShowReads'. -/
def showReadsUptoCard : Claim7 := { stood := { row := showReadsUptoRow, standIns := [], harness := (true, "d68380b9ed24ea49418cd4ea0ac5f92ff2e051327112de2c77e98de4a9d0e5b6"), looks := true }, kinds := [], alts := [], laidByText := true, laidKinds := [.data, .data, .data, .sentinel, .sentinel], laidTests := true, laidLooks := .later }
def ShowReadsUptoCardSaid : Prop := Claim7.holds Tryz.pinned (.plain (OpenSpec.upto showReadsSpec)) showReadsUptoCard

/-- THE SECOND FORM's CARD OF 'bobbinettop.TopMarks'. -/
def topMarksUptoCard : Claim7 := { stood := { row := topMarksUptoRow, standIns := [], harness := (true, "d68380b9ed24ea49418cd4ea0ac5f92ff2e051327112de2c77e98de4a9d0e5b6"), looks := true }, kinds := [], alts := [], laidByText := true, laidKinds := [.data, .data, .data, .widerDeep, .widerDeep, .sentinel, .sentinel, .listed, .data], laidTests := true, laidLooks := .later }
def TopMarksUptoCardSaid : Prop := Claim7.holds Tryz.pinned (.plain (OpenSpec.upto topMarksSpec)) topMarksUptoCard
end Rows
end Go.Proofs.YtalijabcedajaaaGreatDoor
