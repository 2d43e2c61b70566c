/-
  DERIVED. GIVEN WITH THE SEED: THE CARDS: each row of YtemomhanchiipaaGreatDoorRows.lean that lists a variable, with what it lists TIED to the program's text (the seventh form; the later family's looks); each row that meets fmt, with fmt's text TOLD by the authors' own Lean function (tested against real Go, not proved from fmt's source: count such statements apart). THE CARD IS WHAT COUNTS. Prove the row's statement (the work); the ties are given (YtemomhanchiipaaGreatDoorTie.lean); close each card by the builder's one call (the guide's Derived/Test/ToyasCard.lean, 'card_holds'). Laid BY PROGRAM, IN A SANDBOX (cutbox-door.mjs). By AI agents, Wed Nov 11 2026. No macro, syntax, notation, axiom, sorry.
-/
import Derived.Test.YtemomhanchiipaaGreatDoorRows
import GoSem.ClaimSeven
namespace Go.Proofs.YtemomhanchiipaaGreatDoor
namespace Rows

/-- THE TIED CARD OF 'bobbinettop.TopClean'. -/
def topCleanCard : Claim7 := { stood := { row := topCleanRow, standIns := [], harness := (true, "e8b8c749676c3c699d5e0ad7ef4d4c3c4beadd2cff914a2c4f6e4287446704f2"), looks := true }, kinds := [], alts := [], laidByText := true, laidKinds := [.data, .data, .data, .widerDeep, .widerDeep, .sentinel, .sentinel], laidTests := true, laidLooks := .later }
def TopCleanCardSaid : Prop := Claim7.holds Tryz.pinned (.plain (OpenSpec.ofChange topCleanSpec)) topCleanCard

/-- THE TIED CARD OF 'bobbinetkeep.EmitBack'. -/
def emitBackCard : Claim7 := { stood := { row := emitBackRow, standIns := [], harness := (true, "e8b8c749676c3c699d5e0ad7ef4d4c3c4beadd2cff914a2c4f6e4287446704f2"), looks := true }, kinds := [], alts := [], laidByText := true, laidKinds := [.data, .data, .data, .sentinel, .sentinel], laidTests := true, laidLooks := .later }
def EmitBackCardSaid : Prop := Claim7.holds Tryz.pinned (.plain (OpenSpec.ofChange emitBackSpec)) emitBackCard

/-- THE TIED CARD OF 'bobbinetkeep.EmitAgain'. -/
def emitAgainCard : Claim7 := { stood := { row := emitAgainRow, standIns := [], harness := (true, "e8b8c749676c3c699d5e0ad7ef4d4c3c4beadd2cff914a2c4f6e4287446704f2"), looks := true }, kinds := [], alts := [], laidByText := true, laidKinds := [.data, .data, .data, .sentinel, .sentinel], laidTests := true, laidLooks := .later }
def EmitAgainCardSaid : Prop := Claim7.holds Tryz.pinned (.plain (OpenSpec.ofChange emitAgainSpec)) emitAgainCard

/-- THE TIED CARD OF 'bobbinetkeep.SpaceTree'. -/
def spaceTreeCard : Claim7 := { stood := { row := spaceTreeRow, standIns := [], harness := (true, "e8b8c749676c3c699d5e0ad7ef4d4c3c4beadd2cff914a2c4f6e4287446704f2"), looks := true }, kinds := [], alts := [], laidByText := true, laidKinds := [.data, .data, .data, .widerDeep, .widerDeep, .sentinel, .sentinel], laidTests := true, laidLooks := .later }
def SpaceTreeCardSaid : Prop := Claim7.holds Tryz.pinned (.plain (OpenSpec.ofChange spaceTreeSpec)) spaceTreeCard

/-- THE TIED CARD OF 'bobbinetkeep.SpaceLetters'. -/
def spaceLettersCard : Claim7 := { stood := { row := spaceLettersRow, standIns := [], harness := (true, "e8b8c749676c3c699d5e0ad7ef4d4c3c4beadd2cff914a2c4f6e4287446704f2"), looks := true }, kinds := [], alts := [], laidByText := true, laidKinds := [.data, .data, .data, .widerDeep, .widerDeep, .sentinel, .sentinel], laidTests := true, laidLooks := .later }
def SpaceLettersCardSaid : Prop := Claim7.holds Tryz.pinned (.plain (OpenSpec.ofChange spaceLettersSpec)) spaceLettersCard

/-- THE TIED CARD OF 'bobbinetkeep.ShowBack'. -/
def showBackCard : Claim7 := { stood := { row := showBackRow, standIns := [], harness := (true, "e8b8c749676c3c699d5e0ad7ef4d4c3c4beadd2cff914a2c4f6e4287446704f2"), looks := true }, kinds := [], alts := [], laidByText := true, laidKinds := [.data, .data, .data, .sentinel, .sentinel], laidTests := true, laidLooks := .later }
def ShowBackCardSaid : Prop := Claim7.holds Tryz.pinned (.plain (OpenSpec.ofChange showBackSpec)) showBackCard

/-- THE TIED CARD OF 'bobbinetkeep.ShowFixed'. -/
def showFixedCard : Claim7 := { stood := { row := showFixedRow, standIns := [], harness := (true, "e8b8c749676c3c699d5e0ad7ef4d4c3c4beadd2cff914a2c4f6e4287446704f2"), looks := true }, kinds := [], alts := [], laidByText := true, laidKinds := [.data, .data, .data, .sentinel, .sentinel], laidTests := true, laidLooks := .later }
def ShowFixedCardSaid : Prop := Claim7.holds Tryz.pinned (.plain (OpenSpec.ofChange showFixedSpec)) showFixedCard

/-- THE TIED CARD OF 'bobbinetkeep.ShowBuilt'. -/
def showBuiltCard : Claim7 := { stood := { row := showBuiltRow, standIns := [], harness := (true, "e8b8c749676c3c699d5e0ad7ef4d4c3c4beadd2cff914a2c4f6e4287446704f2"), looks := true }, kinds := [], alts := [], laidByText := true, laidKinds := [.data, .data, .data, .widerDeep, .widerDeep, .sentinel, .sentinel], laidTests := true, laidLooks := .later }
def ShowBuiltCardSaid : Prop := Claim7.holds Tryz.pinned (.plain (OpenSpec.ofChange showBuiltSpec)) showBuiltCard

/-- THE SECOND FORM's CARD OF 'bobbinettop.TopClean'. -/
def topCleanUptoCard : Claim7 := { stood := { row := topCleanUptoRow, standIns := [], harness := (true, "e8b8c749676c3c699d5e0ad7ef4d4c3c4beadd2cff914a2c4f6e4287446704f2"), looks := true }, kinds := [], alts := [], laidByText := true, laidKinds := [.data, .data, .data, .widerDeep, .widerDeep, .sentinel, .sentinel], laidTests := true, laidLooks := .later }
def TopCleanUptoCardSaid : Prop := Claim7.holds Tryz.pinned (.plain (OpenSpec.upto topCleanSpec)) topCleanUptoCard

/-- THE SECOND FORM's CARD OF 'bobbinetkeep.EmitBack'. -/
def emitBackUptoCard : Claim7 := { stood := { row := emitBackUptoRow, standIns := [], harness := (true, "e8b8c749676c3c699d5e0ad7ef4d4c3c4beadd2cff914a2c4f6e4287446704f2"), looks := true }, kinds := [], alts := [], laidByText := true, laidKinds := [.data, .data, .data, .sentinel, .sentinel], laidTests := true, laidLooks := .later }
def EmitBackUptoCardSaid : Prop := Claim7.holds Tryz.pinned (.plain (OpenSpec.upto emitBackSpec)) emitBackUptoCard

/-- THE SECOND FORM's CARD OF 'bobbinetkeep.EmitAgain'. -/
def emitAgainUptoCard : Claim7 := { stood := { row := emitAgainUptoRow, standIns := [], harness := (true, "e8b8c749676c3c699d5e0ad7ef4d4c3c4beadd2cff914a2c4f6e4287446704f2"), looks := true }, kinds := [], alts := [], laidByText := true, laidKinds := [.data, .data, .data, .sentinel, .sentinel], laidTests := true, laidLooks := .later }
def EmitAgainUptoCardSaid : Prop := Claim7.holds Tryz.pinned (.plain (OpenSpec.upto emitAgainSpec)) emitAgainUptoCard

/-- THE SECOND FORM's CARD OF 'bobbinetkeep.SpaceTree'. -/
def spaceTreeUptoCard : Claim7 := { stood := { row := spaceTreeUptoRow, standIns := [], harness := (true, "e8b8c749676c3c699d5e0ad7ef4d4c3c4beadd2cff914a2c4f6e4287446704f2"), looks := true }, kinds := [], alts := [], laidByText := true, laidKinds := [.data, .data, .data, .widerDeep, .widerDeep, .sentinel, .sentinel], laidTests := true, laidLooks := .later }
def SpaceTreeUptoCardSaid : Prop := Claim7.holds Tryz.pinned (.plain (OpenSpec.upto spaceTreeSpec)) spaceTreeUptoCard

/-- THE SECOND FORM's CARD OF 'bobbinetkeep.SpaceLetters'. -/
def spaceLettersUptoCard : Claim7 := { stood := { row := spaceLettersUptoRow, standIns := [], harness := (true, "e8b8c749676c3c699d5e0ad7ef4d4c3c4beadd2cff914a2c4f6e4287446704f2"), looks := true }, kinds := [], alts := [], laidByText := true, laidKinds := [.data, .data, .data, .widerDeep, .widerDeep, .sentinel, .sentinel], laidTests := true, laidLooks := .later }
def SpaceLettersUptoCardSaid : Prop := Claim7.holds Tryz.pinned (.plain (OpenSpec.upto spaceLettersSpec)) spaceLettersUptoCard

/-- THE SECOND FORM's CARD OF 'bobbinetkeep.ShowBack'. -/
def showBackUptoCard : Claim7 := { stood := { row := showBackUptoRow, standIns := [], harness := (true, "e8b8c749676c3c699d5e0ad7ef4d4c3c4beadd2cff914a2c4f6e4287446704f2"), looks := true }, kinds := [], alts := [], laidByText := true, laidKinds := [.data, .data, .data, .sentinel, .sentinel], laidTests := true, laidLooks := .later }
def ShowBackUptoCardSaid : Prop := Claim7.holds Tryz.pinned (.plain (OpenSpec.upto showBackSpec)) showBackUptoCard

/-- THE SECOND FORM's CARD OF 'bobbinetkeep.ShowFixed'. -/
def showFixedUptoCard : Claim7 := { stood := { row := showFixedUptoRow, standIns := [], harness := (true, "e8b8c749676c3c699d5e0ad7ef4d4c3c4beadd2cff914a2c4f6e4287446704f2"), looks := true }, kinds := [], alts := [], laidByText := true, laidKinds := [.data, .data, .data, .sentinel, .sentinel], laidTests := true, laidLooks := .later }
def ShowFixedUptoCardSaid : Prop := Claim7.holds Tryz.pinned (.plain (OpenSpec.upto showFixedSpec)) showFixedUptoCard

/-- THE SECOND FORM's CARD OF 'bobbinetkeep.ShowBuilt'. -/
def showBuiltUptoCard : Claim7 := { stood := { row := showBuiltUptoRow, standIns := [], harness := (true, "e8b8c749676c3c699d5e0ad7ef4d4c3c4beadd2cff914a2c4f6e4287446704f2"), looks := true }, kinds := [], alts := [], laidByText := true, laidKinds := [.data, .data, .data, .widerDeep, .widerDeep, .sentinel, .sentinel], laidTests := true, laidLooks := .later }
def ShowBuiltUptoCardSaid : Prop := Claim7.holds Tryz.pinned (.plain (OpenSpec.upto showBuiltSpec)) showBuiltUptoCard
end Rows
end Go.Proofs.YtemomhanchiipaaGreatDoor
