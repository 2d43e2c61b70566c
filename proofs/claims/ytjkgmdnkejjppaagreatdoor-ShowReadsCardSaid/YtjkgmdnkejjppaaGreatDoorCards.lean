/-
  DERIVED. GIVEN WITH THE SEED: THE CARDS: each row of YtjkgmdnkejjppaaGreatDoorRows.lean that lists a variable, with what it lists TIED to the program's text (the seventh form; the later family's looks); each row that meets fmt, with fmt's text TOLD by the authors' own Lean function (tested against real Go, not proved from fmt's source: count such statements apart). THE CARD IS WHAT COUNTS. Prove the row's statement (the work); the ties are given (YtjkgmdnkejjppaaGreatDoorTie.lean); close each card by the builder's one call (the guide's Derived/Test/ToyasCard.lean, 'card_holds'). Laid BY PROGRAM, IN A SANDBOX (cutbox-door.mjs). By AI agents, Wed Nov 11 2026. No macro, syntax, notation, axiom, sorry.
-/
import Derived.Test.YtjkgmdnkejjppaaGreatDoorRows
import GoSem.ClaimSeven
namespace Go.Proofs.YtjkgmdnkejjppaaGreatDoor
namespace Rows

/-- THE TIED CARD OF 'bobbinetlaw.ShowReads'. -/
def showReadsCard : Claim7 := { stood := { row := showReadsRow, standIns := [], harness := (true, "0f6c7250eb7c7aae5e0104ad8eba108948d50efc75ea96d120d1b3b96e7d38b5"), looks := true }, kinds := [], alts := [], laidByText := true, laidKinds := [.data, .data, .data, .sentinel, .sentinel], laidTests := true, laidLooks := .later }
def ShowReadsCardSaid : Prop := Claim7.holds Tryz.pinned (.plain (OpenSpec.ofChange showReadsSpec)) showReadsCard

/-- THE TIED CARD OF 'bobbinettop.TopMarks'. -/
def topMarksCard : Claim7 := { stood := { row := topMarksRow, standIns := [], harness := (true, "0f6c7250eb7c7aae5e0104ad8eba108948d50efc75ea96d120d1b3b96e7d38b5"), looks := true }, kinds := [], alts := [], laidByText := true, laidKinds := [.data, .data, .data, .widerDeep, .widerDeep, .sentinel, .sentinel, .listed, .data], laidTests := true, laidLooks := .later }
def TopMarksCardSaid : Prop := Claim7.holds Tryz.pinned (.plain (OpenSpec.ofChange topMarksSpec)) topMarksCard

/-- THE SECOND FORM's CARD OF 'bobbinetlaw.ShowReads'. -/
def showReadsUptoCard : Claim7 := { stood := { row := showReadsUptoRow, standIns := [], harness := (true, "0f6c7250eb7c7aae5e0104ad8eba108948d50efc75ea96d120d1b3b96e7d38b5"), looks := true }, kinds := [], alts := [], laidByText := true, laidKinds := [.data, .data, .data, .sentinel, .sentinel], laidTests := true, laidLooks := .later }
def ShowReadsUptoCardSaid : Prop := Claim7.holds Tryz.pinned (.plain (OpenSpec.upto showReadsSpec)) showReadsUptoCard

/-- THE SECOND FORM's CARD OF 'bobbinettop.TopMarks'. -/
def topMarksUptoCard : Claim7 := { stood := { row := topMarksUptoRow, standIns := [], harness := (true, "0f6c7250eb7c7aae5e0104ad8eba108948d50efc75ea96d120d1b3b96e7d38b5"), looks := true }, kinds := [], alts := [], laidByText := true, laidKinds := [.data, .data, .data, .widerDeep, .widerDeep, .sentinel, .sentinel, .listed, .data], laidTests := true, laidLooks := .later }
def TopMarksUptoCardSaid : Prop := Claim7.holds Tryz.pinned (.plain (OpenSpec.upto topMarksSpec)) topMarksUptoCard
end Rows
end Go.Proofs.YtjkgmdnkejjppaaGreatDoor
