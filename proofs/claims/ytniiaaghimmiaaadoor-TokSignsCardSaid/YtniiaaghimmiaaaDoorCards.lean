/-
  DERIVED. GIVEN WITH THE SEED: THE CARDS: each row of YtniiaaghimmiaaaDoorRows.lean that lists a variable, with what it lists TIED to the program's text (the seventh form; the later family's looks); each row that meets fmt, with fmt's text TOLD by the authors' own Lean function (tested against real Go, not proved from fmt's source: count such statements apart). THE CARD IS WHAT COUNTS. Prove the row's statement (the work); the ties are given (YtniiaaghimmiaaaDoorTie.lean); close each card by the builder's one call (the guide's Derived/Test/ToyasCard.lean, 'card_holds'). Laid BY PROGRAM, IN A SANDBOX (cutbox-door.mjs). By AI agents, Wed Nov 11 2026. No macro, syntax, notation, axiom, sorry.
-/
import Derived.Test.YtniiaaghimmiaaaDoorRows
import GoSem.ClaimSeven
namespace Go.Proofs.YtniiaaghimmiaaaDoor
namespace Rows

/-- THE TIED CARD OF 'bobbinetlaw.TokParses'. -/
def tokParsesCard : Claim7 := { stood := { row := tokParsesRow, standIns := [], harness := (true, "0018432acf72f4a0a6bb9811c021bed8ee03d1d08f06b2abc7408b5cd9bc41a8"), looks := true }, kinds := [], alts := [], laidByText := true, laidKinds := [.data, .data, .data, .sentinel, .sentinel], laidTests := true, laidLooks := .later }
def TokParsesCardSaid : Prop := Claim7.holds Tryd.pinned (.plain (OpenSpec.ofChange tokParsesSpec)) tokParsesCard

/-- THE TIED CARD OF 'bobbinetkeep.TokPlain'. -/
def tokPlainCard : Claim7 := { stood := { row := tokPlainRow, standIns := [], harness := (true, "0018432acf72f4a0a6bb9811c021bed8ee03d1d08f06b2abc7408b5cd9bc41a8"), looks := true }, kinds := [], alts := [], laidByText := true, laidKinds := [.data, .data, .data, .sentinel, .sentinel], laidTests := true, laidLooks := .later }
def TokPlainCardSaid : Prop := Claim7.holds Tryd.pinned (.plain (OpenSpec.ofChange tokPlainSpec)) tokPlainCard

/-- THE TIED CARD OF 'bobbinetkeep.TokParts'. -/
def tokPartsCard : Claim7 := { stood := { row := tokPartsRow, standIns := [], harness := (true, "0018432acf72f4a0a6bb9811c021bed8ee03d1d08f06b2abc7408b5cd9bc41a8"), looks := true }, kinds := [], alts := [], laidByText := true, laidKinds := [.data, .data, .data, .sentinel, .sentinel], laidTests := true, laidLooks := .later }
def TokPartsCardSaid : Prop := Claim7.holds Tryd.pinned (.plain (OpenSpec.ofChange tokPartsSpec)) tokPartsCard

/-- THE TIED CARD OF 'bobbinetkeep.TokSigns'. -/
def tokSignsCard : Claim7 := { stood := { row := tokSignsRow, standIns := [], harness := (true, "0018432acf72f4a0a6bb9811c021bed8ee03d1d08f06b2abc7408b5cd9bc41a8"), looks := true }, kinds := [], alts := [], laidByText := true, laidKinds := [.data, .data, .data, .sentinel, .sentinel], laidTests := true, laidLooks := .later }
def TokSignsCardSaid : Prop := Claim7.holds Tryd.pinned (.plain (OpenSpec.ofChange tokSignsSpec)) tokSignsCard

/-- THE TIED CARD OF 'bobbinetkeep.TokPrefix'. -/
def tokPrefixCard : Claim7 := { stood := { row := tokPrefixRow, standIns := [], harness := (true, "0018432acf72f4a0a6bb9811c021bed8ee03d1d08f06b2abc7408b5cd9bc41a8"), looks := true }, kinds := [], alts := [], laidByText := true, laidKinds := [.data, .data, .data, .sentinel, .sentinel], laidTests := true, laidLooks := .later }
def TokPrefixCardSaid : Prop := Claim7.holds Tryd.pinned (.plain (OpenSpec.ofChange tokPrefixSpec)) tokPrefixCard

/-- THE TIED CARD OF 'bobbinetkeep.TokSmall'. -/
def tokSmallCard : Claim7 := { stood := { row := tokSmallRow, standIns := [], harness := (true, "0018432acf72f4a0a6bb9811c021bed8ee03d1d08f06b2abc7408b5cd9bc41a8"), looks := true }, kinds := [], alts := [], laidByText := true, laidKinds := [.data, .data, .data, .sentinel, .sentinel], laidTests := true, laidLooks := .later }
def TokSmallCardSaid : Prop := Claim7.holds Tryd.pinned (.plain (OpenSpec.ofChange tokSmallSpec)) tokSmallCard

/-- THE SECOND FORM's CARD OF 'bobbinetlaw.TokParses'. -/
def tokParsesUptoCard : Claim7 := { stood := { row := tokParsesUptoRow, standIns := [], harness := (true, "0018432acf72f4a0a6bb9811c021bed8ee03d1d08f06b2abc7408b5cd9bc41a8"), looks := true }, kinds := [], alts := [], laidByText := true, laidKinds := [.data, .data, .data, .sentinel, .sentinel], laidTests := true, laidLooks := .later }
def TokParsesUptoCardSaid : Prop := Claim7.holds Tryd.pinned (.plain (OpenSpec.upto tokParsesSpec)) tokParsesUptoCard

/-- THE SECOND FORM's CARD OF 'bobbinetkeep.TokPlain'. -/
def tokPlainUptoCard : Claim7 := { stood := { row := tokPlainUptoRow, standIns := [], harness := (true, "0018432acf72f4a0a6bb9811c021bed8ee03d1d08f06b2abc7408b5cd9bc41a8"), looks := true }, kinds := [], alts := [], laidByText := true, laidKinds := [.data, .data, .data, .sentinel, .sentinel], laidTests := true, laidLooks := .later }
def TokPlainUptoCardSaid : Prop := Claim7.holds Tryd.pinned (.plain (OpenSpec.upto tokPlainSpec)) tokPlainUptoCard

/-- THE SECOND FORM's CARD OF 'bobbinetkeep.TokParts'. -/
def tokPartsUptoCard : Claim7 := { stood := { row := tokPartsUptoRow, standIns := [], harness := (true, "0018432acf72f4a0a6bb9811c021bed8ee03d1d08f06b2abc7408b5cd9bc41a8"), looks := true }, kinds := [], alts := [], laidByText := true, laidKinds := [.data, .data, .data, .sentinel, .sentinel], laidTests := true, laidLooks := .later }
def TokPartsUptoCardSaid : Prop := Claim7.holds Tryd.pinned (.plain (OpenSpec.upto tokPartsSpec)) tokPartsUptoCard

/-- THE SECOND FORM's CARD OF 'bobbinetkeep.TokSigns'. -/
def tokSignsUptoCard : Claim7 := { stood := { row := tokSignsUptoRow, standIns := [], harness := (true, "0018432acf72f4a0a6bb9811c021bed8ee03d1d08f06b2abc7408b5cd9bc41a8"), looks := true }, kinds := [], alts := [], laidByText := true, laidKinds := [.data, .data, .data, .sentinel, .sentinel], laidTests := true, laidLooks := .later }
def TokSignsUptoCardSaid : Prop := Claim7.holds Tryd.pinned (.plain (OpenSpec.upto tokSignsSpec)) tokSignsUptoCard

/-- THE SECOND FORM's CARD OF 'bobbinetkeep.TokPrefix'. -/
def tokPrefixUptoCard : Claim7 := { stood := { row := tokPrefixUptoRow, standIns := [], harness := (true, "0018432acf72f4a0a6bb9811c021bed8ee03d1d08f06b2abc7408b5cd9bc41a8"), looks := true }, kinds := [], alts := [], laidByText := true, laidKinds := [.data, .data, .data, .sentinel, .sentinel], laidTests := true, laidLooks := .later }
def TokPrefixUptoCardSaid : Prop := Claim7.holds Tryd.pinned (.plain (OpenSpec.upto tokPrefixSpec)) tokPrefixUptoCard

/-- THE SECOND FORM's CARD OF 'bobbinetkeep.TokSmall'. -/
def tokSmallUptoCard : Claim7 := { stood := { row := tokSmallUptoRow, standIns := [], harness := (true, "0018432acf72f4a0a6bb9811c021bed8ee03d1d08f06b2abc7408b5cd9bc41a8"), looks := true }, kinds := [], alts := [], laidByText := true, laidKinds := [.data, .data, .data, .sentinel, .sentinel], laidTests := true, laidLooks := .later }
def TokSmallUptoCardSaid : Prop := Claim7.holds Tryd.pinned (.plain (OpenSpec.upto tokSmallSpec)) tokSmallUptoCard
end Rows
end Go.Proofs.YtniiaaghimmiaaaDoor
