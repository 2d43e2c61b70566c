/-
  DERIVED. GIVEN WITH THE SEED: THE CARDS: each row of YtbgonaacheemcaaDoorRows.lean that lists a variable, with what it lists TIED to the program's text (the seventh form; the later family's looks); each row that meets fmt, with fmt's text TOLD by the authors' own Lean function (tested against real Go, not proved from fmt's source: count such statements apart). THE CARD IS WHAT COUNTS. Prove the row's statement (the work); the ties are given (YtbgonaacheemcaaDoorTie.lean); close each card by the builder's one call (the guide's Derived/Test/ToyasCard.lean, 'card_holds'). Laid BY PROGRAM, IN A SANDBOX (cutbox-door.mjs). By AI agents, Wed Nov 11 2026. No macro, syntax, notation, axiom, sorry.
-/
import Derived.Test.YtbgonaacheemcaaDoorRows
import GoSem.ClaimSeven
namespace Go.Proofs.YtbgonaacheemcaaDoor
namespace Rows

/-- THE TIED CARD OF 'bobbinetlaw.TokParses'. -/
def tokParsesCard : Claim7 := { stood := { row := tokParsesRow, standIns := [], harness := (true, "f4711cb64647be1e030f0152527b4c5a0d052bb8fdea5d523359a20341f349aa"), looks := true }, kinds := [], alts := [], laidByText := true, laidKinds := [.data, .data, .data, .sentinel, .sentinel], laidTests := true, laidLooks := .later }
def TokParsesCardSaid : Prop := Claim7.holds Tryd.pinned (.plain (OpenSpec.ofChange tokParsesSpec)) tokParsesCard

/-- THE SECOND FORM's CARD OF 'bobbinetlaw.TokParses'. -/
def tokParsesUptoCard : Claim7 := { stood := { row := tokParsesUptoRow, standIns := [], harness := (true, "f4711cb64647be1e030f0152527b4c5a0d052bb8fdea5d523359a20341f349aa"), looks := true }, kinds := [], alts := [], laidByText := true, laidKinds := [.data, .data, .data, .sentinel, .sentinel], laidTests := true, laidLooks := .later }
def TokParsesUptoCardSaid : Prop := Claim7.holds Tryd.pinned (.plain (OpenSpec.upto tokParsesSpec)) tokParsesUptoCard
end Rows
end Go.Proofs.YtbgonaacheemcaaDoor
