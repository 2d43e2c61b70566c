/-
  DERIVED. GIVEN WITH THE SEED: THE CARDS: each row of YtemomhanchiipaaDoorRows.lean that lists a variable, with what it lists TIED to the program's text (the seventh form; the later family's looks); each row that meets fmt, with fmt's text TOLD by the authors' own Lean function (tested against real Go, not proved from fmt's source: count such statements apart). THE CARD IS WHAT COUNTS. Prove the row's statement (the work); the ties are given (YtemomhanchiipaaDoorTie.lean); close each card by the builder's one call (the guide's Derived/Test/ToyasCard.lean, 'card_holds'). Laid BY PROGRAM, IN A SANDBOX (cutbox-door.mjs). By AI agents, Wed Nov 11 2026. No macro, syntax, notation, axiom, sorry.
-/
import Derived.Test.YtemomhanchiipaaDoorRows
import GoSem.ClaimSeven
namespace Go.Proofs.YtemomhanchiipaaDoor
namespace Rows

/-- THE TIED CARD OF 'bobbinetkeep.TreeText'. -/
def treeTextCard : Claim7 := { stood := { row := treeTextRow, standIns := [], harness := (true, "0fd6bedfc0392664c800c179c5e94a5e5b72236b87783008697b10e0e5a3a9d6"), looks := true }, kinds := [], alts := [], laidByText := true, laidKinds := [.data, .data, .data, .widerDeep, .widerDeep, .sentinel, .sentinel], laidTests := true, laidLooks := .later }
def TreeTextCardSaid : Prop := Claim7.holds Tryd.pinned (.plain (OpenSpec.ofChange treeTextSpec)) treeTextCard

/-- THE TIED CARD OF 'bobbinetkeep.TreeClosed'. -/
def treeClosedCard : Claim7 := { stood := { row := treeClosedRow, standIns := [], harness := (true, "0fd6bedfc0392664c800c179c5e94a5e5b72236b87783008697b10e0e5a3a9d6"), looks := true }, kinds := [], alts := [], laidByText := true, laidKinds := [.data, .data, .data, .widerDeep, .widerDeep, .sentinel, .sentinel], laidTests := true, laidLooks := .later }
def TreeClosedCardSaid : Prop := Claim7.holds Tryd.pinned (.plain (OpenSpec.ofChange treeClosedSpec)) treeClosedCard

/-- THE TIED CARD OF 'bobbinetkeep.TreeDeep'. -/
def treeDeepCard : Claim7 := { stood := { row := treeDeepRow, standIns := [], harness := (true, "0fd6bedfc0392664c800c179c5e94a5e5b72236b87783008697b10e0e5a3a9d6"), looks := true }, kinds := [], alts := [], laidByText := true, laidKinds := [.data, .data, .data, .widerDeep, .widerDeep, .sentinel, .sentinel], laidTests := true, laidLooks := .later }
def TreeDeepCardSaid : Prop := Claim7.holds Tryd.pinned (.plain (OpenSpec.ofChange treeDeepSpec)) treeDeepCard

/-- THE TIED CARD OF 'bobbinetkeep.EmitText'. -/
def emitTextCard : Claim7 := { stood := { row := emitTextRow, standIns := [], harness := (true, "0fd6bedfc0392664c800c179c5e94a5e5b72236b87783008697b10e0e5a3a9d6"), looks := true }, kinds := [], alts := [], laidByText := true, laidKinds := [.data, .data, .data, .sentinel, .sentinel], laidTests := true, laidLooks := .later }
def EmitTextCardSaid : Prop := Claim7.holds Tryd.pinned (.plain (OpenSpec.ofChange emitTextSpec)) emitTextCard

/-- THE SECOND FORM's CARD OF 'bobbinetkeep.TreeText'. -/
def treeTextUptoCard : Claim7 := { stood := { row := treeTextUptoRow, standIns := [], harness := (true, "0fd6bedfc0392664c800c179c5e94a5e5b72236b87783008697b10e0e5a3a9d6"), looks := true }, kinds := [], alts := [], laidByText := true, laidKinds := [.data, .data, .data, .widerDeep, .widerDeep, .sentinel, .sentinel], laidTests := true, laidLooks := .later }
def TreeTextUptoCardSaid : Prop := Claim7.holds Tryd.pinned (.plain (OpenSpec.upto treeTextSpec)) treeTextUptoCard

/-- THE SECOND FORM's CARD OF 'bobbinetkeep.TreeClosed'. -/
def treeClosedUptoCard : Claim7 := { stood := { row := treeClosedUptoRow, standIns := [], harness := (true, "0fd6bedfc0392664c800c179c5e94a5e5b72236b87783008697b10e0e5a3a9d6"), looks := true }, kinds := [], alts := [], laidByText := true, laidKinds := [.data, .data, .data, .widerDeep, .widerDeep, .sentinel, .sentinel], laidTests := true, laidLooks := .later }
def TreeClosedUptoCardSaid : Prop := Claim7.holds Tryd.pinned (.plain (OpenSpec.upto treeClosedSpec)) treeClosedUptoCard

/-- THE SECOND FORM's CARD OF 'bobbinetkeep.TreeDeep'. -/
def treeDeepUptoCard : Claim7 := { stood := { row := treeDeepUptoRow, standIns := [], harness := (true, "0fd6bedfc0392664c800c179c5e94a5e5b72236b87783008697b10e0e5a3a9d6"), looks := true }, kinds := [], alts := [], laidByText := true, laidKinds := [.data, .data, .data, .widerDeep, .widerDeep, .sentinel, .sentinel], laidTests := true, laidLooks := .later }
def TreeDeepUptoCardSaid : Prop := Claim7.holds Tryd.pinned (.plain (OpenSpec.upto treeDeepSpec)) treeDeepUptoCard

/-- THE SECOND FORM's CARD OF 'bobbinetkeep.EmitText'. -/
def emitTextUptoCard : Claim7 := { stood := { row := emitTextUptoRow, standIns := [], harness := (true, "0fd6bedfc0392664c800c179c5e94a5e5b72236b87783008697b10e0e5a3a9d6"), looks := true }, kinds := [], alts := [], laidByText := true, laidKinds := [.data, .data, .data, .sentinel, .sentinel], laidTests := true, laidLooks := .later }
def EmitTextUptoCardSaid : Prop := Claim7.holds Tryd.pinned (.plain (OpenSpec.upto emitTextSpec)) emitTextUptoCard
end Rows
end Go.Proofs.YtemomhanchiipaaDoor
