/-
  NARROWER THAN 'FOR EVERY INPUT', by the rows' own cells (each row's printed sentence says how): TopClean: laid · EmitBack: laid · EmitAgain: laid · SpaceTree: laid · SpaceLetters: laid · ShowBack: laid · ShowFixed: laid · ShowBuilt: laid.
  DERIVED. THE GIVEN ROWS OF THIS SEAT. 8 by the template 'for every input the law returns true; each argument reads behind the call as it read before'; 0 by the template 'total and deterministic' (their statements: YtemomhanchiipaaGreatDoorTotals.lean).
  GIVEN WITH THE SEED: the statements are not yours to turn. If you find one false, say at which input.
  Laid BY PROGRAM, IN A SANDBOX (cutbox-rows.mjs): the forced cells as the released guide's own fill.sh prints them over the translation 3c9327e33817d5d9… (all of the seat's roots in one cut). By AI agents, Wed Nov 11 2026. No macro, syntax, notation, axiom, sorry.
-/
import Derived.Test.YtemomhanchiipaaGreatDoorChecked
import GoSem.Claim
import GoSem.ClaimJoined
import GoSem.ClaimMapViews
import Derived.JoinedTies
import Derived.KernelRfl
namespace Go.Proofs.YtemomhanchiipaaGreatDoor
/- THE CELL 'sum', in the pinned program and in every row, IS THE sha256 OF THE DUMP (.gsa) THAT YtemomhanchiipaaGreatDoorProg.lean LOADS. Nothing in Lean hashes anything: it is a label: what it is worth is what the hold of that sum in a sandbox is worth. -/
noncomputable def Tryz.pinned : Pinned := { name := "ytemomhanchiipaagreatdoor", sum := "3c9327e33817d5d98e25e550f56037cd52161f2b8e445a26b92902b6e2f4a3a1", checked := Tryz.checked }
namespace Rows
def none {H : Type} : Left H := { results := [], args := [] }

/- WHAT THE LISTED PACKAGE-LEVEL VARIABLES READ AS WHEN THE CALL BEGINS. Each datum BY PROGRAM (the guide's laid-datum.mjs) off the statement by which the dump's own 'gosem.cut.vars' lays the variable. In a bare row this is a premise. The card (YtemomhanchiipaaGreatDoorCards.lean) ties it to the program's text. -/
def laid_math_bits_deBruijn32tab {H : Type} : DataW H := .agg [.lit (.int .u8 0), .lit (.int .u8 1), .lit (.int .u8 28), .lit (.int .u8 2), .lit (.int .u8 29), .lit (.int .u8 14), .lit (.int .u8 24), .lit (.int .u8 3), .lit (.int .u8 30), .lit (.int .u8 22), .lit (.int .u8 20), .lit (.int .u8 15), .lit (.int .u8 25), .lit (.int .u8 17), .lit (.int .u8 4), .lit (.int .u8 8), .lit (.int .u8 31), .lit (.int .u8 27), .lit (.int .u8 13), .lit (.int .u8 23), .lit (.int .u8 21), .lit (.int .u8 19), .lit (.int .u8 16), .lit (.int .u8 7), .lit (.int .u8 26), .lit (.int .u8 12), .lit (.int .u8 18), .lit (.int .u8 6), .lit (.int .u8 11), .lit (.int .u8 5), .lit (.int .u8 10), .lit (.int .u8 9)]
def laid_math_bits_deBruijn64tab {H : Type} : DataW H := .agg [.lit (.int .u8 0), .lit (.int .u8 1), .lit (.int .u8 56), .lit (.int .u8 2), .lit (.int .u8 57), .lit (.int .u8 49), .lit (.int .u8 28), .lit (.int .u8 3), .lit (.int .u8 61), .lit (.int .u8 58), .lit (.int .u8 42), .lit (.int .u8 50), .lit (.int .u8 38), .lit (.int .u8 29), .lit (.int .u8 17), .lit (.int .u8 4), .lit (.int .u8 62), .lit (.int .u8 47), .lit (.int .u8 59), .lit (.int .u8 36), .lit (.int .u8 45), .lit (.int .u8 43), .lit (.int .u8 51), .lit (.int .u8 22), .lit (.int .u8 53), .lit (.int .u8 39), .lit (.int .u8 33), .lit (.int .u8 30), .lit (.int .u8 24), .lit (.int .u8 18), .lit (.int .u8 12), .lit (.int .u8 5), .lit (.int .u8 63), .lit (.int .u8 55), .lit (.int .u8 48), .lit (.int .u8 27), .lit (.int .u8 60), .lit (.int .u8 41), .lit (.int .u8 37), .lit (.int .u8 16), .lit (.int .u8 46), .lit (.int .u8 35), .lit (.int .u8 44), .lit (.int .u8 21), .lit (.int .u8 52), .lit (.int .u8 32), .lit (.int .u8 23), .lit (.int .u8 11), .lit (.int .u8 54), .lit (.int .u8 26), .lit (.int .u8 40), .lit (.int .u8 15), .lit (.int .u8 34), .lit (.int .u8 20), .lit (.int .u8 31), .lit (.int .u8 10), .lit (.int .u8 25), .lit (.int .u8 14), .lit (.int .u8 19), .lit (.int .u8 9), .lit (.int .u8 13), .lit (.int .u8 8), .lit (.int .u8 7), .lit (.int .u8 6)]
def laid_internal_strconv_uint64pow10 {H : Type} : DataW H := .agg [.lit (.int .u64 1), .lit (.int .u64 10), .lit (.int .u64 100), .lit (.int .u64 1000), .lit (.int .u64 10000), .lit (.int .u64 100000), .lit (.int .u64 1000000), .lit (.int .u64 10000000), .lit (.int .u64 100000000), .lit (.int .u64 1000000000), .lit (.int .u64 10000000000), .lit (.int .u64 100000000000), .lit (.int .u64 1000000000000), .lit (.int .u64 10000000000000), .lit (.int .u64 100000000000000), .lit (.int .u64 1000000000000000), .lit (.int .u64 10000000000000000), .lit (.int .u64 100000000000000000), .lit (.int .u64 1000000000000000000), .lit (.int .u64 10000000000000000000)]
def laid_bobbinet_tree_blocks {H : Type} : DataW H := .agg [.lit (.string [112]), .lit (.string [100, 105, 118]), .lit (.string [117, 108]), .lit (.string [111, 108]), .lit (.string [108, 105]), .lit (.string [104, 49]), .lit (.string [104, 50]), .lit (.string [116, 97, 98, 108, 101]), .lit (.string [98, 108, 111, 99, 107, 113, 117, 111, 116, 101])]
def laid_bobbinet_tree_voids {H : Type} : DataW H := .agg [.lit (.string [98, 114]), .lit (.string [104, 114]), .lit (.string [105, 109, 103]), .lit (.string [105, 110, 112, 117, 116])]
def laid_strconv_ErrRange {H : Type} : DataW H := .iface "*errors.errorString" (.ptr (.agg [.lit (.string [118, 97, 108, 117, 101, 32, 111, 117, 116, 32, 111, 102, 32, 114, 97, 110, 103, 101])]))
def laid_strconv_ErrSyntax {H : Type} : DataW H := .iface "*errors.errorString" (.ptr (.agg [.lit (.string [105, 110, 118, 97, 108, 105, 100, 32, 115, 121, 110, 116, 97, 120])]))

/-- 'bobbinettop.TopClean': WHATEVER THE INPUT: true; the input reads as it did. -/
def topCleanSpec : ChangeSpec := { name := "topClean", fn := fun _ => fun
  | [d] => { results := [.lit (.bool true)], args := [d] }
  | _ => none }
def topCleanRow : OpenClaim := { program := "ytemomhanchiipaagreatdoor", sum := "3c9327e33817d5d98e25e550f56037cd52161f2b8e445a26b92902b6e2f4a3a1", func := "bobbinet/bobbinettop.TopClean", spec := "topClean", inPlace := ["internal/abi.NoEscape", "internal/bytealg.IndexByteString", "internal/bytealg.IndexString"], unfollowed := true, recurses := true, named := ["strconv.ErrSyntax", "strconv.ErrRange", "internal/strconv.uint64pow10", "math/bits.deBruijn32tab", "math/bits.deBruijn64tab", "internal/bytealg.MaxLen", "bobbinet/tree.blocks", "bobbinet/tree.voids"], apart := false, laid := [("math/bits.deBruijn32tab", laid_math_bits_deBruijn32tab), ("math/bits.deBruijn64tab", laid_math_bits_deBruijn64tab), ("internal/strconv.uint64pow10", laid_internal_strconv_uint64pow10), ("bobbinet/tree.blocks", laid_bobbinet_tree_blocks), ("bobbinet/tree.voids", laid_bobbinet_tree_voids), ("strconv.ErrRange", laid_strconv_ErrRange), ("strconv.ErrSyntax", laid_strconv_ErrSyntax)] }
def TopCleanSaid : Prop := topCleanRow.holds Tryz.pinned (OpenSpec.ofChange topCleanSpec)

/-- ITS FALSE NEIGHBOUR: 'it returns false'. Refute it at one input. -/
def topCleanWrong : ChangeSpec := { name := "topClean", fn := fun _ => fun
  | [d] => { results := [.lit (.bool false)], args := [d] }
  | _ => none }
def TopCleanWrongFalsely : Prop := topCleanRow.holds Tryz.pinned (OpenSpec.ofChange topCleanWrong)

/-- 'bobbinetkeep.EmitBack': WHATEVER THE INPUT: true; the input reads as it did. -/
def emitBackSpec : ChangeSpec := { name := "emitBack", fn := fun _ => fun
  | [d] => { results := [.lit (.bool true)], args := [d] }
  | _ => none }
def emitBackRow : OpenClaim := { program := "ytemomhanchiipaagreatdoor", sum := "3c9327e33817d5d98e25e550f56037cd52161f2b8e445a26b92902b6e2f4a3a1", func := "bobbinet/bobbinetkeep.EmitBack", spec := "emitBack", inPlace := ["internal/abi.NoEscape", "internal/bytealg.IndexByteString", "internal/bytealg.IndexString"], unfollowed := true, recurses := true, named := ["strconv.ErrSyntax", "strconv.ErrRange", "internal/strconv.uint64pow10", "math/bits.deBruijn32tab", "math/bits.deBruijn64tab", "internal/bytealg.MaxLen"], apart := false, laid := [("math/bits.deBruijn32tab", laid_math_bits_deBruijn32tab), ("math/bits.deBruijn64tab", laid_math_bits_deBruijn64tab), ("internal/strconv.uint64pow10", laid_internal_strconv_uint64pow10), ("strconv.ErrRange", laid_strconv_ErrRange), ("strconv.ErrSyntax", laid_strconv_ErrSyntax)] }
def EmitBackSaid : Prop := emitBackRow.holds Tryz.pinned (OpenSpec.ofChange emitBackSpec)

/-- ITS FALSE NEIGHBOUR: 'it returns false'. Refute it at one input. -/
def emitBackWrong : ChangeSpec := { name := "emitBack", fn := fun _ => fun
  | [d] => { results := [.lit (.bool false)], args := [d] }
  | _ => none }
def EmitBackWrongFalsely : Prop := emitBackRow.holds Tryz.pinned (OpenSpec.ofChange emitBackWrong)

/-- 'bobbinetkeep.EmitAgain': WHATEVER THE INPUT: true; the input reads as it did. -/
def emitAgainSpec : ChangeSpec := { name := "emitAgain", fn := fun _ => fun
  | [d] => { results := [.lit (.bool true)], args := [d] }
  | _ => none }
def emitAgainRow : OpenClaim := { program := "ytemomhanchiipaagreatdoor", sum := "3c9327e33817d5d98e25e550f56037cd52161f2b8e445a26b92902b6e2f4a3a1", func := "bobbinet/bobbinetkeep.EmitAgain", spec := "emitAgain", inPlace := ["internal/bytealg.IndexByteString", "internal/bytealg.IndexString", "internal/abi.NoEscape"], unfollowed := true, recurses := true, named := ["strconv.ErrSyntax", "strconv.ErrRange", "internal/strconv.uint64pow10", "math/bits.deBruijn32tab", "math/bits.deBruijn64tab", "internal/bytealg.MaxLen"], apart := false, laid := [("math/bits.deBruijn32tab", laid_math_bits_deBruijn32tab), ("math/bits.deBruijn64tab", laid_math_bits_deBruijn64tab), ("internal/strconv.uint64pow10", laid_internal_strconv_uint64pow10), ("strconv.ErrRange", laid_strconv_ErrRange), ("strconv.ErrSyntax", laid_strconv_ErrSyntax)] }
def EmitAgainSaid : Prop := emitAgainRow.holds Tryz.pinned (OpenSpec.ofChange emitAgainSpec)

/-- ITS FALSE NEIGHBOUR: 'it returns false'. Refute it at one input. -/
def emitAgainWrong : ChangeSpec := { name := "emitAgain", fn := fun _ => fun
  | [d] => { results := [.lit (.bool false)], args := [d] }
  | _ => none }
def EmitAgainWrongFalsely : Prop := emitAgainRow.holds Tryz.pinned (OpenSpec.ofChange emitAgainWrong)

/-- 'bobbinetkeep.SpaceTree': WHATEVER THE INPUT: true; the input reads as it did. -/
def spaceTreeSpec : ChangeSpec := { name := "spaceTree", fn := fun _ => fun
  | [d] => { results := [.lit (.bool true)], args := [d] }
  | _ => none }
def spaceTreeRow : OpenClaim := { program := "ytemomhanchiipaagreatdoor", sum := "3c9327e33817d5d98e25e550f56037cd52161f2b8e445a26b92902b6e2f4a3a1", func := "bobbinet/bobbinetkeep.SpaceTree", spec := "spaceTree", inPlace := ["internal/bytealg.IndexByteString", "internal/bytealg.IndexString", "internal/abi.NoEscape"], unfollowed := true, recurses := true, named := ["strconv.ErrSyntax", "strconv.ErrRange", "internal/strconv.uint64pow10", "math/bits.deBruijn32tab", "math/bits.deBruijn64tab", "internal/bytealg.MaxLen", "bobbinet/tree.blocks", "bobbinet/tree.voids"], apart := false, laid := [("math/bits.deBruijn32tab", laid_math_bits_deBruijn32tab), ("math/bits.deBruijn64tab", laid_math_bits_deBruijn64tab), ("internal/strconv.uint64pow10", laid_internal_strconv_uint64pow10), ("bobbinet/tree.blocks", laid_bobbinet_tree_blocks), ("bobbinet/tree.voids", laid_bobbinet_tree_voids), ("strconv.ErrRange", laid_strconv_ErrRange), ("strconv.ErrSyntax", laid_strconv_ErrSyntax)] }
def SpaceTreeSaid : Prop := spaceTreeRow.holds Tryz.pinned (OpenSpec.ofChange spaceTreeSpec)

/-- ITS FALSE NEIGHBOUR: 'it returns false'. Refute it at one input. -/
def spaceTreeWrong : ChangeSpec := { name := "spaceTree", fn := fun _ => fun
  | [d] => { results := [.lit (.bool false)], args := [d] }
  | _ => none }
def SpaceTreeWrongFalsely : Prop := spaceTreeRow.holds Tryz.pinned (OpenSpec.ofChange spaceTreeWrong)

/-- 'bobbinetkeep.SpaceLetters': WHATEVER THE INPUT: true; the input reads as it did. -/
def spaceLettersSpec : ChangeSpec := { name := "spaceLetters", fn := fun _ => fun
  | [d] => { results := [.lit (.bool true)], args := [d] }
  | _ => none }
def spaceLettersRow : OpenClaim := { program := "ytemomhanchiipaagreatdoor", sum := "3c9327e33817d5d98e25e550f56037cd52161f2b8e445a26b92902b6e2f4a3a1", func := "bobbinet/bobbinetkeep.SpaceLetters", spec := "spaceLetters", inPlace := ["internal/bytealg.IndexByteString", "internal/bytealg.IndexString", "internal/abi.NoEscape"], unfollowed := true, recurses := true, named := ["strconv.ErrSyntax", "strconv.ErrRange", "internal/strconv.uint64pow10", "math/bits.deBruijn32tab", "math/bits.deBruijn64tab", "internal/bytealg.MaxLen", "bobbinet/tree.blocks", "bobbinet/tree.voids"], apart := false, laid := [("math/bits.deBruijn32tab", laid_math_bits_deBruijn32tab), ("math/bits.deBruijn64tab", laid_math_bits_deBruijn64tab), ("internal/strconv.uint64pow10", laid_internal_strconv_uint64pow10), ("bobbinet/tree.blocks", laid_bobbinet_tree_blocks), ("bobbinet/tree.voids", laid_bobbinet_tree_voids), ("strconv.ErrRange", laid_strconv_ErrRange), ("strconv.ErrSyntax", laid_strconv_ErrSyntax)] }
def SpaceLettersSaid : Prop := spaceLettersRow.holds Tryz.pinned (OpenSpec.ofChange spaceLettersSpec)

/-- ITS FALSE NEIGHBOUR: 'it returns false'. Refute it at one input. -/
def spaceLettersWrong : ChangeSpec := { name := "spaceLetters", fn := fun _ => fun
  | [d] => { results := [.lit (.bool false)], args := [d] }
  | _ => none }
def SpaceLettersWrongFalsely : Prop := spaceLettersRow.holds Tryz.pinned (OpenSpec.ofChange spaceLettersWrong)

/-- 'bobbinetkeep.ShowBack': WHATEVER THE INPUT: true; the input reads as it did. -/
def showBackSpec : ChangeSpec := { name := "showBack", fn := fun _ => fun
  | [d] => { results := [.lit (.bool true)], args := [d] }
  | _ => none }
def showBackRow : OpenClaim := { program := "ytemomhanchiipaagreatdoor", sum := "3c9327e33817d5d98e25e550f56037cd52161f2b8e445a26b92902b6e2f4a3a1", func := "bobbinet/bobbinetkeep.ShowBack", spec := "showBack", inPlace := ["internal/abi.NoEscape", "internal/bytealg.IndexByteString", "internal/bytealg.IndexString"], unfollowed := true, recurses := true, named := ["strconv.ErrSyntax", "strconv.ErrRange", "internal/strconv.uint64pow10", "math/bits.deBruijn32tab", "math/bits.deBruijn64tab", "internal/bytealg.MaxLen"], apart := false, laid := [("math/bits.deBruijn32tab", laid_math_bits_deBruijn32tab), ("math/bits.deBruijn64tab", laid_math_bits_deBruijn64tab), ("internal/strconv.uint64pow10", laid_internal_strconv_uint64pow10), ("strconv.ErrRange", laid_strconv_ErrRange), ("strconv.ErrSyntax", laid_strconv_ErrSyntax)] }
def ShowBackSaid : Prop := showBackRow.holds Tryz.pinned (OpenSpec.ofChange showBackSpec)

/-- ITS FALSE NEIGHBOUR: 'it returns false'. Refute it at one input. -/
def showBackWrong : ChangeSpec := { name := "showBack", fn := fun _ => fun
  | [d] => { results := [.lit (.bool false)], args := [d] }
  | _ => none }
def ShowBackWrongFalsely : Prop := showBackRow.holds Tryz.pinned (OpenSpec.ofChange showBackWrong)

/-- 'bobbinetkeep.ShowFixed': WHATEVER THE INPUT: true; the input reads as it did. -/
def showFixedSpec : ChangeSpec := { name := "showFixed", fn := fun _ => fun
  | [d] => { results := [.lit (.bool true)], args := [d] }
  | _ => none }
def showFixedRow : OpenClaim := { program := "ytemomhanchiipaagreatdoor", sum := "3c9327e33817d5d98e25e550f56037cd52161f2b8e445a26b92902b6e2f4a3a1", func := "bobbinet/bobbinetkeep.ShowFixed", spec := "showFixed", inPlace := ["internal/bytealg.IndexByteString", "internal/bytealg.IndexString", "internal/abi.NoEscape"], unfollowed := true, recurses := true, named := ["strconv.ErrSyntax", "strconv.ErrRange", "internal/strconv.uint64pow10", "math/bits.deBruijn32tab", "math/bits.deBruijn64tab", "internal/bytealg.MaxLen"], apart := false, laid := [("math/bits.deBruijn32tab", laid_math_bits_deBruijn32tab), ("math/bits.deBruijn64tab", laid_math_bits_deBruijn64tab), ("internal/strconv.uint64pow10", laid_internal_strconv_uint64pow10), ("strconv.ErrRange", laid_strconv_ErrRange), ("strconv.ErrSyntax", laid_strconv_ErrSyntax)] }
def ShowFixedSaid : Prop := showFixedRow.holds Tryz.pinned (OpenSpec.ofChange showFixedSpec)

/-- ITS FALSE NEIGHBOUR: 'it returns false'. Refute it at one input. -/
def showFixedWrong : ChangeSpec := { name := "showFixed", fn := fun _ => fun
  | [d] => { results := [.lit (.bool false)], args := [d] }
  | _ => none }
def ShowFixedWrongFalsely : Prop := showFixedRow.holds Tryz.pinned (OpenSpec.ofChange showFixedWrong)

/-- 'bobbinetkeep.ShowBuilt': WHATEVER THE INPUT: true; the input reads as it did. -/
def showBuiltSpec : ChangeSpec := { name := "showBuilt", fn := fun _ => fun
  | [d] => { results := [.lit (.bool true)], args := [d] }
  | _ => none }
def showBuiltRow : OpenClaim := { program := "ytemomhanchiipaagreatdoor", sum := "3c9327e33817d5d98e25e550f56037cd52161f2b8e445a26b92902b6e2f4a3a1", func := "bobbinet/bobbinetkeep.ShowBuilt", spec := "showBuilt", inPlace := ["internal/abi.NoEscape", "internal/bytealg.IndexByteString", "internal/bytealg.IndexString"], unfollowed := true, recurses := true, named := ["strconv.ErrSyntax", "strconv.ErrRange", "internal/strconv.uint64pow10", "math/bits.deBruijn32tab", "math/bits.deBruijn64tab", "internal/bytealg.MaxLen", "bobbinet/tree.blocks", "bobbinet/tree.voids"], apart := false, laid := [("math/bits.deBruijn32tab", laid_math_bits_deBruijn32tab), ("math/bits.deBruijn64tab", laid_math_bits_deBruijn64tab), ("internal/strconv.uint64pow10", laid_internal_strconv_uint64pow10), ("bobbinet/tree.blocks", laid_bobbinet_tree_blocks), ("bobbinet/tree.voids", laid_bobbinet_tree_voids), ("strconv.ErrRange", laid_strconv_ErrRange), ("strconv.ErrSyntax", laid_strconv_ErrSyntax)] }
def ShowBuiltSaid : Prop := showBuiltRow.holds Tryz.pinned (OpenSpec.ofChange showBuiltSpec)

/-- ITS FALSE NEIGHBOUR: 'it returns false'. Refute it at one input. -/
def showBuiltWrong : ChangeSpec := { name := "showBuilt", fn := fun _ => fun
  | [d] => { results := [.lit (.bool false)], args := [d] }
  | _ => none }
def ShowBuiltWrongFalsely : Prop := showBuiltRow.holds Tryz.pinned (OpenSpec.ofChange showBuiltWrong)

/- THE SECOND FORM. 'bulk': how many values and letters a reading holds, each counted each time it is reached (what is shared counts as often as it is met; a slice's spare places count too). A statement '..UptoSaid' is the law's where the arguments, and the package variables that the reading takes, are together of bulk at most 1048576: NARROWER than '..Said'. Prove '..Said' where nothing that the law and all that it calls make is longer than what came in: it says more and counts as full. Else prove '..UptoSaid'. A law counts once. -/
mutual
def uptoBulk {H : Type} : DataW H → Nat
  | .lit (.string bytes) => bytes.length + 1
  | .lit _ => 1
  | .nil => 1
  | .ptr d => uptoBulk d + 1
  | .slice elems spare => uptoBulkAll elems + uptoBulkAll spare + 1
  | .agg parts => uptoBulkAll parts + 1
  | .iface _ d => uptoBulk d + 1
  | .map entries => uptoBulkEntries entries + 1
  | .held _ => 1
def uptoBulkAll {H : Type} : List (DataW H) → Nat
  | [] => 0
  | d :: r => uptoBulk d + uptoBulkAll r
def uptoBulkEntries {H : Type} : List (Lit × DataW H) → Nat
  | [] => 0
  | x :: r => uptoBulkEntry x + uptoBulkEntries r
def uptoBulkEntry {H : Type} : Lit × DataW H → Nat
  | (.string bytes, d) => bytes.length + uptoBulk d + 1
  | (_, d) => uptoBulk d + 1
 end
def uptoSmall : (H : Type) → List (DataW H) → Bool := fun _ ds => decide (uptoBulkAll ds ≤ 1048576)
def OpenSpec.upto (s : _root_.Go.ChangeSpec) : _root_.Go.OpenSpec := { _root_.Go.OpenSpec.ofChange s with cond := some uptoSmall }

/-- 'bobbinettop.TopClean', WHERE WHAT IT READS IS OF BULK AT MOST 1048576: true; the input reads as it did. -/
def topCleanUptoRow : OpenClaim := { program := "ytemomhanchiipaagreatdoor", sum := "3c9327e33817d5d98e25e550f56037cd52161f2b8e445a26b92902b6e2f4a3a1", func := "bobbinet/bobbinettop.TopClean", spec := "topClean", inPlace := ["internal/abi.NoEscape", "internal/bytealg.IndexByteString", "internal/bytealg.IndexString"], unfollowed := true, recurses := true, named := ["strconv.ErrSyntax", "strconv.ErrRange", "internal/strconv.uint64pow10", "math/bits.deBruijn32tab", "math/bits.deBruijn64tab", "internal/bytealg.MaxLen", "bobbinet/tree.blocks", "bobbinet/tree.voids"], apart := false, laid := [("math/bits.deBruijn32tab", laid_math_bits_deBruijn32tab), ("math/bits.deBruijn64tab", laid_math_bits_deBruijn64tab), ("internal/strconv.uint64pow10", laid_internal_strconv_uint64pow10), ("bobbinet/tree.blocks", laid_bobbinet_tree_blocks), ("bobbinet/tree.voids", laid_bobbinet_tree_voids), ("strconv.ErrRange", laid_strconv_ErrRange), ("strconv.ErrSyntax", laid_strconv_ErrSyntax)], narrowed := true }
def TopCleanUptoSaid : Prop := topCleanUptoRow.holds Tryz.pinned (OpenSpec.upto topCleanSpec)

/-- 'bobbinetkeep.EmitBack', WHERE WHAT IT READS IS OF BULK AT MOST 1048576: true; the input reads as it did. -/
def emitBackUptoRow : OpenClaim := { program := "ytemomhanchiipaagreatdoor", sum := "3c9327e33817d5d98e25e550f56037cd52161f2b8e445a26b92902b6e2f4a3a1", func := "bobbinet/bobbinetkeep.EmitBack", spec := "emitBack", inPlace := ["internal/abi.NoEscape", "internal/bytealg.IndexByteString", "internal/bytealg.IndexString"], unfollowed := true, recurses := true, named := ["strconv.ErrSyntax", "strconv.ErrRange", "internal/strconv.uint64pow10", "math/bits.deBruijn32tab", "math/bits.deBruijn64tab", "internal/bytealg.MaxLen"], apart := false, laid := [("math/bits.deBruijn32tab", laid_math_bits_deBruijn32tab), ("math/bits.deBruijn64tab", laid_math_bits_deBruijn64tab), ("internal/strconv.uint64pow10", laid_internal_strconv_uint64pow10), ("strconv.ErrRange", laid_strconv_ErrRange), ("strconv.ErrSyntax", laid_strconv_ErrSyntax)], narrowed := true }
def EmitBackUptoSaid : Prop := emitBackUptoRow.holds Tryz.pinned (OpenSpec.upto emitBackSpec)

/-- 'bobbinetkeep.EmitAgain', WHERE WHAT IT READS IS OF BULK AT MOST 1048576: true; the input reads as it did. -/
def emitAgainUptoRow : OpenClaim := { program := "ytemomhanchiipaagreatdoor", sum := "3c9327e33817d5d98e25e550f56037cd52161f2b8e445a26b92902b6e2f4a3a1", func := "bobbinet/bobbinetkeep.EmitAgain", spec := "emitAgain", inPlace := ["internal/bytealg.IndexByteString", "internal/bytealg.IndexString", "internal/abi.NoEscape"], unfollowed := true, recurses := true, named := ["strconv.ErrSyntax", "strconv.ErrRange", "internal/strconv.uint64pow10", "math/bits.deBruijn32tab", "math/bits.deBruijn64tab", "internal/bytealg.MaxLen"], apart := false, laid := [("math/bits.deBruijn32tab", laid_math_bits_deBruijn32tab), ("math/bits.deBruijn64tab", laid_math_bits_deBruijn64tab), ("internal/strconv.uint64pow10", laid_internal_strconv_uint64pow10), ("strconv.ErrRange", laid_strconv_ErrRange), ("strconv.ErrSyntax", laid_strconv_ErrSyntax)], narrowed := true }
def EmitAgainUptoSaid : Prop := emitAgainUptoRow.holds Tryz.pinned (OpenSpec.upto emitAgainSpec)

/-- 'bobbinetkeep.SpaceTree', WHERE WHAT IT READS IS OF BULK AT MOST 1048576: true; the input reads as it did. -/
def spaceTreeUptoRow : OpenClaim := { program := "ytemomhanchiipaagreatdoor", sum := "3c9327e33817d5d98e25e550f56037cd52161f2b8e445a26b92902b6e2f4a3a1", func := "bobbinet/bobbinetkeep.SpaceTree", spec := "spaceTree", inPlace := ["internal/bytealg.IndexByteString", "internal/bytealg.IndexString", "internal/abi.NoEscape"], unfollowed := true, recurses := true, named := ["strconv.ErrSyntax", "strconv.ErrRange", "internal/strconv.uint64pow10", "math/bits.deBruijn32tab", "math/bits.deBruijn64tab", "internal/bytealg.MaxLen", "bobbinet/tree.blocks", "bobbinet/tree.voids"], apart := false, laid := [("math/bits.deBruijn32tab", laid_math_bits_deBruijn32tab), ("math/bits.deBruijn64tab", laid_math_bits_deBruijn64tab), ("internal/strconv.uint64pow10", laid_internal_strconv_uint64pow10), ("bobbinet/tree.blocks", laid_bobbinet_tree_blocks), ("bobbinet/tree.voids", laid_bobbinet_tree_voids), ("strconv.ErrRange", laid_strconv_ErrRange), ("strconv.ErrSyntax", laid_strconv_ErrSyntax)], narrowed := true }
def SpaceTreeUptoSaid : Prop := spaceTreeUptoRow.holds Tryz.pinned (OpenSpec.upto spaceTreeSpec)

/-- 'bobbinetkeep.SpaceLetters', WHERE WHAT IT READS IS OF BULK AT MOST 1048576: true; the input reads as it did. -/
def spaceLettersUptoRow : OpenClaim := { program := "ytemomhanchiipaagreatdoor", sum := "3c9327e33817d5d98e25e550f56037cd52161f2b8e445a26b92902b6e2f4a3a1", func := "bobbinet/bobbinetkeep.SpaceLetters", spec := "spaceLetters", inPlace := ["internal/bytealg.IndexByteString", "internal/bytealg.IndexString", "internal/abi.NoEscape"], unfollowed := true, recurses := true, named := ["strconv.ErrSyntax", "strconv.ErrRange", "internal/strconv.uint64pow10", "math/bits.deBruijn32tab", "math/bits.deBruijn64tab", "internal/bytealg.MaxLen", "bobbinet/tree.blocks", "bobbinet/tree.voids"], apart := false, laid := [("math/bits.deBruijn32tab", laid_math_bits_deBruijn32tab), ("math/bits.deBruijn64tab", laid_math_bits_deBruijn64tab), ("internal/strconv.uint64pow10", laid_internal_strconv_uint64pow10), ("bobbinet/tree.blocks", laid_bobbinet_tree_blocks), ("bobbinet/tree.voids", laid_bobbinet_tree_voids), ("strconv.ErrRange", laid_strconv_ErrRange), ("strconv.ErrSyntax", laid_strconv_ErrSyntax)], narrowed := true }
def SpaceLettersUptoSaid : Prop := spaceLettersUptoRow.holds Tryz.pinned (OpenSpec.upto spaceLettersSpec)

/-- 'bobbinetkeep.ShowBack', WHERE WHAT IT READS IS OF BULK AT MOST 1048576: true; the input reads as it did. -/
def showBackUptoRow : OpenClaim := { program := "ytemomhanchiipaagreatdoor", sum := "3c9327e33817d5d98e25e550f56037cd52161f2b8e445a26b92902b6e2f4a3a1", func := "bobbinet/bobbinetkeep.ShowBack", spec := "showBack", inPlace := ["internal/abi.NoEscape", "internal/bytealg.IndexByteString", "internal/bytealg.IndexString"], unfollowed := true, recurses := true, named := ["strconv.ErrSyntax", "strconv.ErrRange", "internal/strconv.uint64pow10", "math/bits.deBruijn32tab", "math/bits.deBruijn64tab", "internal/bytealg.MaxLen"], apart := false, laid := [("math/bits.deBruijn32tab", laid_math_bits_deBruijn32tab), ("math/bits.deBruijn64tab", laid_math_bits_deBruijn64tab), ("internal/strconv.uint64pow10", laid_internal_strconv_uint64pow10), ("strconv.ErrRange", laid_strconv_ErrRange), ("strconv.ErrSyntax", laid_strconv_ErrSyntax)], narrowed := true }
def ShowBackUptoSaid : Prop := showBackUptoRow.holds Tryz.pinned (OpenSpec.upto showBackSpec)

/-- 'bobbinetkeep.ShowFixed', WHERE WHAT IT READS IS OF BULK AT MOST 1048576: true; the input reads as it did. -/
def showFixedUptoRow : OpenClaim := { program := "ytemomhanchiipaagreatdoor", sum := "3c9327e33817d5d98e25e550f56037cd52161f2b8e445a26b92902b6e2f4a3a1", func := "bobbinet/bobbinetkeep.ShowFixed", spec := "showFixed", inPlace := ["internal/bytealg.IndexByteString", "internal/bytealg.IndexString", "internal/abi.NoEscape"], unfollowed := true, recurses := true, named := ["strconv.ErrSyntax", "strconv.ErrRange", "internal/strconv.uint64pow10", "math/bits.deBruijn32tab", "math/bits.deBruijn64tab", "internal/bytealg.MaxLen"], apart := false, laid := [("math/bits.deBruijn32tab", laid_math_bits_deBruijn32tab), ("math/bits.deBruijn64tab", laid_math_bits_deBruijn64tab), ("internal/strconv.uint64pow10", laid_internal_strconv_uint64pow10), ("strconv.ErrRange", laid_strconv_ErrRange), ("strconv.ErrSyntax", laid_strconv_ErrSyntax)], narrowed := true }
def ShowFixedUptoSaid : Prop := showFixedUptoRow.holds Tryz.pinned (OpenSpec.upto showFixedSpec)

/-- 'bobbinetkeep.ShowBuilt', WHERE WHAT IT READS IS OF BULK AT MOST 1048576: true; the input reads as it did. -/
def showBuiltUptoRow : OpenClaim := { program := "ytemomhanchiipaagreatdoor", sum := "3c9327e33817d5d98e25e550f56037cd52161f2b8e445a26b92902b6e2f4a3a1", func := "bobbinet/bobbinetkeep.ShowBuilt", spec := "showBuilt", inPlace := ["internal/abi.NoEscape", "internal/bytealg.IndexByteString", "internal/bytealg.IndexString"], unfollowed := true, recurses := true, named := ["strconv.ErrSyntax", "strconv.ErrRange", "internal/strconv.uint64pow10", "math/bits.deBruijn32tab", "math/bits.deBruijn64tab", "internal/bytealg.MaxLen", "bobbinet/tree.blocks", "bobbinet/tree.voids"], apart := false, laid := [("math/bits.deBruijn32tab", laid_math_bits_deBruijn32tab), ("math/bits.deBruijn64tab", laid_math_bits_deBruijn64tab), ("internal/strconv.uint64pow10", laid_internal_strconv_uint64pow10), ("bobbinet/tree.blocks", laid_bobbinet_tree_blocks), ("bobbinet/tree.voids", laid_bobbinet_tree_voids), ("strconv.ErrRange", laid_strconv_ErrRange), ("strconv.ErrSyntax", laid_strconv_ErrSyntax)], narrowed := true }
def ShowBuiltUptoSaid : Prop := showBuiltUptoRow.holds Tryz.pinned (OpenSpec.upto showBuiltSpec)

end Rows
end Go.Proofs.YtemomhanchiipaaGreatDoor
