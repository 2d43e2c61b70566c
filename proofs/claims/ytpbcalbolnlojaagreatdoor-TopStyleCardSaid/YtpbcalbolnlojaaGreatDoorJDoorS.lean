/- What the row TopStyle's conditions give the walks, the witness's world (its list has a pinned table), and what a post asks. -/
import Derived.Test.YtpbcalbolnlojaaGreatDoorCards
import Derived.Test.YtpbcalbolnlojaaGreatDoorTie
import Derived.ProofKit
import Derived.LaidMore
import Derived.OpenShut
import Derived.Deep.DeepHandedRow
import Derived.Deep.DeepWitnessRowRef
import Derived.Stop.LaidErr
import Derived.Shelf.Vars
import Derived.Lib.LaidTab
import Derived.Test.YtpbcalbolnlojaaGreatDoorGd
import Derived.Test.YtpbcalbolnlojaaGreatDoorGh
import Derived.Lay
namespace Go.Proofs.YtpbcalbolnlojaaGreatDoor
open Go Go.ChangeShapes Go.WideShapes Go.ChangeAt Go.RowKit

theorem own : ownKnob Tryz.prog.godebug = none := by kernel_rfl
theorem gSyntax : Tryz.prog.globalNamed "strconv.ErrSyntax" = some 7 := by kernel_rfl
theorem tSyntax : (Tryz.prog.globals[7]?).map (·.type) = some 69 := by kernel_rfl
theorem cellsErr : Tryz.prog.cellsOf 219 = 1 := by kernel_rfl
theorem cellsStr : Tryz.prog.cellsOf 9 = 1 := by kernel_rfl
theorem starErr : "*" ++ "errors.errorString" = "*errors.errorString" := by decide
theorem rowErr (u : TypeId) (h : Tryz.prog.typeName? 3 u = some "*errors.errorString") : u = 217 :=
  typeName_ptr_named (nm := "errors.errorString") (by rw [starErr]; kernel_rfl) (by kernel_rfl) (by decide) u (by rw [starErr]; exact h)

theorem glob_of_tail {W : World} {r : List (String × DataW Unit)} (hL : laidMet Tryz.prog (("strconv.ErrSyntax", Rows.laid_strconv_ErrSyntax) :: r) W) (hsh : W.ShapedOpen Tryz.prog) : Glob W where
  maxLen := Go.Proofs.cell_of_shapedOpen_int (zero := #[.int .i64 0]) (t := 3) hsh (of_decide_eq_true (by kernel_rfl)) (by kernel_rfl) rfl (by kernel_rfl) (by kernel_rfl) Tryz.underlying3
  errSyntax := by
    obtain ⟨a, s, hv, _⟩ := laid_sentinel hL gSyntax tSyntax Tryz.underlying69 rowErr Tryz.underlying217 Tryz.underlying219 rfl rfl Tryz.underlying9 cellsErr cellsStr
    exact ⟨_, _, by simpa using World.var?_cell gSyntax hv 0⟩
  size := by
    obtain ⟨o, _, h, _⟩ := hsh.2 13 (of_decide_eq_true (by kernel_rfl)) (of_decide_eq_true (by kernel_rfl))
    have := lt_of_block h
    omega
/-- The row's conditions give what the walks read. -/
theorem glob_of_row {W : World} (hL : laidMetH Tryz.prog Rows.topStyleRow.laid W) (hsh : W.ShapedOpen Tryz.prog) : Glob W := by
  rw [MakeChecks.laidMetH_plain _ _ _ (by kernel_rfl)] at hL
  exact glob_of_tail hL.tail.tail.tail.tail.tail hsh

/-- A heap in which the list is laid meets the condition. -/
theorem doorS_met (os : Os) (args : Array Value) : laidMetH Tryz.prog Rows.topStyleRow.laid ((World.laidAll Tryz.prog os Rows.topStyleRow.laid).forCall (fun _ _ => 0) ⟨#[], args, []⟩).memory := by
  rw [MakeChecks.laidMetH_plain _ _ _ (by kernel_rfl)]
  exact laidMet_laidAll args (by kernel_rfl) (by kernel_rfl)

section
variable {H : Type} {enc : TypeId × Value → H} {P : Program}
/-- A post out of 'Below': the arguments read again. -/
theorem post_of_below {f : Func} {s : ChangeSpec} {apart fresh handsOn : Bool} {W W' : World} {args : Array Value} {v : Value} {ds gs : List (DataW H)} {before pa pv : List MemPlace}
    (hW : DataW.Whole enc P f.params.toList s.vars apart W args.toList ds gs before)
    (hres : ∀ (b : Nat) (sp : Nat → Bool) (hd : Bool), DataW.TrodAll enc P W' b sp hd f.resultTypes.toList (v.resultList f.resultTypes.size) (s.fn H (ds ++ gs)).results [])
    (hargs : ∀ sp : Nat → Bool, (∀ p ∈ before, sp p.block = true) → DataW.TrodAll enc P W' 0 sp true f.params.toList args.toList (s.fn H (ds ++ gs)).args pa)
    (hvars : ∀ sp : Nat → Bool, (∀ p ∈ before, sp p.block = true) → DataW.TrodVars enc P W' sp s.vars (s.fn H (ds ++ gs)).vars pv)
    (hb : Below W.heap.size W W') :
    s.post enc P f apart fresh handsOn false W args v W' := by
  have hlt : ∀ p ∈ before, p.block < W.heap.size := fun p hp => hW.lt p hp
  have hold : ∀ p ∈ before, (fun b => decide (b < W.heap.size)) p.block = true := fun p hp => by simpa using hlt p hp
  exact ⟨ds, gs, before, [], pa, pv, hW, hres _ _ _, hargs _ hold, hvars _ hold, hb.frame _, fun h => by cases h⟩
end

end Go.Proofs.YtpbcalbolnlojaaGreatDoor
