/- What the rows' conditions give the walks, the witness's world, and what a post asks. -/
import Derived.Test.YtjkgmdnkejjppaaGreatDoorCards
import Derived.Test.YtjkgmdnkejjppaaGreatDoorTie
import Derived.Test.YtjkgmdnkejjppaaGreatDoorJTWalkD
import Derived.Test.YtjkgmdnkejjppaaGreatDoorJQWalkD
import Derived.ProofKit
import Derived.LaidMore
import Derived.OpenShut
import Derived.Deep.DeepHandedRow
import Derived.Deep.DeepWitnessRowRef
import Derived.Stop.LaidErr
import Derived.Shelf.Vars
import Derived.Lib.LaidTab
namespace Go.Proofs.YtjkgmdnkejjppaaGreatDoor
open Go Go.ChangeShapes Go.WideShapes Go.ChangeAt Go.RowKit

theorem own : ownKnob Tryz.prog.godebug = none := by kernel_rfl
theorem gSyntax : Tryz.prog.globalNamed "strconv.ErrSyntax" = some 5 := by kernel_rfl
theorem tSyntax : (Tryz.prog.globals[5]?).map (·.type) = some 109 := by kernel_rfl
theorem cellsErr : Tryz.prog.cellsOf 195 = 1 := by kernel_rfl
theorem cellsStr : Tryz.prog.cellsOf 9 = 1 := by kernel_rfl
theorem starErr : "*" ++ "errors.errorString" = "*errors.errorString" := by decide
theorem rowErr (u : TypeId) (h : Tryz.prog.typeName? 3 u = some "*errors.errorString") : u = 193 :=
  typeName_ptr_named (nm := "errors.errorString") (by rw [starErr]; kernel_rfl) (by kernel_rfl) (by decide) u (by rw [starErr]; exact h)

/-- An array of texts that reads as a table holds the table's texts. -/
theorem cells_of_texts {H : Type} {enc : TypeId × Value → H} {P : Program} {w : World} {base : Nat} {sp : Nat → Bool} {held : Bool} {fuel : Nat} {t e : TypeId} {n : Nat} {cs : List Value} {zs : List Bytes} {p : List MemPlace}
    (ht : P.underlying t = some (.array n e)) (he : P.underlying e = some .string) (hce : P.cellsOf e = 1) (hct : P.cellsOf t = n)
    (h : DataW.trod enc P w base sp held fuel t cs = some (.agg (zs.map fun z => .lit (.string z)), p)) : cs = zs.map fun z => Value.string (mk z) := by
  cases fuel with
  | zero => simp [DataW.trod] at h
  | succ fuel =>
    simp only [DataW.trod, ht, hce, hct, Nat.mul_one] at h
    split at h
    · rename_i hl
      obtain ⟨xs, hm, hx⟩ := Option.map_eq_some_iff.1 h
      have hxs : xs.map (·.1) = zs.map fun z => (DataW.lit (.string z) : DataW H) := by
        have := congrArg Prod.fst hx
        simpa using this
      have hxl : xs.length = n := by simpa using Lib.mapM_length hm
      have hzl : zs.length = n := by
        have := congrArg List.length hxs
        simp at this
        omega
      apply List.ext_getElem?
      intro i
      by_cases hi : i < n
      · obtain ⟨b, hb, hf⟩ := Lib.mapM_at hm i i (by simp [hi])
        obtain ⟨s, hc, rfl, _⟩ := DataW.trod_string he hf
        have h1 : cs[i]? = some (.string s) := by
          have := congrArg (·[0]?) hc
          simpa [List.getElem?_take, List.getElem?_drop] using this
        have h2 : (xs.map (·.1))[i]? = some (DataW.lit (.string s.data.toList) : DataW H) := by simp [hb]
        rw [hxs] at h2
        simp only [List.getElem?_map, Option.map_eq_some_iff, DataW.lit.injEq, Lit.string.injEq] at h2
        obtain ⟨z', hz', rfl⟩ := h2
        rw [h1, List.getElem?_map, hz']
        rfl
      · rw [List.getElem?_eq_none (by omega), List.getElem?_eq_none (by simp; omega)]
    · cases h
/-- What a walk reads of a table of texts that stands first on the row's list. -/
theorem texts_of_head {P : Program} {W : World} {name : String} {zs : List Bytes} {rest : List (String × DataW Unit)} {g : Nat} {t e : TypeId} {n : Nat}
    (hg : P.globalNamed name = some g) (hty : (P.globals[g]?).map (·.type) = some t) (ht : P.underlying t = some (.array n e)) (he : P.underlying e = some .string) (hce : P.cellsOf e = 1) (hct : P.cellsOf t = n)
    (h : laidMet P ((name, .agg (zs.map fun z => .lit (.string z))) :: rest) W) : StrAt W g zs := by
  obtain ⟨ps, ⟨g', t', cs, fuel, p, q, hg', ht', hvar, hd, _, _⟩, _⟩ := h
  obtain rfl := Option.some.inj (hg.symm.trans hg')
  obtain rfl := Option.some.inj (hty.symm.trans ht')
  have hcs := cells_of_texts ht he hce hct hd
  intro i s hi
  have := World.var?_cell hg hvar i
  rw [this, ← Array.getElem?_toList, hcs, List.getElem?_map, hi]
  rfl

theorem glob_of_tail {W : World} {r : List (String × DataW Unit)} (hL : laidMet Tryz.prog (("strconv.ErrSyntax", Rows.laid_strconv_ErrSyntax) :: r) W) (hsh : W.ShapedOpen Tryz.prog) : Glob W where
  maxLen := Go.Proofs.cell_of_shapedOpen_int (zero := #[.int .i64 0]) (t := 3) hsh (of_decide_eq_true (by kernel_rfl)) (by kernel_rfl) rfl (by kernel_rfl) (by kernel_rfl) Tryz.underlying3
  errSyntax := by
    obtain ⟨a, s, hv, _⟩ := laid_sentinel hL gSyntax tSyntax Tryz.underlying109 rowErr Tryz.underlying193 Tryz.underlying195 rfl rfl Tryz.underlying9 cellsErr cellsStr
    exact ⟨_, _, by simpa using World.var?_cell gSyntax hv 0⟩
  size := by
    obtain ⟨o, _, h, _⟩ := hsh.2 11 (of_decide_eq_true (by kernel_rfl)) (of_decide_eq_true (by kernel_rfl))
    have := lt_of_block h
    omega
/-- The rows' conditions give what the walks read: rows that list the tree's tables. -/
theorem globT_of_row {W : World} (hL : laidMetH Tryz.prog Rows.topMarksRow.laid W) (hsh : W.ShapedOpen Tryz.prog) : Glob W := by
  rw [MakeChecks.laidMetH_plain _ _ _ (by kernel_rfl)] at hL
  exact glob_of_tail hL.tail.tail.tail.tail.tail.tail hsh
theorem gBlocks : Tryz.prog.globalNamed "bobbinet/tree.blocks" = some 0 := by kernel_rfl
theorem gVoids : Tryz.prog.globalNamed "bobbinet/tree.voids" = some 1 := by kernel_rfl
theorem tBlocks : (Tryz.prog.globals[0]?).map (·.type) = some 97 := by kernel_rfl
theorem tVoids : (Tryz.prog.globals[1]?).map (·.type) = some 100 := by kernel_rfl
theorem cellsBlocks : Tryz.prog.cellsOf 97 = 9 := by kernel_rfl
theorem cellsVoids : Tryz.prog.cellsOf 100 = 4 := by kernel_rfl
theorem tabs_of_row {W : World} (hL : laidMetH Tryz.prog Rows.topMarksRow.laid W) (hsh : W.ShapedOpen Tryz.prog) : Tabs W := by
  have hg := globT_of_row hL hsh
  rw [MakeChecks.laidMetH_plain _ _ _ (by kernel_rfl)] at hL
  have h3 := hL.tail.tail.tail
  exact ⟨texts_of_head (zs := blocksM) gBlocks tBlocks Tryz.underlying97 Tryz.underlying9 cellsStr cellsBlocks h3, texts_of_head (zs := voidsM) gVoids tVoids Tryz.underlying100 Tryz.underlying9 cellsStr cellsVoids h3.tail, hg.size⟩
/-- The table of spaces. -/
theorem tSpace : (Tryz.prog.globals[2]?).map (·.type) = some 125 := by kernel_rfl
theorem laidSpace : (Rows.laid_strings_asciiSpace : DataW Unit) = Lib.tabData .u8 Lib.asciiSpaceTab := by kernel_rfl
theorem spTab_of_laid {W : World} {r : List (String × DataW Unit)} (h : laidMet Tryz.prog (("strings.asciiSpace", Rows.laid_strings_asciiSpace) :: r) W) : Lib.TabIs Tryz.prog W "strings.asciiSpace" .u8 Lib.asciiSpaceTab := by
  rw [laidSpace] at h
  exact Lib.tabIs_of_head gSpace tSpace Tryz.underlying125 Tryz.underlying5 (by kernel_rfl) (by kernel_rfl) h
theorem spTab_of_row {W : World} (hL : laidMetH Tryz.prog Rows.topMarksRow.laid W) (hsh : W.ShapedOpen Tryz.prog) : SpTab W := by
  have hg := globT_of_row hL hsh
  rw [MakeChecks.laidMetH_plain _ _ _ (by kernel_rfl)] at hL
  exact ⟨spTab_of_laid hL.tail.tail.tail.tail.tail.tail.tail.tail, hg.size⟩

/-- The heap that the program's own door leaves meets the condition. -/
theorem doorT_met (os : Os) (args : Array Value) : laidMetH Tryz.prog Rows.topMarksRow.laid ((World.doorLaid Tryz.prog 400 os).forCall (fun _ _ => 0) ⟨#[], args, []⟩).memory :=
  laidMetH_of_parts3 (fuel := 8) (laidMet_of_run' 8 (by kernel_rfl) (by kernel_rfl)) (by kernel_rfl) (by kernel_rfl)

section
variable {H : Type} {enc : TypeId × Value → H} {P : Program}
/-- A post out of 'Below': the arguments read again. -/
theorem post_of_below {f : Func} {s : ChangeSpec} {apart fresh handsOn : Bool} {W W' : World} {args : Array Value} {v : Value} {ds gs : List (DataW H)} {before pa pv : List MemPlace}
    (hW : DataW.Whole enc P f.params.toList s.vars apart W args.toList ds gs before)
    (hres : ∀ (b : Nat) (sp : Nat → Bool) (hd : Bool), DataW.TrodAll enc P W' b sp hd f.resultTypes.toList (v.resultList f.resultTypes.size) (s.fn H (ds ++ gs)).results [])
    (hargs : ∀ sp : Nat → Bool, (∀ p ∈ before, sp p.block = true) → DataW.TrodAll enc P W' 0 sp true f.params.toList args.toList (s.fn H (ds ++ gs)).args pa)
    (hvars : ∀ sp : Nat → Bool, (∀ p ∈ before, sp p.block = true) → DataW.TrodVars enc P W' sp s.vars (s.fn H (ds ++ gs)).vars pv)
    (hb : Below W.heap.size W W') :
    s.post enc P f apart fresh handsOn false W args v W' := by
  have hlt : ∀ p ∈ before, p.block < W.heap.size := fun p hp => hW.lt p hp
  have hold : ∀ p ∈ before, (fun b => decide (b < W.heap.size)) p.block = true := fun p hp => by simpa using hlt p hp
  exact ⟨ds, gs, before, [], pa, pv, hW, hres _ _ _, hargs _ hold, hvars _ hold, hb.frame _, fun h => by cases h⟩
end

end Go.Proofs.YtjkgmdnkejjppaaGreatDoor
