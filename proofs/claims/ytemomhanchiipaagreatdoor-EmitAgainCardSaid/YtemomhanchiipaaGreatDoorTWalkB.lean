/- Walks of the tree's builder: closeAt. -/
import Derived.Test.YtemomhanchiipaaGreatDoorTWalkA
namespace Go.Proofs.YtemomhanchiipaaGreatDoor
open Go Go.RowKit

section
variable {B : Nat} {w : World} {bb root : Nat} {H : OMap} {pv : Nat → Value} {bs : List Nat} {sv : Value} {c : Nat} {m : Bytes}

/-- The builder's block after a store. -/
theorem BW.blk_set1 (h : BW B w bb root H pv bs sv c m) (v : Value) : (w.setCell ⟨bb, 1, none⟩ v).heap[bb]? = some (.cells #[ptr root, v, .int .i64 c, .string (mk m)] 80 (0, 0)) := by
  simp [World.setCell, Array.getElem?_modify, h.blk]
theorem BW.blk_set2 (h : BW B w bb root H pv bs sv c m) (n : Nat) : (w.setCell ⟨bb, 2, none⟩ (.int .i64 n)).heap[bb]? = some (.cells #[ptr root, sv, .int .i64 n, .string (mk m)] 80 (0, 0)) := by
  simp [World.setCell, Array.getElem?_modify, h.blk]
theorem BW.blk_set3 (h : BW B w bb root H pv bs sv c m) (s : Bytes) : (w.setCell ⟨bb, 3, none⟩ (.string (mk s))).heap[bb]? = some (.cells #[ptr root, sv, .int .i64 c, .string (mk s)] 80 (0, 0)) := by
  simp [World.setCell, Array.getElem?_modify, h.blk]
theorem BW.own_set (h : BW B w bb root H pv bs sv c m) (o : Nat) (u : Value) {v : Value} {n : Nat} {xs : List Value} (hv : w.ownsRow B 74 1 v n xs) : (w.setCell ⟨bb, o, none⟩ u).ownsRow B 74 1 v n xs :=
  ownsRow_kept hv fun g _ _ hg => by rw [Below.heap_setCell _ _ _ _ (type_ne hg h.blk (by decide))]; exact hg
theorem BW.set2 (h : BW B w bb root H pv bs sv c m) (n : Nat) : BW B (w.setCell ⟨bb, 2, none⟩ (.int .i64 n)) bb root H pv bs sv n m :=
  h.builder (fun _ _ hk _ => Below.heap_setCell _ _ _ _ hk) (h.blk_set2 n) (h.own_set _ _ h.own) (fun _ hg => .inl hg)
theorem BW.set3 (h : BW B w bb root H pv bs sv c m) (s : Bytes) : BW B (w.setCell ⟨bb, 3, none⟩ (.string (mk s))) bb root H pv bs sv c s :=
  h.builder (fun _ _ hk _ => Below.heap_setCell _ _ _ _ hk) (h.blk_set3 s) (h.own_set _ _ h.own) (fun _ hg => .inl hg)

/-- The stack cut to its first i. -/
def cutBs (i : Nat) (bs : List Nat) : List Nat := if i = 0 then bs else bs.drop (bs.length - i)
theorem BW.cut {g cap : Nat} (h : BW B w bb root H pv bs (.slice (some ⟨g, 0, none⟩) bs.length cap) c m) {i : Nat} (h0 : 0 < i) (hi : i ≤ bs.length) :
    BW B (w.setCell ⟨bb, 1, none⟩ (.slice (some ⟨g, 0, none⟩) i cap)) bb root H pv (cutBs i bs) (.slice (some ⟨g, 0, none⟩) i cap) c m := by
  refine h.builder (fun _ _ hk _ => Below.heap_setCell _ _ _ _ hk) (h.blk_set1 _) ?_ (fun _ hg => .inl hg)
  have h1 := own_shrink (B := B) (l := bs.reverse) (by exact h.own) hi
  have e : (cutBs i bs).reverse = bs.reverse.take i := by
    unfold cutBs
    rw [if_neg (by omega), List.reverse_drop]
    congr 1; omega
  have e2 : (cutBs i bs).length = i := by rw [← List.length_reverse, e, List.length_take, List.length_reverse]; omega
  rw [e, e2]
  exact h.own_set _ _ h1

set_option maxHeartbeats 1000000 in
theorem closeAt_any {i : Nat} (h : BW B w bb root H pv bs sv c m) (hi : i ≤ bs.length) (hp : 0 < bs.length) :
    Calls Tryz.prog 40 #[ptr bb, .int .i64 i] w fun e w' => e = .returned (.tuple #[]) ∧ ∃ sv', BW B w' bb root H pv (cutBs i bs) sv' c m ∧ Below B w w' ∧ w'.heap.size = w.heap.size ∧ ∀ k, k ≠ bb → w'.heap[k]? = w.heap[k]? := by
  have HB := Lib.hid h
  by_cases h0 : 0 < i
  · have hown : w.ownsRow B 74 1 sv bs.reverse.length (ptrs bs.reverse) := by rw [List.length_reverse]; exact h.own
    obtain ⟨g, cap, hv, hc, -⟩ := own_ptrs hown (List.getElem?_eq_getElem (i := 0) (by rw [List.length_reverse]; exact hp))
    rw [List.length_reverse] at hv hc
    subst hv
    obtain ⟨-, c1, -, -, hf, -⟩ := h.cells
    have f1 := hf 1
    have HC := Lib.hid (h.cut h0 hi)
    have k0 : (0 : Int) < i := by omega
    have k1 : (0 : Int) ≤ i := by omega
    have k2 : (i : Int) ≤ cap := by omega
    clear h hown hf
    unfold ptr
    go_enter Tryz.func40, Tryz.ntmps40
    go_wp2_with fail
    go_end0
    exact ⟨rfl, _, HC.out, (Below.refl _ _).setCell HB.out.ge _, by simp [World.setCell], fun k hk => Below.heap_setCell _ _ _ _ hk⟩
  · obtain rfl : i = 0 := by omega
    clear h
    go_enter Tryz.func40, Tryz.ntmps40
    go_wp2_with fail
    go_end0
    exact ⟨rfl, _, HB.out, Below.refl _ _, rfl, fun _ _ => rfl⟩
end

end Go.Proofs.YtemomhanchiipaaGreatDoor
