/- One element appended to a row of the call's own, of whatever type; rows of strings and of declarations. -/
import Derived.Test.YtjkgmdnkejjppaaGreatDoorGh
import Derived.Test.YtjkgmdnkejjppaaGreatDoorGu
import Derived.Test.YtjkgmdnkejjppaaGreatDoorGa
namespace Go.Proofs.YtjkgmdnkejjppaaGreatDoor
open Go Go.RowKit

theorem run_row1 {t e : TypeId} {size bytes : Nat} {z : Value} (ht : Tryz.prog.underlying t = some (.slice e)) (hinfo : (Tryz.prog.info? e).map (fun i => (i.zero, i.size, i.bytes)) = some (some z, size, bytes)) (hzs : z.cells.size = size) (hsz : 0 < size) (hby : bytes ≤ 100)
    (B : Nat) (w : World) (tv : Value) (n : Nat) (cells : List Value) (ty : TypeId) (hown : w.ownsRow B e size tv n cells) (g : Nat) (new : Array Value) (hg : w.heap[g]? = some (.cells new e (0, 0))) (hnl : new.size = size)
    (h1 : ∀ u ∈ new.toList, u.oneCell' = true) (hn : n ≤ 1000000) (hB : B ≤ w.heap.size) :
    ∃ A C w', (Builtin.append_ #[t, t] ty #[tv, .slice (some ⟨g, 0, none⟩) 1 1]).run Tryz.prog w = .ok (.slice A (n + 1) C) w' ∧ w'.ownsRow B e size (.slice A (n + 1) C) (n + 1) (cells ++ new.toList) ∧ w.grownBy w' tv.ownBlock := by
  obtain ⟨i0, hi0, hz0, hz1, hz2⟩ := info_parts hinfo
  have hb := Nat.mul_le_mul (show n + 1 ≤ 1000001 by omega) hby
  obtain ⟨v', w', hr, k2, k3, _⟩ := run_append_own (P := Tryz.prog) w B t ty e i0 z size bytes ht hi0 hz0 hz1 hz2 hzs hsz tv n cells hown ⟨g, 0, none⟩ 1 1 new.toList (by rw [Array.length_toList, hnl, Nat.one_mul]) (World.news_of_block (cs := new) (t := e) (fr := (0, 0)) hg) h1 (by unfold maxLen; omega) (by omega) hB
  obtain ⟨A, C, hv⟩ := ownsRow_slice k2
  subst hv
  exact ⟨A, C, w', hr, k2, k3⟩

/-- .. at a plain region's list. -/
theorem wpList_row1 {t e : TypeId} {size bytes : Nat} {z : Value} (ht : Tryz.prog.underlying t = some (.slice e)) (hinfo : (Tryz.prog.info? e).map (fun i => (i.zero, i.size, i.bytes)) = some (some z, size, bytes)) (hzs : z.cells.size = size) (hsz : 0 < size) (hby : bytes ≤ 100)
    {ops : Array Oper} {rest : List Oper} {o : Oper} {a : Act} {Q : Exit → Act → World → Prop} {w : World} (hw : Region.wanted o (yielded ops a.tmps) = true) (s x : Operand)
    (ho : o.op = .call { callee := .builtin .append, args := #[s, x], argTypes := #[t, t] })
    (B : Nat) (tv : Value) (n : Nat) (cells : List Value) (g : Nat) (new : Array Value) (hs : a.eval s = tv) (hx : a.eval x = .slice (some ⟨g, 0, none⟩) 1 1) (hown : w.ownsRow B e size tv n cells) (hg : w.heap[g]? = some (.cells new e (0, 0))) (hnl : new.size = size)
    (h1 : ∀ u ∈ new.toList, u.oneCell' = true) (hn : n ≤ 1000000) (hB : B ≤ w.heap.size)
    (h : ∀ A C w', w'.ownsRow B e size (.slice A (n + 1) C) (n + 1) (cells ++ new.toList) → w.grownBy w' tv.ownBlock → wpList Tryz.prog ops Q rest (a.put o.dst (.slice A (n + 1) C)) w') : wpList Tryz.prog ops Q (o :: rest) a w := by
  refine wpList_guarded hw fun K hK => ?_
  obtain ⟨A, C, w', hr, k1, k2⟩ := run_row1 ht hinfo hzs hsz hby B w tv n cells o.type hown g new hg hnl h1 hn hB
  unfold Oper.wp execOp
  simp only [ho, resolve, invoke, builtin, Sem.run_bind, Sem.run_pure, Result.andThen_ok, List.map_toArray, List.map_cons, List.map_nil, hs, hx, hr]
  exact hK _ _ (h A C w' k1 k2)
/-- .. at one step of a drawn region. -/
theorem step_row1 {t e : TypeId} {size bytes : Nat} {z : Value} (ht : Tryz.prog.underlying t = some (.slice e)) (hinfo : (Tryz.prog.info? e).map (fun i => (i.zero, i.size, i.bytes)) = some (some z, size, bytes)) (hzs : z.cells.size = size) (hsz : 0 < size) (hby : bytes ≤ 100)
    {ops : Array Oper} {o : Oper} {a : Act} {K : Act → World → Prop} {Q : Exit → Act → World → Prop} {E : Prop} {w : World} (hgd : o.guard = none) (s x : Operand)
    (ho : o.op = .call { callee := .builtin .append, args := #[s, x], argTypes := #[t, t] })
    (B : Nat) (tv : Value) (n : Nat) (cells : List Value) (g : Nat) (new : Array Value) (hs : a.eval s = tv) (hx : a.eval x = .slice (some ⟨g, 0, none⟩) 1 1) (hown : w.ownsRow B e size tv n cells) (hg : w.heap[g]? = some (.cells new e (0, 0))) (hnl : new.size = size)
    (h1 : ∀ u ∈ new.toList, u.oneCell' = true) (hn : n ≤ 1000000) (hB : B ≤ w.heap.size)
    (h : ∀ A C w', w'.ownsRow B e size (.slice A (n + 1) C) (n + 1) (cells ++ new.toList) → w.grownBy w' tv.ownBlock → K (a.put o.dst (.slice A (n + 1) C)) w') : if Region.wanted o (yielded ops a.tmps) = true then Oper.wp Tryz.prog o a w K Q else E := by
  have hw : Region.wanted o (yielded ops a.tmps) = true := by simp [Region.wanted, hgd]
  rw [if_pos hw]
  obtain ⟨A, C, w', hr, k1, k2⟩ := run_row1 ht hinfo hzs hsz hby B w tv n cells o.type hown g new hg hnl h1 hn hB
  unfold Oper.wp execOp
  simp only [ho, resolve, invoke, builtin, Sem.run_bind, Sem.run_pure, Result.andThen_ok, List.map_toArray, List.map_cons, List.map_nil, hs, hx, hr]
  exact h A C w' k1 k2

theorem infoStr : (Tryz.prog.info? 9).map (fun i => (i.zero, i.size, i.bytes)) = some (some (.string ⟨#[]⟩), 1, 16) := by kernel_rfl
/-- A row of strings of the call's own. -/
def SRow (B : Nat) (w : World) (v : Value) (l : List Bytes) : Prop := w.ownsRow B 9 1 v l.length (l.map fun p => .string (mk p))
theorem SRow.nil (B : Nat) (w : World) : SRow B w (.slice none 0 0) [] := World.ownsRow_nil w B _ _
theorem SRow.below {B : Nat} {w w' : World} {v : Value} {l : List Bytes} (h : SRow B w v l) (hb : Below w.heap.size w w') : SRow B w' v l := ownsRow_below h hb
/-- What was appended to rows of the call's own is new. -/
theorem row_grown_below {B n size : Nat} {e : TypeId} {w w' : World} {tv : Value} {cells : List Value} (hg : w.grownBy w' tv.ownBlock) (hown : w.ownsRow B e size tv n cells) (hB : B ≤ w.heap.size) : Below B w w' :=
  ⟨hg.os, hg.tape, hg.output, hg.size, fun k hk => hg.block k (by omega) (by
    intro e'
    rcases hown.2 with ⟨hv0, _⟩ | ⟨g0, cap0, cur0, hv0, hB0, _⟩
    · rw [hv0] at e'; cases e'
    · rw [hv0] at e'
      have e' : k = g0 := by injection e'
      omega)⟩
/-- The row's value is a slice, and its cells read. -/
theorem SRow.get {B : Nat} {w : World} {v : Value} {l : List Bytes} (h : SRow B w v l) (i : Nat) (p : Bytes) (hi : l[i]? = some p) :
    ∃ g cap, v = .slice (some ⟨g, 0, none⟩) l.length cap ∧ B ≤ g ∧ g < w.heap.size ∧ w.cell? ⟨g, i, none⟩ = some (.string (mk p)) := by
  have hlt : i < l.length := (List.getElem?_eq_some_iff.1 hi).1
  obtain ⟨g, cap, hv, h1, h2, _, _, h5, _⟩ := ownsRow_cells h (by omega)
  exact ⟨g, cap, hv, h1, h2, h5 i _ (by rw [List.getElem?_map, hi]; rfl)⟩
end Go.Proofs.YtjkgmdnkejjppaaGreatDoor
