/- Tables of texts that the rows' functions draw from. -/
import Derived.Test.YtemomhanchiipaaGreatDoorModel
import Derived.WalkKit
import Derived.Laws.Rows
import Derived.Test.YtemomhanchiipaaGreatDoorBase
namespace Go.Proofs.YtemomhanchiipaaGreatDoor
open Go Go.RowKit

def markPieces : List Bytes := [[97], [98, 32], [60, 112, 62], [60, 47, 112, 62], [60, 98, 62], [60, 47, 98, 62], [60, 98, 114, 47, 62], [60, 33, 45, 45, 120, 45, 45, 62], [60, 105, 32, 99, 108, 97, 115, 115, 61, 120, 62], [60, 47, 105, 62], [38, 97, 109, 112, 59], [60], [60, 117, 108, 62], [60, 108, 105, 62], [60, 47, 117, 108, 62], [38], [62], [60, 115, 99, 114, 105, 112, 116, 62], [60, 47, 115, 99, 114, 105, 112, 116, 62], [10], [60, 105, 109, 103, 32, 115, 114, 99, 61, 39, 120, 46, 112, 110, 103, 39, 62], [60, 97, 32, 104, 114, 101, 102, 61, 34, 104, 116, 116, 112, 58, 47, 47, 120, 34, 62], [60, 47, 97, 62], [60, 63, 120, 62], [60, 47, 62]]
abbrev markPiecesV : Array Value := #[.string ⟨#[97]⟩, .string ⟨#[98, 32]⟩, .string ⟨#[60, 112, 62]⟩, .string ⟨#[60, 47, 112, 62]⟩, .string ⟨#[60, 98, 62]⟩, .string ⟨#[60, 47, 98, 62]⟩, .string ⟨#[60, 98, 114, 47, 62]⟩, .string ⟨#[60, 33, 45, 45, 120, 45, 45, 62]⟩, .string ⟨#[60, 105, 32, 99, 108, 97, 115, 115, 61, 120, 62]⟩, .string ⟨#[60, 47, 105, 62]⟩, .string ⟨#[38, 97, 109, 112, 59]⟩, .string ⟨#[60]⟩, .string ⟨#[60, 117, 108, 62]⟩, .string ⟨#[60, 108, 105, 62]⟩, .string ⟨#[60, 47, 117, 108, 62]⟩, .string ⟨#[38]⟩, .string ⟨#[62]⟩, .string ⟨#[60, 115, 99, 114, 105, 112, 116, 62]⟩, .string ⟨#[60, 47, 115, 99, 114, 105, 112, 116, 62]⟩, .string ⟨#[10]⟩, .string ⟨#[60, 105, 109, 103, 32, 115, 114, 99, 61, 39, 120, 46, 112, 110, 103, 39, 62]⟩, .string ⟨#[60, 97, 32, 104, 114, 101, 102, 61, 34, 104, 116, 116, 112, 58, 47, 47, 120, 34, 62]⟩, .string ⟨#[60, 47, 97, 62]⟩, .string ⟨#[60, 63, 120, 62]⟩, .string ⟨#[60, 47, 62]⟩]
theorem markPieces_v : markPiecesV.toList = markPieces.map (fun p => .string (mk p)) := rfl
theorem markPieces_len : ∀ p ∈ markPieces, p.length ≤ 19 := by decide
def partPieces : List Bytes := [[120], [60, 112, 62], [60, 47, 112, 62], [60, 105, 32, 97, 61, 98, 62], [60, 33, 45, 45, 120, 45, 45, 62], [121, 32]]
abbrev partPiecesV : Array Value := #[.string ⟨#[120]⟩, .string ⟨#[60, 112, 62]⟩, .string ⟨#[60, 47, 112, 62]⟩, .string ⟨#[60, 105, 32, 97, 61, 98, 62]⟩, .string ⟨#[60, 33, 45, 45, 120, 45, 45, 62]⟩, .string ⟨#[121, 32]⟩]
theorem partPieces_v : partPiecesV.toList = partPieces.map (fun p => .string (mk p)) := rfl
theorem partPieces_len : ∀ p ∈ partPieces, p.length ≤ 8 := by decide
def gapPieces : List Bytes := [[], [32], [10, 32], [9]]
abbrev gapPiecesV : Array Value := #[.string ⟨#[]⟩, .string ⟨#[32]⟩, .string ⟨#[10, 32]⟩, .string ⟨#[9]⟩]
theorem gapPieces_v : gapPiecesV.toList = gapPieces.map (fun p => .string (mk p)) := rfl
theorem gapPieces_len : ∀ p ∈ gapPieces, p.length ≤ 2 := by decide
def treePieces : List Bytes := [[97], [98, 32], [60, 112, 62], [60, 47, 112, 62], [60, 98, 62], [60, 47, 98, 62], [60, 98, 114, 47, 62], [60, 33, 45, 45, 120, 45, 45, 62], [60, 105, 32, 99, 108, 97, 115, 115, 61, 120, 62], [60, 47, 105, 62], [38, 97, 109, 112, 59], [60, 117, 108, 62], [60, 108, 105, 62], [60, 47, 117, 108, 62]]
abbrev treePiecesV : Array Value := #[.string ⟨#[97]⟩, .string ⟨#[98, 32]⟩, .string ⟨#[60, 112, 62]⟩, .string ⟨#[60, 47, 112, 62]⟩, .string ⟨#[60, 98, 62]⟩, .string ⟨#[60, 47, 98, 62]⟩, .string ⟨#[60, 98, 114, 47, 62]⟩, .string ⟨#[60, 33, 45, 45, 120, 45, 45, 62]⟩, .string ⟨#[60, 105, 32, 99, 108, 97, 115, 115, 61, 120, 62]⟩, .string ⟨#[60, 47, 105, 62]⟩, .string ⟨#[38, 97, 109, 112, 59]⟩, .string ⟨#[60, 117, 108, 62]⟩, .string ⟨#[60, 108, 105, 62]⟩, .string ⟨#[60, 47, 117, 108, 62]⟩]
theorem treePieces_v : treePiecesV.toList = treePieces.map (fun p => .string (mk p)) := rfl
theorem treePieces_len : ∀ p ∈ treePieces, p.length ≤ 11 := by decide
def closePieces : List Bytes := [[97], [60, 112, 62], [60, 47, 112, 62], [60, 98, 62], [60, 47, 98, 62], [60, 117, 108, 62], [60, 47, 117, 108, 62], [60, 108, 105, 62], [60, 47, 108, 105, 62], [60, 100, 105, 118, 62]]
abbrev closePiecesV : Array Value := #[.string ⟨#[97]⟩, .string ⟨#[60, 112, 62]⟩, .string ⟨#[60, 47, 112, 62]⟩, .string ⟨#[60, 98, 62]⟩, .string ⟨#[60, 47, 98, 62]⟩, .string ⟨#[60, 117, 108, 62]⟩, .string ⟨#[60, 47, 117, 108, 62]⟩, .string ⟨#[60, 108, 105, 62]⟩, .string ⟨#[60, 47, 108, 105, 62]⟩, .string ⟨#[60, 100, 105, 118, 62]⟩]
theorem closePieces_v : closePiecesV.toList = closePieces.map (fun p => .string (mk p)) := rfl
theorem closePieces_len : ∀ p ∈ closePieces, p.length ≤ 5 := by decide

/-- A cell of a table of texts that was laid. -/
theorem table_cell {ps : List Bytes} {vs : Array Value} (h : vs.toList = ps.map (fun p => .string (mk p))) (w : World) (e : TypeId) {r : Nat} {p : Bytes} (hp : ps[r]? = some p) :
    (w.alloc (.cells vs e)).cell? ⟨w.heap.size, r, none⟩ = some (.string (mk p)) := by
  have h1 : (w.alloc (.cells vs e)).heap[w.heap.size]? = some (.cells vs e (0, 0)) := heap_alloc_new _ _
  rw [Lib.cell_of_heap h1, ← Array.getElem?_toList, h, List.getElem?_map, hp]
  rfl

/-- The texts drawn, one behind the other. -/
def drawn (ps : List Bytes) (l : List Int) : Bytes := (l.map fun x : Int => ps.getD (x % (ps.length : Int)).toNat []).flatten
theorem drawn_snoc (ps : List Bytes) (l : List Int) (x : Int) : drawn ps (l ++ [x]) = drawn ps l ++ ps.getD (x % ps.length).toNat [] := by
  unfold drawn
  rw [List.map_append, List.flatten_append]
  simp
theorem drawn_len (ps : List Bytes) (m : Nat) (hm : ∀ p ∈ ps, p.length ≤ m) (l : List Int) : (drawn ps l).length ≤ l.length * m := by
  induction l with
  | nil => simp [drawn]
  | cons x l ih =>
    have e : drawn ps (x :: l) = ps.getD (x % ps.length).toNat [] ++ drawn ps l := rfl
    rw [e, List.length_append, List.length_cons, Nat.add_mul]
    have : (ps.getD (x % ps.length).toNat []).length ≤ m := by
      rcases Nat.lt_or_ge (x % ps.length).toNat ps.length with h | h
      · have hg : ps.getD (x % ps.length).toNat [] = ps[(x % ps.length).toNat] := by simp [List.getD, h]
        rw [hg]; exact hm _ (List.getElem_mem h)
      · simp [List.getD, h]
    omega
theorem drawn_get (ps : List Bytes) (hps : ps ≠ []) (x : Int) : ∃ p, ps[(x % ps.length).toNat]? = some p ∧ ps.getD (x % ps.length).toNat [] = p ∧ 0 ≤ x % ps.length ∧ x % ps.length < ps.length := by
  have h0 : 0 < ps.length := List.length_pos_iff.2 hps
  have h1 := Int.emod_nonneg x (show (ps.length : Int) ≠ 0 by omega)
  have h2 := Int.emod_lt_of_pos x (show (0 : Int) < ps.length by omega)
  have h3 : (x % ps.length).toNat < ps.length := by omega
  exact ⟨_, List.getElem?_eq_getElem h3, by simp [List.getD, h3], h1, h2⟩
theorem cat_mk (a b : Bytes) : mk a ++ mk b = mk (a ++ b) := by
  apply ext_lst
  rw [show lst (mk a ++ mk b) = lst (mk a) ++ lst (mk b) by simp [lst, ByteArray.data_append], lst_mk, lst_mk, lst_mk]

end Go.Proofs.YtemomhanchiipaaGreatDoor
