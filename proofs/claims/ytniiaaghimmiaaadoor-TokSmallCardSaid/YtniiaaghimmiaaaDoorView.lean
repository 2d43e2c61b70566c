/- Tokens and attributes as a reader sees them: cells, and nothing of who owns them. -/
import Derived.Test.YtniiaaghimmiaaaDoorTokI
namespace Go.Proofs.YtniiaaghimmiaaaDoor
open Go Go.RowKit

/-- The cells of a token, place i of block g. -/
structure TokAt (w : World) (g i : Nat) (t : TTok) (va : Value) : Prop where
  kind : w.cell? ⟨g, i * 5, none⟩ = some (.int .i64 t.kind)
  name : w.cell? ⟨g, i * 5 + 1, none⟩ = some (.string (mk t.name))
  attrs : w.cell? ⟨g, i * 5 + 2, none⟩ = some va
  self : w.cell? ⟨g, i * 5 + 3, none⟩ = some (.bool t.self)
  text : w.cell? ⟨g, i * 5 + 4, none⟩ = some (.string (mk t.text))

/-- A slice of attributes. -/
def AttrView (w : World) (va : Value) (l : List TAttr) : Prop :=
  (∃ a cap, va = .slice a l.length cap) ∧ ∀ i t, l[i]? = some t → ∃ g cap, va = .slice (some ⟨g, 0, none⟩) l.length cap ∧ l.length ≤ cap ∧ g < w.heap.size ∧
    w.cell? ⟨g, i * 2, none⟩ = some (.string (mk t.name)) ∧ w.cell? ⟨g, i * 2 + 1, none⟩ = some (.string (mk t.value))

/-- A slice of tokens. -/
def TokView (w : World) (tv : Value) (l : List TTok) : Prop :=
  (∃ a cap, tv = .slice a l.length cap) ∧ ∀ i t, l[i]? = some t → ∃ g cap va, tv = .slice (some ⟨g, 0, none⟩) l.length cap ∧ l.length ≤ cap ∧ cap ≤ maxLen ∧ g < w.heap.size ∧ TokAt w g i t va ∧ AttrView w va t.attrs

/-- Old cells read as they did. -/
def Older (w w' : World) : Prop := w.heap.size ≤ w'.heap.size ∧ ∀ b o, b < w.heap.size → w'.cell? ⟨b, o, none⟩ = w.cell? ⟨b, o, none⟩
theorem Older.of_below {w w' : World} (h : Below w.heap.size w w') : Older w w' := ⟨h.size, fun b o hb => h.cell (p := ⟨b, o, none⟩) hb⟩
theorem Older.refl (w : World) : Older w w := ⟨Nat.le_refl _, fun _ _ _ => rfl⟩
theorem Older.trans {a b c : World} (h : Older a b) (k : Older b c) : Older a c := ⟨Nat.le_trans h.1 k.1, fun x o hx => (k.2 x o (Nat.lt_of_lt_of_le hx h.1)).trans (h.2 x o hx)⟩

theorem AttrView.older {w w' : World} {va : Value} {l : List TAttr} (h : AttrView w va l) (hk : Older w w') : AttrView w' va l :=
  ⟨h.1, fun i t hi => by
    obtain ⟨g, cap, hv, hc, hg, h1, h2⟩ := h.2 i t hi
    exact ⟨g, cap, hv, hc, Nat.lt_of_lt_of_le hg hk.1, by rw [hk.2 _ _ hg]; exact h1, by rw [hk.2 _ _ hg]; exact h2⟩⟩
theorem TokView.older {w w' : World} {tv : Value} {l : List TTok} (h : TokView w tv l) (hk : Older w w') : TokView w' tv l :=
  ⟨h.1, fun i t hi => by
    obtain ⟨g, cap, va, hv, hc, hm, hg, h1, h2⟩ := h.2 i t hi
    exact ⟨g, cap, va, hv, hc, hm, Nat.lt_of_lt_of_le hg hk.1, ⟨by rw [hk.2 _ _ hg]; exact h1.kind, by rw [hk.2 _ _ hg]; exact h1.name, by rw [hk.2 _ _ hg]; exact h1.attrs, by rw [hk.2 _ _ hg]; exact h1.self, by rw [hk.2 _ _ hg]; exact h1.text⟩, h2.older hk⟩⟩

theorem AttrRow.view {B : Nat} {w : World} {va : Value} {l : List TAttr} (h : AttrRow B w va l) : AttrView w va l := by
  refine ⟨ownsRow_slice h, fun i t hi => ?_⟩
  have hlt : i < l.length := (List.getElem?_eq_some_iff.1 hi).1
  obtain ⟨g, cap, hv, _, hg, hc, _, hcell, _⟩ := ownsRow_cells h (by omega)
  obtain ⟨h1, h2⟩ := attrCells_get l i t hi
  exact ⟨g, cap, hv, hc, hg, hcell _ _ h1, hcell _ _ h2⟩

theorem tokCells_get (ps : List (TTok × Value)) : ∀ (i : Nat) (p : TTok × Value) (k : Nat), k < 5 → ps[i]? = some p → (tokCells ps)[i * 5 + k]? = (tokCell p)[k]? := by
  induction ps with
  | nil => intro i p k _ h; simp at h
  | cons a ps ih =>
    intro i p k hk h
    have e : tokCells (a :: ps) = tokCell a ++ tokCells ps := rfl
    cases i with
    | zero =>
      simp at h
      subst h
      rw [e, List.getElem?_append_left (by show 0 * 5 + k < 5; omega)]
      congr 1; omega
    | succ i =>
      rw [e, List.getElem?_append_right (by show 5 ≤ _; omega), ← ih i p k hk (by simpa using h)]
      congr 1
      show (i + 1) * 5 + k - 5 = _
      omega

theorem TokRow.view {B : Nat} {w : World} {tv : Value} {l : List TTok} (h : TokRow B w tv l) : TokView w tv l := by
  obtain ⟨ps, rfl, hown, hat⟩ := h
  have hlen : (ps.map Prod.fst).length = ps.length := List.length_map _
  refine ⟨by rw [hlen]; exact ownsRow_slice hown, fun i t hi => ?_⟩
  rw [List.getElem?_map] at hi
  obtain ⟨p, hp, rfl⟩ := Option.map_eq_some_iff.1 hi
  have hlt : i < ps.length := (List.getElem?_eq_some_iff.1 hp).1
  obtain ⟨g, cap, hv, _, hg, hc, hm, hcell, _⟩ := ownsRow_cells hown (by omega)
  refine ⟨g, cap, p.2, by rw [hlen]; exact hv, by rw [hlen]; exact hc, hm, hg, ⟨?_, ?_, ?_, ?_, ?_⟩, (hat p (List.mem_of_getElem? hp)).view⟩
  · exact hcell _ _ ((tokCells_get ps i p 0 (by decide) hp).trans rfl)
  · exact hcell _ _ ((tokCells_get ps i p 1 (by decide) hp).trans rfl)
  · exact hcell _ _ ((tokCells_get ps i p 2 (by decide) hp).trans rfl)
  · exact hcell _ _ ((tokCells_get ps i p 3 (by decide) hp).trans rfl)
  · exact hcell _ _ ((tokCells_get ps i p 4 (by decide) hp).trans rfl)

end Go.Proofs.YtniiaaghimmiaaaDoor
