/- Tokens and attributes as a reader sees them: cells, and nothing of who owns them. -/
import Derived.Test.YtbgonaacheemcaaDoorTokI
namespace Go.Proofs.YtbgonaacheemcaaDoor
open Go Go.RowKit

/-- The cells of a token, place i of block g. -/
structure TokAt (w : World) (g i : Nat) (t : TTok) (va : Value) : Prop where
  kind : w.cell? ⟨g, i * 5, none⟩ = some (.int .i64 t.kind)
  name : w.cell? ⟨g, i * 5 + 1, none⟩ = some (.string (mk t.name))
  attrs : w.cell? ⟨g, i * 5 + 2, none⟩ = some va
  self : w.cell? ⟨g, i * 5 + 3, none⟩ = some (.bool t.self)
  text : w.cell? ⟨g, i * 5 + 4, none⟩ = some (.string (mk t.text))

/-- A slice of attributes. -/
def AttrView (w : World) (va : Value) (l : List TAttr) : Prop :=
  (∃ a cap, va = .slice a l.length cap) ∧ ∀ i t, l[i]? = some t → ∃ g cap, va = .slice (some ⟨g, 0, none⟩) l.length cap ∧ l.length ≤ cap ∧ (∃ cs, w.heap[g]? = some (.cells cs 45 (0, 0))) ∧
    w.cell? ⟨g, i * 2, none⟩ = some (.string (mk t.name)) ∧ w.cell? ⟨g, i * 2 + 1, none⟩ = some (.string (mk t.value))

/-- A slice of tokens. -/
def TokView (w : World) (tv : Value) (l : List TTok) : Prop :=
  ∃ ps : List (TTok × Value), ps.map Prod.fst = l ∧ (∃ a cap, tv = .slice a l.length cap) ∧ ∀ i p, ps[i]? = some p → ∃ g cap, tv = .slice (some ⟨g, 0, none⟩) l.length cap ∧ l.length ≤ cap ∧ cap ≤ maxLen ∧
    (∃ cs, w.heap[g]? = some (.cells cs 31 (0, 0))) ∧ TokAt w g i p.1 p.2 ∧ AttrView w p.2 p.1.attrs
theorem TokView.form {w : World} {tv : Value} {l : List TTok} (h : TokView w tv l) : ∃ a cap, tv = .slice a l.length cap := by obtain ⟨_, _, h, _⟩ := h; exact h
theorem TokView.get {w : World} {tv : Value} {l : List TTok} (h : TokView w tv l) : ∀ i t, l[i]? = some t → ∃ g cap va, tv = .slice (some ⟨g, 0, none⟩) l.length cap ∧ l.length ≤ cap ∧ cap ≤ maxLen ∧ g < w.heap.size ∧ TokAt w g i t va ∧ AttrView w va t.attrs := by
  obtain ⟨ps, rfl, _, h⟩ := h
  intro i t hi
  rw [List.getElem?_map] at hi
  obtain ⟨p, hp, rfl⟩ := Option.map_eq_some_iff.1 hi
  obtain ⟨g, cap, h1, h2, h3, ⟨cs, h4⟩, h5, h6⟩ := h i p hp
  exact ⟨g, cap, p.2, h1, h2, h3, lt_of_block h4, h5, h6⟩

/-- Old blocks are as they were. -/
def Older (w w' : World) : Prop := w.heap.size ≤ w'.heap.size ∧ ∀ k, k < w.heap.size → w'.heap[k]? = w.heap[k]?
theorem Older.cell {w w' : World} (h : Older w w') (b o : Nat) (hb : b < w.heap.size) : w'.cell? ⟨b, o, none⟩ = w.cell? ⟨b, o, none⟩ := World.cell?_of_block (w := w) (h.2 b hb)
theorem Older.of_below {w w' : World} (h : Below w.heap.size w w') : Older w w' := ⟨h.size, h.block⟩
theorem Older.refl (w : World) : Older w w := ⟨Nat.le_refl _, fun _ _ => rfl⟩
theorem Older.trans {a b c : World} (h : Older a b) (k : Older b c) : Older a c := ⟨Nat.le_trans h.1 k.1, fun x hx => (k.2 x (Nat.lt_of_lt_of_le hx h.1)).trans (h.2 x hx)⟩

/-- Rows of attributes stay where their blocks stay. -/
theorem AttrView.stay {w w' : World} {va : Value} {l : List TAttr} (h : AttrView w va l) (hk : ∀ (g : Nat) (cs : Array Value), w.heap[g]? = some (.cells cs 45 (0, 0)) → w'.heap[g]? = w.heap[g]?) : AttrView w' va l :=
  ⟨h.1, fun i t hi => by
    obtain ⟨g, cap, hv, hc, ⟨cs, hg⟩, h1, h2⟩ := h.2 i t hi
    have e := hk g cs hg
    exact ⟨g, cap, hv, hc, ⟨cs, e.trans hg⟩, (World.cell?_of_block (w := w) (a := ⟨g, i * 2, none⟩) e).trans h1, (World.cell?_of_block (w := w) (a := ⟨g, i * 2 + 1, none⟩) e).trans h2⟩⟩
theorem AttrView.older {w w' : World} {va : Value} {l : List TAttr} (h : AttrView w va l) (hk : Older w w') : AttrView w' va l := h.stay fun g _ hg => hk.2 g (lt_of_block hg)
theorem TokAt.older {w w' : World} {g i : Nat} {t : TTok} {va : Value} (h : TokAt w g i t va) (e : w'.heap[g]? = w.heap[g]?) : TokAt w' g i t va :=
  have c := fun o => World.cell?_of_block (w := w) (w' := w') (a := ⟨g, o, none⟩) e
  ⟨(c _).trans h.kind, (c _).trans h.name, (c _).trans h.attrs, (c _).trans h.self, (c _).trans h.text⟩
theorem TokView.older {w w' : World} {tv : Value} {l : List TTok} (h : TokView w tv l) (hk : Older w w') : TokView w' tv l := by
  obtain ⟨ps, hl, hf, h⟩ := h
  refine ⟨ps, hl, hf, fun i p hi => ?_⟩
  obtain ⟨g, cap, hv, hc, hm, ⟨cs, hg⟩, h1, h2⟩ := h i p hi
  have e := hk.2 g (lt_of_block hg)
  exact ⟨g, cap, hv, hc, hm, ⟨cs, e.trans hg⟩, h1.older e, h2.older hk⟩

theorem ownsRow_block {B size n : Nat} {w : World} {e : TypeId} {v : Value} {xs : List Value} (h : w.ownsRow B e size v n xs) {g c : Nat} (hv : v = .slice (some ⟨g, 0, none⟩) n c) (_hn : 0 < n) : ∃ cs, w.heap[g]? = some (.cells cs e (0, 0)) := by
  rcases h.2 with ⟨h0, _⟩ | ⟨g', cap, cur, hv', _, hg, _⟩
  · rw [h0] at hv; cases hv
  · rw [hv'] at hv
    cases hv
    exact ⟨cur, hg⟩
theorem AttrRow.view {B : Nat} {w : World} {va : Value} {l : List TAttr} (h : AttrRow B w va l) : AttrView w va l := by
  refine ⟨ownsRow_slice h, fun i t hi => ?_⟩
  have hlt : i < l.length := (List.getElem?_eq_some_iff.1 hi).1
  obtain ⟨g, cap, hv, _, hg, hc, _, hcell, _⟩ := ownsRow_cells h (by omega)
  obtain ⟨h1, h2⟩ := attrCells_get l i t hi
  exact ⟨g, cap, hv, hc, ownsRow_block h hv (by omega), hcell _ _ h1, hcell _ _ h2⟩

theorem tokCells_get (ps : List (TTok × Value)) : ∀ (i : Nat) (p : TTok × Value) (k : Nat), k < 5 → ps[i]? = some p → (tokCells ps)[i * 5 + k]? = (tokCell p)[k]? := by
  induction ps with
  | nil => intro i p k _ h; simp at h
  | cons a ps ih =>
    intro i p k hk h
    have e : tokCells (a :: ps) = tokCell a ++ tokCells ps := rfl
    cases i with
    | zero =>
      simp at h
      subst h
      rw [e, List.getElem?_append_left (by show 0 * 5 + k < 5; omega)]
      congr 1; omega
    | succ i =>
      rw [e, List.getElem?_append_right (by show 5 ≤ _; omega), ← ih i p k hk (by simpa using h)]
      congr 1
      show (i + 1) * 5 + k - 5 = _
      omega

/-- Tokens in a row of the call's own, their attributes anywhere. -/
def TokOwn (B : Nat) (w : World) (tv : Value) (l : List TTok) : Prop :=
  ∃ ps : List (TTok × Value), ps.map Prod.fst = l ∧ w.ownsRow B 31 5 tv ps.length (tokCells ps) ∧ ∀ p ∈ ps, AttrView w p.2 p.1.attrs
theorem TokRow.own {B : Nat} {w : World} {tv : Value} {l : List TTok} (h : TokRow B w tv l) : TokOwn B w tv l := by
  obtain ⟨ps, h1, h2, h3⟩ := h
  exact ⟨ps, h1, h2, fun p hp => (h3 p hp).view⟩
theorem TokOwn.nil (B : Nat) (w : World) : TokOwn B w (.slice none 0 0) [] := ⟨[], rfl, World.ownsRow_nil w B _ _, fun p hp => by cases hp⟩
theorem TokOwn.older {B : Nat} {w w' : World} {tv : Value} {l : List TTok} (h : TokOwn B w tv l) (hk : Older w w') : TokOwn B w' tv l := by
  obtain ⟨ps, h1, h2, h3⟩ := h
  exact ⟨ps, h1, ownsRow_kept h2 fun g c _ hg => (hk.2 g (lt_of_block hg)).trans hg, fun p hp => (h3 p hp).older hk⟩
theorem TokOwn.view {B : Nat} {w : World} {tv : Value} {l : List TTok} (h : TokOwn B w tv l) : TokView w tv l := by
  obtain ⟨ps, rfl, hown, hat⟩ := h
  have hlen : (ps.map Prod.fst).length = ps.length := List.length_map _
  refine ⟨ps, rfl, by rw [hlen]; exact ownsRow_slice hown, fun i p hp => ?_⟩
  have hlt : i < ps.length := (List.getElem?_eq_some_iff.1 hp).1
  obtain ⟨g, cap, hv, _, hg, hc, hm, hcell, _⟩ := ownsRow_cells hown (by omega)
  refine ⟨g, cap, by rw [hlen]; exact hv, by rw [hlen]; exact hc, hm, ownsRow_block hown hv (by omega), ⟨?_, ?_, ?_, ?_, ?_⟩, hat p (List.mem_of_getElem? hp)⟩
  · exact hcell _ _ ((tokCells_get ps i p 0 (by decide) hp).trans rfl)
  · exact hcell _ _ ((tokCells_get ps i p 1 (by decide) hp).trans rfl)
  · exact hcell _ _ ((tokCells_get ps i p 2 (by decide) hp).trans rfl)
  · exact hcell _ _ ((tokCells_get ps i p 3 (by decide) hp).trans rfl)
  · exact hcell _ _ ((tokCells_get ps i p 4 (by decide) hp).trans rfl)
theorem TokRow.view {B : Nat} {w : World} {tv : Value} {l : List TTok} (h : TokRow B w tv l) : TokView w tv l := h.own.view

end Go.Proofs.YtbgonaacheemcaaDoor
