/- Joined texts: View TRec App. -/
import Derived.Test.YtjkgmdnkejjppaaGreatDoorGg
import Derived.Test.YtjkgmdnkejjppaaGreatDoorGb
import Derived.Test.YtjkgmdnkejjppaaGreatDoorJTag
/- Tokens and attributes as a reader sees them: cells, and nothing of who owns them. -/
namespace Go.Proofs.YtjkgmdnkejjppaaGreatDoor
open Go Go.RowKit

/-- The cells of a token, place i of block g. -/
structure TokAt (w : World) (g i : Nat) (t : TTok) (va : Value) : Prop where
  kind : w.cell? ⟨g, i * 5, none⟩ = some (.int .i64 t.kind)
  name : w.cell? ⟨g, i * 5 + 1, none⟩ = some (.string (mk t.name))
  attrs : w.cell? ⟨g, i * 5 + 2, none⟩ = some va
  self : w.cell? ⟨g, i * 5 + 3, none⟩ = some (.bool t.self)
  text : w.cell? ⟨g, i * 5 + 4, none⟩ = some (.string (mk t.text))

/-- A slice of attributes. -/
def AttrView (w : World) (va : Value) (l : List TAttr) : Prop :=
  (∃ a cap, va = .slice a l.length cap) ∧ ∀ i t, l[i]? = some t → ∃ g cap, va = .slice (some ⟨g, 0, none⟩) l.length cap ∧ l.length ≤ cap ∧ (∃ cs, w.heap[g]? = some (.cells cs 85 (0, 0))) ∧
    w.cell? ⟨g, i * 2, none⟩ = some (.string (mk t.name)) ∧ w.cell? ⟨g, i * 2 + 1, none⟩ = some (.string (mk t.value))

/-- A slice of tokens. -/
def TokView (w : World) (tv : Value) (l : List TTok) : Prop :=
  ∃ ps : List (TTok × Value), ps.map Prod.fst = l ∧ (∃ a cap, tv = .slice a l.length cap) ∧ ∀ i p, ps[i]? = some p → ∃ g cap, tv = .slice (some ⟨g, 0, none⟩) l.length cap ∧ l.length ≤ cap ∧ cap ≤ maxLen ∧
    (∃ cs, w.heap[g]? = some (.cells cs 70 (0, 0))) ∧ TokAt w g i p.1 p.2 ∧ AttrView w p.2 p.1.attrs
theorem TokView.form {w : World} {tv : Value} {l : List TTok} (h : TokView w tv l) : ∃ a cap, tv = .slice a l.length cap := by obtain ⟨_, _, h, _⟩ := h; exact h
theorem TokView.get {w : World} {tv : Value} {l : List TTok} (h : TokView w tv l) : ∀ i t, l[i]? = some t → ∃ g cap va, tv = .slice (some ⟨g, 0, none⟩) l.length cap ∧ l.length ≤ cap ∧ cap ≤ maxLen ∧ g < w.heap.size ∧ TokAt w g i t va ∧ AttrView w va t.attrs := by
  obtain ⟨ps, rfl, _, h⟩ := h
  intro i t hi
  rw [List.getElem?_map] at hi
  obtain ⟨p, hp, rfl⟩ := Option.map_eq_some_iff.1 hi
  obtain ⟨g, cap, h1, h2, h3, ⟨cs, h4⟩, h5, h6⟩ := h i p hp
  exact ⟨g, cap, p.2, h1, h2, h3, lt_of_block h4, h5, h6⟩

/-- Old blocks are as they were. -/
def Older (w w' : World) : Prop := w.heap.size ≤ w'.heap.size ∧ ∀ k, k < w.heap.size → w'.heap[k]? = w.heap[k]?
theorem Older.cell {w w' : World} (h : Older w w') (b o : Nat) (hb : b < w.heap.size) : w'.cell? ⟨b, o, none⟩ = w.cell? ⟨b, o, none⟩ := World.cell?_of_block (w := w) (h.2 b hb)
theorem Older.of_below {w w' : World} (h : Below w.heap.size w w') : Older w w' := ⟨h.size, h.block⟩
theorem Older.refl (w : World) : Older w w := ⟨Nat.le_refl _, fun _ _ => rfl⟩
theorem Older.trans {a b c : World} (h : Older a b) (k : Older b c) : Older a c := ⟨Nat.le_trans h.1 k.1, fun x hx => (k.2 x (Nat.lt_of_lt_of_le hx h.1)).trans (h.2 x hx)⟩

/-- Rows of attributes stay where their blocks stay. -/
theorem AttrView.stay {w w' : World} {va : Value} {l : List TAttr} (h : AttrView w va l) (hk : ∀ (g : Nat) (cs : Array Value), w.heap[g]? = some (.cells cs 85 (0, 0)) → w'.heap[g]? = w.heap[g]?) : AttrView w' va l :=
  ⟨h.1, fun i t hi => by
    obtain ⟨g, cap, hv, hc, ⟨cs, hg⟩, h1, h2⟩ := h.2 i t hi
    have e := hk g cs hg
    exact ⟨g, cap, hv, hc, ⟨cs, e.trans hg⟩, (World.cell?_of_block (w := w) (a := ⟨g, i * 2, none⟩) e).trans h1, (World.cell?_of_block (w := w) (a := ⟨g, i * 2 + 1, none⟩) e).trans h2⟩⟩
theorem AttrView.older {w w' : World} {va : Value} {l : List TAttr} (h : AttrView w va l) (hk : Older w w') : AttrView w' va l := h.stay fun g _ hg => hk.2 g (lt_of_block hg)
theorem TokAt.older {w w' : World} {g i : Nat} {t : TTok} {va : Value} (h : TokAt w g i t va) (e : w'.heap[g]? = w.heap[g]?) : TokAt w' g i t va :=
  have c := fun o => World.cell?_of_block (w := w) (w' := w') (a := ⟨g, o, none⟩) e
  ⟨(c _).trans h.kind, (c _).trans h.name, (c _).trans h.attrs, (c _).trans h.self, (c _).trans h.text⟩
theorem TokView.older {w w' : World} {tv : Value} {l : List TTok} (h : TokView w tv l) (hk : Older w w') : TokView w' tv l := by
  obtain ⟨ps, hl, hf, h⟩ := h
  refine ⟨ps, hl, hf, fun i p hi => ?_⟩
  obtain ⟨g, cap, hv, hc, hm, ⟨cs, hg⟩, h1, h2⟩ := h i p hi
  have e := hk.2 g (lt_of_block hg)
  exact ⟨g, cap, hv, hc, hm, ⟨cs, e.trans hg⟩, h1.older e, h2.older hk⟩

theorem ownsRow_block {B size n : Nat} {w : World} {e : TypeId} {v : Value} {xs : List Value} (h : w.ownsRow B e size v n xs) {g c : Nat} (hv : v = .slice (some ⟨g, 0, none⟩) n c) (_hn : 0 < n) : ∃ cs, w.heap[g]? = some (.cells cs e (0, 0)) := by
  rcases h.2 with ⟨h0, _⟩ | ⟨g', cap, cur, hv', _, hg, _⟩
  · rw [h0] at hv; cases hv
  · rw [hv'] at hv
    cases hv
    exact ⟨cur, hg⟩
theorem AttrRow.view {B : Nat} {w : World} {va : Value} {l : List TAttr} (h : AttrRow B w va l) : AttrView w va l := by
  refine ⟨ownsRow_slice h, fun i t hi => ?_⟩
  have hlt : i < l.length := (List.getElem?_eq_some_iff.1 hi).1
  obtain ⟨g, cap, hv, _, hg, hc, _, hcell, _⟩ := ownsRow_cells h (by omega)
  obtain ⟨h1, h2⟩ := attrCells_get l i t hi
  exact ⟨g, cap, hv, hc, ownsRow_block h hv (by omega), hcell _ _ h1, hcell _ _ h2⟩

theorem tokCells_get (ps : List (TTok × Value)) : ∀ (i : Nat) (p : TTok × Value) (k : Nat), k < 5 → ps[i]? = some p → (tokCells ps)[i * 5 + k]? = (tokCell p)[k]? := by
  induction ps with
  | nil => intro i p k _ h; simp at h
  | cons a ps ih =>
    intro i p k hk h
    have e : tokCells (a :: ps) = tokCell a ++ tokCells ps := rfl
    cases i with
    | zero =>
      simp at h
      subst h
      rw [e, List.getElem?_append_left (by show 0 * 5 + k < 5; omega)]
      congr 1; omega
    | succ i =>
      rw [e, List.getElem?_append_right (by show 5 ≤ _; omega), ← ih i p k hk (by simpa using h)]
      congr 1
      show (i + 1) * 5 + k - 5 = _
      omega

/-- Tokens in a row of the call's own, their attributes anywhere. -/
def TokOwn (B : Nat) (w : World) (tv : Value) (l : List TTok) : Prop :=
  ∃ ps : List (TTok × Value), ps.map Prod.fst = l ∧ w.ownsRow B 70 5 tv ps.length (tokCells ps) ∧ ∀ p ∈ ps, AttrView w p.2 p.1.attrs
theorem TokRow.own {B : Nat} {w : World} {tv : Value} {l : List TTok} (h : TokRow B w tv l) : TokOwn B w tv l := by
  obtain ⟨ps, h1, h2, h3⟩ := h
  exact ⟨ps, h1, h2, fun p hp => (h3 p hp).view⟩
theorem TokOwn.nil (B : Nat) (w : World) : TokOwn B w (.slice none 0 0) [] := ⟨[], rfl, World.ownsRow_nil w B _ _, fun p hp => by cases hp⟩
theorem TokOwn.older {B : Nat} {w w' : World} {tv : Value} {l : List TTok} (h : TokOwn B w tv l) (hk : Older w w') : TokOwn B w' tv l := by
  obtain ⟨ps, h1, h2, h3⟩ := h
  exact ⟨ps, h1, ownsRow_kept h2 fun g c _ hg => (hk.2 g (lt_of_block hg)).trans hg, fun p hp => (h3 p hp).older hk⟩
theorem TokOwn.view {B : Nat} {w : World} {tv : Value} {l : List TTok} (h : TokOwn B w tv l) : TokView w tv l := by
  obtain ⟨ps, rfl, hown, hat⟩ := h
  have hlen : (ps.map Prod.fst).length = ps.length := List.length_map _
  refine ⟨ps, rfl, by rw [hlen]; exact ownsRow_slice hown, fun i p hp => ?_⟩
  have hlt : i < ps.length := (List.getElem?_eq_some_iff.1 hp).1
  obtain ⟨g, cap, hv, _, hg, hc, hm, hcell, _⟩ := ownsRow_cells hown (by omega)
  refine ⟨g, cap, by rw [hlen]; exact hv, by rw [hlen]; exact hc, hm, ownsRow_block hown hv (by omega), ⟨?_, ?_, ?_, ?_, ?_⟩, hat p (List.mem_of_getElem? hp)⟩
  · exact hcell _ _ ((tokCells_get ps i p 0 (by decide) hp).trans rfl)
  · exact hcell _ _ ((tokCells_get ps i p 1 (by decide) hp).trans rfl)
  · exact hcell _ _ ((tokCells_get ps i p 2 (by decide) hp).trans rfl)
  · exact hcell _ _ ((tokCells_get ps i p 3 (by decide) hp).trans rfl)
  · exact hcell _ _ ((tokCells_get ps i p 4 (by decide) hp).trans rfl)
theorem TokRow.view {B : Nat} {w : World} {tv : Value} {l : List TTok} (h : TokRow B w tv l) : TokView w tv l := h.own.view

end Go.Proofs.YtjkgmdnkejjppaaGreatDoor
/- The builder's objects in memory. -/
namespace Go.Proofs.YtjkgmdnkejjppaaGreatDoor
open Go Go.RowKit

def ptr (b : Nat) : Value := .pointer (some ⟨b, 0, none⟩)
def ptrO : Option Nat → Value
  | none => .pointer none
  | some b => ptr b
def ptrs (l : List Nat) : List Value := l.map ptr
theorem ptrs_length (l : List Nat) : (ptrs l).length = l.length := List.length_map _
theorem ptrs_one (l : List Nat) : ∀ u ∈ ptrs l, u.oneCell' = true := by
  intro u hu
  obtain ⟨b, _, rfl⟩ := List.mem_map.1 hu
  rfl

def NodeAt0 (w : World) (nb : Nat) (n : Bytes) (a : List TAttr) : Prop :=
  ∃ av, w.heap[nb]? = some (.cells #[.string (mk n), av, .string ⟨#[]⟩, .slice none 0 0] 44 (0, 0)) ∧ AttrView w av a

structure RecAt (B : Nat) (w : World) (b : Nat) (r : ORec) (pv : Value) : Prop where
  of ::
  blk : w.heap[b]? = some (.cells #[ptrO r.nb, pv, .string (mk r.text), .bool r.nb.isSome] 66 (0, 0))
  own : w.ownsRow B 62 1 pv r.kids.length (ptrs r.kids)
  node : ∀ nb, r.nb = some nb → NodeAt0 w nb r.name r.attrs
  ge : B ≤ b

/-- A row's block has the row's type. -/
theorem own_type {B size n : Nat} {w : World} {e : TypeId} {v : Value} {xs : List Value} (h : w.ownsRow B e size v n xs) {g : Nat} (hg : v.ownBlock = some g) : ∃ cs, w.heap[g]? = some (.cells cs e (0, 0)) ∧ B ≤ g := by
  rcases h.2 with ⟨h0, _⟩ | ⟨g', cap, cur, hv', hB, hg', _⟩
  · rw [h0] at hg; cases hg
  · rw [hv'] at hg
    have : g' = g := by injection hg
    subst this
    exact ⟨cur, hg', hB⟩
theorem type_ne {w : World} {x y : Nat} {c d : Array Value} {e f : TypeId} (h : w.heap[x]? = some (.cells c e (0, 0))) (k : w.heap[y]? = some (.cells d f (0, 0))) (hef : e ≠ f) : x ≠ y := by
  rintro rfl
  rw [h] at k
  injection k with k
  injection k with _ k _
  exact hef k

theorem NodeAt0.keep {w w' : World} {nb : Nat} {n : Bytes} {a : List TAttr} (h : NodeAt0 w nb n a) (hk : ∀ (g : Nat) (cs : Array Value), (w.heap[g]? = some (.cells cs 44 (0, 0)) ∨ w.heap[g]? = some (.cells cs 85 (0, 0))) → w'.heap[g]? = w.heap[g]?) : NodeAt0 w' nb n a := by
  obtain ⟨av, h1, h2⟩ := h
  exact ⟨av, (hk nb _ (.inl h1)).trans h1, h2.stay fun g cs hg => hk g cs (.inr hg)⟩
theorem RecAt.keep {B : Nat} {w w' : World} {b : Nat} {r : ORec} {pv : Value} (h : RecAt B w b r pv) (hb : w'.heap[b]? = w.heap[b]?) (hrow : ∀ g, pv.ownBlock = some g → w'.heap[g]? = w.heap[g]?)
    (hk : ∀ (g : Nat) (cs : Array Value), (w.heap[g]? = some (.cells cs 44 (0, 0)) ∨ w.heap[g]? = some (.cells cs 85 (0, 0))) → w'.heap[g]? = w.heap[g]?) : RecAt B w' b r pv :=
  ⟨hb.trans h.blk, ownsRow_kept h.own fun g _ hv hg => (hrow g hv).trans hg, fun nb hn => (h.node nb hn).keep hk, h.ge⟩

/-- The builder. -/
structure BW (B : Nat) (w : World) (bb root : Nat) (H : OMap) (pv : Nat → Value) (bs : List Nat) (sv : Value) (c : Nat) (m : Bytes) : Prop where
  of ::
  blk : w.heap[bb]? = some (.cells #[ptr root, sv, .int .i64 c, .string (mk m)] 68 (0, 0))
  own : w.ownsRow B 62 1 sv bs.length (ptrs bs.reverse)
  recs : ∀ b r, H b = some r → RecAt B w b r (pv b)
  rows : ∀ b c r s, H b = some r → H c = some s → b ≠ c → ∀ g, (pv b).ownBlock = some g → (pv c).ownBlock ≠ some g
  srow : ∀ b r, H b = some r → ∀ g, sv.ownBlock = some g → (pv b).ownBlock ≠ some g
  ge : B ≤ bb

section
variable {B : Nat} {w w' : World} {bb root : Nat} {H : OMap} {pv : Nat → Value} {bs : List Nat} {sv : Value} {c : Nat} {m : Bytes}
theorem BW.lt (h : BW B w bb root H pv bs sv c m) {b : Nat} {r : ORec} (hr : H b = some r) : b < w.heap.size := lt_of_block (h.recs b r hr).blk
theorem BW.older (h : BW B w bb root H pv bs sv c m) (hk : Older w w') : BW B w' bb root H pv bs sv c m :=
  ⟨(hk.2 bb (lt_of_block h.blk)).trans h.blk, ownsRow_kept h.own fun g _ _ hg => (hk.2 g (lt_of_block hg)).trans hg,
   fun b r hr => (h.recs b r hr).keep (hk.2 b (h.lt hr)) (fun g hg => by obtain ⟨cs, h1, _⟩ := own_type (h.recs b r hr).own hg; exact hk.2 g (lt_of_block h1)) (fun g cs hg => hg.elim (fun h => hk.2 g (lt_of_block h)) (fun h => hk.2 g (lt_of_block h))),
   h.rows, h.srow, h.ge⟩

/-- One object is another one now (and its row of parts). -/
theorem BW.modify (h : BW B w bb root H pv bs sv c m) {b : Nat} {r r' : ORec} {v' : Value} (hr : H b = some r) (hk : ∀ k, k < w.heap.size → k ≠ b → (pv b).ownBlock ≠ some k → w'.heap[k]? = w.heap[k]?)
    (hnew : RecAt B w' b r' v') (hrow : ∀ g, v'.ownBlock = some g → (pv b).ownBlock = some g ∨ w.heap.size ≤ g) :
    BW B w' bb root (H.put b r') (fun x => if x = b then v' else pv x) bs sv c m := by
  have hb := (h.recs b r hr).blk
  -- a block of another type than objects and rows
  have other : ∀ (x : Nat) (cs : Array Value) (e : TypeId), w.heap[x]? = some (.cells cs e (0, 0)) → e ≠ 66 → e ≠ 62 → w'.heap[x]? = w.heap[x]? := by
    intro x cs e hx h1 h2
    refine hk x (lt_of_block hx) (type_ne hx hb h1) ?_
    intro hg
    obtain ⟨cs', h3, _⟩ := own_type (h.recs b r hr).own hg
    exact type_ne hx h3 h2 rfl
  have row : ∀ (v : Value) (n : Nat) (xs : List Value), w.ownsRow B 62 1 v n xs → (∀ g, v.ownBlock = some g → (pv b).ownBlock ≠ some g) → ∀ g, v.ownBlock = some g → w'.heap[g]? = w.heap[g]? := by
    intro v n xs hv hne g hg
    obtain ⟨cs, h1, _⟩ := own_type hv hg
    exact hk g (lt_of_block h1) (type_ne h1 hb (by decide)) (hne g hg)
  refine ⟨(other bb _ _ h.blk (by decide) (by decide)).trans h.blk, ownsRow_kept h.own fun g _ hv hg => (row sv _ _ h.own (fun g hg => h.srow b r hr g hg) g hv).trans hg, ?_, ?_, ?_, h.ge⟩
  · intro x s hs
    by_cases hx : x = b
    · subst hx
      rw [OMap.put_same] at hs
      cases hs
      rw [if_pos rfl]; exact hnew
    · rw [OMap.put_other _ _ hx] at hs
      rw [if_neg hx]
      have hrx := h.recs x s hs
      refine hrx.keep (hk x (h.lt hs) hx ?_) (row _ _ _ hrx.own fun g hg => h.rows x b s r hs hr hx g hg) fun g cs hg => hg.elim (fun h => other g cs _ h (by decide) (by decide)) (fun h => other g cs _ h (by decide) (by decide))
      intro hg
      obtain ⟨cs', h3, _⟩ := own_type (h.recs b r hr).own hg
      exact type_ne hrx.blk h3 (by decide) rfl
  · intro x y rx ry hx hy hne g hgx hgy
    have far : ∀ (z : Nat) (s : ORec), H z = some s → (pv z).ownBlock = some g → g < w.heap.size := fun z s hz hg => by obtain ⟨_, h1, _⟩ := own_type (h.recs z s hz).own hg; exact lt_of_block h1
    by_cases hxb : x = b
    · have hyb : y ≠ b := fun e => hne (hxb.trans e.symm)
      rw [if_pos hxb] at hgx
      rw [if_neg hyb] at hgy
      rw [OMap.put_other _ _ hyb] at hy
      rcases hrow g hgx with hg | hg
      · exact h.rows b y r ry hr hy (fun e => hyb e.symm) g hg hgy
      · have := far y ry hy hgy; omega
    · rw [if_neg hxb] at hgx
      rw [OMap.put_other _ _ hxb] at hx
      by_cases hyb : y = b
      · rw [if_pos hyb] at hgy
        rcases hrow g hgy with hg | hg
        · exact h.rows x b rx r hx hr hxb g hgx hg
        · have := far x rx hx hgx; omega
      · rw [if_neg hyb] at hgy
        rw [OMap.put_other _ _ hyb] at hy
        exact h.rows x y rx ry hx hy hne g hgx hgy
  · intro x s hs g hg
    by_cases hx : x = b
    · rw [if_pos hx]
      intro hg2
      rcases hrow g hg2 with h1 | h1
      · exact h.srow b r hr g hg h1
      · obtain ⟨_, h2, _⟩ := own_type h.own hg
        have := lt_of_block h2; omega
    · rw [if_neg hx]
      rw [OMap.put_other _ _ hx] at hs
      exact h.srow x s hs g hg

/-- A new object. -/
theorem BW.add (h : BW B w bb root H pv bs sv c m) (hk : Older w w') {k : Nat} {r : ORec} {v : Value} (hkz : w.heap.size ≤ k) (hnew : RecAt B w' k r v) (hrow : ∀ g, v.ownBlock = some g → w.heap.size ≤ g) :
    BW B w' bb root (H.put k r) (fun x => if x = k then v else pv x) bs sv c m := by
  have h' := h.older hk
  have far : ∀ (z : Nat) (s : ORec) (g : Nat), H z = some s → (pv z).ownBlock = some g → g < w.heap.size := fun z s g hz hg => by obtain ⟨_, h1, _⟩ := own_type (h.recs z s hz).own hg; exact lt_of_block h1
  refine ⟨h'.blk, h'.own, ?_, ?_, ?_, h.ge⟩
  · intro x s hs
    by_cases hx : x = k
    · subst hx
      rw [OMap.put_same] at hs
      cases hs
      rw [if_pos rfl]; exact hnew
    · rw [OMap.put_other _ _ hx] at hs
      rw [if_neg hx]
      exact h'.recs x s hs
  · intro x y rx ry hx hy hne g hgx hgy
    by_cases hxb : x = k
    · have hyb : y ≠ k := fun e => hne (hxb.trans e.symm)
      rw [if_pos hxb] at hgx
      rw [if_neg hyb] at hgy
      rw [OMap.put_other _ _ hyb] at hy
      have := hrow g hgx
      have := far y ry g hy hgy
      omega
    · rw [if_neg hxb] at hgx
      rw [OMap.put_other _ _ hxb] at hx
      by_cases hyb : y = k
      · rw [if_pos hyb] at hgy
        have := hrow g hgy
        have := far x rx g hx hgx
        omega
      · rw [if_neg hyb] at hgy
        rw [OMap.put_other _ _ hyb] at hy
        exact h.rows x y rx ry hx hy hne g hgx hgy
  · intro x s hs g hg
    by_cases hx : x = k
    · rw [if_pos hx]
      intro hg2
      have := hrow g hg2
      obtain ⟨_, h2, _⟩ := own_type h.own hg
      have := lt_of_block h2; omega
    · rw [if_neg hx]
      rw [OMap.put_other _ _ hx] at hs
      exact h.srow x s hs g hg

/-- The builder's own block is another one now (and its row of open ones). -/
theorem BW.builder (h : BW B w bb root H pv bs sv c m) {bs' : List Nat} {sv' : Value} {c' : Nat} {m' : Bytes} (hk : ∀ k, k < w.heap.size → k ≠ bb → sv.ownBlock ≠ some k → w'.heap[k]? = w.heap[k]?)
    (hblk : w'.heap[bb]? = some (.cells #[ptr root, sv', .int .i64 c', .string (mk m')] 68 (0, 0))) (hown : w'.ownsRow B 62 1 sv' bs'.length (ptrs bs'.reverse))
    (hrow : ∀ g, sv'.ownBlock = some g → sv.ownBlock = some g ∨ w.heap.size ≤ g) : BW B w' bb root H pv bs' sv' c' m' := by
  have other : ∀ (x : Nat) (cs : Array Value) (e : TypeId), w.heap[x]? = some (.cells cs e (0, 0)) → e ≠ 68 → e ≠ 62 → w'.heap[x]? = w.heap[x]? := by
    intro x cs e hx h1 h2
    refine hk x (lt_of_block hx) (type_ne hx h.blk h1) ?_
    intro hg
    obtain ⟨cs', h3, _⟩ := own_type h.own hg
    exact type_ne hx h3 h2 rfl
  refine ⟨hblk, hown, ?_, h.rows, ?_, h.ge⟩
  · intro x s hs
    have hrx := h.recs x s hs
    refine hrx.keep (other x _ _ hrx.blk (by decide) (by decide)) (fun g hg => ?_) fun g cs hg => hg.elim (fun h => other g cs _ h (by decide) (by decide)) (fun h => other g cs _ h (by decide) (by decide))
    obtain ⟨cs, h1, _⟩ := own_type hrx.own hg
    exact hk g (lt_of_block h1) (type_ne h1 h.blk (by decide)) (fun hg2 => h.srow x s hs g hg2 hg)
  · intro x s hs g hg hg2
    rcases hrow g hg with h1 | h1
    · exact h.srow x s hs g h1 hg2
    · obtain ⟨_, h2, _⟩ := own_type (h.recs x s hs).own hg2
      have := lt_of_block h2; omega

/-- What a reader of the builder's block sees. -/
theorem BW.cells (h : BW B w bb root H pv bs sv c m) : w.cell? ⟨bb, 0, none⟩ = some (ptr root) ∧ w.cell? ⟨bb, 1, none⟩ = some sv ∧ w.cell? ⟨bb, 2, none⟩ = some (.int .i64 c) ∧ w.cell? ⟨bb, 3, none⟩ = some (.string (mk m)) ∧
    (∀ o, w.frozen? ⟨bb, o, none⟩ = false) ∧ bb < w.heap.size :=
  ⟨by rw [Lib.cell_of_heap h.blk]; rfl, by rw [Lib.cell_of_heap h.blk]; rfl, by rw [Lib.cell_of_heap h.blk]; rfl, by rw [Lib.cell_of_heap h.blk]; rfl, fun o => Lib.frozen_of_heap h.blk o, lt_of_block h.blk⟩
theorem RecAt.cells {b : Nat} {r : ORec} {v : Value} (h : RecAt B w b r v) : w.cell? ⟨b, 0, none⟩ = some (ptrO r.nb) ∧ w.cell? ⟨b, 1, none⟩ = some v ∧ w.cell? ⟨b, 2, none⟩ = some (.string (mk r.text)) ∧ w.cell? ⟨b, 3, none⟩ = some (.bool r.nb.isSome) ∧
    (∀ o, w.frozen? ⟨b, o, none⟩ = false) ∧ b < w.heap.size :=
  ⟨by rw [Lib.cell_of_heap h.blk]; rfl, by rw [Lib.cell_of_heap h.blk]; rfl, by rw [Lib.cell_of_heap h.blk]; rfl, by rw [Lib.cell_of_heap h.blk]; rfl, fun o => Lib.frozen_of_heap h.blk o, lt_of_block h.blk⟩
theorem NodeAt0.cell {nb : Nat} {n : Bytes} {a : List TAttr} (h : NodeAt0 w nb n a) : w.cell? ⟨nb, 0, none⟩ = some (.string (mk n)) ∧ nb < w.heap.size := by
  obtain ⟨av, h1, _⟩ := h
  exact ⟨by rw [Lib.cell_of_heap h1]; rfl, lt_of_block h1⟩
end

/-- A row of pointers: its cells. -/
theorem own_ptrs {B : Nat} {w : World} {v : Value} {l : List Nat} (h : w.ownsRow B 62 1 v l.length (ptrs l)) {i b : Nat} (hi : l[i]? = some b) :
    ∃ g cap, v = .slice (some ⟨g, 0, none⟩) l.length cap ∧ l.length ≤ cap ∧ w.cell? ⟨g, i, none⟩ = some (ptr b) := by
  have hlt : i < l.length := (List.getElem?_eq_some_iff.1 hi).1
  obtain ⟨g, cap, hv, _, _, hc, _, hcell, _⟩ := ownsRow_cells h (by omega)
  exact ⟨g, cap, hv, hc, hcell i _ (by unfold ptrs; rw [List.getElem?_map, hi]; rfl)⟩

theorem infoPtr : (Tryz.prog.info? 62).map (fun i => (i.zero, i.size, i.bytes)) = some (some (.pointer none), 1, 8) := by kernel_rfl

/-- A row that is cut to its beginning. -/
theorem own_shrink {B n m cap : Nat} {w : World} {g : Nat} {l : List Nat} (h : w.ownsRow B 62 1 (.slice (some ⟨g, 0, none⟩) n cap) n (ptrs l)) (hm : m ≤ n) : w.ownsRow B 62 1 (.slice (some ⟨g, 0, none⟩) m cap) m (ptrs (l.take m)) := by
  have hl : l.length = n := by have := h.1; rw [ptrs_length] at this; omega
  refine ⟨by rw [ptrs_length, List.length_take]; omega, ?_⟩
  rcases h.2 with ⟨h0, _⟩ | ⟨g', cap', cur, hv, hB, hg, hc, hm', hs, ht⟩
  · cases h0
  · cases hv
    refine .inr ⟨g, cap, cur, rfl, hB, hg, by omega, hm', hs, ?_⟩
    unfold ptrs at *
    rw [List.map_take, ← ht, List.take_take]
    congr 1; omega

end Go.Proofs.YtjkgmdnkejjppaaGreatDoor
/- append(a, b...) of tokens. -/
namespace Go.Proofs.YtjkgmdnkejjppaaGreatDoor
open Go Go.RowKit

section
variable {P : Program} (w : World)
theorem run_append_of_nil (base : Nat) (t ty e : TypeId) (i : TypeInfo) (size : Nat) (ht : P.underlying t = some (.slice e)) (hi : P.info? e = some i)
    (v : Value) (n : Nat) (xs : List Value) (hown : w.ownsRow base e size v n xs) (c : Nat) : (Builtin.append_ #[t, t] ty #[v, .slice none 0 c]).run P w = .ok v w := by
  rcases hown.2 with ⟨rfl, rfl⟩ | ⟨g, cap, cur, rfl, _, _, hnc, _⟩
  · simp [Builtin.append_, run_underlying ht, sizeOf, typeInfo, hi, Builtin.lenOf, Builtin.firstCells]
  · simp [Builtin.append_, run_underlying ht, sizeOf, typeInfo, hi, Builtin.lenOf, Builtin.firstCells, hnc, storeCells]
end

theorem wpList_guarded {P : Program} {ops : Array Oper} {Q : Exit → Act → World → Prop} {a : Act} {w : World} {rest : List Oper} {o : Oper} (hw : Region.wanted o (yielded ops a.tmps) = true)
    (h : ∀ K : Act → World → Prop, (∀ a w, wpList P ops Q rest a w → K a w) → o.wp P a w K Q) : wpList P ops Q (o :: rest) a w :=
  wpList_step fun K hK => by rw [if_pos hw]; exact h K hK

theorem tokCell_one (p : TTok × Value) (hv : p.2.oneCell' = true) : ∀ u ∈ tokCell p, u.oneCell' = true := by
  intro u hu
  unfold tokCell at hu
  simp only [List.mem_cons, List.not_mem_nil, or_false] at hu
  rcases hu with rfl | rfl | rfl | rfl | rfl <;> first | rfl | exact hv

theorem tokCells_append (a b : List (TTok × Value)) : tokCells (a ++ b) = tokCells a ++ tokCells b := by simp [tokCells]

/-- append(tv, xv...) of tokens of the call's own and tokens that are seen. -/
theorem run_append_toks (B : Nat) (w : World) (tv xv : Value) (l m : List TTok) (ty : TypeId) (h1 : TokOwn B w tv l) (h2 : TokView w xv m) (hl : l.length ≤ 1000000) (hm : m.length ≤ 1000000) (hB : B ≤ w.heap.size) :
    ∃ v' w', (Builtin.append_ #[37, 37] ty #[tv, xv]).run Tryz.prog w = .ok v' w' ∧ TokOwn B w' v' (l ++ m) ∧ w.grownBy w' tv.ownBlock := by
  obtain ⟨ps, rfl, hown, hat⟩ := h1
  obtain ⟨qs, rfl, ⟨A, c, rfl⟩, hq⟩ := h2
  rw [List.length_map] at hl hm hq
  obtain ⟨i0, hi0, hz0, hz1, hz2⟩ := info_parts infoTok
  rw [show (qs.map Prod.fst).length = qs.length from List.length_map _]
  -- rows of attributes stay
  have stay : ∀ (w' : World), w.grownBy w' tv.ownBlock → ∀ va al, AttrView w va al → AttrView w' va al := by
    intro w' hg va al hv
    refine hv.stay fun g cs hgc => ?_
    refine hg.block g (lt_of_block hgc) ?_
    intro e
    rcases hown.2 with ⟨hv0, _⟩ | ⟨g0, cap0, cur0, hv0, _, hg0, _⟩
    · rw [hv0] at e; cases e
    · rw [hv0] at e
      have e' : g = g0 := by injection e
      rw [e', hg0] at hgc
      injection hgc with hgc; injection hgc with _ h2 _
      exact absurd h2 (by decide)
  cases qs with
  | nil =>
    cases A with
    | none => exact ⟨tv, w, run_append_of_nil w B 37 ty 70 i0 5 Tryz.underlying37 hi0 tv _ _ hown c, ⟨ps, by simp, hown, hat⟩, World.grownBy.refl w _⟩
    | some ad =>
      obtain ⟨v', w', hr, k2, k3, _⟩ := run_append_own (P := Tryz.prog) w B 37 ty 70 i0 _ 5 72 Tryz.underlying37 hi0 hz0 hz1 hz2 rfl (by decide) tv ps.length (tokCells ps) hown ad 0 c [] rfl (fun j u h => by simp at h) (fun u h => by cases h) (by unfold maxLen; omega) (by omega) hB
      exact ⟨v', w', hr, ⟨ps, by simp, by simpa using k2, fun p hp => stay w' k3 _ _ (hat p hp)⟩, k3⟩
  | cons q0 qs0 =>
    obtain ⟨g, cap, hv, hc, hmx, ⟨cs, hg⟩, _⟩ := hq 0 q0 rfl
    have hA : A = some ⟨g, 0, none⟩ := by simp at hv; exact hv.1
    subst hA
    generalize q0 :: qs0 = qs at *
    have hcells : ∀ j u, (tokCells qs)[j]? = some u → w.cell? ((⟨g, 0, none⟩ : Addr).add j) = some u := by
      intro j u hu
      have hadd : (⟨g, 0, none⟩ : Addr).add j = ⟨g, j, none⟩ := by unfold Addr.add; split <;> simp_all
      rw [hadd]
      have hj : j < qs.length * 5 := by rw [← tokCells_length]; exact (List.getElem?_eq_some_iff.1 hu).1
      have hi : j / 5 < qs.length := by omega
      obtain ⟨p, hp⟩ : ∃ p, qs[j / 5]? = some p := ⟨_, List.getElem?_eq_getElem hi⟩
      obtain ⟨g', cap', hv', _, _, _, ht, _⟩ := hq (j / 5) p hp
      obtain rfl : g = g' := by simp at hv'; exact hv'.1
      have hk := tokCells_get qs (j / 5) p (j % 5) (by omega) hp
      have hj5 : j / 5 * 5 + j % 5 = j := by omega
      rw [hj5] at hk
      rw [hk] at hu
      have hr : j % 5 = 0 ∨ j % 5 = 1 ∨ j % 5 = 2 ∨ j % 5 = 3 ∨ j % 5 = 4 := by omega
      rcases hr with hr | hr | hr | hr | hr
      · rw [hr] at hu; rw [← hj5, hr]; exact (ht.kind).trans hu
      · rw [hr] at hu; rw [← hj5, hr]; exact (ht.name).trans hu
      · rw [hr] at hu; rw [← hj5, hr]; exact (ht.attrs).trans hu
      · rw [hr] at hu; rw [← hj5, hr]; exact (ht.self).trans hu
      · rw [hr] at hu; rw [← hj5, hr]; exact (ht.text).trans hu
    have hat2 : ∀ p ∈ qs, AttrView w p.2 p.1.attrs := by
      intro p hp
      obtain ⟨i, hi, he⟩ := List.getElem_of_mem hp
      obtain ⟨_, _, _, _, _, _, _, ha⟩ := hq i p (by rw [List.getElem?_eq_getElem hi, he])
      exact ha
    have hone : ∀ u ∈ tokCells qs, u.oneCell' = true := by
      intro u hu
      obtain ⟨p, hp, hu⟩ := List.mem_flatMap.1 hu
      refine tokCell_one p ?_ u hu
      obtain ⟨⟨a, c, hf⟩, _⟩ := hat2 p hp
      rw [hf]; rfl
    obtain ⟨v', w', hr, k2, k3, _⟩ := run_append_own (P := Tryz.prog) w B 37 ty 70 i0 _ 5 72 Tryz.underlying37 hi0 hz0 hz1 hz2 rfl (by decide) tv ps.length (tokCells ps) hown ⟨g, 0, none⟩ qs.length c (tokCells qs) (tokCells_length qs) hcells hone (by unfold maxLen; omega) (by omega) hB
    refine ⟨v', w', hr, ⟨ps ++ qs, by simp, by rw [List.length_append, tokCells_append]; exact k2, fun p hp => ?_⟩, k3⟩
    rcases List.mem_append.1 hp with hp | hp
    · exact stay w' k3 _ _ (hat p hp)
    · exact stay w' k3 _ _ (hat2 p hp)

/-- .. at a plain region's list, the operation's guard decided. -/
theorem wpList_append_toks {ops : Array Oper} {rest : List Oper} {o : Oper} {a : Act} {Q : Exit → Act → World → Prop} {w : World} (hw : Region.wanted o (yielded ops a.tmps) = true) (s x : Operand)
    (ho : o.op = .call { callee := .builtin .append, args := #[s, x], argTypes := #[37, 37] })
    (B : Nat) (tv xv : Value) (l m : List TTok) (hs : a.eval s = tv) (hx : a.eval x = xv) (h1 : TokOwn B w tv l) (h2 : TokView w xv m) (hl : l.length ≤ 1000000) (hm : m.length ≤ 1000000) (hB : B ≤ w.heap.size)
    (h : ∀ v' w', TokOwn B w' v' (l ++ m) → w.grownBy w' tv.ownBlock → wpList Tryz.prog ops Q rest (a.put o.dst v') w') : wpList Tryz.prog ops Q (o :: rest) a w := by
  refine wpList_guarded hw fun K hK => ?_
  obtain ⟨v', w', hr, k1, k2⟩ := run_append_toks B w tv xv l m o.type h1 h2 hl hm hB
  unfold Oper.wp execOp
  simp only [ho, resolve, invoke, builtin, Sem.run_bind, Sem.run_pure, Result.andThen_ok, List.map_toArray, List.map_cons, List.map_nil, hs, hx, hr]
  exact hK _ _ (h v' w' k1 k2)

/-- What was appended to nothing is new; then so is what is appended to that. -/
theorem grown_below {B : Nat} {w w' : World} {tv : Value} {l : List TTok} (hg : w.grownBy w' tv.ownBlock) (h : TokOwn B w tv l) (hB : B ≤ w.heap.size) : Below B w w' :=
  ⟨hg.os, hg.tape, hg.output, hg.size, fun k hk => hg.block k (by omega) (by
    intro e
    obtain ⟨_, _, hown, _⟩ := h
    rcases hown.2 with ⟨hv0, _⟩ | ⟨g0, cap0, cur0, hv0, hB0, _⟩
    · rw [hv0] at e; cases e
    · rw [hv0] at e
      have e' : k = g0 := by injection e
      omega)⟩

end Go.Proofs.YtjkgmdnkejjppaaGreatDoor
