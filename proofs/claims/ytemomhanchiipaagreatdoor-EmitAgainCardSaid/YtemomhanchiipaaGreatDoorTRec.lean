/- The builder's objects in memory. -/
import Derived.Test.YtemomhanchiipaaGreatDoorView
import Derived.Test.YtemomhanchiipaaGreatDoorTPure
namespace Go.Proofs.YtemomhanchiipaaGreatDoor
open Go Go.RowKit

def ptr (b : Nat) : Value := .pointer (some ⟨b, 0, none⟩)
def ptrO : Option Nat → Value
  | none => .pointer none
  | some b => ptr b
def ptrs (l : List Nat) : List Value := l.map ptr
theorem ptrs_length (l : List Nat) : (ptrs l).length = l.length := List.length_map _
theorem ptrs_one (l : List Nat) : ∀ u ∈ ptrs l, u.oneCell' = true := by
  intro u hu
  obtain ⟨b, _, rfl⟩ := List.mem_map.1 hu
  rfl

def NodeAt0 (w : World) (nb : Nat) (n : Bytes) (a : List TAttr) : Prop :=
  ∃ av, w.heap[nb]? = some (.cells #[.string (mk n), av, .string ⟨#[]⟩, .slice none 0 0] 35 (0, 0)) ∧ AttrView w av a

structure RecAt (B : Nat) (w : World) (b : Nat) (r : ORec) (pv : Value) : Prop where
  of ::
  blk : w.heap[b]? = some (.cells #[ptrO r.nb, pv, .string (mk r.text), .bool r.nb.isSome] 78 (0, 0))
  own : w.ownsRow B 74 1 pv r.kids.length (ptrs r.kids)
  node : ∀ nb, r.nb = some nb → NodeAt0 w nb r.name r.attrs
  ge : B ≤ b

/-- A row's block has the row's type. -/
theorem own_type {B size n : Nat} {w : World} {e : TypeId} {v : Value} {xs : List Value} (h : w.ownsRow B e size v n xs) {g : Nat} (hg : v.ownBlock = some g) : ∃ cs, w.heap[g]? = some (.cells cs e (0, 0)) ∧ B ≤ g := by
  rcases h.2 with ⟨h0, _⟩ | ⟨g', cap, cur, hv', hB, hg', _⟩
  · rw [h0] at hg; cases hg
  · rw [hv'] at hg
    have : g' = g := by injection hg
    subst this
    exact ⟨cur, hg', hB⟩
theorem type_ne {w : World} {x y : Nat} {c d : Array Value} {e f : TypeId} (h : w.heap[x]? = some (.cells c e (0, 0))) (k : w.heap[y]? = some (.cells d f (0, 0))) (hef : e ≠ f) : x ≠ y := by
  rintro rfl
  rw [h] at k
  injection k with k
  injection k with _ k _
  exact hef k

theorem NodeAt0.keep {w w' : World} {nb : Nat} {n : Bytes} {a : List TAttr} (h : NodeAt0 w nb n a) (hk : ∀ (g : Nat) (cs : Array Value), (w.heap[g]? = some (.cells cs 35 (0, 0)) ∨ w.heap[g]? = some (.cells cs 89 (0, 0))) → w'.heap[g]? = w.heap[g]?) : NodeAt0 w' nb n a := by
  obtain ⟨av, h1, h2⟩ := h
  exact ⟨av, (hk nb _ (.inl h1)).trans h1, h2.stay fun g cs hg => hk g cs (.inr hg)⟩
theorem RecAt.keep {B : Nat} {w w' : World} {b : Nat} {r : ORec} {pv : Value} (h : RecAt B w b r pv) (hb : w'.heap[b]? = w.heap[b]?) (hrow : ∀ g, pv.ownBlock = some g → w'.heap[g]? = w.heap[g]?)
    (hk : ∀ (g : Nat) (cs : Array Value), (w.heap[g]? = some (.cells cs 35 (0, 0)) ∨ w.heap[g]? = some (.cells cs 89 (0, 0))) → w'.heap[g]? = w.heap[g]?) : RecAt B w' b r pv :=
  ⟨hb.trans h.blk, ownsRow_kept h.own fun g _ hv hg => (hrow g hv).trans hg, fun nb hn => (h.node nb hn).keep hk, h.ge⟩

/-- The builder. -/
structure BW (B : Nat) (w : World) (bb root : Nat) (H : OMap) (pv : Nat → Value) (bs : List Nat) (sv : Value) (c : Nat) (m : Bytes) : Prop where
  of ::
  blk : w.heap[bb]? = some (.cells #[ptr root, sv, .int .i64 c, .string (mk m)] 80 (0, 0))
  own : w.ownsRow B 74 1 sv bs.length (ptrs bs.reverse)
  recs : ∀ b r, H b = some r → RecAt B w b r (pv b)
  rows : ∀ b c r s, H b = some r → H c = some s → b ≠ c → ∀ g, (pv b).ownBlock = some g → (pv c).ownBlock ≠ some g
  srow : ∀ b r, H b = some r → ∀ g, sv.ownBlock = some g → (pv b).ownBlock ≠ some g
  ge : B ≤ bb

section
variable {B : Nat} {w w' : World} {bb root : Nat} {H : OMap} {pv : Nat → Value} {bs : List Nat} {sv : Value} {c : Nat} {m : Bytes}
theorem BW.lt (h : BW B w bb root H pv bs sv c m) {b : Nat} {r : ORec} (hr : H b = some r) : b < w.heap.size := lt_of_block (h.recs b r hr).blk
theorem BW.older (h : BW B w bb root H pv bs sv c m) (hk : Older w w') : BW B w' bb root H pv bs sv c m :=
  ⟨(hk.2 bb (lt_of_block h.blk)).trans h.blk, ownsRow_kept h.own fun g _ _ hg => (hk.2 g (lt_of_block hg)).trans hg,
   fun b r hr => (h.recs b r hr).keep (hk.2 b (h.lt hr)) (fun g hg => by obtain ⟨cs, h1, _⟩ := own_type (h.recs b r hr).own hg; exact hk.2 g (lt_of_block h1)) (fun g cs hg => hg.elim (fun h => hk.2 g (lt_of_block h)) (fun h => hk.2 g (lt_of_block h))),
   h.rows, h.srow, h.ge⟩

/-- One object is another one now (and its row of parts). -/
theorem BW.modify (h : BW B w bb root H pv bs sv c m) {b : Nat} {r r' : ORec} {v' : Value} (hr : H b = some r) (hk : ∀ k, k < w.heap.size → k ≠ b → (pv b).ownBlock ≠ some k → w'.heap[k]? = w.heap[k]?)
    (hnew : RecAt B w' b r' v') (hrow : ∀ g, v'.ownBlock = some g → (pv b).ownBlock = some g ∨ w.heap.size ≤ g) :
    BW B w' bb root (H.put b r') (fun x => if x = b then v' else pv x) bs sv c m := by
  have hb := (h.recs b r hr).blk
  -- a block of another type than objects and rows
  have other : ∀ (x : Nat) (cs : Array Value) (e : TypeId), w.heap[x]? = some (.cells cs e (0, 0)) → e ≠ 78 → e ≠ 74 → w'.heap[x]? = w.heap[x]? := by
    intro x cs e hx h1 h2
    refine hk x (lt_of_block hx) (type_ne hx hb h1) ?_
    intro hg
    obtain ⟨cs', h3, _⟩ := own_type (h.recs b r hr).own hg
    exact type_ne hx h3 h2 rfl
  have row : ∀ (v : Value) (n : Nat) (xs : List Value), w.ownsRow B 74 1 v n xs → (∀ g, v.ownBlock = some g → (pv b).ownBlock ≠ some g) → ∀ g, v.ownBlock = some g → w'.heap[g]? = w.heap[g]? := by
    intro v n xs hv hne g hg
    obtain ⟨cs, h1, _⟩ := own_type hv hg
    exact hk g (lt_of_block h1) (type_ne h1 hb (by decide)) (hne g hg)
  refine ⟨(other bb _ _ h.blk (by decide) (by decide)).trans h.blk, ownsRow_kept h.own fun g _ hv hg => (row sv _ _ h.own (fun g hg => h.srow b r hr g hg) g hv).trans hg, ?_, ?_, ?_, h.ge⟩
  · intro x s hs
    by_cases hx : x = b
    · subst hx
      rw [OMap.put_same] at hs
      cases hs
      rw [if_pos rfl]; exact hnew
    · rw [OMap.put_other _ _ hx] at hs
      rw [if_neg hx]
      have hrx := h.recs x s hs
      refine hrx.keep (hk x (h.lt hs) hx ?_) (row _ _ _ hrx.own fun g hg => h.rows x b s r hs hr hx g hg) fun g cs hg => hg.elim (fun h => other g cs _ h (by decide) (by decide)) (fun h => other g cs _ h (by decide) (by decide))
      intro hg
      obtain ⟨cs', h3, _⟩ := own_type (h.recs b r hr).own hg
      exact type_ne hrx.blk h3 (by decide) rfl
  · intro x y rx ry hx hy hne g hgx hgy
    have far : ∀ (z : Nat) (s : ORec), H z = some s → (pv z).ownBlock = some g → g < w.heap.size := fun z s hz hg => by obtain ⟨_, h1, _⟩ := own_type (h.recs z s hz).own hg; exact lt_of_block h1
    by_cases hxb : x = b
    · have hyb : y ≠ b := fun e => hne (hxb.trans e.symm)
      rw [if_pos hxb] at hgx
      rw [if_neg hyb] at hgy
      rw [OMap.put_other _ _ hyb] at hy
      rcases hrow g hgx with hg | hg
      · exact h.rows b y r ry hr hy (fun e => hyb e.symm) g hg hgy
      · have := far y ry hy hgy; omega
    · rw [if_neg hxb] at hgx
      rw [OMap.put_other _ _ hxb] at hx
      by_cases hyb : y = b
      · rw [if_pos hyb] at hgy
        rcases hrow g hgy with hg | hg
        · exact h.rows x b rx r hx hr hxb g hgx hg
        · have := far x rx hx hgx; omega
      · rw [if_neg hyb] at hgy
        rw [OMap.put_other _ _ hyb] at hy
        exact h.rows x y rx ry hx hy hne g hgx hgy
  · intro x s hs g hg
    by_cases hx : x = b
    · rw [if_pos hx]
      intro hg2
      rcases hrow g hg2 with h1 | h1
      · exact h.srow b r hr g hg h1
      · obtain ⟨_, h2, _⟩ := own_type h.own hg
        have := lt_of_block h2; omega
    · rw [if_neg hx]
      rw [OMap.put_other _ _ hx] at hs
      exact h.srow x s hs g hg

/-- A new object. -/
theorem BW.add (h : BW B w bb root H pv bs sv c m) (hk : Older w w') {k : Nat} {r : ORec} {v : Value} (hkz : w.heap.size ≤ k) (hnew : RecAt B w' k r v) (hrow : ∀ g, v.ownBlock = some g → w.heap.size ≤ g) :
    BW B w' bb root (H.put k r) (fun x => if x = k then v else pv x) bs sv c m := by
  have h' := h.older hk
  have far : ∀ (z : Nat) (s : ORec) (g : Nat), H z = some s → (pv z).ownBlock = some g → g < w.heap.size := fun z s g hz hg => by obtain ⟨_, h1, _⟩ := own_type (h.recs z s hz).own hg; exact lt_of_block h1
  refine ⟨h'.blk, h'.own, ?_, ?_, ?_, h.ge⟩
  · intro x s hs
    by_cases hx : x = k
    · subst hx
      rw [OMap.put_same] at hs
      cases hs
      rw [if_pos rfl]; exact hnew
    · rw [OMap.put_other _ _ hx] at hs
      rw [if_neg hx]
      exact h'.recs x s hs
  · intro x y rx ry hx hy hne g hgx hgy
    by_cases hxb : x = k
    · have hyb : y ≠ k := fun e => hne (hxb.trans e.symm)
      rw [if_pos hxb] at hgx
      rw [if_neg hyb] at hgy
      rw [OMap.put_other _ _ hyb] at hy
      have := hrow g hgx
      have := far y ry g hy hgy
      omega
    · rw [if_neg hxb] at hgx
      rw [OMap.put_other _ _ hxb] at hx
      by_cases hyb : y = k
      · rw [if_pos hyb] at hgy
        have := hrow g hgy
        have := far x rx g hx hgx
        omega
      · rw [if_neg hyb] at hgy
        rw [OMap.put_other _ _ hyb] at hy
        exact h.rows x y rx ry hx hy hne g hgx hgy
  · intro x s hs g hg
    by_cases hx : x = k
    · rw [if_pos hx]
      intro hg2
      have := hrow g hg2
      obtain ⟨_, h2, _⟩ := own_type h.own hg
      have := lt_of_block h2; omega
    · rw [if_neg hx]
      rw [OMap.put_other _ _ hx] at hs
      exact h.srow x s hs g hg

/-- The builder's own block is another one now (and its row of open ones). -/
theorem BW.builder (h : BW B w bb root H pv bs sv c m) {bs' : List Nat} {sv' : Value} {c' : Nat} {m' : Bytes} (hk : ∀ k, k < w.heap.size → k ≠ bb → sv.ownBlock ≠ some k → w'.heap[k]? = w.heap[k]?)
    (hblk : w'.heap[bb]? = some (.cells #[ptr root, sv', .int .i64 c', .string (mk m')] 80 (0, 0))) (hown : w'.ownsRow B 74 1 sv' bs'.length (ptrs bs'.reverse))
    (hrow : ∀ g, sv'.ownBlock = some g → sv.ownBlock = some g ∨ w.heap.size ≤ g) : BW B w' bb root H pv bs' sv' c' m' := by
  have other : ∀ (x : Nat) (cs : Array Value) (e : TypeId), w.heap[x]? = some (.cells cs e (0, 0)) → e ≠ 80 → e ≠ 74 → w'.heap[x]? = w.heap[x]? := by
    intro x cs e hx h1 h2
    refine hk x (lt_of_block hx) (type_ne hx h.blk h1) ?_
    intro hg
    obtain ⟨cs', h3, _⟩ := own_type h.own hg
    exact type_ne hx h3 h2 rfl
  refine ⟨hblk, hown, ?_, h.rows, ?_, h.ge⟩
  · intro x s hs
    have hrx := h.recs x s hs
    refine hrx.keep (other x _ _ hrx.blk (by decide) (by decide)) (fun g hg => ?_) fun g cs hg => hg.elim (fun h => other g cs _ h (by decide) (by decide)) (fun h => other g cs _ h (by decide) (by decide))
    obtain ⟨cs, h1, _⟩ := own_type hrx.own hg
    exact hk g (lt_of_block h1) (type_ne h1 h.blk (by decide)) (fun hg2 => h.srow x s hs g hg2 hg)
  · intro x s hs g hg hg2
    rcases hrow g hg with h1 | h1
    · exact h.srow x s hs g h1 hg2
    · obtain ⟨_, h2, _⟩ := own_type (h.recs x s hs).own hg2
      have := lt_of_block h2; omega

/-- What a reader of the builder's block sees. -/
theorem BW.cells (h : BW B w bb root H pv bs sv c m) : w.cell? ⟨bb, 0, none⟩ = some (ptr root) ∧ w.cell? ⟨bb, 1, none⟩ = some sv ∧ w.cell? ⟨bb, 2, none⟩ = some (.int .i64 c) ∧ w.cell? ⟨bb, 3, none⟩ = some (.string (mk m)) ∧
    (∀ o, w.frozen? ⟨bb, o, none⟩ = false) ∧ bb < w.heap.size :=
  ⟨by rw [Lib.cell_of_heap h.blk]; rfl, by rw [Lib.cell_of_heap h.blk]; rfl, by rw [Lib.cell_of_heap h.blk]; rfl, by rw [Lib.cell_of_heap h.blk]; rfl, fun o => Lib.frozen_of_heap h.blk o, lt_of_block h.blk⟩
theorem RecAt.cells {b : Nat} {r : ORec} {v : Value} (h : RecAt B w b r v) : w.cell? ⟨b, 0, none⟩ = some (ptrO r.nb) ∧ w.cell? ⟨b, 1, none⟩ = some v ∧ w.cell? ⟨b, 2, none⟩ = some (.string (mk r.text)) ∧ w.cell? ⟨b, 3, none⟩ = some (.bool r.nb.isSome) ∧
    (∀ o, w.frozen? ⟨b, o, none⟩ = false) ∧ b < w.heap.size :=
  ⟨by rw [Lib.cell_of_heap h.blk]; rfl, by rw [Lib.cell_of_heap h.blk]; rfl, by rw [Lib.cell_of_heap h.blk]; rfl, by rw [Lib.cell_of_heap h.blk]; rfl, fun o => Lib.frozen_of_heap h.blk o, lt_of_block h.blk⟩
theorem NodeAt0.cell {nb : Nat} {n : Bytes} {a : List TAttr} (h : NodeAt0 w nb n a) : w.cell? ⟨nb, 0, none⟩ = some (.string (mk n)) ∧ nb < w.heap.size := by
  obtain ⟨av, h1, _⟩ := h
  exact ⟨by rw [Lib.cell_of_heap h1]; rfl, lt_of_block h1⟩
end

/-- A row of pointers: its cells. -/
theorem own_ptrs {B : Nat} {w : World} {v : Value} {l : List Nat} (h : w.ownsRow B 74 1 v l.length (ptrs l)) {i b : Nat} (hi : l[i]? = some b) :
    ∃ g cap, v = .slice (some ⟨g, 0, none⟩) l.length cap ∧ l.length ≤ cap ∧ w.cell? ⟨g, i, none⟩ = some (ptr b) := by
  have hlt : i < l.length := (List.getElem?_eq_some_iff.1 hi).1
  obtain ⟨g, cap, hv, _, _, hc, _, hcell, _⟩ := ownsRow_cells h (by omega)
  exact ⟨g, cap, hv, hc, hcell i _ (by unfold ptrs; rw [List.getElem?_map, hi]; rfl)⟩

theorem infoPtr : (Tryz.prog.info? 74).map (fun i => (i.zero, i.size, i.bytes)) = some (some (.pointer none), 1, 8) := by kernel_rfl

/-- A row that is cut to its beginning. -/
theorem own_shrink {B n m cap : Nat} {w : World} {g : Nat} {l : List Nat} (h : w.ownsRow B 74 1 (.slice (some ⟨g, 0, none⟩) n cap) n (ptrs l)) (hm : m ≤ n) : w.ownsRow B 74 1 (.slice (some ⟨g, 0, none⟩) m cap) m (ptrs (l.take m)) := by
  have hl : l.length = n := by have := h.1; rw [ptrs_length] at this; omega
  refine ⟨by rw [ptrs_length, List.length_take]; omega, ?_⟩
  rcases h.2 with ⟨h0, _⟩ | ⟨g', cap', cur, hv, hB, hg, hc, hm', hs, ht⟩
  · cases h0
  · cases hv
    refine .inr ⟨g, cap, cur, rfl, hB, hg, by omega, hm', hs, ?_⟩
    unfold ptrs at *
    rw [List.map_take, ← ht, List.take_take]
    congr 1; omega

end Go.Proofs.YtemomhanchiipaaGreatDoor
