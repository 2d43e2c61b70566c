/- Nodes as a reader sees them; the append of a node. -/
import Derived.Test.YtemomhanchiipaaDoorTWalkD
namespace Go.Proofs.YtemomhanchiipaaDoor
open Go Go.RowKit

/-- The cells of a node, place i of block g. -/
structure NodeAt (w : World) (g i : Nat) (t : TNode) (av pv : Value) : Prop where
  of ::
  nm : w.cell? ⟨g, i * 4, none⟩ = some (.string (mk t.name))
  ats : w.cell? ⟨g, i * 4 + 1, none⟩ = some av
  txt : w.cell? ⟨g, i * 4 + 2, none⟩ = some (.string (mk t.text))
  pts : w.cell? ⟨g, i * 4 + 3, none⟩ = some pv

/-- Nodes, at most so deep; their rows in blocks of a kind. -/
def NodeIn (P : Nat → Prop) : Nat → World → Value → List TNode → Prop
  | 0, _, v, l => l = [] ∧ ∃ a cap, v = .slice a 0 cap
  | d + 1, w, v, l => (∃ a cap, v = .slice a l.length cap) ∧ ∀ i t, l[i]? = some t → ∃ g cap av pv, v = .slice (some ⟨g, 0, none⟩) l.length cap ∧ l.length ≤ cap ∧ cap ≤ maxLen ∧ P g ∧
    (∃ cs, w.heap[g]? = some (.cells cs 41 (0, 0))) ∧ NodeAt w g i t av pv ∧ AttrView w av t.attrs ∧ NodeIn P d w pv t.parts
abbrev NodeView (d : Nat) (w : World) (v : Value) (l : List TNode) : Prop := NodeIn (fun _ => True) d w v l
theorem NodeIn.form {P : Nat → Prop} : ∀ {d : Nat} {w : World} {v : Value} {l : List TNode}, NodeIn P d w v l → ∃ a cap, v = .slice a l.length cap
  | 0, _, _, _, ⟨h, a, cap, hv⟩ => ⟨a, cap, by rw [h]; exact hv⟩
  | _ + 1, _, _, _, h => h.1
theorem NodeAt.older {w w' : World} {g i : Nat} {t : TNode} {av pv : Value} (h : NodeAt w g i t av pv) (e : w'.heap[g]? = w.heap[g]?) : NodeAt w' g i t av pv :=
  have c := fun o => World.cell?_of_block (w := w) (w' := w') (a := ⟨g, o, none⟩) e
  ⟨(c _).trans h.nm, (c _).trans h.ats, (c _).trans h.txt, (c _).trans h.pts⟩
/-- .. stay where their blocks stay. -/
theorem NodeIn.stay {P R : Nat → Prop} : ∀ {d : Nat} {w w' : World} {v : Value} {l : List TNode}, NodeIn P d w v l → (∀ (g : Nat) (cs : Array Value), w.heap[g]? = some (.cells cs 44 (0, 0)) → w'.heap[g]? = w.heap[g]?) →
    (∀ (g : Nat) (cs : Array Value), P g → w.heap[g]? = some (.cells cs 41 (0, 0)) → R g ∧ w'.heap[g]? = w.heap[g]?) → NodeIn R d w' v l
  | 0, _, _, _, _, h, _, _ => h
  | d + 1, w, w', v, l, h, ha, hk => ⟨h.1, fun i t hi => by
      obtain ⟨g, cap, av, pv, h1, h2, h3, hp, ⟨cs, h4⟩, h5, h6, h7⟩ := h.2 i t hi
      have e := (hk g cs hp h4).2
      exact ⟨g, cap, av, pv, h1, h2, h3, (hk g cs hp h4).1, ⟨cs, e.trans h4⟩, h5.older e, h6.stay ha, NodeIn.stay h7 ha hk⟩⟩
theorem NodeIn.older {P : Nat → Prop} {d : Nat} {w w' : World} {v : Value} {l : List TNode} (h : NodeIn P d w v l) (hk : Older w w') : NodeIn P d w' v l :=
  h.stay (fun g _ hg => hk.2 g (lt_of_block hg)) fun g _ hp hg => ⟨hp, hk.2 g (lt_of_block hg)⟩
theorem NodeIn.any {P : Nat → Prop} {d : Nat} {w : World} {v : Value} {l : List TNode} (h : NodeIn P d w v l) : NodeView d w v l := h.stay (fun _ _ _ => rfl) fun _ _ _ _ => ⟨trivial, rfl⟩
theorem NodeIn.get {P : Nat → Prop} {d : Nat} {w : World} {v : Value} {l : List TNode} (h : NodeIn P d w v l) (i : Nat) (t : TNode) (hi : l[i]? = some t) : ∃ d', d = d' + 1 ∧ ∃ g cap av pv, v = .slice (some ⟨g, 0, none⟩) l.length cap ∧ l.length ≤ cap ∧ cap ≤ maxLen ∧
    g < w.heap.size ∧ NodeAt w g i t av pv ∧ AttrView w av t.attrs ∧ NodeIn P d' w pv t.parts := by
  cases d with
  | zero => obtain ⟨h0, _⟩ := h; subst h0; simp at hi
  | succ d =>
    obtain ⟨g, cap, av, pv, h1, h2, h3, _, ⟨cs, h4⟩, h5, h6, h7⟩ := h.2 i t hi
    exact ⟨d, rfl, g, cap, av, pv, h1, h2, h3, lt_of_block h4, h5, h6, h7⟩

abbrev NCell := TNode × Value × Value
def nodeCell (p : NCell) : List Value := [.string (mk p.1.name), p.2.1, .string (mk p.1.text), p.2.2]
def nodeCells (l : List NCell) : List Value := l.flatMap nodeCell
theorem nodeCells_append (a b : List NCell) : nodeCells (a ++ b) = nodeCells a ++ nodeCells b := by simp [nodeCells]
theorem nodeCells_get (ps : List NCell) : ∀ (i : Nat) (p : NCell) (k : Nat), k < 4 → ps[i]? = some p → (nodeCells ps)[i * 4 + k]? = (nodeCell p)[k]? := by
  induction ps with
  | nil => intro i p k _ h; simp at h
  | cons a ps ih =>
    intro i p k hk h
    have e : nodeCells (a :: ps) = nodeCell a ++ nodeCells ps := rfl
    cases i with
    | zero =>
      simp at h
      subst h
      rw [e, List.getElem?_append_left (by show 0 * 4 + k < 4; omega)]
      congr 1; omega
    | succ i =>
      rw [e, List.getElem?_append_right (by show 4 ≤ _; omega), ← ih i p k hk (by simpa using h)]
      congr 1
      show (i + 1) * 4 + k - 4 = _
      omega

/-- Nodes in a row of the call's own; what is in them in other blocks. -/
def NodeOwn (d B : Nat) (w : World) (v : Value) (l : List TNode) : Prop :=
  ∃ ps : List NCell, ps.map Prod.fst = l ∧ w.ownsRow B 41 4 v ps.length (nodeCells ps) ∧ ∀ p ∈ ps, AttrView w p.2.1 p.1.attrs ∧ NodeIn (fun g => B ≤ g ∧ v.ownBlock ≠ some g) d w p.2.2 p.1.parts
theorem NodeOwn.nil (d B : Nat) (w : World) : NodeOwn d B w (.slice none 0 0) [] := ⟨[], rfl, World.ownsRow_nil w B _ _, fun p hp => by cases hp⟩
theorem NodeOwn.older {d B : Nat} {w w' : World} {v : Value} {l : List TNode} (h : NodeOwn d B w v l) (hk : Older w w') : NodeOwn d B w' v l := by
  obtain ⟨ps, h1, h2, h3⟩ := h
  exact ⟨ps, h1, ownsRow_kept h2 fun g c _ hg => (hk.2 g (lt_of_block hg)).trans hg, fun p hp => ⟨(h3 p hp).1.older hk, (h3 p hp).2.older hk⟩⟩
theorem NodeOwn.view {d B : Nat} {w : World} {v : Value} {l : List TNode} (h : NodeOwn d B w v l) : NodeIn (fun g => B ≤ g) (d + 1) w v l := by
  obtain ⟨ps, rfl, hown, hat⟩ := h
  have hlen : (ps.map Prod.fst).length = ps.length := List.length_map _
  refine ⟨by rw [hlen]; exact ownsRow_slice hown, fun i t hi => ?_⟩
  rw [List.getElem?_map] at hi
  obtain ⟨p, hp, rfl⟩ := Option.map_eq_some_iff.1 hi
  have hlt : i < ps.length := (List.getElem?_eq_some_iff.1 hp).1
  obtain ⟨g, cap, hv, hB, hg, hc, hm, hcell, _⟩ := ownsRow_cells hown (by omega)
  refine ⟨g, cap, p.2.1, p.2.2, by rw [hlen]; exact hv, by rw [hlen]; exact hc, hm, hB, ownsRow_block hown hv (by omega), ⟨?_, ?_, ?_, ?_⟩, (hat p (List.mem_of_getElem? hp)).1, (hat p (List.mem_of_getElem? hp)).2.stay (fun _ _ _ => rfl) fun _ _ hp _ => ⟨hp.1, rfl⟩⟩
  · exact hcell _ _ ((nodeCells_get ps i p 0 (by decide) hp).trans rfl)
  · exact hcell _ _ ((nodeCells_get ps i p 1 (by decide) hp).trans rfl)
  · exact hcell _ _ ((nodeCells_get ps i p 2 (by decide) hp).trans rfl)
  · exact hcell _ _ ((nodeCells_get ps i p 3 (by decide) hp).trans rfl)
theorem NodeOwn.form {d B : Nat} {w : World} {v : Value} {l : List TNode} (h : NodeOwn d B w v l) : ∃ a cap, v = .slice a l.length cap := h.view.form
theorem NodeOwn.block {d B : Nat} {w : World} {v : Value} {l : List TNode} (h : NodeOwn d B w v l) {g : Nat} (hg : v.ownBlock = some g) : g < w.heap.size := by
  obtain ⟨ps, _, h2, _⟩ := h
  obtain ⟨_, h3, _⟩ := own_type h2 hg
  exact lt_of_block h3

theorem infoNode : (Tryd.prog.info? 41).map (fun i => (i.zero, i.size, i.bytes)) = some (some (.agg #[.string ⟨#[]⟩, .slice none 0 0, .string ⟨#[]⟩, .slice none 0 0]), 4, 80) := by kernel_rfl

/-- At a plain region's list: a node laid out in a block of its own is appended. -/
theorem wpList_pushNode {ops : Array Oper} {rest : List Oper} {o : Oper} {a : Act} {Q : Exit → Act → World → Prop} (hgd : o.guard = none) (s x : Operand)
    (ho : o.op = .call { callee := .builtin .append, args := #[s, x], argTypes := #[28, 28] })
    (d B : Nat) (v : Value) (l : List TNode) (t : TNode) (av pv : Value) (w2 w : World) (hw : w = w2.alloc (.cells #[.string (mk t.name), av, .string (mk t.text), pv] 41 (0, 0))) (hs : a.eval s = v) (hown : NodeOwn d B w2 v l)
    (hav : AttrView w2 av t.attrs) (hpv : NodeIn (fun g => B ≤ g ∧ v.ownBlock ≠ some g) d w2 pv t.parts)
    (N : Nat) (hN : w2.heap.size = N) (hx : a.eval x = .slice (some ⟨N, 0, none⟩) 1 1) (hn : l.length ≤ 1000000) (hbase : B ≤ w2.heap.size)
    (h : ∀ v' w', NodeOwn d B w' v' (l ++ [t]) → Below B w2 w' → wpList Tryd.prog ops Q rest (a.put o.dst v') w') :
    wpList Tryd.prog ops Q (o :: rest) a w := by
  subst hw
  subst hN
  obtain ⟨ps, rfl, h1, h2⟩ := hown
  have hln : (ps.map Prod.fst).length = ps.length := List.length_map _
  obtain ⟨i0, hi0, hz0, hz1, hz2⟩ := info_parts infoNode
  obtain ⟨aa, ca, hav0⟩ := hav.1
  obtain ⟨ap, cp, hpv0⟩ := hpv.form
  have hal := (Below.refl w2.heap.size w2).alloc (Nat.le_refl _) (.cells #[.string (mk t.name), av, .string (mk t.text), pv] 41 (0, 0))
  refine wpList_append_lies _ hgd _ _ _ ho B 41 i0 _ 4 80 Tryd.underlying28 hi0 hz0 hz1 hz2 rfl (by decide) v ps.length (nodeCells ps) hs (h1.alloc _) ⟨w2.heap.size, 0, none⟩ 1 1 [.string (mk t.name), av, .string (mk t.text), pv] hx rfl ?_ ?_ (by omega) (by unfold maxLen; omega) (by omega) (by simp; omega) (w2.heap.size + 1) (by simp) ?_
  · exact World.news_of_block (cs := #[.string (mk t.name), av, .string (mk t.text), pv]) (t := 41) (fr := (0, 0)) (heap_alloc_new w2 _)
  · intro u hu
    subst hav0 hpv0
    simp only [List.mem_cons, List.not_mem_nil, or_false] at hu
    rcases hu with rfl | rfl | rfl | rfl <;> rfl
  · intro g cap w' k1 k2 k3 _
    have hbl : Below B w2 w' := (hal.mono hbase).trans ⟨k2.os, k2.tape, k2.output, k2.size, fun k hk => k2.block k (by simp; omega) (fun e => by obtain ⟨_, _, h3⟩ := own_type h1 e.symm; omega)⟩
    -- blocks that are no rows of nodes, or another one, stay
    have hkeep : ∀ (x : Nat) (cs : Array Value) (e : TypeId), w2.heap[x]? = some (.cells cs e (0, 0)) → (e ≠ 41 ∨ v.ownBlock ≠ some x) → w'.heap[x]? = w2.heap[x]? := fun x cs e hx he =>
      (k2.block x (by have := lt_of_block hx; simp; omega) (fun e' => by
        rcases he with he | he
        · obtain ⟨_, h3, _⟩ := own_type h1 e'.symm
          exact type_ne hx h3 he rfl
        · exact he e'.symm)).trans (hal.block x (lt_of_block hx))
    have hg' : ∀ x cs, w2.heap[x]? = some (.cells cs 41 (0, 0)) → v.ownBlock ≠ some x → (some g : Option Nat) ≠ some x := fun x cs hx hne e => by
      cases e
      rcases k3 with k3 | k3
      · exact hne k3
      · have := lt_of_block hx; omega
    have hview : ∀ pv' l', NodeIn (fun g => B ≤ g ∧ v.ownBlock ≠ some g) d w2 pv' l' → NodeIn (fun x => B ≤ x ∧ (some g : Option Nat) ≠ some x) d w' pv' l' := fun pv' l' hh =>
      hh.stay (fun x cs hx => hkeep x cs _ hx (.inl (by decide))) fun x cs hp hx => ⟨⟨hp.1, hg' x cs hx hp.2⟩, hkeep x cs _ hx (.inr hp.2)⟩
    have hattr : ∀ av' l', AttrView w2 av' l' → AttrView w' av' l' := fun av' l' hh => hh.stay fun x cs hx => hkeep x cs _ hx (.inl (by decide))
    refine h _ w' ⟨ps ++ [(t, av, pv)], by simp, ?_, fun p hp => ?_⟩ hbl
    · rw [nodeCells_append, List.length_append]
      exact k1
    · rcases List.mem_append.1 hp with hp | hp
      · exact ⟨hattr _ _ (h2 p hp).1, hview _ _ (h2 p hp).2⟩
      · cases List.mem_singleton.1 hp
        exact ⟨hattr _ _ hav, hview _ _ hpv⟩

end Go.Proofs.YtemomhanchiipaaDoor
