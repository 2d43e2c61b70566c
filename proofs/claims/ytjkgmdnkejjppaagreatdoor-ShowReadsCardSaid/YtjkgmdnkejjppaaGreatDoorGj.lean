/- Joined texts: TView TWalkE TLawD TLawE TLawF TLawG. -/
import Derived.Test.YtjkgmdnkejjppaaGreatDoorJTWalkD
import Derived.Test.YtjkgmdnkejjppaaGreatDoorGb
import Derived.Test.YtjkgmdnkejjppaaGreatDoorGa
import Derived.Test.YtjkgmdnkejjppaaGreatDoorGg
/- Nodes as a reader sees them; the append of a node. -/
namespace Go.Proofs.YtjkgmdnkejjppaaGreatDoor
open Go Go.RowKit

/-- The cells of a node, place i of block g. -/
structure NodeAt (w : World) (g i : Nat) (t : TNode) (av pv : Value) : Prop where
  of ::
  nm : w.cell? ⟨g, i * 4, none⟩ = some (.string (mk t.name))
  ats : w.cell? ⟨g, i * 4 + 1, none⟩ = some av
  txt : w.cell? ⟨g, i * 4 + 2, none⟩ = some (.string (mk t.text))
  pts : w.cell? ⟨g, i * 4 + 3, none⟩ = some pv

/-- Nodes, at most so deep; their rows in blocks of a kind. -/
def NodeIn (P : Nat → Prop) : Nat → World → Value → List TNode → Prop
  | 0, _, v, l => l = [] ∧ ∃ a cap, v = .slice a 0 cap
  | d + 1, w, v, l => (∃ a cap, v = .slice a l.length cap) ∧ ∀ i t, l[i]? = some t → ∃ g cap av pv, v = .slice (some ⟨g, 0, none⟩) l.length cap ∧ l.length ≤ cap ∧ cap ≤ maxLen ∧ P g ∧
    (∃ cs, w.heap[g]? = some (.cells cs 44 (0, 0))) ∧ NodeAt w g i t av pv ∧ AttrView w av t.attrs ∧ NodeIn P d w pv t.parts
abbrev NodeView (d : Nat) (w : World) (v : Value) (l : List TNode) : Prop := NodeIn (fun _ => True) d w v l
theorem NodeIn.form {P : Nat → Prop} : ∀ {d : Nat} {w : World} {v : Value} {l : List TNode}, NodeIn P d w v l → ∃ a cap, v = .slice a l.length cap
  | 0, _, _, _, ⟨h, a, cap, hv⟩ => ⟨a, cap, by rw [h]; exact hv⟩
  | _ + 1, _, _, _, h => h.1
theorem NodeAt.older {w w' : World} {g i : Nat} {t : TNode} {av pv : Value} (h : NodeAt w g i t av pv) (e : w'.heap[g]? = w.heap[g]?) : NodeAt w' g i t av pv :=
  have c := fun o => World.cell?_of_block (w := w) (w' := w') (a := ⟨g, o, none⟩) e
  ⟨(c _).trans h.nm, (c _).trans h.ats, (c _).trans h.txt, (c _).trans h.pts⟩
/-- .. stay where their blocks stay. -/
theorem NodeIn.stay {P R : Nat → Prop} : ∀ {d : Nat} {w w' : World} {v : Value} {l : List TNode}, NodeIn P d w v l → (∀ (g : Nat) (cs : Array Value), w.heap[g]? = some (.cells cs 85 (0, 0)) → w'.heap[g]? = w.heap[g]?) →
    (∀ (g : Nat) (cs : Array Value), P g → w.heap[g]? = some (.cells cs 44 (0, 0)) → R g ∧ w'.heap[g]? = w.heap[g]?) → NodeIn R d w' v l
  | 0, _, _, _, _, h, _, _ => h
  | d + 1, w, w', v, l, h, ha, hk => ⟨h.1, fun i t hi => by
      obtain ⟨g, cap, av, pv, h1, h2, h3, hp, ⟨cs, h4⟩, h5, h6, h7⟩ := h.2 i t hi
      have e := (hk g cs hp h4).2
      exact ⟨g, cap, av, pv, h1, h2, h3, (hk g cs hp h4).1, ⟨cs, e.trans h4⟩, h5.older e, h6.stay ha, NodeIn.stay h7 ha hk⟩⟩
theorem NodeIn.older {P : Nat → Prop} {d : Nat} {w w' : World} {v : Value} {l : List TNode} (h : NodeIn P d w v l) (hk : Older w w') : NodeIn P d w' v l :=
  h.stay (fun g _ hg => hk.2 g (lt_of_block hg)) fun g _ hp hg => ⟨hp, hk.2 g (lt_of_block hg)⟩
theorem NodeIn.any {P : Nat → Prop} {d : Nat} {w : World} {v : Value} {l : List TNode} (h : NodeIn P d w v l) : NodeView d w v l := h.stay (fun _ _ _ => rfl) fun _ _ _ _ => ⟨trivial, rfl⟩
theorem NodeIn.get {P : Nat → Prop} {d : Nat} {w : World} {v : Value} {l : List TNode} (h : NodeIn P d w v l) (i : Nat) (t : TNode) (hi : l[i]? = some t) : ∃ d', d = d' + 1 ∧ ∃ g cap av pv, v = .slice (some ⟨g, 0, none⟩) l.length cap ∧ l.length ≤ cap ∧ cap ≤ maxLen ∧
    g < w.heap.size ∧ NodeAt w g i t av pv ∧ AttrView w av t.attrs ∧ NodeIn P d' w pv t.parts := by
  cases d with
  | zero => obtain ⟨h0, _⟩ := h; subst h0; simp at hi
  | succ d =>
    obtain ⟨g, cap, av, pv, h1, h2, h3, _, ⟨cs, h4⟩, h5, h6, h7⟩ := h.2 i t hi
    exact ⟨d, rfl, g, cap, av, pv, h1, h2, h3, lt_of_block h4, h5, h6, h7⟩

abbrev NCell := TNode × Value × Value
def nodeCell (p : NCell) : List Value := [.string (mk p.1.name), p.2.1, .string (mk p.1.text), p.2.2]
def nodeCells (l : List NCell) : List Value := l.flatMap nodeCell
theorem nodeCells_append (a b : List NCell) : nodeCells (a ++ b) = nodeCells a ++ nodeCells b := by simp [nodeCells]
theorem nodeCells_get (ps : List NCell) : ∀ (i : Nat) (p : NCell) (k : Nat), k < 4 → ps[i]? = some p → (nodeCells ps)[i * 4 + k]? = (nodeCell p)[k]? := by
  induction ps with
  | nil => intro i p k _ h; simp at h
  | cons a ps ih =>
    intro i p k hk h
    have e : nodeCells (a :: ps) = nodeCell a ++ nodeCells ps := rfl
    cases i with
    | zero =>
      simp at h
      subst h
      rw [e, List.getElem?_append_left (by show 0 * 4 + k < 4; omega)]
      congr 1; omega
    | succ i =>
      rw [e, List.getElem?_append_right (by show 4 ≤ _; omega), ← ih i p k hk (by simpa using h)]
      congr 1
      show (i + 1) * 4 + k - 4 = _
      omega

/-- Nodes in a row of the call's own; what is in them in other blocks. -/
def NodeOwn (d B : Nat) (w : World) (v : Value) (l : List TNode) : Prop :=
  ∃ ps : List NCell, ps.map Prod.fst = l ∧ w.ownsRow B 44 4 v ps.length (nodeCells ps) ∧ ∀ p ∈ ps, AttrView w p.2.1 p.1.attrs ∧ NodeIn (fun g => B ≤ g ∧ v.ownBlock ≠ some g) d w p.2.2 p.1.parts
theorem NodeOwn.nil (d B : Nat) (w : World) : NodeOwn d B w (.slice none 0 0) [] := ⟨[], rfl, World.ownsRow_nil w B _ _, fun p hp => by cases hp⟩
theorem NodeOwn.older {d B : Nat} {w w' : World} {v : Value} {l : List TNode} (h : NodeOwn d B w v l) (hk : Older w w') : NodeOwn d B w' v l := by
  obtain ⟨ps, h1, h2, h3⟩ := h
  exact ⟨ps, h1, ownsRow_kept h2 fun g c _ hg => (hk.2 g (lt_of_block hg)).trans hg, fun p hp => ⟨(h3 p hp).1.older hk, (h3 p hp).2.older hk⟩⟩
theorem NodeOwn.view {d B : Nat} {w : World} {v : Value} {l : List TNode} (h : NodeOwn d B w v l) : NodeIn (fun g => B ≤ g) (d + 1) w v l := by
  obtain ⟨ps, rfl, hown, hat⟩ := h
  have hlen : (ps.map Prod.fst).length = ps.length := List.length_map _
  refine ⟨by rw [hlen]; exact ownsRow_slice hown, fun i t hi => ?_⟩
  rw [List.getElem?_map] at hi
  obtain ⟨p, hp, rfl⟩ := Option.map_eq_some_iff.1 hi
  have hlt : i < ps.length := (List.getElem?_eq_some_iff.1 hp).1
  obtain ⟨g, cap, hv, hB, hg, hc, hm, hcell, _⟩ := ownsRow_cells hown (by omega)
  refine ⟨g, cap, p.2.1, p.2.2, by rw [hlen]; exact hv, by rw [hlen]; exact hc, hm, hB, ownsRow_block hown hv (by omega), ⟨?_, ?_, ?_, ?_⟩, (hat p (List.mem_of_getElem? hp)).1, (hat p (List.mem_of_getElem? hp)).2.stay (fun _ _ _ => rfl) fun _ _ hp _ => ⟨hp.1, rfl⟩⟩
  · exact hcell _ _ ((nodeCells_get ps i p 0 (by decide) hp).trans rfl)
  · exact hcell _ _ ((nodeCells_get ps i p 1 (by decide) hp).trans rfl)
  · exact hcell _ _ ((nodeCells_get ps i p 2 (by decide) hp).trans rfl)
  · exact hcell _ _ ((nodeCells_get ps i p 3 (by decide) hp).trans rfl)
theorem NodeOwn.form {d B : Nat} {w : World} {v : Value} {l : List TNode} (h : NodeOwn d B w v l) : ∃ a cap, v = .slice a l.length cap := h.view.form
theorem NodeOwn.block {d B : Nat} {w : World} {v : Value} {l : List TNode} (h : NodeOwn d B w v l) {g : Nat} (hg : v.ownBlock = some g) : g < w.heap.size := by
  obtain ⟨ps, _, h2, _⟩ := h
  obtain ⟨_, h3, _⟩ := own_type h2 hg
  exact lt_of_block h3

theorem infoNode : (Tryz.prog.info? 44).map (fun i => (i.zero, i.size, i.bytes)) = some (some (.agg #[.string ⟨#[]⟩, .slice none 0 0, .string ⟨#[]⟩, .slice none 0 0]), 4, 80) := by kernel_rfl

/-- At a plain region's list: a node laid out in a block of its own is appended. -/
theorem wpList_pushNode {ops : Array Oper} {rest : List Oper} {o : Oper} {a : Act} {Q : Exit → Act → World → Prop} (hgd : o.guard = none) (s x : Operand)
    (ho : o.op = .call { callee := .builtin .append, args := #[s, x], argTypes := #[22, 22] })
    (d B : Nat) (v : Value) (l : List TNode) (t : TNode) (av pv : Value) (w2 w : World) (hw : w = w2.alloc (.cells #[.string (mk t.name), av, .string (mk t.text), pv] 44 (0, 0))) (hs : a.eval s = v) (hown : NodeOwn d B w2 v l)
    (hav : AttrView w2 av t.attrs) (hpv : NodeIn (fun g => B ≤ g ∧ v.ownBlock ≠ some g) d w2 pv t.parts)
    (N : Nat) (hN : w2.heap.size = N) (hx : a.eval x = .slice (some ⟨N, 0, none⟩) 1 1) (hn : l.length ≤ 1000000) (hbase : B ≤ w2.heap.size)
    (h : ∀ v' w', NodeOwn d B w' v' (l ++ [t]) → Below B w2 w' → wpList Tryz.prog ops Q rest (a.put o.dst v') w') :
    wpList Tryz.prog ops Q (o :: rest) a w := by
  subst hw
  subst hN
  obtain ⟨ps, rfl, h1, h2⟩ := hown
  have hln : (ps.map Prod.fst).length = ps.length := List.length_map _
  obtain ⟨i0, hi0, hz0, hz1, hz2⟩ := info_parts infoNode
  obtain ⟨aa, ca, hav0⟩ := hav.1
  obtain ⟨ap, cp, hpv0⟩ := hpv.form
  have hal := (Below.refl w2.heap.size w2).alloc (Nat.le_refl _) (.cells #[.string (mk t.name), av, .string (mk t.text), pv] 44 (0, 0))
  refine wpList_append_lies _ hgd _ _ _ ho B 44 i0 _ 4 80 Tryz.underlying22 hi0 hz0 hz1 hz2 rfl (by decide) v ps.length (nodeCells ps) hs (h1.alloc _) ⟨w2.heap.size, 0, none⟩ 1 1 [.string (mk t.name), av, .string (mk t.text), pv] hx rfl ?_ ?_ (by omega) (by unfold maxLen; omega) (by omega) (by simp; omega) (w2.heap.size + 1) (by simp) ?_
  · exact World.news_of_block (cs := #[.string (mk t.name), av, .string (mk t.text), pv]) (t := 44) (fr := (0, 0)) (heap_alloc_new w2 _)
  · intro u hu
    subst hav0 hpv0
    simp only [List.mem_cons, List.not_mem_nil, or_false] at hu
    rcases hu with rfl | rfl | rfl | rfl <;> rfl
  · intro g cap w' k1 k2 k3 _
    have hbl : Below B w2 w' := (hal.mono hbase).trans ⟨k2.os, k2.tape, k2.output, k2.size, fun k hk => k2.block k (by simp; omega) (fun e => by obtain ⟨_, _, h3⟩ := own_type h1 e.symm; omega)⟩
    -- blocks that are no rows of nodes, or another one, stay
    have hkeep : ∀ (x : Nat) (cs : Array Value) (e : TypeId), w2.heap[x]? = some (.cells cs e (0, 0)) → (e ≠ 44 ∨ v.ownBlock ≠ some x) → w'.heap[x]? = w2.heap[x]? := fun x cs e hx he =>
      (k2.block x (by have := lt_of_block hx; simp; omega) (fun e' => by
        rcases he with he | he
        · obtain ⟨_, h3, _⟩ := own_type h1 e'.symm
          exact type_ne hx h3 he rfl
        · exact he e'.symm)).trans (hal.block x (lt_of_block hx))
    have hg' : ∀ x cs, w2.heap[x]? = some (.cells cs 44 (0, 0)) → v.ownBlock ≠ some x → (some g : Option Nat) ≠ some x := fun x cs hx hne e => by
      cases e
      rcases k3 with k3 | k3
      · exact hne k3
      · have := lt_of_block hx; omega
    have hview : ∀ pv' l', NodeIn (fun g => B ≤ g ∧ v.ownBlock ≠ some g) d w2 pv' l' → NodeIn (fun x => B ≤ x ∧ (some g : Option Nat) ≠ some x) d w' pv' l' := fun pv' l' hh =>
      hh.stay (fun x cs hx => hkeep x cs _ hx (.inl (by decide))) fun x cs hp hx => ⟨⟨hp.1, hg' x cs hx hp.2⟩, hkeep x cs _ hx (.inr hp.2)⟩
    have hattr : ∀ av' l', AttrView w2 av' l' → AttrView w' av' l' := fun av' l' hh => hh.stay fun x cs hx => hkeep x cs _ hx (.inl (by decide))
    refine h _ w' ⟨ps ++ [(t, av, pv)], by simp, ?_, fun p hp => ?_⟩ hbl
    · rw [nodeCells_append, List.length_append]
      exact k1
    · rcases List.mem_append.1 hp with hp | hp
      · exact ⟨hattr _ _ (h2 p hp).1, hview _ _ (h2 p hp).2⟩
      · cases List.mem_singleton.1 hp
        exact ⟨hattr _ _ hav, hview _ _ hpv⟩

end Go.Proofs.YtjkgmdnkejjppaaGreatDoor
/- Walk of the tree's nodes. -/
namespace Go.Proofs.YtjkgmdnkejjppaaGreatDoor
open Go Go.RowKit

theorem deepN_mem : ∀ {l : List TNode} {t : TNode}, t ∈ l → deepN t ≤ deepL l
  | [], _, h => by cases h
  | x :: l, t, h => by
    have e : deepL (x :: l) = max (deepN x) (deepL l) := by rw [deepL]
    rcases List.mem_cons.1 h with rfl | h
    · omega
    · have := deepN_mem h; omega
theorem deepN_eq (n : Bytes) (a : List TAttr) (t : Bytes) (ps : List TNode) : deepN (.mk n a t ps) = deepL ps + 1 := by rw [deepN]
theorem countN_mem : ∀ {l : List TNode} {t : TNode}, t ∈ l → countN t ≤ countL l
  | [], _, h => by cases h
  | x :: l, t, h => by
    have e : countL (x :: l) = countN x + countL l := by rw [countL]
    rcases List.mem_cons.1 h with rfl | h
    · omega
    · have := countN_mem h; omega
theorem countN_eq (n : Bytes) (a : List TAttr) (t : Bytes) (ps : List TNode) : countN (.mk n a t ps) = countL ps + 1 := by rw [countN]
theorem len_countL : ∀ l : List TNode, l.length ≤ countL l
  | [] => Nat.zero_le _
  | t :: l => by
    have e : countL (t :: l) = countN t + countL l := by rw [countL]
    have h1 := len_countL l
    have h2 : 1 ≤ countN t := by cases t; rw [countN_eq]; omega
    simp only [List.length_cons]; omega
/-- A closed part: a text, or an element. -/
theorem TreeIn.inv {H : OMap} {b hi : Nat} {t : TNode} (h : TreeIn H b t hi) : (∃ s, t = tText s ∧ H b = some ⟨none, [], [], s, []⟩) ∨
    ∃ nb n a ks ps, t = tElem n a ps ∧ H b = some ⟨some nb, n, a, [], ks⟩ ∧ KidsIn H (b + 1) ks ps hi := by
  cases h with
  | text _ t _ h hb => exact .inl ⟨_, rfl, h⟩
  | elem _ nb n a ks ps _ h hn hk => exact .inr ⟨nb, n, a, ks, ps, rfl, h, hk⟩
theorem NodeIn.nil (P : Nat → Prop) (w : World) : ∀ d : Nat, NodeIn P d w (.slice none 0 0) []
  | 0 => ⟨rfl, _, _, rfl⟩
  | d + 1 => ⟨⟨_, _, rfl⟩, fun i t hi => by simp at hi⟩
theorem attrView_nil (w : World) : AttrView w (.slice none 0 0) [] := ⟨⟨_, _, rfl⟩, fun i t hi => by simp at hi⟩

section
variable {B : Nat} {bb root : Nat} {H : OMap} {pv : Nat → Value} {bs : List Nat} {sv : Value} {c : Nat} {m : Bytes}

set_option maxHeartbeats 4000000 in
set_option maxRecDepth 100000 in
theorem nodes_any : ∀ (d : Nat) (w : World), BW B w bb root H pv bs sv c m → ∀ (b : Nat) (r : ORec) (ps : List TNode) (hi : Nat), H b = some r → KidsIn H (b + 1) r.kids ps hi → deepL ps ≤ d → countL ps ≤ 1000000 →
    Calls Tryz.prog 30 #[ptr b] w fun e w' => ∃ v, e = .returned v ∧ NodeIn (fun g => w.heap.size ≤ g) (d + 1) w' v ps ∧ Below w.heap.size w w' := by
  intro d
  induction d using Nat.strongRecOn with
  | _ d ih =>
  intro w hbw b r ps hi hr hk hd hct
  have HIH := Lib.hid ih
  have HB := Lib.hid hbw
  have HK := Lib.hid hk
  have HD := Lib.hid hd
  have hrec := hbw.recs b r hr
  obtain ⟨-, d1, -, -, -, -⟩ := hrec.cells
  obtain ⟨a0, cap0, hpv⟩ := ownsRow_slice hrec.own
  rw [hpv] at d1
  have hown := hrec.own
  rw [hpv] at hown
  have HOWN := Lib.hid hown
  have hn : r.kids.length ≤ 1000000 := by rw [hk.len]; exact Nat.le_trans (len_countL ps) hct
  have HCT := Lib.hid hct
  have hln := hk.len
  clear ih hbw hk hd hrec hpv hown hct hr
  generalize r.kids = ks at *
  unfold ptr
  go_enter Tryz.func30, Tryz.ntmps30
  go_wp2_with fail
  go_loopg [3, 12] ks.length (fun g u i wx => ∃ (W : World) (j : Nat) (v : Value), W = wx ∧ i = .int .i64 j ∧ v = u ∧ j + g = ks.length ∧ Hid (NodeOwn d w.heap.size wx v (ps.take j)) ∧ Hid (Below w.heap.size w wx))
  case atStart => exact ⟨_, 0, _, rfl, rfl, rfl, by omega, Lib.hid (NodeOwn.nil _ _ _), Lib.hid (Below.refl _ _)⟩
  case round =>
    obtain ⟨wr, j, v, rfl, rfl, rfl, hj, hno, hbl⟩ := hrel
    by_cases hlt : j < ks.length
    · obtain ⟨n, rfl⟩ : ∃ n, gk = n + 1 := ⟨gk - 1, by omega⟩
      obtain ⟨t, ht⟩ : ∃ t, ps[j]? = some t := ⟨_, List.getElem?_eq_getElem (by omega)⟩
      obtain ⟨k, mid, hkj, htr, -, -⟩ := HK.out.get j t ht
      have HT := Lib.hid ht
      have hHr := HB.out.older (.of_below hbl.out)
      have HBr := Lib.hid hHr
      obtain ⟨g0, capx, hv0, hc0, hcell0⟩ := own_ptrs HOWN.out hkj
      have hcell := (hbl.out.cell (p := ⟨g0, j, none⟩) (by have h1 := HOWN.out; rw [hv0] at h1; obtain ⟨_, h2, _⟩ := own_type h1 (g := g0) rfl; exact lt_of_block h2)).trans hcell0
      cases hv0
      unfold ptr at hcell
      clear hcell0
      have hz1 : (j : Int) < ks.length := by omega
      have hz0 : (0 : Int) ≤ j := by omega
      have htake : ps.take (j + 1) = ps.take j ++ [t] := by rw [List.take_add_one, HT.out]; rfl
      have HTK := Lib.hid htake
      have hNl : (ps.take j).length ≤ 1000000 := by rw [List.length_take]; omega
      clear hkj htake
      rcases htr.inv with ⟨s, rfl, hHk⟩ | ⟨nb, nm, at', ks', ps', rfl, hHk, hkk⟩
      · obtain ⟨-, -, e2, e3, -, -⟩ := (HBr.out.recs k _ hHk).cells
        have e2' : wr.cell? ⟨k, 2, none⟩ = some (.string (mk s)) := e2
        have e3' : wr.cell? ⟨k, 3, none⟩ = some (.bool false) := e3
        clear e2 e3 hHk htr
        go_wp2_with (at_builtin; go_must (refine wpList_pushNode (by rfl) (.tmp 21) (.tmp 27) (by rfl) d w.heap.size _ (ps.take j) (tText s) (.slice none 0 0) (.slice none 0 0) wr _ (by rfl) (by rfl) hno.out (attrView_nil _) (NodeIn.nil _ _ _) wr.heap.size rfl (by rfl) hNl hbl.out.size ?_); intro v' w' hown' hbl'; have HOW := Lib.hid hown'; have HBL := Lib.hid (hbl.out.trans hbl'); clear hown' hbl')
        go_roundg n
        case measure => omega
        case rel => exact ⟨_, j + 1, _, rfl, by go_num, rfl, by omega, by rw [HTK.out]; exact HOW, HBL⟩
      · obtain ⟨d', rfl⟩ : ∃ d', d = d' + 1 := ⟨d - 1, by have h1 := deepN_mem (List.mem_of_getElem? HT.out); have h2 := HD.out; rw [tElem, deepN_eq] at h1; omega⟩
        have hd' : deepL ps' ≤ d' := by have h1 := deepN_mem (List.mem_of_getElem? HT.out); have h2 := HD.out; rw [tElem, deepN_eq] at h1; omega
        have hct' : countL ps' ≤ 1000000 := by have h1 := countN_mem (List.mem_of_getElem? HT.out); have h2 := HCT.out; rw [tElem, countN_eq] at h1; omega
        have hrec := HBr.out.recs k _ hHk
        obtain ⟨e0, -, -, e3, -, -⟩ := hrec.cells
        have e0' : wr.cell? ⟨k, 0, none⟩ = some (.pointer (some ⟨nb, 0, none⟩)) := e0
        have e3' : wr.cell? ⟨k, 3, none⟩ = some (.bool true) := e3
        obtain ⟨av0, hnb, hat⟩ := hrec.node nb rfl
        obtain ⟨⟨a1, c1, hform⟩, -⟩ := id hat
        subst hform
        have n0 : wr.cell? ⟨nb, 0, none⟩ = some (.string (mk nm)) := by rw [Lib.cell_of_heap hnb]; rfl
        have n1 : wr.cell? ⟨nb, 1, none⟩ = some (.slice a1 at'.length c1) := by rw [Lib.cell_of_heap hnb]; rfl
        have n2 : wr.cell? ⟨nb, 2, none⟩ = some (.string ⟨#[]⟩) := by rw [Lib.cell_of_heap hnb]; rfl
        have n3 : wr.cell? ⟨nb, 3, none⟩ = some (.slice none 0 0) := by rw [Lib.cell_of_heap hnb]; rfl
        have HAT := Lib.hid hat
        have HKK := Lib.hid hkk
        have HHK := Lib.hid hHk
        clear e0 e3 hHk hrec hnb hat hkk htr
        go_upto_region 8 with fail
        obtain ⟨w1, hw1⟩ : ∃ w1, w1 = wr.alloc (.cells #[.string (mk nm), .slice a1 at'.length c1, .string ⟨#[]⟩, .slice none 0 0] 44) := ⟨_, rfl⟩
        rw [← hw1]
        have hb1 : Below wr.heap.size wr w1 := by rw [hw1]; exact (Below.refl _ _).alloc (Nat.le_refl _) _
        have hN1 : w1.heap[wr.heap.size]? = some (.cells #[.string (mk nm), .slice a1 at'.length c1, .string ⟨#[]⟩, .slice none 0 0] 44 (0, 0)) := by rw [hw1]; exact heap_alloc_new _ _
        have hz1' : w1.heap.size = wr.heap.size + 1 := by rw [hw1]; simp
        have HW1 := Lib.hid hb1
        have HN1 := Lib.hid hN1
        have HCALL := Lib.hid (HIH.out d' (by omega) w1 (HBr.out.older (.of_below hb1)) k _ ps' mid HHK.out HKK.out hd' hct')
        clear hw1 hb1 hN1 e0' e3' n0 n1 n2 n3 hcell
        unfold ptr at HCALL
        go_wp2_with fail
        refine HCALL.out.mono ?_
        rintro e w2 ⟨v2, rfl, hv2, hb2⟩
        obtain ⟨a2, c2, hform⟩ := hv2.form
        subst hform
        generalize hL2 : ps'.length = L2 at *
        clear hL2
        have HV2 := Lib.hid hv2
        have HB2 := Lib.hid hb2
        have hN2 := (hb2.block wr.heap.size (by omega)).trans HN1.out
        have y1 : w2.cell? ⟨wr.heap.size, 3, none⟩ = some (.slice none 0 0) := by rw [Lib.cell_of_heap hN2]; rfl
        have y2 : w2.frozen? ⟨wr.heap.size, 3, none⟩ = false := Lib.frozen_of_heap hN2 3
        have HN2 := Lib.hid hN2
        clear hv2 hb2 hN2
        go_upto_region 9 with fail
        obtain ⟨w3, hw3⟩ : ∃ w3, w3 = w2.setCell ⟨wr.heap.size, 3, none⟩ (.slice a2 L2 c2) := ⟨_, rfl⟩
        rw [← hw3]
        have hN3 : w3.heap[wr.heap.size]? = some (.cells #[.string (mk nm), .slice a1 at'.length c1, .string ⟨#[]⟩, .slice a2 L2 c2] 44 (0, 0)) := by rw [hw3]; simp [World.setCell, Array.getElem?_modify, HN2.out]
        have hb3 : Below wr.heap.size wr w3 := by rw [hw3]; exact (HW1.out.trans (HB2.out.mono (by omega))).setCell (p := ⟨wr.heap.size, 3, none⟩) (Nat.le_refl _) _
        have hv3 : NodeIn (fun g => w.heap.size ≤ g ∧ v.ownBlock ≠ some g) (d' + 1) w3 (.slice a2 L2 c2) ps' := by
          rw [hw3]
          refine HV2.out.stay (fun g cs hg => Below.heap_setCell _ _ _ _ (type_ne hg HN2.out (by decide))) fun g cs hp hg => ⟨⟨?_, fun e => ?_⟩, Below.heap_setCell _ _ _ _ (by have hp' : w1.heap.size ≤ g := hp; show g ≠ wr.heap.size; omega)⟩
          · have := hbl.out.size; omega
          · have := hno.out.block e; omega
        have HV3 := Lib.hid hv3
        have HB3 := Lib.hid hb3
        have m0 : w3.cell? ⟨wr.heap.size, 0, none⟩ = some (.string (mk nm)) := by rw [Lib.cell_of_heap hN3]; rfl
        have m1 : w3.cell? ⟨wr.heap.size, 1, none⟩ = some (.slice a1 at'.length c1) := by rw [Lib.cell_of_heap hN3]; rfl
        have m2 : w3.cell? ⟨wr.heap.size, 2, none⟩ = some (.string ⟨#[]⟩) := by rw [Lib.cell_of_heap hN3]; rfl
        have m3 : w3.cell? ⟨wr.heap.size, 3, none⟩ = some (.slice a2 L2 c2) := by rw [Lib.cell_of_heap hN3]; rfl
        clear hw3 hN3 hb3 hv3 y1 y2 HCALL
        have hBw3 : w.heap.size ≤ w3.heap.size := Nat.le_trans hbl.out.size HB3.out.size
        go_wp2_with (at_builtin; go_must (refine wpList_pushNode (by rfl) (.tmp 38) (.tmp 40) (by rfl) (d' + 1) w.heap.size _ (ps.take j) (tElem nm at' ps') (.slice a1 at'.length c1) (.slice a2 L2 c2) w3 _ (by rfl) (by rfl) (hno.out.older (.of_below HB3.out)) (HAT.out.older (.of_below HB3.out)) HV3.out w3.heap.size rfl (by rfl) hNl hBw3 ?_); intro v' w' hown' hbl'; have HOW := Lib.hid hown'; have HBL := Lib.hid ((hbl.out.trans (HB3.out.mono hbl.out.size)).trans hbl'); clear hown' hbl')
        go_roundg n
        case measure => omega
        case rel => exact ⟨_, j + 1, _, rfl, by go_num, rfl, by omega, by rw [HTK.out]; exact HOW, HBL⟩
    · obtain rfl : j = ks.length := by omega
      go_wp2_with fail
      go_ret
      refine ⟨_, rfl, ?_, hbl.out⟩
      have h1 := hno.out.view
      rw [show ps.take ks.length = ps by rw [hln]; exact List.take_length] at h1
      exact h1
end

end Go.Proofs.YtjkgmdnkejjppaaGreatDoor
/- How many nodes a builder holds: as many as it counts. Nothing of the program here. -/
namespace Go.Proofs.YtjkgmdnkejjppaaGreatDoor

def countS : List Fr → Nat
  | [] => 0
  | f :: r => countL f.done + countS r
theorem countL_append (a b : List TNode) : countL (a ++ b) = countL a + countL b := by
  induction a with
  | nil => rw [List.nil_append, countL, Nat.zero_add]
  | cons t a ih => rw [List.cons_append, countL, countL, ih, Nat.add_assoc]
theorem countL_one (t : TNode) : countL [t] = countN t := by rw [countL, countL, Nat.add_zero]
theorem countS_pop (l : List Fr) : countS (popM l) + (popM l).length = countS l + l.length := by
  match l with
  | [] => rfl
  | [_] => rfl
  | f :: g :: r =>
    show countL (g.done ++ [tElem f.name f.attrs f.done]) + countS r + (r.length + 1) = countL f.done + (countL g.done + countS r) + (r.length + 1 + 1)
    rw [countL_append, countL_one, tElem, countN_eq]; omega
theorem countS_popN : ∀ (n : Nat) (l : List Fr), countS (popN n l) + (popN n l).length = countS l + l.length
  | 0, _ => rfl
  | n + 1, l => (countS_popN n (popM l)).trans (countS_pop l)
theorem countS_close (i : Nat) (l : List Fr) : countS (closeM i l) + (closeM i l).length = countS l + l.length := by
  unfold closeM
  split
  · rfl
  · exact countS_popN _ _
theorem countL_addText (l : List TNode) (s : Bytes) : countL (addText l s) + (if lastText l then 1 else 0) = countL l + 1 := by
  rcases List.eq_nil_or_concat l with rfl | ⟨d, x, rfl⟩
  · show countL [tText s] + 0 = _
    rw [countL_one, tText, countN_eq]
  · rw [List.concat_eq_append]
    obtain ⟨n, a, t, ps⟩ := x
    unfold addText lastText
    rw [List.getLast?_append]
    cases n with
    | nil =>
      show countL ((d ++ [TNode.mk [] a t ps]).dropLast ++ [TNode.mk [] a (t ++ s) ps]) + 1 = _
      rw [List.dropLast_concat, countL_append, countL_append, countL_one, countL_one, countN_eq, countN_eq]
    | cons y n =>
      show countL ((d ++ [TNode.mk (y :: n) a t ps]) ++ [tText s]) + 0 = _
      rw [countL_append, countL_one, tText, countN_eq (ps := [])]
      rw [countL]
/-- As many as are counted. -/
def Counted (b : BSt) : Prop := countS b.stack + b.stack.length = b.count + 1 ∧ b.stack ≠ []
theorem popN_ne : ∀ (n : Nat) (l : List Fr), l ≠ [] → popN n l ≠ []
  | 0, _, h => h
  | n + 1, l, h => popN_ne n (popM l) (by
    match l, h with
    | [f], _ => simp [popM]
    | f :: g :: r, _ => simp [popM])
theorem closeM_ne (i : Nat) (l : List Fr) (h : l ≠ []) : closeM i l ≠ [] := by
  unfold closeM
  split
  · exact h
  · exact popN_ne _ _ h
theorem startA_count (b : BSt) (t : TTok) (h : b.stack ≠ []) : countS (startA b t) + (startA b t).length = countS b.stack + b.stack.length ∧ startA b t ≠ [] := by
  unfold startA
  split
  · exact ⟨countS_close _ _, closeM_ne _ _ h⟩
  · exact ⟨rfl, h⟩
theorem startB_count (s : List Fr) (t : TTok) (h : s ≠ []) : countS (startB s t) + (startB s t).length = countS s + s.length ∧ startB s t ≠ [] := by
  unfold startB
  split
  · exact ⟨countS_close _ _, closeM_ne _ _ h⟩
  · exact ⟨rfl, h⟩
theorem startAB_count {b : BSt} (t : TTok) (h : Counted b) : countS (startB (startA b t) t) + (startB (startA b t) t).length = b.count + 1 ∧ startB (startA b t) t ≠ [] := by
  obtain ⟨h1, h2⟩ := startA_count b t h.2
  obtain ⟨h3, h4⟩ := startB_count _ t h2
  exact ⟨h3.trans (h1.trans h.1), h4⟩
theorem counted_step (b : BSt) (t : TTok) (h : Counted b) : Counted (stepM b t) := by
  unfold stepM
  split
  · obtain ⟨h1, h2⟩ := startAB_count t h
    unfold startM startC
    generalize startB (startA b t) t = s at *
    split
    · exact ⟨h1, h2⟩
    · split
      · cases s with
        | nil => exact absurd rfl h2
        | cons f r =>
          refine ⟨?_, by simp [addTop]⟩
          show countL (f.done ++ [tElem t.name t.attrs []]) + countS r + (r.length + 1) = b.count + 1 + 1
          have h1' : countL f.done + countS r + (r.length + 1) = b.count + 1 := h1
          rw [countL_append, countL_one, tElem, countN_eq, countL]; omega
      · refine ⟨?_, by simp⟩
        show countL [] + countS s + (s.length + 1) = b.count + 1 + 1
        rw [countL]; omega
  · split
    · exact ⟨(countS_close _ _).trans h.1, closeM_ne _ _ h.2⟩
    · split
      · unfold charsM
        split
        · exact h
        · obtain ⟨h1, h2⟩ := h
          split
          · rename_i hh
            exact absurd hh h2
          · rename_i f r hh
            rw [hh] at h1
            refine ⟨?_, by simp⟩
            have h1' : countL f.done + countS r + (r.length + 1) = b.count + 1 := h1
            have h3 := countL_addText f.done t.text
            show countL (addText f.done t.text) + countS r + (r.length + 1) = (if lastText f.done then b.count else b.count + 1) + 1
            split <;> simp_all <;> omega
      · exact h
theorem counted_init : Counted initM := ⟨rfl, by simp [initM]⟩
theorem counted_steps (l : List TTok) : Counted (stepsM l) := steps_keep Counted counted_init counted_step l
theorem countS_mem : ∀ {l : List Fr} {f : Fr}, f ∈ l → f.done.length + l.length ≤ countS l + l.length
  | [], _, h => by cases h
  | x :: l, f, h => by
    have h0 : countS (x :: l) = countL x.done + countS l := rfl
    rcases List.mem_cons.1 h with rfl | h
    · have := len_countL f.done; omega
    · have := countS_mem h; omega

end Go.Proofs.YtjkgmdnkejjppaaGreatDoor
/- The builder's end; how long its texts are. Nothing of the program here. -/
namespace Go.Proofs.YtjkgmdnkejjppaaGreatDoor

/-- What lies at the root when all is closed. -/
theorem stk_root {H : OMap} {hi root : Nat} {bs : List Nat} {fs : List Fr} (h : Stk H none hi bs fs) (hr : bs.getLast? = some root) : ∃ r, H root = some r ∧ KidsIn H (root + 1) r.kids (rootDone fs) hi := by
  have hlen := h.len
  have hpos : 0 < bs.length := h.pos
  have h1 := h.popN (fs.length - 1) (by omega)
  have hlast : bs.drop (fs.length - 1) = [root] := by
    have e1 : (bs.drop (fs.length - 1)).length = 1 := by rw [List.length_drop]; omega
    have e2 : (bs.drop (fs.length - 1)).getLast? = some root := by
      rw [List.getLast?_drop, if_neg (by omega)]; exact hr
    match bs.drop (fs.length - 1), e1, e2 with
    | [x], _, e2 => cases e2; rfl
  rw [hlast] at h1
  unfold rootDone
  generalize popN (fs.length - 1) fs = s at *
  cases h1 with
  | root _ f ks _ _ h hk hn => exact ⟨_, h, by simpa using hk⟩
  | cons _ nb f ks _ _ _ fs2 h hn hk hr2 => exact absurd hr2.pos (by simp)

theorem stepsM_take (l : List TTok) (i : Nat) (t : TTok) (h : l[i]? = some t) : stepsM (l.take (i + 1)) = stepM (stepsM (l.take i)) t := by
  unfold stepsM
  rw [List.take_add_one, h, List.foldl_append]; rfl
theorem stepsM_all (l : List TTok) : stepsM (l.take l.length) = stepsM l := by rw [List.take_length]
theorem stepM_mono (b : BSt) (t : TTok) : b.count ≤ (stepM b t).count := (stepM_count b t).2
theorem stepsM_mono (l : List TTok) (i : Nat) : (stepsM (l.take i)).count ≤ (stepsM l).count := by
  have e : stepsM l = (l.drop i).foldl stepM (stepsM (l.take i)) := by
    unfold stepsM
    rw [← List.foldl_append, List.take_append_drop]
  rw [e]
  exact (steps_count _ _).2

theorem wordsL_one (t : TNode) : wordsL [t] = wordsN t := by rw [wordsL, wordsL, List.append_nil]
theorem wordsL_addText_len (l : List TNode) (s : Bytes) : (wordsL (addText l s)).length ≤ (wordsL l).length + s.length := by
  rcases List.eq_nil_or_concat l with rfl | ⟨d, x, rfl⟩
  · show (wordsL [tText s]).length ≤ _
    rw [wordsL_one, tText, wordsN, wordsL, List.append_nil]; simp
  · rw [List.concat_eq_append]
    obtain ⟨n, a, t, ps⟩ := x
    unfold addText
    rw [List.getLast?_append]
    cases n with
    | nil =>
      show (wordsL ((d ++ [TNode.mk [] a t ps]).dropLast ++ [TNode.mk [] a (t ++ s) ps])).length ≤ _
      rw [List.dropLast_concat, wordsL_append, wordsL_append, wordsL_one, wordsL_one, wordsN, wordsN]
      simp only [List.length_append]; omega
    | cons y n =>
      show (wordsL ((d ++ [TNode.mk (y :: n) a t ps]) ++ [tText s])).length ≤ _
      rw [wordsL_append, wordsL_one, tText, wordsN, wordsL]
      simp only [List.length_append, List.length_nil]; omega
theorem wordsS_len_step (b : BSt) (t : TTok) : (wordsS (stepM b t).stack).length ≤ (wordsS b.stack).length + t.text.length := by
  unfold stepM
  split
  · have h1 : wordsS (startB (startA b t) t) = wordsS b.stack := by
      unfold startB
      have h2 : wordsS (startA b t) = wordsS b.stack := by
        unfold startA
        split
        · exact wordsS_close _ _
        · rfl
      split
      · exact (wordsS_close _ _).trans h2
      · exact h2
    unfold startM startC
    split
    · show (wordsS (startB (startA b t) t)).length ≤ _
      rw [h1]; omega
    · split
      · show (wordsS (addTop _ _)).length ≤ _
        rw [addTop_words, h1]; omega
      · show (wordsS (startB (startA b t) t) ++ wordsL []).length ≤ _
        rw [h1, wordsL, List.append_nil]; omega
  · split
    · show (wordsS (closeM _ _)).length ≤ _
      rw [wordsS_close]; omega
    · split
      · unfold charsM
        split
        · omega
        · split
          · omega
          · rename_i f r hh
            rw [hh]
            show (wordsS r ++ wordsL (addText f.done t.text)).length ≤ (wordsS r ++ wordsL f.done).length + _
            have := wordsL_addText_len f.done t.text
            simp only [List.length_append]; omega
      · omega
def textSum (l : List TTok) : Nat := (l.map fun t => t.text.length).sum
theorem wordsS_len (l : List TTok) : ∀ b : BSt, (wordsS (l.foldl stepM b).stack).length ≤ (wordsS b.stack).length + textSum l := by
  induction l with
  | nil => intro b; simp [textSum]
  | cons t l ih =>
    intro b
    have h1 := ih (stepM b t)
    have h2 := wordsS_len_step b t
    have e : textSum (t :: l) = t.text.length + textSum l := rfl
    rw [List.foldl_cons, e]; omega
theorem textSum_take (l : List TTok) (i : Nat) : textSum (l.take i) ≤ textSum l := by
  have e : textSum l = textSum (l.take i) + textSum (l.drop i) := by
    unfold textSum
    rw [← List.sum_append, ← List.map_append, List.take_append_drop]
  omega
theorem wordsS_steps (l : List TTok) (i : Nat) : (wordsS (stepsM (l.take i)).stack).length ≤ textSum l := by
  have h1 := wordsS_len (l.take i) initM
  have h2 := textSum_take l i
  have h3 : (wordsS initM.stack).length = 0 := rfl
  unfold stepsM
  omega

/-- Tokens that the builder takes. -/
structure BuildOk (l : List TTok) : Prop where
  of ::
  len : l.length ≤ 300
  kinds : ∀ t ∈ l, t.kind = 1 ∨ t.kind = 2 ∨ t.kind = 3 ∨ t.kind = 4
  names : ∀ t ∈ l, t.kind = 1 → t.name ≠ []
  count : (stepsM l).count ≤ 150
  attrs : ∀ t ∈ l, t.attrs.length ≤ 1000000
  texts : textSum l ≤ 100000

end Go.Proofs.YtjkgmdnkejjppaaGreatDoor
/- How many tokens a text has, and what the tree's builder asks of them. Nothing of the program here. -/
namespace Go.Proofs.YtjkgmdnkejjppaaGreatDoor

theorem opens_head (X : Bytes) (h : opensM X = true) : ∃ r, X = 60 :: r := by
  cases X with
  | nil => cases h
  | cons c r =>
    by_cases hc : c = 60
    · exact ⟨r, by rw [hc]⟩
    · rw [opensM_head c r hc] at h; cases h
theorem MarkOk.two {X r2 : Bytes} {ts : List TTok} (h : MarkOk X ts r2) : ts.length ≤ 2 := by cases h <;> simp
theorem textM_suf : ∀ l : Bytes, (textM l).2 <:+ l
  | [] => List.suffix_refl _
  | c :: r => by
    rw [textM_cons]
    split
    · exact List.suffix_refl _
    · exact suf_cons c (textM_suf r)
theorem allN_lts : ∀ (n : Nat) (l : Bytes), (allN n l).length ≤ 3 * l.count 60 + 1 := by
  intro n
  induction n with
  | zero => intro l; simp [allN]
  | succ n ih =>
    intro l
    by_cases hl : l = []
    · subst hl; simp [allN]
    · rw [allN_succ n l hl, List.length_append]
      have h1 : (textToks (textM l).1).length ≤ 1 := by unfold textToks; split <;> simp
      have h2 := (textM_suf l).sublist.count_le 60
      rcases (textM_ok l).2 with h0 | ho
      · rw [if_pos h0]; simp; omega
      · have hne : (textM l).2 ≠ [] := by intro e; rw [e] at ho; cases ho
        rw [if_neg hne]
        cases hm : markupM (textM l).2 with
        | none => simp; omega
        | some x =>
          obtain ⟨ts, r2⟩ := x
          obtain ⟨r, hr⟩ := opens_head _ ho
          have h3 := (markupM_ok _ _ _ ho hm).two
          have hl2 := (markupM_ok _ _ _ ho hm).less
          have h4 := markupM_suf _ _ _ hm
          have h5 : r2 <:+ r := by
            rw [hr] at h4 hl2
            rcases List.suffix_cons_iff.1 h4 with h | h
            · rw [h] at hl2; omega
            · exact h
          have h6 := h5.sublist.count_le 60
          have h7 : (textM l).2.count 60 = r.count 60 + 1 := by rw [hr]; simp
          have h8 := ih r2
          simp only [List.length_append]; omega
theorem allM_lts (l : Bytes) : (allM l).length ≤ 3 * l.count 60 + 1 := allN_lts _ l

def kindOk (t : TTok) : Prop := t.kind = 1 ∨ t.kind = 2 ∨ t.kind = 3 ∨ t.kind = 4
theorem tagM_kind {k : Int} {r : Bytes} {t : TTok} {r2 : Bytes} (h : tagM k r = some (t, r2)) : t.kind = k := by
  unfold tagM at h
  generalize tagLoop _ _ _ = x at h
  match x, h with
  | none, h => cases h
  | some (l, s, r3), h =>
    simp only [tagOf, Option.some.injEq, Prod.mk.injEq] at h
    rw [← h.1]; split <;> rfl
theorem kind_comment (s : Bytes) : ∀ t ∈ [comment s], kindOk t := fun t ht => by cases List.mem_singleton.1 ht; exact .inr (.inr (.inr rfl))
theorem kind_raw (n s : Bytes) : ∀ t ∈ rawToks n s, kindOk t := fun t ht => by
  unfold rawToks at ht
  split at ht
  · cases ht
  · cases List.mem_singleton.1 ht; exact .inr (.inr (.inl rfl))
theorem kind_text (s : Bytes) : ∀ t ∈ textToks s, kindOk t := fun t ht => by
  unfold textToks at ht
  split at ht
  · cases ht
  · cases List.mem_singleton.1 ht; exact .inr (.inr (.inl rfl))
theorem markupM_kind (X : Bytes) (ts : List TTok) (r2 : Bytes) (h : markupM X = some (ts, r2)) : ∀ t ∈ ts, kindOk t := by
  unfold markupM at h
  split at h
  · cases h; exact kind_comment _
  · cases h; exact kind_comment _
  · cases h; exact kind_comment _
  · rename_i c r
    split at h
    · cases ht : tagM 2 (c :: r) with
      | none => rw [ht] at h; cases h
      | some x =>
        obtain ⟨t, r3⟩ := x
        rw [ht] at h
        cases h
        intro u hu
        cases List.mem_singleton.1 hu
        exact .inr (.inl (tagM_kind ht))
    · cases h; exact kind_comment _
  · rename_i r n1 n2 n3 n4
    cases ht : tagM 1 r with
    | none => rw [ht] at h; cases h
    | some x =>
      obtain ⟨t, r3⟩ := x
      rw [ht] at h
      simp only [Option.map_some] at h
      have h0 : kindOk t := .inl (tagM_kind ht)
      split at h
      · simp only [Option.some.injEq, Prod.mk.injEq] at h
        rw [← h.1]
        intro u hu
        rcases List.mem_cons.1 hu with rfl | hu
        · exact h0
        · exact kind_raw _ _ u hu
      · simp only [Option.some.injEq, Prod.mk.injEq] at h
        rw [← h.1]
        intro u hu
        cases List.mem_singleton.1 hu
        exact h0
  · cases h
theorem allN_kind : ∀ (n : Nat) (l : Bytes), ∀ t ∈ allN n l, kindOk t := by
  intro n
  induction n with
  | zero => intro l t ht; cases ht
  | succ n ih =>
    intro l
    by_cases hl : l = []
    · subst hl; intro t ht; cases ht
    · rw [allN_succ n l hl]
      intro t ht
      rcases List.mem_append.1 ht with ht | ht
      · exact kind_text _ t ht
      · split at ht
        · cases ht
        · cases hm : markupM (textM l).2 with
          | none => rw [hm] at ht; cases ht
          | some x =>
            obtain ⟨ts, r2⟩ := x
            rw [hm] at ht
            rcases List.mem_append.1 ht with ht | ht
            · exact markupM_kind _ _ _ hm t ht
            · exact ih r2 t ht
theorem allM_kind (l : Bytes) : ∀ t ∈ allM l, kindOk t := allN_kind _ l

theorem textSum_le (l : List TTok) : textSum l ≤ tsum l := by
  induction l with
  | nil => exact Nat.le_refl _
  | cons t l ih =>
    rw [tsum_cons]
    have e : textSum (t :: l) = t.text.length + textSum l := rfl
    have h : bulk t = t.name.length + t.text.length + asum t.attrs := rfl
    omega

/-- Texts of few signs and few openings: the builder takes their tokens. -/
theorem buildOk_of (s : Bytes) (h1 : s.length ≤ 600) (h2 : s.count 60 ≤ 45) : BuildOk (allM s) := by
  have hok := allM_ok s
  have h3 := hok.len
  have h4 := allM_lts s
  have h5 := (steps_count (allM s) initM).1
  have h6 : initM.count = 0 := rfl
  have h7 := textSum_le (allM s)
  have h8 := (allM_bulk s).1
  refine ⟨by omega, allM_kind s, fun t ht hk => (hok.ok t ht).name (.inl hk), ?_, fun t ht => ?_, by omega⟩
  · unfold stepsM; omega
  · have := (allM_le s t ht).count; omega

theorem drawn_lts (ps : List Bytes) (hm : ∀ p ∈ ps, p.count 60 ≤ 1) (l : List Int) : (drawn ps l).count 60 ≤ l.length := by
  induction l with
  | nil => simp [drawn]
  | cons x l ih =>
    have e : drawn ps (x :: l) = ps.getD (x % ps.length).toNat [] ++ drawn ps l := rfl
    rw [e, List.count_append, List.length_cons]
    have : (ps.getD (x % ps.length).toNat []).count 60 ≤ 1 := by
      rcases Nat.lt_or_ge (x % ps.length).toNat ps.length with h | h
      · have hg : ps.getD (x % ps.length).toNat [] = ps[(x % ps.length).toNat] := by simp [List.getD, h]
        rw [hg]; exact hm _ (List.getElem_mem h)
      · simp [List.getD, h]
    omega
theorem treePieces_lt : ∀ p ∈ treePieces, p.count 60 ≤ 1 := by decide
theorem closePieces_lt : ∀ p ∈ closePieces, p.count 60 ≤ 1 := by decide
theorem markPieces_lt : ∀ p ∈ markPieces, p.count 60 ≤ 1 := by decide

/-- A piece that is one token, of no raw text. -/
def MildPiece (m : Bytes) : Prop := ∃ t, Mild t ∧ ∀ X, opensM (m ++ X) = true ∧ markupM (m ++ X) = some ([t], X)
theorem mild_text {u : Bytes} {t : TTok} (h : t ∈ textToks u) : Mild t := by
  unfold textToks at h
  split at h
  · cases h
  · cases List.mem_singleton.1 h
    exact ⟨by show ([] : Bytes) ≠ sScript; decide, by show ([] : Bytes) ≠ sStyle; decide, fun h => by cases h⟩
theorem mild_law (ps : List Bytes) (hps : ∀ p ∈ ps, NoLt p ∨ MildPiece p) : ∀ u, NoLt u → ∀ t ∈ allM (u ++ ps.flatten), Mild t := by
  induction ps with
  | nil =>
    intro u hu t ht
    rw [List.flatten_nil, List.append_nil, allM_split, textM_plain u hu] at ht
    rcases List.mem_append.1 ht with ht | ht
    · exact mild_text ht
    · cases ht
  | cons p ps ih =>
    intro u hu t ht
    have ih' := ih (fun q hq => hps q (by simp [hq]))
    rcases hps p (by simp) with hp | ⟨t0, hm, ht0⟩
    · rw [List.flatten_cons, ← List.append_assoc] at ht
      exact ih' (u ++ p) (fun c hc => (List.mem_append.1 hc).elim (hu c) (hp c)) t ht
    · obtain ⟨h1, h2⟩ := ht0 ps.flatten
      rw [List.flatten_cons, allM_text u _ hu h1, allM_markup _ _ _ h1 h2] at ht
      rcases List.mem_append.1 ht with ht | ht
      · exact mild_text ht
      · rcases List.mem_append.1 ht with ht | ht
        · cases List.mem_singleton.1 ht; exact hm
        · exact ih' [] (fun c hc => by cases hc) t ht
theorem tree_kinds : ∀ p ∈ treePieces, NoLt p ∨ MildPiece p := by
  intro p hp
  unfold treePieces at hp
  simp only [List.mem_cons, List.not_mem_nil, or_false] at hp
  rcases hp with rfl | rfl | rfl | rfl | rfl | rfl | rfl | rfl | rfl | rfl | rfl | rfl | rfl | rfl
  · exact .inl (by unfold NoLt; decide)
  · exact .inl (by unfold NoLt; decide)
  · exact .inr ⟨⟨1, [112], [], false, []⟩, ⟨by decide, by decide, by decide⟩, fun _ => ⟨rfl, rfl⟩⟩
  · exact .inr ⟨⟨2, [112], [], false, []⟩, ⟨by decide, by decide, by decide⟩, fun _ => ⟨rfl, rfl⟩⟩
  · exact .inr ⟨⟨1, [98], [], false, []⟩, ⟨by decide, by decide, by decide⟩, fun _ => ⟨rfl, rfl⟩⟩
  · exact .inr ⟨⟨2, [98], [], false, []⟩, ⟨by decide, by decide, by decide⟩, fun _ => ⟨rfl, rfl⟩⟩
  · exact .inr ⟨⟨1, [98, 114], [], true, []⟩, ⟨by decide, by decide, by decide⟩, fun _ => ⟨rfl, rfl⟩⟩
  · exact .inr ⟨⟨4, [], [], false, [120]⟩, ⟨by decide, by decide, by decide⟩, fun _ => ⟨rfl, rfl⟩⟩
  · exact .inr ⟨⟨1, [105], [⟨[99, 108, 97, 115, 115], [120]⟩], false, []⟩, ⟨by decide, by decide, by decide⟩, fun _ => ⟨rfl, rfl⟩⟩
  · exact .inr ⟨⟨2, [105], [], false, []⟩, ⟨by decide, by decide, by decide⟩, fun _ => ⟨rfl, rfl⟩⟩
  · exact .inl (by unfold NoLt; decide)
  · exact .inr ⟨⟨1, [117, 108], [], false, []⟩, ⟨by decide, by decide, by decide⟩, fun _ => ⟨rfl, rfl⟩⟩
  · exact .inr ⟨⟨1, [108, 105], [], false, []⟩, ⟨by decide, by decide, by decide⟩, fun _ => ⟨rfl, rfl⟩⟩
  · exact .inr ⟨⟨2, [117, 108], [], false, []⟩, ⟨by decide, by decide, by decide⟩, fun _ => ⟨rfl, rfl⟩⟩
theorem drawn_of (ps : List Bytes) (hne : ps ≠ []) (l : List Int) : ∃ qs : List Bytes, drawn ps l = qs.flatten ∧ ∀ q ∈ qs, q ∈ ps := by
  refine ⟨_, rfl, fun q hq => ?_⟩
  obtain ⟨x, _, rfl⟩ := List.mem_map.1 hq
  obtain ⟨p, h1, h2, _⟩ := drawn_get ps hne x
  rw [h2]; exact List.mem_of_getElem? h1
theorem tree_mild (l : List Int) : ∀ t ∈ allM (drawn treePieces l), Mild t := by
  obtain ⟨qs, h1, h2⟩ := drawn_of treePieces (by decide) l
  rw [h1]
  exact mild_law qs (fun p hp => tree_kinds p (h2 p hp)) [] (fun c hc => by cases hc)

/-- The rows' texts. -/
theorem build_tree (l : List Int) : BuildOk (allM (drawn treePieces (l.take 40))) := by
  have h1 := drawn_len treePieces 11 treePieces_len (l.take 40)
  have h2 := drawn_lts treePieces treePieces_lt (l.take 40)
  have h3 : (l.take 40).length ≤ 40 := by rw [List.length_take]; omega
  exact buildOk_of _ (by omega) (by omega)
theorem build_close (l : List Int) : BuildOk (allM (drawn closePieces (l.take 40))) := by
  have h1 := drawn_len closePieces 5 closePieces_len (l.take 40)
  have h2 := drawn_lts closePieces closePieces_lt (l.take 40)
  have h3 : (l.take 40).length ≤ 40 := by rw [List.length_take]; omega
  exact buildOk_of _ (by omega) (by omega)
theorem build_mark (l : List Int) : BuildOk (allM (drawn markPieces (l.take 30))) := by
  have h1 := drawn_len markPieces 19 markPieces_len (l.take 30)
  have h2 := drawn_lts markPieces markPieces_lt (l.take 30)
  have h3 : (l.take 30).length ≤ 30 := by rw [List.length_take]; omega
  exact buildOk_of _ (by omega) (by omega)

end Go.Proofs.YtjkgmdnkejjppaaGreatDoor
/- What the rows' readers of trees find at a place. Nothing of the program here. -/
namespace Go.Proofs.YtjkgmdnkejjppaaGreatDoor

theorem wordsN_eq (t : TNode) : wordsN t = t.text ++ wordsL t.parts := by cases t; rw [wordsN]; rfl
theorem wordsL_take (l : List TNode) (k : Nat) (t : TNode) (h : l[k]? = some t) : wordsL (l.take (k + 1)) = wordsL (l.take k) ++ (t.text ++ wordsL t.parts) := by
  rw [List.take_add_one, h, wordsL_append]
  show _ ++ wordsL [t] = _
  rw [wordsL_one, wordsN_eq]
theorem wordsL_take_len (l : List TNode) (k : Nat) : (wordsL (l.take k)).length ≤ (wordsL l).length := by
  have h : wordsL l = wordsL (l.take k) ++ wordsL (l.drop k) := by rw [← wordsL_append, List.take_append_drop]
  rw [h, List.length_append]; omega

theorem countN_of (t : TNode) : countN t = countL t.parts + 1 := by cases t; rw [countN]; rfl
theorem countL_take (l : List TNode) (k : Nat) (t : TNode) (h : l[k]? = some t) : countL (l.take (k + 1)) = countL (l.take k) + (countL t.parts + 1) := by
  rw [List.take_add_one, h, countL_append]
  show _ + countL [t] = _
  rw [countL_one, countN_of]
theorem countL_take_le (l : List TNode) (k : Nat) : countL (l.take k) ≤ countL l := by
  have h : countL l = countL (l.take k) + countL (l.drop k) := by rw [← countL_append, List.take_append_drop]
  omega
theorem deepN_of (t : TNode) : deepN t = deepL t.parts + 1 := by cases t; rw [deepN]; rfl
theorem deepL_take (l : List TNode) (k : Nat) (t : TNode) (h : l[k]? = some t) : deepL (l.take (k + 1)) = max (deepL (l.take k)) (deepL t.parts + 1) := by
  rw [List.take_add_one, h, deepL_append]
  show max _ (deepL [t]) = _
  rw [deepL, deepL, deepN_of, Nat.max_zero]
theorem deepL_take_le (l : List TNode) (k : Nat) : deepL (l.take k) ≤ deepL l := by
  have h : deepL l = max (deepL (l.take k)) (deepL (l.drop k)) := by rw [← deepL_append, List.take_append_drop]
  omega
theorem apart_get : ∀ (l : List TNode) (b : Bool) (k : Nat) (t : TNode), apartL b l = true → l[k]? = some t →
    (t.name = [] → (t.text ≠ [] ∧ t.parts = [] ∧ t.attrs = []) ∧ (k = 0 → b = false) ∧ ∀ j u, j + 1 = k → l[j]? = some u → u.name ≠ []) ∧ (t.name ≠ [] → t.text = [] ∧ apartL false t.parts = true)
  | [], _, _, _, _, h => by simp at h
  | x :: xs, b, k, t, ha, h => by
    rw [apartL] at ha
    simp only [Bool.and_eq_true, Bool.not_eq_true'] at ha
    obtain ⟨⟨h1, h2⟩, h3⟩ := ha
    cases k with
    | zero =>
      cases h
      obtain ⟨n, a, s, ps⟩ := x
      rw [apartN] at h2
      refine ⟨fun hn => ?_, fun hn => ?_⟩
      · have hn' : n = [] := hn
        subst hn'
        simp only [if_pos, Bool.and_eq_true, Bool.not_eq_true', List.isEmpty_iff] at h2
        refine ⟨⟨?_, h2.1.2, h2.2⟩, fun _ => ?_, fun j u hj => by omega⟩
        · have h4 := h2.1.1
          intro hs
          have hs' : s = [] := hs
          rw [hs'] at h4; cases h4
        · cases b
          · rfl
          · cases h1
      · have hn' : ¬ n = [] := hn
        rw [if_neg hn'] at h2
        simp only [Bool.and_eq_true, beq_iff_eq] at h2
        exact h2
    | succ k =>
      obtain ⟨g1, g2⟩ := apart_get xs (x.name == []) k t h3 h
      refine ⟨fun hn => ?_, g2⟩
      obtain ⟨e1, e2, e3⟩ := g1 hn
      refine ⟨e1, fun h => by omega, fun j u hj hu => ?_⟩
      cases j with
      | zero =>
        cases hu
        have := e2 (by omega)
        intro hx
        rw [hx] at this; cases this
      | succ j => exact e3 j u (by omega) hu
theorem closed_get : ∀ (l : List TNode) (p li : Bool) (k : Nat) (t : TNode), closedL l p li = true → l[k]? = some t →
    ¬ (t.name = nP ∧ p = true) ∧ ¬ (t.name = nLi ∧ li = true) ∧ closedL t.parts (p || t.name == nP) (inLiM t.name li) = true
  | [], _, _, _, _, _, h => by simp at h
  | x :: xs, p, li, k, t, ha, h => by
    rw [closedL, Bool.and_eq_true] at ha
    obtain ⟨h1, h2⟩ := ha
    cases k with
    | zero =>
      cases h
      obtain ⟨n, a, s, ps⟩ := x
      rw [closedN, Bool.and_eq_true] at h1
      simp only [Bool.not_eq_true', Bool.or_eq_false_iff, Bool.and_eq_false_iff, beq_eq_false_iff_ne] at h1
      obtain ⟨⟨h3, h4⟩, h5⟩ := h1
      refine ⟨?_, ?_, h5⟩
      · rintro ⟨g1, g2⟩
        rcases h3 with h3 | h3
        · exact h3 g1
        · rw [g2] at h3; cases h3
      · rintro ⟨g1, g2⟩
        rcases h4 with h4 | h4
        · exact h4 g1
        · rw [g2] at h4; cases h4
    | succ k => exact closed_get xs p li k t h2 h

end Go.Proofs.YtjkgmdnkejjppaaGreatDoor
