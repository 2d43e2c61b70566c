/- The strict reader's node that is being made: what the blocks hold. -/
import Derived.Test.YtjkgmdnkejjppaaGreatDoorJVWalkA
import Derived.Test.YtjkgmdnkejjppaaGreatDoorGx
import Derived.Test.YtjkgmdnkejjppaaGreatDoorJTViewB
import Derived.Test.YtjkgmdnkejjppaaGreatDoorJYRow
import Derived.Test.YtjkgmdnkejjppaaGreatDoorGo
namespace Go.Proofs.YtjkgmdnkejjppaaGreatDoor
open Go Go.RowKit

theorem NodeOwn.only {d B b : Nat} {w w' : World} {v : Value} {l : List TNode} (h : NodeOwn d B w v l) (hk : Only b w w') (hb : ∃ cs, w.heap[b]? = some (.cells cs 54 (0, 0))) : NodeOwn d B w' v l := by
  obtain ⟨cb, hb⟩ := hb
  have hs : ∀ (g : Nat) (cs : Array Value) (e : TypeId), e ≠ 54 → w.heap[g]? = some (.cells cs e (0, 0)) → w'.heap[g]? = w.heap[g]? := fun g cs e he hg =>
    hk.block g (lt_of_block hg) (fun e' => by subst e'; exact type_ne hg hb he rfl)
  obtain ⟨ps, h1, h2, h3⟩ := h
  exact ⟨ps, h1, ownsRow_kept h2 fun g c _ hg => (hs g _ _ (by decide) hg).trans hg, fun p hp => ⟨(h3 p hp).1.stay fun g cs hg => hs g cs _ (by decide) hg, (h3 p hp).2.stay (fun g cs hg => hs g cs _ (by decide) hg) fun g cs hpp hg => ⟨hpp, hs g cs _ (by decide) hg⟩⟩⟩

theorem RdR.drewN {w : World} {b : Nat} {s : ByteArray} {r : Bytes} {bad : Bool} (h : RdR w b s r bad) (n : Nat) : RdR (w.drewN n) b s r bad := h
theorem NodeOwn.drewN {d B : Nat} {w : World} {v : Value} {l : List TNode} (h : NodeOwn d B w v l) (n : Nat) : NodeOwn d B (w.drewN n) v l := h.older ⟨Nat.le_refl _, fun _ _ => rfl⟩
theorem RdR.below {B : Nat} {w w' : World} {b : Nat} {s : ByteArray} {r : Bytes} {bad : Bool} (h : RdR w b s r bad) (hk : Below B w w') (hb : b < B) : RdR w' b s r bad := by
  obtain ⟨a, h1, h2, h3⟩ := h
  exact ⟨a, h1.below hk hb, h2, h3⟩
theorem RdR.block {w : World} {b : Nat} {s : ByteArray} {r : Bytes} {bad : Bool} (h : RdR w b s r bad) : ∃ cs, w.heap[b]? = some (.cells cs 54 (0, 0)) := by
  obtain ⟨_, h, _⟩ := h; exact ⟨_, h⟩
/-- The two bytes ahead. -/
theorem two_bytes {s : ByteArray} {a : Nat} {cur : Bytes} (h : (lst s).drop a = cur) : ((eatM [60, 47] cur).1 = true ∧ a + 2 ≤ s.size ∧ s.extract a (a + 2) = mk [60, 47]) ∨ ((eatM [60, 47] cur).1 = false ∧ (a + 2 ≤ s.size → s.extract a (a + 2) = mk (cur.take 2) ∧ cur.take 2 ≠ [60, 47])) := by
  have hl : cur.length = s.size - a := by rw [← h, List.length_drop, lst_length]
  have he : s.extract a (a + 2) = mk (cur.take 2) := by rw [ext_take, h]
  unfold eatM
  by_cases hp : ([60, 47] : Bytes).isPrefixOf cur = true
  · refine .inl ?_
    have h2 := List.isPrefixOf_iff_prefix.1 hp
    have h3 := h2.length_le
    simp only [List.length_cons, List.length_nil] at h3
    rw [List.prefix_iff_eq_take] at h2
    refine ⟨by rw [if_pos hp], by omega, ?_⟩
    rw [he, show cur.take 2 = [60, 47] from h2.symm]
  · refine .inr ⟨by rw [if_neg hp], fun _ => ⟨he, fun e => hp ?_⟩⟩
    rw [List.isPrefixOf_iff_prefix, List.prefix_iff_eq_take]
    exact e.symm

theorem eatM_no {p s : Bytes} (h : (eatM p s).1 = false) : (eatM p s).2 = s := by
  have : ¬ p.isPrefixOf s = true := fun hp => by
    unfold eatM at h; rw [if_pos hp] at h; cases h
  unfold eatM; rw [if_neg this]
theorem RdR.setBad {w : World} {b : Nat} {s : ByteArray} {r : Bytes} {bad : Bool} (h : RdR w b s r bad) : RdR (w.setCell ⟨b, 2, none⟩ (.bool true)) b s r true := by
  obtain ⟨a, h1, h2, h3⟩ := h
  exact ⟨a, h1.setBad, h2, h3⟩
theorem RdR.other {w : World} {b N i : Nat} {s : ByteArray} {r : Bytes} {bad : Bool} (h : RdR w b s r bad) (hne : b ≠ N) (u : Value) : RdR (w.setCell ⟨N, i, none⟩ u) b s r bad := by
  obtain ⟨a, h1, h2, h3⟩ := h
  refine ⟨a, ?_, h2, h3⟩
  unfold Rd at *
  rw [Below.heap_setCell _ _ _ _ hne]; exact h1

/-- A node that is being made in the block behind w4's, its attributes in a row of the call's own. -/
structure AtSt (w4 : World) (b : Nat) (s : ByteArray) (nm : Bytes) (w : World) (z : Bytes) (bd : Bool) (av : Value) (al : List TAttr) : Prop where
  of ::
  rd : RdR w b s z bd
  box : w.heap[w4.heap.size]? = some (.cells #[.string (mk nm), av, .string ⟨#[]⟩, .slice none 0 0] 44 (0, 0))
  row : AttrRow (w4.heap.size + 1) w av al
  onl : Only b w4 w
  old : b < w4.heap.size
theorem AtSt.start {w4 : World} {b : Nat} {s : ByteArray} {nm z : Bytes} {bd : Bool} (h : RdR w4 b s z bd) : AtSt w4 b s nm (w4.alloc (.cells #[.string (mk nm), .slice none 0 0, .string ⟨#[]⟩, .slice none 0 0] 44)) z bd (.slice none 0 0) [] := by
  have hb5 : Below w4.heap.size w4 (w4.alloc (.cells #[.string (mk nm), .slice none 0 0, .string ⟨#[]⟩, .slice none 0 0] 44)) := (Below.refl _ _).alloc (Nat.le_refl _) _
  exact ⟨h.below hb5 (lt_of_block h.block.choose_spec), heap_alloc_new _ _, AttrRow.nil _ _, Kept.of_below hb5, lt_of_block h.block.choose_spec⟩
theorem AtSt.only {w4 w w' : World} {b : Nat} {s : ByteArray} {nm z z' : Bytes} {bd bd' : Bool} {av : Value} {al : List TAttr} (h : AtSt w4 b s nm w z bd av al) (hk : Only b w w') (hr : RdR w' b s z' bd') : AtSt w4 b s nm w' z' bd' av al := by
  obtain ⟨cb, hb⟩ := h.rd.block
  have hs : ∀ (g : Nat) (cs : Array Value) (e : TypeId), e ≠ 54 → w.heap[g]? = some (.cells cs e (0, 0)) → w'.heap[g]? = w.heap[g]? := fun g cs e he hg =>
    hk.block g (lt_of_block hg) (fun e' => by subst e'; exact type_ne hg hb he rfl)
  exact ⟨hr, (hs _ _ _ (by decide) h.box).trans h.box, ownsRow_kept h.row fun g c _ hg => (hs g _ _ (by decide) hg).trans hg, h.onl.trans hk, h.old⟩
theorem AtSt.below {w4 w w' : World} {b : Nat} {s : ByteArray} {nm z : Bytes} {bd : Bool} {av : Value} {al : List TAttr} (h : AtSt w4 b s nm w z bd av al) (hk : Below w.heap.size w w') : AtSt w4 b s nm w' z bd av al :=
  h.only (Kept.of_below hk) (h.rd.below hk (lt_of_block h.rd.block.choose_spec))
theorem AtSt.setBad {w4 w : World} {b : Nat} {s : ByteArray} {nm z : Bytes} {bd : Bool} {av : Value} {al : List TAttr} (h : AtSt w4 b s nm w z bd av al) : AtSt w4 b s nm (w.setCell ⟨b, 2, none⟩ (.bool true)) z true av al :=
  h.only ((Kept.refl (fun k => k = b) _ _).setCell (p := ⟨b, 2, none⟩) (.inl rfl) _) h.rd.setBad
theorem AtSt.drewN {w4 w : World} {b : Nat} {s : ByteArray} {nm z : Bytes} {bd : Bool} {av : Value} {al : List TAttr} (h : AtSt w4 b s nm w z bd av al) (n : Nat) : AtSt w4 b s nm (w.drewN n) z bd av al :=
  h.only ((Kept.refl _ _ _).drewN n) (h.rd.drewN n)
theorem AtSt.ne {w4 w : World} {b : Nat} {s : ByteArray} {nm z : Bytes} {bd : Bool} {av : Value} {al : List TAttr} (h : AtSt w4 b s nm w z bd av al) : b ≠ w4.heap.size := by
  obtain ⟨cb, hb⟩ := h.rd.block
  exact type_ne hb h.box (by decide)
/-- A cell of another block is written. -/
theorem AtSt.other {w4 w : World} {b N i : Nat} {s : ByteArray} {nm z : Bytes} {bd : Bool} {av : Value} {al : List TAttr} (h : AtSt w4 b s nm w z bd av al) (h1 : b ≠ N) (h2 : w4.heap.size < N) (h3 : av.ownBlock ≠ some N) (u : Value) : AtSt w4 b s nm (w.setCell ⟨N, i, none⟩ u) z bd av al :=
  ⟨h.rd.other h1 u, by rw [Below.heap_setCell _ _ _ _ (Nat.ne_of_lt h2)]; exact h.box, attrRow_other h.row h3 u, h.onl.setCell (p := ⟨N, i, none⟩) (.inr (Nat.le_of_lt h2)) u, h.old⟩
theorem AtSt.own_lt {w4 w : World} {b : Nat} {s : ByteArray} {nm z : Bytes} {bd : Bool} {av : Value} {al : List TAttr} (h : AtSt w4 b s nm w z bd av al) : av.ownBlock ≠ some w.heap.size := fun e => by
  obtain ⟨cs, h1, _⟩ := own_type h.row e
  exact absurd (lt_of_block h1) (Nat.lt_irrefl _)
/-- An attribute is appended. -/
theorem wpList_stAttr {ops : Array Oper} {rest : List Oper} {o : Oper} {a : Act} {Q : Exit → Act → World → Prop} {w4 wx : World} (hgd : o.guard = none) (s' x : Operand)
    (ho : o.op = .call { callee := .builtin .append, args := #[s', x], argTypes := #[42, 42] })
    {b : Nat} {s : ByteArray} {nm z : Bytes} {bd : Bool} (av : Value) (al : List TAttr) (t : TAttr) {x1 x2 : ByteArray} (hx1 : x1 = mk t.name) (hx2 : x2 = mk t.value) (h : AtSt w4 b s nm wx z bd av al) (hs : a.eval s' = av) (hx : a.eval x = .slice (some ⟨wx.heap.size, 0, none⟩) 1 1) (hl : al.length ≤ 1000000)
    (k : ∀ A C w', w'.heap[w4.heap.size]? = some (.cells #[.string (mk nm), av, .string ⟨#[]⟩, .slice none 0 0] 44 (0, 0)) → AtSt w4 b s nm (w'.setCell ⟨w4.heap.size, 1, none⟩ (.slice A (al.length + 1) C)) z bd (.slice A (al.length + 1) C) (al ++ [t]) → wpList Tryz.prog ops Q rest (a.put o.dst (.slice A (al.length + 1) C)) w') : wpList Tryz.prog ops Q (o :: rest) a (wx.alloc (.cells #[.string x1, .string x2] 85)) := by
  subst hx1 hx2
  have hbox := lt_of_block h.box
  have hown : wx.ownsRow (w4.heap.size + 1) 85 2 av al.length (attrCells al) := h.row
  refine wpList_row1 Tryz.underlying42 infoAttr rfl (by decide) (by decide) (by simp [Region.wanted, hgd]) s' x ho (w4.heap.size + 1) av al.length (attrCells al) wx.heap.size #[.string (mk t.name), .string (mk t.value)] hs hx (hown.alloc _) (heap_alloc_new wx _) rfl (fun u hu => by simp at hu; rcases hu with rfl | rfl <;> rfl) hl (by simp; omega) fun A C w' k1 k2 => ?_
  have hb1 : Below (w4.heap.size + 1) (wx.alloc (.cells #[.string (mk t.name), .string (mk t.value)] 85)) w' := row_grown_below k2 (hown.alloc _) (by simp; omega)
  have hb2 : Below (w4.heap.size + 1) wx w' := ((Below.refl _ wx).alloc hbox _).trans hb1
  have hold := h.old
  have hbx : w'.heap[w4.heap.size]? = some (.cells #[.string (mk nm), av, .string ⟨#[]⟩, .slice none 0 0] 44 (0, 0)) := (hb2.block _ (Nat.lt_succ_self _)).trans h.box
  refine k A C w' hbx ⟨(h.rd.below hb2 (by omega)).other (by omega) _, ?_, ?_, ?_, hold⟩
  · simp [World.setCell, Array.getElem?_modify, hbx]
  · refine attrRow_other (v := .slice A (al.length + 1) C) ?_ (fun e => by obtain ⟨_, _, h9⟩ := own_type k1 e; omega) _
    show w'.ownsRow _ _ _ _ (al ++ [t]).length (attrCells (al ++ [t]))
    rw [attrCells_append, List.length_append]; exact k1
  · exact Kept.setCell (Kept.trans h.onl (Kept.of_below (hb2.mono (by omega)))) (.inr (Nat.le_refl _)) _
/-- The node that is made, its parts read, ahead of its append. -/
structure ElSt (n b : Nat) (s : ByteArray) (w : World) (nb : Nat) (ov : Value) (o : List TNode) (nm : Bytes) (av : Value) (al : List TAttr) (pv : Value) (ps : List TNode) (W : World) (y : Bytes) (c : Bool) : Prop where
  of ::
  rd : RdR W b s y c
  own : NodeOwn n w.heap.size W ov o
  box : W.heap[nb]? = some (.cells #[.string (mk nm), av, .string ⟨#[]⟩, pv] 44 (0, 0))
  ats : AttrView W av al
  pts : NodeIn (fun g => w.heap.size ≤ g ∧ ov.ownBlock ≠ some g) n W pv ps
  onl : Only b w W
theorem ElSt.only {n b nb : Nat} {s : ByteArray} {w W W' : World} {ov av pv : Value} {o ps : List TNode} {nm y y' : Bytes} {al : List TAttr} {c c' : Bool} (h : ElSt n b s w nb ov o nm av al pv ps W y c) (hk : Only b W W') (hr : RdR W' b s y' c') : ElSt n b s w nb ov o nm av al pv ps W' y' c' := by
  obtain ⟨cb, hb⟩ := h.rd.block
  have hs : ∀ (g : Nat) (cs : Array Value) (e : TypeId), e ≠ 54 → W.heap[g]? = some (.cells cs e (0, 0)) → W'.heap[g]? = W.heap[g]? := fun g cs e he hg =>
    hk.block g (lt_of_block hg) (fun e' => by subst e'; exact type_ne hg hb he rfl)
  exact ⟨hr, h.own.only hk ⟨cb, hb⟩, (hs _ _ _ (by decide) h.box).trans h.box, h.ats.stay fun g cs hg => hs g cs _ (by decide) hg, h.pts.stay (fun g cs hg => hs g cs _ (by decide) hg) fun g cs hpp hg => ⟨hpp, hs g cs _ (by decide) hg⟩, h.onl.trans hk⟩
theorem ElSt.setBad {n b nb : Nat} {s : ByteArray} {w W : World} {ov av pv : Value} {o ps : List TNode} {nm y : Bytes} {al : List TAttr} {c : Bool} (h : ElSt n b s w nb ov o nm av al pv ps W y c) : ElSt n b s w nb ov o nm av al pv ps (W.setCell ⟨b, 2, none⟩ (.bool true)) y true :=
  h.only ((Kept.refl (fun k => k = b) _ _).setCell (p := ⟨b, 2, none⟩) (.inl rfl) _) h.rd.setBad
theorem ElSt.make {n b : Nat} {s : ByteArray} {w w4 w8 w9 : World} {ov av pv : Value} {o ps : List TNode} {nm y z : Bytes} {al : List TAttr} {c c' : Bool} (ho : NodeOwn n w.heap.size w4 ov o) (h4 : RdR w4 b s z c') (hb : Only b w w4) (h9 : AtSt w4 b s nm w9 y c av al) (hp : NodeOwn (n - 1) w8.heap.size w9 pv ps) (h8 : w4.heap.size < w8.heap.size) (hn : 0 < n) :
    ElSt n b s w w4.heap.size ov o nm av al pv ps (w9.setCell ⟨w4.heap.size, 3, none⟩ pv) y c := by
  have honl : Only b w4 (w9.setCell ⟨w4.heap.size, 3, none⟩ pv) := h9.onl.setCell (p := ⟨w4.heap.size, 3, none⟩) (.inr (Nat.le_refl _)) pv
  have hsz := hb.size
  refine ⟨h9.rd.other h9.ne _, ho.only honl h4.block, ?_, ?_, ?_, hb.trans honl⟩
  · simp [World.setCell, Array.getElem?_modify, h9.box]
  · have h1 : AttrRow (w4.heap.size + 1) (w9.setCell ⟨w4.heap.size, 3, none⟩ pv) av al := attrRow_other h9.row (fun e => by obtain ⟨_, _, h9⟩ := own_type h9.row e; omega) _
    exact h1.view
  · have h2 : NodeIn (fun g => w8.heap.size ≤ g) n w9 pv ps := hp.view.deep (by omega)
    refine h2.stay (fun g cs hg => Below.heap_setCell _ _ _ _ (show g ≠ w4.heap.size from type_ne hg h9.box (by decide))) fun g cs hpp hg => ⟨⟨?_, fun e => ?_⟩, Below.heap_setCell _ _ _ _ (show g ≠ w4.heap.size by have hpp' : w8.heap.size ≤ g := hpp; omega)⟩
    · have hpp' : w8.heap.size ≤ g := hpp
      omega
    · have hpp' : w8.heap.size ≤ g := hpp
      have := ho.block e
      omega
end Go.Proofs.YtjkgmdnkejjppaaGreatDoor
