/- Words for the walk of the reference's tagAt. -/
import Derived.Test.YtbgonaacheemcaaDoorRWalkA
import Derived.Test.YtbgonaacheemcaaDoorRLawB
import Derived.Test.YtbgonaacheemcaaDoorApp
namespace Go.Proofs.YtbgonaacheemcaaDoor
open Go Go.RowKit

/-- What a state of the machine means for what is left. -/
def meanA (st : Nat) (nm va : Bytes) (q : UInt8) (sl : Bool) (al : List TAttr) (r : Bytes) : Out :=
  if st = 1 then mAhead (dedup al) sl r else if st = 2 then mAttr (dedup al) nm r else if st = 3 then mBehind (dedup al) nm r
  else if st = 4 then mVal (dedup al) nm (valueM r) else if st = 5 then mQuote (dedup al) nm q va r else mBare (dedup al) nm va r
def meanT (st : Nat) (nm0 nm va : Bytes) (q : UInt8) (sl : Bool) (al : List TAttr) (r : Bytes) : Option (TTok × Bytes) :=
  if st = 0 then mName nm0 r else tagR nm0 (meanA st nm va q sl al r)
theorem meanT_nil (st : Nat) (nm0 nm va : Bytes) (q : UInt8) (sl : Bool) (al : List TAttr) : meanT st nm0 nm va q sl al [] = none := by
  unfold meanT meanA
  repeat' split
  all_goals rfl
theorem u8ne {b : UInt8} {n : Nat} (hn : n < 256) (h : b ≠ UInt8.ofNat n) : (((b.toNat : Int) == (n : Int)) = false) ∧ (((b.toNat : Int) != (n : Int)) = true) := by
  have h1 : b.toNat ≠ n := by
    intro e; apply h; apply UInt8.toNat_inj.1; rw [e, UInt8.toNat_ofNat']; omega
  have h2 : ((b.toNat : Int) == (n : Int)) = false := beq_eq_false_iff_ne.2 (by omega)
  exact ⟨h2, by rw [bne, h2]; rfl⟩
theorem u8eq {b : UInt8} {n : Nat} (hn : n < 256) (h : b = UInt8.ofNat n) : (((b.toNat : Int) == (n : Int)) = true) ∧ (((b.toNat : Int) != (n : Int)) = false) := by
  have h1 : b.toNat = n := by rw [h, UInt8.toNat_ofNat']; omega
  have h2 : ((b.toNat : Int) == (n : Int)) = true := beq_iff_eq.2 (by omega)
  exact ⟨h2, by rw [bne, h2]; rfl⟩
theorem nameEnd_not {b : UInt8} (h : nameEnd.contains b = false) : spaces.contains b = false ∧ b ≠ 47 ∧ b ≠ 62 := by
  unfold nameEnd at h
  rw [List.contains_eq_mem, decide_eq_false_iff_not, List.mem_append] at h
  refine ⟨by rw [List.contains_eq_mem, decide_eq_false_iff_not]; exact fun x => h (.inl x), ?_, ?_⟩
  · rintro rfl; exact h (.inr (by simp))
  · rintro rfl; exact h (.inr (by simp))
theorem TokBlk.other {w : World} {n : Nat} {kind : Int} {name : ByteArray} {va : Value} {self : Bool} (h : TokBlk w n kind name va self) {p : Addr} (hp : p.block ≠ n) (v : Value) : TokBlk (w.setCell p v) n kind name va self := by
  unfold TokBlk at *; rw [Below.heap_setCell _ _ _ _ (fun e => hp e.symm)]; exact h
theorem TokBlk.more {w : World} {n : Nat} {kind : Int} {name : ByteArray} {va : Value} {self : Bool} (h : TokBlk w n kind name va self) (o : Obj) : TokBlk (w.alloc o) n kind name va self := by
  have hlt := lt_of_block h
  unfold TokBlk at *; rw [(MapKept.heap_alloc w o).2 n hlt]; exact h
theorem TokBlk.setN {w : World} {n : Nat} {kind : Int} {name : ByteArray} {va : Value} {self : Bool} (h : TokBlk w n kind name va self) (x : ByteArray) : TokBlk (w.setCell ⟨n, 1, none⟩ (.string x)) n kind x va self := by
  unfold TokBlk at *
  simp [World.setCell, Array.getElem?_modify, h]
theorem end_cases {l : Bytes} {b : UInt8} (h : (spaces ++ l).contains b = true) : spaces.contains b = true ∨ (spaces.contains b = false ∧ b ∈ l) := by
  cases hs : spaces.contains b with
  | true => exact .inl rfl
  | false =>
    refine .inr ⟨rfl, ?_⟩
    rw [List.contains_eq_mem, decide_eq_true_eq, List.mem_append] at h
    rw [List.contains_eq_mem, decide_eq_false_iff_not] at hs
    exact h.resolve_left hs
theorem end_not {l : Bytes} {b : UInt8} (h : (spaces ++ l).contains b = false) : spaces.contains b = false ∧ b ∉ l := by
  rw [List.contains_eq_mem, decide_eq_false_iff_not, List.mem_append] at h
  exact ⟨by rw [List.contains_eq_mem, decide_eq_false_iff_not]; exact fun x => h (.inl x), fun x => h (.inr x)⟩
theorem sp_not {b : UInt8} (h : spaces.contains b = true) : b ≠ 47 ∧ b ≠ 62 ∧ b ≠ 61 ∧ b ≠ 34 ∧ b ≠ 39 := by
  refine ⟨?_, ?_, ?_, ?_, ?_⟩ <;> (rintro rfl; revert h; decide)
theorem bEq47 {b : UInt8} (h : b = 47) : ((b.toNat : Int) == 47) = true ∧ ((b.toNat : Int) != 47) = false := by subst h; decide
theorem bNe47 {b : UInt8} (h : b ≠ 47) : ((b.toNat : Int) == 47) = false ∧ ((b.toNat : Int) != 47) = true := u8ne (n := 47) (by decide) h
theorem bEq62 {b : UInt8} (h : b = 62) : ((b.toNat : Int) == 62) = true ∧ ((b.toNat : Int) != 62) = false := by subst h; decide
theorem bNe62 {b : UInt8} (h : b ≠ 62) : ((b.toNat : Int) == 62) = false ∧ ((b.toNat : Int) != 62) = true := u8ne (n := 62) (by decide) h
theorem bEq61 {b : UInt8} (h : b = 61) : ((b.toNat : Int) == 61) = true ∧ ((b.toNat : Int) != 61) = false := by subst h; decide
theorem bNe61 {b : UInt8} (h : b ≠ 61) : ((b.toNat : Int) == 61) = false ∧ ((b.toNat : Int) != 61) = true := u8ne (n := 61) (by decide) h
theorem bEq34 {b : UInt8} (h : b = 34) : ((b.toNat : Int) == 34) = true ∧ ((b.toNat : Int) != 34) = false := by subst h; decide
theorem bNe34 {b : UInt8} (h : b ≠ 34) : ((b.toNat : Int) == 34) = false ∧ ((b.toNat : Int) != 34) = true := u8ne (n := 34) (by decide) h
theorem bEq39 {b : UInt8} (h : b = 39) : ((b.toNat : Int) == 39) = true ∧ ((b.toNat : Int) != 39) = false := by subst h; decide
theorem bNe39 {b : UInt8} (h : b ≠ 39) : ((b.toNat : Int) == 39) = false ∧ ((b.toNat : Int) != 39) = true := u8ne (n := 39) (by decide) h
/-- What the blocks hold while tagAt runs. -/
structure TagRel (w wr : World) (vall : Value) (nm0 : Bytes) (al : List TAttr) : Prop where
  of ::
  row : AttrRow (w.heap.size + 2) wr vall al
  res : TokBlk wr w.heap.size 0 (mk []) (.slice none 0 0) false
  tok : TokBlk wr (w.heap.size + 1) 0 (mk nm0) (.slice none 0 0) false
  bel : Below w.heap.size w wr
theorem TokBlk.older {w w' : World} {n : Nat} {kind : Int} {name : ByteArray} {va : Value} {self : Bool} (h : TokBlk w n kind name va self) (hb : Below w.heap.size w w') : TokBlk w' n kind name va self := by
  have hlt := lt_of_block h
  unfold TokBlk at *; rw [hb.block n hlt]; exact h
theorem TagRel.older {w wr w' : World} {vall : Value} {nm0 : Bytes} {al : List TAttr} (h : TagRel w wr vall nm0 al) (hb : Below wr.heap.size wr w') : TagRel w w' vall nm0 al :=
  ⟨h.row.below hb, h.res.older hb, h.tok.older hb, h.bel.trans (hb.mono h.bel.size)⟩
theorem ownsRow_base_le {B size n k : Nat} {w : World} {e : TypeId} {v : Value} {xs : List Value} (h : w.ownsRow B e size v n xs) (hk : some k = v.ownBlock) : B ≤ k := by
  rcases h.2 with ⟨hv0, _⟩ | ⟨g0, cap0, cur0, hv0, hB0, _⟩
  · rw [hv0] at hk; cases hk
  · rw [hv0] at hk
    have e' : k = g0 := by injection hk
    omega
theorem attrCells_snoc (al : List TAttr) (t : TAttr) : attrCells (al ++ [t]) = attrCells al ++ [.string (mk t.name), .string (mk t.value)] := by simp [attrCells]
/-- append(all, Attr{..}) at a plain region's list. -/
theorem wpList_append_attr {ops : Array Oper} {rest : List Oper} {o : Oper} {a : Act} {Q : Exit → Act → World → Prop} {w0 wx : World} (hgd : o.guard = none) (s x : Operand)
    (ho : o.op = .call { callee := .builtin .append, args := #[s, x], argTypes := #[29, 29] })
    (va : Value) (nm0 : Bytes) (al : List TAttr) (t : TAttr) {x1 x2 : ByteArray} (hx1 : x1 = mk t.name) (hx2 : x2 = mk t.value) (hs : a.eval s = va) (hx : a.eval x = .slice (some ⟨wx.heap.size, 0, none⟩) 1 1) (h : TagRel w0 wx va nm0 al) (hl : al.length ≤ 1000000)
    (k : ∀ v' w', TagRel w0 w' v' nm0 (al ++ [t]) → wpList Tryd.prog ops Q rest (a.put o.dst v') w') : wpList Tryd.prog ops Q (o :: rest) a (wx.alloc (.cells #[.string x1, .string x2] 45)) := by
  subst hx1 hx2
  obtain ⟨i0, hi0, hz0, hz1, hz2⟩ := info_parts infoAttr
  have hown : wx.ownsRow (w0.heap.size + 2) 45 2 va al.length (attrCells al) := h.row
  have hn2 := lt_of_block h.tok
  refine wpList_append_own _ hgd s x 29 ho (w0.heap.size + 2) 45 i0 _ 2 32 Tryd.underlying29 hi0 hz0 hz1 hz2 rfl (by decide) va al.length (attrCells al) hs (hown.alloc _) ⟨wx.heap.size, 0, none⟩ 1 1 [.string (mk t.name), .string (mk t.value)] hx rfl
    (World.news_of_block (cs := #[.string (mk t.name), .string (mk t.value)]) (t := 45) (fr := (0, 0)) (heap_alloc_new wx _)) (fun u hu => by simp at hu; rcases hu with rfl | rfl <;> rfl) (by unfold maxLen; omega) (by omega) (by simp; omega) fun v' w' hown' hg _ => k v' w' ?_
  have hblk : ∀ k, k < w0.heap.size + 2 → w'.heap[k]? = wx.heap[k]? := fun k hk => by
    rw [hg.block k (by simp; omega) (fun e => by have := ownsRow_base_le hown e; omega), Below.heap_alloc _ _ _ (by omega)]
  refine ⟨?_, ?_, ?_, ?_⟩
  · show w'.ownsRow _ _ _ _ (al ++ [t]).length (attrCells (al ++ [t]))
    rw [attrCells_snoc, List.length_append]; exact hown'
  · have := h.res; unfold TokBlk at *; rw [hblk _ (by omega)]; exact this
  · have := h.tok; unfold TokBlk at *; rw [hblk _ (by omega)]; exact this
  · refine h.bel.trans ⟨hg.os, hg.tape, hg.output, ?_, fun k hk => hblk k (by omega)⟩
    have := hg.size
    simp at this; omega
/-- The name grows. -/
theorem TagRel.name {w W : World} {vall : Value} {nm0 : Bytes} {al : List TAttr} (h : TagRel w W vall nm0 al) (x : Bytes) (o : Obj) : TagRel w ((W.setCell ⟨w.heap.size + 1, 1, none⟩ (.string (mk x))).alloc o) vall x al := by
  have hbs := h.bel.setCell (p := ⟨w.heap.size + 1, 1, none⟩) (Nat.le_succ _) (.string (mk x))
  refine ⟨?_, (h.res.other (p := ⟨w.heap.size + 1, 1, none⟩) (by simp) _).more _, (h.tok.setN _).more _, hbs.alloc hbs.size o⟩
  have hne : vall.ownBlock ≠ some (w.heap.size + 1) := fun e => by have := ownsRow_base_le h.row e.symm; omega
  exact (attrRow_other h.row hne _).alloc _
theorem TagRel.alloc {w W : World} {vall : Value} {nm0 : Bytes} {al : List TAttr} (h : TagRel w W vall nm0 al) (o : Obj) : TagRel w (W.alloc o) vall nm0 al := h.older ((Below.refl _ _).alloc (Nat.le_refl _) _)
/-- The name is stored. -/
theorem TagRel.setName {w W : World} {vall : Value} {nm0 : Bytes} {al : List TAttr} (h : TagRel w W vall nm0 al) (x : Bytes) : TagRel w (W.setCell ⟨w.heap.size + 1, 1, none⟩ (.string (mk x))) vall x al := by
  refine ⟨?_, h.res.other (p := ⟨w.heap.size + 1, 1, none⟩) (by simp) _, h.tok.setN _, h.bel.setCell (p := ⟨w.heap.size + 1, 1, none⟩) (Nat.le_succ _) _⟩
  have hne : vall.ownBlock ≠ some (w.heap.size + 1) := fun e => by have := ownsRow_base_le h.row e.symm; omega
  exact attrRow_other h.row hne _
/-- What the blocks hold while the attributes are gathered. -/
structure EndRel (W6 wx : World) (n : Nat) (nm : Bytes) (va : Value) (l : List TAttr) : Prop where
  of ::
  only : Only n W6 wx
  tok : TokBlk wx n 0 (mk nm) va false
  row : AttrRow W6.heap.size wx va l
theorem EndRel.older {W6 wx w' : World} {n : Nat} {nm : Bytes} {va : Value} {l : List TAttr} (h : EndRel W6 wx n nm va l) (hb : Below wx.heap.size wx w') : EndRel W6 w' n nm va l :=
  ⟨h.only.below hb, h.tok.older hb, h.row.below hb⟩
/-- t.Attrs = append(t.Attrs, a) at a plain region's list. -/
theorem wpList_append_end {ops : Array Oper} {rest : List Oper} {o : Oper} {a : Act} {Q : Exit → Act → World → Prop} {W6 wx : World} (hgd : o.guard = none) (s x : Operand)
    (ho : o.op = .call { callee := .builtin .append, args := #[s, x], argTypes := #[29, 29] })
    (n : Nat) (nm : Bytes) (va : Value) (l : List TAttr) (t : TAttr) {x1 x2 : ByteArray} (hx1 : x1 = mk t.name) (hx2 : x2 = mk t.value) (hs : a.eval s = va) (hx : a.eval x = .slice (some ⟨wx.heap.size, 0, none⟩) 1 1) (h : EndRel W6 wx n nm va l) (hn : n < W6.heap.size) (hl : l.length ≤ 1000000)
    (k : ∀ A C w', TokBlk w' n 0 (mk nm) va false → EndRel W6 (w'.setCell ⟨n, 2, none⟩ (.slice A (l.length + 1) C)) n nm (.slice A (l.length + 1) C) (l ++ [t]) → wpList Tryd.prog ops Q rest (a.put o.dst (.slice A (l.length + 1) C)) w') : wpList Tryd.prog ops Q (o :: rest) a (wx.alloc (.cells #[.string x1, .string x2] 45)) := by
  subst hx1 hx2
  obtain ⟨i0, hi0, hz0, hz1, hz2⟩ := info_parts infoAttr
  have hown : wx.ownsRow W6.heap.size 45 2 va l.length (attrCells l) := h.row
  have hsz := h.only.size
  refine wpList_append_own _ hgd s x 29 ho W6.heap.size 45 i0 _ 2 32 Tryd.underlying29 hi0 hz0 hz1 hz2 rfl (by decide) va l.length (attrCells l) hs (hown.alloc _) ⟨wx.heap.size, 0, none⟩ 1 1 [.string (mk t.name), .string (mk t.value)] hx rfl
    (World.news_of_block (cs := #[.string (mk t.name), .string (mk t.value)]) (t := 45) (fr := (0, 0)) (heap_alloc_new wx _)) (fun u hu => by simp at hu; rcases hu with rfl | rfl <;> rfl) (by unfold maxLen; omega) (by omega) (by simp; omega) fun v' w' hown' hg _ => ?_
  obtain ⟨A, C, rfl⟩ := ownsRow_slice hown'
  have hblk : ∀ k, k < W6.heap.size → w'.heap[k]? = wx.heap[k]? := fun k hk => by
    rw [hg.block k (by simp; omega) (fun e => by have := ownsRow_base_le hown e; omega), Below.heap_alloc _ _ _ (by omega)]
  have ht : TokBlk w' n 0 (mk nm) va false := by
    have := h.tok; unfold TokBlk at *; rw [hblk _ hn]; exact this
  refine k A C w' ht ⟨?_, ht.setV _, ?_⟩
  · refine Kept.setCell (Kept.trans h.only ⟨hg.os, hg.tape, hg.output, ?_, fun k hk _ => hblk k (by omega)⟩) (.inl rfl) _
    have := hg.size
    simp at this; omega
  · refine attrRow_other (v := .slice A (l.length + 1) C) ?_ (fun e => by have := ownsRow_base_le hown' e.symm; omega) _
    show w'.ownsRow _ _ _ _ (l ++ [t]).length (attrCells (l ++ [t]))
    rw [attrCells_snoc, List.length_append]; exact hown'
theorem dedup_take (al : List TAttr) (i : Nat) (t : TAttr) (h : al[i]? = some t) : dedup (al.take (i + 1)) = addAttr (dedup (al.take i)) t := by
  rw [List.take_add_one, h, Option.toList_some, dedup_snoc]
theorem addAttr_le (l : List TAttr) (t : TAttr) : (addAttr l t).length ≤ l.length + 1 := by
  unfold addAttr; split
  · omega
  · rw [List.length_append]; simp
theorem dedup_le : ∀ (al : List TAttr) (i : Nat), i ≤ al.length → (dedup (al.take i)).length ≤ i
  | al, 0, _ => by simp [dedup]
  | al, i + 1, h => by
    rw [dedup_take al i al[i] (List.getElem?_eq_getElem (by omega))]
    have := addAttr_le (dedup (al.take i)) al[i]
    have := dedup_le al i (by omega)
    omega
/-- 'fresh', round by round. -/
theorem fresh_step (l : List TAttr) (j : Nat) (c : TAttr) (h : l[j]? = some c) (nm : Bytes) : (l.take (j + 1)).any (fun x => x.name == nm) = ((l.take j).any (fun x => x.name == nm) || c.name == nm) := by
  rw [List.take_add_one, h, Option.toList_some, List.any_append, List.any_cons, List.any_nil, Bool.or_false]

theorem stop_here {K X : Act → World → Prop} {G : Prop} (hK : ∀ a w, X a w → K a w) (h : ∀ T : Act → World → Prop, (∀ a w, T a w → K a w) → Hid (∀ a w, X a w → T a w) → G) : G := h X hK (Lib.hid fun _ _ h => h)

end Go.Proofs.YtbgonaacheemcaaDoor
