/- Walks of the scanner's methods: tag. -/
import Derived.Test.YtjkgmdnkejjppaaGreatDoorGe
import Derived.Deep.DeepCutAuto
import Derived.Deep.AppendLies
import Derived.Deep.RegionLaw
namespace Go.Proofs.YtjkgmdnkejjppaaGreatDoor
open Go Go.RowKit

def tokCell (p : TTok × Value) : List Value := [.int .i64 p.1.kind, .string (mk p.1.name), p.2, .bool p.1.self, .string (mk p.1.text)]
def tokCells (l : List (TTok × Value)) : List Value := l.flatMap tokCell
theorem tokCells_length (l : List (TTok × Value)) : (tokCells l).length = l.length * 5 := by
  induction l with
  | nil => rfl
  | cons a l ih => unfold tokCells at *; simp only [List.flatMap_cons, List.length_append, ih, List.length_cons]; unfold tokCell; simp only [List.length_cons, List.length_nil]; omega

/-- Tokens in a row of the call's own, their attributes in rows of their own. -/
def TokRow (B : Nat) (w : World) (tv : Value) (l : List TTok) : Prop :=
  ∃ ps : List (TTok × Value), ps.map Prod.fst = l ∧ w.ownsRow B 70 5 tv ps.length (tokCells ps) ∧ ∀ p ∈ ps, AttrRow B w p.2 p.1.attrs

theorem wpStill_skip {P : Program} {ops : Array Oper} {w : World} {Q : Act → Prop} {a : Act} {o : Oper} {rest : List Oper} (hw : Region.wanted o (yielded ops a.tmps) = false)
    (h : wpStill P ops w Q rest (a.put o.dst undef)) : wpStill P ops w Q (o :: rest) a :=
  wpStill_step fun K hK => by rw [hw]; exact hK _ h

/-- The steps of a region that only reads, behind a name that nothing unfolds. -/
theorem still_by {P : Program} {ops : Array Oper} {w : World} {Q : Act → Prop} (l : List Oper) (a : Act)
    (h : ∀ F : List Oper → Act → Prop, (∀ o rest a, Region.wanted o (yielded ops a.tmps) = false → F rest (a.put o.dst undef) → F (o :: rest) a) →
      (∀ o rest a v, o.guard = none → (execOp a.eval o).run P w = .ok (.value v) w → F rest (a.put o.dst v) → F (o :: rest) a) → (∀ a, Q a → F [] a) → F l a) : wpStill P ops w Q l a :=
  h (wpStill P ops w Q) (fun _ _ _ hw hh => wpStill_skip hw hh) (fun _ _ _ v hg hv hh => wpStill_step fun K hK => by
    rw [if_pos (by simp [Region.wanted, hg]), Oper.still, hv]
    exact ⟨rfl, hK _ hh⟩) (fun _ hq => wpStill_nil hq)

/-- Rows of tokens and of attributes stay. -/
def RowsKept (w w' : World) : Prop := ∀ (g : Nat) (c : Array Value) (e : TypeId), e = 70 ∨ e = 85 → w.heap[g]? = some (Obj.cells c e (0, 0)) → w'.heap[g]? = some (Obj.cells c e (0, 0))
theorem RowsKept.of_below {w w' : World} (h : Below w.heap.size w w') : RowsKept w w' := fun g c e _ hg => by rw [h.block g (lt_of_block hg)]; exact hg
theorem RowsKept.of_only {w w' : World} {b : Nat} {text : ByteArray} {a : Nat} {tv : Value} (hs : Sc w b text a tv) (h : Only b w w') : RowsKept w w' := fun g c e he hg => by
  rw [h.block g (lt_of_block hg) (by
    rintro rfl
    unfold Sc at hs
    rw [hs] at hg
    injection hg with hg; injection hg with h1 h2
    rcases he with he | he <;> rw [he] at h2 <;> exact absurd h2 (by decide))]
  exact hg
theorem TokRow.kept {B : Nat} {w w' : World} {tv : Value} {l : List TTok} (h : TokRow B w tv l) (hk : RowsKept w w') : TokRow B w' tv l := by
  obtain ⟨ps, h1, h2, h3⟩ := h
  exact ⟨ps, h1, ownsRow_kept h2 fun g c _ hg => hk g c _ (.inl rfl) hg, fun p hp => ownsRow_kept (h3 p hp) fun g c _ hg => hk g c _ (.inr rfl) hg⟩

/-- The local token of 'tag' in its block. -/
def TokBlk (w : World) (n : Nat) (kind : Int) (name : ByteArray) (va : Value) (self : Bool) : Prop :=
  w.heap[n]? = some (.cells #[.int .i64 kind, .string name, va, .bool self, .string ⟨#[]⟩] 70 (0, 0))
section
variable {w w' : World} {n : Nat} {kind : Int} {name : ByteArray} {va : Value} {self : Bool}
theorem TokBlk.all (h : TokBlk w n kind name va self) : w.cell? ⟨n, 0, none⟩ = some (.int .i64 kind) ∧ w.cell? ⟨n, 1, none⟩ = some (.string name) ∧ w.cell? ⟨n, 2, none⟩ = some va ∧ w.cell? ⟨n, 3, none⟩ = some (.bool self) ∧ w.cell? ⟨n, 4, none⟩ = some (.string ⟨#[]⟩) ∧
    w.frozen? ⟨n, 2, none⟩ = false ∧ w.frozen? ⟨n, 3, none⟩ = false ∧ n < w.heap.size :=
  ⟨by rw [Lib.cell_of_heap h]; rfl, by rw [Lib.cell_of_heap h]; rfl, by rw [Lib.cell_of_heap h]; rfl, by rw [Lib.cell_of_heap h]; rfl, by rw [Lib.cell_of_heap h]; rfl, Lib.frozen_of_heap h 2, Lib.frozen_of_heap h 3, lt_of_block h⟩
theorem TokBlk.setV (h : TokBlk w n kind name va self) (v : Value) : TokBlk (w.setCell ⟨n, 2, none⟩ v) n kind name v self := by
  unfold TokBlk at *; simp [World.setCell, Array.getElem?_modify, h]
theorem TokBlk.setS (h : TokBlk w n kind name va self) (v : Bool) : TokBlk (w.setCell ⟨n, 3, none⟩ (.bool v)) n kind name va v := by
  unfold TokBlk at *; simp [World.setCell, Array.getElem?_modify, h]
theorem TokBlk.kept {S : Nat → Prop} {B : Nat} (h : TokBlk w n kind name va self) (hk : Kept S B w w') (hb : n < B) (hs : ¬ S n) : TokBlk w' n kind name va self := by
  unfold TokBlk at *; rw [hk.block n hb hs]; exact h
theorem TokBlk.only {b : Nat} (h : TokBlk w n kind name va self) (hk : Only b w w') (hne : n ≠ b) : TokBlk w' n kind name va self := h.kept hk (lt_of_block h) hne
theorem TokBlk.drewN (h : TokBlk w n kind name va self) (k : Nat) : TokBlk (w.drewN k) n kind name va self := h
end

theorem attrRow_other {w : World} {B N i : Nat} {v : Value} {l : List TAttr} (h : AttrRow B w v l) (hne : v.ownBlock ≠ some N) (u : Value) : AttrRow B (w.setCell ⟨N, i, none⟩ u) v l :=
  ownsRow_kept h fun g c hv hg => by rw [Below.heap_setCell _ _ _ _ (by rintro rfl; exact hne hv)]; exact hg
theorem byteEq (x y : UInt8) : (x == y) = ((x.toNat : Int) == (y.toNat : Int)) := by
  rw [Bool.eq_iff_iff]; simp [← UInt8.toNat_inj]; omega

theorem infoAttr : (Tryz.prog.info? 85).map (fun i => (i.zero, i.size, i.bytes)) = some (some (.agg #[.string ⟨#[]⟩, .string ⟨#[]⟩]), 2, 32) := by kernel_rfl
theorem infoTok : (Tryz.prog.info? 70).map (fun i => (i.zero, i.size, i.bytes)) = some (some (.agg #[.int .i64 0, .string ⟨#[]⟩, .slice none 0 0, .bool false, .string ⟨#[]⟩]), 5, 72) := by kernel_rfl

theorem toList_mk (l : Bytes) : (mk l).toList = l := by rw [Lib.toList_data]; exact lst_mk l

/-- The closure of 'tag': has it this name? -/
theorem tag1_any (a : TAttr) (n : Nat) (nm : Bytes) (y : ByteArray) (w : World) (hc : Cel w n (mk nm) y) :
    Calls Tryz.prog 105 (#[AttrArg a] ++ #[.pointer (some ⟨n, 0, none⟩)]) w fun e w' => e = .returned (.bool (a.name == nm)) ∧ Below w.heap.size w w' := by
  obtain ⟨c0, c1, _, _, hlt⟩ := hc.all
  clear hc c1
  unfold AttrArg
  show Calls Tryz.prog 105 #[.agg #[.string (mk a.name), .string (mk a.value)], .pointer (some ⟨n, 0, none⟩)] w _
  go_enter Tryz.func105, Tryz.ntmps105
  go_wp2
  go_ret
  exact ⟨by simp [toList_mk], (Below.refl _ _).alloc (Nat.le_refl _) _⟩

theorem tagLoop_succ (n : Nat) (r : Bytes) (l : List TAttr) : tagLoop (n + 1) r l = (match skp tagGap r with
    | [] => none
    | c :: r2 =>
      if c = 62 then some (l, (skd tagGap r).getLast? == some 47, r2)
      else if (attrM (c :: r2)).2.1 then tagLoop n (attrM (c :: r2)).2.2 (addAttr l (attrM (c :: r2)).1)
      else none) := rfl

theorem sc_grown {w w' : World} {o : Obj} {b : Nat} {text : ByteArray} {a : Nat} {tv : Value} {r : Option Nat} (h : Sc w b text a tv) (hg : (w.alloc o).drew.grownBy w' r) (hne : some b ≠ r) : Sc w' b text a tv := by
  have hb := lt_of_block h
  unfold Sc at *
  rw [hg.block b (by show b < (w.alloc o).heap.size; simp; omega) hne]
  show (w.alloc o).heap[b]? = _
  rw [Below.heap_alloc _ _ _ hb]; exact h

/-- A token is pushed: what the scanner's blocks hold then. -/
theorem push_tok {B b : Nat} {text : ByteArray} {a : Nat} {tv va : Value} {l : List TTok} {t : TTok} {ps : List (TTok × Value)} {wc w11 : World} {o : Obj} {g cap : Nat}
    (h1 : Sc wc b text a tv) (hBb : B ≤ b) (hps : ps.map Prod.fst = l) (hat : ∀ p ∈ ps, AttrRow B wc p.2 p.1.attrs) (hva : AttrRow B wc va t.attrs)
    (hown0 : wc.ownsRow B 70 5 tv ps.length (tokCells ps)) (hne : some b ≠ tv.ownBlock) (hgr : (wc.alloc o).drew.grownBy w11 tv.ownBlock)
    (hown : w11.ownsRow B 70 5 (.slice (some ⟨g, 0, none⟩) (ps.length + 1) cap) (ps.length + 1) (tokCells ps ++ tokCell (t, va))) :
    Sc (w11.setCell ⟨b, 2, none⟩ (.slice (some ⟨g, 0, none⟩) (ps.length + 1) cap)) b text a (.slice (some ⟨g, 0, none⟩) (ps.length + 1) cap) ∧
    TokRow B (w11.setCell ⟨b, 2, none⟩ (.slice (some ⟨g, 0, none⟩) (ps.length + 1) cap)) (.slice (some ⟨g, 0, none⟩) (ps.length + 1) cap) (l ++ [t]) ∧
    Below B wc (w11.setCell ⟨b, 2, none⟩ (.slice (some ⟨g, 0, none⟩) (ps.length + 1) cap)) := by
  have hs11 := sc_grown h1 hgr hne
  have kept : ∀ (g' : Nat) (c : Array Value), wc.heap[g']? = some (Obj.cells c 85 (0, 0)) → (w11.setCell ⟨b, 2, none⟩ (.slice (some ⟨g, 0, none⟩) (ps.length + 1) cap)).heap[g']? = some (Obj.cells c 85 (0, 0)) := by
    intro g' c hg'
    have hlt := lt_of_block hg'
    have n1 : g' ≠ b := by
      rintro rfl
      have h := h1
      unfold Sc at h
      rw [h] at hg'
      injection hg' with hg'; injection hg' with _ h2 _
      exact absurd h2 (by decide)
    have n2 : some g' ≠ tv.ownBlock := by
      intro e
      rcases hown0.2 with ⟨hv0, _⟩ | ⟨g0, cap0, cur0, hv0, _, hg0, _⟩
      · rw [hv0] at e; cases e
      · rw [hv0] at e
        have e' : g' = g0 := by injection e
        rw [e', hg0] at hg'
        injection hg' with hg'; injection hg' with _ h2 _
        exact absurd h2 (by decide)
    rw [Below.heap_setCell _ _ _ _ n1, hgr.block g' (by show g' < (wc.alloc o).heap.size; simp; omega) n2]
    show (wc.alloc o).heap[g']? = _
    rw [Below.heap_alloc _ _ _ hlt]; exact hg'
  refine ⟨hs11.setTv _, ⟨ps ++ [(t, va)], by rw [List.map_append, hps]; rfl, ?_, ?_⟩, ?_⟩
  · have h : w11.ownsRow B 70 5 (.slice (some ⟨g, 0, none⟩) (ps.length + 1) cap) (ps ++ [(t, va)]).length (tokCells (ps ++ [(t, va)])) := by
      have e : tokCells (ps ++ [(t, va)]) = tokCells ps ++ tokCell (t, va) := by simp [tokCells]
      rw [e, List.length_append]; exact hown
    refine ownsRow_kept h fun g' c he hg' => ?_
    have n1 : g' ≠ b := by
      rintro rfl
      have h := hs11
      unfold Sc at h
      rw [h] at hg'
      injection hg' with hg'; injection hg' with _ h2 _
      exact absurd h2 (by decide)
    rw [Below.heap_setCell _ _ _ _ n1]; exact hg'
  · intro p hp
    rcases List.mem_append.1 hp with hp | hp
    · exact ownsRow_kept (hat p hp) fun g' c _ hg' => kept g' c hg'
    · simp only [List.mem_singleton] at hp
      subst hp
      exact ownsRow_kept hva fun g' c _ hg' => kept g' c hg'
  · refine ⟨hgr.os, hgr.tape, hgr.output, ?_, fun k hk => ?_⟩
    · have := hgr.size
      have h2 : (wc.alloc o).drew.heap.size = wc.heap.size + 1 := by show (wc.alloc o).heap.size = _; simp
      have h3 : (w11.setCell ⟨b, 2, none⟩ (.slice (some ⟨g, 0, none⟩) (ps.length + 1) cap)).heap.size = w11.heap.size := by simp [World.setCell]
      omega
    · have hbs := lt_of_block h1
      rw [Below.heap_setCell _ _ _ _ (by show k ≠ b; omega), hgr.block k (by show k < (wc.alloc o).heap.size; simp; omega) (by
        intro e
        rcases hown0.2 with ⟨hv0, _⟩ | ⟨g0, cap0, cur0, hv0, hB0, _⟩
        · rw [hv0] at e; cases e
        · rw [hv0] at e
          have e' : k = g0 := by injection e
          omega)]
      show (wc.alloc o).heap[k]? = _
      rw [Below.heap_alloc _ _ _ (by omega)]

theorem suf_drop {r l : Bytes} (h : r <:+ l) : l.drop (l.length - r.length) = r := (List.suffix_iff_eq_drop.1 h).symm
theorem valueM_suf (r : Bytes) : (valueM r).2.2 <:+ r := by
  have h0 : skp spaces r <:+ r := List.dropWhile_suffix _
  unfold valueM
  refine List.IsSuffix.trans ?_ h0
  generalize skp spaces r = r1
  cases r1 with
  | nil => exact List.suffix_refl _
  | cons q r2 =>
    rw [valueT]
    split
    · have h1 : brkR [q] r2 <:+ r2 := List.dropWhile_suffix _
      cases hb : brkR [q] r2 with
      | nil => exact List.nil_suffix
      | cons x r3 =>
        rw [hb] at h1
        exact List.IsSuffix.trans (List.suffix_cons x r3) (List.IsSuffix.trans h1 (List.suffix_cons q r2))
    · exact List.dropWhile_suffix _
theorem attrM_suf (c : UInt8) (r1 : Bytes) : (attrM (c :: r1)).2.2 <:+ r1 := by
  have h1 : brkR attrEnd r1 <:+ r1 := List.dropWhile_suffix _
  have h2 : skp spaces (brkR attrEnd r1) <:+ brkR attrEnd r1 := List.dropWhile_suffix _
  rw [attrM_cons]
  split
  · exact h1
  · rename_i e r4 hs
    rw [hs] at h2
    split
    · exact List.IsSuffix.trans (valueM_suf r4) (List.IsSuffix.trans (List.suffix_cons e r4) (List.IsSuffix.trans h2 h1))
    · exact h1

/-- An attribute is added to the token's: what the blocks hold then. -/
theorem add_attr {b N : Nat} {text : ByteArray} {a : Nat} {tv va v' : Value} {w0 wx w' : World} {o : Obj} {al al2 : List TAttr} {kind : Int} {name : ByteArray} {self : Bool}
    (hs : Sc wx b text a tv) (ho : Only b w0 wx) (ht : TokBlk wx N kind name va self) (hN : w0.heap.size ≤ N) (hNb : N ≠ b) (hva : va.ownBlock ≠ some N)
    (har : AttrRow w0.heap.size wx va al) (hg : (wx.alloc o).grownBy w' va.ownBlock) (hown : w'.ownsRow w0.heap.size 85 2 v' al2.length (attrCells al2)) :
    TokBlk w' N kind name va self ∧ Sc (w'.setCell ⟨N, 2, none⟩ v') b text a tv ∧ Only b w0 (w'.setCell ⟨N, 2, none⟩ v') ∧ TokBlk (w'.setCell ⟨N, 2, none⟩ v') N kind name v' self ∧
      AttrRow w0.heap.size (w'.setCell ⟨N, 2, none⟩ v') v' al2 ∧ v'.ownBlock ≠ some N := by
  have hNs := lt_of_block ht
  have hbs := lt_of_block hs
  have hvb : ∀ k, va.ownBlock = some k → w0.heap.size ≤ k ∧ k ≠ b := by
    intro k hk
    rcases har.2 with ⟨hv0, _⟩ | ⟨g0, cap0, cur0, hv0, hB0, hg0, _⟩
    · rw [hv0] at hk; cases hk
    · rw [hv0] at hk
      have e' : g0 = k := by injection hk
      subst e'
      refine ⟨hB0, ?_⟩
      rintro rfl
      have h := hs
      unfold Sc at h
      rw [h] at hg0
      injection hg0 with hg0; injection hg0 with _ h2 _
      exact absurd h2 (by decide)
  have hblk : ∀ k, k < wx.heap.size → some k ≠ va.ownBlock → w'.heap[k]? = wx.heap[k]? := by
    intro k hk hne
    rw [hg.block k (by simp; omega) hne, Below.heap_alloc _ _ _ hk]
  have ht' : TokBlk w' N kind name va self := by
    unfold TokBlk at *; rw [hblk N hNs (fun e => hva e.symm)]; exact ht
  have hs' : Sc w' b text a tv := by
    unfold Sc at *; rw [hblk b hbs (fun e => (hvb b e.symm).2 rfl)]; exact hs
  have ho' : Only b w0 w' := by
    refine Kept.trans ho ⟨hg.os, hg.tape, hg.output, ?_, fun k hk _ => hblk k (by have := ho.size; omega) (fun e => by have := (hvb k e.symm).1; omega)⟩
    have := hg.size
    simp at this; omega
  have hv' : v'.ownBlock ≠ some N := by
    intro e
    rcases hown.2 with ⟨hv0, _⟩ | ⟨g0, cap0, cur0, hv0, hB0, hg0, _⟩
    · rw [hv0] at e; cases e
    · rw [hv0] at e
      have e' : g0 = N := by injection e
      subst e'
      have h := ht'
      unfold TokBlk at h
      rw [h] at hg0
      injection hg0 with hg0; injection hg0 with _ h2 _
      exact absurd h2 (by decide)
  exact ⟨ht', hs'.other hNb _, Kept.setCell (S := fun k => k = b) (B := w0.heap.size) ho' (.inr hN) _, ht'.setV _, attrRow_other hown hv' _, hv'⟩

/-- What 'tag' comes to: the token is there, or the text ended. -/
def TagPost (B b : Nat) (text : ByteArray) (l : List TTok) (w : World) (o : Option (TTok × Bytes)) (e : Ending) (w' : World) : Prop := match o with
  | some (t, r) => e = .returned (.bool true) ∧ Below B w w' ∧ ∃ tv, Sc w' b text (text.size - r.length) tv ∧ TokRow B w' tv (l ++ [t])
  | none => e = .returned (.bool false) ∧ Below B w w' ∧ ∃ a tv, a ≤ text.size ∧ Sc w' b text a tv ∧ TokRow B w' tv l

set_option maxHeartbeats 4000000 in
set_option maxRecDepth 100000 in
theorem tag_any (B b : Nat) (text : ByteArray) (at_ : Nat) (tv : Value) (l : List TTok) (kind : Int) (hk : kind = 1 ∨ kind = 2) (w : World) (hg : Glob w) (hb10 : 10 ≤ B) (hBb : B ≤ b) (hsc : Sc w b text at_ tv) (hrow : TokRow B w tv l)
    (hll : l.length ≤ 1000000) (hat : at_ ≤ text.size) (h3 : text.size ≤ 1000000) :
    Calls Tryz.prog 79 #[.pointer (some ⟨b, 0, none⟩), .int .i64 kind] w fun e w' => TagPost B b text l w (tagM kind ((lst text).drop at_)) e w' := by
  have HS0 := Lib.hid hsc
  have HG := Lib.hid hg
  have HR := Lib.hid hrow
  have hbw := lt_of_block hsc
  clear hsc hg hrow
  have hAe : lst ⟨#[32, 9, 10, 12, 47, 62]⟩ = nameEnd := rfl
  have hUn := until_any b text ⟨#[32, 9, 10, 12, 47, 62]⟩ at_ tv w HS0.out hat (by omega) (okSet_of (by decide) (by decide) (by decide))
  rw [hAe] at hUn
  have hle2 : at_ + (brk nameEnd ((lst text).drop at_)).length ≤ text.size := by
    have := brk_le nameEnd ((lst text).drop at_)
    rw [List.length_drop, lst_length] at this; omega
  have hr2 : (lst text).drop (at_ + (brk nameEnd ((lst text).drop at_)).length) = brkR nameEnd ((lst text).drop at_) := by rw [← List.drop_drop, brk_drop]
  have hlr : ((lst text).drop at_).length = text.size - at_ := by rw [List.length_drop, lst_length]
  have hM : tagM kind ((lst text).drop at_) = tagOf kind (small (brk nameEnd ((lst text).drop at_))) (tagLoop (text.size - at_ + 1) (brkR nameEnd ((lst text).drop at_)) []) := by
    unfold tagM; rw [hlr]
  rw [hM, ← hr2]
  clear hM hlr hr2 hAe
  have hbz : (brk nameEnd ((lst text).drop at_)).length ≤ text.size := by omega
  generalize brk nameEnd ((lst text).drop at_) = nm at *
  generalize hRR : tagLoop (text.size - at_ + 1) ((lst text).drop (at_ + nm.length)) [] = R at *
  have HRR := Lib.hid hRR
  have HUn := Lib.hid hUn
  have hSm := fun W => small_any (mk nm) W (by rw [mk_size]; omega)
  rw [lst_mk] at hSm
  have HSm := Lib.hid hSm
  clear hRR hUn hSm
  go_enter Tryz.func79, Tryz.ntmps79
  go_wp2_with fail
  refine HUn.out.mono ?_
  rintro e w1 ⟨rfl, hs1, ho1⟩
  have HS1 := Lib.hid hs1
  have HO1 := Lib.hid ho1
  clear hs1 ho1
  go_wp2_with fail
  refine (HSm.out w1).mono ?_
  rintro e w2 ⟨rfl, hb2⟩
  have HS2 := Lib.hid (HS1.out.below hb2 (lt_of_block HS1.out))
  have HO2 := Lib.hid (Only.below HO1.out hb2)
  clear hb2 HS1 HO1
  go_wp2_with fail
  have hA1 := (Below.refl w2.heap.size w2).alloc (Nat.le_refl _) (.cells #[.int .i64 kind, .string (mk (small nm)), .slice none 0 0, .bool false, .string ⟨#[]⟩] 70)
  have HT3 := Lib.hid (show TokBlk (w2.alloc (.cells #[.int .i64 kind, .string (mk (small nm)), .slice none 0 0, .bool false, .string ⟨#[]⟩] 70)) w2.heap.size kind (mk (small nm)) (.slice none 0 0) false from heap_alloc_new w2 _)
  have HS3 := Lib.hid (HS2.out.below hA1 (lt_of_block HS2.out))
  have HO3 := Lib.hid (Only.below HO2.out hA1)
  have hN0 := HO2.out.size
  clear hA1 HS2 HO2
  obtain ⟨N, hN⟩ : ∃ N, N = w2.heap.size := ⟨_, rfl⟩
  generalize w2.alloc (.cells #[.int .i64 kind, .string (mk (small nm)), .slice none 0 0, .bool false, .string ⟨#[]⟩] 70) = w3 at *
  rw [← hN] at HT3 hN0 ⊢
  have hNb : N ≠ b := by omega
  have HNb := Lib.hid hNb
  clear hN hNb HUn HSm
  go_loopg [6, 7, 8] (text.size - at_ + 1) (fun g _ _ _ wx => ∃ (W : World) (a : Nat) (al : List TAttr) (va : Value), W = wx ∧ a ≤ text.size ∧ text.size - a < g ∧ al.length ≤ a ∧ Sc wx b text a tv ∧ Only b w wx ∧ TokBlk wx N kind (mk (small nm)) va false ∧ AttrRow w.heap.size wx va al ∧ va.ownBlock ≠ some N ∧ Hid (tagLoop g ((lst text).drop a) al = R))
  case atStart => exact ⟨_, at_ + nm.length, [], .slice none 0 0, rfl, hle2, by omega, by simp, HS3.out, HO3.out, HT3.out, AttrRow.nil _ _, by simp [Value.ownBlock], HRR.out⟩
  case round =>
    obtain ⟨wr, a, al, va, rfl, ha, hg, has, hs, ho, ht, har, hva, hh⟩ := hrel
    have HS := Lib.hid hs
    have HO := Lib.hid ho
    have HT := Lib.hid ht
    have HAR := Lib.hid har
    have HVA := Lib.hid hva
    obtain ⟨c0, c1, _, f1, _, hb4⟩ := hs.all
    clear hs ho ht har hva HRR HS3 HO3 HT3
    obtain ⟨n, rfl⟩ : ∃ n, gk = n + 1 := ⟨gk - 1, by omega⟩
    have hloop := hh.out
    rw [tagLoop_succ] at hloop
    have hSk := fun W h => skip_any b text ⟨#[32, 9, 10, 12, 47]⟩ a tv W h ha (by omega)
    rw [show lst ⟨#[32, 9, 10, 12, 47]⟩ = tagGap from rfl] at hSk
    have hle3 : a + (skd tagGap ((lst text).drop a)).length ≤ text.size := by
      have := skd_le tagGap ((lst text).drop a)
      rw [List.length_drop, lst_length] at this; omega
    have hr3 : (lst text).drop (a + (skd tagGap ((lst text).drop a)).length) = skp tagGap ((lst text).drop a) := by rw [← List.drop_drop, skd_drop]
    have hl3 : (skp tagGap ((lst text).drop a)).length = text.size - (a + (skd tagGap ((lst text).drop a)).length) := by rw [← hr3, List.length_drop, lst_length]
    have HSk := Lib.hid hSk
    clear hSk
    cases hr4 : skp tagGap ((lst text).drop a) with
    | nil =>
      rw [hr4] at hloop hl3
      have hend : (((a : Int) + ((skd tagGap ((lst text).drop a)).length : Int)) == (text.size : Int)) = true := by
        rw [beq_iff_eq]; simp only [List.length_nil] at hl3; omega
      have HL := Lib.hid hloop
      clear hloop hl3 hr3 hr4
      generalize (skd tagGap ((lst text).drop a)).length = k at *
      go_wp2_with fail
      refine (HSk.out wr HS.out).mono ?_
      rintro e w4 ⟨rfl, hs4, ho4⟩
      have HS4 := Lib.hid hs4
      have HO4 := Lib.hid (Only.trans HO.out ho4)
      clear hs4 ho4
      obtain ⟨d0, d1, _, _, _, _⟩ := HS4.out.all
      clear c0 c1 f1
      go_wp2_with fail
      go_quiet (fail)
      go_wp2_with fail
      go_ret
      rw [show R = none from HL.out.symm]
      exact ⟨rfl, (HO4.out.drewN _).below (fun k hk e => by omega) (by omega), a + k, tv, hle3, HS4.out.drewN _, HR.out.kept (RowsKept.of_only HS0.out (HO4.out.drewN _))⟩
    | cons c r4 =>
      rw [hr4] at hloop hl3 hr3
      simp only [List.length_cons] at hl3
      simp only at hloop
      have hNx := fun W h => next_any b text ⟨#[62]⟩ (a + (skd tagGap ((lst text).drop a)).length) tv W h hle3 (by omega)
      rw [show lst ⟨#[62]⟩ = [62] from rfl, hr3] at hNx
      have hlt1 : a + (skd tagGap ((lst text).drop a)).length < text.size := by omega
      have hend : (((a : Int) + ((skd tagGap ((lst text).drop a)).length : Int)) == (text.size : Int)) = false := by
        rw [beq_eq_false_iff_ne]; omega
      by_cases hc : c = 62
      · subst hc
        rw [if_pos rfl] at hloop
        rw [show hd [62] (62 :: r4) = true from rfl] at hNx
        have HNx := Lib.hid hNx
        have hlast : ((skd tagGap ((lst text).drop a)).getLast? == some 47) = (decide (0 < (skd tagGap ((lst text).drop a)).length) && ((lst text).getD (a + (skd tagGap ((lst text).drop a)).length - 1) 0 == 47)) := by
          have hd1 := skd_split tagGap ((lst text).drop a)
          generalize skd tagGap ((lst text).drop a) = sk at *
          rcases List.eq_nil_or_concat sk with rfl | ⟨sk', x, rfl⟩
          · rfl
          · have : (lst text).getD (a + (sk'.concat x).length - 1) 0 = x := by
              have h1 : ((lst text).drop a)[sk'.length]? = some x := by rw [← hd1]; simp
              rw [List.getElem?_drop] at h1
              simp [List.getD, h1]
            rw [this]
            simp
        rw [hlast] at hloop
        have HL := Lib.hid hloop
        have hl4 : r4.length = text.size - (a + (skd tagGap ((lst text).drop a)).length + 1) := by omega
        have HL4 := Lib.hid hl4
        clear hloop hl3 hr3 hr4 hNx hlast hl4
        generalize (skd tagGap ((lst text).drop a)).length = k at *
        go_wp2_with fail
        refine (HSk.out wr HS.out).mono ?_
        rintro e w4 ⟨rfl, hs4, ho4⟩
        have HS4 := Lib.hid hs4
        have HO4 := Lib.hid (Only.trans HO.out ho4)
        have HT4 := Lib.hid (HT.out.only ho4 HNb.out)
        have HAR4 := Lib.hid (ownsRow_kept HAR.out fun g c _ hg => RowsKept.of_only HS.out ho4 g c _ (.inr rfl) hg)
        clear hs4 ho4
        obtain ⟨d0, d1, _, _, _, _⟩ := HS4.out.all
        clear c0 c1 f1
        go_wp2_with fail
        go_quiet (fail)
        generalize hwq : w4.drewN _ = w5
        have HS5 := Lib.hid (show Sc w5 b text (a + k) tv by rw [← hwq]; exact HS4.out.drewN _)
        have HO5 := Lib.hid (show Only b w w5 by rw [← hwq]; exact HO4.out.drewN _)
        have HT5 := Lib.hid (show TokBlk w5 N kind (mk (small nm)) va false by rw [← hwq]; exact HT4.out.drewN _)
        have HAR5 := Lib.hid (show AttrRow w.heap.size w5 va al by rw [← hwq]; exact HAR4.out)
        clear hwq d0 d1 HS4 HO4 HT4 HAR4
        go_wp2_with fail
        refine (HNx.out w5 HS5.out).mono ?_
        rintro e w6 ⟨rfl, n6, rfl⟩
        generalize hw7 : w5.drewN n6 = w7
        have HS7 := Lib.hid (show Sc w7 b text (a + k) tv by rw [← hw7]; exact HS5.out.drewN _)
        have HO7 := Lib.hid (show Only b w w7 by rw [← hw7]; exact HO5.out.drewN _)
        have HT7 := Lib.hid (show TokBlk w7 N kind (mk (small nm)) va false by rw [← hw7]; exact HT5.out.drewN _)
        have HAR7 := Lib.hid (show AttrRow w.heap.size w7 va al by rw [← hw7]; exact HAR5.out)
        clear hw7 HS5 HO5 HT5 HAR5
        have hend2 := HT7.out.all
        obtain ⟨d0, d1, _, _, _, _⟩ := HS7.out.all
        obtain ⟨t0, t1, t2, t3, t4, tf2, tf3, hN4⟩ := HT7.out.all
        clear hend2 t0 t1 t2 t4 tf2
        go_upto_region 7 with fail
        go_cut [] (fun wx => Sc wx b text (a + k) tv ∧ Only b w wx ∧ TokBlk wx N kind (mk (small nm)) va (decide (0 < k) && ((lst text).getD (a + k - 1) 0 == 47)) ∧ AttrRow w.heap.size wx va al)
        case first =>
          by_cases hk0 : 0 < k
          · have hkI : (a : Int) < (a : Int) + (k : Int) := by omega
            have hix : (a + k - 1 : Nat) < text.size := by omega
            have hget : (lst text).getD (a + k - 1) 0 = text[a + k - 1]'hix := by simp [List.getD, lst_get text _ hix]
            obtain ⟨x, hx⟩ : ∃ x, text[a + k - 1]'hix = x := ⟨_, rfl⟩
            have HGET := Lib.hid (hget.trans hx)
            have i0 : (0 : Int) ≤ (a : Int) + k - 1 := by omega
            have i0' : (1 : Int) ≤ (a : Int) + k := by omega
            have i1 : (a : Int) + k - 1 < text.size := by omega
            have i2 : ((a : Int) + k - 1).toNat = a + k - 1 := by omega
            have hwr : IntKind.i64.wrap ((a : Int) + k - 1) = (a : Int) + k - 1 := IntWalk.i64_in _ (by omega)
            clear hget
            go_still_tail 19, (by kernel_rfl)
            change wpList _ _ _ _ _ w7.drew
            clear hwr i2 hx i0 i0' i1 hkI d0 d1
            go_wp2_with fail
            go_meet
            refine ⟨Sc.other (HS7.out.drewN 1) HNb.out _, Kept.setCell (S := fun k => k = b) (B := w.heap.size) (Kept.drewN HO7.out 1) (.inr hN0) _, ?_, attrRow_other (w := w7.drew) HAR7.out HVA.out _⟩
            have h := HT7.out.setS (decide (0 < k) && ((lst text).getD (a + k - 1) 0 == 47))
            rw [HGET.out, byteEq] at h ⊢
            rw [decide_eq_true hk0, Bool.true_and] at h ⊢
            exact h.drewN 1
          · have hk2 : decide (0 < k) = false := decide_eq_false (by omega)
            have HK2 := Lib.hid hk2
            obtain ⟨A, hA⟩ : ∃ A : Int, ((a + k : Nat) : Int) = A := ⟨_, rfl⟩
            have hk1 : A ≤ (a : Int) := by omega
            have HK1 := Lib.hid hk1
            rw [hA] at d1
            clear hk2 hA hk1
            refine wp_region_still_tail 19 (by kernel_rfl) (by kernel_rfl) ?_
            simp only [List.take_succ_cons, List.take_zero, List.drop_succ_cons, List.drop_zero]
            refine still_by _ _ (fun F skip val nil => ?_)
            refine val _ _ _ (.pointer (some ⟨b, 0, none⟩)) rfl (by go_simp) ?_
            simp only [Act.put, List.setIfInBounds_toArray, List.set_cons_succ, List.set_cons_zero]
            refine val _ _ _ (.pointer (some ⟨b, 0, none⟩)) rfl (by go_simp) ?_
            simp only [Act.put, List.setIfInBounds_toArray, List.set_cons_succ, List.set_cons_zero]
            refine val _ _ _ (.pointer (some ⟨b, 1, none⟩)) rfl (by go_simp) ?_
            simp only [Act.put, List.setIfInBounds_toArray, List.set_cons_succ, List.set_cons_zero]
            refine val _ _ _ (.int .i64 A) rfl (by go_simp) ?_
            simp only [Act.put, List.setIfInBounds_toArray, List.set_cons_succ, List.set_cons_zero]
            refine val _ _ _ (.int .i64 a) rfl (by go_simp) ?_
            simp only [Act.put, List.setIfInBounds_toArray, List.set_cons_succ, List.set_cons_zero]
            refine val _ _ _ (.bool (decide ((a : Int) < A))) rfl (by go_simp) ?_
            rw [show decide ((a : Int) < A) = false from decide_eq_false (by have := HK1.out; omega)]
            simp only [Act.put, List.setIfInBounds_toArray, List.set_cons_succ, List.set_cons_zero]
            refine val _ _ _ (.bool false) rfl (by go_simp) ?_
            simp only [Act.put, List.setIfInBounds_toArray, List.set_cons_succ, List.set_cons_zero]
            iterate 11 (refine skip _ _ _ (by rfl) ?_; simp only [Act.put, List.setIfInBounds_toArray, List.set_cons_succ, List.set_cons_zero])
            refine val _ _ _ (.bool false) rfl (by go_simp) ?_
            simp only [Act.put, List.setIfInBounds_toArray, List.set_cons_succ, List.set_cons_zero]
            refine nil _ ?_
            change wpList _ _ _ _ _ w7.drew
            clear d0 d1
            go_wp2_with fail
            go_meet
            refine ⟨Sc.other (HS7.out.drewN 1) HNb.out _, Kept.setCell (S := fun k => k = b) (B := w.heap.size) (Kept.drewN HO7.out 1) (.inr hN0) _, ?_, attrRow_other (w := w7.drew) HAR7.out HVA.out _⟩
            have h := (HT7.out.drewN 1).setS false
            rw [HK2.out, Bool.false_and]
            exact h
        case rest =>
          obtain ⟨hs8, ho8, ht8, ha8⟩ := hcut
          generalize (decide (0 < k) && ((lst text).getD (a + k - 1) 0 == 47)) = sf at *
          have HS8 := Lib.hid hs8
          have HO8 := Lib.hid ho8
          have HT8 := Lib.hid ht8
          have HAR8 := Lib.hid ha8
          clear hs8 ho8 ht8 ha8 d0 d1 t3 tf3
          obtain ⟨d0, d1, _, _, _, _⟩ := HS8.out.all
          go_wp2_with fail
          refine (pass_any b text (a + k) 1 tv _ HS8.out (by omega) (by omega) (by omega)).mono ?_
          rintro e w9 ⟨rfl, hs9, ho9⟩
          have HS9 := Lib.hid hs9
          have HO9 := Lib.hid (Only.trans HO8.out ho9)
          have HT9 := Lib.hid (HT8.out.only ho9 HNb.out)
          have HAR9 := Lib.hid (ownsRow_kept HAR8.out fun g c _ hg => RowsKept.of_only HS8.out ho9 g c _ (.inr rfl) hg)
          clear hs9 ho9 HS8 HO8 HT8 HAR8 d0 d1
          obtain ⟨t0, t1, t2, t3, t4, tf2, tf3, hN9⟩ := HT9.out.all
          go_upto_if 73 with (fail)
          go_cut [] (fun wx => ∃ va', Sc wx b text (a + k + (1 : Int).toNat) tv ∧ Only b w wx ∧ TokBlk wx N kind (mk (small nm)) va' (if kind = 2 then false else sf) ∧ AttrRow w.heap.size wx va' (if kind = 2 then [] else al))
          case first =>
            rcases hk with rfl | rfl
            · go_wp2_with fail
              go_meet
              exact ⟨va, HS9.out, HO9.out, HT9.out, HAR9.out⟩
            · go_wp2_with fail
              go_meet
              refine ⟨.slice none 0 0, ?_, ?_, ?_, AttrRow.nil _ _⟩
              · exact Sc.other (Sc.other HS9.out HNb.out _) HNb.out _
              · exact Kept.setCell (S := fun k => k = b) (B := w.heap.size) (Kept.setCell (S := fun k => k = b) (B := w.heap.size) HO9.out (.inr hN0) _) (.inr hN0) _
              · exact (HT9.out.setV _).setS _
          case rest =>
            obtain ⟨va2, hs10, ho10, ht10, ha10⟩ := hcut
            have HS10 := Lib.hid hs10
            have HO10 := Lib.hid ho10
            have HT10 := Lib.hid ht10
            have HAR10 := Lib.hid ha10
            clear hs10 ho10 ht10 ha10 t0 t1 t2 t3 t4 tf2 tf3 hN9 HS9 HO9 HT9 HAR9
            obtain ⟨d0, d1, d2, _, df2, hbz⟩ := HS10.out.all
            obtain ⟨t0, t1, t2, t3, t4, _, _, hN10⟩ := HT10.out.all
            obtain ⟨ps, hps, hown, hat⟩ := HR.out.kept (RowsKept.of_only HS0.out HO10.out)
            have hpl : ps.length = l.length := by rw [← hps, List.length_map]
            have HPS := Lib.hid hps
            have HPL := Lib.hid hpl
            have HAT := Lib.hid hat
            obtain ⟨i0, hi0, hz0, hz1, hz2⟩ := info_parts infoTok
            have hpz : ps.length ≤ 1000000 := by omega
            have hBz : B ≤ wc.heap.size := by omega
            clear hps hpl hat d0 d1
            generalize hsf : (if kind = 2 then false else sf) = sf2 at *
            have HSF := Lib.hid hsf
            clear hsf
            go_wp2_with fail
            have hbt : some b ≠ tv.ownBlock := by
              intro e
              rcases hown.2 with ⟨hv0, _⟩ | ⟨g0, cap0, cur0, hv0, _, hg0, _⟩
              · rw [hv0] at e; cases e
              · rw [hv0] at e
                injection e with e
                have h1 := HS10.out
                unfold Sc at h1
                have e' : b = g0 := e
                rw [e', hg0] at h1
                injection h1 with h1
                injection h1 with _ h2 _
                exact absurd h2 (by decide)
            have HBT := Lib.hid hbt
            clear hbt
            have h1c : ∀ u ∈ ([.int .i64 kind, .string (mk (small nm)), va2, .bool sf2, .string ⟨#[]⟩] : List Value), u.oneCell' = true := by
              obtain ⟨a0, cap0, hv0⟩ := ownsRow_slice HAR10.out
              intro u hu
              simp only [List.mem_cons, List.not_mem_nil, or_false] at hu
              rcases hu with rfl | rfl | rfl | rfl | rfl
              · rfl
              · rfl
              · rw [hv0]; rfl
              · rfl
              · rfl
            go_region_law (go_loud (refine step_append_lies _ (by rfl) _ _ _ (by rfl) B 70 i0 _ 5 72 Tryz.underlying37 hi0 hz0 hz1 hz2 rfl (by decide) tv ps.length (tokCells ps) (by rfl) ((hown.alloc _).drew) ⟨wc.heap.size, 0, none⟩ 1 1 [.int .i64 kind, .string (mk (small nm)), va2, .bool sf2, .string ⟨#[]⟩] (by rfl) (by rfl) (World.news_of_block (cs := #[.int .i64 kind, .string (mk (small nm)), va2, .bool sf2, .string ⟨#[]⟩]) (t := 70) (fr := (0, 0)) (heap_alloc_new wc _)) h1c (by omega) (by unfold maxLen; omega) (by omega) (by simp; omega) (wc.heap.size + 1) (by simp) ?_); intro g cap w11 hown1 hgrow hat1 hlt1; have hs11 : Sc w11 b text (a + k + (1 : Int).toNat) tv := sc_grown HS10.out hgrow HBT.out; have HS11 := Lib.hid hs11; have HOWN := Lib.hid hown1; have HGR := Lib.hid hgrow; obtain ⟨_, _, q2, _, q3, _⟩ := hs11.all; clear hs11 hown1 hgrow)
            all_goals
              go_wp2_with fail
              go_ret
              rw [show R = some (al, sf, r4) from HL.out.symm]
              obtain ⟨p1, p2, p3⟩ := push_tok (t := ⟨kind, small nm, if kind = 2 then [] else al, sf2, []⟩) HS10.out hBb HPS.out HAT.out (ownsRow_base HAR10.out (by omega)) hown HBT.out HGR.out HOWN.out
              have et : tagOf kind (small nm) (some (al, sf, r4)) = some (⟨kind, small nm, if kind = 2 then [] else al, sf2, []⟩, r4) := by
                rw [← show (if kind = 2 then false else sf) = sf2 from HSF.out]
                unfold tagOf
                by_cases h2 : kind = 2
                · simp [h2]
                · simp [h2]
              rw [et]
              exact ⟨rfl, Below.trans (Kept.below HO10.out (fun k hk e => by omega) (by omega)) p3, _, p1.at_eq (by have := HL4.out; simp; omega), p2⟩
      · rw [if_neg hc] at hloop
        have hhd : hd [62] (c :: r4) = false := by simpa [hd] using hc
        rw [hhd] at hNx
        have HNx := Lib.hid hNx
        have hAt := fun W h1 h2 => attr_any b text (a + (skd tagGap ((lst text).drop a)).length) tv W h1 (by omega) h2 hlt1 (by omega)
        rw [hr3] at hAt
        have HAt := Lib.hid hAt
        have hle5 := attrM_le2 c r4
        have hsf5 := attrM_suf c r4
        generalize hV : attrM (c :: r4) = V at *
        obtain ⟨at1, ok, r5⟩ := V
        simp only at hloop hle5 hsf5
        have hr5 : r5.length ≤ text.size - (a + (skd tagGap ((lst text).drop a)).length + 1) := by omega
        have hr5d : ok = true → (lst text).drop (text.size - r5.length) = r5 := fun _ => by
          rw [← lst_length]
          refine suf_drop (List.IsSuffix.trans hsf5 (List.IsSuffix.trans (List.suffix_cons c r4) ?_))
          rw [← hr3]; exact List.drop_suffix _ _
        have HR5 := Lib.hid hr5d
        clear hl3 hr3 hr4 hNx hAt hhd hV hr5d hsf5
        generalize (skd tagGap ((lst text).drop a)).length = k at *
        go_wp2_with fail
        refine (HSk.out wr HS.out).mono ?_
        rintro e w4 ⟨rfl, hs4, ho4⟩
        have HS4 := Lib.hid hs4
        have HO4 := Lib.hid (Only.trans HO.out ho4)
        have HT4 := Lib.hid (HT.out.only ho4 HNb.out)
        have HAR4 := Lib.hid (ownsRow_kept HAR.out fun g c _ hg => RowsKept.of_only HS.out ho4 g c _ (.inr rfl) hg)
        clear hs4 ho4
        obtain ⟨d0, d1, _, _, _, _⟩ := HS4.out.all
        clear c0 c1 f1
        go_wp2_with fail
        go_quiet (fail)
        generalize hwq : w4.drewN _ = w5
        have HS5 := Lib.hid (show Sc w5 b text (a + k) tv by rw [← hwq]; exact HS4.out.drewN _)
        have HO5 := Lib.hid (show Only b w w5 by rw [← hwq]; exact HO4.out.drewN _)
        have HT5 := Lib.hid (show TokBlk w5 N kind (mk (small nm)) va false by rw [← hwq]; exact HT4.out.drewN _)
        have HAR5 := Lib.hid (show AttrRow w.heap.size w5 va al by rw [← hwq]; exact HAR4.out)
        clear hwq d0 d1 HS4 HO4 HT4 HAR4
        go_wp2_with fail
        refine (HNx.out w5 HS5.out).mono ?_
        rintro e w6 ⟨rfl, n6, rfl⟩
        generalize hw7 : w5.drewN n6 = w7
        have HS7 := Lib.hid (show Sc w7 b text (a + k) tv by rw [← hw7]; exact HS5.out.drewN _)
        have HO7 := Lib.hid (show Only b w w7 by rw [← hw7]; exact HO5.out.drewN _)
        have HT7 := Lib.hid (show TokBlk w7 N kind (mk (small nm)) va false by rw [← hw7]; exact HT5.out.drewN _)
        have HAR7 := Lib.hid (show AttrRow w.heap.size w7 va al by rw [← hw7]; exact HAR5.out)
        clear hw7 HS5 HO5 HT5 HAR5
        go_wp2_with fail
        refine (HAt.out w7 (HG.out.kept HO7.out HG.out.size (by intro k hk e; omega)) HS7.out).mono ?_
        rintro e w8 ⟨rfl, hs8, ho8⟩
        have HS8 := Lib.hid hs8
        have HO8 := Lib.hid (Only.trans HO7.out ho8)
        have HT8 := Lib.hid (HT7.out.only ho8 HNb.out)
        have HAR8 := Lib.hid (ownsRow_kept HAR7.out fun g c _ hg => RowsKept.of_only HS7.out ho8 g c _ (.inr rfl) hg)
        clear hs8 ho8 HS7 HO7 HT7 HAR7
        simp only [AttrV]
        cases ok with
        | false =>
          rw [if_neg (by decide)] at hloop
          have HL := Lib.hid hloop
          clear hloop
          go_wp2_with fail
          go_ret
          rw [show R = none from HL.out.symm]
          have hA := (Below.refl w8.heap.size w8).alloc (Nat.le_refl _) (.cells #[.string (mk at1.name), .string (mk at1.value)] 85)
          exact ⟨rfl, Kept.below (Only.below HO8.out hA) (fun k hk e => by omega) (by omega), _, tv, (by omega : text.size - r5.length ≤ text.size), HS8.out.below hA (lt_of_block HS8.out), HR.out.kept (RowsKept.of_only HS0.out (Only.below HO8.out hA))⟩
        | true =>
          rw [if_pos rfl] at hloop
          have HL := Lib.hid hloop
          clear hloop
          obtain ⟨t0, t1, t2, t3, t4, tf2, tf3, hN8⟩ := HT8.out.all
          have hA := (Below.refl w8.heap.size w8).alloc (Nat.le_refl _) (.cells #[.string (mk at1.name), .string (mk at1.value)] 85)
          have HC9 := Lib.hid (show Cel (w8.alloc (.cells #[.string (mk at1.name), .string (mk at1.value)] 85)) w8.heap.size (mk at1.name) (mk at1.value) from heap_alloc_new w8 _)
          have HS9 := Lib.hid (HS8.out.below hA (lt_of_block HS8.out))
          have HO9 := Lib.hid (Only.below HO8.out hA)
          have HT9 := Lib.hid (HT8.out.only (Only.of_below (b := b) hA) HNb.out)
          have HAR9 := Lib.hid (ownsRow_below HAR8.out hA)
          have hz9 : w.heap.size ≤ w8.heap.size := HO8.out.size
          have hM1 : w8.heap.size < (w8.alloc (.cells #[.string (mk at1.name), .string (mk at1.value)] 85)).heap.size := by simp
          have hMb : b < w8.heap.size := lt_of_block HS8.out
          clear hA HS8 HO8 HT8 HAR8
          have HLe := HL
          go_wp2_with fail
          obtain ⟨M, hM⟩ : ∃ M, M = w8.heap.size := ⟨_, rfl⟩
          generalize w8.alloc (.cells #[.string (mk at1.name), .string (mk at1.value)] 85) = w9 at *
          rw [← hM] at HC9 hz9 hM1 hMb hN8 ⊢
          clear hM t0 t1 t2 t3 t4 tf2 tf3 HLe
          refine (containsFunc_attr 105 #[.pointer (some ⟨M, 0, none⟩)] (fun args w => enters_of Tryz.func105 (by kernel_rfl) rfl args w) (fun x => x.name == at1.name) w.heap.size va al (by omega) w9 HAR9.out (fun W x _ hb => tag1_any x M at1.name (mk at1.value) W (HC9.out.kept (Kept.of_below (S := fun _ => False) hb) hM1 (fun h => h)))).mono ?_
          rintro e w10 ⟨rfl, hb10'⟩
          have HC10 := Lib.hid (HC9.out.kept (Kept.of_below (S := fun _ => False) hb10') hM1 (fun h => h))
          have HS10 := Lib.hid (HS9.out.below hb10' (lt_of_block HS9.out))
          have HO10 := Lib.hid (Only.below HO9.out hb10')
          have HT10 := Lib.hid (HT9.out.only (Only.of_below (b := b) hb10') HNb.out)
          have HAR10 := Lib.hid (ownsRow_below HAR9.out hb10')
          clear hb10' HC9 HS9 HO9 HT9 HAR9
          cases hany : al.any (fun x => x.name == at1.name) with
          | true =>
            have hadd : addAttr al at1 = al := by unfold addAttr; rw [hany]; rfl
            rw [hadd] at HL
            clear hany hadd
            go_wp2_with fail
            go_roundg n
            case measure => omega
            case rel => exact ⟨_, text.size - r5.length, al, va, rfl, by omega, by omega, by omega, HS10.out, HO10.out, HT10.out, HAR10.out, HVA.out, (show tagLoop n ((lst text).drop (text.size - r5.length)) al = R by rw [HR5.out trivial]; exact HL.out)⟩
          | false =>
            have hadd : addAttr al at1 = al ++ [at1] := by unfold addAttr; rw [hany]; rfl
            rw [hadd] at HL
            clear hany hadd
            obtain ⟨t0, t1, t2, t3, t4, tf2, tf3, hN10⟩ := HT10.out.all
            obtain ⟨n0, n1, _, _, hM10⟩ := HC10.out.all
            clear t0 t1 t3 t4 tf3
            obtain ⟨i0, hi0, hz0, hz1, hz2⟩ := info_parts infoAttr
            have hown : w10.ownsRow w.heap.size 85 2 va al.length (attrCells al) := HAR10.out
            have hbz10 : w.heap.size ≤ w10.heap.size := HO10.out.size
            go_wp2_with (at_builtin; refine wpList_append_own _ rfl _ _ 42 rfl w.heap.size 85 i0 _ 2 32 Tryz.underlying42 hi0 hz0 hz1 hz2 rfl (by decide) va al.length (attrCells al) rfl (hown.alloc _) ⟨w10.heap.size, 0, none⟩ 1 1 [.string (mk at1.name), .string (mk at1.value)] rfl rfl ?c1 ?c2 ?c3 ?c4 ?c5 ?_)
            case c1 => exact World.news_of_block (cs := #[.string (mk at1.name), .string (mk at1.value)]) (t := 85) (fr := (0, 0)) (heap_alloc_new w10 _)
            case c2 => intro u hu; simp at hu; rcases hu with rfl | rfl <;> rfl
            case c3 => unfold maxLen; omega
            case c4 => omega
            case c5 => simp; omega
            intro v' w11 hown' hgrow hnil
            have HOWN := Lib.hid hown'
            have HGR := Lib.hid hgrow
            clear hown' hgrow hnil
            obtain ⟨va0, vcap0, rfl⟩ := ownsRow_slice HOWN.out
            obtain ⟨ht11, p1, p2, p3, p4, p5⟩ := add_attr (al2 := al ++ [at1]) HS10.out HO10.out HT10.out hN0 HNb.out HVA.out HAR10.out HGR.out (by
              have e : attrCells (al ++ [at1]) = attrCells al ++ [.string (mk at1.name), .string (mk at1.value)] := by simp [attrCells]
              rw [e, List.length_append]; exact HOWN.out)
            have P1 := Lib.hid p1
            have P2 := Lib.hid p2
            have P3 := Lib.hid p3
            have P4 := Lib.hid p4
            have P5 := Lib.hid p5
            obtain ⟨_, _, q2, _, _, q3, _, _⟩ := ht11.all
            clear p1 p2 p3 p4 p5 ht11 t2 tf2 n0 n1
            go_wp2_with fail
            go_roundg n
            case measure => omega
            case rel => exact ⟨_, text.size - r5.length, al ++ [at1], _, rfl, by omega, by omega, by simp; omega, P1.out, P2.out, P3.out, P4.out, P5.out, (show tagLoop n ((lst text).drop (text.size - r5.length)) (al ++ [at1]) = R by rw [HR5.out trivial]; exact HL.out)⟩

end Go.Proofs.YtjkgmdnkejjppaaGreatDoor
