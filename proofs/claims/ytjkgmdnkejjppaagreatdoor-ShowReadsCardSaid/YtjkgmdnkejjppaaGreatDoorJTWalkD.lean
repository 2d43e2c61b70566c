/- Walk of the tree's builder: start. -/
import Derived.Test.YtjkgmdnkejjppaaGreatDoorGi
namespace Go.Proofs.YtjkgmdnkejjppaaGreatDoor
open Go Go.RowKit

/-- The tables that the builder reads. -/
structure Tabs (w : World) : Prop where
  blocks : StrAt w 0 blocksM
  voids : StrAt w 1 voidsM
  size : 10 ≤ w.heap.size
theorem Tabs.below {B : Nat} {w w' : World} (h : Tabs w) (hb : Below B w w') (hB : 10 ≤ B) : Tabs w' :=
  ⟨fun i s hi => (hb.cell (p := ⟨0, i, none⟩) (by show 0 < B; omega)).trans (h.blocks i s hi),
   fun i s hi => (hb.cell (p := ⟨1, i, none⟩) (by show 1 < B; omega)).trans (h.voids i s hi), Nat.le_trans h.size hb.size⟩

/-- A token in a block. -/
def TokBox (w : World) (n : Nat) (t : TTok) (av : Value) : Prop := w.heap[n]? = some (.cells #[.int .i64 t.kind, .string (mk t.name), av, .bool t.self, .string (mk t.text)] 70 (0, 0))
theorem TokBox.cells {w : World} {n : Nat} {t : TTok} {av : Value} (h : TokBox w n t av) : w.cell? ⟨n, 0, none⟩ = some (.int .i64 t.kind) ∧ w.cell? ⟨n, 1, none⟩ = some (.string (mk t.name)) ∧ w.cell? ⟨n, 2, none⟩ = some av ∧ w.cell? ⟨n, 3, none⟩ = some (.bool t.self) ∧ w.cell? ⟨n, 4, none⟩ = some (.string (mk t.text)) ∧ n < w.heap.size :=
  ⟨by rw [Lib.cell_of_heap h]; rfl, by rw [Lib.cell_of_heap h]; rfl, by rw [Lib.cell_of_heap h]; rfl, by rw [Lib.cell_of_heap h]; rfl, by rw [Lib.cell_of_heap h]; rfl, lt_of_block h⟩

section
variable {B : Nat} {w w' : World} {bb root : Nat} {H : OMap} {pv : Nat → Value} {bs : List Nat} {sv : Value} {c : Nat} {m : Bytes}

/-- The builder's whole state. -/
def BInv (B : Nat) (bb root : Nat) (w : World) (st : BSt) : Prop := ∃ H pv bs sv, BW B w bb root H pv bs sv st.count st.mute ∧ Stk H none w.heap.size bs st.stack ∧ bs.getLast? = some root

theorem cutBs_len (i : Nat) (bs : List Nat) : (cutBs i bs).length ≤ bs.length := by
  unfold cutBs
  split
  · exact Nat.le_refl _
  · simp
theorem cutBs_last (i : Nat) (bs : List Nat) : (cutBs i bs).getLast? = bs.getLast? := by
  unfold cutBs
  split
  · rfl
  · rw [List.getLast?_drop]
    cases bs with
    | nil => simp
    | cons x l => rw [if_neg (by simp only [List.length_cons]; omega)]
theorem TokBox.keep {w w' : World} {n : Nat} {t : TTok} {av : Value} (h : TokBox w n t av) (e : w'.heap[n]? = w.heap[n]?) : TokBox w' n t av := e.trans h
/-- What the walk of start carries. -/
structure SWorld (B : Nat) (wo : World) (bb root : Nat) (tb : Nat) (t : TTok) (av : Value) (w : World) : Prop where
  of ::
  below : Below B wo w
  box : TokBox w tb t av
  attrs : AttrView w av t.attrs
  tabs : Tabs w
  size : B ≤ w.heap.size
theorem SWorld.set {B : Nat} {wo : World} {bb root tb : Nat} {t : TTok} {av : Value} {w : World} (h : SWorld B wo bb root tb t av w) (hB10 : 10 ≤ B) {x : Nat} (hx : B ≤ x) {cs : Array Value} {e : TypeId} (hxe : w.heap[x]? = some (.cells cs e (0, 0))) (he : e ≠ 70 ∧ e ≠ 85) (o : Nat) (u : Value) :
    SWorld B wo bb root tb t av (w.setCell ⟨x, o, none⟩ u) :=
  ⟨h.below.setCell (p := ⟨x, o, none⟩) hx u, h.box.keep (Below.heap_setCell _ _ _ _ (type_ne h.box hxe (fun e => he.1 e.symm))), h.attrs.stay fun _ _ hg => Below.heap_setCell _ _ _ _ (type_ne hg hxe (fun e => he.2 e.symm)),
   h.tabs.below ((Below.refl B w).setCell (p := ⟨x, o, none⟩) hx u) hB10, by show B ≤ (w.setCell _ _).heap.size; simp [World.setCell]; exact h.size⟩
theorem SWorld.but {B : Nat} {wo : World} {bb root tb : Nat} {t : TTok} {av : Value} {w w' : World} (h : SWorld B wo bb root tb t av w) (hB10 : 10 ≤ B) {x : Nat} {cs : Array Value} {e : TypeId} (hxe : w.heap[x]? = some (.cells cs e (0, 0))) (he : e ≠ 70 ∧ e ≠ 85)
    (hb : Below B w w') (hk : ∀ k, k ≠ x → w'.heap[k]? = w.heap[k]?) : SWorld B wo bb root tb t av w' :=
  ⟨h.below.trans hb, h.box.keep (hk _ (type_ne h.box hxe (fun e => he.1 e.symm))), h.attrs.stay fun _ _ hg => hk _ (type_ne hg hxe (fun e => he.2 e.symm)), h.tabs.below hb hB10, Nat.le_trans h.size hb.size⟩
theorem SWorld.older {B : Nat} {wo : World} {bb root tb : Nat} {t : TTok} {av : Value} {w w' : World} (h : SWorld B wo bb root tb t av w) (hB10 : 10 ≤ B) (hb : Below w.heap.size w w') : SWorld B wo bb root tb t av w' :=
  ⟨h.below.trans (hb.mono h.size), h.box.keep (hb.block tb (lt_of_block h.box)), h.attrs.older (.of_below hb), h.tabs.below (hb.mono h.size) hB10, Nat.le_trans h.size hb.size⟩
theorem below_drew (w : World) (n : Nat) : Below w.heap.size w (w.drewN n) := ⟨rfl, rfl, rfl, Nat.le_refl _, fun _ _ => rfl⟩
theorem findM_lt (n : Bytes) {H : OMap} {hi : Nat} {bs : List Nat} {fs : List Fr} (h : Stk H none hi bs fs) : findM n fs ≤ bs.length := by
  have := findM_le n fs
  rw [h.len]; omega
theorem Stk.pos {H : OMap} {o : Option Nat} {hi : Nat} {bs : List Nat} {fs : List Fr} (h : Stk H o hi bs fs) : 0 < bs.length := by cases h <;> simp
theorem Stk.closeF (n : Bytes) {H : OMap} {hi : Nat} {bs : List Nat} {fs : List Fr} (h : Stk H none hi bs fs) : Stk H none hi (cutBs (findM n fs) bs) (closeM (findM n fs) fs) := by
  have h1 := h.close (findM n fs) (by have := findM_le n fs; have := h.len; have := h.pos; omega)
  exact h1

theorem SWorld.grown {B : Nat} {wo : World} {bb root tb : Nat} {t : TTok} {av : Value} {w w' : World} (h : SWorld B wo bb root tb t av w) (hB10 : 10 ≤ B) {v : Value} {n : Nat} {xs : List Value} (hown : w.ownsRow B 62 1 v n xs) (hg : w.grownBy w' v.ownBlock) : SWorld B wo bb root tb t av w' := by
  have hne : ∀ (x : Nat) (cs : Array Value) (e : TypeId), w.heap[x]? = some (.cells cs e (0, 0)) → e ≠ 62 → w'.heap[x]? = w.heap[x]? := fun x cs e hx he => hg.block x (lt_of_block hx) (fun e' => by
    obtain ⟨_, h1, _⟩ := own_type hown e'.symm
    exact type_ne hx h1 he rfl)
  have hbl := grown_row hown hg h.size
  exact ⟨h.below.trans hbl, h.box.keep (hne _ _ _ h.box (by decide)), h.attrs.stay fun g cs hgc => hne g cs _ hgc (by decide), h.tabs.below hbl hB10, Nat.le_trans h.size hg.size⟩
theorem SWorld.kid {B : Nat} {wo : World} {bb root tb : Nat} {t : TTok} {av : Value} {w w' : World} {H : OMap} {pv : Nat → Value} {bs : List Nat} {sv : Value} {c : Nat} {m : Bytes} (h : SWorld B wo bb root tb t av w) (hB10 : 10 ≤ B) (hb : BW B w bb root H pv bs sv c m) {b k : Nat} {r : ORec} {v : Value}
    (hr : H b = some r) (hpv : pv b = v) (hgr : (w.alloc (.cells #[ptr k] 62 (0, 0))).grownBy w' v.ownBlock) (u : Value) : SWorld B wo bb root tb t av (w'.setCell ⟨b, 1, none⟩ u) := by
  subst hpv
  have hbl : Below w.heap.size w (w.alloc (.cells #[ptr k] 62 (0, 0))) := (Below.refl w.heap.size w).alloc (Nat.le_refl _) _
  have hb2 := hb.older (Older.of_below hbl)
  have hrec := hb2.recs b r hr
  refine ((h.older hB10 hbl).grown hB10 hrec.own hgr).set hB10 hrec.ge ((hgr.block b (hb2.lt hr) (fun e' => ?_)).trans hrec.blk) ⟨by decide, by decide⟩ _ _
  obtain ⟨_, h1, _⟩ := own_type hrec.own e'.symm
  exact type_ne hrec.blk h1 (by decide) rfl
/-- The push of an open one. -/
theorem BW.stack_step {B : Nat} {w w' : World} {bb root : Nat} {H : OMap} {pv : Nat → Value} {bs : List Nat} {sv : Value} {c : Nat} {m : Bytes} {k g cap : Nat} {RL : List Nat} (h : BW B w bb root H pv bs sv c m) (hRL : RL = bs.reverse)
    (hgr : (w.alloc (.cells #[ptr k] 62 (0, 0))).grownBy w' sv.ownBlock) (hown : w'.ownsRow B 62 1 (.slice (some ⟨g, 0, none⟩) (RL.length + 1) cap) (RL.length + 1) (ptrs (RL ++ [k])))
    (hg : sv.ownBlock = some g ∨ (w.alloc (.cells #[ptr k] 62 (0, 0))).heap.size ≤ g) :
    w'.cell? ⟨bb, 1, none⟩ = some sv ∧ w'.frozen? ⟨bb, 1, none⟩ = false ∧
    BW B (w'.setCell ⟨bb, 1, none⟩ (.slice (some ⟨g, 0, none⟩) (RL.length + 1) cap)) bb root H pv (k :: bs) (.slice (some ⟨g, 0, none⟩) (RL.length + 1) cap) c m ∧ w.heap.size < w'.heap.size := by
  have h2 := h.older (Older.of_below ((Below.refl w.heap.size w).alloc (Nat.le_refl _) (.cells #[ptr k] 62 (0, 0))))
  have hb' := hgr.block bb (lt_of_block h2.blk) (fun e' => by
    obtain ⟨_, h1, _⟩ := own_type h2.own e'.symm
    exact type_ne h2.blk h1 (by decide) rfl)
  have hb2 := hb'.trans h2.blk
  refine ⟨by rw [Lib.cell_of_heap hb2]; rfl, Lib.frozen_of_heap hb2 1, ?_, by have := hgr.size; simp at this; omega⟩
  refine h2.builder (fun x hx hxb hxr => ?_) (setCell_parts hb2 _) ?_ (fun g' hg' => by cases hg'; exact hg)
  · rw [Below.heap_setCell _ _ _ _ hxb]
    exact hgr.block x hx (fun e => hxr e.symm)
  · have hl : (k :: bs).length = RL.length + 1 := by rw [hRL]; simp
    rw [hl, List.reverse_cons, ← hRL]
    refine ownsRow_kept hown fun g' cs _ hg' => ?_
    rw [Below.heap_setCell _ _ _ _ (type_ne hg' hb2 (by decide))]
    exact hg'

/-- A new element was laid: its node, its object. -/
def NewOpen (w : World) (t : TTok) (v : Value) (wx : World) : Prop := ∃ nb k, v = ptr k ∧ NodeAt0 wx nb t.name t.attrs ∧
  wx.heap[k]? = some (.cells #[ptr nb, .slice none 0 0, .string ⟨#[]⟩, .bool true] 66 (0, 0)) ∧ w.heap.size ≤ k ∧ Below w.heap.size w wx

set_option maxHeartbeats 4000000 in
set_option maxRecDepth 100000 in
theorem start_any {fs : List Fr} (t : TTok) (av : Value) (h : BW B w bb root H pv bs sv c m) (hs : Stk H none w.heap.size bs fs) (hrt : bs.getLast? = some root) (hl : bs.length ≤ 1000000) (hc : c ≤ 1000000) (hav : AttrView w av t.attrs) (hal : t.attrs.length ≤ 1000000)
    (hn : t.name ≠ []) (htab : Tabs w) (hB10 : 10 ≤ B) (hB : B ≤ w.heap.size) (hdl : ∀ f ∈ startB (startA ⟨fs, c, m⟩ t) t, f.done.length ≤ 1000000) :
    Calls Tryz.prog 26 #[ptr bb, .agg #[.int .i64 t.kind, .string (mk t.name), av, .bool t.self, .string (mk t.text)]] w fun e w' => e = .returned (.tuple #[]) ∧ BInv B bb root w' (startM ⟨fs, c, m⟩ t) ∧ Below B w w' := by
  have HB0 := Lib.hid h
  have HS0 := Lib.hid hs
  have HAV0 := Lib.hid hav
  have HN := Lib.hid hn
  have HT0 := Lib.hid htab
  have HKL := Lib.hid hdl
  have HRT := Lib.hid hrt
  obtain ⟨⟨aa, ca, hform⟩, -⟩ := hav
  subst hform
  clear h hs hn htab hdl hrt
  unfold ptr
  go_enter Tryz.func26, Tryz.ntmps26
  go_upto_region 1 with fail
  obtain ⟨w1, hw1⟩ : ∃ w1, w1 = w.alloc (.cells #[.int .i64 t.kind, .string (mk t.name), .slice aa t.attrs.length ca, .bool t.self, .string (mk t.text)] 70) := ⟨_, rfl⟩
  rw [← hw1]
  have hO1 : Below w.heap.size w w1 := by rw [hw1]; exact (Below.refl _ _).alloc (Nat.le_refl _) _
  have HW1 := Lib.hid (show SWorld B w bb root w.heap.size t (.slice aa t.attrs.length ca) w1 from
    ⟨hO1.mono hB, by rw [hw1]; exact heap_alloc_new _ _, HAV0.out.older (.of_below hO1), HT0.out.below (hO1.mono hB) hB10, Nat.le_trans hB hO1.size⟩)
  have HB1 := Lib.hid (HB0.out.older (.of_below hO1))
  have HS1 := Lib.hid (HS0.out.mono hO1.size)
  clear hw1 hO1 HB0 HS0 HAV0 HT0
  generalize htb : w.heap.size = tb at *
  have HTBB := Lib.hid (show B ≤ tb by omega)
  clear htb
  obtain ⟨-, -, -, e3, ef, -⟩ := HB1.out.cells
  have ef3 := ef 3
  clear ef hB
  go_upto_region 2 with fail
  obtain ⟨w2, hw2⟩ : ∃ w2, w2 = w1.setCell ⟨bb, 3, none⟩ (.string ⟨#[]⟩) := ⟨_, rfl⟩
  rw [← hw2]
  have HB2 := Lib.hid (show BW B w2 bb root H pv bs sv c [] by rw [hw2]; exact HB1.out.set3 [])
  have HW2 := Lib.hid (show SWorld B w bb root tb t (.slice aa t.attrs.length ca) w2 by rw [hw2]; exact HW1.out.set hB10 HB1.out.ge HB1.out.blk ⟨by decide, by decide⟩ _ _)
  have HS2 := Lib.hid (show Stk H none w2.heap.size bs fs by rw [hw2]; simp only [World.setCell, Array.size_modify]; exact HS1.out)
  clear hw2 e3 ef3 HB1 HS1 HW1
  obtain ⟨-, t1, -, -, -, tz⟩ := HW2.out.box.cells
  have hcb : ∀ k, Calls Tryz.prog 46 #[.slice (some ⟨0, 0, none⟩) 9 9, .string (mk t.name)] (w2.drewN k) fun e w' => e = .returned (.bool (blocksM.contains t.name)) ∧ w2.drewN k = w' :=
    fun k => strContains_any 0 9 blocksM t.name (by decide) (w2.drewN k) HW2.out.tabs.blocks
  have HCB := Lib.hid hcb
  clear hcb
  go_quiet ((go_at_call 46; exact qs' (HCB.out _)))
  clear t1 tz
  obtain ⟨w3, hw3⟩ : ∃ w3, w3 = w2.drewN nq := ⟨_, rfl⟩
  rw [← hw3]
  have HB3 := Lib.hid (show BW B w3 bb root H pv bs sv c [] by rw [hw3]; exact HB2.out.older (.of_below (below_drew _ _)))
  have HW3 := Lib.hid (show SWorld B w bb root tb t (.slice aa t.attrs.length ca) w3 by rw [hw3]; exact HW2.out.older hB10 (below_drew _ _))
  have HS3 := Lib.hid (show Stk H none w3.heap.size bs fs by rw [hw3]; exact HS2.out)
  clear hw3 HB2 HW2 HS2 HCB
  go_upto_if 13 with (fail)
  go_cut [] (fun wx => ∃ bs' sv', BW B wx bb root H pv bs' sv' c [] ∧ Stk H none wx.heap.size bs' (startA ⟨fs, c, m⟩ t) ∧ SWorld B w bb root tb t (.slice aa t.attrs.length ca) wx ∧ bs'.length ≤ 1000000 ∧ Hid (bs'.getLast? = some root))
  case first =>
    have HF := Lib.hid (find_any nP HB3.out HS3.out hl)
    have HCL := Lib.hid (closeAt_any HB3.out (findM_lt nP HS3.out) HS3.out.pos)
    cases hbk : blocksM.contains t.name with
    | true =>
      have HA := Lib.hid (show startA ⟨fs, c, m⟩ t = closeM (findM nP fs) fs by unfold startA; rw [if_pos hbk])
      clear hbk
      unfold ptr at HF HCL
      go_wp2_with fail
      refine HF.out.mono ?_
      rintro e w' ⟨rfl, hw⟩
      rw [← hw]
      clear hw
      go_wp2_with fail
      refine HCL.out.mono ?_
      rintro e w4 ⟨rfl, sv', hb4, hbl4, hz4, hk4⟩
      have HB4 := Lib.hid hb4
      have HW4 := Lib.hid (HW3.out.but hB10 HB3.out.blk ⟨by decide, by decide⟩ hbl4 hk4)
      have HS4 := Lib.hid (show Stk H none w4.heap.size (cutBs (findM nP fs) bs) (closeM (findM nP fs) fs) by rw [hz4]; exact HS3.out.closeF nP)
      clear hb4 hbl4 hz4 hk4
      go_wp2_with fail
      go_meet
      exact ⟨_, sv', HB4.out, by rw [HA.out]; exact HS4.out, HW4.out, Nat.le_trans (cutBs_len _ _) hl, Lib.hid ((cutBs_last _ _).trans HRT.out)⟩
    | false =>
      have HA := Lib.hid (show startA ⟨fs, c, m⟩ t = fs by unfold startA; rw [if_neg (by rw [hbk]; decide)])
      clear hbk
      go_wp2_with fail
      go_meet
      exact ⟨bs, sv, HB3.out, by rw [HA.out]; exact HS3.out, HW3.out, hl, HRT⟩
  case rest =>
    obtain ⟨bs2, sv2, hb, hst, hw, hl2, HRT2⟩ := hcut
    have HB5 := Lib.hid hb
    have HS5 := Lib.hid hst
    have HW5 := Lib.hid hw
    clear hb hst hw HB3 HS3 HW3 hl
    obtain ⟨SA, hSA⟩ : ∃ SA, SA = startA ⟨fs, c, m⟩ t := ⟨_, rfl⟩
    rw [← hSA] at HS5
    have HSA := Lib.hid hSA
    clear hSA
    have HF1 := Lib.hid (find_any nLi HB5.out HS5.out hl2)
    have HF2 := Lib.hid (find_any nUl HB5.out HS5.out hl2)
    have HF3 := Lib.hid (find_any nOl HB5.out HS5.out hl2)
    have HCL := Lib.hid (closeAt_any HB5.out (findM_lt nLi HS5.out) HS5.out.pos)
    have q1 := findM_lt nLi HS5.out
    have q2 := findM_lt nUl HS5.out
    have q3 := findM_lt nOl HS5.out
    unfold ptr at HF1 HF2 HF3 HCL
    have hBI : startB SA t = if t.name = nLi ∧ findM nUl SA < findM nLi SA ∧ findM nOl SA < findM nLi SA then closeM (findM nLi SA) SA else SA := rfl
    have HBI := Lib.hid hBI
    have HSC := Lib.hid (HS5.out.closeF nLi)
    clear hBI
    generalize findM nLi SA = fL at *
    generalize findM nUl SA = fU at *
    generalize findM nOl SA = fO at *
    go_wp2_with fail
    refine HF1.out.mono ?_
    rintro e w' ⟨rfl, hw⟩
    rw [← hw]
    clear hw
    go_upto_region 5 with fail
    obtain ⟨-, t1, -, -, -, -⟩ := HW5.out.box.cells
    go_cut [34] (fun v wx => v = .bool (decide (t.name = nLi ∧ fU < fL ∧ fO < fL)) ∧ wx = wc)
    case first =>
      by_cases hli : t.name = nLi
      · have s1 := sBeqT hli
        have s2 := sEqT hli
        unfold nLi at s1 s2
        have HLI := Lib.hid hli
        clear hli
        by_cases hu : fU < fL
        · have u1 : (fU : Int) < fL := by omega
          have HD := Lib.hid (show decide (t.name = nLi ∧ fU < fL ∧ fO < fL) = decide (fO < fL) by simp [HLI.out, hu])
          clear hu
          by_cases ho : fO < fL
          · have o1 : (fO : Int) < fL := by omega
            have HD2 := Lib.hid (show decide (fO < fL) = true by simp [ho])
            clear ho
            go_wp2_with fail
            refine HF2.out.mono ?_
            rintro e w' ⟨rfl, hw⟩
            rw [← hw]
            clear hw
            go_wp2_with fail
            refine HF3.out.mono ?_
            rintro e w' ⟨rfl, hw⟩
            rw [← hw]
            clear hw
            go_wp2_with fail
            go_meet
            exact ⟨by rw [HD.out, HD2.out], rfl⟩
          · have o1 : ¬ (fO : Int) < fL := by omega
            have HD2 := Lib.hid (show decide (fO < fL) = false by simp; omega)
            clear ho
            go_wp2_with fail
            refine HF2.out.mono ?_
            rintro e w' ⟨rfl, hw⟩
            rw [← hw]
            clear hw
            go_wp2_with fail
            refine HF3.out.mono ?_
            rintro e w' ⟨rfl, hw⟩
            rw [← hw]
            clear hw
            go_wp2_with fail
            go_meet
            exact ⟨by rw [HD.out, HD2.out], rfl⟩
        · have u1 : ¬ (fU : Int) < fL := by omega
          have HD := Lib.hid (show decide (t.name = nLi ∧ fU < fL ∧ fO < fL) = false by simp; omega)
          clear hu
          go_wp2_with fail
          refine HF2.out.mono ?_
          rintro e w' ⟨rfl, hw⟩
          rw [← hw]
          clear hw
          go_wp2_with fail
          go_meet
          exact ⟨by rw [HD.out], rfl⟩
      · have s1 := sBeqF hli
        have s2 := sEqF hli
        unfold nLi at s1 s2
        have HD := Lib.hid (show decide (t.name = nLi ∧ fU < fL ∧ fO < fL) = false by simp [hli])
        clear hli
        go_wp2_with fail
        go_meet
        exact ⟨by rw [HD.out], rfl⟩
    case rest =>
      obtain ⟨rfl, hwc⟩ := hcut
      subst hwc
      clear t1
      go_upto_if 34 with (fail)
      go_cut [] (fun wx => ∃ bs' sv', BW B wx bb root H pv bs' sv' c [] ∧ Stk H none wx.heap.size bs' (startB SA t) ∧ SWorld B w bb root tb t (.slice aa t.attrs.length ca) wx ∧ bs'.length ≤ 1000000 ∧ Hid (bs'.getLast? = some root))
      case first =>
        by_cases hd : t.name = nLi ∧ fU < fL ∧ fO < fL
        · have HE := Lib.hid (show startB SA t = closeM fL SA by rw [HBI.out, if_pos hd])
          have hdd : decide (t.name = nLi ∧ fU < fL ∧ fO < fL) = true := decide_eq_true hd
          rw [hdd]
          clear hd hdd
          go_wp2_with fail
          refine HCL.out.mono ?_
          rintro e w6 ⟨rfl, sv', hb6, hbl6, hz6, hk6⟩
          have HB6 := Lib.hid hb6
          have HW6 := Lib.hid (HW5.out.but hB10 HB5.out.blk ⟨by decide, by decide⟩ hbl6 hk6)
          have HS6 := Lib.hid (show Stk H none w6.heap.size (cutBs fL bs2) (closeM fL SA) by rw [hz6]; exact HSC.out)
          clear hb6 hbl6 hz6 hk6
          go_wp2_with fail
          go_meet
          exact ⟨_, sv', HB6.out, by rw [HE.out]; exact HS6.out, HW6.out, Nat.le_trans (cutBs_len _ _) hl2, Lib.hid ((cutBs_last _ _).trans HRT2.out)⟩
        · have HE := Lib.hid (show startB SA t = SA by rw [HBI.out, if_neg hd])
          have hdd : decide (t.name = nLi ∧ fU < fL ∧ fO < fL) = false := decide_eq_false hd
          rw [hdd]
          clear hd hdd
          go_wp2_with fail
          go_meet
          exact ⟨bs2, sv2, HB5.out, by rw [HE.out]; exact HS5.out, HW5.out, hl2, HRT2⟩
      case rest =>
        obtain ⟨bs3, sv3, hb, hst, hw, hl3, HRT3⟩ := hcut
        have HB7 := Lib.hid hb
        have HW7 := Lib.hid hw
        have HFIN := Lib.hid (show startM ⟨fs, c, m⟩ t = startC (startB SA t) c t by rw [HSA.out]; rfl)
        have HDL := Lib.hid (show ∀ f ∈ startB SA t, f.done.length ≤ 1000000 by rw [HSA.out]; exact HKL.out)
        generalize startB SA t = SB at *
        have HS7 := Lib.hid hst
        have HLEN := Lib.hid hst.len
        clear hb hst hw HB5 HS5 HW5 hl2 HF1 HF2 HF3 HCL q1 q2 q3 HSC HBI HSA
        obtain ⟨-, e1, e2, e3, ef, -⟩ := HB7.out.cells
        obtain ⟨a3, cap3, hform⟩ := ownsRow_slice HB7.out.own
        subst hform
        obtain ⟨-, t1, t2, t3, -, -⟩ := HW7.out.box.cells
        have ef3 := ef 3
        by_cases h10 : 10 < bs3.length
        · have z1 : (10 : Int) < bs3.length := by omega
          have HC1 := Lib.hid (show startC SB c t = ⟨SB, c, muteOf t⟩ by unfold startC; rw [if_pos (by rw [← HLEN.out]; exact h10)])
          have hmu : muteOf t = if t.self = false ∧ (t.name = sScript ∨ t.name = sStyle) then t.name else [] := rfl
          have HMU := Lib.hid hmu
          clear h10 e2 t2 ef hmu
          cases hsf : t.self with
          | true =>
            rw [hsf] at t3 HMU
            have HM2 := Lib.hid (show muteOf t = [] by rw [HMU.out, if_neg (fun h => by cases h.1)])
            go_wp2_with fail
            refine bodyPost_ret (v := .tuple #[]) (by simp [results, Tryz.results26, go_sem]) rfl ?_
            exact ⟨rfl, by rw [HFIN.out, HC1.out, HM2.out]; exact ⟨H, pv, bs3, _, HB7.out, HS7.out, HRT3.out⟩, HW7.out.below⟩
          | false =>
            rw [hsf] at t3 HMU
            have hset := HB7.out.set3 t.name
            have hsz : (wc.setCell ⟨bb, 3, none⟩ (.string (mk t.name))).heap.size = wc.heap.size := by simp [World.setCell]
            have hpost : BInv B bb root (wc.setCell ⟨bb, 3, none⟩ (.string (mk t.name))) ⟨SB, c, t.name⟩ := ⟨H, pv, bs3, _, hset, by rw [hsz]; exact HS7.out, HRT3.out⟩
            have HPOST := Lib.hid hpost
            have HBEL := Lib.hid (HW7.out.below.setCell (p := ⟨bb, 3, none⟩) HB7.out.ge (.string (mk t.name)))
            clear hset hsz hpost
            by_cases hn1 : t.name = sScript
            · have s1 := sBeqT hn1
              have s2 := sEqT hn1
              unfold sScript at s1 s2
              have HM2 := Lib.hid (show muteOf t = t.name by rw [HMU.out, if_pos ⟨rfl, .inl hn1⟩])
              have HNN := Lib.hid hn1
              clear hn1
              go_wp2_with fail
              refine bodyPost_ret (v := .tuple #[]) (by simp [results, Tryz.results26, go_sem]) rfl ?_
              refine ⟨rfl, ?_, ?_⟩
              · rw [HFIN.out, HC1.out, HM2.out]; exact HPOST.out
              · exact HBEL.out
            · have a1 := sBeqF hn1
              have a2 := sEqF hn1
              unfold sScript at a1 a2
              by_cases hn2 : t.name = sStyle
              · have s1 := sBeqT hn2
                have s2 := sEqT hn2
                unfold sStyle at s1 s2
                have HM2 := Lib.hid (show muteOf t = t.name by rw [HMU.out, if_pos ⟨rfl, .inr hn2⟩])
                clear hn1 hn2
                go_wp2_with fail
                refine bodyPost_ret (v := .tuple #[]) (by simp [results, Tryz.results26, go_sem]) rfl ?_
                refine ⟨rfl, ?_, ?_⟩
                · rw [HFIN.out, HC1.out, HM2.out]; exact HPOST.out
                · exact HBEL.out
              · have s1 := sBeqF hn2
                have s2 := sEqF hn2
                unfold sStyle at s1 s2
                have HM2 := Lib.hid (show muteOf t = [] by rw [HMU.out, if_neg (fun h => h.2.elim hn1 hn2)])
                clear hn1 hn2
                go_wp2_with fail
                refine bodyPost_ret (v := .tuple #[]) (by simp [results, Tryz.results26, go_sem]) rfl ?_
                exact ⟨rfl, by rw [HFIN.out, HC1.out, HM2.out]; exact ⟨H, pv, bs3, _, HB7.out, HS7.out, HRT3.out⟩, HW7.out.below⟩
        · have z1 : ¬ (10 : Int) < bs3.length := by omega
          have HLE := Lib.hid h10
          have HCLN := Lib.hid (fun W h => clone_any (.slice aa t.attrs.length ca) t.attrs W h hal)
          clear h10 e3 ef3
          go_upto_region 10 with fail
          go_cut [5] (fun v wx => NewOpen wc t v wx)
          case first =>
            clear e1 e2 t3 ef
            go_region_law ((refine step_at 53 (by rfl) ?_; go_simp; go_loud (refine (HCLN.out wc.drew HW7.out.attrs).mono ?_; rintro e w8 ⟨v8, rfl, hv8, hb8⟩; obtain ⟨⟨a8, c8, hf8⟩, hr8⟩ := hv8; subst hf8; have HV8 := Lib.hid (show AttrView w8 (.slice a8 t.attrs.length c8) t.attrs from ⟨⟨_, _, rfl⟩, hr8⟩); have HB8 := Lib.hid hb8; have y1 : w8.cell? ⟨tb, 1, none⟩ = some (.string (mk t.name)) := ((Older.of_below hb8).cell tb 1 (lt_of_block HW7.out.box)).trans t1; clear hr8 hb8)))
            all_goals
              go_wp2_with fail
              go_meet
              have h1 : Below w8.heap.size w8 (w8.alloc (.cells #[.string (mk t.name), .slice a8 t.attrs.length c8, .string ⟨#[]⟩, .slice none 0 0] 44)) := (Below.refl _ _).alloc (Nat.le_refl _) _
              have h2 : Below (w8.heap.size + 1) (w8.alloc (.cells #[.string (mk t.name), .slice a8 t.attrs.length c8, .string ⟨#[]⟩, .slice none 0 0] 44)) ((w8.alloc (.cells #[.string (mk t.name), .slice a8 t.attrs.length c8, .string ⟨#[]⟩, .slice none 0 0] 44)).alloc (.cells #[.pointer (some ⟨w8.heap.size, 0, none⟩), .slice none 0 0, .string ⟨#[]⟩, .bool true] 66)) := (Below.refl _ _).alloc (by simp) _
              have hz8 := HB8.out.size
              refine ⟨w8.heap.size, w8.heap.size + 1, rfl, ⟨_, (h2.block w8.heap.size (by omega)).trans (heap_alloc_new w8 _), (HV8.out.older (.of_below h1)).older (.of_below (by simpa using h2))⟩, ?_, by simp at hz8; omega, ?_⟩
              · have h3 := heap_alloc_new (w8.alloc (.cells #[.string (mk t.name), .slice a8 t.attrs.length c8, .string ⟨#[]⟩, .slice none 0 0] 44)) (.cells #[.pointer (some ⟨w8.heap.size, 0, none⟩), .slice none 0 0, .string ⟨#[]⟩, .bool true] 66)
                rw [show (w8.alloc (.cells #[.string (mk t.name), .slice a8 t.attrs.length c8, .string ⟨#[]⟩, .slice none 0 0] 44)).heap.size = w8.heap.size + 1 by simp] at h3
                exact h3
              · exact (show Below wc.heap.size wc w8 from ⟨HB8.out.os, HB8.out.tape, HB8.out.output, HB8.out.size, HB8.out.block⟩).trans ((h1.mono hz8).trans (h2.mono (by have : wc.drew.heap.size = wc.heap.size := rfl; omega)))
          case rest =>
            rename World => w9
            obtain ⟨nb, k, rfl, hnode, hobj, hkz, hbl⟩ := hcut
            have hkw := lt_of_block hobj
            have hb9 := HB7.out.add (r := ⟨some nb, t.name, t.attrs, [], []⟩) (v := .slice none 0 0) (Older.of_below hbl) hkz ⟨hobj, World.ownsRow_nil _ _ _ _, fun nb' hn => (by cases hn; exact hnode), Nat.le_trans HW7.out.size hkz⟩ (fun g hg => by cases hg)
            obtain ⟨pv9, hpv9⟩ : ∃ pv9 : Nat → Value, pv9 = fun x => if x = k then .slice none 0 0 else pv x := ⟨_, rfl⟩
            rw [← hpv9] at hb9
            have HW9 := Lib.hid (HW7.out.older hB10 hbl)
            obtain ⟨b3, bs4, f3, fs4, rfl, rfl⟩ : ∃ b3 bs4 f3 fs4, bs3 = b3 :: bs4 ∧ SB = f3 :: fs4 := by
              cases HS7.out with
              | root b f => exact ⟨_, _, _, _, rfl, rfl⟩
              | cons b nb f => exact ⟨_, _, _, _, rfl, rfl⟩
            obtain ⟨nb3, ks, hr3, hk3, hb3, -, -⟩ := HS7.out.top
            have HR3 := Lib.hid hr3
            have HK3 := Lib.hid hk3
            have hbk : b3 ≠ k := by omega
            have hr9 : (H.put k ⟨some nb, t.name, t.attrs, [], []⟩) b3 = some ⟨nb3, f3.name, if nb3.isSome = true then f3.attrs else [], [], ks⟩ := by rw [OMap.put_other _ _ hbk]; exact hr3
            have HR9 := Lib.hid hr9
            have HB9 := Lib.hid hb9
            have hl4 : bs4.length ≤ 1000000 := by simp at hl3; omega
            have HLA := Lib.hid (last_any HB9.out hl4)
            clear hnode hobj hr3 hk3 hr9 hb9 hpv9 t1 t3 e1 e2 ef HCLN hl4
            unfold ptr at HLA
            unfold ptr
            go_wp2_with fail
            refine HLA.out.mono ?_
            rintro e w' ⟨rfl, n9, hw⟩
            have HB10 := Lib.hid (show BW B w' bb root _ pv9 _ _ c [] by rw [hw]; exact HB9.out.older (.of_below (below_drew _ _)))
            have HW10 := Lib.hid (show SWorld B w bb root tb t (.slice aa t.attrs.length ca) w' by rw [hw]; exact HW9.out.older hB10 (below_drew _ _))
            have hkw10 : k < w'.heap.size := by rw [hw]; exact hkw
            clear hw HB9 HW9 HLA hkw
            generalize hz7 : wc.heap.size = z7 at *
            clear hz7
            have hrec := HB10.out.recs b3 _ HR9.out
            obtain ⟨-, d1, -, -, -, -⟩ := hrec.cells
            obtain ⟨a0, cap0, hpv⟩ := ownsRow_slice hrec.own
            rw [hpv] at d1
            have d1' : w'.cell? ⟨b3, 1, none⟩ = some (.slice a0 ks.length cap0) := d1
            have HPB := Lib.hid hpv
            have hown := hrec.own
            rw [hpv] at hown
            have HOWN := Lib.hid hown
            have hkl : ks.length ≤ 1000000 := by rw [HK3.out.len]; exact HDL.out f3 List.mem_cons_self
            have hcz : (c : Int) ≤ 1000000 := by omega
            have hBw := HW10.out.size
            clear hrec d1 hpv hown
            obtain ⟨-, t1, -, t3, -, tz⟩ := HW10.out.box.cells
            go_upto_region 14 with (at_builtin; go_must (refine wpList_pushPtr (by rfl) (.tmp 77) (.tmp 79) (by rfl) B (.slice a0 ks.length cap0) ks k w' _ (by rfl) (by rfl) HOWN.out w'.heap.size rfl (by rfl) hkl hBw ?_); intro g cap w3 hown3 hgr3 hg3; obtain ⟨x1, x2, x3, x4⟩ := HB10.out.kid_step HR9.out HPB.out hgr3 hown3 hg3; obtain ⟨-, -, y1, -, yf, -⟩ := x3.cells; have y2 := yf 2; have HX3 := Lib.hid x3; have HG3 := Lib.hid hgr3; clear hown3 hgr3 hg3 x3 yf)
            have hx12 := HX3.out.set2 (c + 1)
            have hw12 := ((HW10.out.kid hB10 HB10.out HR9.out HPB.out HG3.out (.slice (some ⟨g, 0, none⟩) (ks.length + 1) cap)).set hB10 HX3.out.ge HX3.out.blk ⟨by decide, by decide⟩ 2 (.int .i64 (c + 1 : Nat)))
            simp only [Int.natCast_add, Int.cast_ofNat_Int] at hx12 hw12
            obtain ⟨w12, hw⟩ : ∃ w12, w12 = (w3.setCell ⟨b3, 1, none⟩ (.slice (some ⟨g, 0, none⟩) (ks.length + 1) cap)).setCell ⟨bb, 2, none⟩ (.int .i64 ((c : Int) + 1)) := ⟨_, rfl⟩
            have hsz12 : w12.heap.size = w3.heap.size := by rw [hw]; simp [World.setCell]
            rw [← hw] at hx12 hw12
            have HB12 := Lib.hid hx12
            have HW12 := Lib.hid hw12
            have hk12 : k + 1 ≤ w12.heap.size := by omega
            have hpush : ∀ hi', k + 1 ≤ hi' → Stk ((H.put k ⟨some nb, t.name, t.attrs, [], []⟩).put b3 ⟨nb3, f3.name, if nb3.isSome = true then f3.attrs else [], [], ks ++ [k]⟩) none hi' (k :: b3 :: bs4) (⟨t.name, t.attrs, []⟩ :: f3 :: fs4) := fun hi' hh =>
              Stk.push (nb := nb) HS7.out _ HR3.out t.name t.attrs HN.out hkz hh (OMap.put_same _ _ _) (by rw [OMap.put_other _ _ (fun e => hbk e.symm)]; exact OMap.put_same _ _ _) fun x hx hxb => by rw [OMap.put_other _ _ hxb, OMap.put_other _ _ (by omega)]
            have hvoid : ∀ hi', k + 1 ≤ hi' → Stk ((H.put k ⟨some nb, t.name, t.attrs, [], []⟩).put b3 ⟨nb3, f3.name, if nb3.isSome = true then f3.attrs else [], [], ks ++ [k]⟩) none hi' (b3 :: bs4) (addTop (f3 :: fs4) (tElem t.name t.attrs [])) := fun hi' hh =>
              HS7.out.retop _ _ HR3.out (OMap.put_same _ _ _) rfl rfl rfl rfl rfl rfl ((HK3.out.same fun x h1 h2 => by rw [OMap.put_other _ _ (by omega), OMap.put_other _ _ (by omega)]).snoc hkz (.elem _ k nb t.name t.attrs [] [] _ (by rw [OMap.put_other _ _ (fun e => hbk e.symm)]; exact OMap.put_same _ _ _) HN.out (.nil _ _ _ hh))) fun x hx => by rw [OMap.put_other _ _ (by omega), OMap.put_other _ _ (by omega)]
            have HPU := Lib.hid hpush
            have HVO := Lib.hid hvoid
            clear hpush hvoid hx12 hw12 x1 x2 x4 y1 y2 HX3 HG3 t1 t3 tz hsz12 d1' HB10 HW10 HOWN HPB HR9 hkw10
            obtain ⟨-, t1, -, t3, -, tz⟩ := HW12.out.box.cells
            rw [← hw]
            clear hw
            have HCV := Lib.hid (show ∀ q, Calls Tryz.prog 46 #[.slice (some ⟨1, 0, none⟩) 4 4, .string (mk t.name)] (w12.drewN q) fun e w' => e = .returned (.bool (voidsM.contains t.name)) ∧ w12.drewN q = w' from
              fun q => strContains_any 1 4 voidsM t.name (by decide) (w12.drewN q) HW12.out.tabs.voids)
            have hnd : ¬ 10 < (f3 :: fs4).length := by rw [← HLEN.out]; exact HLE.out
            cases hsf : t.self with
            | true =>
              have HC := Lib.hid (show startC (f3 :: fs4) c t = ⟨addTop (f3 :: fs4) (tElem t.name t.attrs []), c + 1, []⟩ by unfold startC; rw [if_neg hnd, if_pos (.inl hsf)])
              rw [hsf] at t3
              clear hsf hnd
              go_quiet (fail)
              go_wp2_with fail
              go_end0
              refine ⟨rfl, ?_, ?_⟩
              · rw [HFIN.out, HC.out]
                exact ⟨_, _, _, _, HB12.out.older (.of_below (below_drew _ _)), HVO.out _ (by show k + 1 ≤ w12.heap.size; exact hk12), HRT3.out⟩
              · exact HW12.out.below.trans ((below_drew _ _).mono HW12.out.size)
            | false =>
              rw [hsf] at t3
              cases hvd : voidsM.contains t.name with
              | true =>
                have HC := Lib.hid (show startC (f3 :: fs4) c t = ⟨addTop (f3 :: fs4) (tElem t.name t.attrs []), c + 1, []⟩ by unfold startC; rw [if_neg hnd, if_pos (.inr hvd)])
                rw [hvd] at HCV
                clear hsf hnd hvd
                go_quiet ((go_at_call 46; exact qs' (HCV.out _)))
                go_wp2_with fail
                go_end0
                refine ⟨rfl, ?_, ?_⟩
                · rw [HFIN.out, HC.out]
                  exact ⟨_, _, _, _, HB12.out.older (.of_below (below_drew _ _)), HVO.out _ (by show k + 1 ≤ w12.heap.size; exact hk12), HRT3.out⟩
                · exact HW12.out.below.trans ((below_drew _ _).mono HW12.out.size)
              | false =>
                have HC := Lib.hid (show startC (f3 :: fs4) c t = ⟨⟨t.name, t.attrs, []⟩ :: f3 :: fs4, c + 1, []⟩ by unfold startC; rw [if_neg hnd, if_neg (fun h => h.elim (by rw [hsf]; decide) (by rw [hvd]; decide))])
                rw [hvd] at HCV
                clear hsf hnd hvd
                go_quiet ((go_at_call 46; exact qs' (HCV.out _)))
                obtain ⟨w13, hw⟩ : ∃ w13, w13 = w12.drewN nq := ⟨_, rfl⟩
                rw [← hw]
                obtain ⟨RL, hRL⟩ : ∃ RL : List Nat, RL = (b3 :: bs4).reverse := ⟨_, rfl⟩
                have hlen : RL.length = (b3 :: bs4).length := by rw [hRL, List.length_reverse]
                have hb13 := HB12.out.older (.of_below (below_drew w12 nq))
                rw [← hw, ← hlen] at hb13
                have HB13 := Lib.hid hb13
                have HW13 := Lib.hid (show SWorld B w bb root tb t (.slice aa t.attrs.length ca) w13 by rw [hw]; exact HW12.out.older hB10 (below_drew _ _))
                have hk13 : k + 1 ≤ w13.heap.size := by rw [hw]; exact hk12
                have HOWN := Lib.hid (show w13.ownsRow B 62 1 (.slice a3 RL.length cap3) RL.length (ptrs RL) by have := HB13.out.own; rw [← hlen, ← hRL] at this; exact this)
                have hrl : RL.length ≤ 1000000 := by rw [hlen]; exact hl3
                have HRL := Lib.hid hRL
                have hBw := HW13.out.size
                obtain ⟨-, e1, -, -, -, -⟩ := HB13.out.cells
                clear hw hlen hRL hb13 HB12 HW12 t1 t3 tz HCV hk12 HLEN HLE hl3 HB7
                go_wp2_with (at_builtin; go_must (refine wpList_pushPtr (by rfl) (.tmp 104) (.tmp 106) (by rfl) B (.slice a3 RL.length cap3) RL k w13 _ (by rfl) (by rfl) HOWN.out w13.heap.size rfl (by rfl) hrl hBw ?_); intro g2 cap2 w14 hown4 hgr4 hg4; obtain ⟨x1, x2, x3, x4⟩ := HB13.out.stack_step HRL.out hgr4 hown4 hg4; have HX4 := Lib.hid x3; have HG4 := Lib.hid hgr4; clear hown4 hgr4 hg4 x3)
                go_end0
                refine ⟨rfl, ?_, ?_⟩
                · rw [HFIN.out, HC.out]
                  exact ⟨_, _, _, _, HX4.out, HPU.out _ (by simp [World.setCell]; omega), by rw [List.getLast?_cons_cons]; exact HRT3.out⟩
                · exact (HW13.out.below.trans ((((Below.refl w13.heap.size w13).alloc (Nat.le_refl _) _).mono hBw).trans (grown_row (HOWN.out.alloc _) HG4.out (by simp; omega)))).setCell (p := ⟨bb, 1, none⟩) HX4.out.ge _
end

end Go.Proofs.YtjkgmdnkejjppaaGreatDoor
