/- Walks of the rows' functions: TreeText, TreeClosed, TreeDeep. -/
import Derived.Test.YtemomhanchiipaaDoorTKeepB
import Derived.Test.YtemomhanchiipaaDoorMark
namespace Go.Proofs.YtemomhanchiipaaDoor
open Go Go.RowKit

theorem textsOf_take (l : List TTok) (k : Nat) (t : TTok) (h : l[k]? = some t) : textsOf (l.take (k + 1)) = textsOf (l.take k) ++ (if t.kind = 3 then t.text else []) := by
  unfold textsOf
  rw [List.take_add_one, h, List.map_append, List.flatten_append]
  simp
theorem textsOf_len (l : List TTok) : (textsOf l).length ≤ textSum l := by
  induction l with
  | nil => exact Nat.le_refl _
  | cons t l ih =>
    have e1 : textsOf (t :: l) = (if t.kind = 3 then t.text else []) ++ textsOf l := rfl
    have e2 : textSum (t :: l) = t.text.length + textSum l := rfl
    rw [e1, e2, List.length_append]
    split <;> simp <;> omega
theorem count_root (l : List TTok) (h : BuildOk l) : countL (buildM l) ≤ 150 := by
  obtain ⟨n, h1, h2⟩ := root_count l
  have := h.count
  omega

set_option maxHeartbeats 2000000 in
set_option maxRecDepth 100000 in
theorem treeText_any (v1 : Value) (l : List Int) (w : World) (hg : Glob w) (htb : Tabs w) (h1 : IntRow w v1 l) :
    Calls Tryd.prog 3 #[v1] w fun e w' => e = .returned (.bool true) ∧ Below w.heap.size w w' := by
  obtain ⟨⟨a, cap, rfl⟩, hl, hc⟩ := h1
  unfold maxLen at hl
  have HC := Lib.hid hc
  have HG := Lib.hid hg
  have HT := Lib.hid htb
  clear hc hg htb
  go_enter Tryd.func3, Tryd.ntmps3
  go_upto_block 0 with fail
  go_cut [3] (fun s wx => s = .string (mk (drawn treePieces (l.take 40))) ∧ Hid (Below w.heap.size w wx))
  case first =>
    go_wp2_with fail
    go_loopw [3, 4] (fun s i wr => ∃ (W : World) (k : Nat), W = wr ∧ k ≤ 40 ∧ k ≤ l.length ∧ i = .int .i64 k ∧ s = .string (mk (drawn treePieces (l.take k))) ∧ Hid (Below w.heap.size w W)) (fun _ i _ => 40 - (intOf i).toNat)
    case atStart => exact ⟨_, 0, rfl, by omega, by omega, rfl, rfl, Lib.hid (Below.refl _ _)⟩
    case round =>
      obtain ⟨W, k, rfl, hk, hkl, rfl, rfl, hb⟩ := hrel
      by_cases hlt : k < l.length ∧ k < 40
      · obtain ⟨h1, h2⟩ := hlt
        obtain ⟨x, hx⟩ : ∃ x, l[k]? = some x := ⟨_, List.getElem?_eq_getElem h1⟩
        obtain ⟨_, b, off, c, hv, hbl, hcell⟩ := HC.out k x hx
        obtain rfl : a = some ⟨b, off, none⟩ := by simp at hv; exact hv.1
        have hcell2 : W.cell? ⟨b, off + k, none⟩ = some (.int .i64 x) := by rw [hb.out.cell (p := ⟨b, off + k, none⟩) hbl]; exact hcell
        have hcell3 : (W.alloc (.cells treePiecesV 9)).cell? ⟨b, off + k, none⟩ = some (.int .i64 x) := by rw [((Below.refl W.heap.size W).alloc (Nat.le_refl _) (.cells treePiecesV 9)).cell (p := ⟨b, off + k, none⟩) (Nat.lt_of_lt_of_le hbl hb.out.size)]; exact hcell2
        clear hcell2
        obtain ⟨p, hp, hpg, hp0, hp1⟩ := drawn_get treePieces (by decide) x
        have hsn := drawn_snoc treePieces (l.take k) x
        have hz := drawn_len treePieces 11 treePieces_len (l.take k)
        have htk : l.take (k + 1) = l.take k ++ [x] := by rw [List.take_add_one, hx]; rfl
        have hplen := treePieces_len p (List.mem_of_getElem? hp)
        rw [hpg, ← htk] at hsn
        have HSN := Lib.hid hsn
        have hz2 : (drawn treePieces (l.take k)).length ≤ 2000 := by rw [List.length_take] at hz; omega
        have hl25 : (treePieces.length : Int) = 14 := rfl
        rw [hl25] at hp hp0 hp1
        have hpc := picked_any x 14
        have HPC := Lib.hid hpc
        have htb := table_cell treePieces_v W 9 hp
        generalize drawn treePieces (l.take k) = D at *
        delta treePiecesV at hcell3
        have hDz : (mk D).size ≤ 2000 := by rw [mk_size]; exact hz2
        have hPz : (mk p).size ≤ 11 := by rw [mk_size]; exact hplen
        clear hv hcell hx hz htk hsn hl25 hpc hpg hp
        have k0 : (0 : Int) ≤ k := by omega
        have k1 : (k : Int) < l.length := by omega
        have k2 : (k : Int) < 40 := by omega
        go_wp2_with fail
        refine (HPC.out _ (by decide) (by decide)).mono ?_
        rintro e w2 ⟨rfl, hw⟩
        have HB2 := Lib.hid (show Below w.heap.size w w2 by rw [← hw]; exact hb.out.alloc hb.out.size _)
        rw [hw] at htb
        clear hw hcell3
        generalize x % 14 = r at *
        go_wp2_with fail
        go_roundw
        case rel => exact ⟨_, k + 1, rfl, by omega, by omega, by go_num, by rw [HSN.out, ← cat_mk], HB2⟩
        case measure => simp [intOf]; omega
      · have hx : ((k : Int) < l.length → ¬ (k : Int) < 40) := by omega
        have hek : l.take k = l.take 40 := by
          by_cases h1 : k = l.length
          · rw [List.take_of_length_le (by omega), List.take_of_length_le (by omega)]
          · rw [show k = 40 by omega]
        rw [hek]
        clear hlt
        by_cases hks : (k : Int) < l.length
        · have hx2 := hx hks
          clear hx
          go_wp2_with fail
          go_meet
          exact ⟨rfl, hb⟩
        · clear hx
          go_wp2_with fail
          go_meet
          exact ⟨rfl, hb⟩
  case rest =>
    obtain ⟨rfl, hb⟩ := hcut
    have hok := build_tree l
    have hml := tree_mild (l.take 40)
    have hDl := drawn_len treePieces 11 treePieces_len (l.take 40)
    rw [List.length_take] at hDl
    generalize drawn treePieces (l.take 40) = D at *
    have hDz : (mk D).size ≤ 600 := by rw [mk_size]; omega
    have hwd := words_law (allM D) hml
    have HOK := Lib.hid hok
    have HW := Lib.hid hwd
    have HP := Lib.hid (parsed_any (mk D) wc (HG.out.below hb.out HG.out.size) hDz)
    have HBU := Lib.hid (fun W h1 h2 => built_any (mk D) W h1 h2 hDz (by rw [lst_mk]; exact hok))
    rw [lst_mk] at HP HBU
    have hct := count_root _ hok
    have hx1 := textsOf_len (allM D)
    have hx2 := hok.texts
    have hln := hok.len
    clear hok hml hwd
    generalize allM D = X at *
    go_wp2_with fail
    refine HP.out.mono ?_
    rintro e w2 ⟨tv, rfl, htr, hb2⟩
    have HB2 := Lib.hid (hb.out.trans (hb2.mono hb.out.size))
    have HTV := Lib.hid htr.view
    clear htr hb2
    go_wp2_with fail
    refine (HBU.out w2 (HG.out.below HB2.out HG.out.size) (HT.out.below HB2.out HT.out.size)).mono ?_
    rintro e w3 ⟨v, rfl, hv, hb3⟩
    have HB3 := Lib.hid (HB2.out.trans (hb3.mono HB2.out.size))
    have HTV3 := Lib.hid (HTV.out.older (.of_below hb3))
    have HCALL := Lib.hid (fun n => words_any 12 v _ (w3.drewN n) (hv.older ⟨Nat.le_refl _, fun _ _ => rfl⟩) (by omega) (by rw [HW.out]; omega))
    rw [HW.out] at HCALL
    obtain ⟨ta, tc, htf⟩ := HTV3.out.form
    subst htf
    clear hv hb3
    go_wp2_with fail
    go_loop [9, 10] (fun s i => ∃ k : Nat, k ≤ X.length ∧ i = .int .i64 k ∧ s = .string (mk (textsOf (X.take k)))) (fun _ i => X.length - (intOf i).toNat)
    case atStart => exact ⟨0, by omega, rfl, rfl⟩
    case round =>
      obtain ⟨k, hk, rfl, rfl⟩ := hrel
      by_cases hlt : k < X.length
      · obtain ⟨t, ht⟩ : ∃ t, X[k]? = some t := ⟨_, List.getElem?_eq_getElem hlt⟩
        obtain ⟨g, c, va, hf, hc1, hc2, hg, hat, hav⟩ := HTV3.out.get k t ht
        obtain rfl : ta = some ⟨g, 0, none⟩ := by simp at hf; exact hf.1
        have a0 := hat.kind
        have a4 := hat.text
        have hst := textsOf_take X k t ht
        have hz := textsOf_len (X.take k)
        have hz2 := textSum_take X k
        have hz3 := textSum_mem (List.mem_of_getElem? ht)
        have HST := Lib.hid hst
        generalize textsOf (X.take k) = T at *
        have z1 : (mk T).size ≤ 1000000 := by rw [mk_size]; omega
        have z2 : (mk t.text).size ≤ 1000000 := by rw [mk_size]; omega
        have k0 : (0 : Int) ≤ k := by omega
        have k1 : (k : Int) < X.length := by omega
        clear hf hat hav ht hst
        by_cases h3 : t.kind = 3
        · rw [if_pos h3] at HST
          rw [h3] at a0
          clear h3
          go_wp2_with fail
          go_round
          case rel => exact ⟨k + 1, by omega, by go_num, by rw [HST.out, ← cat_mk]⟩
          case measure => simp [intOf]; omega
        · rw [if_neg h3, List.append_nil] at HST
          go_wp2_with fail
          go_round
          case rel => exact ⟨k + 1, by omega, by go_num, by rw [HST.out]⟩
          case measure => simp [intOf]; omega
      · obtain rfl : k = X.length := by omega
        rw [List.take_length]
        clear HW
        generalize textsOf X = T at *
        go_wp2_with fail
        refine (HCALL.out 0).mono ?_
        rintro e w4 ⟨rfl, n, rfl⟩
        go_wp2_with fail
        go_ret
        exact ⟨rfl, ⟨HB3.out.os, HB3.out.tape, HB3.out.output, HB3.out.size, HB3.out.block⟩⟩

set_option maxHeartbeats 2000000 in
set_option maxRecDepth 100000 in
theorem treeClosed_any (v1 : Value) (l : List Int) (w : World) (hg : Glob w) (htb : Tabs w) (h1 : IntRow w v1 l) :
    Calls Tryd.prog 4 #[v1] w fun e w' => e = .returned (.bool true) ∧ Below w.heap.size w w' := by
  obtain ⟨⟨a, cap, rfl⟩, hl, hc⟩ := h1
  unfold maxLen at hl
  have HC := Lib.hid hc
  have HG := Lib.hid hg
  have HT := Lib.hid htb
  clear hc hg htb
  go_enter Tryd.func4, Tryd.ntmps4
  go_upto_block 0 with fail
  go_cut [3] (fun s wx => s = .string (mk (drawn closePieces (l.take 40))) ∧ Hid (Below w.heap.size w wx))
  case first =>
    go_wp2_with fail
    go_loopw [3, 4] (fun s i wr => ∃ (W : World) (k : Nat), W = wr ∧ k ≤ 40 ∧ k ≤ l.length ∧ i = .int .i64 k ∧ s = .string (mk (drawn closePieces (l.take k))) ∧ Hid (Below w.heap.size w W)) (fun _ i _ => 40 - (intOf i).toNat)
    case atStart => exact ⟨_, 0, rfl, by omega, by omega, rfl, rfl, Lib.hid (Below.refl _ _)⟩
    case round =>
      obtain ⟨W, k, rfl, hk, hkl, rfl, rfl, hb⟩ := hrel
      by_cases hlt : k < l.length ∧ k < 40
      · obtain ⟨h1, h2⟩ := hlt
        obtain ⟨x, hx⟩ : ∃ x, l[k]? = some x := ⟨_, List.getElem?_eq_getElem h1⟩
        obtain ⟨_, b, off, c, hv, hbl, hcell⟩ := HC.out k x hx
        obtain rfl : a = some ⟨b, off, none⟩ := by simp at hv; exact hv.1
        have hcell2 : W.cell? ⟨b, off + k, none⟩ = some (.int .i64 x) := by rw [hb.out.cell (p := ⟨b, off + k, none⟩) hbl]; exact hcell
        have hcell3 : (W.alloc (.cells closePiecesV 9)).cell? ⟨b, off + k, none⟩ = some (.int .i64 x) := by rw [((Below.refl W.heap.size W).alloc (Nat.le_refl _) (.cells closePiecesV 9)).cell (p := ⟨b, off + k, none⟩) (Nat.lt_of_lt_of_le hbl hb.out.size)]; exact hcell2
        clear hcell2
        obtain ⟨p, hp, hpg, hp0, hp1⟩ := drawn_get closePieces (by decide) x
        have hsn := drawn_snoc closePieces (l.take k) x
        have hz := drawn_len closePieces 5 closePieces_len (l.take k)
        have htk : l.take (k + 1) = l.take k ++ [x] := by rw [List.take_add_one, hx]; rfl
        have hplen := closePieces_len p (List.mem_of_getElem? hp)
        rw [hpg, ← htk] at hsn
        have HSN := Lib.hid hsn
        have hz2 : (drawn closePieces (l.take k)).length ≤ 2000 := by rw [List.length_take] at hz; omega
        have hl25 : (closePieces.length : Int) = 10 := rfl
        rw [hl25] at hp hp0 hp1
        have hpc := picked_any x 10
        have HPC := Lib.hid hpc
        have htb := table_cell closePieces_v W 9 hp
        generalize drawn closePieces (l.take k) = D at *
        delta closePiecesV at hcell3
        have hDz : (mk D).size ≤ 2000 := by rw [mk_size]; exact hz2
        have hPz : (mk p).size ≤ 5 := by rw [mk_size]; exact hplen
        clear hv hcell hx hz htk hsn hl25 hpc hpg hp
        have k0 : (0 : Int) ≤ k := by omega
        have k1 : (k : Int) < l.length := by omega
        have k2 : (k : Int) < 40 := by omega
        go_wp2_with fail
        refine (HPC.out _ (by decide) (by decide)).mono ?_
        rintro e w2 ⟨rfl, hw⟩
        have HB2 := Lib.hid (show Below w.heap.size w w2 by rw [← hw]; exact hb.out.alloc hb.out.size _)
        rw [hw] at htb
        clear hw hcell3
        generalize x % 10 = r at *
        go_wp2_with fail
        go_roundw
        case rel => exact ⟨_, k + 1, rfl, by omega, by omega, by go_num, by rw [HSN.out, ← cat_mk], HB2⟩
        case measure => simp [intOf]; omega
      · have hx : ((k : Int) < l.length → ¬ (k : Int) < 40) := by omega
        have hek : l.take k = l.take 40 := by
          by_cases h1 : k = l.length
          · rw [List.take_of_length_le (by omega), List.take_of_length_le (by omega)]
          · rw [show k = 40 by omega]
        rw [hek]
        clear hlt
        by_cases hks : (k : Int) < l.length
        · have hx2 := hx hks
          clear hx
          go_wp2_with fail
          go_meet
          exact ⟨rfl, hb⟩
        · clear hx
          go_wp2_with fail
          go_meet
          exact ⟨rfl, hb⟩
  case rest =>
    obtain ⟨rfl, hb⟩ := hcut
    have hok := build_close l
    have hDl := drawn_len closePieces 5 closePieces_len (l.take 40)
    rw [List.length_take] at hDl
    generalize drawn closePieces (l.take 40) = D at *
    have hDz : (mk D).size ≤ 600 := by rw [mk_size]; omega
    have HBU := Lib.hid (built_any (mk D) wc (HG.out.below hb.out HG.out.size) (HT.out.below hb.out HT.out.size) hDz (by rw [lst_mk]; exact hok))
    rw [lst_mk] at HBU
    have hct := count_root _ hok
    have HL := Lib.hid (closed_law (allM D))
    clear hok
    generalize allM D = X at *
    go_wp2_with fail
    refine HBU.out.mono ?_
    rintro e w3 ⟨v, rfl, hv, hb3⟩
    have HB3 := Lib.hid (hb.out.trans (hb3.mono hb.out.size))
    have HCALL := Lib.hid (closed_any 12 v _ false false w3 hv (by omega) HL.out)
    clear hv hb3
    go_wp2_with fail
    refine HCALL.out.mono ?_
    rintro e w4 ⟨rfl, hw⟩
    rw [← hw]
    clear hw
    go_wp2_with fail
    go_ret
    exact ⟨rfl, HB3.out⟩

/-- An element with a text in it, laid. -/
def oneTree : List TNode := [.mk [98] [] [] [tText [120]]]
theorem oneView (w : World) : NodeView 12 ((w.alloc (.cells #[.string ⟨#[]⟩, .slice none 0 0, .string ⟨#[120]⟩, .slice none 0 0] 41)).alloc (.cells #[.string ⟨#[98]⟩, .slice none 0 0, .string ⟨#[]⟩, .slice (some ⟨w.heap.size, 0, none⟩) 1 1] 41)) (.slice (some ⟨w.heap.size + 1, 0, none⟩) 1 1) oneTree := by
  have h1 := heap_alloc_new w (.cells #[.string ⟨#[]⟩, .slice none 0 0, .string ⟨#[120]⟩, .slice none 0 0] 41)
  have z1 : (w.alloc (.cells #[.string ⟨#[]⟩, .slice none 0 0, .string ⟨#[120]⟩, .slice none 0 0] 41)).heap.size = w.heap.size + 1 := by simp
  generalize w.alloc (.cells #[.string ⟨#[]⟩, .slice none 0 0, .string ⟨#[120]⟩, .slice none 0 0] 41) = w1 at *
  have h2 := heap_alloc_new w1 (.cells #[.string ⟨#[98]⟩, .slice none 0 0, .string ⟨#[]⟩, .slice (some ⟨w.heap.size, 0, none⟩) 1 1] 41)
  have hb := (Below.refl w1.heap.size w1).alloc (Nat.le_refl _) (.cells #[.string ⟨#[98]⟩, .slice none 0 0, .string ⟨#[]⟩, .slice (some ⟨w.heap.size, 0, none⟩) 1 1] 41)
  rw [z1] at h2
  have h1' := (hb.block w.heap.size (by omega)).trans h1
  generalize w1.alloc (.cells #[.string ⟨#[98]⟩, .slice none 0 0, .string ⟨#[]⟩, .slice (some ⟨w.heap.size, 0, none⟩) 1 1] 41) = w2 at *
  refine ⟨⟨_, _, rfl⟩, fun i t hi => ?_⟩
  cases i with
  | succ i => simp [oneTree] at hi
  | zero =>
    cases hi
    refine ⟨_, 1, .slice none 0 0, .slice (some ⟨w.heap.size, 0, none⟩) 1 1, rfl, Nat.le_refl _, by unfold maxLen; omega, trivial, ⟨_, h2⟩, ⟨by rw [Lib.cell_of_heap h2]; rfl, by rw [Lib.cell_of_heap h2]; rfl, by rw [Lib.cell_of_heap h2]; rfl, by rw [Lib.cell_of_heap h2]; rfl⟩, attrView_nil _, ⟨_, _, rfl⟩, fun i t hi => ?_⟩
    cases i with
    | succ i => simp [TNode.parts] at hi
    | zero =>
      cases hi
      exact ⟨_, 1, .slice none 0 0, .slice none 0 0, rfl, Nat.le_refl _, by unfold maxLen; omega, trivial, ⟨_, h1'⟩, ⟨by rw [Lib.cell_of_heap h1']; rfl, by rw [Lib.cell_of_heap h1']; rfl, by rw [Lib.cell_of_heap h1']; rfl, by rw [Lib.cell_of_heap h1']; rfl⟩, attrView_nil _, NodeIn.nil _ _ _⟩

set_option maxHeartbeats 2000000 in
set_option maxRecDepth 100000 in
theorem treeDeep_any (v1 : Value) (l : List Int) (w : World) (hg : Glob w) (htb : Tabs w) (h1 : IntRow w v1 l) :
    Calls Tryd.prog 5 #[v1] w fun e w' => e = .returned (.bool true) ∧ Below w.heap.size w w' := by
  have HG := Lib.hid hg
  have HT := Lib.hid htb
  have HMK := Lib.hid (markup_text v1 l 30 (by omega) w h1)
  have hok := build_mark l
  have hDl := drawn_len markPieces 19 markPieces_len (l.take 30)
  rw [List.length_take] at hDl
  clear hg htb h1
  generalize drawn markPieces (l.take 30) = D at *
  have hDz : (mk D).size ≤ 600 := by rw [mk_size]; omega
  have HBU := Lib.hid (fun W h1 h2 => built_any (mk D) W h1 h2 hDz (by rw [lst_mk]; exact hok))
  rw [lst_mk] at HBU
  have hct := count_root _ hok
  have hdl := Go.Proofs.YtemomhanchiipaaDoor.deep_law (allM D) hok.names
  have hdp := hdl.1
  have HAP := Lib.hid hdl.2
  clear hok hdl
  generalize allM D = X at *
  go_enter Tryd.func5, Tryd.ntmps5
  go_wp2_with fail
  refine HMK.out.mono ?_
  rintro e w1 ⟨rfl, hb1⟩
  have HB1 := Lib.hid hb1
  clear hb1
  go_wp2_with fail
  refine (HBU.out w1 (HG.out.below HB1.out HG.out.size) (HT.out.below HB1.out HT.out.size)).mono ?_
  rintro e w2 ⟨v, rfl, hv, hb2⟩
  have HB2 := Lib.hid (HB1.out.trans (hb2.mono HB1.out.size))
  have HV := Lib.hid hv
  have HC1 := Lib.hid (count_any 12 v _ w2 hv (by omega) (by omega))
  clear hv hb2
  go_wp2_with fail
  refine HC1.out.mono ?_
  rintro e w3 ⟨rfl, hb3⟩
  have HB3 := Lib.hid (HB2.out.trans (hb3.mono HB2.out.size))
  have HV3 := Lib.hid (HV.out.older (.of_below hb3))
  clear hb3
  obtain ⟨w4, hw4⟩ : ∃ w4, w4 = (w3.alloc (.cells #[.string ⟨#[]⟩, .slice none 0 0, .string ⟨#[120]⟩, .slice none 0 0] 41)).alloc (.cells #[.string ⟨#[98]⟩, .slice none 0 0, .string ⟨#[]⟩, .slice (some ⟨w3.heap.size, 0, none⟩) 1 1] 41) := ⟨_, rfl⟩
  have hb4 : Below w3.heap.size w3 w4 := by rw [hw4]; exact ((Below.refl _ _).alloc (Nat.le_refl _) _).alloc (by simp) _
  have HC4 := Lib.hid (count_any 12 (.slice (some ⟨w3.heap.size + 1, 0, none⟩) 1 1) oneTree w4 (by rw [hw4]; exact oneView w3) (by decide) (by decide))
  rw [show countL oneTree = 2 from rfl, show deepL oneTree = 2 from rfl] at HC4
  have HB4 := Lib.hid (HB3.out.trans (hb4.mono HB3.out.size))
  have HV4 := Lib.hid (HV3.out.older (.of_below hb4))
  have HW4 := Lib.hid hw4
  clear hb4 hw4
  go_wp2_with fail
  rw [← HW4.out]
  refine HC4.out.mono ?_
  rintro e w5 ⟨rfl, hb5⟩
  have HB5 := Lib.hid (HB4.out.trans (hb5.mono HB4.out.size))
  have HC5 := Lib.hid (apart_any 12 v _ w5 (HV4.out.older (.of_below hb5)) (by omega) HAP.out)
  have hd2 : (deepL (buildM X) : Int) ≤ 11 := by omega
  clear hb5
  go_wp2_with fail
  refine HC5.out.mono ?_
  rintro e w6 ⟨rfl, hw⟩
  rw [← hw]
  clear hw
  go_wp2_with fail
  go_ret
  exact ⟨rfl, HB5.out⟩

end Go.Proofs.YtemomhanchiipaaDoor
