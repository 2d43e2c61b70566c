/- Walks of the rows' functions: TokSigns. -/
import Derived.Test.YtniiaaghimmiaaaDoorKeepB
import Derived.Test.YtniiaaghimmiaaaDoorMark
import Derived.Test.YtniiaaghimmiaaaDoorSame
import Derived.Test.YtniiaaghimmiaaaDoorLawS
namespace Go.Proofs.YtniiaaghimmiaaaDoor
open Go Go.RowKit

theorem lst_append (a b : ByteArray) : lst (a ++ b) = lst a ++ lst b := by simp [lst, ByteArray.data_append]
theorem lst_arr (l : List UInt8) : lst ⟨l.toArray⟩ = l := rfl

set_option maxHeartbeats 1000000 in
set_option maxRecDepth 100000 in
theorem gap_any (i b : Nat) (v : Value) (l : List Int) (w : World) (hi : i ≤ 3) (hc : w.cell? ⟨b, 0, none⟩ = some v) (h : IntRow w v l) :
    Calls Tryd.prog 16 #[.int .i64 i, .pointer (some ⟨b, 0, none⟩)] w fun e w' => e = .returned (.string (mk (gapOf l i))) ∧ Below w.heap.size w w' := by
  obtain ⟨⟨a, cap, rfl⟩, hl, hx⟩ := h
  unfold maxLen at hl
  have HX := Lib.hid hx
  clear hx
  by_cases hlt : i < l.length
  · obtain ⟨x, hx⟩ : ∃ x, l[i]? = some x := ⟨_, List.getElem?_eq_getElem hlt⟩
    obtain ⟨_, b2, off, c, hv, hbl, hcell⟩ := HX.out i x hx
    obtain rfl : a = some ⟨b2, off, none⟩ := by simp at hv; exact hv.1
    have hg : gapOf l i = gapPieces.getD (x % 4).toNat [] := by unfold gapOf; rw [hx]
    obtain ⟨p, hp, hpg, hp0, hp1⟩ := drawn_get gapPieces (by decide) x
    have h4 : (gapPieces.length : Int) = 4 := rfl
    rw [h4] at hp hpg hp0 hp1
    rw [hpg] at hg
    rw [hg]
    have hpc := picked_any x 4
    have HPC := Lib.hid hpc
    have htb := table_cell gapPieces_v w 9 hp
    have hbw : b < w.heap.size := block_lt_of_cell hc
    have hall := (Below.refl w.heap.size w).alloc (Nat.le_refl _) (.cells gapPiecesV 9)
    have hc2 : (w.alloc (.cells gapPiecesV 9)).cell? ⟨b, 0, none⟩ = some (.slice (some ⟨b2, off, none⟩) l.length cap) := by rw [hall.cell (p := ⟨b, 0, none⟩) hbw]; exact hc
    have hcell2 : (w.alloc (.cells gapPiecesV 9)).cell? ⟨b2, off + i, none⟩ = some (.int .i64 x) := by rw [hall.cell (p := ⟨b2, off + i, none⟩) hbl]; exact hcell
    have HA := Lib.hid hall
    clear hv hcell hx hpg h4 hp hpc hall hg
    delta gapPiecesV at hc2 hcell2
    have i0 : (0 : Int) ≤ i := by omega
    have i1 : (i : Int) < l.length := by omega
    go_enter Tryd.func16, Tryd.ntmps16
    go_wp2_with fail
    refine (HPC.out _ (by decide) (by decide)).mono ?_
    rintro e w2 ⟨rfl, hw⟩
    have HB2 := Lib.hid (show Below w.heap.size w w2 by rw [← hw]; exact HA.out)
    rw [hw] at htb
    clear hw hcell2 hc2
    generalize x % 4 = r at *
    go_wp2_with fail
    go_ret
    exact ⟨rfl, HB2.out⟩
  · have hg : gapOf l i = [] := by unfold gapOf; rw [List.getElem?_eq_none (by omega)]
    have i1 : (l.length : Int) ≤ i := by omega
    rw [hg]
    clear hg
    go_enter Tryd.func16, Tryd.ntmps16
    go_wp2_with fail
    go_ret
    exact ⟨rfl, Below.refl _ _⟩

set_option maxHeartbeats 4000000 in
set_option maxRecDepth 100000 in
theorem tokSigns_any (v1 : Value) (l : List Int) (v2 : Value) (gaps : List Int) (big : Bool) (w : World) (hg : Glob w) (h1 : IntRow w v1 l) (h2 : IntRow w v2 gaps) :
    Calls Tryd.prog 6 #[v1, v2, .bool big] w fun e w' => e = .returned (.bool true) ∧ Below w.heap.size w w' := by
  have hv2 := h2.1
  have H2 := Lib.hid h2
  obtain ⟨⟨a, cap, rfl⟩, hl, hc⟩ := h1
  unfold maxLen at hl
  have HC := Lib.hid hc
  have HG := Lib.hid hg
  obtain ⟨a2, cap2, rfl⟩ := hv2
  clear hc h2 hg
  go_enter Tryd.func6, Tryd.ntmps6
  go_upto_block 0 with fail
  obtain ⟨wb, hwb⟩ : ∃ wb, wb = w.alloc (.cells #[.slice a2 gaps.length cap2] 33) := ⟨_, rfl⟩
  rw [← hwb]
  have HBB := Lib.hid (show Below w.heap.size w wb by rw [hwb]; exact (Below.refl _ _).alloc (Nat.le_refl _) _)
  have hbox : wb.cell? ⟨w.heap.size, 0, none⟩ = some (.slice a2 gaps.length cap2) := by rw [Lib.cell_of_heap (show wb.heap[w.heap.size]? = some (.cells #[.slice a2 gaps.length cap2] 33 (0, 0)) by rw [hwb]; exact heap_alloc_new _ _)]; rfl
  have hbz : w.heap.size < wb.heap.size := by rw [hwb]; simp
  have HBOX := Lib.hid hbox
  clear hbox hwb
  go_cut [7] (fun s wx => s = .string (mk (drawn valPieces (l.take 9))) ∧ wx = wb)
  case first =>
    go_wp2_with fail
    go_loop [7, 8] (fun s i => ∃ k : Nat, k ≤ 9 ∧ k ≤ l.length ∧ i = .int .i64 k ∧ s = .string (mk (drawn valPieces (l.take k)))) (fun _ i => 9 - (intOf i).toNat)
    case atStart => exact ⟨0, by omega, by omega, rfl, rfl⟩
    case round =>
      obtain ⟨k, hk, hkl, rfl, rfl⟩ := hrel
      by_cases hlt : k < l.length ∧ k < 9
      · obtain ⟨h1, h2⟩ := hlt
        obtain ⟨x, hx⟩ : ∃ x, l[k]? = some x := ⟨_, List.getElem?_eq_getElem h1⟩
        obtain ⟨_, b, off, c, hv, hbl, hcell⟩ := HC.out k x hx
        obtain rfl : a = some ⟨b, off, none⟩ := by simp at hv; exact hv.1
        have hcell2 : wb.cell? ⟨b, off + k, none⟩ = some (.int .i64 x) := by rw [HBB.out.cell (p := ⟨b, off + k, none⟩) hbl]; exact hcell
        obtain ⟨p, hp, hpg, hp0, hp1⟩ := drawn_get valPieces (by decide) x
        have hsn := drawn_snoc valPieces (l.take k) x
        have hz := drawn_len valPieces 1 valPieces_len (l.take k)
        have htk : l.take (k + 1) = l.take k ++ [x] := by rw [List.take_add_one, hx]; rfl
        rw [hpg, ← htk] at hsn
        have hz2 : (drawn valPieces (l.take k)).length ≤ 9 := by rw [List.length_take] at hz; omega
        have hl5 : (valPieces.length : Int) = 5 := rfl
        rw [hl5] at hp hp0 hp1
        have hpc := picked_any x 5
        have HPC := Lib.hid hpc
        have HSN := Lib.hid hsn
        generalize drawn valPieces (l.take k) = D at *
        have hDz : (mk D).size ≤ 9 := by rw [mk_size]; exact hz2
        generalize x % 5 = r at *
        have hsub : ((⟨#[97, 98, 99, 49, 45]⟩ : ByteArray).extract r.toNat 5).extract 0 1 = mk p := by
          have hr : r = 0 ∨ r = 1 ∨ r = 2 ∨ r = 3 ∨ r = 4 := by omega
          rcases hr with rfl | rfl | rfl | rfl | rfl <;> (have hp' := Option.some.inj hp; subst hp'; rfl)
        have HSUB := Lib.hid hsub
        clear hv hcell hx hz htk hsn hl5 hpc hpg hp hsub
        have k0 : (0 : Int) ≤ k := by omega
        have k1 : (k : Int) < l.length := by omega
        have k2 : (k : Int) < 9 := by omega
        go_wp2_with fail
        refine (HPC.out _ (by decide) (by decide)).mono ?_
        rintro e w2 ⟨rfl, hw⟩
        rw [← hw]
        clear hw
        go_wp2_with fail
        go_round
        case rel => exact ⟨k + 1, by omega, by omega, by go_num, by rw [HSUB.out, HSN.out, ← cat_mk]⟩
        case measure => simp [intOf]; omega
      · have hx : ((k : Int) < l.length → ¬ (k : Int) < 9) := by omega
        have hek : l.take k = l.take 9 := by
          by_cases h1 : k = l.length
          · rw [List.take_of_length_le (by omega), List.take_of_length_le (by omega)]
          · rw [show k = 9 by omega]
        rw [hek]
        clear hlt
        by_cases hks : (k : Int) < l.length
        · have hx2 := hx hks
          clear hx
          go_wp2_with fail
          go_meet
          exact ⟨rfl, rfl⟩
        · clear hx
          go_wp2_with fail
          go_meet
          exact ⟨rfl, rfl⟩
  case rest =>
    obtain ⟨rfl, hwc⟩ := hcut
    subst hwc
    have hV := drawn_val (l.take 9)
    have hVl := drawn_len valPieces 1 valPieces_len (l.take 9)
    rw [List.length_take] at hVl
    generalize drawn valPieces (l.take 9) = D at *
    have hcat : mk D ++ ⟨#[122]⟩ = mk (D ++ [122]) := cat_mk D [122]
    have HCAT := Lib.hid hcat
    have HSV := Lib.hid hV
    have hDz : (mk D).size ≤ 9 := by rw [mk_size]; omega
    have hVz : (mk (D ++ [122])).size ≤ 10 := by rw [mk_size, List.length_append]; simp; omega
    have hgap := fun (i : Nat) (hi : i ≤ 3) (W : World) (hO : Older wc W) => gap_any i w.heap.size (.slice a2 gaps.length cap2) gaps W hi ((hO.cell _ _ hbz).trans HBOX.out)
      (H2.out.older (Nat.le_trans HBB.out.size hO.1) (fun b o hb => (hO.cell b o (Nat.lt_of_lt_of_le hb HBB.out.size)).trans (HBB.out.cell (p := ⟨b, o, none⟩) hb)))
    have HGP0 := Lib.hid (fun W hO => (hgap 0 (by omega) W hO : Calls Tryd.prog 16 #[.int .i64 0, .pointer (some ⟨w.heap.size, 0, none⟩)] W fun e w' => e = .returned (.string (mk (gapOf gaps 0))) ∧ Below W.heap.size W w'))
    have HGP1 := Lib.hid (fun W hO => (hgap 1 (by omega) W hO : Calls Tryd.prog 16 #[.int .i64 1, .pointer (some ⟨w.heap.size, 0, none⟩)] W fun e w' => e = .returned (.string (mk (gapOf gaps 1))) ∧ Below W.heap.size W w'))
    have HGP2 := Lib.hid (fun W hO => (hgap 2 (by omega) W hO : Calls Tryd.prog 16 #[.int .i64 2, .pointer (some ⟨w.heap.size, 0, none⟩)] W fun e w' => e = .returned (.string (mk (gapOf gaps 2))) ∧ Below W.heap.size W w'))
    have HGP3 := Lib.hid (fun W hO => (hgap 3 (by omega) W hO : Calls Tryd.prog 16 #[.int .i64 3, .pointer (some ⟨w.heap.size, 0, none⟩)] W fun e w' => e = .returned (.string (mk (gapOf gaps 3))) ∧ Below W.heap.size W w'))
    have hgl := fun i => gapOf_len gaps i
    have g0z : (mk (gapOf gaps 0)).size ≤ 2 := by rw [mk_size]; exact hgl 0
    have g1z : (mk (gapOf gaps 1)).size ≤ 2 := by rw [mk_size]; exact hgl 1
    have g2z : (mk (gapOf gaps 2)).size ≤ 2 := by rw [mk_size]; exact hgl 2
    have g3z : (mk (gapOf gaps 3)).size ≤ 2 := by rw [mk_size]; exact hgl 3
    have hwant := signs_want (D ++ [122]) hV
    have hp1 := fun W h => parsed_any (⟨#[60, 97, 32, 104, 114, 101, 102, 61, 34]⟩ ++ mk (D ++ [122]) ++ ⟨#[34, 62]⟩) W h (by simp only [ByteArray.size_append]; have h1 : (⟨#[60, 97, 32, 104, 114, 101, 102, 61, 34]⟩ : ByteArray).size = 9 := rfl; have h2 : (⟨#[34, 62]⟩ : ByteArray).size = 2 := rfl; omega)
    rw [show lst (⟨#[60, 97, 32, 104, 114, 101, 102, 61, 34]⟩ ++ mk (D ++ [122]) ++ ⟨#[34, 62]⟩) = [60, 97, 32, 104, 114, 101, 102, 61, 34] ++ (D ++ [122]) ++ [34, 62] by rw [lst_append, lst_append, lst_mk]; rfl, hwant] at hp1
    have HP1 := Lib.hid hp1
    clear hcat hV hgap hwant hp1 hgl
    cases big
    all_goals
      go_wp2_with fail
      rw [HCAT.out]
      refine (HP1.out wc (HG.out.below HBB.out HG.out.size)).mono ?_
      rintro e w2 ⟨tv1, rfl, htr, hb⟩
      have HB2 := Lib.hid (HBB.out.trans (hb.mono HBB.out.size))
      have HO2 := Lib.hid (Older.of_below hb)
      have HV1_2 := Lib.hid htr.view
      clear hb htr
      go_wp2_with fail
      refine (HGP0.out w2 HO2.out).mono ?_
      rintro e w3 ⟨rfl, hb⟩
      have HB3 := Lib.hid (HB2.out.trans (hb.mono HB2.out.size))
      have HO3 := Lib.hid (HO2.out.trans (.of_below hb))
      have HV1_3 := Lib.hid (HV1_2.out.older (.of_below hb))
      clear hb
      go_wp2_with fail
      refine (HGP1.out w3 HO3.out).mono ?_
      rintro e w4 ⟨rfl, hb⟩
      have HB4 := Lib.hid (HB3.out.trans (hb.mono HB3.out.size))
      have HO4 := Lib.hid (HO3.out.trans (.of_below hb))
      have HV1_4 := Lib.hid (HV1_3.out.older (.of_below hb))
      clear hb
      go_wp2_with fail
      refine (HGP2.out w4 HO4.out).mono ?_
      rintro e w5 ⟨rfl, hb⟩
      have HB5 := Lib.hid (HB4.out.trans (hb.mono HB4.out.size))
      have HO5 := Lib.hid (HO4.out.trans (.of_below hb))
      have HV1_5 := Lib.hid (HV1_4.out.older (.of_below hb))
      clear hb
      go_wp2_with fail
      refine (HGP3.out w5 HO5.out).mono ?_
      rintro e w6 ⟨rfl, hb⟩
      have HB6 := Lib.hid (HB5.out.trans (hb.mono HB5.out.size))
      have HO6 := Lib.hid (HO5.out.trans (.of_below hb))
      have HV1_6 := Lib.hid (HV1_5.out.older (.of_below hb))
      clear hb
      go_wp2_with fail
      refine (parsed_any _ w6 (HG.out.below HB6.out HG.out.size) (by rw [← lst_length]; simp only [lst_append, lst_mk, lst_arr, List.length_append, List.length_cons, List.length_nil]; simp only [mk_size, List.length_append, List.length_cons, List.length_nil] at hVz g0z g1z g2z g3z; omega)).mono ?_
      rintro e w7 ⟨tv2, rfl, htr, hb⟩
      have hview := htr.view
      simp only [lst_append, lst_mk, lst_arr] at hview
      rw [signs_quoted' _ _ (by first | exact .inl ⟨rfl, rfl⟩ | exact .inr ⟨rfl, rfl⟩) (gapOf gaps 0) (gapOf gaps 1) (gapOf gaps 2) (gapOf gaps 3) (D ++ [122]) (gapOf_sp _ _) (gapOf_sp _ _) (gapOf_sp _ _) (gapOf_sp _ _) HSV.out] at hview
      have HV2_7 := Lib.hid hview
      clear hview htr
      have HB7 := Lib.hid (HB6.out.trans (hb.mono HB6.out.size))
      have HO7 := Lib.hid (HO6.out.trans (.of_below hb))
      have HV1_7 := Lib.hid (HV1_6.out.older (.of_below hb))
      clear hb
      go_wp2_with fail
      refine (HGP3.out w7 HO7.out).mono ?_
      rintro e w8 ⟨rfl, hb⟩
      have HB8 := Lib.hid (HB7.out.trans (hb.mono HB7.out.size))
      have HO8 := Lib.hid (HO7.out.trans (.of_below hb))
      have HV1_8 := Lib.hid (HV1_7.out.older (.of_below hb))
      have HV2_8 := Lib.hid (HV2_7.out.older (.of_below hb))
      clear hb
      go_wp2_with fail
      refine (HGP2.out w8 HO8.out).mono ?_
      rintro e w9 ⟨rfl, hb⟩
      have HB9 := Lib.hid (HB8.out.trans (hb.mono HB8.out.size))
      have HO9 := Lib.hid (HO8.out.trans (.of_below hb))
      have HV1_9 := Lib.hid (HV1_8.out.older (.of_below hb))
      have HV2_9 := Lib.hid (HV2_8.out.older (.of_below hb))
      clear hb
      go_wp2_with fail
      refine (HGP1.out w9 HO9.out).mono ?_
      rintro e w10 ⟨rfl, hb⟩
      have HB10 := Lib.hid (HB9.out.trans (hb.mono HB9.out.size))
      have HO10 := Lib.hid (HO9.out.trans (.of_below hb))
      have HV1_10 := Lib.hid (HV1_9.out.older (.of_below hb))
      have HV2_10 := Lib.hid (HV2_9.out.older (.of_below hb))
      clear hb
      go_wp2_with fail
      refine (HGP0.out w10 HO10.out).mono ?_
      rintro e w11 ⟨rfl, hb⟩
      have HB11 := Lib.hid (HB10.out.trans (hb.mono HB10.out.size))
      have HO11 := Lib.hid (HO10.out.trans (.of_below hb))
      have HV1_11 := Lib.hid (HV1_10.out.older (.of_below hb))
      have HV2_11 := Lib.hid (HV2_10.out.older (.of_below hb))
      clear hb
      go_wp2_with fail
      refine (parsed_any _ w11 (HG.out.below HB11.out HG.out.size) (by rw [← lst_length]; simp only [lst_append, lst_mk, lst_arr, List.length_append, List.length_cons, List.length_nil]; simp only [mk_size, List.length_append, List.length_cons, List.length_nil] at hVz g0z g1z g2z g3z; omega)).mono ?_
      rintro e w12 ⟨tv3, rfl, htr, hb⟩
      have hview := htr.view
      simp only [lst_append, lst_mk, lst_arr] at hview
      rw [signs_bare' _ _ (by first | exact .inl ⟨rfl, rfl⟩ | exact .inr ⟨rfl, rfl⟩) (gapOf gaps 0) (gapOf gaps 1) (gapOf gaps 2) (gapOf gaps 3) (D ++ [122]) (gapOf_sp _ _) (gapOf_sp _ _) (gapOf_sp _ _) (gapOf_sp _ _) HSV.out] at hview
      have HV3_12 := Lib.hid hview
      clear hview htr
      have HB12 := Lib.hid (HB11.out.trans (hb.mono HB11.out.size))
      have HO12 := Lib.hid (HO11.out.trans (.of_below hb))
      have HV1_12 := Lib.hid (HV1_11.out.older (.of_below hb))
      have HV2_12 := Lib.hid (HV2_11.out.older (.of_below hb))
      clear hb
      obtain ⟨a1, c1, hf1⟩ := HV1_12.out.form
      have hf1' : tv1 = .slice a1 1 c1 := hf1
      have HSA := Lib.hid (fun W v => sameTokens_any v tv1 [signTok (D ++ [122])] (by simp) (fun t ht => by cases List.mem_singleton.1 ht; simp [signTok]) W)
      clear hf1
      subst hf1'
      go_wp2_with fail
      refine (HSA.out w12 tv2 HV2_12.out HV1_12.out).mono ?_
      rintro e w13 ⟨rfl, n1, rfl⟩
      go_wp2_with fail
      refine (HSA.out (w12.drewN n1) tv3 (HV3_12.out.older ⟨Nat.le_refl _, fun _ _ => rfl⟩) (HV1_12.out.older ⟨Nat.le_refl _, fun _ _ => rfl⟩)).mono ?_
      rintro e w14 ⟨rfl, n2, rfl⟩
      go_wp2_with fail
      go_ret
      exact ⟨rfl, ⟨HB12.out.os, HB12.out.tape, HB12.out.output, HB12.out.size, HB12.out.block⟩⟩

end Go.Proofs.YtniiaaghimmiaaaDoor
