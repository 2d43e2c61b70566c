/- Walks of the rows' functions: TokParts. -/
import Derived.Test.YtniiaaghimmiaaaDoorKeepB
import Derived.Test.YtniiaaghimmiaaaDoorMark
import Derived.Test.YtniiaaghimmiaaaDoorSame
import Derived.Test.YtniiaaghimmiaaaDoorApp
import Derived.Test.YtniiaaghimmiaaaDoorLawD
namespace Go.Proofs.YtniiaaghimmiaaaDoor
open Go Go.RowKit

set_option maxHeartbeats 2000000 in
set_option maxRecDepth 100000 in
theorem tokParts_any (v1 : Value) (l : List Int) (v2 : Value) (m : List Int) (w : World) (hg : Glob w) (h1 : IntRow w v1 l) (h2 : IntRow w v2 m) :
    Calls Tryd.prog 5 #[v1, v2] w fun e w' => e = .returned (.bool true) ∧ Below w.heap.size w w' := by
  have hv2 := h2.1
  have H2 := Lib.hid h2
  obtain ⟨⟨a, cap, rfl⟩, hl, hc⟩ := h1
  unfold maxLen at hl
  have HC := Lib.hid hc
  have HG := Lib.hid hg
  obtain ⟨a2, cap2, rfl⟩ := hv2
  clear hc h2 hg
  go_enter Tryd.func5, Tryd.ntmps5
  go_upto_block 0 with fail
  go_cut [5] (fun s wx => s = .string (mk (drawn partPieces (l.take 12))) ∧ Hid (Below w.heap.size w wx))
  case first =>
    go_wp2_with fail
    go_loopw [5, 6] (fun s i wr => ∃ (W : World) (k : Nat), W = wr ∧ k ≤ 12 ∧ k ≤ l.length ∧ i = .int .i64 k ∧ s = .string (mk (drawn partPieces (l.take k))) ∧ Hid (Below w.heap.size w W)) (fun _ i _ => 12 - (intOf i).toNat)
    case atStart => exact ⟨_, 0, rfl, by omega, by omega, rfl, rfl, Lib.hid (Below.refl _ _)⟩
    case round =>
      obtain ⟨W, k, rfl, hk, hkl, rfl, rfl, hb⟩ := hrel
      by_cases hlt : k < l.length ∧ k < 12
      · obtain ⟨h1, h2⟩ := hlt
        obtain ⟨x, hx⟩ : ∃ x, l[k]? = some x := ⟨_, List.getElem?_eq_getElem h1⟩
        obtain ⟨_, b, off, c, hv, hbl, hcell⟩ := HC.out k x hx
        obtain rfl : a = some ⟨b, off, none⟩ := by simp at hv; exact hv.1
        have hcell2 : W.cell? ⟨b, off + k, none⟩ = some (.int .i64 x) := by rw [hb.out.cell (p := ⟨b, off + k, none⟩) hbl]; exact hcell
        have hcell3 : (W.alloc (.cells partPiecesV 9)).cell? ⟨b, off + k, none⟩ = some (.int .i64 x) := by rw [((Below.refl W.heap.size W).alloc (Nat.le_refl _) (.cells partPiecesV 9)).cell (p := ⟨b, off + k, none⟩) (Nat.lt_of_lt_of_le hbl hb.out.size)]; exact hcell2
        clear hcell2
        obtain ⟨p, hp, hpg, hp0, hp1⟩ := drawn_get partPieces (by decide) x
        have hsn := drawn_snoc partPieces (l.take k) x
        have hz := drawn_len partPieces 8 partPieces_len (l.take k)
        have htk : l.take (k + 1) = l.take k ++ [x] := by rw [List.take_add_one, hx]; rfl
        have hplen := partPieces_len p (List.mem_of_getElem? hp)
        rw [hpg, ← htk] at hsn
        have HSN := Lib.hid hsn
        have hz2 : (drawn partPieces (l.take k)).length ≤ 2000 := by rw [List.length_take] at hz; omega
        have hl25 : (partPieces.length : Int) = 6 := rfl
        rw [hl25] at hp hp0 hp1
        have hpc := picked_any x 6
        have HPC := Lib.hid hpc
        have htb := table_cell partPieces_v W 9 hp
        generalize drawn partPieces (l.take k) = D at *
        delta partPiecesV at hcell3
        have hDz : (mk D).size ≤ 2000 := by rw [mk_size]; exact hz2
        have hPz : (mk p).size ≤ 8 := by rw [mk_size]; exact hplen
        clear hv hcell hx hz htk hsn hl25 hpc hpg hp
        have k0 : (0 : Int) ≤ k := by omega
        have k1 : (k : Int) < l.length := by omega
        have k2 : (k : Int) < 12 := by omega
        go_wp2_with fail
        refine (HPC.out _ (by decide) (by decide)).mono ?_
        rintro e w2 ⟨rfl, hw⟩
        have HB2 := Lib.hid (show Below w.heap.size w w2 by rw [← hw]; exact hb.out.alloc hb.out.size _)
        rw [hw] at htb
        clear hw hcell3
        generalize x % 6 = r at *
        go_wp2_with fail
        go_roundw
        case rel => exact ⟨_, k + 1, rfl, by omega, by omega, by go_num, by rw [HSN.out, ← cat_mk], HB2⟩
        case measure => simp [intOf]; omega
      · have hx : ((k : Int) < l.length → ¬ (k : Int) < 12) := by omega
        have hek : l.take k = l.take 12 := by
          by_cases h1 : k = l.length
          · rw [List.take_of_length_le (by omega), List.take_of_length_le (by omega)]
          · rw [show k = 12 by omega]
        rw [hek]
        clear hlt
        by_cases hks : (k : Int) < l.length
        · have hx2 := hx hks
          clear hx
          go_wp2_with fail
          go_meet
          exact ⟨rfl, hb⟩
        · clear hx
          go_wp2_with fail
          go_meet
          exact ⟨rfl, hb⟩
  case rest =>
    obtain ⟨rfl, hb⟩ := hcut
    have hlaw := tokParts_law (l.take 12) (drawn markPieces (m.take 20))
    have hDl := drawn_len partPieces 8 partPieces_len (l.take 12)
    have hEl := drawn_len markPieces 19 markPieces_len (m.take 20)
    rw [List.length_take] at hDl hEl
    have hmk := markup_text _ m 20 (by omega) wc (H2.out.older hb.out.size (fun b o h => hb.out.cell (p := ⟨b, o, none⟩) h))
    have HMK := Lib.hid hmk
    have HLAW := Lib.hid hlaw
    clear hmk hlaw
    generalize drawn partPieces (l.take 12) = D at *
    generalize drawn markPieces (m.take 20) = E at *
    have hDz : (mk D).size ≤ 96 := by rw [mk_size]; omega
    have hEz : (mk E).size ≤ 380 := by rw [mk_size]; omega
    go_wp2_with fail
    refine HMK.out.mono ?_
    rintro e w2 ⟨rfl, hb2⟩
    have HB2 := Lib.hid (hb.out.trans (hb2.mono hb.out.size))
    clear hb2
    obtain ⟨t1, ht1⟩ : ∃ t1 : ByteArray, t1 = mk D ++ ⟨#[60, 98, 62]⟩ := ⟨_, rfl⟩
    have hlt1 : lst t1 = D ++ [60, 98, 62] := by rw [ht1, show (⟨#[60, 98, 62]⟩ : ByteArray) = mk [60, 98, 62] from rfl, cat_mk, lst_mk]
    have htz : t1.size ≤ 99 := by rw [← lst_length, hlt1, List.length_append]; simp; omega
    have hG2 := HG.out.below HB2.out HG.out.size
    have hp1 := parsed_any t1 w2 hG2 (by omega)
    have hp2 := fun W h => parsed_any (mk E) W h (by omega)
    have hp3 := fun W h => parsed_any (t1 ++ mk E) W h (by rw [ByteArray.size_append]; omega)
    rw [show lst (t1 ++ mk E) = D ++ [60, 98, 62] ++ E by rw [← hlt1, ← lst_mk (lst t1 ++ E), ← cat_mk, mk_lst]] at hp3
    rw [HLAW.out] at hp3
    rw [hlt1] at hp1
    rw [lst_mk] at hp2
    have hX := fun t ht => (allM_le (D ++ [60, 98, 62]) t ht).count
    have hY := fun t ht => (allM_le E t ht).count
    have hXl := (allM_ok (D ++ [60, 98, 62])).len
    have hYl := (allM_ok E).len
    have hDl' : (D ++ [60, 98, 62]).length ≤ 99 := by rw [← hlt1, lst_length]; exact htz
    have hEl' : E.length ≤ 380 := by rw [← mk_size]; exact hEz
    generalize allM (D ++ [60, 98, 62]) = X at *
    generalize allM E = Y at *
    have HP1 := Lib.hid hp1
    have HP2 := Lib.hid hp2
    have HP3 := Lib.hid hp3
    have HX := Lib.hid hX
    have HY := Lib.hid hY
    have HT1 := Lib.hid ht1
    clear hp1 hp2 hp3 hX hY hlt1 hG2 HLAW HMK hb
    have hXz : X.length ≤ 100 := by omega
    have hYz : Y.length ≤ 400 := by omega
    clear hXl hYl
    go_wp2_with fail
    rw [← HT1.out]
    refine HP1.out.mono ?_
    rintro e w3 ⟨tv1, rfl, htr1, hb3⟩
    have HB3 := Lib.hid (HB2.out.trans (hb3.mono HB2.out.size))
    have HTR1 := Lib.hid htr1
    clear hb3 htr1
    go_wp2_with fail
    refine (HP2.out w3 (HG.out.below HB3.out HG.out.size)).mono ?_
    rintro e w4 ⟨tv2, rfl, htr2, hb4⟩
    have HB4 := Lib.hid (HB3.out.trans (hb4.mono HB3.out.size))
    have HV1 := Lib.hid (HTR1.out.view.older (.of_below hb4))
    have HTR2 := Lib.hid htr2
    clear hb4 htr2
    go_wp2_with fail
    rw [← HT1.out]
    refine (HP3.out w4 (HG.out.below HB4.out HG.out.size)).mono ?_
    rintro e w5 ⟨tv3, rfl, htr3, hb5⟩
    have HB5 := Lib.hid (HB4.out.trans (hb5.mono HB4.out.size))
    have HV1' := Lib.hid (HV1.out.older (.of_below hb5))
    have HV2 := Lib.hid (HTR2.out.view.older (.of_below hb5))
    have HV3 := Lib.hid htr3.view
    clear hb5 htr3
    have hB6 : w5.heap.size ≤ w5.heap.size := Nat.le_refl _
    go_wp2_with (first
      | (at_builtin; refine wpList_append_toks (by rfl) (.const (.slice none 0 0)) (.tmp 63) (by rfl) w5.heap.size (.slice none 0 0) tv1 [] X (by rfl) (by rfl) (TokOwn.nil _ _) HV1'.out (by simp) (by omega) hB6 ?_; intro v6 w6 hown6 hgr6; have HO6 := Lib.hid (show TokOwn w5.heap.size w6 v6 X from hown6); have HB6 := Lib.hid (grown_below hgr6 (TokOwn.nil _ _) hB6); have HV2b := Lib.hid (HV2.out.older (.of_below HB6.out)); have HV3b := Lib.hid (HV3.out.older (.of_below HB6.out)); have hB7 := HB6.out.size; clear hown6 hgr6)
      | (at_builtin; refine wpList_append_toks (by rfl) (.tmp 64) (.tmp 65) (by rfl) w5.heap.size v6 tv2 X Y (by rfl) (by rfl) HO6.out HV2b.out (by omega) (by omega) hB7 ?_; intro v7 w7 hown7 hgr7; have HO7 := Lib.hid hown7.view; have HB7 := Lib.hid (HB6.out.trans (grown_below hgr7 HO6.out hB7)); have HV3c := Lib.hid (HV3.out.older (.of_below HB7.out)); clear hown7 hgr7))
    refine (sameTokens_any v7 tv3 (X ++ Y) (by rw [List.length_append]; omega) (fun t ht => (List.mem_append.1 ht).elim (fun h => Nat.le_trans (HX.out t h) (by omega)) (fun h => Nat.le_trans (HY.out t h) (by omega))) w7 HO7.out HV3c.out).mono ?_
    rintro e w8 ⟨rfl, nq, rfl⟩
    have HB8 := Lib.hid (HB5.out.trans (HB7.out.mono HB5.out.size))
    go_wp2_with fail
    go_ret
    exact ⟨rfl, ⟨HB8.out.os, HB8.out.tape, HB8.out.output, HB8.out.size, HB8.out.block⟩⟩
end Go.Proofs.YtniiaaghimmiaaaDoor
