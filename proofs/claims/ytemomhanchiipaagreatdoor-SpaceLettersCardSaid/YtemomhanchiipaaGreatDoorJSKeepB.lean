/- Walks of the rows' functions: SpaceTree, SpaceLetters. -/
import Derived.Test.YtemomhanchiipaaGreatDoorGs
import Derived.Test.YtemomhanchiipaaGreatDoorGq
import Derived.Test.YtemomhanchiipaaGreatDoorGk
import Derived.Test.YtemomhanchiipaaGreatDoorGh
namespace Go.Proofs.YtemomhanchiipaaGreatDoor
open Go Go.RowKit

theorem count_rootS (l : List TTok) (h : BuildOk l) : countL (buildM l) ≤ 150 := by
  obtain ⟨n, h1, h2⟩ := root_count l
  have := h.count
  omega
set_option maxHeartbeats 1000000 in
theorem spaceSure_any (w : World) : Calls Tryz.prog 24 #[] w fun e w' => e = .returned (.bool true) ∧ Below w.heap.size w w' := by
  have HC := Lib.hid (sptext_any [32, 97, 32, 32, 98] true (by decide) w)
  rw [show mk (spT true [32, 97, 32, 32, 98]) = ⟨#[97, 32, 98]⟩ from by decide, show mk [32, 97, 32, 32, 98] = ⟨#[32, 97, 32, 32, 98]⟩ from rfl] at HC
  go_enter Tryz.func24, Tryz.ntmps24
  go_wp2_with fail
  refine HC.out.mono ?_
  rintro e w1 ⟨rfl, hb1⟩
  have HB1 := Lib.hid hb1
  clear hb1
  go_wp2_with fail
  go_ret
  exact ⟨rfl, HB1.out⟩

set_option maxHeartbeats 4000000 in
set_option maxRecDepth 100000 in
theorem spaceTree_any (v1 : Value) (l : List Int) (w : World) (hg : Glob w) (htb : Tabs w) (h1 : IntRow w v1 l) :
    Calls Tryz.prog 6 #[v1] w fun e w' => e = .returned (.bool true) ∧ Below w.heap.size w w' := by
  have HG := Lib.hid hg
  have HT := Lib.hid htb
  have HMK := Lib.hid (markup_text v1 l 30 (by omega) w h1)
  have hok := build_mark l
  have hDl := drawn_len markPieces 19 markPieces_len (l.take 30)
  rw [List.length_take] at hDl
  clear hg htb h1
  generalize drawn markPieces (l.take 30) = D at *
  have hDz : (mk D).size ≤ 600 := by rw [mk_size]; omega
  have HBU := Lib.hid (fun W h1 h2 => built_any (mk D) W h1 h2 hDz (by rw [lst_mk]; exact hok))
  rw [lst_mk] at HBU
  have hct := count_rootS _ hok
  have hap := (Go.Proofs.YtemomhanchiipaaGreatDoor.deep_law (allM D) hok.names).2
  obtain ⟨hsm, -⟩ := build_sm _ hok
  clear hok
  generalize buildM (allM D) = X at *
  have hca := spL_count X true
  have hsa := spL_sm X true hsm
  have haa := spL_apart X false true hap
  have hga := spL_sgl X true false hap
  have HTW := Lib.hid (show (spL true (spL true X).1).1 = (spL true X).1 by rw [spL_twice])
  have HFI := Lib.hid (sp_first X false hap)
  have HSN1 := Lib.hid (fun v W h => spaceNodes_any 12 v X W h (by omega) hsm hap)
  generalize hA : (spL true X).1 = A at *
  have HSN2 := Lib.hid (fun v W h => spaceNodes_any 13 v A W h (by omega) hsa haa)
  rw [HTW.out] at HSN2
  have HSM := Lib.hid (fun v2 v3 W h1 h2 => sameNodes_any 13 14 v2 v3 A W h1 h2 (by omega) hsa)
  have HAP := Lib.hid (fun v W h => apart_any 13 v A W h (by omega) haa)
  have HSG := Lib.hid (fun v W h => singleBlanks_any 13 v A W h (by omega) hsa hga)
  clear hct hca hsa haa hga hsm hap hA HTW
  go_enter Tryz.func6, Tryz.ntmps6
  go_wp2_with fail
  refine HMK.out.mono ?_
  rintro e w1 ⟨rfl, hb1⟩
  have HB1 := Lib.hid hb1
  clear hb1
  go_wp2_with fail
  refine (HBU.out w1 (HG.out.below HB1.out HG.out.size) (HT.out.below HB1.out HT.out.size)).mono ?_
  rintro e w2 ⟨v, rfl, hv, hb2⟩
  have HB2 := Lib.hid (HB1.out.trans (hb2.mono HB1.out.size))
  have HS1 := Lib.hid (HSN1.out v w2 hv)
  clear hv hb2
  go_wp2_with fail
  refine HS1.out.mono ?_
  rintro e w3 ⟨va, rfl, hva, hb3⟩
  have HB3 := Lib.hid (HB2.out.trans (hb3.mono HB2.out.size))
  have HVA := Lib.hid hva
  have HS2 := Lib.hid (HSN2.out va w3 hva)
  obtain ⟨aa, ac, haf⟩ := hva.form
  subst haf
  clear hva hb3
  go_wp2_with fail
  refine HS2.out.mono ?_
  rintro e w4 ⟨vb, rfl, hvb, hb4⟩
  have HB4 := Lib.hid (HB3.out.trans (hb4.mono HB3.out.size))
  have HVA4 := Lib.hid (HVA.out.older (.of_below hb4))
  have HVB4 := Lib.hid hvb
  obtain ⟨ba, bc, hbf⟩ := hvb.form
  subst hbf
  have HSU := Lib.hid (spaceSure_any w4)
  clear hvb hb4
  go_wp2_with fail
  refine HSU.out.mono ?_
  rintro e w5 ⟨rfl, hb5⟩
  have HB5 := Lib.hid (HB4.out.trans (hb5.mono HB4.out.size))
  have HVA5 := Lib.hid (HVA4.out.older (.of_below hb5))
  have HC5 := Lib.hid (HSM.out _ _ w5 HVA5.out (HVB4.out.older (.of_below hb5)))
  clear hb5
  go_wp2_with fail
  refine HC5.out.mono ?_
  rintro e w6 ⟨rfl, q, hw6⟩
  have HB6 := Lib.hid (show Below w.heap.size w w6 by rw [hw6]; exact ⟨HB5.out.os, HB5.out.tape, HB5.out.output, HB5.out.size, HB5.out.block⟩)
  have HVA6 := Lib.hid (show NodeView 13 w6 (.slice aa A.length ac) A by rw [hw6]; exact HVA5.out.older ⟨Nat.le_refl _, fun _ _ => rfl⟩)
  have HC6 := Lib.hid (HAP.out _ w6 HVA6.out)
  have HD6 := Lib.hid (HSG.out _ w6 HVA6.out)
  clear hw6
  go_wp2_with fail
  refine HC6.out.mono ?_
  rintro e w7 ⟨rfl, hw⟩
  rw [← hw]
  clear hw
  go_wp2_with fail
  refine HD6.out.mono ?_
  rintro e w8 ⟨rfl, hw⟩
  rw [← hw]
  clear hw
  cases A with
  | nil =>
    simp only [List.length_nil]
    go_wp2_with fail
    go_ret
    exact ⟨rfl, HB6.out⟩
  | cons x r =>
    obtain ⟨_, _, g, c, _, _, hf, _, _, _, hat, _, _⟩ := HVA6.out.get 0 x rfl
    obtain rfl : aa = some ⟨g, 0, none⟩ := by simp at hf; exact hf.1
    have a2 : w6.cell? ⟨g, 2, none⟩ = some (.string (mk x.text)) := by have h := hat.txt; rw [Nat.zero_mul, Nat.zero_add] at h; exact h
    have hfi := HFI.out x rfl
    have n0 : 0 < (x :: r).length := by simp
    generalize (x :: r).length = n at *
    have n1 : (0 : Int) < n := by omega
    have n2 : ((n : Int) == 0) = false := beq_eq_false_iff_ne.2 (by omega)
    have n3 : (n == 0) = false := beq_eq_false_iff_ne.2 (by omega)
    have n4 : ¬ n = 0 := by omega
    clear hf hat
    by_cases hx : x.text = []
    · rw [hx] at a2
      have a2' : w6.cell? ⟨g, 2, none⟩ = some (.string ⟨#[]⟩) := a2
      clear a2 hx hfi
      go_wp2_with fail
      go_ret
      exact ⟨rfl, HB6.out⟩
    · have f1 := sBeqF hx
      have f2 := sEqF hx
      have f3 := sEmpF hx
      have hh := hfi.resolve_left hx
      have hpos : 0 < (mk x.text).size := by
        rw [mk_size]
        exact List.length_pos_iff.2 hx
      obtain ⟨y, hy⟩ : ∃ y, (mk x.text)[0]'hpos = y := ⟨_, rfl⟩
      have hyi : x.text[0]? = some y := by
        have h := lst_get (mk x.text) 0 hpos
        rw [lst_mk, hy] at h
        exact h
      have hy32 : y ≠ 32 := fun e => hh (by rw [List.head?_eq_getElem?, hyi, e])
      have f4 : ((y.toNat : Int) == 32) = false := byteNe (n := 32) hy32 (by decide)
      have hpos2 : (0 : Int) < (mk x.text).size := by omega
      have f5 : ((y.toNat : Int) != 32) = true := by rw [bne, f4]; rfl
      clear hx hfi hh hyi hy32
      go_wp2_with fail
      go_ret
      exact ⟨rfl, HB6.out⟩

set_option maxHeartbeats 4000000 in
set_option maxRecDepth 100000 in
theorem spaceLetters_any (v1 : Value) (l : List Int) (w : World) (hg : Glob w) (htb : Tabs w) (h1 : IntRow w v1 l) :
    Calls Tryz.prog 7 #[v1] w fun e w' => e = .returned (.bool true) ∧ Below w.heap.size w w' := by
  have HG := Lib.hid hg
  have HT := Lib.hid htb
  have HMK := Lib.hid (markup_text v1 l 30 (by omega) w h1)
  have hok := build_mark l
  have hDl := drawn_len markPieces 19 markPieces_len (l.take 30)
  rw [List.length_take] at hDl
  clear hg htb h1
  generalize drawn markPieces (l.take 30) = D at *
  have hDz : (mk D).size ≤ 600 := by rw [mk_size]; omega
  have HBU := Lib.hid (fun W h1 h2 => built_any (mk D) W h1 h2 hDz (by rw [lst_mk]; exact hok))
  rw [lst_mk] at HBU
  have hct := count_rootS _ hok
  have hap := (Go.Proofs.YtemomhanchiipaaGreatDoor.deep_law (allM D) hok.names).2
  obtain ⟨hsm, hwl⟩ := build_sm _ hok
  clear hok
  generalize buildM (allM D) = X at *
  have hca := spL_count X true
  have hwa := spL_words X true
  have HLT := Lib.hid (spL_letters X true false hap)
  have HCN := Lib.hid (spL_cnt [98] X true)
  have HSN1 := Lib.hid (fun v W h => spaceNodes_any 12 v X W h (by omega) hsm hap)
  generalize hA : (spL true X).1 = A at *
  have HW1 := Lib.hid (fun v W h => words_any 12 v X W h (by omega) (by omega))
  have HW2 := Lib.hid (fun v W h => words_any 13 v A W h (by omega) (by omega))
  have HC1 := Lib.hid (fun v W h => countNamed_any 12 v X [98] W h (by omega))
  have HC2 := Lib.hid (fun v W h => countNamed_any 13 v A [98] W h (by omega))
  rw [HCN.out] at HC2
  have hwX : (wordsL X).length ≤ 100000 := hwl
  have hwA : (wordsL A).length ≤ 100000 := by omega
  clear hct hca hwa hwl hsm hap hA HCN
  generalize wordsL X = S at *
  generalize wordsL A = R at *
  generalize cntL [98] X = C at *
  obtain ⟨cx, cy⟩ := C
  have hSz : (mk S).size = S.length := mk_size S
  have hRz : (mk R).size = R.length := mk_size R
  have HSZ := Lib.hid hSz
  have HRZ := Lib.hid hRz
  clear hSz hRz
  rw [show mk [98] = ⟨#[98]⟩ from rfl] at HC1 HC2
  go_enter Tryz.func7, Tryz.ntmps7
  go_wp2_with fail
  refine HMK.out.mono ?_
  rintro e w1 ⟨rfl, hb1⟩
  have HB1 := Lib.hid hb1
  clear hb1
  go_wp2_with fail
  refine (HBU.out w1 (HG.out.below HB1.out HG.out.size) (HT.out.below HB1.out HT.out.size)).mono ?_
  rintro e w2 ⟨v, rfl, hv, hb2⟩
  have HB2 := Lib.hid (HB1.out.trans (hb2.mono HB1.out.size))
  have HV2 := Lib.hid hv
  have HS1 := Lib.hid (HSN1.out v w2 hv)
  clear hv hb2
  go_wp2_with fail
  refine HS1.out.mono ?_
  rintro e w3 ⟨va, rfl, hva, hb3⟩
  have HB3 := Lib.hid (HB2.out.trans (hb3.mono HB2.out.size))
  have HVA := Lib.hid hva
  have HVX := Lib.hid (HV2.out.older (.of_below hb3))
  have HX3 := Lib.hid (HW1.out v w3 HVX.out)
  clear hva hb3
  go_wp2_with fail
  refine HX3.out.mono ?_
  rintro e w4 ⟨rfl, q1, hw4⟩
  have HB4 := Lib.hid (show Below w.heap.size w w4 by rw [hw4]; exact ⟨HB3.out.os, HB3.out.tape, HB3.out.output, HB3.out.size, HB3.out.block⟩)
  have HVA4 := Lib.hid (show NodeView 13 w4 va A by rw [hw4]; exact HVA.out.older ⟨Nat.le_refl _, fun _ _ => rfl⟩)
  have HVX4 := Lib.hid (show NodeView 12 w4 v X by rw [hw4]; exact HVX.out.older ⟨Nat.le_refl _, fun _ _ => rfl⟩)
  clear hw4
  go_wp2_with fail
  go_loop [6, 9] (fun x i => ∃ k : Nat, k ≤ S.length ∧ i = .int .i64 k ∧ x = .string (mk ((S.take k).filter (fun c => !isSp c)))) (fun _ i => S.length - (intOf i).toNat)
  case atStart => exact ⟨0, by omega, rfl, rfl⟩
  case round =>
    obtain ⟨k, hk, rfl, rfl⟩ := hrel
    by_cases hlt : k < S.length
    · have hl1 : k < (mk S).size := by rw [HSZ.out]; exact hlt
      obtain ⟨x, hx⟩ : ∃ x, (mk S)[k]'hl1 = x := ⟨_, rfl⟩
      have hxi : S[k]? = some x := by
        have h := lst_get (mk S) k hl1
        rw [lst_mk, hx] at h
        exact h
      have hst : (S.take (k + 1)).filter (fun c => !isSp c) = (S.take k).filter (fun c => !isSp c) ++ (if (!isSp x) = true then [x] else []) := by
        rw [List.take_add_one, hxi, List.filter_append]
        congr 1
        simp only [Option.toList_some, List.filter_cons, List.filter_nil]
      have hsx : (!isSp x) = (((x.toNat : Int) != 32) && ((x.toNat : Int) != 9) && ((x.toNat : Int) != 10) && ((x.toNat : Int) != 12)) := by
        unfold isSp
        have e1 : (x == 32) = ((x.toNat : Int) == 32) := byteEq x 32
        have e2 : (x == 9) = ((x.toNat : Int) == 9) := byteEq x 9
        have e3 : (x == 10) = ((x.toNat : Int) == 10) := byteEq x 10
        have e4 : (x == 12) = ((x.toNat : Int) == 12) := byteEq x 12
        rw [e1, e2, e3, e4]
        simp only [bne, Bool.not_or]
      rw [hsx] at hst
      have hTz := List.length_filter_le (fun c : UInt8 => !isSp c) (S.take k)
      rw [List.length_take] at hTz
      generalize (S.take k).filter (fun c => !isSp c) = T at *
      have hcat : mk T ++ (mk S).extract k (k + 1) = mk (T ++ [x]) := by
        apply ext_lst
        have h1 : lst (mk T ++ (mk S).extract k (k + 1)) = lst (mk T) ++ lst ((mk S).extract k (k + 1)) := by simp [lst, ByteArray.data_append]
        rw [h1, lst_mk, lst_mk, lst_extract, lst_mk, List.drop_eq_getElem_cons hlt, (List.getElem?_eq_some_iff.1 hxi).2, show k + 1 - k = 1 by omega]
        rfl
      have HCAT := Lib.hid hcat
      have HST := Lib.hid hst
      have k0 : (0 : Int) ≤ k := by omega
      have k1 : (k : Int) < (mk S).size := by omega
      have k3 : (k : Int) + 1 ≤ (mk S).size := by omega
      have k4 : IntKind.i64.wrap ((k : Int) + 1) = (k : Int) + 1 := IntWalk.i64_in _ (by omega)
      have k5 : ((k : Int) + 1).toNat = k + 1 := by omega
      have hTz2 : (mk T).size ≤ 100000 := by rw [mk_size]; omega
      clear hst hcat hsx hxi hTz
      cases h1 : ((x.toNat : Int) != 32) <;> cases h2 : ((x.toNat : Int) != 9) <;> cases h3 : ((x.toNat : Int) != 10) <;> cases h4 : ((x.toNat : Int) != 12)
      all_goals
        rw [h1, h2, h3, h4] at HST
        go_wp2_with fail
        go_round
        case rel => exact ⟨k + 1, by omega, by go_num, by rw [HST.out] <;> simp <;> exact HCAT.out⟩
        case measure => simp [intOf]; omega
    · obtain rfl : k = S.length := by omega
      rw [List.take_length]
      have k1 : ¬ ((S.length : Int) < (mk S).size) := by rw [HSZ.out]; omega
      have k2 : ¬ (S.length < (mk S).size) := by rw [HSZ.out]; omega
      have HXS := Lib.hid HLT.out
      have hY := List.length_filter_le (fun c : UInt8 => !isSp c) S
      generalize hYe : S.filter (fun c => !isSp c) = Y at *
      have HX4 := Lib.hid (HW2.out va w4 HVA4.out)
      clear hYe hlt
      go_wp2_with fail
      refine HX4.out.mono ?_
      rintro e w5 ⟨rfl, q2, hw5⟩
      have HB5 := Lib.hid (show Below w.heap.size w w5 by rw [hw5]; exact ⟨HB4.out.os, HB4.out.tape, HB4.out.output, HB4.out.size, HB4.out.block⟩)
      have HVA5 := Lib.hid (show NodeView 13 w5 va A by rw [hw5]; exact HVA4.out.older ⟨Nat.le_refl _, fun _ _ => rfl⟩)
      have HVX5 := Lib.hid (show NodeView 12 w5 v X by rw [hw5]; exact HVX4.out.older ⟨Nat.le_refl _, fun _ _ => rfl⟩)
      clear hw5 k1 k2
      go_wp2_with fail
      go_loop [7, 10] (fun x i => ∃ k : Nat, k ≤ R.length ∧ i = .int .i64 k ∧ x = .string (mk ((R.take k).filter (fun c => c != 32)))) (fun _ i => R.length - (intOf i).toNat)
      case atStart => exact ⟨0, by omega, rfl, rfl⟩
      case round =>
        obtain ⟨k, hk, rfl, rfl⟩ := hrel
        by_cases hlt : k < R.length
        · have hl1 : k < (mk R).size := by rw [HRZ.out]; exact hlt
          obtain ⟨x, hx⟩ : ∃ x, (mk R)[k]'hl1 = x := ⟨_, rfl⟩
          have hxi : R[k]? = some x := by
            have h := lst_get (mk R) k hl1
            rw [lst_mk, hx] at h
            exact h
          have hst : (R.take (k + 1)).filter (fun c => c != 32) = (R.take k).filter (fun c => c != 32) ++ (if (x != 32) = true then [x] else []) := by
            rw [List.take_add_one, hxi, List.filter_append]
            congr 1
            simp only [Option.toList_some, List.filter_cons, List.filter_nil]
          have hsx : (x != 32) = ((x.toNat : Int) != 32) := congrArg (! ·) (byteEq x 32)
          rw [hsx] at hst
          have hTz := List.length_filter_le (fun c : UInt8 => c != 32) (R.take k)
          rw [List.length_take] at hTz
          generalize (R.take k).filter (fun c => c != 32) = T at *
          have hcat : mk T ++ (mk R).extract k (k + 1) = mk (T ++ [x]) := by
            apply ext_lst
            have h1 : lst (mk T ++ (mk R).extract k (k + 1)) = lst (mk T) ++ lst ((mk R).extract k (k + 1)) := by simp [lst, ByteArray.data_append]
            rw [h1, lst_mk, lst_mk, lst_extract, lst_mk, List.drop_eq_getElem_cons hlt, (List.getElem?_eq_some_iff.1 hxi).2, show k + 1 - k = 1 by omega]
            rfl
          have HCAT := Lib.hid hcat
          have HST := Lib.hid hst
          have k0 : (0 : Int) ≤ k := by omega
          have k1 : (k : Int) < (mk R).size := by omega
          have k3 : (k : Int) + 1 ≤ (mk R).size := by omega
          have k4 : IntKind.i64.wrap ((k : Int) + 1) = (k : Int) + 1 := IntWalk.i64_in _ (by omega)
          have k5 : ((k : Int) + 1).toNat = k + 1 := by omega
          have hTz2 : (mk T).size ≤ 100000 := by rw [mk_size]; omega
          clear hst hcat hsx hxi hTz
          cases h1 : ((x.toNat : Int) != 32)
          all_goals
            rw [h1] at HST
            go_wp2_with fail
            go_round
            case rel => exact ⟨k + 1, by omega, by go_num, by rw [HST.out] <;> simp <;> exact HCAT.out⟩
            case measure => simp [intOf]; omega
        · obtain rfl : k = R.length := by omega
          rw [List.take_length, HXS.out]
          have k1 : ¬ ((R.length : Int) < (mk R).size) := by rw [HRZ.out]; omega
          have k2 : ¬ (R.length < (mk R).size) := by rw [HRZ.out]; omega
          have HN1 := Lib.hid (HC1.out v w5 HVX5.out)
          have HN2 := Lib.hid (HC2.out va w5 HVA5.out)
          have s1 : ((mk Y).toList == (mk Y).toList) = true := beq_self_eq_true _
          clear hlt
          go_wp2_with fail
          refine HN1.out.mono ?_
          rintro e w6 ⟨rfl, hw⟩
          rw [← hw]
          clear hw
          go_wp2_with fail
          refine HN2.out.mono ?_
          rintro e w6 ⟨rfl, hw⟩
          rw [← hw]
          clear hw
          have HSU := Lib.hid (spaceSure_any w5)
          go_wp2_with fail
          refine HSU.out.mono ?_
          rintro e w7 ⟨rfl, hb7⟩
          have HB7 := Lib.hid (HB5.out.trans (hb7.mono HB5.out.size))
          clear hb7
          go_wp2_with fail
          go_ret
          exact ⟨rfl, HB7.out⟩

end Go.Proofs.YtemomhanchiipaaGreatDoor
