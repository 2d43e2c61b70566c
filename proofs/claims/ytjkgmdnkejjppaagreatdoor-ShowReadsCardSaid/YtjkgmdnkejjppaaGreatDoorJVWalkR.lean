/- Walks of the reference's ShowRead and of ShowReads. -/
import Derived.Test.YtjkgmdnkejjppaaGreatDoorGv
import Derived.Test.YtjkgmdnkejjppaaGreatDoorGx
import Derived.Test.YtjkgmdnkejjppaaGreatDoorJVWalkN
import Derived.Test.YtjkgmdnkejjppaaGreatDoorJVWalkG
namespace Go.Proofs.YtjkgmdnkejjppaaGreatDoor
open Go Go.RowKit

set_option maxHeartbeats 2000000 in
set_option maxRecDepth 100000 in
theorem rread_any (S : Bytes) (w : World) :
    Calls Tryz.prog 6 #[.string (mk S)] w fun e w' => ∃ v d, e = .returned (.tuple #[v, .int .i64 (refReadS S).2]) ∧ NodeView d w' v (refReadS S).1 ∧ Below w.heap.size w w' := by
  have hsz : (mk S).size = S.length := mk_size _
  have HNIL := Lib.hid (fun (W : World) => (show NodeView 0 W (.slice none 0 0) [] from ⟨rfl, none, 0, rfl⟩))
  by_cases h6 : 600 < S.length
  · have HR := Lib.hid (show refReadS S = ([], 1) by unfold refReadS; rw [if_pos h6])
    have c1 : (600 : Int) < (mk S).size := by rw [hsz]; omega
    clear hsz
    go_enter Tryz.func6, Tryz.ntmps6
    go_wp2_with fail
    exact bodyPost_ret (v := .tuple #[.slice none 0 0, .int .i64 1]) (by simp [results, Tryz.results6, go_sem]) rfl ⟨_, 0, by rw [HR.out], by rw [HR.out]; exact HNIL.out _, Below.refl _ _⟩
  · have c1 : ¬ (600 : Int) < (mk S).size := by rw [hsz]; omega
    have HX := Lib.hid (show refReadS S = if (nodesC S false []).2.2 = true ∨ (nodesC S false []).2.1 ≠ [] then ([], 4) else if textS (nodesC S false []).1 = (S, 0) then ((nodesC S false []).1, 0) else ([], 4) by unfold refReadS; rw [if_neg h6]; rfl)
    have hsm := nodesC_small S (by omega)
    obtain ⟨w1, hw1⟩ : ∃ w1, w1 = w.alloc (.cells #[.string (mk S), .int .i64 0, .bool false] 54) := ⟨_, rfl⟩
    have hb1 : Below w.heap.size w w1 := by rw [hw1]; exact (Below.refl _ _).alloc (Nat.le_refl _) _
    have hN : w1.heap[w.heap.size]? = some (.cells #[.string (mk S), .int .i64 0, .bool false] 54 (0, 0)) := by rw [hw1]; exact heap_alloc_new _ _
    have hrd : RdR w1 w.heap.size (mk S) S false := ⟨0, hN, Nat.zero_le _, by rw [lst_mk]; rfl⟩
    have HN := Lib.hid (rnodes_any S.length w.heap.size (mk S) S false w1 (Nat.le_refl _) (by omega) hrd)
    have HB1 := Lib.hid hb1
    have HW1 := Lib.hid hw1
    generalize nodesC S false [] = X at *
    obtain ⟨l, r, bad⟩ := X
    have HSM := Lib.hid hsm
    clear hb1 hN hrd hw1 hsm
    go_enter Tryz.func6, Tryz.ntmps6
    go_upto_region 4 with fail
    rw [← HW1.out]
    go_wp2_with fail
    refine HN.out.mono ?_
    rintro e w2 ⟨hon, hrd, ov, rfl, hown⟩
    have hon' : Only w.heap.size w1 w2 := hon
    have hrd' : RdR w2 w.heap.size (mk S) r bad := hrd
    have hown' : NodeOwn S.length w1.heap.size w2 ov l := hown
    have hb2 : Below w.heap.size w w2 := HB1.out.trans (Kept.below hon' (fun k hk e => by omega) HB1.out.size)
    have HB2 := Lib.hid hb2
    have HV2 := Lib.hid hown'.view.any
    obtain ⟨oa, oc, hof⟩ := hown'.form
    subst hof
    obtain ⟨at_, hr0, hle, hdr⟩ := hrd'
    obtain ⟨d0, d1, d2, -, -, -⟩ := hr0.all
    rw [lst_mk] at hdr
    clear hon hrd hown hon' hown' hb2 hr0
    cases bad with
    | true =>
      have HR := Lib.hid (show refReadS S = ([], 4) by rw [HX.out, if_pos (.inl rfl)])
      clear hdr
      go_wp2_with fail
      exact bodyPost_ret (v := .tuple #[.slice none 0 0, .int .i64 4]) (by simp [results, Tryz.results6, go_sem]) rfl ⟨.slice none 0 0, 0, by rw [HR.out], by rw [HR.out]; exact HNIL.out _, HB2.out⟩
    | false =>
      by_cases hr : r = []
      · subst hr
        have ha : at_ = S.length := by
          have := congrArg List.length hdr
          rw [List.length_drop] at this
          simp at this
          omega
        subst ha
        have c2 : ¬ (S.length : Int) < S.length := by omega
        have hsm2 : countL l ≤ 600 ∧ SzL l := HSM.out
        have HX2 := Lib.hid (show refReadS S = if textS l = (S, 0) then (l, 0) else ([], 4) by rw [HX.out, if_neg (by simp)])
        have HT := Lib.hid (rtext_any _ _ l w2 HV2.out (by omega) (by have := deep_countL l; omega) hsm2.2)
        clear hdr hsm2
        generalize textS l = y at *
        obtain ⟨T, E⟩ := y
        go_wp2_with fail
        refine HT.out.mono ?_
        rintro e w3 ⟨rfl, hb3⟩
        have HB3 := Lib.hid (HB2.out.trans (hb3.mono HB2.out.size))
        have HV3 := Lib.hid (HV2.out.older (.of_below hb3))
        clear hb3
        by_cases hE : E = 0
        · subst hE
          by_cases hS : T = S
          · subst hS
            have HR := Lib.hid (show refReadS T = (l, 0) by rw [HX2.out, if_pos rfl])
            have s1 : ((mk T).toList == (mk T).toList) = true := beq_self_eq_true _
            go_wp2_with fail
            exact bodyPost_ret (v := .tuple #[.slice oa l.length oc, .int .i64 0]) (by simp [results, Tryz.results6, go_sem]) rfl ⟨.slice oa l.length oc, _, by rw [HR.out], by rw [HR.out]; exact HV3.out, HB3.out⟩
          · have HR := Lib.hid (show refReadS S = ([], 4) by rw [HX2.out, if_neg (fun h => hS (congrArg Prod.fst h))])
            have f1 : ((mk T).toList == (mk S).toList) = false := by rw [toList_mk, toList_mk]; exact beq_eq_false_iff_ne.2 hS
            have f2 : ¬ (mk T).toList = (mk S).toList := by rw [toList_mk, toList_mk]; exact hS
            clear hS
            go_wp2_with fail
            exact bodyPost_ret (v := .tuple #[.slice none 0 0, .int .i64 4]) (by simp [results, Tryz.results6, go_sem]) rfl ⟨.slice none 0 0, 0, by rw [HR.out], by rw [HR.out]; exact HNIL.out _, HB3.out⟩
        · have x1 : (E == 0) = false := beq_eq_false_iff_ne.2 hE
          have x2 : (E != 0) = true := by rw [bne_iff_ne]; exact hE
          have HR := Lib.hid (show refReadS S = ([], 4) by rw [HX2.out, if_neg (fun h => hE (congrArg Prod.snd h))])
          go_wp2_with fail
          exact bodyPost_ret (v := .tuple #[.slice none 0 0, .int .i64 4]) (by simp [results, Tryz.results6, go_sem]) rfl ⟨.slice none 0 0, 0, by rw [HR.out], by rw [HR.out]; exact HNIL.out _, HB3.out⟩
      · have ha : at_ < S.length := by
          rcases Nat.lt_or_ge at_ S.length with h | h
          · exact h
          · exact absurd (by rw [← hdr, List.drop_eq_nil_of_le h]) hr
        have c2 : (at_ : Int) < S.length := by omega
        have HR := Lib.hid (show refReadS S = ([], 4) by rw [HX.out, if_pos (.inr hr)])
        clear hdr hr
        go_wp2_with fail
        exact bodyPost_ret (v := .tuple #[.slice none 0 0, .int .i64 4]) (by simp [results, Tryz.results6, go_sem]) rfl ⟨.slice none 0 0, 0, by rw [HR.out], by rw [HR.out]; exact HNIL.out _, HB2.out⟩

set_option maxHeartbeats 2000000 in
set_option maxRecDepth 100000 in
theorem showReads_any (s : ByteArray) (w : World) (hg : Glob w) :
    Calls Tryz.prog 3 #[.string s] w fun e w' => e = .returned (.bool true) ∧ Below w.heap.size w w' := by
  obtain ⟨S, rfl⟩ : ∃ S, s = mk S := ⟨lst s, (mk_lst s).symm⟩
  have HR1 := Lib.hid (sread_any S w hg)
  have HR2 := Lib.hid (fun W => rread_any S W)
  rw [refRead_eq] at HR2
  have hsm : SzL (readS S).1 ∧ countL (readS S).1 ≤ 100000 := by
    by_cases h6 : 600 < S.length
    · rw [show readS S = ([], 1) by unfold readS; rw [if_pos h6]]
      exact ⟨by rw [SzL]; trivial, by rw [countL]; omega⟩
    · have := readS_small S (by omega)
      exact ⟨this.1, by omega⟩
  have HSM := Lib.hid hsm
  clear hg hsm
  generalize readS S = x at *
  obtain ⟨l, k⟩ := x
  go_enter Tryz.func3, Tryz.ntmps3
  go_wp2_with fail
  refine HR1.out.mono ?_
  rintro e w1 ⟨v, rfl, hv, hb1⟩
  have HB1 := Lib.hid hb1
  have hv' : NodeView 1001 w1 v l := hv
  have HV1 := Lib.hid hv'
  obtain ⟨va, vc, hvf⟩ := hv'.form
  subst hvf
  clear hb1 hv hv'
  go_wp2_with fail
  refine (HR2.out w1).mono ?_
  rintro e w2 ⟨v2, d2, rfl, hv2, hb2⟩
  have HB2 := Lib.hid (HB1.out.trans (hb2.mono HB1.out.size))
  have hv2' : NodeView d2 w2 v2 l := hv2
  have HV2 := Lib.hid hv2'
  obtain ⟨v2a, v2c, hvf⟩ := hv2'.form
  subst hvf
  have HSAME := Lib.hid (refNodes_any 1001 d2 _ _ l w2 HSM.out.2 HSM.out.1 (HV1.out.older (.of_below hb2)) HV2.out)
  clear hb2 hv2 hv2'
  have s1 : (k == k) = true := beq_self_eq_true k
  go_wp2_with fail
  refine HSAME.out.mono ?_
  rintro e w3 ⟨rfl, hb3⟩
  have HB3 := Lib.hid (HB2.out.trans (hb3.mono HB2.out.size))
  clear hb3
  go_wp2_with fail
  go_ret
  exact ⟨rfl, HB3.out⟩

end Go.Proofs.YtjkgmdnkejjppaaGreatDoor
