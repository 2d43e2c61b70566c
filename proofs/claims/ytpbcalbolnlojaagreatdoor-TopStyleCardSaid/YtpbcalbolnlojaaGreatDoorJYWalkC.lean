/- Walk of style.parse. -/
import Derived.Test.YtpbcalbolnlojaaGreatDoorJYWalkA
import Derived.Test.YtpbcalbolnlojaaGreatDoorJYWalkB
import Derived.Test.YtpbcalbolnlojaaGreatDoorGl
namespace Go.Proofs.YtpbcalbolnlojaaGreatDoor
open Go Go.RowKit

theorem flat_take (L : List Bytes) (k : Nat) (p : Bytes) (h : L[k]? = some p) : ((L.take (k + 1)).map declsM).flatten = ((L.take k).map declsM).flatten ++ declsM p := by
  rw [List.take_add_one, h]; simp

set_option maxHeartbeats 4000000 in
set_option maxRecDepth 100000 in
theorem parse_style (s : ByteArray) (w : World) (hg : Glob w) (hs : s.size ≤ 100000) (h47 : (47 : UInt8) ∉ lst s) :
    Calls Tryz.prog 23 #[.string s] w fun e w' => ∃ v, e = .returned v ∧ DRow w.heap.size w' v (parseS (lst s)) ∧ Below w.heap.size w w' := by
  have HG := Lib.hid hg
  have HBA := Lib.hid (bare_any s w hg (by omega) h47)
  have HP := Lib.hid (fun W => pieces_any s W hs)
  have hpl := pcs_len (lst s) 0 0 []
  simp only [lst_length, List.length_nil] at hpl
  unfold parseS
  generalize pcs 0 0 [] (lst s) = L at *
  clear hg h47
  go_enter Tryz.func23, Tryz.ntmps23
  go_wp2_with fail
  refine HBA.out.mono ?_
  rintro e w1 ⟨rfl, hb1⟩
  have HB1 := Lib.hid hb1
  clear hb1
  go_wp2_with fail
  refine (HP.out _).mono ?_
  rintro e w2 ⟨v, rfl, hsr, hb2⟩
  have HB2 := Lib.hid (HB1.out.trans (hb2.mono HB1.out.size))
  have HSR := Lib.hid hsr
  clear hb2
  obtain ⟨A, C, hv⟩ := ownsRow_slice hsr
  subst hv
  clear hsr
  have HPL := Lib.hid hpl.1
  have hLn := hpl.2
  clear hpl
  go_wp2_with fail
  go_loopw [3, 14] (fun vo vk wr => ∃ (W : World) (k : Nat) (out : List TDecl) (A' : Option Addr) (C' : Nat), W = wr ∧ vo = .slice A' out.length C' ∧ vk = .int .i64 k ∧ k ≤ L.length ∧ out.length ≤ k ∧ Hid (DRow w2.heap.size wr (.slice A' out.length C') out) ∧ Hid (Below w2.heap.size w2 wr) ∧ Hid (out = ((L.take k).map declsM).flatten)) (fun _ vk _ => L.length - (intOf vk).toNat)
  case atStart => exact ⟨_, 0, [], _, _, rfl, rfl, rfl, by omega, by simp, Lib.hid (DRow.nil _ _), Lib.hid (Below.refl _ _), Lib.hid rfl⟩
  case round =>
    obtain ⟨W, k, out, A', C', rfl, rfl, rfl, hk, hol, HO, HB, HE⟩ := hrel
    by_cases hlt : k < L.length
    · obtain ⟨p, hp⟩ : ∃ p, L[k]? = some p := ⟨_, List.getElem?_eq_getElem hlt⟩
      obtain ⟨g, cap, hv, _, hgl, hcell⟩ := HSR.out.get k p hp
      obtain ⟨rfl, rfl⟩ : A = some ⟨g, 0, none⟩ ∧ C = cap := by simp at hv; exact hv
      have hcW : W.cell? ⟨g, k, none⟩ = some (.string (mk p)) := (HB.out.cell (p := ⟨g, k, none⟩) hgl).trans hcell
      have hpz := HPL.out p (List.mem_of_getElem? hp)
      have HE2 := Lib.hid (show out ++ declsM p = ((L.take (k + 1)).map declsM).flatten by rw [HE.out]; exact (flat_take L k p hp).symm)
      have hcl := cut_len p [58]
      have HGW := Lib.hid (HG.out.below (HB2.out.trans (HB.out.mono HB2.out.size)) HG.out.size)
      have HC := Lib.hid (cut_any (mk p) ⟨#[58]⟩ W HGW.out (by rw [mk_size]; omega))
      rw [lst_mk, show lst (⟨#[58]⟩ : ByteArray) = [58] from rfl] at HC
      have hdm : declsM p = if ((Lib.cut p [58]).2.2 && nameM (small (trimM (Lib.cut p [58]).1)) && !(trimM (Lib.cut p [58]).2.1 == [])) = true then [⟨small (trimM (Lib.cut p [58]).1), trimM (Lib.cut p [58]).2.1⟩] else [] := rfl
      rw [hdm] at HE2
      have hltI : (k : Int) < L.length := by omega
      clear hv hcell hp hdm
      generalize hc1 : (Lib.cut p [58]).1 = c1 at *
      generalize hc2 : (Lib.cut p [58]).2.1 = c2 at *
      generalize hc3 : (Lib.cut p [58]).2.2 = c3 at *
      clear hc1 hc2 hc3
      go_wp2_with fail
      refine HC.out.mono ?_
      rintro e w3 ⟨rfl, n, hw3⟩
      have HB3 := Lib.hid (show Below w2.heap.size w2 w3 by rw [hw3]; exact ⟨HB.out.os, HB.out.tape, HB.out.output, HB.out.size, HB.out.block⟩)
      have HO3 := Lib.hid (show DRow w2.heap.size w3 (.slice A' out.length C') out by rw [hw3]; exact HO.out.below ⟨rfl, rfl, rfl, Nat.le_refl _, fun _ _ => rfl⟩)
      clear hw3
      go_wp2_with fail
      have HT1 := Lib.hid (trim_any (mk c1) w3 (by rw [mk_size]; omega))
      rw [lst_mk] at HT1
      refine HT1.out.mono ?_
      rintro e w4 ⟨rfl, hb4⟩
      have HB4 := Lib.hid (HB3.out.trans (hb4.mono HB3.out.size))
      have HO4 := Lib.hid (HO3.out.below hb4)
      clear hb4
      have ht1 := trim_len c1
      have ht2 := trim_len c2
      generalize hT1 : trimM c1 = t1 at *
      generalize hT2 : trimM c2 = t2 at *
      clear hT1
      go_wp2_with fail
      have HS1 := Lib.hid (small_any (mk t1) w4 (by rw [mk_size]; omega))
      rw [lst_mk] at HS1
      refine HS1.out.mono ?_
      rintro e w5 ⟨rfl, hb5⟩
      have HB5 := Lib.hid (HB4.out.trans (hb5.mono HB4.out.size))
      have HO5 := Lib.hid (HO4.out.below hb5)
      clear hb5
      have hsl : (small t1).length = t1.length := by unfold small; exact List.length_map _
      generalize hN1 : small t1 = n1 at *
      clear hN1
      go_wp2_with fail
      have HT2 := Lib.hid (trim_any (mk c2) w5 (by rw [mk_size]; omega))
      rw [lst_mk, hT2] at HT2
      clear hT2
      refine HT2.out.mono ?_
      rintro e w6 ⟨rfl, hb6⟩
      have HB6 := Lib.hid (HB5.out.trans (hb6.mono HB5.out.size))
      have HO6 := Lib.hid (HO5.out.below hb6)
      clear hb6
      obtain ⟨W7, hW7⟩ : ∃ W7, W7 = w6.alloc (.cells #[.string (mk n1), .string (mk t2)] 39) := ⟨_, rfl⟩
      have hb7 : Below w6.heap.size w6 W7 := by rw [hW7]; exact (Below.refl _ _).alloc (Nat.le_refl _) _
      have hn7 : W7.heap[w6.heap.size]? = some (.cells #[.string (mk n1), .string (mk t2)] 39 (0, 0)) := by rw [hW7]; exact heap_alloc_new _ _
      have HB7 := Lib.hid (HB6.out.trans (hb7.mono HB6.out.size))
      have HO7 := Lib.hid (HO6.out.below hb7)
      have HW7 := Lib.hid hW7.symm
      have HN7 := Lib.hid hn7
      have d0 : W7.cell? ⟨w6.heap.size, 0, none⟩ = some (.string (mk n1)) := by rw [Lib.cell_of_heap hn7]; rfl
      have d1 : W7.cell? ⟨w6.heap.size, 1, none⟩ = some (.string (mk t2)) := by rw [Lib.cell_of_heap hn7]; rfl
      have hz7 := lt_of_block hn7
      clear hW7 hb7 hn7
      cases c3 with
      | false =>
        rw [Bool.false_and, Bool.false_and, if_neg Bool.false_ne_true, List.append_nil] at HE2
        go_wp2_with fail
        rw [HW7.out]
        go_roundw
        case rel => exact ⟨_, k + 1, out, A', C', rfl, rfl, by go_num, by omega, by omega, HO7, HB7, HE2⟩
        case measure => simp [intOf]; omega
      | true =>
        rw [Bool.true_and] at HE2
        have HNM := Lib.hid (name_any (mk n1) W7)
        rw [lst_mk] at HNM
        go_upto_region 7 with fail
        rw [HW7.out]
        go_wp2_with fail
        refine HNM.out.mono ?_
        rintro e w8 ⟨rfl, hb8⟩
        have HB8 := Lib.hid (HB7.out.trans (hb8.mono HB7.out.size))
        have HO8 := Lib.hid (HO7.out.below hb8)
        have e0 := (hb8.cell (p := ⟨w6.heap.size, 0, none⟩) hz7).trans d0
        have e1 := (hb8.cell (p := ⟨w6.heap.size, 1, none⟩) hz7).trans d1
        clear hb8 d0 d1
        cases hnm : nameM n1 with
        | false =>
          rw [hnm, Bool.false_and, if_neg Bool.false_ne_true, List.append_nil] at HE2
          clear hnm
          go_wp2_with fail
          go_roundw
          case rel => exact ⟨_, k + 1, out, A', C', rfl, rfl, by go_num, by omega, by omega, HO8, HB8, HE2⟩
          case measure => simp [intOf]; omega
        | true =>
          rw [hnm, Bool.true_and] at HE2
          clear hnm
          by_cases ht : t2 = []
          · have f0 : (mk t2).toList.isEmpty = true := by rw [toList_mk, ht]; rfl
            rw [beq_iff_eq.2 ht, Bool.not_true, if_neg Bool.false_ne_true, List.append_nil] at HE2
            clear ht
            go_wp2_with fail
            go_roundw
            case rel => exact ⟨_, k + 1, out, A', C', rfl, rfl, by go_num, by omega, by omega, HO8, HB8, HE2⟩
            case measure => simp [intOf]; omega
          · have f0 : (mk t2).toList.isEmpty = false := by rw [toList_mk]; exact List.isEmpty_eq_false_iff.2 ht
            rw [beq_eq_false_iff_ne.2 ht, Bool.not_false, if_pos rfl] at HE2
            clear ht
            have HO9 := Lib.hid (HO8.out.below ((Below.refl _ _).alloc (Nat.le_refl _) (.cells #[.string (mk n1), .string (mk t2)] 39)))
            have HB9 := Lib.hid (HB8.out.alloc HB8.out.size (.cells #[.string (mk n1), .string (mk t2)] 39))
            have HN9 := Lib.hid (heap_alloc_new w8 (.cells #[.string (mk n1), .string (mk t2)] 39))
            have hz9 : w2.heap.size ≤ (w8.alloc (.cells #[.string (mk n1), .string (mk t2)] 39)).heap.size := HB9.out.size
            go_wp2_with (at_builtin; refine wpList_row1 Tryz.underlying23 infoDecl rfl (by decide) (by decide) (by rfl) (.tmp 41) (.tmp 43) (by rfl) w2.heap.size _ out.length _ w8.heap.size #[.string (mk n1), .string (mk t2)] (by rfl) (by rfl) HO9.out HN9.out rfl (by simp [Value.oneCell']) (by omega) hz9 ?_; intro A2 C2 w10 hown hgr; have HB10 := Lib.hid (HB9.out.trans (row_grown_below hgr HO9.out hz9)); have HO10 := Lib.hid hown; clear hown hgr)
            go_roundw
            case rel => exact ⟨_, k + 1, out ++ [⟨n1, t2⟩], A2, C2, rfl, by rw [List.length_append]; rfl, by go_num, by omega, by simp; omega, Lib.hid (by unfold DRow; rw [List.length_append, show declCells (out ++ [⟨n1, t2⟩]) = declCells out ++ [.string (mk n1), .string (mk t2)] by simp [declCells]]; exact HO10.out), HB10, HE2⟩
            case measure => simp [intOf]; omega
    · obtain rfl : k = L.length := by omega
      have HEf := Lib.hid (show out = (L.map declsM).flatten by rw [HE.out, List.take_length])
      have HBf := Lib.hid (HB2.out.trans (HB.out.mono HB2.out.size))
      have HOf := Lib.hid (ownsRow_base HO.out HB2.out.size)
      go_wp2_with fail
      go_ret
      exact ⟨_, rfl, by rw [← HEf.out]; exact HOf.out, HBf.out⟩
end Go.Proofs.YtpbcalbolnlojaaGreatDoor
