/- Joined texts: VWalkE VWalkF VWalkH VWalkI VWalkJ. -/
import Derived.Test.YtjkgmdnkejjppaaGreatDoorGw
import Derived.Test.YtjkgmdnkejjppaaGreatDoorGl
import Derived.Test.YtjkgmdnkejjppaaGreatDoorGm
import Derived.Test.YtjkgmdnkejjppaaGreatDoorGn
import Derived.Test.YtjkgmdnkejjppaaGreatDoorJTCount
import Derived.Test.YtjkgmdnkejjppaaGreatDoorGh
/- Walks of the reference's show: AttrsFault, startText. -/
namespace Go.Proofs.YtjkgmdnkejjppaaGreatDoor
open Go Go.RowKit

set_option maxHeartbeats 4000000 in
set_option maxRecDepth 100000 in
theorem rattrs_any (v : Value) (l : List TAttr) (w : World) (h : AttrView w v l) (hl : l.length ≤ 1000000) (hn : ∀ a ∈ l, a.name.length ≤ 1000000) :
    Calls Tryz.prog 92 #[v] w fun e w' => e = .returned (.int .i64 (attrsM l)) ∧ Below w.heap.size w w' := by
  obtain ⟨a0, cap, hv⟩ := h.1
  subst hv
  have HV := Lib.hid h
  have HN := Lib.hid hn
  obtain ⟨R, hR⟩ : ∃ R, attrsM l = R := ⟨_, rfl⟩
  rw [hR]
  have HR := Lib.hid hR
  clear h hn hR
  go_enter Tryz.func92, Tryz.ntmps92
  go_wp2_with fail
  go_loopw [9] (fun v9 wr => ∃ (Wr : World) (i : Nat), Wr = wr ∧ v9 = .int .i64 i ∧ i ≤ l.length ∧ Hid (∀ a ∈ l.take i, nameM a.name = true) ∧ Hid (Below w.heap.size w Wr)) (fun v9 _ => l.length - (intOf v9).toNat)
  case atStart => exact ⟨_, 0, rfl, rfl, by omega, Lib.hid (by simp), Lib.hid (Below.refl _ _)⟩
  case round =>
    obtain ⟨Wr, i, rfl, rfl, hi, hA, hB⟩ := hrel
    by_cases hlt : i < l.length
    · obtain ⟨a, ha⟩ : ∃ a, l[i]? = some a := ⟨_, List.getElem?_eq_getElem hlt⟩
      obtain ⟨g, c, hv, hcap, ⟨cs, hgb⟩, hc0, hc1⟩ := (HV.out.older (Older.of_below hB.out)).2 i a ha
      obtain ⟨rfl, rfl⟩ : a0 = some ⟨g, 0, none⟩ ∧ cap = c := by simp at hv; exact hv
      have hmem := List.mem_of_getElem? ha
      have HA := Lib.hid ha
      have i0 : (0 : Int) ≤ i := by omega
      have i1 : (i : Int) < l.length := by omega
      obtain ⟨W4, hW4⟩ : ∃ W4, W4 = Wr.alloc (.cells #[.string (mk a.name), .string (mk a.value)] 85) := ⟨_, rfl⟩
      have hb4 : Below Wr.heap.size Wr W4 := by rw [hW4]; exact (Below.refl _ _).alloc (Nat.le_refl _) _
      have hN4 : W4.heap[Wr.heap.size]? = some (.cells #[.string (mk a.name), .string (mk a.value)] 85 (0, 0)) := by rw [hW4]; exact heap_alloc_new _ _
      have c40 : W4.cell? ⟨Wr.heap.size, 0, none⟩ = some (.string (mk a.name)) := by rw [Lib.cell_of_heap hN4]; rfl
      have HNM := Lib.hid (nameMay_any (mk a.name) W4 (by rw [mk_size]; exact HN.out a hmem))
      rw [lst_mk] at HNM
      have HB4 := Lib.hid (hB.out.trans (hb4.mono hB.out.size))
      have HW4 := Lib.hid hW4
      clear hv hgb ha hb4 hN4 hW4
      go_upto_region 4 with fail
      rw [← HW4.out]
      clear HW4
      go_wp2_with fail
      refine HNM.out.mono ?_
      rintro e w5 ⟨rfl, q, hw5⟩
      have HB5 := Lib.hid (show Below w.heap.size w w5 by rw [hw5]; exact ⟨HB4.out.os, HB4.out.tape, HB4.out.output, HB4.out.size, HB4.out.block⟩)
      clear hw5
      cases hnm : nameM a.name with
      | false =>
        have HF := Lib.hid (show R = 5 by
          rw [← HR.out]
          unfold attrsM
          rw [if_pos (List.any_eq_true.2 ⟨a, hmem, by rw [hnm]; rfl⟩)])
        clear hmem hnm
        go_wp2_with fail
        go_ret
        exact ⟨by rw [HF.out]; rfl, HB5.out⟩
      | true =>
        have HA2 : Hid (∀ a ∈ l.take (i + 1), nameM a.name = true) := Lib.hid fun y hy => by
          rw [List.take_add_one, HA.out] at hy
          rcases List.mem_append.1 hy with hy | hy
          · exact hA.out y hy
          · simp at hy; subst hy; exact hnm
        clear hmem hnm
        go_wp2_with fail
        go_roundw
        case rel => exact ⟨_, i + 1, rfl, by go_num, by omega, HA2, HB5⟩
        case measure => simp [intOf]; omega
    · obtain rfl : i = l.length := by omega
      have hany : (l.any fun a => !nameM a.name) = false := by
        rw [List.any_eq_false]
        intro a ha
        rw [hA.out a (by rw [List.take_length]; exact ha)]; simp
      by_cases h4 : 4 < l.length
      · have g4 : (4 : Int) < l.length := by omega
        have HF := Lib.hid (show R = 1 by rw [← HR.out]; unfold attrsM; rw [if_neg (by rw [hany]; simp), if_pos h4])
        clear hany
        go_wp2_with fail
        go_ret
        exact ⟨by rw [HF.out]; rfl, hB.out⟩
      · have g4 : ¬ (4 : Int) < l.length := by omega
        have HR2 := Lib.hid (show R = if twiceM l then 8 else 0 by rw [← HR.out]; unfold attrsM; rw [if_neg (by rw [hany]; simp), if_neg h4])
        clear hany
        go_wp2_with fail
        go_loopw [23] (fun v23 wr => ∃ (Wx : World) (i : Nat), Wx = wr ∧ v23 = .int .i64 i ∧ i ≤ l.length ∧ Hid (∀ j a, j < i → l[j]? = some a → (l.take j).any (fun b => a.name == b.name) = false) ∧ Hid (Below w.heap.size w Wx)) (fun v23 _ => l.length - (intOf v23).toNat)
        case atStart => exact ⟨_, 0, rfl, rfl, by omega, Lib.hid (fun j a h => by omega), hB⟩
        case round =>
          obtain ⟨Wx, i, rfl, rfl, hi, hT, hBx⟩ := hrel
          by_cases hlt : i < l.length
          · obtain ⟨a, ha⟩ : ∃ a, l[i]? = some a := ⟨_, List.getElem?_eq_getElem hlt⟩
            have HA := Lib.hid ha
            have i0 : (0 : Int) ≤ i := by omega
            have i1 : (i : Int) < l.length := by omega
            clear ha
            go_wp2_with fail
            go_loopw [6] (fun v6 wr => ∃ (Wy : World) (k : Nat), Wy = wr ∧ v6 = .int .i64 k ∧ k ≤ i ∧ Hid (∀ b ∈ l.take k, (a.name == b.name) = false) ∧ Hid (Below w.heap.size w Wy)) (fun v6 _ => i - (intOf v6).toNat)
            case atStart => exact ⟨_, 0, rfl, rfl, by omega, Lib.hid (by simp), hBx⟩
            case round =>
              obtain ⟨Wy, k, rfl, rfl, hk, hE, hBy⟩ := hrel
              by_cases hki : k < i
              · obtain ⟨b, hb⟩ : ∃ b, l[k]? = some b := ⟨_, List.getElem?_eq_getElem (by omega)⟩
                have hvy := HV.out.older (Older.of_below hBy.out)
                obtain ⟨g, c, hv, hcap, _, hc0, _⟩ := hvy.2 i a HA.out
                obtain ⟨g', c', hv', _, _, hd0, _⟩ := hvy.2 k b hb
                obtain ⟨rfl, rfl⟩ : a0 = some ⟨g, 0, none⟩ ∧ cap = c := by simp at hv; exact hv
                obtain rfl : g = g' := by simp at hv'; exact hv'.1
                have HBB := Lib.hid hb
                have k0 : (0 : Int) ≤ k := by omega
                have k1 : (k : Int) < l.length := by omega
                have k2 : (k : Int) < i := by omega
                clear hv hv' hb hvy
                by_cases he : a.name = b.name
                · have s1 : ((mk a.name).toList == (mk b.name).toList) = true := by rw [he]; exact beq_self_eq_true _
                  have s2 : (mk a.name).toList = (mk b.name).toList := by rw [he]
                  have HF := Lib.hid (show R = 8 by
                    rw [HR2.out, if_pos ((twice_iff l).2 ⟨i, a, HA.out, List.any_eq_true.2 ⟨b, ?_, by rw [he]; exact beq_self_eq_true _⟩⟩)]
                    exact List.mem_take_iff_getElem.2 ⟨k, by have := (List.getElem?_eq_some_iff.1 HBB.out).1; omega, (List.getElem?_eq_some_iff.1 HBB.out).2⟩)
                  clear he
                  go_wp2_with fail
                  go_quiet (fail)
                  go_wp2_with fail
                  go_ret
                  exact ⟨by rw [HF.out]; rfl, ⟨hBy.out.os, hBy.out.tape, hBy.out.output, hBy.out.size, hBy.out.block⟩⟩
                · have s1 : ((mk a.name).toList == (mk b.name).toList) = false := beq_eq_false_iff_ne.2 (by rw [toList_mk, toList_mk]; exact he)
                  have s2 : ¬ (mk a.name).toList = (mk b.name).toList := by rw [toList_mk, toList_mk]; exact he
                  have HE2 : Hid (∀ b ∈ l.take (k + 1), (a.name == b.name) = false) := Lib.hid fun y hy => by
                    rw [List.take_add_one, HBB.out] at hy
                    rcases List.mem_append.1 hy with hy | hy
                    · exact hE.out y hy
                    · simp at hy; subst hy; exact beq_eq_false_iff_ne.2 he
                  clear he
                  go_wp2_with fail
                  go_quiet (fail)
                  have HB9 := Lib.hid (show Below w.heap.size w (Wy.drewN nq) from ⟨hBy.out.os, hBy.out.tape, hBy.out.output, hBy.out.size, hBy.out.block⟩)
                  go_wp2_with fail
                  go_roundw
                  case rel => exact ⟨_, k + 1, rfl, by go_num, by omega, HE2, HB9⟩
                  case measure => simp [intOf]; omega
              · obtain rfl : k = i := by omega
                have HT2 : Hid (∀ j a, j < k + 1 → l[j]? = some a → (l.take j).any (fun b => a.name == b.name) = false) := Lib.hid fun j y hj hy => by
                  by_cases hjk : j = k
                  · subst hjk
                    rw [HA.out] at hy
                    cases hy
                    rw [List.any_eq_false]
                    intro b hb
                    rw [hE.out b hb]; simp
                  · exact hT.out j y (by omega) hy
                go_wp2_with fail
                go_roundw
                case rel => exact ⟨_, k + 1, rfl, by go_num, by omega, HT2, hBy⟩
                case measure => simp [intOf]; omega
          · obtain rfl : i = l.length := by omega
            have HF := Lib.hid (show R = 0 by
              rw [HR2.out, twice_none l fun j a ha => hT.out j a (List.getElem?_eq_some_iff.1 ha).1 ha]; rfl)
            go_wp2_with fail
            go_ret
            exact ⟨by rw [HF.out]; rfl, hBx.out⟩

end Go.Proofs.YtjkgmdnkejjppaaGreatDoor
/- Walk of the reference's startText. -/
namespace Go.Proofs.YtjkgmdnkejjppaaGreatDoor
open Go Go.RowKit

set_option maxHeartbeats 4000000 in
set_option maxRecDepth 100000 in
theorem rstart_any (n : Bytes) (v : Value) (l : List TAttr) (w : World) (h : AttrView w v l) (hn : n.length ≤ 1000) (hl : l.length ≤ 1000) (ha : ∀ a ∈ l, a.name.length ≤ 1000 ∧ a.value.length ≤ 1000) :
    Calls Tryz.prog 69 #[.string (mk n), v] w fun e w' => e = .returned (.string (mk (60 :: n ++ attrTexts l))) ∧ Below w.heap.size w w' := by
  obtain ⟨a0, cap, hv⟩ := h.1
  subst hv
  have HV := Lib.hid h
  have hnz : (mk n).size ≤ 1000 := by rw [mk_size]; exact hn
  clear h
  go_enter Tryz.func69, Tryz.ntmps69
  have HAL := Lib.hid ha
  clear ha
  have x0 : ¬ 9223372036854775807 < 1 + (mk n).size := by omega
  have hst0 : (⟨#[60]⟩ : ByteArray) ++ mk n = mk (60 :: n) := by rw [show (⟨#[60]⟩ : ByteArray) = mk [60] from rfl, cat_mk]; rfl
  have HST0 := Lib.hid hst0
  clear hst0
  go_wp2_with fail
  rw [HST0.out]
  go_loopg [5, 12] l.length (fun g s i wx => ∃ (W : World) (k : Nat), W = wx ∧ k + g = l.length ∧ i = .int .i64 k ∧ s = .string (mk (60 :: n ++ attrTexts (l.take k))) ∧ Hid (Below w.heap.size w wx))
  case atStart => exact ⟨_, 0, rfl, by omega, rfl, by rw [List.take_zero, attrTexts, List.append_nil], Lib.hid (Below.refl _ _)⟩
  case round =>
    obtain ⟨wr, k, rfl, hk, rfl, rfl, hB⟩ := hrel
    by_cases hlt : k < l.length
    · obtain ⟨m, rfl⟩ : ∃ m, gk = m + 1 := ⟨gk - 1, by omega⟩
      obtain ⟨a, ha⟩ : ∃ a, l[k]? = some a := ⟨_, List.getElem?_eq_getElem hlt⟩
      have hvr := HV.out.older (.of_below hB.out)
      obtain ⟨g, c, hf, hc1, ⟨cs, hgb⟩, a1, a2⟩ := hvr.2 k a ha
      obtain rfl : a0 = some ⟨g, 0, none⟩ := by simp at hf; exact hf.1
      obtain ⟨w2, hw2⟩ : ∃ w2, w2 = wr.alloc (.cells #[.string (mk a.name), .string (mk a.value)] 85) := ⟨_, rfl⟩
      have hb2 : Below wr.heap.size wr w2 := by rw [hw2]; exact (Below.refl _ _).alloc (Nat.le_refl _) _
      have hN : w2.heap[wr.heap.size]? = some (.cells #[.string (mk a.name), .string (mk a.value)] 85 (0, 0)) := by rw [hw2]; exact heap_alloc_new _ _
      have c0 : w2.cell? ⟨wr.heap.size, 0, none⟩ = some (.string (mk a.name)) := by rw [Lib.cell_of_heap hN]; rfl
      have c1 : w2.cell? ⟨wr.heap.size, 1, none⟩ = some (.string (mk a.value)) := by rw [Lib.cell_of_heap hN]; rfl
      have hmem := HAL.out a (List.mem_of_getElem? ha)
      have HC := Lib.hid (rescape_any (mk a.value) true w2.drew (by rw [mk_size]; omega))
      rw [lst_mk] at HC
      have hez := (escM_len true a.value).2.1
      have hdz := attrTexts_len 1000 (l.take k) (fun b hb => HAL.out b (List.mem_of_mem_take hb))
      have htk : (l.take k).length ≤ 1000 := by rw [List.length_take]; omega
      have hst : 60 :: n ++ attrTexts (l.take (k + 1)) = (60 :: n ++ attrTexts (l.take k)) ++ (32 :: a.name ++ 61 :: 34 :: escM true a.value ++ [34]) := by
        rw [attrTexts_take l k a ha]; unfold attrText; simp
      have hcat := attr_cat (60 :: n ++ attrTexts (l.take k)) a.name (escM true a.value)
      rw [← hst] at hcat
      have HCAT := Lib.hid hcat
      have hDz : (mk (60 :: n ++ attrTexts (l.take k))).size ≤ 100000000 := by rw [mk_size]; simp only [List.length_append, List.length_cons]; omega
      have hEz : (mk (escM true a.value)).size ≤ 100000 := by rw [mk_size]; omega
      have hNz : (mk a.name).size ≤ 1000 := by rw [mk_size]; exact hmem.1
      generalize 60 :: n ++ attrTexts (l.take k) = D at *
      generalize escM true a.value = E at *
      have HB2 := Lib.hid (hB.out.trans (hb2.mono hB.out.size))
      have HW2 := Lib.hid hw2
      have hN2 := lt_of_block hN
      have k0 : (0 : Int) ≤ k := by omega
      have k1 : (k : Int) < l.length := by omega
      clear hf hvr hgb ha hb2 hN hw2 hst hcat hez hdz hmem
      have x1 : ¬ 9223372036854775807 < 1 + (mk a.name).size := by omega
      have x2 : ¬ 9223372036854775807 < 1 + (mk a.name).size + 2 := by omega
      have x3 : ¬ 9223372036854775807 < 1 + (mk a.name).size + 2 + (mk E).size := by omega
      have x4 : ¬ 9223372036854775807 < 1 + (mk a.name).size + 2 + (mk E).size + 1 := by omega
      have x5 : ¬ 9223372036854775807 < (mk D).size + (1 + (mk a.name).size + 2 + (mk E).size + 1) := by omega
      go_upto_region 5 with fail
      rw [← HW2.out]
      go_region_law ((refine step_at 68 (by rfl) ?_; go_simp; go_loud (refine HC.out.mono ?_; rintro e w3 ⟨rfl, q, hw3⟩; have HB3 := Lib.hid (show Below w.heap.size w w3 by rw [hw3]; exact ⟨HB2.out.os, HB2.out.tape, HB2.out.output, HB2.out.size, HB2.out.block⟩); have y0 : w3.cell? ⟨wr.heap.size, 0, none⟩ = some (.string (mk a.name)) := (by rw [hw3]; exact c0); clear hw3)))
      all_goals
        go_wp2_with fail
        go_roundg m
        case measure => omega
        case rel => exact ⟨_, k + 1, rfl, by omega, by go_num, by rw [HCAT.out], HB3⟩
    · obtain rfl : k = l.length := by omega
      rw [List.take_length]
      go_wp2_with fail
      go_ret
      exact ⟨rfl, hB.out⟩
end Go.Proofs.YtjkgmdnkejjppaaGreatDoor
/- Walks of the reference's show: nodesFault. -/
namespace Go.Proofs.YtjkgmdnkejjppaaGreatDoor
open Go Go.RowKit

/-- The names of script, style, textarea, title, as a table that is laid. -/
def rawsVQ : Array Value := #[.string ⟨#[115, 99, 114, 105, 112, 116]⟩, .string ⟨#[115, 116, 121, 108, 101]⟩, .string ⟨#[116, 101, 120, 116, 97, 114, 101, 97]⟩, .string ⟨#[116, 105, 116, 108, 101]⟩]
theorem rawsVQ_v : rawsVQ.toList = [sScript, sStyle, sTextarea, sTitle].map fun p => .string (mk p) := rfl
theorem rraw_any (n : Bytes) (w : World) :
    Calls Tryz.prog 65 #[.string (mk n), .slice (some ⟨w.heap.size, 0, none⟩) 4 4] (w.alloc (.cells #[.string ⟨#[115, 99, 114, 105, 112, 116]⟩, .string ⟨#[115, 116, 121, 108, 101]⟩, .string ⟨#[116, 101, 120, 116, 97, 114, 101, 97]⟩, .string ⟨#[116, 105, 116, 108, 101]⟩] 9)) fun e w' => e = .returned (.bool (isRaw n)) ∧ w.alloc (.cells rawsVQ 9) = w' := by
  have HC := oneOf_any _ [sScript, sStyle, sTextarea, sTitle] n (by decide) (w.alloc (.cells rawsVQ 9)) (SView.table rawsVQ_v)
  rw [show [sScript, sStyle, sTextarea, sTitle].contains n = isRaw n by unfold isRaw; rw [Bool.eq_iff_iff]; simp [or_assoc]] at HC
  exact HC

set_option maxHeartbeats 8000000 in
set_option maxRecDepth 100000 in
theorem rfault_any : ∀ (d : Nat) (v : Value) (l : List TNode) (deep : Nat) (w : World), NodeView d w v l → countL l ≤ 100000 → SzL l → deep ≤ 10 →
    Calls Tryz.prog 66 #[v, .int .i64 deep] w fun e w' => e = .returned (.int .i64 (faultL deep false l)) ∧ Below w.heap.size w w' := by
  intro d
  induction d using Nat.strongRecOn with
  | _ d ih =>
  intro v l deep w hv hct hsz hdp
  obtain ⟨a, cap, rfl⟩ := hv.form
  have hln := Nat.le_trans (len_countL l) hct
  have HIH := Lib.hid ih
  have HV := Lib.hid hv
  have HCT := Lib.hid hct
  have HSZ := Lib.hid hsz.mem
  clear ih hv hct hsz
  go_enter Tryz.func66, Tryz.ntmps66
  go_wp2_with fail
  go_loopg [12] l.length (fun g i wx => ∃ (W : World) (k : Nat), W = wx ∧ k + g = l.length ∧ i = .int .i64 k ∧ Hid (Below w.heap.size w wx) ∧ Hid (faultL deep false l = faultL deep (prevT l k) (l.drop k)))
  case atStart => exact ⟨_, 0, rfl, by omega, rfl, Lib.hid (Below.refl _ _), Lib.hid rfl⟩
  case round =>
    obtain ⟨W, k, rfl, hk, rfl, hB, hF⟩ := hrel
    by_cases hlt : k < l.length
    · obtain ⟨m, rfl⟩ : ∃ m, gk = m + 1 := ⟨gk - 1, by omega⟩
      obtain ⟨t, ht⟩ : ∃ t, l[k]? = some t := ⟨_, List.getElem?_eq_getElem hlt⟩
      have hst := fault_step deep ht
      obtain ⟨d', hd', g, c, av, pv, hf, hc1, hc2, hg, hat, hav, hpv⟩ := (HV.out.older (.of_below hB.out)).get k t ht
      obtain rfl : a = some ⟨g, 0, none⟩ := by simp at hf; exact hf.1
      obtain ⟨a1, a2, a3, a4⟩ := hat
      obtain ⟨pa, pc, hpf⟩ := hpv.form
      subst hpf
      obtain ⟨⟨aa, ac, haf⟩, -⟩ := id hav
      subst haf
      have hs := (HSZ.out t (List.mem_of_getElem? ht)).all
      have h3 := countN_mem (List.mem_of_getElem? ht)
      rw [countN_of] at h3
      obtain ⟨w1, hw1⟩ : ∃ w1, w1 = W.alloc (.cells #[.string (mk t.name), .slice aa t.attrs.length ac, .string (mk t.text), .slice pa t.parts.length pc] 44) := ⟨_, rfl⟩
      have hb1 : Below W.heap.size W w1 := by rw [hw1]; exact (Below.refl _ _).alloc (Nat.le_refl _) _
      have hN1 : w1.heap[W.heap.size]? = some (.cells #[.string (mk t.name), .slice aa t.attrs.length ac, .string (mk t.text), .slice pa t.parts.length pc] 44 (0, 0)) := by rw [hw1]; exact heap_alloc_new _ _
      have m0 : w1.cell? ⟨W.heap.size, 0, none⟩ = some (.string (mk t.name)) := by rw [Lib.cell_of_heap hN1]; rfl
      have m1 : w1.cell? ⟨W.heap.size, 1, none⟩ = some (.slice aa t.attrs.length ac) := by rw [Lib.cell_of_heap hN1]; rfl
      have m2 : w1.cell? ⟨W.heap.size, 2, none⟩ = some (.string (mk t.text)) := by rw [Lib.cell_of_heap hN1]; rfl
      have m3 : w1.cell? ⟨W.heap.size, 3, none⟩ = some (.slice pa t.parts.length pc) := by rw [Lib.cell_of_heap hN1]; rfl
      have hzN := lt_of_block hN1
      have HBX := Lib.hid hb1
      have HB1 := Lib.hid (hB.out.trans (hb1.mono hB.out.size))
      have HW1 := Lib.hid hw1
      have HAV := Lib.hid (hav.older (.of_below hb1))
      have HPV := Lib.hid (hpv.older (.of_below hb1))
      have HS := Lib.hid hs
      have HH3 := Lib.hid h3
      have HST := Lib.hid (hF.out.trans hst)
      have HD' := Lib.hid hd'
      have HVW := Lib.hid (HV.out.older (.of_below hB.out))
      have k0 : (0 : Int) ≤ k := by omega
      have k1 : (k : Int) < l.length := by omega
      have HT := Lib.hid ht
      clear hf hpv hav hst hb1 hN1 hw1 hs h3 hF hd' ht
      go_upto_region 4 with fail
      rw [← HW1.out]
      clear a1 a2 a3 a4
      by_cases h10 : deep = 10
      · have HR := Lib.hid (show faultL deep false l = 6 by rw [HST.out, faultN_deep _ _ _ (by omega), if_pos (by decide)])
        subst h10
        go_wp2_with fail
        go_ret
        exact ⟨by rw [HR.out]; rfl, HB1.out⟩
      have c10 : ((deep : Int) == 10) = false := beq_eq_false_iff_ne.2 (by omega)
      have c10' : ¬ (deep : Int) = 10 := by omega
      have HD10 := Lib.hid (show ¬ 10 ≤ deep by omega)
      clear h10
      by_cases hn : t.name = []
      · have HFN := Lib.hid (faultN_text deep (prevT l k) t HD10.out hn)
        have HR4 := Lib.hid (fun (hb : (!t.attrs.isEmpty || !t.parts.isEmpty || t.text == [] || prevT l k) = true) => (show faultL deep false l = 4 by rw [HST.out, HFN.out, if_pos hb]; rfl))
        have HR0 := Lib.hid (fun (hb : (!t.attrs.isEmpty || !t.parts.isEmpty || t.text == [] || prevT l k) = false) => (show faultL deep false l = faultL deep (prevT l (k + 1)) (l.drop (k + 1)) by rw [HST.out, HFN.out, hb]; simp))
        rw [hn] at m0
        have m0' : w1.cell? ⟨W.heap.size, 0, none⟩ = some (.string ⟨#[]⟩) := m0
        clear m0 hn HFN
        by_cases q3 : t.text = []
        · rw [q3] at HR4 m2
          have m2' : w1.cell? ⟨W.heap.size, 2, none⟩ = some (.string ⟨#[]⟩) := m2
          have HR := Lib.hid (HR4.out (by simp))
          clear m2 q3 HR4 HR0
          go_wp2_with fail
          go_ret
          exact ⟨by rw [HR.out]; rfl, HB1.out⟩
        · have f1 := sBeqF q3
          have f2 := sEqF q3
          have f3 := sEmpF q3
          have f4 : (t.text == []) = false := beq_eq_false_iff_ne.2 q3
          rw [f4] at HR4 HR0
          clear f4
          by_cases q12 : t.attrs.length + t.parts.length = 0
          · have q1 : t.attrs.length = 0 := by omega
            have q2 : t.parts.length = 0 := by omega
            rw [List.eq_nil_of_length_eq_zero q1, List.eq_nil_of_length_eq_zero q2] at HR4 HR0
            rw [q1] at m1
            rw [q2] at m3
            have q5 : (!(t.text == [])) = true := by rw [beq_eq_false_iff_ne.2 q3]; rfl
            clear q1 q2 q3 q12
            cases k with
            | zero =>
              have HR := Lib.hid (HR0.out rfl)
              clear HR4 HR0
              go_wp2_with fail
              go_roundg m
              case measure => omega
              case rel => exact ⟨_, 0 + 1, rfl, by omega, by go_num, HB1, HR⟩
            | succ j =>
              obtain ⟨u, hu⟩ : ∃ u, l[j]? = some u := ⟨_, List.getElem?_eq_getElem (by omega)⟩
              have hpu := prevT_succ hu
              obtain ⟨_, _, g', c', _, _, hf', _, _, hg', hat', _, _⟩ := HVW.out.get j u hu
              obtain rfl : g = g' := by simp at hf'; exact hf'.1
              have b1 := (HBX.out.cell (p := ⟨g, j * 4, none⟩) hg').trans hat'.nm
              have j0 : (0 : Int) < ((j + 1 : Nat) : Int) := by omega
              have j1 : IntKind.i64.wrap (((j + 1 : Nat) : Int) - 1) = (j : Int) := by rw [IntWalk.i64_in _ (by omega)]; omega
              have j2 : (j : Int) < l.length := by omega
              have j3 : (0 : Int) ≤ j := by omega
              rw [hpu] at HR4 HR0
              clear hf' hu hpu hat'
              by_cases q5 : u.name = []
              · rw [q5] at b1
                have b1' : w1.cell? ⟨g, j * 4, none⟩ = some (.string ⟨#[]⟩) := b1
                have HR := Lib.hid (HR4.out (by rw [q5]; rfl))
                clear b1 q5 HR4 HR0
                go_wp2_with fail
                go_ret
                exact ⟨by rw [HR.out]; rfl, HB1.out⟩
              · have u1 := sBeqF q5
                have u2 := sEqF q5
                have u3 := sEmpF q5
                have HR := Lib.hid (HR0.out (by rw [beq_eq_false_iff_ne.2 q5]; rfl))
                clear q5 HR4 HR0
                go_wp2_with fail
                go_roundg m
                case measure => omega
                case rel => exact ⟨_, j + 1 + 1, rfl, by omega, by go_num, HB1, HR⟩
          · have z1 : t.attrs.length ≤ 1000 := HS.out.1.2.2.1
            have z2 : countL t.parts ≤ 100000 := by have := HCT.out; have := HH3.out; omega
            have z3 := len_countL t.parts
            have q0 : IntKind.i64.wrap ((t.attrs.length : Int) + (t.parts.length : Int)) = (t.attrs.length : Int) + (t.parts.length : Int) := IntWalk.i64_in _ (by omega)
            have q1 : (((t.attrs.length : Int) + (t.parts.length : Int)) == 0) = false := beq_eq_false_iff_ne.2 (by omega)
            have q2 : ¬ ((t.attrs.length : Int) + (t.parts.length : Int)) = 0 := by omega
            have HR := Lib.hid (HR4.out (by
              by_cases h1 : t.attrs.length = 0
              · rw [List.isEmpty_eq_false_iff.2 (show t.parts ≠ [] from fun e => q12 (by rw [h1, e]; rfl))]; simp
              · rw [List.isEmpty_eq_false_iff.2 (show t.attrs ≠ [] from fun e => h1 (congrArg List.length e))]; simp))
            clear q3 q12 HR4 HR0
            go_wp2_with fail
            go_ret
            exact ⟨by rw [HR.out]; rfl, HB1.out⟩
      · have HFN := Lib.hid (faultN_elem deep (prevT l k) t HD10.out hn)
        have f1 := sBeqF hn
        have f2 := sEqF hn
        have f3 := sEmpF hn
        have HNM := Lib.hid (nameMay_any (mk t.name) w1 (by rw [mk_size]; have := HS.out.1.1; omega))
        rw [lst_mk] at HNM
        have HATT := Lib.hid (fun W h => rattrs_any (.slice aa t.attrs.length ac) t.attrs W h (Nat.le_trans HS.out.1.2.2.1 (by omega)) (fun b hb => Nat.le_trans (HS.out.1.2.2.2 b hb).1 (by omega)))
        have HCALL := Lib.hid (fun W h => HIH.out d' (by have := HD'.out; omega) (.slice pa t.parts.length pc) t.parts (deep + 1) W h (by have := HCT.out; have := HH3.out; omega) HS.out.2 (by have := HD10.out; omega))
        have ed : ((deep + 1 : Nat) : Int) = (deep : Int) + 1 := by omega
        rw [ed] at HCALL
        have HPT := Lib.hid (prevT_succ HT.out)
        clear hn ed
        cases hnm : nameM t.name with
        | false =>
          have HR := Lib.hid (show faultL deep false l = 5 by rw [HST.out, HFN.out, if_pos hnm]; rfl)
          rw [hnm] at HNM
          clear hnm
          go_wp2_with fail
          refine HNM.out.mono ?_
          rintro e w3 ⟨rfl, q, hw3⟩
          have HB3 := Lib.hid (show Below w.heap.size w w3 by rw [hw3]; exact ⟨HB1.out.os, HB1.out.tape, HB1.out.output, HB1.out.size, HB1.out.block⟩)
          clear hw3
          go_wp2_with fail
          go_ret
          exact ⟨by rw [HR.out]; rfl, HB3.out⟩
        | true =>
          rw [hnm] at HNM
          have HFM := Lib.hid (show faultN deep (prevT l k) t = if attrsM t.attrs ≠ 0 then attrsM t.attrs else if !(t.text == []) || (isVoid t.name && !t.parts.isEmpty) || isRaw t.name then 4 else faultL (deep + 1) false t.parts by rw [HFN.out, if_neg (by simp [hnm])])
          clear hnm HFN
          go_wp2_with fail
          refine HNM.out.mono ?_
          rintro e w3 ⟨rfl, q, hw3⟩
          have HB3 := Lib.hid (show Below w.heap.size w w3 by rw [hw3]; exact ⟨HB1.out.os, HB1.out.tape, HB1.out.output, HB1.out.size, HB1.out.block⟩)
          have o3 : Older w1 w3 := by rw [hw3]; exact ⟨Nat.le_refl _, fun _ _ => rfl⟩
          have m0 := (o3.cell _ _ hzN).trans m0
          have m1 := (o3.cell _ _ hzN).trans m1
          have m2 := (o3.cell _ _ hzN).trans m2
          have m3 := (o3.cell _ _ hzN).trans m3
          have hzN3 := Nat.lt_of_lt_of_le hzN o3.1
          have HC3 := Lib.hid (HATT.out w3 (HAV.out.older o3))
          have HPV3 := Lib.hid (HPV.out.older o3)
          clear hw3 o3
          go_wp2_with fail
          refine HC3.out.mono ?_
          rintro e w4 ⟨rfl, hb4⟩
          have HB4 := Lib.hid (HB3.out.trans (hb4.mono HB3.out.size))
          have o4 := Older.of_below hb4
          have m0 := (o4.cell _ _ hzN3).trans m0
          have m2 := (o4.cell _ _ hzN3).trans m2
          have m3 := (o4.cell _ _ hzN3).trans m3
          have hzN4 := Nat.lt_of_lt_of_le hzN3 hb4.size
          have HPV4 := Lib.hid (HPV3.out.older o4)
          clear hb4 o4 m1
          generalize hx : attrsM t.attrs = x at *
          by_cases hx0 : x = 0
          · subst hx0
            have HFM2 := Lib.hid (show faultN deep (prevT l k) t = if !(t.text == []) || (isVoid t.name && !t.parts.isEmpty) || isRaw t.name then 4 else faultL (deep + 1) false t.parts by rw [HFM.out, if_neg (by simp)])
            have HR4 := Lib.hid (fun (hb : (!(t.text == []) || (isVoid t.name && !t.parts.isEmpty) || isRaw t.name) = true) => (show faultL deep false l = 4 by rw [HST.out, HFM2.out, if_pos hb]; rfl))
            have HRB := Lib.hid (fun (hb : (!(t.text == []) || (isVoid t.name && !t.parts.isEmpty) || isRaw t.name) = false) (h0 : faultL (deep + 1) false t.parts ≠ 0) => (show faultL deep false l = faultL (deep + 1) false t.parts by rw [HST.out, HFM2.out, hb]; simp [h0]))
            have HRC := Lib.hid (fun (hb : (!(t.text == []) || (isVoid t.name && !t.parts.isEmpty) || isRaw t.name) = false) (h0 : faultL (deep + 1) false t.parts = 0) => (show faultL deep false l = faultL deep (prevT l (k + 1)) (l.drop (k + 1)) by rw [HST.out, HFM2.out, hb]; simp [h0]))
            clear HFM HFM2 hx
            by_cases q3 : t.text = []
            · rw [q3] at HR4 HRB HRC m2
              have m2' : w4.cell? ⟨W.heap.size, 2, none⟩ = some (.string ⟨#[]⟩) := m2
              have HV4 := Lib.hid (risVoid_any t.name w4)
              clear m2 q3
              go_wp2_with fail
              refine HV4.out.mono ?_
              rintro e w5 ⟨rfl, hb5⟩
              have HB5 := Lib.hid (HB4.out.trans (hb5.mono HB4.out.size))
              have o5 := Older.of_below hb5
              have m0 := (o5.cell _ _ hzN4).trans m0
              have m3 := (o5.cell _ _ hzN4).trans m3
              have hzN5 := Nat.lt_of_lt_of_le hzN4 hb5.size
              have HPV5 := Lib.hid (HPV4.out.older o5)
              have HSH := Lib.hid (rraw_any t.name w5)
              clear hb5 o5
              generalize isVoid t.name = vb at *
              by_cases q6 : vb = true ∧ t.parts.length ≠ 0
              · obtain ⟨rfl, q7⟩ := q6
                have q2' : (0 : Int) < t.parts.length := by omega
                have q2n : 0 < t.parts.length := by omega
                have HR := Lib.hid (HR4.out (by rw [List.isEmpty_eq_false_iff.2 (fun e => q7 (congrArg List.length e))]; simp))
                clear q7
                go_wp2_with fail
                go_ret
                exact ⟨by rw [HR.out]; rfl, HB5.out⟩
              · have q8 : vb = false ∨ vb = true ∧ t.parts.length = 0 := by
                  cases vb with
                  | false => exact .inl rfl
                  | true => exact .inr ⟨rfl, Nat.eq_zero_of_not_pos fun h => q6 ⟨rfl, by omega⟩⟩
                have hcond : ∀ r : Bool, (!(([] : Bytes) == []) || (vb && !t.parts.isEmpty) || r) = r := by
                  intro r
                  rcases q8 with rfl | ⟨rfl, q9⟩
                  · simp
                  · rw [List.isEmpty_iff.2 (List.eq_nil_of_length_eq_zero q9)]; simp
                rw [hcond (isRaw t.name)] at HR4 HRB HRC
                clear hcond q6
                rcases q8 with rfl | ⟨rfl, q9⟩
                · go_wp2_with fail
                  refine HSH.out.mono ?_
                  rintro e w6 ⟨rfl, hw6⟩
                  have hb6 : Below w5.heap.size w5 w6 := by rw [← hw6]; exact (Below.refl _ _).alloc (Nat.le_refl _) _
                  clear hw6
                  have HB6 := Lib.hid (HB5.out.trans (hb6.mono HB5.out.size))
                  have o6 := Older.of_below hb6
                  have m0 := (o6.cell _ _ hzN5).trans m0
                  have m3 := (o6.cell _ _ hzN5).trans m3
                  have HCL6 := Lib.hid (HCALL.out w6 (HPV5.out.older o6))
                  clear hb6 o6
                  cases hr : isRaw t.name with
                  | true =>
                    have HR := Lib.hid (HR4.out hr)
                    clear hr
                    go_wp2_with fail
                    go_ret
                    exact ⟨by rw [HR.out]; rfl, HB6.out⟩
                  | false =>
                    have HRB2 := Lib.hid (HRB.out hr)
                    have HRC2 := Lib.hid (HRC.out hr)
                    clear hr
                    go_wp2_with fail
                    refine HCL6.out.mono ?_
                    rintro e w7 ⟨rfl, hb7⟩
                    have HB7 := Lib.hid (HB6.out.trans (hb7.mono HB6.out.size))
                    clear hb7
                    generalize faultL (deep + 1) false t.parts = y at *
                    by_cases hy : y = 0
                    · have HR := Lib.hid (HRC2.out hy)
                      subst hy
                      go_wp2_with fail
                      go_roundg m
                      case measure => omega
                      case rel => exact ⟨_, k + 1, rfl, by omega, by go_num, HB7, HR⟩
                    · have HR := Lib.hid (HRB2.out hy)
                      have y1 : (y == 0) = false := beq_eq_false_iff_ne.2 hy
                      have y2 : (y != 0) = true := by rw [bne_iff_ne]; exact hy
                      go_wp2_with fail
                      go_ret
                      exact ⟨by rw [HR.out] <;> rfl, HB7.out⟩
                · have q2' : ¬ (0 : Int) < t.parts.length := by omega
                  have q2n : ¬ 0 < t.parts.length := by omega
                  clear q9
                  go_wp2_with fail
                  refine HSH.out.mono ?_
                  rintro e w6 ⟨rfl, hw6⟩
                  have hb6 : Below w5.heap.size w5 w6 := by rw [← hw6]; exact (Below.refl _ _).alloc (Nat.le_refl _) _
                  clear hw6
                  have HB6 := Lib.hid (HB5.out.trans (hb6.mono HB5.out.size))
                  have o6 := Older.of_below hb6
                  have m0 := (o6.cell _ _ hzN5).trans m0
                  have m3 := (o6.cell _ _ hzN5).trans m3
                  have HCL6 := Lib.hid (HCALL.out w6 (HPV5.out.older o6))
                  clear hb6 o6
                  cases hr : isRaw t.name with
                  | true =>
                    have HR := Lib.hid (HR4.out hr)
                    clear hr
                    go_wp2_with fail
                    go_ret
                    exact ⟨by rw [HR.out]; rfl, HB6.out⟩
                  | false =>
                    have HRB2 := Lib.hid (HRB.out hr)
                    have HRC2 := Lib.hid (HRC.out hr)
                    clear hr
                    go_wp2_with fail
                    refine HCL6.out.mono ?_
                    rintro e w7 ⟨rfl, hb7⟩
                    have HB7 := Lib.hid (HB6.out.trans (hb7.mono HB6.out.size))
                    clear hb7
                    generalize faultL (deep + 1) false t.parts = y at *
                    by_cases hy : y = 0
                    · have HR := Lib.hid (HRC2.out hy)
                      subst hy
                      go_wp2_with fail
                      go_roundg m
                      case measure => omega
                      case rel => exact ⟨_, k + 1, rfl, by omega, by go_num, HB7, HR⟩
                    · have HR := Lib.hid (HRB2.out hy)
                      have y1 : (y == 0) = false := beq_eq_false_iff_ne.2 hy
                      have y2 : (y != 0) = true := by rw [bne_iff_ne]; exact hy
                      go_wp2_with fail
                      go_ret
                      exact ⟨by rw [HR.out] <;> rfl, HB7.out⟩
            · have g1 := sBeqF q3
              have g2 := sEqF q3
              have g3 := sEmpF q3
              have HR := Lib.hid (HR4.out (by rw [beq_eq_false_iff_ne.2 q3]; rfl))
              clear q3
              go_wp2_with fail
              go_ret
              exact ⟨by rw [HR.out]; rfl, HB4.out⟩
          · have HR := Lib.hid (show faultL deep false l = x by rw [HST.out, HFM.out, if_pos hx0, if_pos hx0])
            have x1 : (x == 0) = false := beq_eq_false_iff_ne.2 hx0
            have x2 : (x != 0) = true := by rw [bne_iff_ne]; exact hx0
            clear hx
            go_wp2_with fail
            go_ret
            exact ⟨by rw [HR.out] <;> rfl, HB4.out⟩
    · obtain rfl : k = l.length := by omega
      have HR := Lib.hid (show faultL deep false l = 0 by rw [hF.out, List.drop_length, faultL])
      clear hF
      go_wp2_with fail
      go_ret
      exact ⟨by rw [HR.out] <;> rfl, hB.out⟩
end Go.Proofs.YtjkgmdnkejjppaaGreatDoor
/- Walk of the reference's TreeCount. -/
namespace Go.Proofs.YtjkgmdnkejjppaaGreatDoor
open Go Go.RowKit

theorem list_choose {α β : Type} : ∀ (l : List α) (R : Nat → α → β → Prop), (∀ i t, l[i]? = some t → ∃ b, R i t b) → ∃ ps : List (α × β), ps.map Prod.fst = l ∧ ∀ i p, ps[i]? = some p → R i p.1 p.2
  | [], _, _ => ⟨[], rfl, fun i p h => by simp at h⟩
  | a :: l, R, h => by
    obtain ⟨b, hb⟩ := h 0 a (by simp)
    obtain ⟨ps, h1, h2⟩ := list_choose l (fun i => R (i + 1)) (fun i t ht => h (i + 1) t (by simpa using ht))
    refine ⟨(a, b) :: ps, by rw [List.map_cons, h1], fun i p hp => ?_⟩
    cases i with
    | zero => simp at hp; subst hp; exact hb
    | succ i => exact h2 i p (by simpa using hp)

/-- A level's parts. -/
def kidsL (l : List TNode) : List TNode := l.flatMap TNode.parts
theorem count_kids : ∀ l : List TNode, countL (kidsL l) + l.length = countL l
  | [] => rfl
  | .mk n a t ps :: l => by
    have ih := count_kids l
    show countL (ps ++ kidsL l) + (l.length + 1) = countN (.mk n a t ps) + countL l
    rw [countL_append, countN]; omega
theorem deep_kids : ∀ l : List TNode, (l = [] → deepL l = 0) ∧ (l ≠ [] → deepL (kidsL l) + 1 = deepL l)
  | [] => ⟨fun _ => rfl, fun h => (h rfl).elim⟩
  | .mk n a t ps :: l => by
    have ih := deep_kids l
    refine ⟨fun h => (List.cons_ne_nil _ _ h).elim, fun _ => ?_⟩
    show deepL (ps ++ kidsL l) + 1 = max (deepL ps + 1) (deepL l)
    rw [deepL_append]
    by_cases h : l = []
    · have := ih.1 h
      subst h
      show max (deepL ps) (deepL []) + 1 = _
      omega
    · have := ih.2 h
      omega
theorem kids_take (l : List TNode) (k : Nat) (t : TNode) (h : l[k]? = some t) : kidsL (l.take (k + 1)) = kidsL (l.take k) ++ t.parts := by
  unfold kidsL
  rw [List.take_add_one, h, List.flatMap_append]; simp

theorem NodeIn.rows {P : Nat → Prop} {d : Nat} {w : World} {v : Value} {l : List TNode} (h : NodeIn P (d + 1) w v l) : ∃ qs : List NCell, qs.map Prod.fst = l ∧
    ∀ (i : Nat) (q : NCell), qs[i]? = some q → (∃ g cap, v = .slice (some ⟨g, 0, none⟩) l.length cap ∧ NodeAt w g i q.1 q.2.1 q.2.2) ∧ AttrView w q.2.1 q.1.attrs ∧ NodeIn P d w q.2.2 q.1.parts := by
  obtain ⟨qs, h1, h2⟩ := list_choose l (fun i t (b : Value × Value) => (∃ g cap, v = .slice (some ⟨g, 0, none⟩) l.length cap ∧ NodeAt w g i t b.1 b.2) ∧ AttrView w b.1 t.attrs ∧ NodeIn P d w b.2 t.parts) (fun i t ht => by
    obtain ⟨g, cap, av, pv, h1, h2, h3, hp, h4, h5, h6, h7⟩ := h.2 i t ht
    exact ⟨(av, pv), ⟨g, cap, h1, h5⟩, h6, h7⟩)
  exact ⟨qs, h1, h2⟩
theorem NodeIn.up {P : Nat → Prop} {d : Nat} {w : World} {v : Value} {l : List TNode} (h : NodeIn P d w v l) : NodeIn P (d + 1) w v l := by
  induction d generalizing v l with
  | zero =>
    obtain ⟨rfl, a, cap, rfl⟩ := h
    exact ⟨⟨a, cap, rfl⟩, fun i t hi => by simp at hi⟩
  | succ d ih =>
    refine ⟨h.1, fun i t hi => ?_⟩
    obtain ⟨g, cap, av, pv, h1, h2, h3, hp, h4, h5, h6, h7⟩ := h.2 i t hi
    exact ⟨g, cap, av, pv, h1, h2, h3, hp, h4, h5, h6, ih h7⟩

/-- Nodes copied into a row of the call's own; what is in them lies below. -/
def NodeMix (d B : Nat) (w : World) (v : Value) (l : List TNode) : Prop :=
  ∃ ps : List NCell, ps.map Prod.fst = l ∧ w.ownsRow B 44 4 v ps.length (nodeCells ps) ∧ ∀ p ∈ ps, AttrView w p.2.1 p.1.attrs ∧ NodeIn (fun g => g < B) d w p.2.2 p.1.parts
theorem NodeMix.nil (d B : Nat) (w : World) : NodeMix d B w (.slice none 0 0) [] := ⟨[], rfl, World.ownsRow_nil w B _ _, fun p hp => by cases hp⟩
theorem NodeMix.older {d B : Nat} {w w' : World} {v : Value} {l : List TNode} (h : NodeMix d B w v l) (hk : Older w w') : NodeMix d B w' v l := by
  obtain ⟨ps, h1, h2, h3⟩ := h
  exact ⟨ps, h1, ownsRow_kept h2 fun g c _ hg => (hk.2 g (lt_of_block hg)).trans hg, fun p hp => ⟨(h3 p hp).1.older hk, (h3 p hp).2.older hk⟩⟩
theorem NodeMix.view {d B : Nat} {w : World} {v : Value} {l : List TNode} (h : NodeMix d B w v l) : NodeView (d + 1) w v l := by
  obtain ⟨ps, rfl, hown, hat⟩ := h
  have hlen : (ps.map Prod.fst).length = ps.length := List.length_map _
  refine ⟨by rw [hlen]; exact ownsRow_slice hown, fun i t hi => ?_⟩
  rw [List.getElem?_map] at hi
  obtain ⟨p, hp, rfl⟩ := Option.map_eq_some_iff.1 hi
  have hlt : i < ps.length := (List.getElem?_eq_some_iff.1 hp).1
  obtain ⟨g, cap, hv, hB, hg, hc, hm, hcell, _⟩ := ownsRow_cells hown (by omega)
  refine ⟨g, cap, p.2.1, p.2.2, by rw [hlen]; exact hv, by rw [hlen]; exact hc, hm, trivial, ownsRow_block hown hv (by omega), ⟨?_, ?_, ?_, ?_⟩, (hat p (List.mem_of_getElem? hp)).1, (hat p (List.mem_of_getElem? hp)).2.any⟩
  · exact hcell _ _ ((nodeCells_get ps i p 0 (by decide) hp).trans rfl)
  · exact hcell _ _ ((nodeCells_get ps i p 1 (by decide) hp).trans rfl)
  · exact hcell _ _ ((nodeCells_get ps i p 2 (by decide) hp).trans rfl)
  · exact hcell _ _ ((nodeCells_get ps i p 3 (by decide) hp).trans rfl)
theorem NodeMix.form {d B : Nat} {w : World} {v : Value} {l : List TNode} (h : NodeMix d B w v l) : ∃ a cap, v = .slice a l.length cap := h.view.form
theorem NodeMix.block {d B : Nat} {w : World} {v : Value} {l : List TNode} (h : NodeMix d B w v l) {g : Nat} (hg : v.ownBlock = some g) : B ≤ g ∧ ∃ cs, w.heap[g]? = some (.cells cs 44 (0, 0)) := by
  obtain ⟨ps, _, h2, _⟩ := h
  obtain ⟨cs, h3, h4⟩ := own_type h2 hg
  exact ⟨h4, cs, h3⟩
theorem NodeIn.low {d : Nat} {w : World} {v : Value} {l : List TNode} (h : NodeView d w v l) : NodeIn (fun g => g < w.heap.size) d w v l := h.stay (fun _ _ _ => rfl) fun _ _ _ hg => ⟨lt_of_block hg, rfl⟩
theorem nodeCells_length : ∀ qs : List NCell, (nodeCells qs).length = qs.length * 4
  | [] => rfl
  | q :: qs => by show (nodeCell q ++ nodeCells qs).length = _; rw [List.length_append, nodeCells_length qs]; show 4 + _ = (qs.length + 1) * 4; omega

/-- append(tv, xv...) of nodes of the call's own row and nodes that are seen, whose rows lie below. -/
theorem run_append_mix (d B : Nat) (w : World) (tv xv : Value) (l m : List TNode) (ty : TypeId) (h1 : NodeMix d B w tv l) (h2 : NodeIn (fun g => g < B) (d + 1) w xv m) (hl : l.length ≤ 1000000) (hm : m.length ≤ 1000000) (hB : B ≤ w.heap.size) :
    ∃ v' w', (Builtin.append_ #[22, 22] ty #[tv, xv]).run Tryz.prog w = .ok v' w' ∧ NodeMix d B w' v' (l ++ m) ∧ w.grownBy w' tv.ownBlock := by
  obtain ⟨ps, rfl, hown, hat⟩ := h1
  obtain ⟨A, c, rfl⟩ := h2.form
  obtain ⟨qs, rfl, hq⟩ := h2.rows
  clear h2
  rw [List.length_map] at hl hm hq
  obtain ⟨i0, hi0, hz0, hz1, hz2⟩ := info_parts infoNode
  rw [show (qs.map Prod.fst).length = qs.length from List.length_map _]
  have hkeep : ∀ (w' : World), w.grownBy w' tv.ownBlock → ∀ (g : Nat) (cs : Array Value) (e : TypeId), w.heap[g]? = some (.cells cs e (0, 0)) → (e ≠ 44 ∨ g < B) → w'.heap[g]? = w.heap[g]? := by
    intro w' hg g cs e hgc he
    refine hg.block g (lt_of_block hgc) fun e' => ?_
    obtain ⟨cs', h3, h4⟩ := own_type hown e'.symm
    rcases he with he | he
    · exact type_ne hgc h3 he rfl
    · omega
  have stayA : ∀ (w' : World), w.grownBy w' tv.ownBlock → ∀ va al, AttrView w va al → AttrView w' va al := fun w' hg va al hv => hv.stay fun g cs hgc => hkeep w' hg g cs _ hgc (.inl (by decide))
  have stayN : ∀ (w' : World), w.grownBy w' tv.ownBlock → ∀ va al, NodeIn (fun g => g < B) d w va al → NodeIn (fun g => g < B) d w' va al := fun w' hg va al hv => hv.stay (fun g cs hgc => hkeep w' hg g cs _ hgc (.inl (by decide))) fun g cs hp hgc => ⟨hp, hkeep w' hg g cs _ hgc (.inr hp)⟩
  cases qs with
  | nil =>
    cases A with
    | none => exact ⟨tv, w, run_append_of_nil w B 22 ty 44 i0 4 Tryz.underlying22 hi0 tv _ _ hown c, ⟨ps, by simp, hown, hat⟩, World.grownBy.refl w _⟩
    | some ad =>
      obtain ⟨v', w', hr, k2, k3, _⟩ := run_append_own (P := Tryz.prog) w B 22 ty 44 i0 _ 4 80 Tryz.underlying22 hi0 hz0 hz1 hz2 rfl (by decide) tv ps.length (nodeCells ps) hown ad 0 c [] rfl (fun j u h => by simp at h) (fun u h => by cases h) (by unfold maxLen; omega) (by omega) hB
      exact ⟨v', w', hr, ⟨ps, by simp, by simpa using k2, fun p hp => ⟨stayA w' k3 _ _ (hat p hp).1, stayN w' k3 _ _ (hat p hp).2⟩⟩, k3⟩
  | cons q0 qs0 =>
    obtain ⟨⟨g, cap, hv, -⟩, -⟩ := hq 0 q0 rfl
    have hA : A = some ⟨g, 0, none⟩ := by simp at hv; exact hv.1
    subst hA
    generalize q0 :: qs0 = qs at *
    have hcells : ∀ j u, (nodeCells qs)[j]? = some u → w.cell? ((⟨g, 0, none⟩ : Addr).add j) = some u := by
      intro j u hu
      have hadd : (⟨g, 0, none⟩ : Addr).add j = ⟨g, j, none⟩ := by unfold Addr.add; split <;> simp_all
      rw [hadd]
      have hj : j < qs.length * 4 := by rw [← nodeCells_length]; exact (List.getElem?_eq_some_iff.1 hu).1
      have hi : j / 4 < qs.length := by omega
      obtain ⟨p, hp⟩ : ∃ p, qs[j / 4]? = some p := ⟨_, List.getElem?_eq_getElem hi⟩
      obtain ⟨⟨g', cap', hv', ht⟩, -⟩ := hq (j / 4) p hp
      obtain rfl : g = g' := by simp at hv'; exact hv'.1
      have hk := nodeCells_get qs (j / 4) p (j % 4) (by omega) hp
      have hj5 : j / 4 * 4 + j % 4 = j := by omega
      rw [hj5] at hk
      rw [hk] at hu
      have hr : j % 4 = 0 ∨ j % 4 = 1 ∨ j % 4 = 2 ∨ j % 4 = 3 := by omega
      rcases hr with hr | hr | hr | hr
      · rw [hr] at hu; rw [← hj5, hr]; exact (ht.nm).trans hu
      · rw [hr] at hu; rw [← hj5, hr]; exact (ht.ats).trans hu
      · rw [hr] at hu; rw [← hj5, hr]; exact (ht.txt).trans hu
      · rw [hr] at hu; rw [← hj5, hr]; exact (ht.pts).trans hu
    have hat2 : ∀ p ∈ qs, AttrView w p.2.1 p.1.attrs ∧ NodeIn (fun g => g < B) d w p.2.2 p.1.parts := by
      intro p hp
      obtain ⟨i, hi, he⟩ := List.getElem_of_mem hp
      exact (hq i p (by rw [List.getElem?_eq_getElem hi, he])).2
    have hone : ∀ u ∈ nodeCells qs, u.oneCell' = true := by
      intro u hu
      obtain ⟨p, hp, hu⟩ := List.mem_flatMap.1 hu
      obtain ⟨⟨a, c, hf⟩, _⟩ := (hat2 p hp).1
      obtain ⟨a2, c2, hf2⟩ := (hat2 p hp).2.form
      unfold nodeCell at hu
      rw [hf, hf2] at hu
      simp only [List.mem_cons, List.not_mem_nil, or_false] at hu
      rcases hu with rfl | rfl | rfl | rfl <;> rfl
    obtain ⟨v', w', hr, k2, k3, _⟩ := run_append_own (P := Tryz.prog) w B 22 ty 44 i0 _ 4 80 Tryz.underlying22 hi0 hz0 hz1 hz2 rfl (by decide) tv ps.length (nodeCells ps) hown ⟨g, 0, none⟩ qs.length c (nodeCells qs) (nodeCells_length qs) hcells hone (by unfold maxLen; omega) (by omega) hB
    refine ⟨v', w', hr, ⟨ps ++ qs, by simp, by rw [List.length_append, nodeCells_append]; exact k2, fun p hp => ?_⟩, k3⟩
    rcases List.mem_append.1 hp with hp | hp
    · exact ⟨stayA w' k3 _ _ (hat p hp).1, stayN w' k3 _ _ (hat p hp).2⟩
    · exact ⟨stayA w' k3 _ _ (hat2 p hp).1, stayN w' k3 _ _ (hat2 p hp).2⟩

theorem wpList_append_mix {ops : Array Oper} {rest : List Oper} {o : Oper} {a : Act} {Q : Exit → Act → World → Prop} {w : World} (hw : Region.wanted o (yielded ops a.tmps) = true) (s x : Operand)
    (ho : o.op = .call { callee := .builtin .append, args := #[s, x], argTypes := #[22, 22] })
    (d B : Nat) (tv xv : Value) (l m : List TNode) (hs : a.eval s = tv) (hx : a.eval x = xv) (h1 : NodeMix d B w tv l) (h2 : NodeIn (fun g => g < B) (d + 1) w xv m) (hl : l.length ≤ 1000000) (hm : m.length ≤ 1000000) (hB : B ≤ w.heap.size)
    (h : ∀ v' w', NodeMix d B w' v' (l ++ m) → Below B w w' → wpList Tryz.prog ops Q rest (a.put o.dst v') w') : wpList Tryz.prog ops Q (o :: rest) a w := by
  refine wpList_guarded hw fun K hK => ?_
  have hbl := fun g hg => (h1.block (g := g) hg).1
  obtain ⟨v', w', hr, k1, k2⟩ := run_append_mix d B w tv xv l m o.type h1 h2 hl hm hB
  unfold Oper.wp execOp
  simp only [ho, resolve, invoke, builtin, Sem.run_bind, Sem.run_pure, Result.andThen_ok, List.map_toArray, List.map_cons, List.map_nil, hs, hx, hr]
  exact hK _ _ (h v' w' k1 ⟨k2.os, k2.tape, k2.output, k2.size, fun k hk => k2.block k (by omega) fun e => by have := hbl k e.symm; omega⟩)

set_option maxHeartbeats 2000000 in
set_option maxRecDepth 100000 in
theorem rcount_any (d : Nat) (v : Value) (l : List TNode) (w : World) (hv : NodeView d w v l) (hct : countL l ≤ 1000000) (hdp : deepL l ≤ 1000000) :
    Calls Tryz.prog 67 #[v] w fun e w' => e = .returned (.tuple #[.int .i64 (countL l), .int .i64 (deepL l)]) ∧ Below w.heap.size w w' := by
  have HV := Lib.hid hv
  clear hv
  go_enter Tryz.func67, Tryz.ntmps67
  go_wp2_with fail
  go_loopg [0, 4, 5] (deepL l) (fun g lv x y wr => ∃ (W : World) (D : Nat) (m : List TNode) (a b : Nat), W = wr ∧ Hid (NodeView D W lv m) ∧ (∃ A C, lv = .slice A m.length C) ∧ x = .int .i64 a ∧ y = .int .i64 b ∧ a + countL m = countL l ∧ b + deepL m = deepL l ∧ deepL m = g ∧ Hid (Below w.heap.size w W))
  case atStart =>
    obtain ⟨A, C, rfl⟩ := HV.out.form
    exact ⟨_, d, l, 0, 0, rfl, HV, ⟨_, _, rfl⟩, rfl, rfl, by omega, by omega, rfl, Lib.hid (Below.refl _ _)⟩
  case round =>
    obtain ⟨W, D, m, x, y, rfl, hm, ⟨A, C, rfl⟩, rfl, rfl, hx, hy, hg, hW⟩ := hrel
    by_cases hnil : m = []
    · subst hnil
      have c1 : ¬ (0 : Int) < ([] : List TNode).length := by simp
      have ex : x = countL l := by rw [← hx]; rfl
      have ey : y = deepL l := by rw [← hy]; rfl
      subst ex ey
      clear hx hy hg
      go_wp2_with fail
      exact bodyPost_ret (v := .tuple #[.int .i64 (countL l), .int .i64 (deepL l)]) (by simp [results, Tryz.results67, go_sem]) rfl ⟨rfl, hW.out⟩
    · have hk1 := count_kids m
      have hk2 := (deep_kids m).2 hnil
      have hmp : 0 < m.length := List.length_pos_iff.2 hnil
      have hml := len_countL m
      have c1 : (0 : Int) < m.length := by omega
      obtain ⟨E, hE⟩ : ∃ E, D = E + 1 := by
        cases D with
        | zero => exact absurd hm.out.1 hnil
        | succ E => exact ⟨E, rfl⟩
      subst hE
      have HM := Lib.hid hm.out.low
      clear hm hnil
      have b1 : x + m.length ≤ 1000000 := by omega
      have b2 : y + 1 ≤ 1000000 := by omega
      have HX := Lib.hid hx
      have HY := Lib.hid hy
      clear hx hy
      go_wp2_with fail
      go_loopw [6, 20] (fun nv i wr => ∃ (W2 : World) (k : Nat), W2 = wr ∧ k ≤ m.length ∧ i = .int .i64 k ∧ Hid (NodeMix E W.heap.size W2 nv (kidsL (m.take k))) ∧ Hid (Below W.heap.size W W2)) (fun _ i _ => m.length - (intOf i).toNat)
      case atStart => exact ⟨_, 0, rfl, by omega, rfl, Lib.hid (NodeMix.nil _ _ _), Lib.hid (Below.refl _ _)⟩
      case round =>
        obtain ⟨W2, k, rfl, hk, rfl, hn, hb⟩ := hrel
        by_cases hlt : k < m.length
        · obtain ⟨t, ht⟩ : ∃ t, m[k]? = some t := ⟨_, List.getElem?_eq_getElem hlt⟩
          obtain ⟨g, c, av, pv, hf, hc1, hc2, hgB, ⟨cs, hgb⟩, hat, hav, hpv⟩ := (HM.out.older (.of_below hb.out)).2 k t ht
          obtain rfl : A = some ⟨g, 0, none⟩ := by simp at hf; exact hf.1
          obtain ⟨a1, a2, a3, a4⟩ := hat
          obtain ⟨pa, pc, hpf⟩ := hpv.form
          subst hpf
          obtain ⟨⟨aa, ac, haf⟩, -⟩ := id hav
          subst haf
          obtain ⟨na, nc, hnf⟩ := hn.out.form
          subst hnf
          obtain ⟨w1, hw1⟩ : ∃ w1, w1 = W2.alloc (.cells #[.string (mk t.name), .slice aa t.attrs.length ac, .string (mk t.text), .slice pa t.parts.length pc] 44) := ⟨_, rfl⟩
          have hb1 : Below W2.heap.size W2 w1 := by rw [hw1]; exact (Below.refl _ _).alloc (Nat.le_refl _) _
          have hN1 : w1.heap[W2.heap.size]? = some (.cells #[.string (mk t.name), .slice aa t.attrs.length ac, .string (mk t.text), .slice pa t.parts.length pc] 44 (0, 0)) := by rw [hw1]; exact heap_alloc_new _ _
          have m3 : w1.cell? ⟨W2.heap.size, 3, none⟩ = some (.slice pa t.parts.length pc) := by rw [Lib.cell_of_heap hN1]; rfl
          have HW1 := Lib.hid hw1
          have hbb := hb.out.trans (hb1.mono hb.out.size)
          have HB1 := Lib.hid hbb
          have HNM := Lib.hid (hn.out.older (.of_below hb1))
          have HPV := Lib.hid ((hpv.older (.of_below hb1)).up)
          have hq1 := kids_take m k t ht
          have hq2 := len_countL (kidsL (m.take (k + 1)))
          have hq3 := count_kids (m.take (k + 1))
          have hq4 := countL_take_le m (k + 1)
          rw [hq1] at hq2 hq3
          rw [countL_append] at hq2 hq3
          have HQ1 := Lib.hid hq1
          have hxx := HX.out
          have e1 : (kidsL (m.take k)).length ≤ 1000000 := by have := len_countL (kidsL (m.take k)); omega
          have e2 : t.parts.length ≤ 1000000 := by have := len_countL t.parts; omega
          have hz : W.heap.size ≤ w1.heap.size := hbb.size
          have k0 : (0 : Int) ≤ k := by omega
          have k1 : (k : Int) < m.length := by omega
          clear hf hpv hav ht hb1 hN1 hw1 hbb hq1 hq2 hq3 hq4 hgb hn hxx
          go_upto_region 10 with fail
          rw [← HW1.out]
          go_wp2_with (at_builtin; go_must (refine wpList_append_mix (by rfl) (.tmp 24) (.tmp 26) (by rfl) E W.heap.size _ _ (kidsL (m.take k)) t.parts (by rfl) (by rfl) HNM.out HPV.out e1 e2 hz ?_); intro v' w' hown' hbl'; have HOW := Lib.hid hown'; have HBL := Lib.hid hbl'; clear hown' hbl')
          go_roundw
          case rel => exact ⟨_, k + 1, rfl, by omega, by go_num, by rw [HQ1.out]; exact HOW, Lib.hid (HB1.out.trans HBL.out)⟩
          case measure => simp [intOf]; omega
        · obtain rfl : k = m.length := by omega
          rw [List.take_length] at hn
          have HN := Lib.hid hn.out.view
          obtain ⟨na, nc, hnf⟩ := hn.out.form
          subst hnf
          go_wp2_with fail
          go_roundg (deepL (kidsL m))
          case measure => omega
          case rel => exact ⟨_, E + 1, kidsL m, x + m.length, y + 1, rfl, HN, ⟨_, _, rfl⟩, by go_num, by go_num, by have := HX.out; omega, by have := HY.out; omega, rfl, Lib.hid (hW.out.trans (hb.out.mono hW.out.size))⟩
end Go.Proofs.YtjkgmdnkejjppaaGreatDoor
/- Walks of the reference's show: nodesText, ShowFault, ShowText. -/
namespace Go.Proofs.YtjkgmdnkejjppaaGreatDoor
open Go Go.RowKit

theorem tag_cat (n : Bytes) (l : List TAttr) : mk (60 :: n ++ attrTexts l) ++ ⟨#[62]⟩ = mk (tagText n l false) := by
  rw [show (⟨#[62]⟩ : ByteArray) = mk [62] from rfl, cat_mk]
  unfold tagText tagTail
  simp

set_option maxHeartbeats 4000000 in
set_option maxRecDepth 100000 in
theorem rof_any : ∀ (d : Nat) (v : Value) (l : List TNode) (w : World), NodeView d w v l → countL l ≤ 100000 → SzL l →
    Calls Tryz.prog 43 #[v] w fun e w' => e = .returned (.string (mk (ofL l))) ∧ Below w.heap.size w w' := by
  intro d
  induction d using Nat.strongRecOn with
  | _ d ih =>
  intro v l w hv hct hsz
  obtain ⟨a, cap, rfl⟩ := hv.form
  have hln := Nat.le_trans (len_countL l) hct
  have HIH := Lib.hid ih
  have HV := Lib.hid hv
  have HCT := Lib.hid hct
  have HSL := Lib.hid hsz
  have HSZ := Lib.hid hsz.mem
  clear ih hv hct hsz
  go_enter Tryz.func43, Tryz.ntmps43
  go_wp2_with fail
  go_loopg [3, 8] l.length (fun g s i wx => ∃ (W : World) (k : Nat), W = wx ∧ k + g = l.length ∧ i = .int .i64 k ∧ s = .string (mk (ofL (l.take k))) ∧ Hid (Below w.heap.size w wx))
  case atStart => exact ⟨_, 0, rfl, by omega, rfl, by rw [List.take_zero, ofL]; rfl, Lib.hid (Below.refl _ _)⟩
  case round =>
    obtain ⟨W, k, rfl, hk, rfl, rfl, hB⟩ := hrel
    by_cases hlt : k < l.length
    · obtain ⟨m, rfl⟩ : ∃ m, gk = m + 1 := ⟨gk - 1, by omega⟩
      obtain ⟨t, ht⟩ : ∃ t, l[k]? = some t := ⟨_, List.getElem?_eq_getElem hlt⟩
      obtain ⟨d', hd', g, c, av, pv, hf, hc1, hc2, hg, hat, hav, hpv⟩ := (HV.out.older (.of_below hB.out)).get k t ht
      obtain rfl : a = some ⟨g, 0, none⟩ := by simp at hf; exact hf.1
      obtain ⟨a1, a2, a3, a4⟩ := hat
      obtain ⟨pa, pc, hpf⟩ := hpv.form
      subst hpf
      obtain ⟨⟨aa, ac, haf⟩, -⟩ := id hav
      subst haf
      have hs := (HSZ.out t (List.mem_of_getElem? ht)).all
      have h3 := countN_mem (List.mem_of_getElem? ht)
      rw [countN_of] at h3
      obtain ⟨w1, hw1⟩ : ∃ w1, w1 = W.alloc (.cells #[.string (mk t.name), .slice aa t.attrs.length ac, .string (mk t.text), .slice pa t.parts.length pc] 44) := ⟨_, rfl⟩
      have hb1 : Below W.heap.size W w1 := by rw [hw1]; exact (Below.refl _ _).alloc (Nat.le_refl _) _
      have hN1 : w1.heap[W.heap.size]? = some (.cells #[.string (mk t.name), .slice aa t.attrs.length ac, .string (mk t.text), .slice pa t.parts.length pc] 44 (0, 0)) := by rw [hw1]; exact heap_alloc_new _ _
      have m0 : w1.cell? ⟨W.heap.size, 0, none⟩ = some (.string (mk t.name)) := by rw [Lib.cell_of_heap hN1]; rfl
      have m1 : w1.cell? ⟨W.heap.size, 1, none⟩ = some (.slice aa t.attrs.length ac) := by rw [Lib.cell_of_heap hN1]; rfl
      have m2 : w1.cell? ⟨W.heap.size, 2, none⟩ = some (.string (mk t.text)) := by rw [Lib.cell_of_heap hN1]; rfl
      have m3 : w1.cell? ⟨W.heap.size, 3, none⟩ = some (.slice pa t.parts.length pc) := by rw [Lib.cell_of_heap hN1]; rfl
      have hzN := lt_of_block hN1
      have HB1 := Lib.hid (hB.out.trans (hb1.mono hB.out.size))
      have HW1 := Lib.hid hw1
      have HAV := Lib.hid (hav.older (.of_below hb1))
      have HPV := Lib.hid (hpv.older (.of_below hb1))
      have HTK := Lib.hid (ofL_take l k t ht)
      have HON := Lib.hid (ofN_of t)
      have htl := ofL_len (l.take k) (HSL.out.take k)
      have hcl := countL_take_le l k
      have hpl := ofL_len t.parts hs.2
      have hcz := HCT.out
      have hDz : (mk (ofL (l.take k))).size ≤ 1000000000000 := by rw [mk_size]; omega
      have hRz : (mk (ofL t.parts)).size ≤ 1000000000000 := by rw [mk_size]; omega
      have hNz : (mk t.name).size ≤ 1000 := by rw [mk_size]; exact hs.1.1
      have hXz : (mk t.text).size ≤ 1000 := by rw [mk_size]; exact hs.1.2.1
      have hEz : (tagText t.name t.attrs false).length ≤ 8000000 := tokText_len ⟨1, t.name, t.attrs, false, []⟩ ⟨hs.1.1, by show 0 ≤ 1000; omega, hs.1.2.2.1, hs.1.2.2.2⟩
      have HTAG := Lib.hid (rstart_any t.name (.slice aa t.attrs.length ac) t.attrs w1 HAV.out hs.1.1 hs.1.2.2.1 hs.1.2.2.2)
      have HOF := Lib.hid (fun W' (h : Older w1 W') => HIH.out d' (by omega) (.slice pa t.parts.length pc) t.parts W' (HPV.out.older h) (by omega) hs.2)
      have k0 : (0 : Int) ≤ k := by omega
      have k1 : (k : Int) < l.length := by omega
      clear hf hpv hav ht hb1 hN1 hw1 hs h3 hd' htl hcl hpl hcz
      generalize ofL (l.take k) = D at *
      generalize ofL t.parts = R at *
      go_upto_region 5 with fail
      rw [← HW1.out]
      clear a1 a2 a3 a4
      by_cases hn : t.name = []
      · rw [hn] at m0
        have m0' : w1.cell? ⟨W.heap.size, 0, none⟩ = some (.string ⟨#[]⟩) := m0
        have HST := Lib.hid (show ofL (l.take (k + 1)) = D ++ escM false t.text by rw [HTK.out, HON.out, if_pos hn])
        have HES := Lib.hid (rescape_any (mk t.text) false w1 (by omega))
        rw [lst_mk] at HES
        have hez := (escM_len false t.text).2.1
        rw [mk_size] at hXz
        have hEz2 : (mk (escM false t.text)).size ≤ 6000 := by rw [mk_size]; omega
        generalize escM false t.text = E at *
        clear m0 hn HON hez hEz HTAG HOF
        go_wp2_with fail
        refine HES.out.mono ?_
        rintro e w3 ⟨rfl, q, hw3⟩
        have HB3 := Lib.hid (show Below w.heap.size w w3 by rw [hw3]; exact ⟨HB1.out.os, HB1.out.tape, HB1.out.output, HB1.out.size, HB1.out.block⟩)
        clear hw3
        go_wp2_with fail
        go_roundg m
        case measure => omega
        case rel => exact ⟨_, k + 1, rfl, by omega, by go_num, by rw [HST.out, ← cat_mk], HB3⟩
      · have f1 := sBeqF hn
        have f2 := sEqF hn
        have f3 := sEmpF hn
        have HCT1 := Lib.hid (show mk D ++ (mk (60 :: t.name ++ attrTexts t.attrs) ++ ⟨#[62]⟩) = mk (D ++ tagText t.name t.attrs false) by rw [tag_cat, cat_mk])
        have htz : (60 :: t.name ++ attrTexts t.attrs).length + 1 = (tagText t.name t.attrs false).length := by unfold tagText tagTail; simp; omega
        have HOE := Lib.hid (show ofN t = if isVoid t.name then tagText t.name t.attrs false else tagText t.name t.attrs false ++ (R ++ (60 :: 47 :: t.name ++ [62])) by rw [HON.out, if_neg hn])
        generalize tagText t.name t.attrs false = E at *
        generalize 60 :: t.name ++ attrTexts t.attrs = T0 at *
        have hTz : (mk T0).size ≤ 8000000 := by rw [mk_size]; omega
        have hDEz : (mk (D ++ E)).size ≤ 2000000000000 := by rw [mk_size] at *; rw [List.length_append]; omega
        clear hn HON htz hEz
        go_wp2_with fail
        refine HTAG.out.mono ?_
        rintro e w2 ⟨rfl, hb2⟩
        have HB2 := Lib.hid (HB1.out.trans (hb2.mono HB1.out.size))
        have o2 := Older.of_below hb2
        have m0 := (o2.cell _ _ hzN).trans m0
        have m3 := (o2.cell _ _ hzN).trans m3
        have hzN2 := Nat.lt_of_lt_of_le hzN hb2.size
        have HO2 := Lib.hid o2
        have HVD := Lib.hid (risVoid_any t.name w2)
        clear hb2 o2 m1 m2
        go_wp2_with fail
        rw [HCT1.out]
        refine HVD.out.mono ?_
        rintro e w3 ⟨rfl, hb3⟩
        have HB3 := Lib.hid (HB2.out.trans (hb3.mono HB2.out.size))
        have o3 := Older.of_below hb3
        have m0 := (o3.cell _ _ hzN2).trans m0
        have m3 := (o3.cell _ _ hzN2).trans m3
        have hzN3 := Nat.lt_of_lt_of_le hzN2 hb3.size
        have HO3 := Lib.hid (HO2.out.trans o3)
        clear hb3 o3
        cases hv : isVoid t.name with
        | true =>
          have HST := Lib.hid (show ofL (l.take (k + 1)) = D ++ E by rw [HTK.out, HOE.out, if_pos hv])
          clear hv HOF
          go_wp2_with fail
          go_roundg m
          case measure => omega
          case rel => exact ⟨_, k + 1, rfl, by omega, by go_num, by rw [HST.out], HB3⟩
        | false =>
          have HST := Lib.hid (show ofL (l.take (k + 1)) = (D ++ E) ++ (R ++ (60 :: 47 :: t.name ++ [62])) by rw [HTK.out, HOE.out, if_neg (by simp [hv]), List.append_assoc])
          clear hv
          have HCAT := Lib.hid (show mk (D ++ E) ++ (((mk R ++ ⟨#[60, 47]⟩) ++ mk t.name) ++ ⟨#[62]⟩) = mk ((D ++ E) ++ (R ++ (60 :: 47 :: t.name ++ [62]))) by
            rw [show (⟨#[60, 47]⟩ : ByteArray) = mk [60, 47] from rfl, show (⟨#[62]⟩ : ByteArray) = mk [62] from rfl, cat_mk, cat_mk, cat_mk, cat_mk]; congr 1; simp)
          have HOF3 := Lib.hid (HOF.out w3.drew (HO3.out.trans ⟨Nat.le_refl _, fun _ _ => rfl⟩))
          generalize D ++ E = DE at *
          have x1 : ¬ 9223372036854775807 < (mk R).size + 2 := by omega
          have x2 : ¬ 9223372036854775807 < (mk R).size + 2 + (mk t.name).size := by omega
          have x3 : ¬ 9223372036854775807 < (mk R).size + 2 + (mk t.name).size + 1 := by omega
          have x4 : ¬ 9223372036854775807 < (mk DE).size + ((mk R).size + 2 + (mk t.name).size + 1) := by omega
          go_wp2_with fail
          go_region_held3 (fun w' => w'.cell? ⟨W.heap.size, 0, none⟩ = some (.string (mk t.name)) ∧ w'.cell? ⟨W.heap.size, 3, none⟩ = some (.slice pa t.parts.length pc)) (first | (refine ⟨?_, ?_⟩ <;> assumption) | go_keep)
            (first
              | (go_at_call 43; (refine HOF3.out.mono ?_; rintro e w4 ⟨rfl, hb4⟩; have HB4 := Lib.hid (HB3.out.trans ((show Below w3.heap.size w3 w4 from ⟨hb4.os, hb4.tape, hb4.output, hb4.size, hb4.block⟩).mono HB3.out.size)); have o4 := Older.of_below (show Below w3.heap.size w3 w4 from ⟨hb4.os, hb4.tape, hb4.output, hb4.size, hb4.block⟩); have y0 := (o4.cell _ _ hzN3).trans m0; have y3 := (o4.cell _ _ hzN3).trans m3; clear hb4 o4)))
          go_wp2_with fail
          go_roundg m
          case measure => omega
          case rel => exact ⟨_, k + 1, rfl, by omega, by go_num, by rw [HST.out, ← HCAT.out], HB4⟩
    · obtain rfl : k = l.length := by omega
      rw [List.take_length]
      go_wp2_with fail
      go_ret
      exact ⟨rfl, hB.out⟩

set_option maxHeartbeats 1000000 in
theorem rcheck_any (d : Nat) (v : Value) (l : List TNode) (w : World) (hv : NodeView d w v l) (hct : countL l ≤ 100000) (hdp : deepL l ≤ 1000000) (hsz : SzL l) :
    Calls Tryz.prog 42 #[v] w fun e w' => e = .returned (.int .i64 (checkS l)) ∧ Below w.heap.size w w' := by
  have HF := Lib.hid (rfault_any d v l 0 w hv hct hsz (by omega))
  have HC := Lib.hid (fun W h => rcount_any d v l W h (by omega) hdp)
  have HV := Lib.hid hv
  have HX := Lib.hid (show checkS l = if faultL 0 false l ≠ 0 then faultL 0 false l else if 150 < countL l then 1 else 0 from rfl)
  clear hv hsz
  generalize faultL 0 false l = x at *
  go_enter Tryz.func42, Tryz.ntmps42
  go_wp2_with fail
  refine HF.out.mono ?_
  rintro e w1 ⟨rfl, hb1⟩
  have HB1 := Lib.hid hb1
  have HC1 := Lib.hid (HC.out w1 (HV.out.older (.of_below hb1)))
  clear hb1
  by_cases hx0 : x = 0
  · subst hx0
    go_wp2_with fail
    refine HC1.out.mono ?_
    rintro e w2 ⟨rfl, hb2⟩
    have HB2 := Lib.hid (HB1.out.trans (hb2.mono HB1.out.size))
    clear hb2
    by_cases h150 : 150 < countL l
    · have c1 : (150 : Int) < countL l := by omega
      have HR := Lib.hid (show checkS l = 1 by rw [HX.out, if_neg (by simp), if_pos h150])
      go_wp2_with fail
      go_ret
      exact ⟨by rw [HR.out] <;> rfl, HB2.out⟩
    · have c1 : ¬ (150 : Int) < countL l := by omega
      have HR := Lib.hid (show checkS l = 0 by rw [HX.out, if_neg (by simp), if_neg h150])
      go_wp2_with fail
      go_ret
      exact ⟨by rw [HR.out] <;> rfl, HB2.out⟩
  · have x1 : (x == 0) = false := beq_eq_false_iff_ne.2 hx0
    have x2 : (x != 0) = true := by rw [bne_iff_ne]; exact hx0
    have HR := Lib.hid (show checkS l = x by rw [HX.out, if_pos hx0])
    go_wp2_with fail
    go_ret
    exact ⟨by rw [HR.out] <;> rfl, HB1.out⟩

set_option maxHeartbeats 1000000 in
theorem rtext_any (d : Nat) (v : Value) (l : List TNode) (w : World) (hv : NodeView d w v l) (hct : countL l ≤ 100000) (hdp : deepL l ≤ 1000000) (hsz : SzL l) :
    Calls Tryz.prog 19 #[v] w fun e w' => e = .returned (.tuple #[.string (mk (textS l).1), .int .i64 (textS l).2]) ∧ Below w.heap.size w w' := by
  have HC := Lib.hid (rcheck_any d v l w hv hct hdp hsz)
  have HO := Lib.hid (fun W h => rof_any d v l W h hct hsz)
  have HV := Lib.hid hv
  have hz := ofL_len l hsz
  have hDz : (mk (ofL l)).size ≤ 1000000000000 := by rw [mk_size]; omega
  have HX := Lib.hid (show textS l = if checkS l ≠ 0 then ([], checkS l) else if 600 < (ofL l).length then ([], 1) else (ofL l, 0) from rfl)
  have hDl : (mk (ofL l)).size = (ofL l).length := mk_size _
  have HDL := Lib.hid hDl
  clear hv hsz hz hDl
  generalize checkS l = x at *
  generalize ofL l = D at *
  go_enter Tryz.func19, Tryz.ntmps19
  go_wp2_with fail
  refine HC.out.mono ?_
  rintro e w1 ⟨rfl, hb1⟩
  have HB1 := Lib.hid hb1
  have HO1 := Lib.hid (HO.out w1 (HV.out.older (.of_below hb1)))
  clear hb1
  by_cases hx0 : x = 0
  · subst hx0
    go_wp2_with fail
    refine HO1.out.mono ?_
    rintro e w2 ⟨rfl, hb2⟩
    have HB2 := Lib.hid (HB1.out.trans (hb2.mono HB1.out.size))
    clear hb2
    by_cases h6 : 600 < D.length
    · have c1 : (600 : Int) < (mk D).size := by rw [HDL.out]; omega
      have HR := Lib.hid (show textS l = ([], 1) by rw [HX.out, if_neg (by simp), if_pos h6])
      go_wp2_with fail
      exact bodyPost_ret (v := .tuple #[.string ⟨#[]⟩, .int .i64 1]) (by simp [results, Tryz.results19, go_sem]) rfl ⟨by rw [HR.out]; rfl, HB2.out⟩
    · have c1 : ¬ (600 : Int) < (mk D).size := by rw [HDL.out]; omega
      have HR := Lib.hid (show textS l = (D, 0) by rw [HX.out, if_neg (by simp), if_neg h6])
      go_wp2_with fail
      exact bodyPost_ret (v := .tuple #[.string (mk D), .int .i64 0]) (by simp [results, Tryz.results19, go_sem]) rfl ⟨by rw [HR.out] <;> rfl, HB2.out⟩
  · have x1 : (x == 0) = false := beq_eq_false_iff_ne.2 hx0
    have x2 : (x != 0) = true := by rw [bne_iff_ne]; exact hx0
    have HR := Lib.hid (show textS l = ([], x) by rw [HX.out, if_pos hx0])
    go_wp2_with fail
    exact bodyPost_ret (v := .tuple #[.string ⟨#[]⟩, .int .i64 x]) (by simp [results, Tryz.results19, go_sem]) rfl ⟨by rw [HR.out]; rfl, HB1.out⟩

end Go.Proofs.YtjkgmdnkejjppaaGreatDoor
