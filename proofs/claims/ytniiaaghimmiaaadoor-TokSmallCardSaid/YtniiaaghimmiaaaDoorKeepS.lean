/- Walks of the rows' functions: TokSmall. -/
import Derived.Test.YtniiaaghimmiaaaDoorKeepB
import Derived.Test.YtniiaaghimmiaaaDoorView
import Derived.Test.YtniiaaghimmiaaaDoorLawC
namespace Go.Proofs.YtniiaaghimmiaaaDoor
open Go Go.RowKit

theorem apartT_next : ∀ (l : List TTok) (p : Bool), apartT p l = true → (∀ t, l[0]? = some t → ¬ (p = true ∧ t.kind = 3)) ∧ ∀ i t u, l[i + 1]? = some t → l[i]? = some u → ¬ (t.kind = 3 ∧ u.kind = 3) := by
  intro l
  induction l with
  | nil => intro p _; exact ⟨fun t h => (by simp at h), fun i t u h => (by simp at h)⟩
  | cons a l ih =>
    intro p h
    simp only [apartT, Bool.and_eq_true, Bool.not_eq_true', Bool.and_eq_false_iff] at h
    obtain ⟨h1, h2⟩ := h
    obtain ⟨h3, h4⟩ := ih _ h2
    refine ⟨fun t ht => ?_, fun i t u ht hu => ?_⟩
    · simp at ht; subst ht
      rintro ⟨rfl, hk⟩
      rcases h1 with h | h
      · cases h
      · rw [hk] at h; cases h
    · cases i with
      | zero =>
        simp at hu; subst hu
        rintro ⟨hk, hk2⟩
        exact h3 t (by simpa using ht) ⟨by rw [hk2]; rfl, hk⟩
      | succ i => exact h4 i t u (by simpa using ht) (by simpa using hu)

set_option maxHeartbeats 1000000 in
set_option maxRecDepth 100000 in
theorem tokSmall_any (s : ByteArray) (w : World) (hg : Glob w) :
    Calls Tryd.prog 8 #[.string s] w fun e w' => e = .returned (.bool true) ∧ Below w.heap.size w w' := by
  have HG := Lib.hid hg
  have hpa := parse_any (s.extract 0 (min (s.size : Int) 600).toNat) w hg (by rw [ByteArray.size_extract]; omega)
  have hok := allM_ok (lst (s.extract 0 (min (s.size : Int) 600).toNat))
  have hlen := hok.len
  rw [lst_length] at hlen
  have hlen2 : (allM (lst (s.extract 0 (min (s.size : Int) 600).toNat))).length ≤ 300 := by rw [ByteArray.size_extract] at hlen; omega
  have hap := (apartT_next _ _ hok.apart).2
  have HOK := Lib.hid hok.ok
  have HLE := Lib.hid (fun t ht => (allM_le (lst (s.extract 0 (min (s.size : Int) 600).toNat)) t ht : TokLe _ t))
  rw [show (lst (s.extract 0 (min (s.size : Int) 600).toNat)).length = (s.extract 0 (min (s.size : Int) 600).toNat).size from lst_length _] at HLE
  have hTz : (s.extract 0 (min (s.size : Int) 600).toNat).size ≤ 600 := by rw [ByteArray.size_extract]; omega
  have HAP := Lib.hid hap
  have hpb := fun W h => parse_any ⟨#[60, 98, 62]⟩ W h (by decide)
  rw [show lst ⟨#[60, 98, 62]⟩ = [60, 98, 62] from rfl, allM_b] at hpb
  have HPA := Lib.hid hpa
  have HPB := Lib.hid hpb
  have HTZ := Lib.hid hTz
  clear hg hpa hpb hap hok hlen hTz
  generalize allM (lst (s.extract 0 (min (s.size : Int) 600).toNat)) = L at *
  go_enter Tryd.func8, Tryd.ntmps8
  go_wp2_with fail
  refine HPA.out.mono ?_
  rintro e w1 ⟨tv, rfl, htr, hbe⟩
  have HTR := Lib.hid htr.view
  have HBE := Lib.hid hbe
  clear htr hbe HPA
  go_wp2_with fail
  refine (HPB.out w1 (HG.out.below HBE.out HG.out.size)).mono ?_
  rintro e w2 ⟨tv2, rfl, htr, hbe⟩
  have HTV := Lib.hid (HTR.out.older (.of_below hbe))
  have HB2 := Lib.hid (Below.trans HBE.out (hbe.mono HBE.out.size))
  obtain ⟨⟨a2, cap2, htv2⟩, _⟩ := htr.view
  have htv2' : tv2 = .slice a2 1 cap2 := htv2
  obtain ⟨⟨a, cap, htv⟩, _⟩ := HTV.out
  clear htr hbe HPB HTR HBE htv2
  subst htv2' htv
  have hl1 : (L.length : Int) ≤ 300 := by omega
  go_wp2_with fail
  go_outline
  go_loopw [7] (fun i wr => ∃ k : Nat, k ≤ L.length ∧ i = .int .i64 k ∧ Hid (Below w2.heap.size w2 wr)) (fun i _ => L.length - (intOf i).toNat)
  case atStart => exact ⟨0, by omega, rfl, Lib.hid (Below.refl _ _)⟩
  case round =>
    obtain ⟨k, hk, rfl, hB⟩ := hrel
    by_cases hlt : k < L.length
    · obtain ⟨t, ht⟩ : ∃ t, L[k]? = some t := ⟨_, List.getElem?_eq_getElem hlt⟩
      obtain ⟨g, cap', va, hv, hc, hm, hg, hta, hav⟩ := (HTV.out.older (.of_below hB.out)).2 k t ht
      obtain ⟨rfl, rfl⟩ : a = some ⟨g, 0, none⟩ ∧ cap = cap' := by simpa using hv
      obtain ⟨d0, d1, d2, d3, d4⟩ := hta
      obtain ⟨⟨aa, capa, rfl⟩, hav2⟩ := hav
      have HAV0 := Lib.hid (show AttrView wr (.slice aa t.attrs.length capa) t.attrs from ⟨⟨_, _, rfl⟩, hav2⟩)
      clear hv hav2
      have hok := HOK.out t (List.mem_of_getElem? ht)
      have hprev := fun j u (hj : k = j + 1) hu => HAP.out j t u (hj ▸ ht) hu
      have HPREV := Lib.hid hprev
      obtain ⟨htx, hnm, hlo, hon⟩ := hok
      have hle := HLE.out t (List.mem_of_getElem? ht)
      have hz := HTZ.out
      have hnz : t.name.length ≤ 600 := Nat.le_trans hle.name hz
      have haz : t.attrs.length ≤ 600 := Nat.le_trans hle.count hz
      clear hle hz
      clear hprev
      have HTX := Lib.hid htx
      have HNM := Lib.hid hnm
      have HLO := Lib.hid hlo
      have HON := Lib.hid hon
      have HT := Lib.hid ht
      clear htx hnm hlo hon ht
      go_upto_region 9 with fail
      obtain ⟨w3, hw3⟩ : ∃ w3, w3 = wr.alloc (.cells #[.int .i64 t.kind, .string (mk t.name), .slice aa t.attrs.length capa, .bool t.self, .string (mk t.text)] 32) := ⟨_, rfl⟩
      rw [← hw3]
      have HB3 := Lib.hid (show Below w2.heap.size w2 w3 by rw [hw3]; exact hB.out.alloc hB.out.size _)
      have HO3 := Lib.hid (show Older wr w3 by rw [hw3]; exact Older.of_below ((Below.refl _ _).alloc (Nat.le_refl _) _))
      have HVIEW := Lib.hid ((HTV.out.older (.of_below hB.out)).older HO3.out).2
      have hH : w3.heap[wr.heap.size]? = some (.cells #[.int .i64 t.kind, .string (mk t.name), .slice aa t.attrs.length capa, .bool t.self, .string (mk t.text)] 32 (0, 0)) := by rw [hw3]; exact heap_alloc_new _ _
      have e0 : w3.cell? ⟨wr.heap.size, 0, none⟩ = some (.int .i64 t.kind) := by rw [Lib.cell_of_heap hH]; rfl
      have e1 : w3.cell? ⟨wr.heap.size, 1, none⟩ = some (.string (mk t.name)) := by rw [Lib.cell_of_heap hH]; rfl
      have e2 : w3.cell? ⟨wr.heap.size, 2, none⟩ = some (.slice aa t.attrs.length capa) := by rw [Lib.cell_of_heap hH]; rfl
      have e4 : w3.cell? ⟨wr.heap.size, 4, none⟩ = some (.string (mk t.text)) := by rw [Lib.cell_of_heap hH]; rfl
      have hN : wr.heap.size < w3.heap.size := lt_of_block hH
      have HAV := Lib.hid (HAV0.out.older HO3.out)
      clear hH hw3 HAV0 d0 d1 d2 d3 d4
      generalize wr.heap.size = N at *
      go_cut [86] (fun v wx => v = .bool false ∧ wx = w3)
      case first =>
        by_cases h3 : t.kind = 3
        · have hx := HTX.out h3
          have hx1 : ((mk t.text).toList == []) = false := by rw [toList_mk]; exact beq_eq_false_iff_ne.2 hx
          have hx2 : ¬ (mk t.text).toList = [] := by rw [toList_mk]; exact hx
          rw [h3] at e0
          by_cases hk0 : k = 0
          · subst hk0
            clear hx h3
            go_wp2_with fail
            go_meet
            exact ⟨rfl, rfl⟩
          · obtain ⟨j, rfl⟩ : ∃ j, k = j + 1 := ⟨k - 1, by omega⟩
            obtain ⟨u, hu⟩ : ∃ u, L[j]? = some u := ⟨_, List.getElem?_eq_getElem (by omega)⟩
            have hne : ¬ u.kind = 3 := fun h => HPREV.out j u rfl hu ⟨h3, h⟩
            have hne2 : (u.kind == 3) = false := beq_eq_false_iff_ne.2 hne
            obtain ⟨g', cap'', va', hv, _, _, hg', hta', _⟩ := HVIEW.out j u hu
            obtain rfl : g = g' := by simp at hv; exact hv.1
            have f0 := hta'.kind
            clear hx h3 hv hu hta' hne
            have j0 : (0 : Int) ≤ j := by omega
            have j1 : (j : Int) < L.length := by omega
            go_wp2_with fail
            go_meet
            exact ⟨rfl, rfl⟩
        · have h3' : (t.kind == 3) = false := beq_eq_false_iff_ne.2 h3
          by_cases h1 : t.kind = 1
          · have hx := HNM.out (.inl h1)
            have hx1 : ((mk t.name).toList == []) = false := by rw [toList_mk]; exact beq_eq_false_iff_ne.2 hx
            have hx2 : ¬ (mk t.name).toList = [] := by rw [toList_mk]; exact hx
            rw [h1] at e0
            clear h3 h3' h1 hx
            go_wp2_with fail
            go_meet
            exact ⟨rfl, rfl⟩
          · have h1' : (t.kind == 1) = false := beq_eq_false_iff_ne.2 h1
            by_cases h2 : t.kind = 2
            · have hx := HNM.out (.inr h2)
              have hx1 : ((mk t.name).toList == []) = false := by rw [toList_mk]; exact beq_eq_false_iff_ne.2 hx
              have hx2 : ¬ (mk t.name).toList = [] := by rw [toList_mk]; exact hx
              rw [h2] at e0
              clear h3 h3' h2 h1 h1' hx
              go_wp2_with fail
              go_meet
              exact ⟨rfl, rfl⟩
            · have h2' : (t.kind == 2) = false := beq_eq_false_iff_ne.2 h2
              clear h3 h1 h2
              go_wp2_with fail
              go_meet
              exact ⟨rfl, rfl⟩
      case rest =>
        obtain ⟨rfl, hwc⟩ := hcut
        subst hwc
        have hnl : ∀ (i : Nat) (h : i < (mk t.name).size), ¬ (65 ≤ (((mk t.name)[i]'h).toNat : Int) ∧ (((mk t.name)[i]'h).toNat : Int) ≤ 90) := by
          intro i h
          have hm : (mk t.name)[i]'h ∈ t.name := by
            have hi : i < (lst (mk t.name)).length := by rw [lst_length]; exact h
            have h1 : (lst (mk t.name))[i]'hi ∈ lst (mk t.name) := List.getElem_mem hi
            have h2 : lst (mk t.name) = t.name := lst_mk _
            have h3 : (lst (mk t.name))[i]'hi = (mk t.name)[i]'h := rfl
            rw [h3, h2] at h1
            exact h1
          have := HLO.out _ hm
          simp only [UInt8.le_iff_toNat_le] at this
          have k1 : (65 : UInt8).toNat = 65 := rfl
          have k2 : (90 : UInt8).toNat = 90 := rfl
          rw [k1, k2] at this
          omega
        have HNL := Lib.hid hnl
        have hnz : (mk t.name).size ≤ 1000000 := by rw [mk_size]; omega
        clear hnl
        generalize mk t.name = nm at *
        go_wp2_with fail
        go_loop [9] (fun v => ∃ j : Nat, j ≤ nm.size ∧ v = .int .i64 j) (fun v => nm.size - (intOf v).toNat)
        case atStart => exact ⟨0, by omega, rfl⟩
        case round =>
          obtain ⟨j, hj, rfl⟩ := hrel
          by_cases hjl : j < nm.size
          · have hx0 := HNL.out j hjl
            obtain ⟨x, hx⟩ : ∃ x, nm[j]'hjl = x := ⟨_, rfl⟩
            rw [hx] at hx0
            have j0 : (0 : Int) ≤ j := by omega
            have j1 : (j : Int) < nm.size := by omega
            by_cases h65 : (65 : Int) ≤ x.toNat
            · have h90 : ¬ ((x.toNat : Int) ≤ 90) := fun h => hx0 ⟨h65, h⟩
              clear hx0
              go_wp2_with fail
              go_round
              case rel => exact ⟨j + 1, by omega, by go_num⟩
              case measure => simp [intOf]; omega
            · clear hx0
              go_wp2_with fail
              go_round
              case rel => exact ⟨j + 1, by omega, by go_num⟩
              case measure => simp [intOf]; omega
          · obtain rfl : j = nm.size := by omega
            clear hjl
            go_wp2_with fail
            go_loopw [10] (fun v wx => ∃ (W : World) (p : Nat), W = wx ∧ p ≤ t.attrs.length ∧ v = .int .i64 p ∧ Hid (Older wc W) ∧ Hid (Below w2.heap.size w2 W)) (fun v _ => t.attrs.length - (intOf v).toNat)
            case atStart => exact ⟨_, 0, rfl, by omega, rfl, Lib.hid (Older.refl _), HB3⟩
            case round =>
              obtain ⟨wp, p, rfl, hp, rfl, hO, hB4⟩ := hrel
              have f2 : wp.cell? ⟨N, 2, none⟩ = some (.slice aa t.attrs.length capa) := (hO.out.2 _ _ hN).trans e2
              by_cases hpl : p < t.attrs.length
              · go_wp2_with fail
                go_loopw [11] (fun v wx => ∃ (W : World) (q : Nat), W = wx ∧ q ≤ p ∧ v = .int .i64 q ∧ Hid (Older wc W) ∧ Hid (Below w2.heap.size w2 W)) (fun v _ => p - (intOf v).toNat)
                case atStart => exact ⟨_, 0, rfl, by omega, rfl, hO, hB4⟩
                case round =>
                  obtain ⟨wq, q, rfl, hq, rfl, hO2, hB5⟩ := hrel
                  by_cases hql : q < p
                  · obtain ⟨x, hx⟩ : ∃ x, t.attrs[q]? = some x := ⟨_, List.getElem?_eq_getElem (by omega)⟩
                    obtain ⟨y, hy⟩ : ∃ y, t.attrs[p]? = some y := ⟨_, List.getElem?_eq_getElem (by omega)⟩
                    have hAV := (HAV.out.older hO2.out).2
                    obtain ⟨g2, cap2', hv2, _, _, x1, _⟩ := hAV q x hx
                    obtain ⟨g3, cap3', hv3, _, _, y1, _⟩ := hAV p y hy
                    obtain rfl : aa = some ⟨g2, 0, none⟩ := by simp at hv2; exact hv2.1
                    obtain rfl : g2 = g3 := by simp at hv3; exact hv3.1
                    have hne : ¬ (mk x.name).toList = (mk y.name).toList := by
                      rw [toList_mk, toList_mk]
                      have hx' : (t.attrs.map (·.name))[q]? = some x.name := by rw [List.getElem?_map, hx]; rfl
                      have hy' : (t.attrs.map (·.name))[p]? = some y.name := by rw [List.getElem?_map, hy]; rfl
                      obtain ⟨q1, q2⟩ := List.getElem?_eq_some_iff.1 hx'
                      obtain ⟨p1, p2⟩ := List.getElem?_eq_some_iff.1 hy'
                      have := List.pairwise_iff_getElem.1 HON.out q p q1 p1 hql
                      rw [q2, p2] at this
                      exact this
                    have hne2 : ((mk x.name).toList == (mk y.name).toList) = false := beq_eq_false_iff_ne.2 hne
                    have g2' : wq.cell? ⟨N, 2, none⟩ = some (.slice (some ⟨g2, 0, none⟩) t.attrs.length capa) := (hO2.out.2 _ _ hN).trans e2
                    clear hx hy hAV hv2 hv3
                    have q0 : (0 : Int) ≤ q := by omega
                    have q1 : (q : Int) < t.attrs.length := by omega
                    have p0 : (0 : Int) ≤ p := by omega
                    have p1 : (p : Int) < t.attrs.length := by omega
                    go_wp2_with fail
                    go_quiet (fail)
                    go_wp2_with fail
                    go_roundw
                    case rel => exact ⟨_, q + 1, rfl, by omega, by go_num, Lib.hid ⟨hO2.out.1, hO2.out.2⟩, Lib.hid ⟨hB5.out.os, hB5.out.tape, hB5.out.output, hB5.out.size, hB5.out.block⟩⟩
                    case measure => simp [intOf]; omega
                  · obtain rfl : q = p := by omega
                    clear hql
                    go_wp2_with fail
                    go_roundw
                    case rel => exact ⟨_, q + 1, rfl, by omega, by go_num, hO2, hB5⟩
                    case measure => simp [intOf]; omega
              · obtain rfl : p = t.attrs.length := by omega
                clear hpl
                go_wp2_with fail
                go_roundw
                case rel => exact ⟨k + 1, by omega, by go_num, hB4⟩
                case measure => simp [intOf]; omega
    · obtain rfl : k = L.length := by omega
      go_wp2_with fail
      go_ret
      exact ⟨rfl, HB2.out.trans (hB.out.mono HB2.out.size)⟩
end Go.Proofs.YtniiaaghimmiaaaDoor
