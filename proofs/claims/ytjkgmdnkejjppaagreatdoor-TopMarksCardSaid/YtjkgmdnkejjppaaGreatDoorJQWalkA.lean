/- Walks over views of strings: slices.Index, slices.Contains. -/
import Derived.Test.YtjkgmdnkejjppaaGreatDoorJQView
import Derived.Test.YtjkgmdnkejjppaaGreatDoorGi
namespace Go.Proofs.YtjkgmdnkejjppaaGreatDoor
open Go Go.RowKit

set_option maxHeartbeats 1000000 in
theorem indexV_any (v : Value) (l : List Bytes) (s : Bytes) (hl : l.length ≤ 1000000) (w : World) (h : SView w v l) :
    Calls Tryz.prog 71 #[v, .string (mk s)] w fun e w' => ∃ i : Int, e = .returned (.int .i64 i) ∧ (0 ≤ i ↔ s ∈ l) ∧ w = w' := by
  obtain ⟨⟨a, e0, rfl⟩, hcells⟩ := h
  have HS := Lib.hid hcells
  clear hcells
  go_enter Tryz.func71, Tryz.ntmps71
  go_wp2_with fail
  go_loop [8] (fun i => ∃ k : Nat, k ≤ l.length ∧ i = .int .i64 k ∧ Hid (∀ j, j < k → l[j]? ≠ some s)) (fun i => l.length - (intOf i).toNat)
  case atStart => exact ⟨0, by omega, rfl, Lib.hid (fun j hj => by omega)⟩
  case round =>
    obtain ⟨k, hk, rfl, hno⟩ := hrel
    by_cases hlt : k < l.length
    · obtain ⟨x, hx⟩ : ∃ x, l[k]? = some x := ⟨_, List.getElem?_eq_getElem hlt⟩
      obtain ⟨g, o, e1, hv, _, hc⟩ := HS.out k x hx
      obtain rfl : a = some ⟨g, o, none⟩ := by simp at hv; exact hv.1
      have HX := Lib.hid hx
      clear hx hv
      have k0 : (0 : Int) ≤ k := by omega
      have k1 : (k : Int) < l.length := by omega
      by_cases he : s = x
      · have he1 : ((mk s).toList == (mk x).toList) = true := by rw [he]; exact beq_self_eq_true _
        have he2 : (mk s).toList = (mk x).toList := by rw [he]
        have HE := Lib.hid he
        clear he he2
        have HE2 := he1
        go_wp2_with fail
        all_goals first
          | (go_ret; exact ⟨_, rfl, ⟨fun _ => by rw [HE.out]; exact List.mem_of_getElem? HX.out, fun _ => k0⟩, rfl⟩)
          | (exfalso; rename_i hh; exact hh (by rw [HE.out]))
      · have he1 : ((mk s).toList == (mk x).toList) = false := beq_eq_false_iff_ne.2 (by rw [toList_mk, toList_mk]; exact he)
        have he2 : ¬ (mk s).toList = (mk x).toList := by rw [toList_mk, toList_mk]; exact he
        have HN := Lib.hid (show ∀ j, j < k + 1 → l[j]? ≠ some s from fun j hj => by
          by_cases hjk : j = k
          · subst hjk; rw [HX.out]; intro h; exact he (Option.some.inj h).symm
          · exact hno.out j (by omega))
        clear he
        go_wp2_with fail
        go_round
        case rel => exact ⟨k + 1, by omega, by go_num, HN⟩
        case measure => simp [intOf]; omega
    · obtain rfl : k = l.length := by omega
      go_wp2_with fail
      go_ret
      refine ⟨-1, rfl, ⟨fun h => by omega, fun hm => ?_⟩, rfl⟩
      obtain ⟨j, hj⟩ := List.getElem?_of_mem hm
      exact absurd hj (hno.out j (List.getElem?_eq_some_iff.1 hj).1)

theorem containsV_any (v : Value) (l : List Bytes) (s : Bytes) (hl : l.length ≤ 1000000) (w : World) (h : SView w v l) :
    Calls Tryz.prog 46 #[v, .string (mk s)] w fun e w' => e = .returned (.bool (l.contains s)) ∧ w = w' := by
  have HI := Lib.hid (indexV_any v l s hl w h)
  clear h
  go_enter Tryz.func46, Tryz.ntmps46
  go_wp2_with fail
  refine HI.out.mono ?_
  rintro e w' ⟨i, rfl, hi, rfl⟩
  have hb : l.contains s = decide (0 ≤ i) := by rw [Bool.eq_iff_iff]; simp [hi]
  have HB := Lib.hid hb
  clear hi hb
  go_wp2_with fail
  go_ret
  exact ⟨by rw [HB.out]; rfl, rfl⟩

theorem take_eq_succ {l m : List Bytes} {k : Nat} {x : Bytes} (h : l.take k = m.take k) (h1 : l[k]? = some x) (h2 : m[k]? = some x) : l.take (k + 1) = m.take (k + 1) := by
  rw [List.take_add_one, List.take_add_one, h, h1, h2]

set_option maxHeartbeats 1000000 in
theorem equalV_any (v1 v2 : Value) (l m : List Bytes) (hl : l.length ≤ 1000000) (w : World) (h1 : SView w v1 l) (h2 : SView w v2 m) :
    Calls Tryz.prog 47 #[v1, v2] w fun e w' => e = .returned (.bool (l == m)) ∧ ∃ n, w' = w.drewN n := by
  obtain ⟨⟨a, e0, rfl⟩, hc1⟩ := h1
  obtain ⟨⟨b, e1, rfl⟩, hc2⟩ := h2
  have HS := Lib.hid hc1
  have HT := Lib.hid hc2
  clear hc1 hc2
  by_cases hlen : l.length = m.length
  · have f1 : ((l.length : Int) == (m.length : Int)) = true := beq_iff_eq.2 (by omega)
    obtain ⟨r, hr⟩ : ∃ r, (l == m) = r := ⟨_, rfl⟩
    rw [hr]
    have HR := Lib.hid hr
    clear hr
    go_enter Tryz.func47, Tryz.ntmps47
    go_wp2_with fail
    go_loopw [13] (fun vk wr => ∃ (k : Nat) (W : World), W = wr ∧ vk = .int .i64 k ∧ k ≤ l.length ∧ Hid (∃ n, W = w.drewN n) ∧ Hid (l.take k = m.take k)) (fun vk _ => l.length - (intOf vk).toNat)
    case atStart => exact ⟨0, _, rfl, rfl, by omega, Lib.hid ⟨0, rfl⟩, Lib.hid (by rw [List.take_zero, List.take_zero])⟩
    case round =>
      obtain ⟨k, W, rfl, rfl, hk, hW, hE⟩ := hrel
      by_cases hlt : k < l.length
      · obtain ⟨x, hx⟩ : ∃ x, l[k]? = some x := ⟨_, List.getElem?_eq_getElem hlt⟩
        obtain ⟨y, hy⟩ : ∃ y, m[k]? = some y := ⟨_, List.getElem?_eq_getElem (by omega)⟩
        obtain ⟨g1, o1, _, hv1, _, d1⟩ := HS.out k x hx
        obtain ⟨g2, o2, _, hv2, _, d2⟩ := HT.out k y hy
        obtain rfl : a = some ⟨g1, o1, none⟩ := by simp at hv1; exact hv1.1
        obtain rfl : b = some ⟨g2, o2, none⟩ := by simp at hv2; exact hv2.1
        have hcl : ∀ p, W.cell? p = w.cell? p := by obtain ⟨n, hn⟩ := hW.out; rw [hn]; exact fun _ => rfl
        rw [← hcl] at d1 d2
        have k0 : (0 : Int) ≤ k := by omega
        have k1 : (k : Int) < l.length := by omega
        have k2 : (k : Int) < m.length := by omega
        have HX := Lib.hid hx
        have HY := Lib.hid hy
        clear hv1 hv2 hx hy hcl
        by_cases he : x = y
        · subst he
          have HE2 := Lib.hid (take_eq_succ hE.out HX.out HY.out)
          go_wp2_with fail
          go_quiet (fail)
          have hW3 := Lib.hid (show ∃ n, W.drewN nq = w.drewN n by obtain ⟨n, hn⟩ := hW.out; exact ⟨n + nq, by rw [hn, World.drewN_drewN]⟩)
          go_wp2_with fail
          go_roundw
          case rel => exact ⟨k + 1, _, rfl, by go_num, by omega, hW3, HE2⟩
          case measure => simp [intOf]; omega
        · have HN := Lib.hid (show (l == m) = false from beq_eq_false_iff_ne.2 fun e => he (by have h := HX.out; rw [e, HY.out] at h; exact (Option.some.inj h).symm))
          have f2 : ((mk x).toList == (mk y).toList) = false := beq_eq_false_iff_ne.2 (by rw [toList_mk, toList_mk]; exact he)
          have f3 : ¬ (mk x).toList = (mk y).toList := by rw [toList_mk, toList_mk]; exact he
          clear he
          go_wp2_with fail
          go_quiet (fail)
          have hW3 := Lib.hid (show ∃ n, W.drewN nq = w.drewN n by obtain ⟨n, hn⟩ := hW.out; exact ⟨n + nq, by rw [hn, World.drewN_drewN]⟩)
          go_wp2_with fail
          go_ret
          exact ⟨by rw [← HR.out, HN.out]; rfl, hW3.out⟩
      · obtain rfl : k = l.length := by omega
        have HY := Lib.hid (show (l == m) = true from beq_iff_eq.2 (by have h := hE.out; rw [List.take_length, hlen, List.take_length] at h; exact h))
        go_wp2_with fail
        go_ret
        exact ⟨by rw [← HR.out, HY.out]; rfl, hW.out⟩
  · have f1 : ((l.length : Int) == (m.length : Int)) = false := beq_eq_false_iff_ne.2 (by omega)
    have HN := Lib.hid (show (l == m) = false from beq_eq_false_iff_ne.2 fun e => hlen (by rw [e]))
    rw [HN.out]
    clear hlen HN
    go_enter Tryz.func47, Tryz.ntmps47
    go_wp2_with fail
    go_ret
    exact ⟨rfl, 0, rfl⟩
end Go.Proofs.YtjkgmdnkejjppaaGreatDoor
