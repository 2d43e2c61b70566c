/- Walks of strings.Join (at '; '), slices.Equal of one declaration, style.Text and style.Parse. -/
import Derived.Test.YtpbcalbolnlojaaGreatDoorJYWalkC
namespace Go.Proofs.YtpbcalbolnlojaaGreatDoor
open Go Go.RowKit

theorem SRow.view {B : Nat} {w : World} {v : Value} {l : List Bytes} (h : SRow B w v l) (hn : 0 < l.length) :
    ∃ g cap, v = .slice (some ⟨g, 0, none⟩) l.length cap ∧ g < w.heap.size ∧ l.length ≤ cap ∧ cap ≤ maxLen ∧ ∀ (i : Nat) (p : Bytes), l[i]? = some p → w.cell? ⟨g, i, none⟩ = some (.string (mk p)) := by
  obtain ⟨g, cap, hv, _, h2, h3, h4, h5, _⟩ := ownsRow_cells h hn
  exact ⟨g, cap, hv, h2, h3, h4, fun i p hp => h5 i _ (by rw [List.getElem?_map, hp]; rfl)⟩

set_option maxHeartbeats 4000000 in
set_option maxRecDepth 100000 in
theorem join_any (B : Nat) (v : Value) (l : List Bytes) (w : World) (h : SRow B w v l) (hl : l.length ≤ 100) (hz : ∀ p ∈ l, p.length ≤ 1000) :
    Calls Tryz.prog 24 #[v, .string ⟨#[59, 32]⟩] w fun e w' => e = .returned (.string (mk (Lib.join l [59, 32]))) ∧ Below w.heap.size w w' := by
  cases l with
  | nil =>
    obtain ⟨A, C, hv⟩ := ownsRow_slice h
    subst hv
    clear h hz
    go_enter Tryz.func24, Tryz.ntmps24
    go_wp2_with fail
    go_ret
    exact ⟨rfl, Below.refl _ _⟩
  | cons x r =>
    obtain ⟨g, cap, rfl, hg, hcap, hmax, hcells⟩ := h.view (by simp)
    have x0 := hcells 0 x rfl
    have HCL := Lib.hid hcells
    have HZ := Lib.hid hz
    cases r with
    | nil =>
      have HJ := Lib.hid (Lib.join_one x [59, 32])
      rw [HJ.out]
      clear h hz hcells
      go_enter Tryz.func24, Tryz.ntmps24
      go_wp2_with fail
      go_ret
      exact ⟨rfl, Below.refl _ _⟩
    | cons y r =>
      rw [Lib.join_cons]
      obtain ⟨L, hL⟩ : ∃ L, L = x :: y :: r := ⟨_, rfl⟩
      have hL2 : 2 ≤ L.length := by rw [hL]; simp
      have hLr : (y :: r).length = L.length - 1 := by rw [hL]; simp
      have HRG := Lib.hid (show ∀ i p, L[i + 1]? = some p → (y :: r)[i]? = some p by rw [hL]; intro i p hp; simpa using hp)
      rw [← hL] at HCL HZ hcap hl
      rw [← hL]
      have hxl : x.length ≤ 1000 := hz x (by simp)
      generalize y :: r = R at *
      clear h hz hcells hL
      have a1 : ¬ (L.length : Int) = 0 := by omega
      have a2 : ((L.length : Int) == 0) = false := beq_eq_false_iff_ne.2 a1
      have a3 : ((L.length : Int) == 1) = false := beq_eq_false_iff_ne.2 (by omega)
      have hd3 : (3 : Int) ≤ 9223372036854775807 / ((L.length : Int) - 1) := Int.le_ediv_of_mul_le (by omega) (by omega)
      have hd1 : 2 < 9223372036854775807 / ((L.length : Int) - 1) := by omega
      have hd2 : ¬ 9223372036854775807 / ((L.length : Int) - 1) ≤ 2 := by omega
      clear hd3
      go_enter Tryz.func24, Tryz.ntmps24
      go_wp2_with fail
      go_loopw [5, 41] (fun vn vk wr => ∃ (k n : Nat), wr = w ∧ vn = .int .i64 n ∧ vk = .int .i64 k ∧ k ≤ L.length ∧ n ≤ 200 + k * 1000) (fun _ vk _ => L.length - (intOf vk).toNat)
      case atStart => exact ⟨0, 2 * (L.length - 1), rfl, by go_num, rfl, by omega, by omega⟩
      case round =>
        obtain ⟨k, n, rfl, rfl, rfl, hk, hn⟩ := hrel
        by_cases hlt : k < L.length
        · obtain ⟨p, hp⟩ : ∃ p, L[k]? = some p := ⟨_, List.getElem?_eq_getElem hlt⟩
          have hcell := HCL.out k p hp
          have hpz := HZ.out p (List.mem_of_getElem? hp)
          have hps : (mk p).size = p.length := mk_size p
          have hltI : (k : Int) < L.length := by omega
          clear hp
          go_wp2_with fail
          go_roundw
          case rel => exact ⟨k + 1, n + p.length, trivial, by go_num, by go_num, by omega, by omega⟩
          case measure => simp [intOf]; omega
        · obtain rfl : k = L.length := by omega
          clear hlt
          have hGR := Tryz.Builder_Grow_fresh wr.heap.size wr.heap.size n (wr.alloc (.cells #[.pointer none, .slice none 0 0] 67)) (Nat.le_refl _) (heap_alloc_new _ _) (by simp) (by omega)
          have HGR := Lib.hid hGR
          have HA := Lib.hid ((Below.refl wr.heap.size wr).alloc (Nat.le_refl _) (.cells #[.pointer none, .slice none 0 0] 67))
          clear hGR
          go_wp2_with fail
          refine HGR.out.mono ?_
          rintro e w1 ⟨rfl, hb1, hk1⟩
          have HB1 := Lib.hid (HA.out.trans hk1)
          have hx0 : w1.cell? ⟨g, 0, none⟩ = some (.string (mk x)) := (HB1.out.cell (p := ⟨g, 0, none⟩) hg).trans x0
          have HW1 := Lib.hid (bStr wr.heap.size wr.heap.size [] x w1 (Lib.IsBuilderF.of (Or.inr hb1)) (by simp; omega) HB1.out.size)
          clear hb1 hk1
          go_wp2_with fail
          refine HW1.out.mono ?_
          rintro e w2 ⟨rfl, hb2, hk2, _⟩
          have HB2 := Lib.hid (HB1.out.trans hk2)
          have HD2 := Lib.hid hb2
          have c1 : (1 : Int) < cap := by omega
          have c2 : (1 : Int) ≤ L.length := by omega
          have c3 : (1 : Int) ≤ cap := by omega
          have c4 : ¬ (1 : Int) = cap := by omega
          have c5 : ¬ 1 = cap := by omega
          clear hb2 hk2
          go_wp2_with fail
          go_loopw [65] (fun vk w5 => ∃ (k : Nat) (W : World), W = w5 ∧ vk = .int .i64 k ∧ k ≤ R.length ∧ Hid (Bld wr.heap.size wr.heap.size (x ++ Lib.joinTail [59, 32] (R.take k)) w5) ∧ Hid (Below wr.heap.size wr w5) ∧ Hid ((Lib.joinTail [59, 32] (R.take k)).length ≤ 1002 * k)) (fun vk _ => R.length - (intOf vk).toNat)
          case atStart => exact ⟨0, _, rfl, rfl, by omega, Lib.hid (by rw [List.take_zero]; simpa [Lib.joinTail] using HD2.out), HB2, Lib.hid (by rw [List.take_zero]; simp [Lib.joinTail])⟩
          case round =>
            obtain ⟨k, W, rfl, rfl, hk2, HD, HB, HLN⟩ := hrel
            by_cases hlt2 : k < R.length
            · obtain ⟨p, hp⟩ : ∃ p, L[k + 1]? = some p := ⟨_, List.getElem?_eq_getElem (by omega)⟩
              have hcell : W.cell? ⟨g, 1 + k, none⟩ = some (.string (mk p)) := (HB.out.cell (p := ⟨g, 1 + k, none⟩) hg).trans (by rw [Nat.add_comm]; exact HCL.out (k + 1) p hp)
              have hpz := HZ.out p (List.mem_of_getElem? hp)
              have HJ := Lib.hid (Lib.joinTail_take_succ [59, 32] R k p (HRG.out k p hp))
              have hln := HLN.out
              have k1 : (k : Int) < (L.length : Int) - 1 := by omega
              have k0 : (0 : Int) ≤ k := by omega
              clear hp
              have HS1 := Lib.hid (bStr wr.heap.size wr.heap.size _ [59, 32] W HD.out (by simp; omega) HB.out.size)
              rw [show mk [59, 32] = ⟨#[59, 32]⟩ from rfl] at HS1
              go_wp2_with fail
              refine HS1.out.mono ?_
              rintro e w6 ⟨rfl, hb6, hk6, _⟩
              have HB6 := Lib.hid (HB.out.trans hk6)
              have HS2 := Lib.hid (bStr wr.heap.size wr.heap.size _ p w6 hb6 (by simp; omega) HB6.out.size)
              clear hb6 hk6
              go_wp2_with fail
              refine HS2.out.mono ?_
              rintro e w7 ⟨rfl, hb7, hk7, _⟩
              have HB7 := Lib.hid (HB6.out.trans hk7)
              have HD7 := Lib.hid (show Bld wr.heap.size wr.heap.size (x ++ Lib.joinTail [59, 32] (R.take (k + 1))) w7 by rw [HJ.out]; simpa [List.append_assoc] using hb7)
              have HL7 := Lib.hid (show (Lib.joinTail [59, 32] (R.take (k + 1))).length ≤ 1002 * (k + 1) by rw [HJ.out]; simp only [List.length_append, List.length_cons, List.length_nil]; omega)
              clear hb7 hk7
              go_wp2_with fail
              go_roundw
              case rel => exact ⟨k + 1, _, rfl, by go_num, by omega, HD7, HB7, HL7⟩
              case measure => simp [intOf]; omega
            · obtain rfl : k = R.length := by omega
              have k1 : ¬ (R.length : Int) < (L.length : Int) - 1 := by omega
              have HS := Lib.hid (bString wr.heap.size wr.heap.size _ W HD.out HB.out.size)
              rw [List.take_length] at HS
              go_wp2_with fail
              refine HS.out.mono ?_
              rintro e w6 ⟨rfl, _, hk6, _⟩
              have HB6 := Lib.hid (HB.out.trans hk6)
              clear hk6
              go_wp2_with fail
              go_ret
              exact ⟨rfl, HB6.out⟩

/-- slices.Equal of one declaration and itself. -/
theorem equal_one (B1 B2 : Nat) (v1 v2 : Value) (d : TDecl) (w : World) (h1 : DRow B1 w v1 [d]) (h2 : DRow B2 w v2 [d]) :
    Calls Tryz.prog 22 #[v1, v2] w fun e w' => e = .returned (.bool true) ∧ Below w.heap.size w w' := by
  obtain ⟨g1, cap1, rfl, _, hg1, a0, a1⟩ := h1.get 0 d rfl
  obtain ⟨g2, cap2, rfl, _, hg2, b0, b1⟩ := h2.get 0 d rfl
  clear h1 h2
  go_enter Tryz.func22, Tryz.ntmps22
  go_wp2_with fail
  go_loopw [13] (fun vk wr => ∃ (k : Nat) (W : World), W = wr ∧ vk = .int .i64 k ∧ k ≤ 1 ∧ Hid (∃ n, W = w.drewN n)) (fun vk _ => 1 - (intOf vk).toNat)
  case atStart => exact ⟨0, _, rfl, rfl, by omega, Lib.hid ⟨0, rfl⟩⟩
  case round =>
    obtain ⟨k, W, rfl, rfl, hk, hW⟩ := hrel
    have hcl : ∀ p, W.cell? p = w.cell? p := by obtain ⟨n, hn⟩ := hW.out; rw [hn]; exact fun _ => rfl
    rw [← hcl] at a0 a1 b0 b1
    by_cases hlt : k < 1
    · obtain rfl : k = 0 := by omega
      clear hcl hg1 hg2
      go_wp2_with fail
      go_quiet (fail)
      have hW3 := Lib.hid (show ∃ n, W.drewN nq = w.drewN n by obtain ⟨n, hn⟩ := hW.out; exact ⟨n + nq, by rw [hn, World.drewN_drewN]⟩)
      go_wp2_with fail
      go_roundw
      case rel => exact ⟨1, _, rfl, rfl, by omega, hW3⟩
      case measure => simp [intOf]
    · obtain rfl : k = 1 := by omega
      clear hcl
      go_wp2_with fail
      go_ret
      refine ⟨rfl, ?_⟩
      obtain ⟨n, hn⟩ := hW.out
      rw [hn]
      exact ⟨rfl, rfl, rfl, Nat.le_refl _, fun _ _ => rfl⟩

set_option maxHeartbeats 1000000 in
theorem styleParse_any (s : ByteArray) (w : World) (hg : Glob w) (hs : s.size ≤ 600) (h47 : (47 : UInt8) ∉ lst s) :
    Calls Tryz.prog 10 #[.string s] w fun e w' => ∃ v, e = .returned (.tuple #[v, .int .i64 0]) ∧ DRow w.heap.size w' v (parseS (lst s)) ∧ Below w.heap.size w w' := by
  have HP := Lib.hid (parse_style s w hg (by omega) h47)
  clear hg h47
  go_enter Tryz.func10, Tryz.ntmps10
  go_wp2_with fail
  refine HP.out.mono ?_
  rintro e w1 ⟨v, rfl, hd, hb⟩
  have HD := Lib.hid hd
  have HB := Lib.hid hb
  obtain ⟨A, C, hv⟩ := ownsRow_slice hd
  subst hv
  clear hd hb
  go_wp2_with fail
  exact bodyPost_ret (v := .tuple #[.slice A (parseS (lst s)).length C, .int .i64 0]) (by simp [results, Tryz.results10, go_sem]) rfl ⟨_, rfl, HD.out, HB.out⟩

end Go.Proofs.YtpbcalbolnlojaaGreatDoor
