/- Walk of the row's law: TopMarks. -/
import Derived.Test.YtjkgmdnkejjppaaGreatDoorJQWalkB
import Derived.Test.YtjkgmdnkejjppaaGreatDoorJQWalkH
import Derived.Test.YtjkgmdnkejjppaaGreatDoorGn
import Derived.Test.YtjkgmdnkejjppaaGreatDoorGk
import Derived.Test.YtjkgmdnkejjppaaGreatDoorGg
namespace Go.Proofs.YtjkgmdnkejjppaaGreatDoor
open Go Go.RowKit

def brTreeQ : List TNode := [tElem [98, 114] [] []]
theorem brViewQ (w : World) (d : Nat) : NodeView (d + 1) (w.alloc (.cells #[.string ⟨#[98, 114]⟩, .slice none 0 0, .string ⟨#[]⟩, .slice none 0 0] 44)) (.slice (some ⟨w.heap.size, 0, none⟩) 1 1) brTreeQ := by
  have h := heap_alloc_new w (.cells #[.string ⟨#[98, 114]⟩, .slice none 0 0, .string ⟨#[]⟩, .slice none 0 0] 44)
  refine ⟨⟨_, _, rfl⟩, fun i t hi => ?_⟩
  cases i with
  | succ i => simp [brTreeQ] at hi
  | zero =>
    cases hi
    exact ⟨_, 1, .slice none 0 0, .slice none 0 0, rfl, Nat.le_refl _, by unfold maxLen; omega, trivial, ⟨_, h⟩, ⟨by rw [Lib.cell_of_heap h]; rfl, by rw [Lib.cell_of_heap h]; rfl, by rw [Lib.cell_of_heap h]; rfl, by rw [Lib.cell_of_heap h]; rfl⟩, attrView_nil _, NodeIn.nil _ _ _⟩
theorem br_textQ : textS brTreeQ = ([60, 98, 114, 62], 0) := by decide
theorem br_szQ : SzL brTreeQ := SzL.of fun t ht => by
  cases List.mem_singleton.1 ht
  unfold tElem
  rw [SzN]
  exact ⟨⟨by simp, by simp, by simp, fun b hb => by cases hb⟩, by rw [SzL]; trivial⟩
theorem runs_facts (l : List Int) (n : Nat) (hn : n ≤ 30) : (runsM l n).length ≤ 60 ∧ (∀ r ∈ runsM l n, r.marks.length ≤ 1000 ∧ ∀ m ∈ r.marks, m ∈ rMarks) ∧ ((runsM l n).map fun r => r.text.length).sum ≤ 1000000 := by
  have hl : (runsM l n).length ≤ n := by unfold runsM; rw [List.length_map, List.length_take]; omega
  have hr : ∀ r ∈ runsM l n, ∃ x, r = runOf x := fun r hr => by
    unfold runsM at hr
    obtain ⟨x, _, rfl⟩ := List.mem_map.1 hr
    exact ⟨x, rfl⟩
  have hs := sum_le (fun r : TRun => r.text.length) 2 (runsM l n) fun r h => by obtain ⟨x, rfl⟩ := hr r h; exact runOf_text x
  refine ⟨by omega, fun r h => ?_, by omega⟩
  obtain ⟨x, rfl⟩ := hr r h
  have := runOf_marks x
  exact ⟨by omega, this.2⟩
theorem normal_facts (l : List Int) (n : Nat) (hn : n ≤ 30) : (normM rMarks (runsM l n)).length ≤ 60 ∧ (∀ r ∈ normM rMarks (runsM l n), r.marks.length ≤ 1000 ∧ ∀ m ∈ r.marks, m ∈ rMarks) ∧ ((normM rMarks (runsM l n)).map fun r => r.text.length).sum ≤ 1000000 := by
  obtain ⟨h1, h2⟩ := norm_runs l n (by omega)
  have hs := sum_le (fun r : TRun => r.text.length) 200 (normM rMarks (runsM l n)) fun r h => (h1 r h).1
  refine ⟨by omega, fun r h => ?_, by omega⟩
  obtain ⟨_, a2, _, a4⟩ := h1 r h
  exact ⟨by omega, a2⟩

set_option maxHeartbeats 4000000 in
set_option maxRecDepth 100000 in
theorem topMarks_any (v : Value) (l : List Int) (w : World) (hg : Glob w) (ht : Tabs w) (hs : SpTab w) (h : IntRow w v l) :
    Calls Tryz.prog 4 #[v] w fun e w' => e = .returned (.bool true) ∧ Below w.heap.size w w' := by
  obtain ⟨⟨a, cap, rfl⟩, -⟩ := id h
  obtain ⟨f1, f2, f3⟩ := runs_facts l 20 (by omega)
  obtain ⟨g1, g2, g3⟩ := normal_facts l 20 (by omega)
  obtain ⟨n1, n2⟩ := norm_runs l 20 (by omega)
  obtain ⟨z1, z2⟩ := runs_sz l 20 (by omega)
  have zc := runs_check l 20 (by omega)
  obtain ⟨t1, t2, t3, t4⟩ := runs_tree l 20 (by omega) zc
  obtain ⟨-, -, -, -, m5⟩ := marks_law rMarks (runsM l 20) (by decide) rMarks_ok
  have gm := nest_good 4 0 _ n1
  generalize hX : normM rMarks (runsM l 20) = X at *
  generalize hT : nestD 4 X 0 = T at *
  have zd := deep_countQ T
  have HRU := Lib.hid (fun W (hb : Below w.heap.size w W) => runs_any (.slice a l.length cap) l 20 (by omega) W (h.older hb.size fun b o hlt => hb.cell (p := ⟨b, o, none⟩) hlt))
  have HNO := Lib.hid (fun mv tv W (h1 : SView W mv rMarks) (h2 : RView W tv (runsM l 20)) (hb : Below w.heap.size w W) => mnorm_any mv tv (runsM l 20) f1 f2 f3 W h1 h2 (hs.below hb hs.2))
  have HNE := Lib.hid (fun mv tv W (h1 : SView W mv rMarks) (h2 : RView W tv (runsM l 20)) (hb : Below w.heap.size w W) => mnest_any mv tv (runsM l 20) f1 f2 (by rw [hX]; exact n1) f3 W h1 h2 (hs.below hb hs.2))
  rw [hX] at HNO HNE
  rw [hT] at HNE
  have HST := Lib.hid (fun nv W (h1 : NodeView 5 W nv T) => stext_any 5 nv T W h1 (by omega) (by omega) z1)
  have HPA := Lib.hid (fun W (hb : Below w.heap.size w W) (hl6 : (ofL T).length ≤ 600) => parse_any (mk (ofL T)) W (hg.below hb hg.size) (by rw [mk_size]; exact hl6))
  have hall := all_of T t1
  rw [lst_mk, hall] at HPA
  have HBU := Lib.hid (fun tv W (h1 : TokView W tv (tkL T)) (hb : Below w.heap.size w W) => build_any tv (tkL T) W (ht.below hb ht.size) h1 t2)
  rw [t3] at HBU
  have HFL := Lib.hid (fun mv bv W (h1 : SView W mv rMarks) (h2 : NodeView 12 W bv T) (hb : Below w.heap.size w W) => mflat_any 12 mv bv T gm (by omega) W h1 h2 (hs.below hb hs.2) (by rw [t4]; exact g1) (by rw [t4]; exact g2) (by rw [t4]; exact g3))
  rw [t4, m5] at HFL
  have HTW := Lib.hid (textS_ways T)
  have HG2 := Lib.hid g2
  have HZC := Lib.hid zc
  clear h hg ht hs f1 f2 f3 n1 n2 z1 z2 zc t1 t2 t3 t4 m5 gm zd hall g2 g3
  go_enter Tryz.func4, Tryz.ntmps4
  go_upto_region 1 with fail
  refine wp_region_lit ?_
  refine wpList_table (by rfl) 29 Tryz.underlying29 rMarks (by decide) (by decide) 3 rfl rMarksV rfl _ rfl (by rw [Array.toList_map]; rfl) ?_
  generalize hW1 : w.alloc (.cells rMarksV 9) = W1
  have hb1 : Below w.heap.size w W1 := by rw [← hW1]; exact (Below.refl _ _).alloc (Nat.le_refl _) _
  have hMS : SView W1 (.slice (some ⟨w.heap.size, 0, none⟩) 3 3) rMarks := by
    have h := heap_alloc_new w (.cells rMarksV 9)
    rw [hW1] at h
    exact ⟨⟨_, 0, rfl⟩, fun i p hi => ⟨w.heap.size, 0, 0, rfl, ⟨_, h⟩, by rw [Nat.zero_add]; exact cell_of_rowQ h rMarksV_v hi⟩⟩
  have HB1 := Lib.hid hb1
  have HMS1 := Lib.hid hMS
  have HRU1 := Lib.hid (HRU.out W1 hb1)
  clear hW1 hb1 hMS
  go_wp2_with fail
  refine HRU1.out.mono ?_
  rintro e w2 ⟨rv, rfl, hown2, hb2⟩
  have HB2 := Lib.hid (HB1.out.trans (hb2.mono HB1.out.size))
  have HMS2 := Lib.hid (HMS1.out.older (Older.of_below hb2))
  have HRV2 := Lib.hid hown2.view
  have HRU2 := Lib.hid (HRU.out w2 HB2.out)
  clear hb2 hown2 HRU1 HMS1 HB1
  go_wp2_with fail
  refine HRU2.out.mono ?_
  rintro e w3 ⟨rv2, rfl, hown3, hb3⟩
  have HB3 := Lib.hid (HB2.out.trans (hb3.mono HB2.out.size))
  have HMS3 := Lib.hid (HMS2.out.older (Older.of_below hb3))
  have HRV3 := Lib.hid (HRV2.out.older (Older.of_below hb3))
  have HNO3 := Lib.hid (HNO.out _ rv2 w3 HMS3.out hown3.view HB3.out)
  clear hb3 hown3 HRU2 HRU HMS2 HRV2 HB2
  go_wp2_with fail
  refine HNO3.out.mono ?_
  rintro e w4 ⟨xv, rfl, hown4, hb4⟩
  have HB4 := Lib.hid (HB3.out.trans (hb4.mono HB3.out.size))
  have HMS4 := Lib.hid (HMS3.out.older (Older.of_below hb4))
  have HRV4 := Lib.hid (HRV3.out.older (Older.of_below hb4))
  have HX4 := Lib.hid hown4.view
  have HNE4 := Lib.hid (HNE.out _ rv w4 HMS4.out HRV4.out HB4.out)
  clear hb4 hown4 HNO3 HNO HMS3 HRV3 HB3
  go_wp2_with fail
  refine HNE4.out.mono ?_
  rintro e w5 ⟨nv, rfl, hnv5, hb5⟩
  have HB5 := Lib.hid (HB4.out.trans (hb5.mono HB4.out.size))
  have HMS5 := Lib.hid (HMS4.out.older (Older.of_below hb5))
  have HX5 := Lib.hid (HX4.out.older (Older.of_below hb5))
  have HST5 := Lib.hid (HST.out nv w5 hnv5)
  clear hb5 hnv5 HNE4 HNE HMS4 HRV4 HX4 HB4
  have hways : textS T = ([], 1) ∨ (textS T = (ofL T, 0) ∧ (ofL T).length ≤ 600) := by
    rcases HTW.out with ⟨_, h⟩ | ⟨h, _⟩ | ⟨h, _, h'⟩
    · exact absurd HZC.out h
    · exact .inl h
    · exact .inr ⟨h, h'⟩
  rcases hways with hw | ⟨hw, h6⟩
  · rw [hw] at HST5
    clear hw
    go_wp2_with fail
    refine HST5.out.mono ?_
    rintro e w6 ⟨rfl, hb6⟩
    have HB6 := Lib.hid (HB5.out.trans (hb6.mono HB5.out.size))
    clear hb6
    go_wp2_with fail
    go_ret
    exact ⟨by simp, by first | exact HB6.out | exact ⟨HB6.out.os, HB6.out.tape, HB6.out.output, HB6.out.size, HB6.out.block⟩⟩
  · rw [hw] at HST5
    have HPA2 := Lib.hid (fun W hb => HPA.out W hb h6)
    clear hw h6 HPA
    generalize ofL T = S at *
    generalize tkL T = K at *
    go_wp2_with fail
    refine HST5.out.mono ?_
    rintro e w6 ⟨rfl, hb6⟩
    have HB6 := Lib.hid (HB5.out.trans (hb6.mono HB5.out.size))
    have HMS6 := Lib.hid (HMS5.out.older (Older.of_below hb6))
    have HX6 := Lib.hid (HX5.out.older (Older.of_below hb6))
    have HPA6 := Lib.hid (HPA2.out w6 HB6.out)
    clear hb6 HST5 HST HPA2 HMS5 HX5 HB5
    go_wp2_with fail
    refine HPA6.out.mono ?_
    rintro e w7 ⟨tv, rfl, htr, hb7⟩
    have HB7 := Lib.hid (HB6.out.trans (hb7.mono HB6.out.size))
    have HMS7 := Lib.hid (HMS6.out.older (Older.of_below hb7))
    have HX7 := Lib.hid (HX6.out.older (Older.of_below hb7))
    have HBU7 := Lib.hid (HBU.out tv w7 htr.view HB7.out)
    clear hb7 htr HPA6 HMS6 HX6 HB6 HBU
    go_wp2_with fail
    refine HBU7.out.mono ?_
    rintro e w8 ⟨bv, rfl, hbv, hb8⟩
    have HB8 := Lib.hid (HB7.out.trans (hb8.mono HB7.out.size))
    have HMS8 := Lib.hid (HMS7.out.older (Older.of_below hb8))
    have HX8 := Lib.hid (HX7.out.older (Older.of_below hb8))
    have HFL8 := Lib.hid (HFL.out _ bv w8 HMS8.out hbv.any HB8.out)
    clear hb8 hbv HBU7 HMS7 HX7 HB7 HFL
    go_wp2_with fail
    refine HFL8.out.mono ?_
    rintro e w9 ⟨yv, rfl, hown9, hb9⟩
    have HB9 := Lib.hid (HB8.out.trans (hb9.mono HB8.out.size))
    have HX9 := Lib.hid (HX8.out.older (Older.of_below hb9))
    have HY9 := Lib.hid hown9.view
    clear hb9 hown9 HFL8 HMS8 HX8 HB8
    obtain ⟨wa, hwa⟩ : ∃ wa, wa = w9.alloc (.cells #[.string ⟨#[98, 114]⟩, .slice none 0 0, .string ⟨#[]⟩, .slice none 0 0] 44) := ⟨_, rfl⟩
    have hba : Below w9.heap.size w9 wa := by rw [hwa]; exact (Below.refl _ _).alloc (Nat.le_refl _) _
    have HTA := Lib.hid (stext_any 1 (.slice (some ⟨w9.heap.size, 0, none⟩) 1 1) brTreeQ wa (by rw [hwa]; exact brViewQ w9 0) (by decide) (by decide) br_szQ)
    rw [br_textQ] at HTA
    have HBa := Lib.hid (HB9.out.trans (hba.mono HB9.out.size))
    have HXa := Lib.hid (HX9.out.older (Older.of_below hba))
    have HYa := Lib.hid (HY9.out.older (Older.of_below hba))
    have HWa := Lib.hid hwa
    clear hba hwa HB9 HX9 HY9
    go_wp2_with fail
    rw [← HWa.out]
    refine HTA.out.mono ?_
    rintro e wb ⟨rfl, hbb⟩
    have HBb := Lib.hid (HBa.out.trans (hbb.mono HBa.out.size))
    have HXb := Lib.hid (HXa.out.older (Older.of_below hbb))
    have HYb := Lib.hid (HYa.out.older (Older.of_below hbb))
    clear hbb HBa HXa HYa HWa HTA
    rw [show mk [60, 98, 114, 62] = ⟨#[60, 98, 114, 62]⟩ from rfl]
    obtain ⟨⟨xa, xe, hxv⟩, -⟩ := HXb.out
    obtain ⟨⟨ya, ye, hyv⟩, -⟩ := HYb.out
    subst hxv hyv

    go_upto_region 14 with fail
    obtain ⟨wc, hwc⟩ : ∃ wc, wc = wb := ⟨_, rfl⟩
    rw [← hwc] at HBb HXb HYb
    try rw [← hwc]
    go_wp2_with fail
    go_loopw [19] (fun v19 wr => ∃ (Wr : World) (k : Nat), Wr = wr ∧ v19 = .int .i64 k ∧ k ≤ X.length ∧ Hid (∃ n, Wr = wc.drewN n)) (fun v19 _ => X.length - (intOf v19).toNat)
    case atStart => exact ⟨_, 0, rfl, rfl, by omega, Lib.hid ⟨0, by first | rfl | exact hwc.symm⟩⟩
    case round =>
      obtain ⟨Wr, k, rfl, rfl, hk, hW⟩ := hrel
      have hold : Older wc Wr := by obtain ⟨n, hn⟩ := hW.out; rw [hn]; exact ⟨Nat.le_refl _, fun _ _ => rfl⟩
      by_cases hlt : k < X.length
      · obtain ⟨r, hx⟩ : ∃ x, X[k]? = some x := ⟨_, List.getElem?_eq_getElem hlt⟩
        obtain ⟨gx, ox, ex, mx, hvx, _, cx0, cx1, hmx⟩ := (HXb.out.older hold).2 k r hx
        obtain ⟨gy, oy, ey, my, hvy, _, cy0, cy1, hmy⟩ := (HYb.out.older hold).2 k r hx
        obtain ⟨rfl, rfl⟩ : xa = some ⟨gx, ox, none⟩ ∧ xe = ex := by simp at hvx; exact ⟨hvx.1, by omega⟩
        obtain ⟨rfl, rfl⟩ : ya = some ⟨gy, oy, none⟩ ∧ ye = ey := by simp at hvy; exact ⟨hvy.1, by omega⟩
        obtain ⟨⟨ma, me, rfl⟩, hmxc⟩ := hmx
        obtain ⟨⟨na, ne, rfl⟩, hmyc⟩ := hmy
        have HMX := Lib.hid hmxc
        have HMY := Lib.hid hmyc
        have k0 : (0 : Int) ≤ k := by omega
        have k1 : (k : Int) < X.length := by omega
        clear hvx hvy hmxc hmyc hold
        go_wp2_with fail
        go_quiet (fail)
        obtain ⟨W2, hW2⟩ : ∃ W2, W2 = Wr.drewN nq := ⟨_, rfl⟩
        rw [← hW2]
        have HW2 := Lib.hid (show ∃ n, W2 = wc.drewN n by obtain ⟨n, hn⟩ := hW.out; exact ⟨n + nq, by rw [hW2, hn, World.drewN_drewN]⟩)
        have dx1 : ∀ n, (wc.drewN n).cell? ⟨gx, ox + k * 2 + 1, none⟩ = some (.slice ma r.marks.length (r.marks.length + me)) := fun n => by obtain ⟨n', hn'⟩ := hW.out; rw [hn'] at cx1; exact cx1
        have dy1 : ∀ n, (wc.drewN n).cell? ⟨gy, oy + k * 2 + 1, none⟩ = some (.slice na r.marks.length (r.marks.length + ne)) := fun n => by obtain ⟨n', hn'⟩ := hW.out; rw [hn'] at cy1; exact cy1
        have HMX2 := Lib.hid (fun i p hi n => show ∃ g o e, Value.slice ma r.marks.length (r.marks.length + me) = .slice (some ⟨g, o, none⟩) r.marks.length (r.marks.length + e) ∧ (wc.drewN n).cell? ⟨g, o + i, none⟩ = some (.string (mk p)) by
          obtain ⟨g, o, e, h1, _, h3⟩ := HMX.out i p hi
          obtain ⟨n', hn'⟩ := hW.out
          rw [hn'] at h3
          exact ⟨g, o, e, h1, h3⟩)
        have HMY2 := Lib.hid (fun i p hi n => show ∃ g o e, Value.slice na r.marks.length (r.marks.length + ne) = .slice (some ⟨g, o, none⟩) r.marks.length (r.marks.length + e) ∧ (wc.drewN n).cell? ⟨g, o + i, none⟩ = some (.string (mk p)) by
          obtain ⟨g, o, e, h1, _, h3⟩ := HMY.out i p hi
          obtain ⟨n', hn'⟩ := hW.out
          rw [hn'] at h3
          exact ⟨g, o, e, h1, h3⟩)
        have DX1 := Lib.hid dx1
        have DY1 := Lib.hid dy1
        clear hW2 dx1 dy1 cx0 cx1 cy0 cy1 HMX HMY
        have hml := (HG2.out r (List.mem_of_getElem? hx)).1
        clear hx
        go_wp2_with fail
        go_loopw [20] (fun v20 wr => ∃ (Wx : World) (j : Nat), Wx = wr ∧ v20 = .int .i64 j ∧ j ≤ r.marks.length ∧ Hid (∃ n, Wx = wc.drewN n)) (fun v20 _ => r.marks.length - (intOf v20).toNat)
        case atStart => exact ⟨_, 0, rfl, rfl, by omega, HW2⟩
        case round =>
          obtain ⟨Wx, j, rfl, rfl, hj, hWx⟩ := hrel
          have cx1 : Wx.cell? ⟨gx, ox + k * 2 + 1, none⟩ = some (.slice ma r.marks.length (r.marks.length + me)) := by obtain ⟨n, hn⟩ := hWx.out; rw [hn]; exact DX1.out n
          have cy1 : Wx.cell? ⟨gy, oy + k * 2 + 1, none⟩ = some (.slice na r.marks.length (r.marks.length + ne)) := by obtain ⟨n, hn⟩ := hWx.out; rw [hn]; exact DY1.out n
          by_cases hjl : j < r.marks.length
          · obtain ⟨m, hm⟩ : ∃ x, r.marks[j]? = some x := ⟨_, List.getElem?_eq_getElem hjl⟩
            obtain ⟨g1, o1, e1, hv1, hc1⟩ := HMX2.out j m hm 0
            obtain ⟨g2, o2, e2, hv2, hc2⟩ := HMY2.out j m hm 0
            obtain rfl : ma = some ⟨g1, o1, none⟩ := by simp at hv1; exact hv1.1
            obtain rfl : na = some ⟨g2, o2, none⟩ := by simp at hv2; exact hv2.1
            have c1 : Wx.cell? ⟨g1, o1 + j, none⟩ = some (.string (mk m)) := by obtain ⟨n, hn⟩ := hWx.out; rw [hn]; exact hc1
            have c2 : Wx.cell? ⟨g2, o2 + j, none⟩ = some (.string (mk m)) := by obtain ⟨n, hn⟩ := hWx.out; rw [hn]; exact hc2
            have j0 : (0 : Int) ≤ j := by omega
            have j1 : (j : Int) < r.marks.length := by omega
            clear hv1 hv2 hc1 hc2 hm
            go_wp2_with fail
            go_quiet (fail)
            have hW3 := Lib.hid (show ∃ n, Wx.drewN nq = wc.drewN n by obtain ⟨n, hn⟩ := hWx.out; exact ⟨n + nq, by rw [hn, World.drewN_drewN]⟩)
            go_wp2_with fail
            go_roundw
            case rel => exact ⟨_, j + 1, rfl, by go_num, by omega, hW3⟩
            case measure => simp [intOf]; omega
          · obtain rfl : j = r.marks.length := by omega
            go_wp2_with fail
            go_roundw
            case rel => exact ⟨_, k + 1, rfl, by go_num, by omega, hWx⟩
            case measure => simp [intOf]; omega
      · obtain rfl : k = X.length := by omega
        go_wp2_with fail
        go_ret
        exact ⟨rfl, by obtain ⟨n, hn⟩ := hW.out; rw [hn]; exact ⟨HBb.out.os, HBb.out.tape, HBb.out.output, HBb.out.size, HBb.out.block⟩⟩
end Go.Proofs.YtjkgmdnkejjppaaGreatDoor
