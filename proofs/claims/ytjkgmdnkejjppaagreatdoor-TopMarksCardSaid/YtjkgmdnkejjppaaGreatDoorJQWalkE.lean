/- Walks of marks: norm. -/
import Derived.Test.YtjkgmdnkejjppaaGreatDoorJQWalkD
import Derived.Test.YtjkgmdnkejjppaaGreatDoorJTabB
import Derived.Test.YtjkgmdnkejjppaaGreatDoorJQLawC
namespace Go.Proofs.YtjkgmdnkejjppaaGreatDoor
open Go Go.RowKit

theorem norm1_any (m : Bytes) (n : Nat) (ov : Value) (l : List Bytes) (hl : l.length ≤ 1000000) (w : World) (hn : w.cell? ⟨n, 0, none⟩ = some ov) (hv : SView w ov l) :
    Calls Tryz.prog 45 (#[.string (mk m)] ++ #[.pointer (some ⟨n, 0, none⟩)]) w fun e w' => e = .returned (.bool (!l.contains m)) ∧ Below w.heap.size w w' := by
  have HC := Lib.hid (containsV_any ov l m hl w hv)
  clear hv
  change Calls Tryz.prog _ #[.string (mk m), .pointer (some ⟨n, 0, none⟩)] w _
  go_enter Tryz.func45, Tryz.ntmps45
  go_wp2_with fail
  refine HC.out.mono ?_
  rintro e w2 ⟨rfl, hw⟩
  rw [← hw]
  clear hw
  go_wp2_with fail
  go_ret
  exact ⟨by simp, Below.refl _ _⟩

theorem normR_snoc (ms : List Bytes) (l : List TRun) (k : Nat) (r : TRun) (h : l[k]? = some r) : normR ms [] (l.take (k + 1)) = addRun (normR ms [] (l.take k)) ⟨r.text, keepMs ms r.marks⟩ := by
  rw [List.take_add_one, h]
  unfold normR
  rw [List.foldl_append]; rfl
theorem normR_len (ms : List Bytes) (l : List TRun) : (normR ms [] l).length ≤ l.length := by have := (normR_tsum ms l []).2; simpa using this
theorem addRun_first {n : TRun} (h : n.text ≠ []) : (addRun [] n).reverse = [n] := by unfold addRun; simp [h]
theorem addRun_first0 {n : TRun} (h : n.text = []) : (addRun [] n).reverse = [] := by unfold addRun; simp [h]
theorem addRun_same {u : TRun} {a : List TRun} {n : TRun} (h : u.marks = n.marks) : (addRun (u :: a) n).reverse = a.reverse ++ [⟨u.text ++ n.text, u.marks⟩] := by unfold addRun; simp [h]
theorem addRun_more {u : TRun} {a : List TRun} {n : TRun} (h : u.marks ≠ n.marks) (ht : n.text ≠ []) : (addRun (u :: a) n).reverse = (u :: a).reverse ++ [n] := by unfold addRun; simp [h, ht]
theorem addRun_none {u : TRun} {a : List TRun} {n : TRun} (h : u.marks ≠ n.marks) (ht : n.text = []) : (addRun (u :: a) n).reverse = (u :: a).reverse := by unfold addRun; simp [h, ht]
theorem keepMs_take (ms r : List Bytes) (j : Nat) (m : Bytes) (h : ms[j]? = some m) : keepMs (ms.take (j + 1)) r = if r.contains m then keepMs (ms.take j) r ++ [m] else keepMs (ms.take j) r := by
  unfold keepMs
  rw [List.take_add_one, h]
  simp only [Option.toList_some, List.filter_append]
  by_cases hc : r.contains m = true
  · rw [if_pos hc]; simp only [List.filter_cons, hc, if_true, List.filter_nil]
  · rw [if_neg hc]; simp only [List.filter_cons, hc, List.filter_nil, List.append_nil, Bool.false_eq_true, if_false]

theorem sum_take_le {α : Type} (f : α → Nat) (l : List α) (k : Nat) : ((l.take k).map f).sum ≤ (l.map f).sum := by
  conv => rhs; rw [← List.take_append_drop k l, List.map_append, List.sum_append]
  omega
theorem normR_text {ms : List Bytes} {l : List TRun} {k M : Nat} (h : (l.map fun r => r.text.length).sum ≤ M) : ∀ u ∈ normR ms [] (l.take k), u.text.length ≤ M := by
  intro u hu
  have h1 := sum_ge (fun r : TRun => r.text.length) _ u hu
  have h2 := (normR_tsum ms (l.take k) []).1
  have h3 := sum_take_le (fun r : TRun => r.text.length) l k
  simp only [List.map_nil, List.sum_nil, Nat.zero_add] at h2
  omega
/-- A block of another type than the row's that was appended to is as it was. -/
theorem grown_keeps {B n size : Nat} {e T : TypeId} {w w' : World} {tv : Value} {cells : List Value} {x : Nat} {cs : Array Value} (hown : w.ownsRow B e size tv n cells) (hg : w.grownBy w' tv.ownBlock) (h : w.heap[x]? = some (.cells cs T (0, 0))) (hne : T ≠ e) : w'.heap[x]? = some (.cells cs T (0, 0)) :=
  (hg.block x (lt_of_block h) (fun e' => by
    obtain ⟨_, h3, _⟩ := own_type hown e'.symm
    exact type_ne h h3 hne rfl)).trans h
set_option maxHeartbeats 4000000 in
set_option maxRecDepth 100000 in
theorem norm_any (mv v : Value) (ms : List Bytes) (l : List TRun) (hms : ms.length ≤ 10) (hl : l.length ≤ 1000) (hin : ∀ r ∈ l, r.marks.length ≤ 1000 ∧ ∀ m ∈ r.marks, m ∈ ms) (hsz : (l.map fun r => r.text.length).sum ≤ 1000000) (w : World) (hmv : SView w mv ms) (hv : RView w v l) :
    Calls Tryz.prog 23 #[mv, v] w fun e w' => ∃ tv, e = .returned (.tuple #[tv, .int .i64 0]) ∧ RunOwn w.heap.size w' tv (normM ms l) ∧ Below w.heap.size w w' := by
  obtain ⟨⟨a, e0, rfl⟩, -⟩ := id hv
  obtain ⟨⟨ma, me, rfl⟩, -⟩ := id hmv
  have HV := Lib.hid hv
  have HMV := Lib.hid hmv
  have HIN := Lib.hid hin
  clear hv hmv hin
  obtain ⟨w1, hw1⟩ : ∃ w1, w1 = w.alloc (.cells #[.slice ma ms.length (ms.length + me)] 29) := ⟨_, rfl⟩
  have hb1 : Below w.heap.size w w1 := by rw [hw1]; exact (Below.refl _ _).alloc (Nat.le_refl _) _
  have hN : w1.heap[w.heap.size]? = some (.cells #[.slice ma ms.length (ms.length + me)] 29 (0, 0)) := by rw [hw1]; exact heap_alloc_new _ _
  have k1 : w1.cell? ⟨w.heap.size, 0, none⟩ = some (.slice ma ms.length (ms.length + me)) := by rw [Lib.cell_of_heap hN]; rfl
  have hlt1 : w.heap.size < w1.heap.size := lt_of_block hN
  have HB1 := Lib.hid hb1
  have HW1 := Lib.hid hw1
  have K1 := Lib.hid k1
  have HV1 := Lib.hid (HV.out.older (Older.of_below hb1))
  have HMV1 := Lib.hid (HMV.out.older (Older.of_below hb1))
  clear hb1 hw1 hN k1
  go_enter Tryz.func23, Tryz.ntmps23
  go_wp2_with fail
  rw [← HW1.out]
  go_loopw [6, 15] (fun v6 v15 wr => ∃ (Wr : World) (k : Nat) (acc : List TRun) (A : Option Addr) (C : Nat), Wr = wr ∧ v6 = .slice A acc.length C ∧ v15 = .int .i64 k ∧ k ≤ l.length ∧ acc.length ≤ k ∧ Hid (acc = normR ms [] (l.take k)) ∧ Hid (RunOwn w1.heap.size Wr (.slice A acc.length C) acc.reverse) ∧ Hid (Below w1.heap.size w1 Wr)) (fun _ v15 _ => l.length - (intOf v15).toNat)
  case atStart => exact ⟨_, 0, [], none, 0, rfl, rfl, rfl, by omega, by simp, Lib.hid rfl, Lib.hid (RunOwn.nil _ _), Lib.hid (Below.refl _ _)⟩
  case round =>
    obtain ⟨Wr, k, acc, A, C, rfl, rfl, rfl, hk, hacc, HACC, HO, HB⟩ := hrel
    by_cases hlt : k < l.length
    · obtain ⟨r, hx⟩ : ∃ x, l[k]? = some x := ⟨_, List.getElem?_eq_getElem hlt⟩
      obtain ⟨g, ofs, e2, mv, hv, ⟨cs, hgb⟩, hc0, hc1, hmv⟩ := (HV1.out.older (Older.of_below HB.out)).2 k r hx
      obtain rfl : a = some ⟨g, ofs, none⟩ := by simp at hv; exact hv.1
      have k0 : (0 : Int) ≤ k := by omega
      have k2 : (k : Int) < l.length := by omega
      obtain ⟨hr1, hr2⟩ := HIN.out r (List.mem_of_getElem? hx)
      obtain ⟨⟨va, ve, rfl⟩, -⟩ := id hmv
      obtain ⟨W4, hW4⟩ : ∃ W4, W4 = Wr.alloc (.cells #[.string (mk r.text), .slice va r.marks.length (r.marks.length + ve)] 46) := ⟨_, rfl⟩
      have hb4 : Below Wr.heap.size Wr W4 := by rw [hW4]; exact (Below.refl _ _).alloc (Nat.le_refl _) _
      have hN4 : W4.heap[Wr.heap.size]? = some (.cells #[.string (mk r.text), .slice va r.marks.length (r.marks.length + ve)] 46 (0, 0)) := by rw [hW4]; exact heap_alloc_new _ _
      have c40 : W4.cell? ⟨Wr.heap.size, 0, none⟩ = some (.string (mk r.text)) := by rw [Lib.cell_of_heap hN4]; rfl
      have c41 : W4.cell? ⟨Wr.heap.size, 1, none⟩ = some (.slice va r.marks.length (r.marks.length + ve)) := by rw [Lib.cell_of_heap hN4]; rfl
      have hlt4 : Wr.heap.size < W4.heap.size := lt_of_block hN4
      have k4 : W4.cell? ⟨w.heap.size, 0, none⟩ = some (.slice ma ms.length (ms.length + me)) := (hb4.cell (p := ⟨w.heap.size, 0, none⟩) (by show w.heap.size < Wr.heap.size; have := HB.out.size; omega)).trans ((HB.out.cell (p := ⟨w.heap.size, 0, none⟩) hlt1).trans K1.out)
      have HMV4 := Lib.hid (HMV1.out.older (Older.of_below (HB.out.trans (hb4.mono HB.out.size))))
      have hcl : ∀ W m, m ∈ r.marks → Below W4.heap.size W4 W → Calls Tryz.prog 45 (#[.string (mk m)] ++ #[.pointer (some ⟨w.heap.size, 0, none⟩)]) W fun e w' => e = .returned (.bool (!ms.contains m)) ∧ Below W.heap.size W w' := fun W m _ hb =>
        norm1_any m w.heap.size _ ms (by omega) W ((hb.cell (p := ⟨w.heap.size, 0, none⟩) (block_lt_of_cell k4)).trans k4) (HMV4.out.older (Older.of_below hb))
      have HSV4 := Lib.hid (hmv.older (Older.of_below hb4))
      have hanyF : (r.marks.any fun m => !ms.contains m) = false := by
        rw [List.any_eq_false]
        intro m hm
        have := hr2 m hm
        simpa using this
      have HCF := Lib.hid (containsFuncV_any 45 #[.pointer (some ⟨w.heap.size, 0, none⟩)] enter_norm1 (fun m => !ms.contains m) _ r.marks (by omega) W4 HSV4.out hcl)
      rw [hanyF] at HCF
      have HX := Lib.hid hx
      have HB4 := Lib.hid hb4
      have HW4 := Lib.hid hW4
      have K4 := Lib.hid k4
      have HR2 := Lib.hid hr2
      clear hv hgb hx hmv hb4 hW4 hN4 k4 hcl hanyF hr2
      go_upto_region 5 with fail
      rw [← HW4.out]
      go_wp2_with fail
      refine HCF.out.mono ?_
      rintro e w5 ⟨rfl, hb5⟩
      have c50 : w5.cell? ⟨Wr.heap.size, 0, none⟩ = some (.string (mk r.text)) := (hb5.cell (p := ⟨Wr.heap.size, 0, none⟩) hlt4).trans c40
      have c51 : w5.cell? ⟨Wr.heap.size, 1, none⟩ = some (.slice va r.marks.length (r.marks.length + ve)) := (hb5.cell (p := ⟨Wr.heap.size, 1, none⟩) hlt4).trans c41
      have hz5 : W4.heap.size ≤ w5.heap.size := hb5.size
      have k5 : w5.cell? ⟨w.heap.size, 0, none⟩ = some (.slice ma ms.length (ms.length + me)) := (hb5.cell (p := ⟨w.heap.size, 0, none⟩) (block_lt_of_cell K4.out)).trans K4.out
      have HB5 := Lib.hid (HB4.out.trans (hb5.mono HB4.out.size))
      have HMV5 := Lib.hid (HMV4.out.older (Older.of_below hb5))
      have HSV5 := Lib.hid (HSV4.out.older (Older.of_below hb5))
      obtain ⟨w7, hw7⟩ : ∃ w7, w7 = w5.alloc (.cells #[.string (mk r.text), .slice none 0 0] 46) := ⟨_, rfl⟩
      have hb7 : Below w5.heap.size w5 w7 := by rw [hw7]; exact (Below.refl _ _).alloc (Nat.le_refl _) _
      have hN7 : w7.heap[w5.heap.size]? = some (.cells #[.string (mk r.text), .slice none 0 0] 46 (0, 0)) := by rw [hw7]; exact heap_alloc_new _ _
      have k7 : w7.cell? ⟨w.heap.size, 0, none⟩ = some (.slice ma ms.length (ms.length + me)) := (hb7.cell (p := ⟨w.heap.size, 0, none⟩) (block_lt_of_cell k5)).trans k5
      have C51 := Lib.hid c51
      have HB7 := Lib.hid hb7
      have HW7 := Lib.hid hw7
      have HN7 := Lib.hid hN7
      clear hb5 hb7 hw7 hN7 c40 c41 hc0 hc1 HCF HSV4 HMV4 K4
      go_upto_region 8 with fail
      rw [← HW7.out]
      clear c51 c50 k5
      go_wp2_with fail
      go_loopw [28] (fun vj wr => ∃ (Wx : World) (j : Nat) (na : Option Addr) (nc : Nat), Wx = wr ∧ vj = .int .i64 j ∧ j ≤ ms.length ∧ Hid (Wx.heap[w5.heap.size]? = some (.cells #[.string (mk r.text), .slice na (keepMs (ms.take j) r.marks).length nc] 46 (0, 0))) ∧ Hid (SRow w5.heap.size Wx (.slice na (keepMs (ms.take j) r.marks).length nc) (keepMs (ms.take j) r.marks)) ∧ Hid (Below w5.heap.size w5 Wx)) (fun vj _ => ms.length - (intOf vj).toNat)
      case atStart => exact ⟨_, 0, none, 0, rfl, rfl, by omega, by rw [List.take_zero]; exact HN7, Lib.hid (by rw [List.take_zero]; exact SRow.nil _ _), HB7⟩
      case round =>
        obtain ⟨Wx, j, na, nc, rfl, rfl, hj, HNx, HRx, HBx⟩ := hrel
        by_cases hjl : j < ms.length
        · obtain ⟨m, hm⟩ : ∃ x, ms[j]? = some x := ⟨_, List.getElem?_eq_getElem hjl⟩
          have hmvx := HMV5.out.older (Older.of_below HBx.out)
          obtain ⟨mg, mo, me2, hmvv, _, hmc⟩ := hmvx.2 j m hm
          obtain rfl : ma = some ⟨mg, mo, none⟩ := by simp at hmvv; exact hmvv.1
          have j0 : (0 : Int) ≤ j := by omega
          have j1 : (j : Int) < ms.length := by omega
          have c1 : Wx.cell? ⟨Wr.heap.size, 1, none⟩ = some (.slice va r.marks.length (r.marks.length + ve)) := (HBx.out.cell (p := ⟨Wr.heap.size, 1, none⟩) (block_lt_of_cell C51.out)).trans C51.out
          have HCV := Lib.hid (containsV_any _ r.marks m (by omega) Wx (HSV5.out.older (Older.of_below HBx.out)))
          have HKT := Lib.hid (keepMs_take ms r.marks j m hm)
          clear hm hmvx hmvv
          go_wp2_with fail
          refine HCV.out.mono ?_
          rintro e w' ⟨rfl, hw⟩
          rw [← hw]
          clear hw
          by_cases hc : r.marks.contains m = true
          · rw [hc] at HKT ⊢
            have HKT2 : Hid (keepMs (ms.take (j + 1)) r.marks = keepMs (ms.take j) r.marks ++ [m]) := Lib.hid (by rw [HKT.out, if_pos rfl])
            have hWa := (Below.refl Wx.heap.size Wx).alloc (Nat.le_refl _) (.cells #[.string (mk m)] 9)
            have hzx : w5.heap.size ≤ Wx.heap.size := HBx.out.size
            have hzY : w5.heap.size ≤ (Wx.alloc (.cells #[.string (mk m)] 9)).heap.size := by simp; omega
            have c37 : Wx.cell? ⟨w5.heap.size, 1, none⟩ = some (.slice na (keepMs (ms.take j) r.marks).length nc) := by rw [Lib.cell_of_heap HNx.out]; rfl
            have HRY := Lib.hid (HRx.out.below hWa)
            have HNY := Lib.hid (heap_alloc_new Wx (.cells #[.string (mk m)] 9))
            have HNN := Lib.hid ((hWa.block _ (lt_of_block HNx.out)).trans HNx.out)
            have HBY := Lib.hid (HBx.out.trans (hWa.mono hzx))
            have hkl : (keepMs (ms.take j) r.marks).length ≤ 1000 := by
              have := (keep_sub (ms.take j) r.marks).1
              rw [List.length_take] at this
              omega
            clear hWa HKT
            generalize hKL : (keepMs (ms.take j) r.marks) = KL at *
            go_wp2_with (at_builtin; refine wpList_row1 Tryz.underlying29 infoStr rfl (by decide) (by decide) (by rfl) (.tmp 37) (.tmp 39) (by rfl) w5.heap.size _ KL.length _ Wx.heap.size #[.string (mk m)] (by rfl) (by rfl) HRY.out HNY.out rfl (by simp [Value.oneCell']) (by omega) hzY ?_; intro A2 C2 w9 hown hgr; have HR9 := Lib.hid hown; have hN9 := grown_keeps HRY.out hgr HNN.out (by decide); have HB9 := Lib.hid (HBY.out.trans (row_grown_below hgr HRY.out hzY)); have c9 : w9.cell? ⟨w5.heap.size, 1, none⟩ = some (.slice na KL.length nc) := (by rw [Lib.cell_of_heap hN9]; rfl); have f9 : w9.frozen? ⟨w5.heap.size, 1, none⟩ = false := Lib.frozen_of_heap hN9 1; have HN9 := Lib.hid hN9; clear hN9 hown hgr)
            go_roundw
            case rel =>
              refine ⟨_, j + 1, A2, C2, rfl, by go_num, by omega, ?_, ?_, ?_⟩
              · rw [HKT2.out, List.length_append]
                exact Lib.hid (heap_setCell_at _ HN9.out)
              · rw [HKT2.out, List.length_append]
                refine Lib.hid (show SRow w5.heap.size _ (.slice A2 (KL.length + 1) C2) (KL ++ [m]) from ?_)
                unfold SRow
                rw [List.map_append, List.length_append]
                refine ownsRow_kept HR9.out fun gq cq _ hgq => ?_
                rw [Below.heap_setCell _ _ _ _ (type_ne hgq HN9.out (by decide))]; exact hgq
              · exact Lib.hid (HB9.out.setCell (p := ⟨w5.heap.size, 1, none⟩) (Nat.le_refl _) _)
            case measure => simp [intOf]; omega
          · have hc' : r.marks.contains m = false := by simpa using hc
            rw [hc'] at HKT ⊢
            have HKT2 : Hid (keepMs (ms.take (j + 1)) r.marks = keepMs (ms.take j) r.marks) := Lib.hid (by rw [HKT.out]; rfl)
            clear hc hc' HKT
            go_wp2_with fail
            go_roundw
            case rel => exact ⟨_, j + 1, na, nc, rfl, by go_num, by omega, by rw [HKT2.out]; exact HNx, by rw [HKT2.out]; exact HRx, HBx⟩
            case measure => simp [intOf]; omega
        · obtain rfl : j = ms.length := by omega
          rw [List.take_length] at HNx HRx
          have HACC2 : Hid (addRun acc ⟨r.text, keepMs ms r.marks⟩ = normR ms [] (l.take (k + 1))) := Lib.hid (by rw [normR_snoc ms l k r HX.out, ← HACC.out])
          have HBWx := Lib.hid (HB.out.trans ((HB5.out.mono HB.out.size).trans (HBx.out.mono (Nat.le_trans HB.out.size (Nat.le_trans (Nat.le_of_lt hlt4) hz5)))))
          have HOx := Lib.hid (HO.out.older (Older.of_below (HB5.out.trans (HBx.out.mono (Nat.le_trans (Nat.le_of_lt hlt4) hz5)))))
          have HSVx := Lib.hid HRx.out.sview
          have n0 : Wx.cell? ⟨w5.heap.size, 0, none⟩ = some (.string (mk r.text)) := by rw [Lib.cell_of_heap HNx.out]; rfl
          have n1 : Wx.cell? ⟨w5.heap.size, 1, none⟩ = some (.slice na (keepMs ms r.marks).length nc) := by rw [Lib.cell_of_heap HNx.out]; rfl
          have hkl : (keepMs ms r.marks).length ≤ 1000 := by have := (keep_sub ms r.marks).1; omega
          clear HB5 HB7 HBx HW7 HN7 HRx C51 HSV5 HMV5 HO
          cases acc with
          | nil =>
            have HWX := HBWx
            simp only [List.length_nil] at HOx ⊢
            go_upto_region 15 with fail
            go_quiet (fail)
            obtain ⟨WW, hWW⟩ : ∃ WW, WW = Wx.drewN nq := ⟨_, rfl⟩
            rw [← hWW]
            have hbW : Below Wx.heap.size Wx WW := by rw [hWW]; exact ⟨rfl, rfl, rfl, Nat.le_refl _, fun _ _ => rfl⟩
            have m0 : WW.cell? ⟨w5.heap.size, 0, none⟩ = some (.string (mk r.text)) := by rw [hWW]; exact n0
            have m1 : WW.cell? ⟨w5.heap.size, 1, none⟩ = some (.slice na (keepMs ms r.marks).length nc) := by rw [hWW]; exact n1
            have HOWW := Lib.hid (HOx.out.older (Older.of_below hbW))
            have HSVN := Lib.hid (HSVx.out.older (Older.of_below hbW))
            have HBWW := Lib.hid (HBWx.out.trans (hbW.mono HBWx.out.size))
            clear hWW hbW n0 n1
            by_cases ht : r.text = []
            · have t1 : (mk r.text).toList.isEmpty = true := by rw [toList_mk, ht]; rfl
              have t2 : (mk r.text).toList = [] := by rw [toList_mk, ht]
              have t3 : ((mk r.text).toList == []) = true := by rw [toList_mk, ht]; rfl
              have HREV := Lib.hid (addRun_first0 (n := ⟨r.text, keepMs ms r.marks⟩) ht)
              have HLEN : Hid ((addRun [] ⟨r.text, keepMs ms r.marks⟩).length = 0) := Lib.hid (by rw [← List.length_reverse, HREV.out]; rfl)
              clear ht
              go_wp2_with fail
              go_roundw
              case rel => exact ⟨_, k + 1, addRun [] ⟨r.text, keepMs ms r.marks⟩, A, C, rfl, by rw [HLEN.out], by go_num, by omega, by rw [HLEN.out]; omega, Lib.hid HACC2.out, Lib.hid (by rw [HLEN.out, HREV.out]; exact HOWW.out), HBWW⟩
              case measure => simp [intOf]; omega
            · have t1 : (mk r.text).toList.isEmpty = false := by rw [toList_mk]; simpa using ht
              have t2 : ¬ (mk r.text).toList = [] := by rw [toList_mk]; exact ht
              have t3 : ((mk r.text).toList == []) = false := beq_eq_false_iff_ne.2 t2
              have HREV := Lib.hid (addRun_first (n := ⟨r.text, keepMs ms r.marks⟩) ht)
              have HLEN : Hid ((addRun [] ⟨r.text, keepMs ms r.marks⟩).length = 0 + 1) := Lib.hid (by rw [← List.length_reverse, HREV.out]; rfl)
              clear ht
              have hOx := HOWW.out.older (Older.of_below ((Below.refl WW.heap.size WW).alloc (Nat.le_refl _) (.cells #[.string (mk r.text), .slice na (keepMs ms r.marks).length nc] 46)))
              obtain ⟨cells, hown0, hpush⟩ := hOx.row
              have hlr : ([] : List TRun).reverse.length = 0 := rfl
              rw [hlr] at hown0 hpush
              have HOWN := Lib.hid hown0
              have HPUSH := Lib.hid (hpush ⟨r.text, keepMs ms r.marks⟩ (.slice na (keepMs ms r.marks).length nc))
              have HMVX := Lib.hid (HSVN.out.older (Older.of_below ((Below.refl WW.heap.size WW).alloc (Nat.le_refl _) (.cells #[.string (mk r.text), .slice na (keepMs ms r.marks).length nc] 46))))
              have HNX := Lib.hid (heap_alloc_new WW (.cells #[.string (mk r.text), .slice na (keepMs ms r.marks).length nc] 46))
              have hzX : w1.heap.size ≤ (WW.alloc (.cells #[.string (mk r.text), .slice na (keepMs ms r.marks).length nc] 46)).heap.size := by have := HBWW.out.size; simp; omega
              have HBX := Lib.hid (HBWW.out.trans (((Below.refl WW.heap.size WW).alloc (Nat.le_refl _) (.cells #[.string (mk r.text), .slice na (keepMs ms r.marks).length nc] 46)).mono HBWW.out.size))
              clear hOx hown0 hpush
              go_wp2_with (at_builtin; refine wpList_row1 Tryz.underlying30 infoRun rfl (by decide) (by decide) (by rfl) (.tmp 72) (.tmp 74) (by rfl) w1.heap.size _ (0) _ WW.heap.size #[.string (mk r.text), .slice na (keepMs ms r.marks).length nc] (by rfl) (by rfl) HOWN.out HNX.out rfl (by simp [Value.oneCell']) (by omega) hzX ?_; intro A2 C2 w9 hown hgr; have HB9 := Lib.hid (HBX.out.trans (row_grown_below hgr HOWN.out hzX)); have HO9 := Lib.hid (HPUSH.out _ w9 HMVX.out hgr hown); clear hown hgr)
              go_roundw
              case rel => exact ⟨_, k + 1, addRun ([]) ⟨r.text, keepMs ms r.marks⟩, A2, C2, rfl, by rw [HLEN.out], by go_num, by omega, by rw [HLEN.out]; omega, Lib.hid HACC2.out, Lib.hid (by rw [HLEN.out, HREV.out]; exact HO9.out), HB9⟩
              case measure => simp [intOf]; omega
          | cons u ac =>
            have hac2 : ac.length + 1 ≤ k := hacc
            have hol := HOx.out
            rw [List.reverse_cons] at hol
            obtain ⟨gl, cl, uv, hvl, hBl, hll, u0, u1, husv, -, -⟩ := hol.last
            obtain ⟨rfl, rfl⟩ : A = some ⟨gl, 0, none⟩ ∧ C = cl := by simp at hvl; exact hvl
            rw [List.length_reverse] at u0 u1
            have hul : u.marks.length ≤ 1000000 := by
              have hu := (normR_ok ms (l.take k) [] (fun x hx => by cases hx) rfl).1 u (by rw [← HACC.out]; simp)
              have h1 := (keep_sub ms u.marks).1
              rw [hu.marks] at h1
              omega
            have HEQ := Lib.hid (equalV_any uv (.slice na (keepMs ms r.marks).length nc) u.marks (keepMs ms r.marks) hul Wx.drew (husv.older ⟨Nat.le_refl _, fun _ _ => rfl⟩) (HSVx.out.older ⟨Nat.le_refl _, fun _ _ => rfl⟩))
            obtain ⟨⟨ua, ue, rfl⟩, -⟩ := id husv
            have q0 : (0 : Int) < (ac.length : Int) + 1 := by omega
            have q1 : IntKind.i64.wrap ((ac.length : Int) + 1 - 1) = (ac.length : Int) := by rw [IntWalk.i64_in _ (by omega)]; omega
            have q2 : IntKind.i64.wrap (ac.length : Int) = (ac.length : Int) := by exact IntWalk.i64_in _ (by omega)
            have q3 : (ac.length : Int) < (ac.length : Int) + 1 := by omega
            have q4 : (0 : Int) ≤ (ac.length : Int) := by omega
            clear hol hvl husv
            simp only [List.length_cons]
            go_upto_region 15 with fail
            go_still_tail 11, (by kernel_rfl)
            change wpList _ _ _ _ _ Wx.drew
            go_wp2_with fail
            refine HEQ.out.mono ?_
            rintro e w6 ⟨rfl, q, hw6⟩
            have hb6 : Below Wx.heap.size Wx w6 := by rw [hw6]; exact ⟨rfl, rfl, rfl, Nat.le_refl _, fun _ _ => rfl⟩
            clear hw6 u0 u1 HEQ
            by_cases he : u.marks = keepMs ms r.marks
            · rw [beq_iff_eq.2 he]
              have HREV := Lib.hid (addRun_same (a := ac) (n := ⟨r.text, keepMs ms r.marks⟩) he)
              have HLEN : Hid ((addRun (u :: ac) ⟨r.text, keepMs ms r.marks⟩).length = ac.length + 1) := Lib.hid (by rw [← List.length_reverse, HREV.out]; simp)
              clear he
              have hol6 := HOx.out.older (Older.of_below hb6)
              rw [List.reverse_cons] at hol6
              obtain ⟨gl', cl', uv', hvl', hBl', hll', u0', _, _, uf', -⟩ := hol6.last
              obtain ⟨rfl, rfl⟩ : gl = gl' ∧ C = cl' := by simp at hvl'; exact hvl'
              rw [List.length_reverse] at u0' uf'
              have m0 : w6.cell? ⟨w5.heap.size, 0, none⟩ = some (.string (mk r.text)) := (hb6.cell (p := ⟨w5.heap.size, 0, none⟩) (block_lt_of_cell n0)).trans n0
              have HB8 := Lib.hid (HBWx.out.trans (hb6.mono HBWx.out.size))
              have HB68 := Lib.hid hb6
              clear hol6 hvl' hb6 n0 n1 hBl' hll'
              have hu1 : (mk u.text).size ≤ 1000000 := by rw [mk_size]; exact normR_text hsz u (by rw [← HACC.out]; simp)
              have hr1 : (mk r.text).size ≤ 1000000 := by rw [mk_size]; have := sum_ge (fun r : TRun => r.text.length) l r (List.mem_of_getElem? HX.out); omega
              have hs0 : (mk u.text).size + (mk r.text).size ≤ 2000000 := by omega
              have hs1 : (mk u.text).size + (mk r.text).size ≤ 9223372036854775807 := by omega
              have hs2 : (((mk u.text).size : Int) + ((mk r.text).size : Int) ≤ 9223372036854775807) := by omega
              have hs4 : ¬ 9223372036854775807 < (mk u.text).size + (mk r.text).size := by omega
              have hs5 : ¬ (mk u.text).size + (mk r.text).size > 9223372036854775807 := by omega
              have hs6 : ¬ 9223372036854775807 < u.text.length + r.text.length := by rw [mk_size, mk_size] at hs1; omega
              have hs3 : u.text.length + r.text.length ≤ 9223372036854775807 := by rw [mk_size, mk_size] at hs1; exact hs1
              go_upto_region 16 with fail
              go_still_tail 11, (by kernel_rfl)
              change wpList _ _ _ _ _ w6.drew
              have u0'' : w6.drew.cell? ⟨gl, ac.length * 2, none⟩ = some (.string (mk u.text)) := u0'
              have uf'' : w6.drew.frozen? ⟨gl, ac.length * 2, none⟩ = false := uf'
              obtain ⟨W8, hW8⟩ : ∃ W8, W8 = w6.drew := ⟨_, rfl⟩
              rw [← hW8] at u0'' uf'' ⊢
              have hb8 : Below Wx.heap.size Wx W8 := by rw [hW8]; exact HB68.out.drew
              have HB88 := Lib.hid hb8
              clear hW8 hb8 m0 u0' uf'
              go_wp2_with fail
              have hol8 := HOx.out.older (Older.of_below HB88.out)
              rw [List.reverse_cons] at hol8
              obtain ⟨g8, c8, v8, hv8, hB8, _, _, _, _, _, hset⟩ := hol8.last
              obtain ⟨rfl, rfl⟩ : gl = g8 ∧ C = c8 := by simp at hv8; exact hv8
              have hset2 := hset (u.text ++ r.text)
              rw [List.length_reverse] at hset2
              refine ⟨⟨_, k + 1, addRun (u :: ac) ⟨r.text, keepMs ms r.marks⟩, some ⟨gl, 0, none⟩, C, rfl, by rw [HLEN.out], by go_num, by omega, by rw [HLEN.out]; omega, Lib.hid HACC2.out, ?_, ?_⟩, by simp [intOf]; omega⟩
              · rw [HLEN.out, HREV.out, cat_mk]
                exact Lib.hid hset2
              · exact Lib.hid ((HBWx.out.trans (HB88.out.mono HBWx.out.size)).setCell (p := ⟨gl, ac.length * 2, none⟩) hB8 _)
            · rw [beq_eq_false_iff_ne.2 he]
              obtain ⟨WW, hWW⟩ : ∃ WW, WW = w6 := ⟨_, rfl⟩
              rw [← hWW] at hb6 ⊢
              have m0 : WW.cell? ⟨w5.heap.size, 0, none⟩ = some (.string (mk r.text)) := (hb6.cell (p := ⟨w5.heap.size, 0, none⟩) (block_lt_of_cell n0)).trans n0
              have m1 : WW.cell? ⟨w5.heap.size, 1, none⟩ = some (.slice na (keepMs ms r.marks).length nc) := (hb6.cell (p := ⟨w5.heap.size, 1, none⟩) (block_lt_of_cell n1)).trans n1
              have HOWW := Lib.hid (HOx.out.older (Older.of_below hb6))
              have HSVN := Lib.hid (HSVx.out.older (Older.of_below hb6))
              have HBWW := Lib.hid (HBWx.out.trans (hb6.mono HBWx.out.size))
              clear hWW hb6 n0 n1
              by_cases ht : r.text = []
              · have t1 : (mk r.text).toList.isEmpty = true := by rw [toList_mk, ht]; rfl
                have t2 : (mk r.text).toList = [] := by rw [toList_mk, ht]
                have t3 : ((mk r.text).toList == []) = true := by rw [toList_mk, ht]; rfl
                have HREV := Lib.hid (addRun_none (a := ac) (n := ⟨r.text, keepMs ms r.marks⟩) he ht)
                have HLEN : Hid ((addRun (u :: ac) ⟨r.text, keepMs ms r.marks⟩).length = ac.length + 1) := Lib.hid (by rw [← List.length_reverse, HREV.out]; simp)
                clear ht he
                go_wp2_with fail
                go_roundw
                case rel => exact ⟨_, k + 1, addRun (u :: ac) ⟨r.text, keepMs ms r.marks⟩, some ⟨gl, 0, none⟩, C, rfl, by rw [HLEN.out], by go_num, by omega, by rw [HLEN.out]; omega, Lib.hid HACC2.out, Lib.hid (by rw [HLEN.out, HREV.out]; exact HOWW.out), HBWW⟩
                case measure => simp [intOf]; omega
              · have t1 : (mk r.text).toList.isEmpty = false := by rw [toList_mk]; simpa using ht
                have t2 : ¬ (mk r.text).toList = [] := by rw [toList_mk]; exact ht
                have t3 : ((mk r.text).toList == []) = false := beq_eq_false_iff_ne.2 t2
                have HREV := Lib.hid (addRun_more (a := ac) (n := ⟨r.text, keepMs ms r.marks⟩) he ht)
                have HLEN : Hid ((addRun (u :: ac) ⟨r.text, keepMs ms r.marks⟩).length = ac.length + 1 + 1) := Lib.hid (by rw [← List.length_reverse, HREV.out]; simp)
                clear ht he
                have hOx := HOWW.out.older (Older.of_below ((Below.refl WW.heap.size WW).alloc (Nat.le_refl _) (.cells #[.string (mk r.text), .slice na (keepMs ms r.marks).length nc] 46)))
                obtain ⟨cells, hown0, hpush⟩ := hOx.row
                have hlr : (u :: ac).reverse.length = ac.length + 1 := by simp
                rw [hlr] at hown0 hpush
                have HOWN := Lib.hid hown0
                have HPUSH := Lib.hid (hpush ⟨r.text, keepMs ms r.marks⟩ (.slice na (keepMs ms r.marks).length nc))
                have HMVX := Lib.hid (HSVN.out.older (Older.of_below ((Below.refl WW.heap.size WW).alloc (Nat.le_refl _) (.cells #[.string (mk r.text), .slice na (keepMs ms r.marks).length nc] 46))))
                have HNX := Lib.hid (heap_alloc_new WW (.cells #[.string (mk r.text), .slice na (keepMs ms r.marks).length nc] 46))
                have hzX : w1.heap.size ≤ (WW.alloc (.cells #[.string (mk r.text), .slice na (keepMs ms r.marks).length nc] 46)).heap.size := by have := HBWW.out.size; simp; omega
                have HBX := Lib.hid (HBWW.out.trans (((Below.refl WW.heap.size WW).alloc (Nat.le_refl _) (.cells #[.string (mk r.text), .slice na (keepMs ms r.marks).length nc] 46)).mono HBWW.out.size))
                clear hOx hown0 hpush
                go_wp2_with (at_builtin; refine wpList_row1 Tryz.underlying30 infoRun rfl (by decide) (by decide) (by rfl) (.tmp 72) (.tmp 74) (by rfl) w1.heap.size _ (ac.length + 1) _ WW.heap.size #[.string (mk r.text), .slice na (keepMs ms r.marks).length nc] (by rfl) (by rfl) HOWN.out HNX.out rfl (by simp [Value.oneCell']) (by omega) hzX ?_; intro A2 C2 w9 hown hgr; have HB9 := Lib.hid (HBX.out.trans (row_grown_below hgr HOWN.out hzX)); have HO9 := Lib.hid (HPUSH.out _ w9 HMVX.out hgr hown); clear hown hgr)
                go_roundw
                case rel => exact ⟨_, k + 1, addRun (u :: ac) ⟨r.text, keepMs ms r.marks⟩, A2, C2, rfl, by rw [HLEN.out], by go_num, by omega, by rw [HLEN.out]; omega, Lib.hid HACC2.out, Lib.hid (by rw [HLEN.out, HREV.out]; exact HO9.out), HB9⟩
                case measure => simp [intOf]; omega
    · obtain rfl : k = l.length := by omega
      have HF := Lib.hid (show acc.reverse = normM ms l by unfold normM; rw [HACC.out, List.take_length])
      go_wp2_with fail
      exact bodyPost_ret (v := .tuple #[.slice A acc.length C, .int .i64 0]) (by simp [results, Tryz.results23, go_sem]) rfl ⟨_, rfl, by rw [← HF.out]; exact HO.out.mono HB1.out.size, HB1.out.trans (HB.out.mono HB1.out.size)⟩
end Go.Proofs.YtjkgmdnkejjppaaGreatDoor
