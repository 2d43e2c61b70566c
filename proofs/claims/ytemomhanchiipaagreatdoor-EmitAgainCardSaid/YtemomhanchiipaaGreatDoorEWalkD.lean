/- Walks of emit: odd, Tag. -/
import Derived.Test.YtemomhanchiipaaGreatDoorEWalkC
import Derived.Test.YtemomhanchiipaaGreatDoorTWalkD
namespace Go.Proofs.YtemomhanchiipaaGreatDoor
open Go Go.RowKit

theorem odd_start (t : TTok) (last : Int) (rest : List TTok) (h : t.kind = 1) : oddM t last rest = (!(t.text == []) || (isRaw t.name && !closedBy t.name rest)) := by unfold oddM; rw [if_pos h]
theorem odd_end (t : TTok) (last : Int) (rest : List TTok) (h : t.kind = 2) : oddM t last rest = (!t.attrs.isEmpty || t.self || !(t.text == [])) := by unfold oddM; rw [if_neg (by omega), if_pos h]
theorem odd_chars (t : TTok) (last : Int) (rest : List TTok) (h : t.kind = 3) : oddM t last rest = (t.text == [] || !(t.name == []) || !t.attrs.isEmpty || t.self || last == 3) := by unfold oddM; rw [if_neg (by omega), if_neg (by omega), if_pos h]
theorem odd_other (t : TTok) (last : Int) (rest : List TTok) (h1 : t.kind ≠ 1) (h2 : t.kind ≠ 2) (h3 : t.kind ≠ 3) : oddM t last rest = true := by unfold oddM; rw [if_neg h1, if_neg h2, if_neg h3]

/-- What odd looks at behind its token. -/
def RestView (w : World) (rv : Value) (rest : List TTok) : Prop :=
  (∃ a cap, rv = .slice a rest.length cap) ∧ ∀ u r, rest = u :: r → ∃ g o cap, rv = .slice (some ⟨g, o, none⟩) rest.length cap ∧ g < w.heap.size ∧ w.cell? ⟨g, o, none⟩ = some (.int .i64 u.kind) ∧ w.cell? ⟨g, o + 1, none⟩ = some (.string (mk u.name))
theorem RestView.older {w w' : World} {rv : Value} {rest : List TTok} (h : RestView w rv rest) (hk : Older w w') : RestView w' rv rest :=
  ⟨h.1, fun u r hr => by
    obtain ⟨g, o, cap, h1, h2, h3, h4⟩ := h.2 u r hr
    exact ⟨g, o, cap, h1, Nat.lt_of_lt_of_le h2 hk.1, (hk.cell _ _ h2).trans h3, (hk.cell _ _ h2).trans h4⟩⟩

set_option maxHeartbeats 4000000 in
set_option maxRecDepth 100000 in
theorem odd_any (t : TTok) (av rv : Value) (last : Int) (rest : List TTok) (w : World) (hav : AttrView w av t.attrs) (hrv : RestView w rv rest) (hr : rest.length ≤ 1000000) (hal : t.attrs.length ≤ 1000000) :
    Calls Tryz.prog 50 #[.agg #[.int .i64 t.kind, .string (mk t.name), av, .bool t.self, .string (mk t.text)], .int .i64 last, rv] w fun e w' => e = .returned (.bool (oddM t last rest)) ∧ Below w.heap.size w w' := by
  obtain ⟨⟨aa, ca, hf⟩, -⟩ := hav
  subst hf
  obtain ⟨ra, rc, hf⟩ := hrv.1
  subst hf
  obtain ⟨w1, hw1⟩ : ∃ w1, w1 = w.alloc (.cells #[.int .i64 t.kind, .string (mk t.name), .slice aa t.attrs.length ca, .bool t.self, .string (mk t.text)] 42) := ⟨_, rfl⟩
  have hb1 : Below w.heap.size w w1 := by rw [hw1]; exact (Below.refl _ _).alloc (Nat.le_refl _) _
  have hbox : TokBox w1 w.heap.size t (.slice aa t.attrs.length ca) := by rw [hw1]; exact heap_alloc_new _ _
  have HRV := Lib.hid (hrv.older (.of_below hb1))
  have HB1 := Lib.hid hb1
  have HW1 := Lib.hid hw1
  have HBOX := Lib.hid hbox
  clear hrv hb1 hw1 hbox
  by_cases k1 : t.kind = 1
  · have HO := Lib.hid (odd_start t last rest k1)
    obtain ⟨t0, t1, t2, t3, t4, tz⟩ := HBOX.out.cells
    rw [k1] at t0
    rw [k1] at HW1
    rw [k1]
    clear k1
    go_enter Tryz.func50, Tryz.ntmps50
    go_upto_region 1 with fail
    rw [← HW1.out]
    go_upto_region 3 with fail
    go_cut [7] (fun v wx => v = .bool (closedBy t.name rest) ∧ Hid (Below w.heap.size w wx ∧ TokBox wx w.heap.size t (.slice aa t.attrs.length ca)))
    case first =>
      cases rest with
      | nil =>
        change Hid (RestView w1 (.slice ra 0 rc) []) at HRV
        go_wp2_with fail
        go_quiet (fail)
        go_wp2_with fail
        go_meet
        exact ⟨rfl, Lib.hid ⟨⟨HB1.out.os, HB1.out.tape, HB1.out.output, HB1.out.size, HB1.out.block⟩, HBOX.out⟩⟩
      | cons u r =>
        obtain ⟨g, o, c, hf, _, u0, u1⟩ := HRV.out.2 u r rfl
        obtain rfl : ra = some ⟨g, o, none⟩ := by simp at hf; exact hf.1
        have hz : (0 : Int) < ((u :: r).length : Int) := by simp only [List.length_cons]; omega
        clear hf
        by_cases hk : u.kind = 2
        · have b1 : (u.kind == 2) = true := by rw [hk]; rfl
          rw [hk] at u0
          by_cases hn : u.name = t.name
          · have s1 : ((mk u.name).toList == (mk t.name).toList) = true := by rw [hn]; exact beq_self_eq_true _
            have s2 : (mk u.name).toList = (mk t.name).toList := by rw [hn]
            have HC := Lib.hid (show closedBy t.name (u :: r) = true by show (u.kind == 2 && u.name == t.name) = true; rw [hk, hn]; simp)
            clear hn hk
            generalize ((u :: r).length : Int) = L at *
            go_wp2_with fail
            go_quiet (fail)
            go_wp2_with fail
            go_meet
            exact ⟨by rw [HC.out], Lib.hid ⟨⟨HB1.out.os, HB1.out.tape, HB1.out.output, HB1.out.size, HB1.out.block⟩, HBOX.out⟩⟩
          · have s1 : ((mk u.name).toList == (mk t.name).toList) = false := beq_eq_false_iff_ne.2 (by rw [toList_mk, toList_mk]; exact hn)
            have s2 : ¬ (mk u.name).toList = (mk t.name).toList := by rw [toList_mk, toList_mk]; exact hn
            have HC := Lib.hid (show closedBy t.name (u :: r) = false by show (u.kind == 2 && u.name == t.name) = false; rw [beq_eq_false_iff_ne.2 hn, Bool.and_false])
            clear hn hk
            generalize ((u :: r).length : Int) = L at *
            go_wp2_with fail
            go_quiet (fail)
            go_wp2_with fail
            go_meet
            exact ⟨by rw [HC.out], Lib.hid ⟨⟨HB1.out.os, HB1.out.tape, HB1.out.output, HB1.out.size, HB1.out.block⟩, HBOX.out⟩⟩
        · have b1 : (u.kind == 2) = false := beq_eq_false_iff_ne.2 hk
          have b2 : decide (u.kind = 2) = false := decide_eq_false hk
          have HC := Lib.hid (show closedBy t.name (u :: r) = false by show (u.kind == 2 && u.name == t.name) = false; rw [b1, Bool.false_and])
          generalize ((u :: r).length : Int) = L at *
          go_wp2_with fail
          go_quiet (fail)
          go_wp2_with fail
          go_meet
          exact ⟨by rw [HC.out], Lib.hid ⟨⟨HB1.out.os, HB1.out.tape, HB1.out.output, HB1.out.size, HB1.out.block⟩, HBOX.out⟩⟩
    case rest =>
      obtain ⟨rfl, hh⟩ := hcut
      obtain ⟨-, c1, c2, c3, c4, -⟩ := hh.out.2.cells
      have HB2 := Lib.hid hh.out.1
      have HR := Lib.hid (raw2_any t.name wc)
      clear t0 t1 t2 t3 t4 HRV hh
      generalize closedBy t.name rest = cb at *
      by_cases hx : t.text = []
      · have HO2 := Lib.hid (show oddM t last rest = (isRaw t.name && !cb) by rw [HO.out, hx]; rfl)
        rw [hx] at c4
        have c4' : wc.cell? ⟨w.heap.size, 4, none⟩ = some (.string ⟨#[]⟩) := c4
        clear hx c4
        go_wp2_with fail
        refine HR.out.mono ?_
        rintro e w3 ⟨rfl, hb3⟩
        have HB3 := Lib.hid (HB2.out.trans (hb3.mono HB2.out.size))
        clear hb3
        cases hraw : isRaw t.name with
        | true =>
          rw [hraw, Bool.true_and] at HO2
          go_wp2_with fail
          go_ret
          exact ⟨by rw [HO2.out]; rfl, HB3.out⟩
        | false =>
          rw [hraw, Bool.false_and] at HO2
          go_wp2_with fail
          go_ret
          exact ⟨by rw [HO2.out]; rfl, HB3.out⟩
      · have f1 := sBeqF hx
        have f2 := sEqF hx
        have f3 := sEmpF hx
        have HO2 := Lib.hid (show oddM t last rest = true by rw [HO.out, beq_eq_false_iff_ne.2 hx]; rfl)
        clear hx
        go_wp2_with fail
        go_ret
        exact ⟨by rw [HO2.out]; rfl, HB2.out⟩
  by_cases k2 : t.kind = 2
  · have HO := Lib.hid (odd_end t last rest k2)
    obtain ⟨t0, t1, t2, t3, t4, tz⟩ := HBOX.out.cells
    rw [k2] at t0
    rw [k2] at HW1
    rw [k2]
    clear k2 k1
    by_cases ha : t.attrs = []
    · have hl0 : t.attrs.length = 0 := by rw [ha]; rfl
      rw [hl0] at t2 HW1
      rw [hl0]
      have HO2 := Lib.hid (show oddM t last rest = (t.self || !(t.text == [])) by rw [HO.out, ha]; rfl)
      clear ha hl0
      cases hs : t.self with
      | true =>
        rw [hs] at t3 HO2 HW1
        clear hs
        go_enter Tryz.func50, Tryz.ntmps50
        go_upto_region 1 with fail
        rw [← HW1.out]
        go_wp2_with fail
        go_ret
        exact ⟨by rw [HO2.out]; rfl, HB1.out⟩
      | false =>
        rw [hs] at t3 HO2 HW1
        clear hs
        by_cases hx : t.text = []
        · have HO3 := Lib.hid (show oddM t last rest = false by rw [HO2.out, hx]; rfl)
          rw [hx] at t4 HW1
          rw [hx]
          have t4' : w1.cell? ⟨w.heap.size, 4, none⟩ = some (.string ⟨#[]⟩) := t4
          clear hx t4
          go_enter Tryz.func50, Tryz.ntmps50
          go_upto_region 1 with fail
          rw [← HW1.out]
          go_wp2_with fail
          go_ret
          exact ⟨by rw [HO3.out]; rfl, HB1.out⟩
        · have f1 := sBeqF hx
          have f2 := sEqF hx
          have f3 := sEmpF hx
          have HO3 := Lib.hid (show oddM t last rest = true by rw [HO2.out, beq_eq_false_iff_ne.2 hx]; rfl)
          clear hx
          go_enter Tryz.func50, Tryz.ntmps50
          go_upto_region 1 with fail
          rw [← HW1.out]
          go_wp2_with fail
          go_ret
          exact ⟨by rw [HO3.out]; rfl, HB1.out⟩
    · have hl0 : 0 < t.attrs.length := List.length_pos_iff.2 ha
      obtain ⟨L, hL⟩ : ∃ L, t.attrs.length = L := ⟨_, rfl⟩
      rw [hL] at t2 HW1 hl0
      rw [hL]
      have a1 : (0 : Int) < (L : Int) := by omega
      have a2 : 0 < L := hl0
      clear hL
      have HO2 := Lib.hid (show oddM t last rest = true by rw [HO.out, List.isEmpty_eq_false_iff.2 ha]; rfl)
      clear ha hl0
      go_enter Tryz.func50, Tryz.ntmps50
      go_upto_region 1 with fail
      rw [← HW1.out]
      go_wp2_with fail
      go_ret
      exact ⟨by rw [HO2.out]; rfl, HB1.out⟩
  by_cases k3 : t.kind = 3
  · have HO := Lib.hid (odd_chars t last rest k3)
    obtain ⟨t0, t1, t2, t3, t4, tz⟩ := HBOX.out.cells
    rw [k3] at t0
    rw [k3] at HW1
    rw [k3]
    clear k3 k2 k1
    by_cases hx : t.text = []
    · have HO2 := Lib.hid (show oddM t last rest = true by rw [HO.out, hx]; rfl)
      rw [hx] at t4 HW1
      rw [hx]
      have t4' : w1.cell? ⟨w.heap.size, 4, none⟩ = some (.string ⟨#[]⟩) := t4
      clear hx t4
      go_enter Tryz.func50, Tryz.ntmps50
      go_upto_region 1 with fail
      rw [← HW1.out]
      go_wp2_with fail
      go_ret
      exact ⟨by rw [HO2.out]; rfl, HB1.out⟩
    have f1 := sBeqF hx
    have f2 := sEqF hx
    have f3 := sEmpF hx
    have HO2 := Lib.hid (show oddM t last rest = (!(t.name == []) || !t.attrs.isEmpty || t.self || last == 3) by rw [HO.out, beq_eq_false_iff_ne.2 hx, Bool.false_or])
    clear hx HO
    by_cases hn : t.name = []
    · have HO3 := Lib.hid (show oddM t last rest = (!t.attrs.isEmpty || t.self || last == 3) by rw [HO2.out, hn]; rfl)
      rw [hn] at t1 HW1
      rw [hn]
      have t1' : w1.cell? ⟨w.heap.size, 1, none⟩ = some (.string ⟨#[]⟩) := t1
      clear hn t1 HO2
      by_cases ha : t.attrs = []
      · have hl0 : t.attrs.length = 0 := by rw [ha]; rfl
        rw [hl0] at t2 HW1
        rw [hl0]
        have HO4 := Lib.hid (show oddM t last rest = (t.self || last == 3) by rw [HO3.out, ha]; rfl)
        clear ha hl0 HO3
        cases hs : t.self with
        | true =>
          rw [hs] at t3 HO4 HW1
          clear hs
          go_enter Tryz.func50, Tryz.ntmps50
          go_upto_region 1 with fail
          rw [← HW1.out]
          go_wp2_with fail
          go_ret
          exact ⟨by rw [HO4.out]; rfl, HB1.out⟩
        | false =>
          rw [hs, Bool.false_or] at HO4
          rw [hs] at t3 HW1
          clear hs
          cases hl : (last == 3)
          all_goals
            rw [hl] at HO4
            go_enter Tryz.func50, Tryz.ntmps50
            go_upto_region 1 with fail
            rw [← HW1.out]
            go_wp2_with fail
            go_ret
            exact ⟨by rw [HO4.out]; rfl, HB1.out⟩
      · have hl0 : 0 < t.attrs.length := List.length_pos_iff.2 ha
        obtain ⟨L, hL⟩ : ∃ L, t.attrs.length = L := ⟨_, rfl⟩
        rw [hL] at t2 HW1 hl0
        rw [hL]
        have a1 : (0 : Int) < (L : Int) := by omega
        have a2 : 0 < L := hl0
        clear hL
        have HO4 := Lib.hid (show oddM t last rest = true by rw [HO3.out, List.isEmpty_eq_false_iff.2 ha]; rfl)
        clear ha hl0 HO3
        go_enter Tryz.func50, Tryz.ntmps50
        go_upto_region 1 with fail
        rw [← HW1.out]
        go_wp2_with fail
        go_ret
        exact ⟨by rw [HO4.out]; rfl, HB1.out⟩
    · have g1 := sBeqF hn
      have g2 := sEqF hn
      have g3 := sEmpF hn
      have HO3 := Lib.hid (show oddM t last rest = true by rw [HO2.out, beq_eq_false_iff_ne.2 hn]; rfl)
      clear hn HO2
      go_enter Tryz.func50, Tryz.ntmps50
      go_upto_region 1 with fail
      rw [← HW1.out]
      go_wp2_with fail
      go_ret
      exact ⟨by rw [HO3.out]; rfl, HB1.out⟩
  have HO := Lib.hid (odd_other t last rest k1 k2 k3)
  obtain ⟨t0, t1, t2, t3, t4, tz⟩ := HBOX.out.cells
  have b1 : (t.kind == 1) = false := beq_eq_false_iff_ne.2 k1
  have b2 : (t.kind == 2) = false := beq_eq_false_iff_ne.2 k2
  have b3 : (t.kind == 3) = false := beq_eq_false_iff_ne.2 k3
  go_enter Tryz.func50, Tryz.ntmps50
  go_upto_region 1 with fail
  rw [← HW1.out]
  go_wp2_with fail
  go_ret
  exact ⟨by rw [HO.out]; rfl, HB1.out⟩

end Go.Proofs.YtemomhanchiipaaGreatDoor
