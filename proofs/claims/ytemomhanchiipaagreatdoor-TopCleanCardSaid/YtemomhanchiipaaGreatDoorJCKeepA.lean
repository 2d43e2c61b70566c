/- The row's function: TopClean. -/
import Derived.Test.YtemomhanchiipaaGreatDoorJHKeepC
import Derived.Test.YtemomhanchiipaaGreatDoorJCWalkA
namespace Go.Proofs.YtemomhanchiipaaGreatDoor
open Go Go.RowKit

theorem one_fault (c : Bytes) (h : c ≠ []) : faultL 0 false [tText c] = 0 := by
  have h2 : (c == []) = false := by simp [h]
  unfold tText
  rw [faultL, faultL, faultN]
  simp [h]
theorem one_calm (c : Bytes) : calmL [tText c] = true := by
  unfold tText
  rw [calmL, calmL, calmN, calmL]
  decide
theorem one_count (c : Bytes) : countL [tText c] = 1 := by
  unfold tText
  rw [countL, countL, countN, countL]
theorem one_tk (c : Bytes) : tkL [tText c] = [chars c] := by
  unfold tText
  rw [tkL, tkL, tkN]; rfl
theorem one_of (c : Bytes) : ofL [tText c] = escM false c := by
  unfold tText
  rw [ofL, ofL, ofN]; simp
theorem one_build (c : Bytes) (h : c ≠ []) (hl : c.length ≤ 1000) : BuildOk [chars c] ∧ buildM [chars c] = [tText c] := by
  obtain ⟨b1, b2⟩ := build_tk [tText c] (one_fault c h) (one_calm c)
  rw [one_tk] at b1 b2
  rw [one_count] at b2
  refine ⟨⟨by simp, fun t ht => ?_, fun t ht => ?_, by rw [b2]; omega, fun t ht => ?_, ?_⟩, b1⟩
  · cases List.mem_singleton.1 ht; exact .inr (.inr (.inl rfl))
  · cases List.mem_singleton.1 ht; intro h; cases h
  · cases List.mem_singleton.1 ht; show 0 ≤ 1000000; omega
  · have : textSum [chars c] = c.length := by simp [textSum, chars]
    omega
theorem one_text (c : Bytes) (h : c ≠ []) (hl : (escM false c).length ≤ 600) : textS [tText c] = (escM false c, 0) := by
  have hc : checkS [tText c] = 0 := by
    unfold checkS
    rw [one_fault c h, one_count]; simp
  unfold textS
  rw [hc, one_of]
  simp; omega
theorem clean_ar : cleanM (mk [97, 13]) = [97, 10] := by kernel_rfl

set_option maxHeartbeats 4000000 in
set_option maxRecDepth 100000 in
theorem topClean_empty (w : World) :
    Calls Tryz.prog 3 #[.string (mk [])] w fun e w' => e = .returned (.bool true) ∧ Below w.heap.size w w' := by
  have HC := Lib.hid (clean_any (mk []) w (by decide))
  rw [show cleanM (mk []) = [] from rfl] at HC
  have HC2 := Lib.hid (fun W => clean_any (mk [97, 13]) W (by decide))
  rw [clean_ar] at HC2
  have f1 : (mk []).toList.isEmpty = true := sEmpT rfl
  have f2 : ((mk []).toList == []) = true := sBeqT rfl
  have f3 : ((mk [97, 10]).toList == [97, 10]) = true := sBeqT rfl
  go_enter Tryz.func3, Tryz.ntmps3
  go_wp2_with fail
  refine HC.out.mono ?_
  rintro e w1 ⟨rfl, hb1⟩
  have HB1 := Lib.hid hb1
  clear hb1
  go_wp2_with fail
  refine (HC2.out w1).mono ?_
  rintro e w2 ⟨rfl, hb2⟩
  have HB2 := Lib.hid (HB1.out.trans (hb2.mono HB1.out.size))
  clear hb2
  go_wp2_with fail
  go_ret
  exact ⟨rfl, HB2.out⟩

set_option maxHeartbeats 4000000 in
set_option maxRecDepth 100000 in
theorem topClean_any (s : ByteArray) (w : World) (hg : Glob w) (htb : Tabs w) :
    Calls Tryz.prog 3 #[.string s] w fun e w' => e = .returned (.bool true) ∧ Below w.heap.size w w' := by
  by_cases hz : s.size = 0
  · have : s = mk [] := by
      apply ByteArray.ext
      apply Array.ext'
      simp [mk]
      exact Array.eq_empty_of_size_eq_zero hz
    subst this
    exact topClean_empty w
  have HG := Lib.hid hg
  have HT := Lib.hid htb
  have hS1 : (s.extract 0 (min (s.size : Int) 60).toNat).size ≤ 60 := by rw [ByteArray.size_extract]; omega
  have hS0 : 0 < (s.extract 0 (min (s.size : Int) 60).toNat).size := by rw [ByteArray.size_extract]; omega
  have HC := Lib.hid (clean_any (s.extract 0 (min (s.size : Int) 60).toNat) w (by omega))
  have hce := clean_esc (s.extract 0 (min (s.size : Int) 60).toNat)
  have hcn := clean_ne (s.extract 0 (min (s.size : Int) 60).toNat) hS0
  clear hg htb hz
  generalize cleanM (s.extract 0 (min (s.size : Int) 60).toNat) = C at *
  have hcl := (escM_len false C).1
  have HES := Lib.hid (fun W => escape_any (mk C) false (by rw [mk_size]; omega) W)
  rw [lst_mk] at HES
  have HPA := Lib.hid (fun W h => parse_any (mk (escM false C)) W h (by rw [mk_size]; omega))
  have hal := all_of [tText C] (one_fault C hcn)
  rw [one_of, one_tk] at hal
  rw [lst_mk, hal] at HPA
  obtain ⟨hbo, hbm⟩ := one_build C hcn (by omega)
  have HBU := Lib.hid (fun tv W h1 h2 => build_any tv [chars C] W h1 h2 hbo)
  rw [hbm] at HBU
  have HTX := Lib.hid (fun v W h => stext_any 12 v [tText C] W h (by rw [one_count]; omega) (Nat.le_trans (deep_countL _) (by rw [one_count]; omega)) (oneSz C (by omega)))
  rw [one_text C hcn (by omega)] at HTX
  have f1 := sBeqF hcn
  have f2 := sEqF hcn
  clear hce hcn hS1 hS0 hcl hal hbo hbm
  generalize escM false C = E at *
  go_enter Tryz.func3, Tryz.ntmps3
  go_wp2_with fail
  refine HC.out.mono ?_
  rintro e w1 ⟨rfl, hb1⟩
  have HB1 := Lib.hid hb1
  have HES1 := Lib.hid (HES.out w1)
  clear hb1
  go_wp2_with fail
  refine HES1.out.mono ?_
  rintro e w2 ⟨rfl, hb2⟩
  have HB2 := Lib.hid (HB1.out.trans (hb2.mono HB1.out.size))
  have HPA2 := Lib.hid (HPA.out w2 (HG.out.below HB2.out HG.out.size))
  clear hb2
  go_wp2_with fail
  refine HPA2.out.mono ?_
  rintro e w3 ⟨tv, rfl, htr, hb3⟩
  have HB3 := Lib.hid (HB2.out.trans (hb3.mono HB2.out.size))
  have HBU3 := Lib.hid (HBU.out tv w3 (HT.out.below HB3.out HT.out.size) htr.view)
  clear hb3 htr
  go_wp2_with fail
  refine HBU3.out.mono ?_
  rintro e w4 ⟨v2, rfl, hv2, hb4⟩
  have HB4 := Lib.hid (HB3.out.trans (hb4.mono HB3.out.size))
  have HTX4 := Lib.hid (HTX.out v2 w4 hv2.any)
  obtain ⟨d', hd', g, cap, av, pv, hvf, hc1, hc2, hg4, hat, hav, hpv⟩ := NodeIn.get hv2 0 (tText C) rfl
  obtain ⟨a1, a2, a3, a4⟩ := hat
  subst hvf
  have a3' : w4.cell? ⟨g, 2, none⟩ = some (.string (mk C)) := a3
  clear hd' hav hpv hv2 a1 a2 a3 a4
  have HA3 := Lib.hid a3'
  clear a3'
  have HB4' := Lib.hid hb4
  clear hb4
  go_wp2_with fail
  refine HTX4.out.mono ?_
  rintro e w5 ⟨rfl, hb5⟩
  have HB5 := Lib.hid (HB4.out.trans (hb5.mono HB4.out.size))
  have a3 := hb5.cell (p := ⟨g, 2, none⟩) hg4
  rw [HA3.out] at a3
  clear hb5
  go_wp2_with fail
  go_ret
  exact ⟨rfl, HB5.out⟩

end Go.Proofs.YtemomhanchiipaaGreatDoor
