/- Walks of the rows' functions: TokPrefix. -/
import Derived.Test.YtniiaaghimmiaaaDoorKeepB
import Derived.Test.YtniiaaghimmiaaaDoorMark
import Derived.Test.YtniiaaghimmiaaaDoorSame
import Derived.Test.YtniiaaghimmiaaaDoorLawX
namespace Go.Proofs.YtniiaaghimmiaaaDoor
open Go Go.RowKit

theorem TokView.take {w : World} {a : Option Addr} {cap : Nat} {l : List TTok} (h : TokView w (.slice a l.length cap) l) {n : Nat} (hn : n ≤ l.length) : TokView w (.slice a n cap) (l.take n) := by
  obtain ⟨ps, rfl, hf, h⟩ := h
  have hn' : n ≤ ps.length := by simpa using hn
  refine ⟨ps.take n, by rw [List.map_take], ⟨a, cap, by rw [List.length_take, List.length_map, Nat.min_eq_left hn']⟩, fun i p hi => ?_⟩
  have hlt : i < n := by have := (List.getElem?_eq_some_iff.1 hi).1; rw [List.length_take] at this; omega
  rw [List.getElem?_take_of_lt hlt] at hi
  obtain ⟨g, c, hv, hc, hm, hb, h1, h2⟩ := h i p hi
  obtain ⟨rfl, rfl⟩ : a = some ⟨g, 0, none⟩ ∧ cap = c := by simpa using hv
  rw [List.length_take, List.length_map, Nat.min_eq_left hn']
  rw [List.length_map] at hc
  exact ⟨g, cap, rfl, by omega, hm, hb, h1, h2⟩

theorem TokView.cap_le {w : World} {a : Option Addr} {cap : Nat} {l : List TTok} (h : TokView w (.slice a l.length cap) l) {n : Nat} (hn : n ≤ l.length) : n ≤ cap := by
  rcases Nat.eq_zero_or_pos n with h0 | h0
  · omega
  · obtain ⟨g, c, va, hv, hc, _⟩ := h.get 0 _ (List.getElem?_eq_getElem (by omega))
    obtain ⟨_, rfl⟩ : a = some ⟨g, 0, none⟩ ∧ cap = c := by simpa using hv
    omega

set_option maxHeartbeats 2000000 in
set_option maxRecDepth 100000 in
theorem tokPrefix_any (v1 : Value) (l : List Int) (c : Int) (w : World) (hg : Glob w) (h1 : IntRow w v1 l) :
    Calls Tryd.prog 7 #[v1, .int .i64 c] w fun e w' => e = .returned (.bool true) ∧ Below w.heap.size w w' := by
  have HG := Lib.hid hg
  have hmk := markup_text v1 l 25 (by omega) w h1
  have hEl := drawn_len markPieces 19 markPieces_len (l.take 25)
  rw [List.length_take] at hEl
  have HMK := Lib.hid hmk
  clear hmk hg h1
  generalize drawn markPieces (l.take 25) = E at *
  have hEz : (mk E).size ≤ 475 := by rw [mk_size]; omega
  have hlE : lst (mk E) = E := lst_mk E
  have hpk := picked_any c ((mk E).size + 1)
  have HPK := Lib.hid hpk
  have hc0 := Int.emod_nonneg c (show (((mk E).size : Int) + 1) ≠ 0 by omega)
  have hc1 := Int.emod_lt_of_pos c (show (0 : Int) < ((mk E).size : Int) + 1 by omega)
  clear hpk hEl
  have HLE := Lib.hid hlE
  clear hlE
  generalize c % (((mk E).size : Int) + 1) = k at *
  generalize mk E = s at *
  have hp1 := fun W h => parsed_any (s.extract 0 k.toNat) W h (by rw [ByteArray.size_extract]; omega)
  have hp2 := fun W h => parsed_any s W h (by omega)
  have hlaw := tokPrefix_law E k.toNat
  rw [show lst (s.extract 0 k.toNat) = E.take k.toNat by rw [lst_extract, HLE.out]; simp] at hp1
  rw [HLE.out] at hp2
  have hX := fun t ht => (allM_le (E.take k.toNat) t ht).count
  have hXl := (allM_ok (E.take k.toNat)).len
  have hYl := (allM_ok E).len
  have hEl' : E.length = s.size := by rw [← HLE.out, lst_length]
  have hEt : (E.take k.toNat).length ≤ E.length := by rw [List.length_take]; omega
  have hXz : (allM (E.take k.toNat)).length ≤ 1000 := by omega
  have hYz : (allM E).length ≤ 1000 := by omega
  have hX2 : ∀ t ∈ allM (E.take k.toNat), t.attrs.length ≤ 1000000 := fun t ht => Nat.le_trans (hX t ht) (by omega)
  clear hX hXl hYl hEl' hEt
  generalize allM (E.take k.toNat) = X at *
  generalize allM E = Y at *
  have HP1 := Lib.hid hp1
  have HP2 := Lib.hid hp2
  have HX2 := Lib.hid hX2
  obtain ⟨z, hz⟩ := hlaw
  obtain ⟨n, hn⟩ : ∃ n, n = X.length - 1 := ⟨_, rfl⟩
  have hnX : n ≤ X.length := by omega
  have hnY : n ≤ Y.length := by rw [hz, List.length_append, List.length_dropLast]; omega
  have hYt : Y.take n = X.take n := by
    rw [hz, List.take_append_of_le_length (by rw [List.length_dropLast]; omega), List.dropLast_eq_take, ← hn, List.take_take, Nat.min_self]
  have hmx : max 0 ((X.length : Int) - 1) = n := by omega
  have HYT := Lib.hid hYt
  have HMX := Lib.hid hmx
  clear hp1 hp2 hX2 hz z hYt hmx hn
  go_enter Tryd.func7, Tryd.ntmps7
  go_wp2_with fail
  refine HMK.out.mono ?_
  rintro e w1 ⟨rfl, hb1⟩
  have HB1 := Lib.hid hb1
  clear hb1
  go_wp2_with fail
  refine (HPK.out w1 (by omega) (by omega)).mono ?_
  rintro e w1' ⟨rfl, hw⟩
  have HB1' := Lib.hid (show Below w.heap.size w w1' by rw [← hw]; exact HB1.out)
  clear hw
  go_wp2_with fail
  refine (HP1.out w1' (HG.out.below HB1'.out HG.out.size)).mono ?_
  rintro e w2 ⟨tv1, rfl, htr1, hb2⟩
  have HB2 := Lib.hid (HB1'.out.trans (hb2.mono HB1'.out.size))
  have HTR1 := Lib.hid htr1
  clear hb2 htr1
  go_wp2_with fail
  refine (HP2.out w2 (HG.out.below HB2.out HG.out.size)).mono ?_
  rintro e w3 ⟨tv2, rfl, htr2, hb3⟩
  have HB3 := Lib.hid (HB2.out.trans (hb3.mono HB2.out.size))
  obtain ⟨a1, c1, hf1⟩ := HTR1.out.view.form
  obtain ⟨a2, c2, hf2⟩ := htr2.view.form
  have hv1 := HTR1.out.view.older (.of_below hb3)
  have hv2 := htr2.view
  rw [hf1] at hv1
  rw [hf2] at hv2
  have hc1' := hv1.cap_le hnX
  have hc2' := hv2.cap_le hnY
  have HV1 := Lib.hid (hv1.take hnX)
  have HV2 := Lib.hid (hv2.take hnY)
  rw [HYT.out] at HV2
  clear hb3 htr2 hv1 hv2
  subst hf1 hf2
  go_wp2_with fail
  rw [HMX.out]
  have HSM := Lib.hid (fun W h1 h2 => sameTokens_any (.slice a1 n c1) (.slice a2 n c2) (X.take n) (by rw [List.length_take]; omega) (fun t ht => HX2.out t (List.mem_of_mem_take ht)) W h1 h2)
  have n0 : (0 : Int) ≤ n := by omega
  have n1 : (n : Int) ≤ c1 := by omega
  have n2 : (n : Int) ≤ c2 := by omega
  have HSD := Lib.hid (fun m => HSM.out (w3.drewN m) (HV1.out.older ⟨Nat.le_refl _, fun _ _ => rfl⟩) (HV2.out.older ⟨Nat.le_refl _, fun _ _ => rfl⟩))
  go_quiet ((go_at_call 15; exact qd (HSD.out _)))
  go_wp2_with fail
  go_ret
  exact ⟨rfl, ⟨HB3.out.os, HB3.out.tape, HB3.out.output, HB3.out.size, HB3.out.block⟩⟩
end Go.Proofs.YtniiaaghimmiaaaDoor
