/- Walk of the row's function: EmitBack. -/
import Derived.Test.YtalijabcedajaaaGreatDoorGm
import Derived.Test.YtalijabcedajaaaGreatDoorJSame
import Derived.Test.YtalijabcedajaaaGreatDoorJETokB
namespace Go.Proofs.YtalijabcedajaaaGreatDoor
open Go Go.RowKit

def tEndP : TTok := ⟨2, [112], [], false, []⟩
theorem emit_endP : emitM [tEndP] = ([60, 47, 112, 62], 0) := by decide
theorem sz_endP : ∀ t ∈ [tEndP], TokSz 1000 t := fun t ht => by
  cases List.mem_singleton.1 ht
  exact ⟨by decide, by decide, by decide, fun a ha => by cases ha⟩

set_option maxHeartbeats 2000000 in
set_option maxRecDepth 100000 in
theorem emitBack_any (v1 : Value) (l : List Int) (w : World) (hg : Glob w) (h1 : IntRow w v1 l) :
    Calls Tryz.prog 3 #[v1] w fun e w' => e = .returned (.bool true) ∧ Below w.heap.size w w' := by
  have HG := Lib.hid hg
  have HTK := Lib.hid (tokens_any v1 l 14 (by omega) w h1)
  clear hg h1
  go_enter Tryz.func3, Tryz.ntmps3
  go_wp2_with fail
  refine HTK.out.mono ?_
  rintro e w1 ⟨tv, L, rfl, hown, hgood, hlen, hb1⟩
  have HB1 := Lib.hid hb1
  have HV1 := Lib.hid hown.view
  obtain ⟨va, vc, hvf⟩ := hown.view.form
  subst hvf
  have hck := good_ok hgood (by omega)
  have hbk := emit_back L hck
  have htl := good_texts_len L hgood.toks
  have HSZ := Lib.hid (fun t ht => good_sz (hgood.toks t ht))
  have HTX := Lib.hid (emitText_fn _ L w1 hown.view (by omega) HSZ.out)
  have hem : emitM L = if 600 < (tokTexts L).length then ([], 1) else (tokTexts L, 0) := by unfold emitM; rw [if_neg (by rw [hck]; simp)]
  rw [hem] at HTX
  have HCK := Lib.hid hck
  have HBK := Lib.hid hbk
  clear hb1 hown hgood hck hbk hem
  by_cases h6 : 600 < (tokTexts L).length
  · rw [if_pos h6] at HTX
    have h5 : (5 : Int) < L.length := by omega
    go_wp2_with fail
    refine HTX.out.mono ?_
    rintro e w2 ⟨rfl, hb2⟩
    have HB2 := Lib.hid (HB1.out.trans (hb2.mono HB1.out.size))
    have HC := Lib.hid (check_any _ L w2 (HV1.out.older (.of_below hb2)) (by omega) HSZ.out)
    rw [HCK.out] at HC
    clear hb2
    go_wp2_with fail
    refine HC.out.mono ?_
    rintro e w3 ⟨rfl, hb3⟩
    have HB3 := Lib.hid (HB2.out.trans (hb3.mono HB2.out.size))
    clear hb3
    go_wp2_with fail
    go_ret
    exact ⟨rfl, HB3.out⟩
  · rw [if_neg h6] at HTX
    have hX6 : (mk (tokTexts L)).size ≤ 600 := by rw [mk_size]; omega
    have HPA := Lib.hid (fun W h => parse_any (mk (tokTexts L)) W h hX6)
    rw [lst_mk, HBK.out] at HPA
    have HSM := Lib.hid (fun v2 W h1 h2 => sameTokens_any (.slice va L.length vc) v2 L (by omega) (fun t ht => Nat.le_trans (HSZ.out t ht).count (by omega)) W h1 h2)
    clear htl h6
    generalize tokTexts L = X at *
    go_wp2_with fail
    refine HTX.out.mono ?_
    rintro e w2 ⟨rfl, hb2⟩
    have HB2 := Lib.hid (HB1.out.trans (hb2.mono HB1.out.size))
    have HV2 := Lib.hid (HV1.out.older (.of_below hb2))
    clear hb2
    go_wp2_with fail
    refine (HPA.out w2 (HG.out.below HB2.out HG.out.size)).mono ?_
    rintro e w3 ⟨tv3, rfl, htr, hb3⟩
    have HB3 := Lib.hid (HB2.out.trans (hb3.mono HB2.out.size))
    have HV3 := Lib.hid (HV2.out.older (.of_below hb3))
    have HR3 := Lib.hid htr.view
    clear htr hb3
    obtain ⟨w4, hw4⟩ : ∃ w4, w4 = w3.alloc (.cells #[.int .i64 2, .string ⟨#[112]⟩, .slice none 0 0, .bool false, .string ⟨#[]⟩] 33) := ⟨_, rfl⟩
    have hb4 : Below w3.heap.size w3 w4 := by rw [hw4]; exact (Below.refl _ _).alloc (Nat.le_refl _) _
    have HB4 := Lib.hid (HB3.out.trans (hb4.mono HB3.out.size))
    have HV4 := Lib.hid (HV3.out.older (.of_below hb4))
    have HR4 := Lib.hid (HR3.out.older (.of_below hb4))
    have HT4 := Lib.hid (emitText_fn (.slice (some ⟨w3.heap.size, 0, none⟩) 1 1) [tEndP] w4 (by rw [hw4]; exact (tokOneB w3.heap.size w3 tEndP (.slice none 0 0) (attrNoneB _) (Nat.le_refl _)).view) (by simp) sz_endP)
    rw [emit_endP] at HT4
    have HW4 := Lib.hid hw4
    clear hb4 hw4
    go_wp2_with fail
    rw [← HW4.out]
    refine HT4.out.mono ?_
    rintro e w5 ⟨rfl, hb5⟩
    have HB5 := Lib.hid (HB4.out.trans (hb5.mono HB4.out.size))
    have HC5 := Lib.hid (HSM.out tv3 w5 (HV4.out.older (.of_below hb5)) (HR4.out.older (.of_below hb5)))
    clear hb5
    rw [show mk [60, 47, 112, 62] = ⟨#[60, 47, 112, 62]⟩ from rfl]
    go_wp2_with fail
    refine HC5.out.mono ?_
    rintro e w6 ⟨rfl, q, rfl⟩
    go_wp2_with fail
    go_ret
    exact ⟨rfl, ⟨HB5.out.os, HB5.out.tape, HB5.out.output, HB5.out.size, HB5.out.block⟩⟩

end Go.Proofs.YtalijabcedajaaaGreatDoor
