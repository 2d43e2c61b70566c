/- Walks of the reference's SameAttrs and SameTokens at equal lists. -/
import Derived.Test.YtbgonaacheemcaaDoorView
namespace Go.Proofs.YtbgonaacheemcaaDoor
open Go Go.RowKit

set_option maxHeartbeats 1000000 in
set_option maxRecDepth 100000 in
theorem refAttrs_any (v1 v2 : Value) (L : List TAttr) (hL : L.length ≤ 1000000) (w : World) (h1 : AttrView w v1 L) (h2 : AttrView w v2 L) :
    Calls Tryd.prog 9 #[v1, v2] w fun e w' => e = .returned (.bool true) ∧ ∃ n, w' = w.drewN n := by
  obtain ⟨⟨aa, capa, rfl⟩, hva⟩ := h1
  obtain ⟨⟨ba, capb, rfl⟩, hvb⟩ := h2
  have HVA := Lib.hid hva
  have HVB := Lib.hid hvb
  clear hva hvb
  go_enter Tryd.func9, Tryd.ntmps9
  go_wp2_with fail
  go_loopw [13] (fun i wr => ∃ (W : World) (p : Nat), W = wr ∧ p ≤ L.length ∧ i = .int .i64 p ∧ Hid (∃ n, W = w.drewN n)) (fun i _ => L.length - (intOf i).toNat)
  case atStart => exact ⟨_, 0, rfl, by omega, rfl, Lib.hid ⟨0, rfl⟩⟩
  case round =>
    obtain ⟨W, p, rfl, hp, rfl, hW⟩ := hrel
    by_cases hpl : p < L.length
    · obtain ⟨x, hx⟩ : ∃ x, L[p]? = some x := ⟨_, List.getElem?_eq_getElem hpl⟩
      obtain ⟨ga, _, hva, _, _, x1, x2⟩ := HVA.out p x hx
      obtain ⟨gb, _, hvb, _, _, y1, y2⟩ := HVB.out p x hx
      obtain rfl : aa = some ⟨ga, 0, none⟩ := by simp at hva; exact hva.1
      obtain rfl : ba = some ⟨gb, 0, none⟩ := by simp at hvb; exact hvb.1
      have hcl : ∀ p, W.cell? p = w.cell? p := by obtain ⟨n, hn⟩ := hW.out; rw [hn]; exact fun _ => rfl
      rw [← hcl] at x1 x2 y1 y2
      clear hx hva hvb hcl
      have p0 : (0 : Int) ≤ p := by omega
      have p1 : (p : Int) < L.length := by omega
      go_wp2_with fail
      go_quiet (fail)
      have hW3 := Lib.hid (show ∃ n, W.drewN nq = w.drewN n by obtain ⟨n, hn⟩ := hW.out; exact ⟨n + nq, by rw [hn, World.drewN_drewN]⟩)
      go_wp2_with fail
      go_roundw
      case rel => exact ⟨_, p + 1, rfl, by omega, by go_num, hW3⟩
      case measure => simp [intOf]; omega
    · obtain rfl : p = L.length := by omega
      go_wp2_with fail
      go_ret
      exact ⟨rfl, hW.out⟩

set_option maxHeartbeats 4000000 in
set_option maxRecDepth 100000 in
theorem refTokens_any (v1 v2 : Value) (L : List TTok) (hL : L.length ≤ 1000000) (hA : ∀ t ∈ L, t.attrs.length ≤ 1000000) (w : World) (h1 : TokView w v1 L) (h2 : TokView w v2 L) :
    Calls Tryd.prog 6 #[v1, v2] w fun e w' => e = .returned (.bool true) ∧ ∃ n, w' = w.drewN n := by
  obtain ⟨a, cap, hf1⟩ := h1.form
  obtain ⟨b, cap2, hf2⟩ := h2.form
  subst hf1 hf2
  have H1 := Lib.hid h1.get
  have H2 := Lib.hid h2.get
  have HA := Lib.hid hA
  clear h1 h2 hA
  go_enter Tryd.func6, Tryd.ntmps6
  go_wp2_with fail
  go_loopw [13] (fun i wr => ∃ (W : World) (k : Nat), W = wr ∧ k ≤ L.length ∧ i = .int .i64 k ∧ Hid (∃ n, W = w.drewN n)) (fun i _ => L.length - (intOf i).toNat)
  case atStart => exact ⟨_, 0, rfl, by omega, rfl, Lib.hid ⟨0, rfl⟩⟩
  case round =>
    obtain ⟨W, k, rfl, hk, rfl, hW⟩ := hrel
    by_cases hlt : k < L.length
    · obtain ⟨t, ht⟩ : ∃ t, L[k]? = some t := ⟨_, List.getElem?_eq_getElem hlt⟩
      have hcl : ∀ p, W.cell? p = w.cell? p := by obtain ⟨n, hn⟩ := hW.out; rw [hn]; exact fun _ => rfl
      obtain ⟨g, c1, va, hv, _, _, _, ha, hva⟩ := H1.out k t ht
      obtain ⟨g', c2, vb, hv', _, _, _, hb, hvb⟩ := H2.out k t ht
      obtain rfl : a = some ⟨g, 0, none⟩ := by simp at hv; exact hv.1
      obtain rfl : b = some ⟨g', 0, none⟩ := by simp at hv'; exact hv'.1
      have hva1 : ∀ n, AttrView (w.drewN n) va t.attrs := fun n => hva.older ⟨Nat.le_refl _, fun _ _ => rfl⟩
      have hvb1 : ∀ n, AttrView (w.drewN n) vb t.attrs := fun n => hvb.older ⟨Nat.le_refl _, fun _ _ => rfl⟩
      have haz := HA.out t (List.mem_of_getElem? ht)
      have HSA := Lib.hid (fun n => refAttrs_any va vb t.attrs haz (w.drewN n) (hva1 n) (hvb1 n))
      obtain ⟨a0, a1, a2, a3, a4⟩ := ha
      obtain ⟨b0, b1, b2, b3, b4⟩ := hb
      rw [← hcl] at a0 a1 a2 a3 a4 b0 b1 b2 b3 b4
      clear hv hv' hcl hva hvb ht hva1 hvb1
      have k0 : (0 : Int) ≤ k := by omega
      have k1 : (k : Int) < L.length := by omega
      go_wp2_with fail
      go_still_tail 61, (by kernel_rfl)
      change wpList _ _ _ _ _ W.drew
      have hWd : ∃ n, W.drew = w.drewN n := by
        obtain ⟨n, hn⟩ := hW.out
        exact ⟨n + 1, by rw [hn, ← World.drewN_drewN]; rfl⟩
      obtain ⟨n1, hn1⟩ := hWd
      have HSB := Lib.hid (HSA.out n1)
      rw [← hn1] at HSB
      have HN1 := Lib.hid hn1
      clear hn1 HSA a0 a1 a2 a3 a4 b0 b1 b2 b3 b4
      go_wp2_with fail
      refine HSB.out.mono ?_
      rintro e w2 ⟨rfl, n2, hw2⟩
      have hW3 := Lib.hid (show ∃ n, w2 = w.drewN n from ⟨n1 + n2, by rw [hw2, HN1.out, World.drewN_drewN]⟩)
      clear hw2
      go_wp2_with fail
      go_roundw
      case rel => exact ⟨_, k + 1, rfl, by omega, by go_num, hW3⟩
      case measure => simp [intOf]; omega
    · obtain rfl : k = L.length := by omega
      go_wp2_with fail
      go_ret
      exact ⟨rfl, hW.out⟩
end Go.Proofs.YtbgonaacheemcaaDoor
