/- Walks of the keep's helpers: sameTokens at equal lists. -/
import Derived.Test.YtalijabcedajaaaGreatDoorGh
namespace Go.Proofs.YtalijabcedajaaaGreatDoor
open Go Go.RowKit

set_option maxHeartbeats 1000000 in
set_option maxRecDepth 100000 in
theorem sameTokens_any (v1 v2 : Value) (L : List TTok) (hL : L.length ≤ 1000000) (hA : ∀ t ∈ L, t.attrs.length ≤ 1000000) (w : World) (h1 : TokView w v1 L) (h2 : TokView w v2 L) :
    Calls Tryz.prog 11 #[v1, v2] w fun e w' => e = .returned (.bool true) ∧ ∃ n, w' = w.drewN n := by
  obtain ⟨a, cap, hf1⟩ := h1.form
  obtain ⟨b, cap2, hf2⟩ := h2.form
  subst hf1 hf2
  have H1 := Lib.hid h1.get
  have H2 := Lib.hid h2.get
  have HA := Lib.hid hA
  clear h1 h2 hA
  go_enter Tryz.func11, Tryz.ntmps11
  go_wp2_with fail
  go_loopw [5] (fun i wr => ∃ (W : World) (k : Nat), W = wr ∧ k ≤ L.length ∧ i = .int .i64 k ∧ Hid (∃ n, W = w.drewN n)) (fun i _ => L.length - (intOf i).toNat)
  case atStart => exact ⟨_, 0, rfl, by omega, rfl, Lib.hid ⟨0, rfl⟩⟩
  case round =>
    obtain ⟨W, k, rfl, hk, rfl, hW⟩ := hrel
    by_cases hlt : k < L.length
    · obtain ⟨t, ht⟩ : ∃ t, L[k]? = some t := ⟨_, List.getElem?_eq_getElem hlt⟩
      have hcl : ∀ p, W.cell? p = w.cell? p := by obtain ⟨n, hn⟩ := hW.out; rw [hn]; exact fun _ => rfl
      obtain ⟨g, c1, va, hv, _, _, _, ha, hva⟩ := H1.out k t ht
      obtain ⟨g', c2, vb, hv', _, _, _, hb, hvb⟩ := H2.out k t ht
      obtain rfl : a = some ⟨g, 0, none⟩ := by simp at hv; exact hv.1
      obtain rfl : b = some ⟨g', 0, none⟩ := by simp at hv'; exact hv'.1
      obtain ⟨⟨aa, capa, rfl⟩, hva⟩ := hva
      obtain ⟨⟨ba, capb, rfl⟩, hvb⟩ := hvb
      have HVA := Lib.hid hva
      have HVB := Lib.hid hvb
      obtain ⟨a0, a1, a2, a3, a4⟩ := ha
      obtain ⟨b0, b1, b2, b3, b4⟩ := hb
      have haz := HA.out t (List.mem_of_getElem? ht)
      rw [← hcl] at a0 a1 a2 a3 a4 b0 b1 b2 b3 b4
      clear hv hv' hcl hva hvb ht
      have k0 : (0 : Int) ≤ k := by omega
      have k1 : (k : Int) < L.length := by omega
      go_wp2_with fail
      go_quiet (fail)
      have hW0 := Lib.hid (show ∃ n, W.drewN nq = w.drewN n by obtain ⟨n, hn⟩ := hW.out; exact ⟨n + nq, by rw [hn, World.drewN_drewN]⟩)
      go_wp2_with fail
      go_loopw [6] (fun i wr => ∃ (W2 : World) (p : Nat), W2 = wr ∧ p ≤ t.attrs.length ∧ i = .int .i64 p ∧ Hid (∃ n, W2 = w.drewN n)) (fun i _ => t.attrs.length - (intOf i).toNat)
      case atStart => exact ⟨_, 0, rfl, by omega, rfl, hW0⟩
      case round =>
        obtain ⟨W2, p, rfl, hp, rfl, hW2⟩ := hrel
        have hcl : ∀ p, W2.cell? p = W.cell? p := by obtain ⟨n, hn⟩ := hW2.out; obtain ⟨m, hm⟩ := hW.out; rw [hn, hm]; exact fun _ => rfl
        rw [← hcl] at a2 b2
        by_cases hpl : p < t.attrs.length
        · obtain ⟨x, hx⟩ : ∃ x, t.attrs[p]? = some x := ⟨_, List.getElem?_eq_getElem hpl⟩
          obtain ⟨ga, _, hva, _, _, x1, x2⟩ := HVA.out p x hx
          obtain ⟨gb, _, hvb, _, _, y1, y2⟩ := HVB.out p x hx
          obtain rfl : aa = some ⟨ga, 0, none⟩ := by simp at hva; exact hva.1
          obtain rfl : ba = some ⟨gb, 0, none⟩ := by simp at hvb; exact hvb.1
          have hcl2 : ∀ p, W2.cell? p = w.cell? p := by obtain ⟨n, hn⟩ := hW2.out; rw [hn]; exact fun _ => rfl
          rw [← hcl2] at x1 x2 y1 y2
          clear hx hva hvb hcl hcl2 a0 a1 a3 a4 b0 b1 b3 b4
          have p0 : (0 : Int) ≤ p := by omega
          have p1 : (p : Int) < t.attrs.length := by omega
          go_wp2_with fail
          go_quiet (fail)
          have hW3 := Lib.hid (show ∃ n, W2.drewN nq = w.drewN n by obtain ⟨n, hn⟩ := hW2.out; exact ⟨n + nq, by rw [hn, World.drewN_drewN]⟩)
          go_wp2_with fail
          go_roundw
          case rel => exact ⟨_, p + 1, rfl, by omega, by go_num, hW3⟩
          case measure => simp [intOf]; omega
        · obtain rfl : p = t.attrs.length := by omega
          clear hpl hcl
          go_wp2_with fail
          go_roundw
          case rel => exact ⟨_, k + 1, rfl, by omega, by go_num, hW2⟩
          case measure => simp [intOf]; omega
    · obtain rfl : k = L.length := by omega
      go_wp2_with fail
      go_ret
      exact ⟨rfl, hW.out⟩
end Go.Proofs.YtalijabcedajaaaGreatDoor
