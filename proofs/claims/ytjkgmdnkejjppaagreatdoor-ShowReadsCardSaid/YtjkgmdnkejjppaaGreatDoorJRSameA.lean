/- Walks of the reference's SameAttrs and SameTokens at equal lists. -/
import Derived.Test.YtjkgmdnkejjppaaGreatDoorGh
namespace Go.Proofs.YtjkgmdnkejjppaaGreatDoor
open Go Go.RowKit

set_option maxHeartbeats 1000000 in
set_option maxRecDepth 100000 in
theorem refAttrs_any (v1 v2 : Value) (L : List TAttr) (hL : L.length ≤ 1000000) (w : World) (h1 : AttrView w v1 L) (h2 : AttrView w v2 L) :
    Calls Tryz.prog 20 #[v1, v2] w fun e w' => e = .returned (.bool true) ∧ ∃ n, w' = w.drewN n := by
  obtain ⟨⟨aa, capa, rfl⟩, hva⟩ := h1
  obtain ⟨⟨ba, capb, rfl⟩, hvb⟩ := h2
  have HVA := Lib.hid hva
  have HVB := Lib.hid hvb
  clear hva hvb
  go_enter Tryz.func20, Tryz.ntmps20
  go_wp2_with fail
  go_loopw [13] (fun i wr => ∃ (W : World) (p : Nat), W = wr ∧ p ≤ L.length ∧ i = .int .i64 p ∧ Hid (∃ n, W = w.drewN n)) (fun i _ => L.length - (intOf i).toNat)
  case atStart => exact ⟨_, 0, rfl, by omega, rfl, Lib.hid ⟨0, rfl⟩⟩
  case round =>
    obtain ⟨W, p, rfl, hp, rfl, hW⟩ := hrel
    by_cases hpl : p < L.length
    · obtain ⟨x, hx⟩ : ∃ x, L[p]? = some x := ⟨_, List.getElem?_eq_getElem hpl⟩
      obtain ⟨ga, _, hva, _, _, x1, x2⟩ := HVA.out p x hx
      obtain ⟨gb, _, hvb, _, _, y1, y2⟩ := HVB.out p x hx
      obtain rfl : aa = some ⟨ga, 0, none⟩ := by simp at hva; exact hva.1
      obtain rfl : ba = some ⟨gb, 0, none⟩ := by simp at hvb; exact hvb.1
      have hcl : ∀ p, W.cell? p = w.cell? p := by obtain ⟨n, hn⟩ := hW.out; rw [hn]; exact fun _ => rfl
      rw [← hcl] at x1 x2 y1 y2
      clear hx hva hvb hcl
      have p0 : (0 : Int) ≤ p := by omega
      have p1 : (p : Int) < L.length := by omega
      go_wp2_with fail
      go_quiet (fail)
      have hW3 := Lib.hid (show ∃ n, W.drewN nq = w.drewN n by obtain ⟨n, hn⟩ := hW.out; exact ⟨n + nq, by rw [hn, World.drewN_drewN]⟩)
      go_wp2_with fail
      go_roundw
      case rel => exact ⟨_, p + 1, rfl, by omega, by go_num, hW3⟩
      case measure => simp [intOf]; omega
    · obtain rfl : p = L.length := by omega
      go_wp2_with fail
      go_ret
      exact ⟨rfl, hW.out⟩

end Go.Proofs.YtjkgmdnkejjppaaGreatDoor
