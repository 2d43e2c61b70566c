/- Walk of tree.Count. -/
import Derived.Test.YtjkgmdnkejjppaaGreatDoorGj
namespace Go.Proofs.YtjkgmdnkejjppaaGreatDoor
open Go Go.RowKit

set_option maxHeartbeats 2000000 in
set_option maxRecDepth 100000 in
theorem count_any : ∀ (d : Nat) (v : Value) (l : List TNode) (w : World), NodeView d w v l → countL l ≤ 1000000 → deepL l ≤ 1000000 →
    Calls Tryz.prog 35 #[v] w fun e w' => e = .returned (.tuple #[.int .i64 (countL l), .int .i64 (deepL l)]) ∧ Below w.heap.size w w' := by
  intro d
  induction d using Nat.strongRecOn with
  | _ d ih =>
  intro v l w hv hct hdp
  obtain ⟨a, cap, rfl⟩ := hv.form
  have hln := Nat.le_trans (len_countL l) hct
  have HIH := Lib.hid ih
  have HV := Lib.hid hv
  have HCT := Lib.hid hct
  have HDP := Lib.hid hdp
  clear ih hv hct hdp
  go_enter Tryz.func35, Tryz.ntmps35
  go_wp2_with fail
  go_loopw [2, 3, 10] (fun x y i wr => ∃ (W : World) (k : Nat), W = wr ∧ k ≤ l.length ∧ i = .int .i64 k ∧ x = .int .i64 (countL (l.take k)) ∧ y = .int .i64 (deepL (l.take k)) ∧ Hid (Below w.heap.size w W)) (fun _ _ i _ => l.length - (intOf i).toNat)
  case atStart => exact ⟨_, 0, rfl, by omega, rfl, by rw [List.take_zero, countL]; rfl, by rw [List.take_zero, deepL]; rfl, Lib.hid (Below.refl _ _)⟩
  case round =>
    obtain ⟨W, k, rfl, hk, rfl, rfl, rfl, hW⟩ := hrel
    by_cases hlt : k < l.length
    · obtain ⟨t, ht⟩ : ∃ t, l[k]? = some t := ⟨_, List.getElem?_eq_getElem hlt⟩
      obtain ⟨d', hd', g, c, av, pv, hf, hc1, hc2, hg, hat, hav, hpv⟩ := (HV.out.older (.of_below hW.out)).get k t ht
      obtain rfl : a = some ⟨g, 0, none⟩ := by simp at hf; exact hf.1
      obtain ⟨a1, a2, a3, a4⟩ := hat
      obtain ⟨pa, pc, hpf⟩ := hpv.form
      subst hpf
      obtain ⟨⟨aa, ac, haf⟩, -⟩ := id hav
      subst haf
      have h1 := countL_take l k t ht
      have h2 := countL_take_le l (k + 1)
      have h3 := deepL_take l k t ht
      have h4 := deepL_take_le l (k + 1)
      have hc0 := HCT.out
      have hd0 := HDP.out
      obtain ⟨w1, hw1⟩ : ∃ w1, w1 = W.alloc (.cells #[.string (mk t.name), .slice aa t.attrs.length ac, .string (mk t.text), .slice pa t.parts.length pc] 44) := ⟨_, rfl⟩
      have hb1 : Below W.heap.size W w1 := by rw [hw1]; exact (Below.refl _ _).alloc (Nat.le_refl _) _
      have hN1 : w1.heap[W.heap.size]? = some (.cells #[.string (mk t.name), .slice aa t.attrs.length ac, .string (mk t.text), .slice pa t.parts.length pc] 44 (0, 0)) := by rw [hw1]; exact heap_alloc_new _ _
      have m3 : w1.cell? ⟨W.heap.size, 3, none⟩ = some (.slice pa t.parts.length pc) := by rw [Lib.cell_of_heap hN1]; rfl
      have HCALL := Lib.hid (HIH.out d' (by omega) _ t.parts w1 (hpv.older (.of_below hb1)) (by omega) (by omega))
      have HB1 := Lib.hid (hW.out.trans (hb1.mono hW.out.size))
      have HW1 := Lib.hid hw1
      have hm : max (deepL (l.take k) : Int) ((deepL t.parts : Int) + 1) = (deepL (l.take (k + 1)) : Int) := by rw [h3]; omega
      have hs : (countL (l.take k) : Int) + ((countL t.parts : Int) + 1) = (countL (l.take (k + 1)) : Int) := by rw [h1]; omega
      have HM := Lib.hid hm
      have HS := Lib.hid hs
      rw [h1] at h2
      rw [h3] at h4
      have y1 : countL (l.take k) ≤ 1000000 := by omega
      have y2 : countL t.parts ≤ 1000000 := by omega
      have y3 : deepL (l.take k) ≤ 1000000 := by omega
      have y4 : deepL t.parts ≤ 1000000 := by omega
      have k0 : (0 : Int) ≤ k := by omega
      have k1 : (k : Int) < l.length := by omega
      clear hf hpv hav ht h1 h2 h3 h4 hc0 hd0 hb1 hN1 hw1 hm hs
      generalize countL (l.take k) = x at *
      generalize countL t.parts = x' at *
      generalize deepL (l.take k) = y at *
      generalize deepL t.parts = y' at *
      go_upto_region 4 with fail
      rw [← HW1.out]
      go_wp2_with fail
      refine HCALL.out.mono ?_
      rintro e w2 ⟨rfl, hb2⟩
      have HB2 := Lib.hid (HB1.out.trans (hb2.mono HB1.out.size))
      clear hb2 m3
      go_wp2_with fail
      go_roundw
      case rel => exact ⟨_, k + 1, rfl, by omega, by go_num, by rw [← HS.out], by rw [← HM.out], HB2⟩
      case measure => simp [intOf]; omega
    · obtain rfl : k = l.length := by omega
      rw [List.take_length]
      go_wp2_with fail
      exact bodyPost_ret (v := .tuple #[.int .i64 (countL l), .int .i64 (deepL l)]) (by simp [results, Tryz.results35, go_sem]) rfl ⟨rfl, hW.out⟩

end Go.Proofs.YtjkgmdnkejjppaaGreatDoor
