/- Walks of the reference: utfBytes, refAt, RefUnescape. -/
import Derived.Test.YtjkgmdnkejjppaaGreatDoorGz
namespace Go.Proofs.YtjkgmdnkejjppaaGreatDoor
open Go Go.RowKit

set_option maxRecDepth 100000 in
theorem low_any (n k : Int) (b : Nat) (w : World) (hn : 0 ≤ n) (hn1 : n ≤ 1114111) (hk : k = 1 ∨ k = 64 ∨ k = 4096) (hc : w.cell? ⟨b, 0, none⟩ = some (.int .i64 n)) :
    Calls Tryz.prog 112 #[.int .i64 k, .pointer (some ⟨b, 0, none⟩)] w fun e w' => e = .returned (.int .u8 (128 + n / k % 64)) ∧ w = w' := by
  have h1 : 0 ≤ n / k % 64 := by omega
  have h2 : n / k % 64 < 64 := by omega
  go_enter Tryz.func112, Tryz.ntmps112
  rcases hk with rfl | rfl | rfl
  · go_wp2
    go_ret
    exact ⟨by simp, rfl⟩
  · go_wp2
    go_ret
    exact ⟨rfl, rfl⟩
  · go_wp2
    go_ret
    exact ⟨rfl, rfl⟩

theorem u8_back (x : Int) (h0 : 0 ≤ x) (h1 : x < 256) : ((x.toNat.toUInt8).toNat : Int) = x := by
  rw [Nat.toUInt8_eq, UInt8.toNat_ofNat']
  omega
theorem u8_cells (W : World) (b : Nat) (xs : List Int) (l : Bytes) (h : l.map (fun c => (c.toNat : Int)) = xs) (hb : W.heap.size = b) : ∀ j, j < l.length → (W.alloc (.cells (xs.map (Value.int .u8)).toArray 5)).cell? ⟨b, j, none⟩ = some (.int .u8 (l.getD j 0).toNat) := by
  intro j hj
  subst hb
  rw [Lib.cell_of_heap (heap_alloc_new W _)]
  subst h
  simp [hj, List.getD]

set_option maxHeartbeats 8000000 in
set_option maxRecDepth 100000 in
theorem utfBytes_any (n : Nat) (w : World) (hn : isLetR n = true) (hn1 : n ≤ 1114111) :
    Calls Tryz.prog 90 #[.int .i64 n] w fun e w' => ∃ g, e = .returned (.slice (some ⟨g, 0, none⟩) (Lib.encodeRune n).length (Lib.encodeRune n).length) ∧
      (∀ j, j < (Lib.encodeRune n).length → w'.cell? ⟨g, j, none⟩ = some (.int .u8 ((Lib.encodeRune n).getD j 0).toNat)) ∧ Below w.heap.size w w' := by
  have hlt : n < 55296 ∨ 57343 < n := by unfold isLetR at hn; simp only [decide_eq_true_eq] at hn; exact hn.2
  have hcn : (w.alloc (.cells #[.int .i64 n] 3)).cell? ⟨w.heap.size, 0, none⟩ = some (.int .i64 n) := by rw [Lib.cell_of_heap (heap_alloc_new w _)]; rfl
  have HB := Lib.hid (fun o : Obj => (((Below.refl w.heap.size w).alloc (Nat.le_refl _) (.cells #[.int .i64 n] 3)).alloc (by simp) o))
  have HBd := Lib.hid (fun o : Obj => (show Below w.heap.size w ((w.alloc (.cells #[.int .i64 n] 3)).alloc o).drew from ⟨(HB.out o).os, (HB.out o).tape, (HB.out o).output, (HB.out o).size, (HB.out o).block⟩))
  clear hn
  go_enter Tryz.func90, Tryz.ntmps90
  by_cases h1 : (n : Int) < 128
  · have d1 : IntKind.u8.wrap (n : Int) = n := IntWalk.u8_in _ (by omega)
    have hm : (Lib.encodeRune (n : Int)).map (fun c => (c.toNat : Int)) = [(n : Int)] := by
      unfold Lib.encodeRune
      rw [Lib.encodeRuneZ_one (by omega) (by omega)]
      simp only [List.map_cons, List.map_nil]
      rw [u8_back _ (by omega) (by omega)]
    have hl : (Lib.encodeRune (n : Int)).length = 1 := by rw [← List.length_map (f := fun c : UInt8 => (c.toNat : Int)), hm]; rfl
    have HC := Lib.hid (fun W hb => u8_cells W (w.heap.size + 1) [(n : Int)] _ hm hb)
    clear hm
    go_wp2_with fail
    go_ret
    exact ⟨w.heap.size + 1, by rw [hl]; rfl, HC.out _ (by simp), (HB.out _)⟩
  · by_cases h2 : (n : Int) < 2048
    · have d1 : IntKind.i64.wrap ((n : Int) / 64) = (n : Int) / 64 := IntWalk.i64_in _ (by omega)
      have d2 : IntKind.i64.wrap (192 + (n : Int) / 64) = 192 + (n : Int) / 64 := IntWalk.i64_in _ (by omega)
      have d3 : IntKind.u8.wrap (192 + (n : Int) / 64) = 192 + (n : Int) / 64 := IntWalk.u8_in _ (by omega)
      have hm : (Lib.encodeRune (n : Int)).map (fun c => (c.toNat : Int)) = [192 + (n : Int) / 64, 128 + (n : Int) % 64] := by
        unfold Lib.encodeRune
        rw [Lib.encodeRuneZ_two (by omega) (by omega)]
        simp only [List.map_cons, List.map_nil]
        rw [u8_back _ (by omega) (by omega), u8_back _ (by omega) (by omega)]
      have hl : (Lib.encodeRune (n : Int)).length = 2 := by rw [← List.length_map (f := fun c : UInt8 => (c.toNat : Int)), hm]; rfl
      have HC := Lib.hid (fun W hb => u8_cells W (w.heap.size + 1) [192 + (n : Int) / 64, 128 + (n : Int) % 64] _ hm hb)
      clear hm
      go_wp2_with fail
      go_region_held3 (fun w' => w'.cell? ⟨w.heap.size, 0, none⟩ = some (.int .i64 n)) (first | assumption | go_keep) (first | (go_at_call 112; refine (low_any n 1 w.heap.size _ (by omega) (by omega) (by omega) (by assumption)).mono ?_; rintro e w' ⟨rfl, hw⟩; rw [← hw]; clear hw))
      go_wp2_with fail
      go_ret
      exact ⟨w.heap.size + 1, by rw [hl]; rfl, HC.out _ (by simp), (HBd.out _)⟩
    · by_cases h3 : (n : Int) < 65536
      · have d1 : IntKind.i64.wrap ((n : Int) / 4096) = (n : Int) / 4096 := IntWalk.i64_in _ (by omega)
        have d2 : IntKind.i64.wrap (224 + (n : Int) / 4096) = 224 + (n : Int) / 4096 := IntWalk.i64_in _ (by omega)
        have d3 : IntKind.u8.wrap (224 + (n : Int) / 4096) = 224 + (n : Int) / 4096 := IntWalk.u8_in _ (by omega)
        have hm : (Lib.encodeRune (n : Int)).map (fun c => (c.toNat : Int)) = [224 + (n : Int) / 4096, 128 + (n : Int) / 64 % 64, 128 + (n : Int) % 64] := by
          unfold Lib.encodeRune
          rw [Lib.encodeRuneZ_three (by omega)]
          simp only [List.map_cons, List.map_nil]
          rw [u8_back _ (by omega) (by omega), u8_back _ (by omega) (by omega), u8_back _ (by omega) (by omega)]
        have hl : (Lib.encodeRune (n : Int)).length = 3 := by rw [← List.length_map (f := fun c : UInt8 => (c.toNat : Int)), hm]; rfl
        have HC := Lib.hid (fun W hb => u8_cells W (w.heap.size + 1) [224 + (n : Int) / 4096, 128 + (n : Int) / 64 % 64, 128 + (n : Int) % 64] _ hm hb)
        clear hm
        go_wp2_with fail
        go_region_held3 (fun w' => w'.cell? ⟨w.heap.size, 0, none⟩ = some (.int .i64 n)) (first | assumption | go_keep) (first | (go_at_call 112; refine (low_any n 64 w.heap.size _ (by omega) (by omega) (by omega) (by assumption)).mono ?_; rintro e w' ⟨rfl, hw⟩; rw [← hw]; clear hw) | (go_at_call 112; refine (low_any n 1 w.heap.size _ (by omega) (by omega) (by omega) (by assumption)).mono ?_; rintro e w' ⟨rfl, hw⟩; rw [← hw]; clear hw))
        go_wp2_with fail
        go_ret
        exact ⟨w.heap.size + 1, by rw [hl]; rfl, HC.out _ (by simp), (HBd.out _)⟩
      · have d1 : IntKind.i64.wrap ((n : Int) / 262144) = (n : Int) / 262144 := IntWalk.i64_in _ (by omega)
        have d2 : IntKind.i64.wrap (240 + (n : Int) / 262144) = 240 + (n : Int) / 262144 := IntWalk.i64_in _ (by omega)
        have d3 : IntKind.u8.wrap (240 + (n : Int) / 262144) = 240 + (n : Int) / 262144 := IntWalk.u8_in _ (by omega)
        have hm : (Lib.encodeRune (n : Int)).map (fun c => (c.toNat : Int)) = [240 + (n : Int) / 262144, 128 + (n : Int) / 4096 % 64, 128 + (n : Int) / 64 % 64, 128 + (n : Int) % 64] := by
          unfold Lib.encodeRune
          rw [Lib.encodeRuneZ_four (by omega) (by omega)]
          simp only [List.map_cons, List.map_nil]
          rw [u8_back _ (by omega) (by omega), u8_back _ (by omega) (by omega), u8_back _ (by omega) (by omega), u8_back _ (by omega) (by omega)]
        have hl : (Lib.encodeRune (n : Int)).length = 4 := by rw [← List.length_map (f := fun c : UInt8 => (c.toNat : Int)), hm]; rfl
        have HC := Lib.hid (fun W hb => u8_cells W (w.heap.size + 1) [240 + (n : Int) / 262144, 128 + (n : Int) / 4096 % 64, 128 + (n : Int) / 64 % 64, 128 + (n : Int) % 64] _ hm hb)
        clear hm
        go_wp2_with fail
        go_region_held3 (fun w' => w'.cell? ⟨w.heap.size, 0, none⟩ = some (.int .i64 n)) (first | assumption | go_keep) (first | (go_at_call 112; refine (low_any n 4096 w.heap.size _ (by omega) (by omega) (by omega) (by assumption)).mono ?_; rintro e w' ⟨rfl, hw⟩; rw [← hw]; clear hw) | (go_at_call 112; refine (low_any n 64 w.heap.size _ (by omega) (by omega) (by omega) (by assumption)).mono ?_; rintro e w' ⟨rfl, hw⟩; rw [← hw]; clear hw) | (go_at_call 112; refine (low_any n 1 w.heap.size _ (by omega) (by omega) (by omega) (by assumption)).mono ?_; rintro e w' ⟨rfl, hw⟩; rw [← hw]; clear hw))
        go_wp2_with fail
        go_ret
        exact ⟨w.heap.size + 1, by rw [hl]; rfl, HC.out _ (by simp), (HBd.out _)⟩

end Go.Proofs.YtjkgmdnkejjppaaGreatDoor
