/- Walks of the keep's helpers: Markup. -/
import Derived.Test.YtemomhanchiipaaGreatDoorInts
import Derived.Test.YtemomhanchiipaaGreatDoorPieces
namespace Go.Proofs.YtemomhanchiipaaGreatDoor
open Go Go.RowKit

set_option maxHeartbeats 1000000 in
set_option maxRecDepth 100000 in
theorem markup_text (v : Value) (l : List Int) (n : Nat) (hn : n ≤ 100) (w : World) (h : IntRow w v l) :
    Calls Tryz.prog 20 #[v, .int .i64 n] w fun e w' => e = .returned (.string (mk (drawn markPieces (l.take n)))) ∧ Below w.heap.size w w' := by
  obtain ⟨⟨a, cap, rfl⟩, hl, hc⟩ := h
  unfold maxLen at hl
  have HC := Lib.hid hc
  clear hc
  have hn1 : (n : Int) ≤ 100 := by omega
  go_enter Tryz.func20, Tryz.ntmps20
  go_wp2_with fail
  go_loopw [5, 6] (fun s i wr => ∃ (W : World) (k : Nat), W = wr ∧ k ≤ n ∧ k ≤ l.length ∧ i = .int .i64 k ∧ s = .string (mk (drawn markPieces (l.take k))) ∧ Hid (Below w.heap.size w W)) (fun _ i _ => n - (intOf i).toNat)
  case atStart => exact ⟨_, 0, rfl, by omega, by omega, rfl, rfl, Lib.hid (Below.refl _ _)⟩
  case round =>
    obtain ⟨W, k, rfl, hk, hkl, rfl, rfl, hb⟩ := hrel
    by_cases hlt : k < l.length ∧ k < n
    · obtain ⟨h1, h2⟩ := hlt
      obtain ⟨x, hx⟩ : ∃ x, l[k]? = some x := ⟨_, List.getElem?_eq_getElem h1⟩
      obtain ⟨_, b, off, c, hv, hbl, hcell⟩ := HC.out k x hx
      obtain rfl : a = some ⟨b, off, none⟩ := by simp at hv; exact hv.1
      have hcell2 : W.cell? ⟨b, off + k, none⟩ = some (.int .i64 x) := by rw [hb.out.cell (p := ⟨b, off + k, none⟩) hbl]; exact hcell
      have hcell3 : (W.alloc (.cells markPiecesV 9)).cell? ⟨b, off + k, none⟩ = some (.int .i64 x) := by rw [((Below.refl W.heap.size W).alloc (Nat.le_refl _) (.cells markPiecesV 9)).cell (p := ⟨b, off + k, none⟩) (Nat.lt_of_lt_of_le hbl hb.out.size)]; exact hcell2
      clear hcell2
      obtain ⟨p, hp, hpg, hp0, hp1⟩ := drawn_get markPieces (by decide) x
      have hsn := drawn_snoc markPieces (l.take k) x
      have hz := drawn_len markPieces 19 markPieces_len (l.take k)
      have htk : l.take (k + 1) = l.take k ++ [x] := by rw [List.take_add_one, hx]; rfl
      have hplen := markPieces_len p (List.mem_of_getElem? hp)
      rw [hpg, ← htk] at hsn
      have HSN := Lib.hid hsn
      have hz2 : (drawn markPieces (l.take k)).length ≤ 2000 := by rw [List.length_take] at hz; omega
      have hl25 : (markPieces.length : Int) = 25 := rfl
      rw [hl25] at hp hp0 hp1
      have hpc := picked_any x 25
      have HPC := Lib.hid hpc
      have htb := table_cell markPieces_v W 9 hp
      generalize drawn markPieces (l.take k) = D at *
      delta markPiecesV at hcell3
      have hDz : (mk D).size ≤ 2000 := by rw [mk_size]; exact hz2
      have hPz : (mk p).size ≤ 19 := by rw [mk_size]; exact hplen
      clear hv hcell hx hz htk hsn hl25 hpc hpg hp
      have k0 : (0 : Int) ≤ k := by omega
      have k1 : (k : Int) < l.length := by omega
      have k2 : (k : Int) < n := by omega
      go_wp2_with fail
      refine (HPC.out _ (by decide) (by decide)).mono ?_
      rintro e w2 ⟨rfl, hw⟩
      have HB2 := Lib.hid (show Below w.heap.size w w2 by rw [← hw]; exact hb.out.alloc hb.out.size _)
      rw [hw] at htb
      clear hw hcell3
      generalize x % 25 = r at *
      go_wp2_with fail
      go_roundw
      case rel => exact ⟨_, k + 1, rfl, by omega, by omega, by go_num, by rw [HSN.out, ← cat_mk], HB2⟩
      case measure => simp [intOf]; omega
    · have hx : ((k : Int) < l.length → ¬ (k : Int) < n) := by omega
      have hek : l.take k = l.take n := by
        by_cases h1 : k = l.length
        · rw [List.take_of_length_le (by omega), List.take_of_length_le (by omega)]
        · rw [show k = n by omega]
      rw [hek]
      clear hlt
      by_cases hks : (k : Int) < l.length
      · have hx2 := hx hks
        clear hx
        go_wp2_with fail
        go_ret
        exact ⟨rfl, hb.out⟩
      · clear hx
        go_wp2_with fail
        go_ret
        exact ⟨rfl, hb.out⟩

end Go.Proofs.YtemomhanchiipaaGreatDoor
