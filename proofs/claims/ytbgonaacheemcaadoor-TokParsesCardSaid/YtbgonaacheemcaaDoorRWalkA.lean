/- Walks of the reference's small functions: spaces, letters, digits, lowered, places. -/
import Derived.Test.YtbgonaacheemcaaDoorTokD
import Derived.Test.YtbgonaacheemcaaDoorRLawA
namespace Go.Proofs.YtbgonaacheemcaaDoor
open Go Go.RowKit

def spB (c : Int) : Bool := c == 32 || c == 9 || c == 10 || c == 12
theorem beq_u8 (x y : UInt8) : (x == y) = ((x.toNat : Int) == (y.toNat : Int)) := by
  rw [Bool.eq_iff_iff]; simp only [beq_iff_eq, ← UInt8.toNat_inj]; omega
theorem spB_of (b : UInt8) : spB b.toNat = spaces.contains b := by
  unfold spB spaces
  simp only [List.contains_cons, List.contains_nil, Bool.or_false, beq_u8]
  rw [Bool.or_assoc, Bool.or_assoc]; rfl
theorem isSpace_int (c : Int) (w : World) :
    Calls Tryd.prog 20 #[.int .u8 c] w fun e w' => e = .returned (.bool (spB c)) ∧ w = w' := by
  go_enter Tryd.func20, Tryd.ntmps20
  go_wp2
  all_goals go_ret
  all_goals refine ⟨?_, rfl⟩
  all_goals (simp [spB, *]; try omega)
theorem isSpace_any (b : UInt8) (w : World) : Calls Tryd.prog 20 #[.int .u8 b.toNat] w fun e w' => e = .returned (.bool (spaces.contains b)) ∧ w = w' := by
  rw [← spB_of]
  exact isSpace_int b.toNat w
theorem isAlpha_int (c : Int) (w : World) (h0 : 0 ≤ c) (h1 : c < 256) :
    Calls Tryd.prog 17 #[.int .u8 c] w fun e w' => e = .returned (.bool (letB c)) ∧ w = w' := by
  go_enter Tryd.func17, Tryd.ntmps17
  go_wp2
  all_goals go_ret
  all_goals refine ⟨?_, rfl⟩
  all_goals (simp [letB, *]; try omega)
def digI (c : Int) : Int := if 48 ≤ c ∧ c ≤ 57 then c - 48 else if 97 ≤ c ∧ c ≤ 102 then c - 87 else if 65 ≤ c ∧ c ≤ 70 then c - 55 else 99
theorem digI_of (b : UInt8) : digI b.toNat = (digR b : Nat) := by
  unfold digI digR
  simp only [UInt8.le_iff_toNat_le]
  have e1 : (48 : UInt8).toNat = 48 := rfl
  have e2 : (57 : UInt8).toNat = 57 := rfl
  have e3 : (97 : UInt8).toNat = 97 := rfl
  have e4 : (102 : UInt8).toNat = 102 := rfl
  have e5 : (65 : UInt8).toNat = 65 := rfl
  have e6 : (70 : UInt8).toNat = 70 := rfl
  rw [e1, e2, e3, e4, e5, e6]
  repeat' split
  all_goals omega
theorem digitOf_int (c : Int) (w : World) (h0 : 0 ≤ c) (h1 : c < 256) :
    Calls Tryd.prog 49 #[.int .u8 c] w fun e w' => e = .returned (.int .i64 (digI c)) ∧ w = w' := by
  go_enter Tryd.func49, Tryd.ntmps49
  go_wp2
  all_goals go_ret
  all_goals refine ⟨?_, rfl⟩
  all_goals (simp [digI, *]; try omega)
set_option maxRecDepth 100000 in
theorem isLetter_int (c : Int) (w : World) (h0 : 0 ≤ c) :
    Calls Tryd.prog 50 #[.int .i64 c] w fun e w' => e = .returned (.bool (decide (c ≤ 1114111 ∧ (c < 55296 ∨ 57343 < c)))) ∧ w = w' := by
  go_enter Tryd.func50, Tryd.ntmps50
  go_wp2
  all_goals go_ret
  all_goals refine ⟨?_, rfl⟩
  all_goals (simp [*]; try omega)
theorem isLetter_any (n : Nat) (w : World) :
    Calls Tryd.prog 50 #[.int .i64 n] w fun e w' => e = .returned (.bool (isLetR n)) ∧ w = w' := by
  refine (isLetter_int n w (by omega)).mono ?_
  rintro e w' ⟨rfl, h⟩
  refine ⟨?_, h⟩
  have : decide ((n : Int) ≤ 1114111 ∧ ((n : Int) < 55296 ∨ 57343 < (n : Int))) = isLetR n := by
    unfold isLetR
    rw [Bool.eq_iff_iff]; simp only [decide_eq_true_eq]; omega
  rw [this]
theorem digitOf_any (b : UInt8) (w : World) : Calls Tryd.prog 49 #[.int .u8 b.toNat] w fun e w' => e = .returned (.int .i64 (digR b : Nat)) ∧ w = w' := by
  rw [← digI_of]
  exact digitOf_int b.toNat w (by omega) (by have := b.toNat_lt; omega)

/-- 'string([]byte{c})'. -/
theorem conv_one (w : World) (x : UInt8) : (convert 47 9 (.slice (some ⟨w.heap.size, 0, none⟩) 1 1)).run Tryd.prog (w.alloc (.cells #[.int .u8 x.toNat] 5)) = .ok (.string (mk [x])) (w.alloc (.cells #[.int .u8 x.toNat] 5)) := by
  refine conv_bytes (P := Tryd.prog) _ 47 9 5 ⟨w.heap.size, 0, none⟩ 1 1 [x] Tryd.underlying47 Tryd.underlying5 Tryd.underlying9 rfl ?_
  intro j hj
  obtain rfl : j = 0 := by omega
  rw [show (⟨w.heap.size, 0, none⟩ : Addr).add 0 = ⟨w.heap.size, 0, none⟩ from rfl, Lib.cell_of_heap (heap_alloc_new w _)]
  rfl
theorem small_take (l : Bytes) (k : Nat) (h : k < l.length) : small (l.take (k + 1)) = small (l.take k) ++ [low l[k]] := by
  unfold small
  rw [List.take_add_one, List.getElem?_eq_getElem h, List.map_append]; rfl

set_option maxHeartbeats 1000000 in
set_option maxRecDepth 100000 in
theorem lowered_any (s : ByteArray) (w : World) (hs : s.size ≤ 1000000000) :
    Calls Tryd.prog 19 #[.string s] w fun e w' => e = .returned (.string (mk (small (lst s)))) ∧ Below w.heap.size w w' := by
  go_enter Tryd.func19, Tryd.ntmps19
  go_wp2
  go_loopw [3, 4] (fun o i wr => ∃ k : Nat, k ≤ s.size ∧ i = .int .i64 k ∧ o = .string (mk (small ((lst s).take k))) ∧ Hid (Below w.heap.size w wr)) (fun _ i _ => s.size - (intOf i).toNat)
  case atStart => exact ⟨0, Nat.zero_le _, rfl, rfl, Lib.hid (Below.refl _ w)⟩
  case round =>
    obtain ⟨k, hk, rfl, rfl, hB⟩ := hrel
    by_cases hlt : k < s.size
    · have hst := small_take (lst s) k (by rw [lst_length]; exact hlt)
      rw [show (lst s)[k]'(by rw [lst_length]; exact hlt) = s[k]'hlt from rfl] at hst
      have HST := Lib.hid hst
      clear hst
      have hl := low_toNat (s[k]'hlt)
      have hlt2 := (s[k]'hlt).toNat_lt
      have hcv := conv_one wr (low (s[k]'hlt))
      have HB1 := Lib.hid (hB.out.alloc hB.out.size (.cells #[.int .u8 (low (s[k]'hlt)).toNat] 5))
      have hz : ¬ 9223372036854775807 < (mk (small ((lst s).take k))).size + (mk [low (s[k]'hlt)]).size := by
        rw [mk_size, mk_size, show (small ((lst s).take k)).length = ((lst s).take k).length from List.length_map _, List.length_take]
        simp only [List.length_cons, List.length_nil]
        omega
      by_cases h65 : (65 : Int) ≤ (s[k]'hlt).toNat
      · by_cases h90 : ((s[k]'hlt).toNat : Int) ≤ 90
        · rw [if_pos ⟨h65, h90⟩] at hl
          rw [hl] at hcv HB1
          clear hl
          go_wp2
          go_roundw
          case rel => exact ⟨k + 1, by omega, by go_num, by rw [HST.out, ← mk_append], HB1⟩
          case measure => simp [intOf]; omega
        · rw [if_neg (fun h => h90 h.2)] at hl
          rw [hl] at hcv HB1
          clear hl
          go_wp2
          go_roundw
          case rel => exact ⟨k + 1, by omega, by go_num, by rw [HST.out, ← mk_append], HB1⟩
          case measure => simp [intOf]; omega
      · rw [if_neg (fun h => h65 h.1)] at hl
        rw [hl] at hcv HB1
        clear hl
        go_wp2
        go_roundw
        case rel => exact ⟨k + 1, by omega, by go_num, by rw [HST.out, ← mk_append], HB1⟩
        case measure => simp [intOf]; omega
    · obtain rfl : k = s.size := by omega
      have HE := Lib.hid (show (lst s).take s.size = lst s by rw [← lst_length, List.take_length])
      go_wp2
      go_ret
      exact ⟨by rw [HE.out]; rfl, hB.out⟩

end Go.Proofs.YtbgonaacheemcaaDoor
