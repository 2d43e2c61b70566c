/- strconv.ParseInt of a short text without a sign, at base 10 or 16. -/
import Derived.Test.YtjkgmdnkejjppaaGreatDoorGa
import Derived.Test.YtjkgmdnkejjppaaGreatDoorShelf
import Derived.Test.YtjkgmdnkejjppaaGreatDoorGc
import Derived.BigCall
import Derived.BigGuard
import Derived.Laws.Strings3
import Derived.Laws.Closers25
import Derived.Laws.Closers25b
import Derived.Laws.BitsLemmas
namespace Go.Proofs.YtjkgmdnkejjppaaGreatDoor
open Go Go.RowKit

/-- What 'lower' gives. -/
def lowI (c : Int) : Int := bits BinOp.or IntKind.u8 c 32
theorem lowI_fin : ∀ n : Fin 256, (if (97 ≤ n.val ∧ n.val ≤ 122) ∨ (65 ≤ n.val ∧ n.val ≤ 90) then (lowI (n.val : Int) = if n.val ≤ 90 then ((n.val : Int) + 32) else (n.val : Int)) else (lowI (n.val : Int) < 97 ∨ 122 < lowI (n.val : Int))) ∧ 0 ≤ lowI (n.val : Int) ∧ lowI (n.val : Int) < 256 := by
  decide +kernel
theorem lower_any (c : Int) (w : World) : Calls Tryz.prog 140 #[.int .u8 c] w fun e w' => e = .returned (.int .u8 (lowI c)) ∧ w = w' := by
  refine (Tryz.internal_strconv_lower c w).mono ?_
  rintro e w' ⟨rfl, rfl⟩
  exact ⟨rfl, rfl⟩

/-- What comes back: the number; or 0 and an error. -/
def UintPost (o : Option Nat) (e : Ending) : Prop := match o with
  | some n => e = .returned (.tuple #[.int .u64 n, .nilIface])
  | none => e = .returned (.tuple #[.int .u64 0, .iface 178 (.int .i64 2)])
theorem UintPost.some {n : Nat} {a : Int} (h : a = n) : UintPost (some n) (.returned (.tuple #[.int .u64 a, .nilIface])) := by subst h; rfl
theorem UintPost.none : UintPost none (.returned (.tuple #[.int .u64 0, .iface 178 (.int .i64 2)])) := rfl

theorem mul_lt_pow (b k a d : Nat) (h : a < b ^ k) (hd : d < b) : a * b + d < b ^ (k + 1) := by
  have : (a + 1) * b ≤ b ^ k * b := Nat.mul_le_mul_right _ h
  rw [Nat.pow_succ]
  rw [Nat.add_mul] at this
  omega

theorem digitOf_lt {base : Nat} {c : UInt8} {d : Nat} (h : digitOf base c = some d) : d < base := by
  unfold digitOf at h
  split at h
  · split at h
    · cases h; assumption
    · cases h
  split at h
  · split at h
    · cases h; assumption
    · cases h
  split at h
  · split at h
    · cases h; assumption
    · cases h
  · cases h

theorem digitsFrom_bound (base : Nat) : ∀ (l : Bytes) (k n r : Nat), n < base ^ k → digitsFrom base n l = some r → r < base ^ (k + l.length)
  | [], k, n, r, h, e => by simp [digitsFrom] at e; subst e; simpa using h
  | c :: l, k, n, r, h, e => by
    unfold digitsFrom at e
    cases hd : digitOf base c with
    | none => rw [hd] at e; cases e
    | some d =>
      rw [hd] at e
      have := digitsFrom_bound base l (k + 1) (n * base + d) r (mul_lt_pow base k n d h (digitOf_lt hd)) e
      simpa [Nat.add_assoc, Nat.add_comm 1] using this

set_option maxHeartbeats 4000000 in
set_option maxRecDepth 100000 in
theorem parseUint_10 (t : ByteArray) (hne : 1 ≤ t.size) (hmax : t.size ≤ 7) (w : World) :
    Calls Tryz.prog 132 #[.string t, .int .i64 10, .int .i64 64] w fun e w' => UintPost (digitsFrom 10 0 (lst t)) e ∧ Below w.heap.size w w' := by
  have hemp : t.toList.isEmpty = false := by
    rw [← decide_eq_emptyBytes]
    exact decide_eq_false (fun h => by rw [h] at hne; exact absurd hne (by decide))
  have hcv := Lib.run_convert_string_bytes (P := Tryz.prog) w 9 105 5 t (u := .string) Tryz.underlying9 Tryz.underlying105 Tryz.underlying5
  have hB : ∀ j, j < t.size → (Lib.bytesWorld w 5 t).cell? ⟨w.heap.size, j, none⟩ = some (.int .u8 ((lst t).getD j 0).toNat) := fun j hj => Lib.bytesWorld_cell w 5 t j hj
  have hW0 : Below w.heap.size w (Lib.bytesWorld w 5 t) := ⟨rfl, rfl, rfl, by rw [Lib.bytesWorld_size]; omega, fun k hk => Lib.bytesWorld_at_old _ _ _ _ hk⟩
  have HW0 := Lib.hid hW0
  clear hW0
  obtain ⟨W1, hW1⟩ : ∃ W1, W1 = Lib.bytesWorld w 5 t := ⟨_, rfl⟩
  rw [← hW1] at hcv hB HW0
  clear hW1
  have hLn := lst_length t
  obtain ⟨bs, hL⟩ : ∃ bs, bs = lst t := ⟨_, rfl⟩
  rw [← hL] at hB hLn ⊢
  clear hL
  have hmv : IntKind.u64.wrap (IntKind.u64.wrap 18446744073709551616 - 1) = 18446744073709551615 := by
    rw [IntKind.wrap_u64, IntKind.wrap_u64]
    decide
  have HL := Lib.hid hLn
  clear hLn
  go_enter Tryz.func132, Tryz.ntmps132
  go_wp2
  go_loop [12, 13, 15, 16, 17, 101] (fun vu vn v15 v16 v17 vi => ∃ (k acc : Nat) (a : Int), vu = .bool false ∧ vn = .int .u64 a ∧ vi = .int .i64 k ∧ k ≤ t.size ∧ Hid (a = (acc : Int) ∧ acc < 10 ^ k ∧ digitsFrom 10 0 bs = digitsFrom 10 acc (bs.drop k)))
    (fun _ _ _ _ _ vi => t.size - (intOf vi).toNat)
  case atStart => exact ⟨0, 0, 0, rfl, rfl, rfl, by omega, rfl, by simp, rfl⟩
  case round =>
    obtain ⟨k, acc, a, rfl, rfl, rfl, hk, hh⟩ := hrel
    obtain ⟨ha, hacc, hdec⟩ := hh.out
    clear hh
    have hp : 10 ^ k ≤ 268435456 := Nat.le_trans (Nat.pow_le_pow_right (by decide) (by omega : k ≤ 7)) (by decide)
    have a0 : 0 ≤ a := by omega
    have a1 : a < 268435456 := by omega
    by_cases hkn : k < t.size
    · have hkb : k < bs.length := by have := HL.out; omega
      have hc := hB k hkn
      have hdrop : bs.drop k = bs[k]'hkb :: bs.drop (k + 1) := List.drop_eq_getElem_cons hkb
      have hget : bs.getD k 0 = bs[k]'hkb := by simp [List.getD, List.getElem?_eq_getElem hkb]
      rw [hdrop] at hdec
      rw [hget] at hc
      generalize bs[k]'hkb = c at hc hdec
      have hc256 : c.toNat < 256 := c.toNat_lt
      clear hB hdrop hget
      have hlo := lowI_fin ⟨c.toNat, hc256⟩
      simp only at hlo
      obtain ⟨hlo, hl0, hl1⟩ := hlo
      by_cases hdig : 48 ≤ c.toNat ∧ c.toNat ≤ 57
      · obtain ⟨hd0, hd1⟩ := hdig
        have hF : digitOf 10 c = some (c.toNat - 48) := by
          unfold digitOf
          rw [if_pos (by simp only [UInt8.le_iff_toNat_le]; exact ⟨hd0, hd1⟩), if_pos (by omega)]
        have hG : digitsFrom 10 acc (c :: bs.drop (k + 1)) = digitsFrom 10 (acc * 10 + (c.toNat - 48)) (bs.drop (k + 1)) := by rw [digitsFrom, hF]
        have HN : Hid (a * 10 + ((c.toNat : Int) - 48) = ((acc * 10 + (c.toNat - 48) : Nat) : Int) ∧ acc * 10 + (c.toNat - 48) < 10 ^ (k + 1) ∧ digitsFrom 10 0 bs = digitsFrom 10 (acc * 10 + (c.toNat - 48)) (bs.drop (k + 1))) := Lib.hid ⟨by omega, mul_lt_pow 10 k acc _ hacc (by omega), hdec.trans hG⟩
        clear hF hG hacc hdec ha hlo hl0 hl1 hp
        go_wp2
        refine ⟨⟨k + 1, acc * 10 + (c.toNat - 48), a * 10 + ((c.toNat : Int) - 48), rfl, (by first | rfl | (congr 1; omega)), (by first | rfl | (congr 1; omega)), by omega, HN⟩, by simp [intOf]; omega⟩
      · have hdig' : ¬ (48 ≤ (c.toNat : Int) ∧ (c.toNat : Int) ≤ 57) := by omega
        cases hF : digitOf 10 c with
        | none =>
          have hG : digitsFrom 10 acc (c :: bs.drop (k + 1)) = none := by rw [digitsFrom, hF]
          have HD := Lib.hid (hdec.trans hG)
          have hno : lowI c.toNat < 97 ∨ 122 < lowI c.toNat ∨ 10 ≤ lowI c.toNat - 87 := by
            unfold digitOf at hF
            simp only [UInt8.le_iff_toNat_le] at hF
            rw [if_neg (by exact fun h => hdig h)] at hF
            by_cases c1 : 97 ≤ c.toNat ∧ c.toNat ≤ 122
            · rw [if_pos (by exact c1)] at hF
              rw [if_pos (.inl c1), if_neg (by omega)] at hlo
              split at hF
              · cases hF
              · right; right; omega
            · rw [if_neg (by exact fun h => c1 h)] at hF
              by_cases c2 : 65 ≤ c.toNat ∧ c.toNat ≤ 90
              · rw [if_pos (by exact c2)] at hF
                rw [if_pos (.inr c2), if_pos (by omega)] at hlo
                split at hF
                · cases hF
                · right; right; omega
              · rw [if_neg (by omega)] at hlo
                omega
          clear hF hG hacc hdec ha hlo hp
          generalize (c.toNat : Int) = x at *
          by_cases n1 : lowI x < 97
          · go_wp2_with (go_at_call 140; refine (lower_any _ _).mono ?_; rintro e w' ⟨rfl, rfl⟩)
            all_goals go_ret2
            all_goals exact ⟨by rw [HD.out]; exact UintPost.none, HW0.out⟩
          · by_cases n2 : 122 < lowI x
            · go_wp2_with (go_at_call 140; refine (lower_any _ _).mono ?_; rintro e w' ⟨rfl, rfl⟩)
              all_goals go_ret2
              all_goals exact ⟨by rw [HD.out]; exact UintPost.none, HW0.out⟩
            · have n3 : 10 ≤ lowI x - 87 := by omega
              clear hno
              go_wp2_with (go_at_call 140; refine (lower_any _ _).mono ?_; rintro e w' ⟨rfl, rfl⟩)
              all_goals go_ret2
              all_goals exact ⟨by rw [HD.out]; exact UintPost.none, HW0.out⟩
        | some d =>
          have hd := digitOf_lt hF
          have hG : digitsFrom 10 acc (c :: bs.drop (k + 1)) = digitsFrom 10 (acc * 10 + d) (bs.drop (k + 1)) := by rw [digitsFrom, hF]
          have hy : 97 ≤ lowI c.toNat ∧ lowI c.toNat ≤ 122 ∧ lowI c.toNat - 87 = (d : Int) := by
            unfold digitOf at hF
            simp only [UInt8.le_iff_toNat_le] at hF
            rw [if_neg (by exact fun h => hdig h)] at hF
            by_cases c1 : 97 ≤ c.toNat ∧ c.toNat ≤ 122
            · rw [if_pos (by exact c1)] at hF
              rw [if_pos (.inl c1), if_neg (by omega)] at hlo
              split at hF
              · cases hF; omega
              · cases hF
            · rw [if_neg (by exact fun h => c1 h)] at hF
              by_cases c2 : 65 ≤ c.toNat ∧ c.toNat ≤ 90
              · rw [if_pos (by exact c2)] at hF
                rw [if_pos (.inr c2), if_pos (by omega)] at hlo
                split at hF
                · cases hF; omega
                · cases hF
              · rw [if_neg (by exact fun h => c2 h)] at hF
                cases hF
          obtain ⟨y0, y1, y2⟩ := hy
          have y3 : lowI c.toNat - 87 < 10 := by omega
          have HN : Hid (a * 10 + (lowI c.toNat - 97 + 10) = ((acc * 10 + d : Nat) : Int) ∧ acc * 10 + d < 10 ^ (k + 1) ∧ digitsFrom 10 0 bs = digitsFrom 10 (acc * 10 + d) (bs.drop (k + 1))) := Lib.hid ⟨by omega, mul_lt_pow 10 k acc _ hacc hd, hdec.trans hG⟩
          have h95 : ((c.toNat : Int) == 95) = false := by
            refine beq_eq_false_iff_ne.2 fun e => ?_
            rw [e] at y0 y1
            exact absurd y1 (by decide)
          clear hF hG hacc hdec ha hlo hp y2 hd
          generalize (c.toNat : Int) = x at *
          go_wp2_with (go_at_call 140; refine (lower_any _ _).mono ?_; rintro e w' ⟨rfl, rfl⟩)
          all_goals refine ⟨⟨k + 1, acc * 10 + d, a * 10 + (lowI x - 97 + 10), rfl, (by first | rfl | (congr 1; omega)), (by first | rfl | (congr 1; omega)), by omega, HN⟩, by simp [intOf]; omega⟩
    · obtain rfl : k = t.size := by omega
      have hF : digitsFrom 10 acc (bs.drop t.size) = some acc := by rw [List.drop_eq_nil_of_le (by have := HL.out; omega)]; rfl
      rw [hF] at hdec
      have HA := Lib.hid ha
      have HD := Lib.hid hdec
      clear hacc hF ha hdec hp
      go_wp2
      go_ret2
      exact ⟨by rw [HD.out]; exact UintPost.some HA.out, HW0.out⟩

set_option maxHeartbeats 4000000 in
set_option maxRecDepth 100000 in
theorem parseUint_16 (t : ByteArray) (hne : 1 ≤ t.size) (hmax : t.size ≤ 7) (w : World) :
    Calls Tryz.prog 132 #[.string t, .int .i64 16, .int .i64 64] w fun e w' => UintPost (digitsFrom 16 0 (lst t)) e ∧ Below w.heap.size w w' := by
  have hemp : t.toList.isEmpty = false := by
    rw [← decide_eq_emptyBytes]
    exact decide_eq_false (fun h => by rw [h] at hne; exact absurd hne (by decide))
  have hcv := Lib.run_convert_string_bytes (P := Tryz.prog) w 9 105 5 t (u := .string) Tryz.underlying9 Tryz.underlying105 Tryz.underlying5
  have hB : ∀ j, j < t.size → (Lib.bytesWorld w 5 t).cell? ⟨w.heap.size, j, none⟩ = some (.int .u8 ((lst t).getD j 0).toNat) := fun j hj => Lib.bytesWorld_cell w 5 t j hj
  have hW0 : Below w.heap.size w (Lib.bytesWorld w 5 t) := ⟨rfl, rfl, rfl, by rw [Lib.bytesWorld_size]; omega, fun k hk => Lib.bytesWorld_at_old _ _ _ _ hk⟩
  have HW0 := Lib.hid hW0
  clear hW0
  obtain ⟨W1, hW1⟩ : ∃ W1, W1 = Lib.bytesWorld w 5 t := ⟨_, rfl⟩
  rw [← hW1] at hcv hB HW0
  clear hW1
  have hLn := lst_length t
  obtain ⟨bs, hL⟩ : ∃ bs, bs = lst t := ⟨_, rfl⟩
  rw [← hL] at hB hLn ⊢
  clear hL
  have hmv : IntKind.u64.wrap (IntKind.u64.wrap 18446744073709551616 - 1) = 18446744073709551615 := by
    rw [IntKind.wrap_u64, IntKind.wrap_u64]
    decide
  have HL := Lib.hid hLn
  clear hLn
  go_enter Tryz.func132, Tryz.ntmps132
  go_wp2
  go_loop [12, 13, 15, 16, 17, 101] (fun vu vn v15 v16 v17 vi => ∃ (k acc : Nat) (a : Int), vu = .bool false ∧ vn = .int .u64 a ∧ vi = .int .i64 k ∧ k ≤ t.size ∧ Hid (a = (acc : Int) ∧ acc < 16 ^ k ∧ digitsFrom 16 0 bs = digitsFrom 16 acc (bs.drop k)))
    (fun _ _ _ _ _ vi => t.size - (intOf vi).toNat)
  case atStart => exact ⟨0, 0, 0, rfl, rfl, rfl, by omega, rfl, by simp, rfl⟩
  case round =>
    obtain ⟨k, acc, a, rfl, rfl, rfl, hk, hh⟩ := hrel
    obtain ⟨ha, hacc, hdec⟩ := hh.out
    clear hh
    have hp : 16 ^ k ≤ 268435456 := Nat.le_trans (Nat.pow_le_pow_right (by decide) (by omega : k ≤ 7)) (by decide)
    have a0 : 0 ≤ a := by omega
    have a1 : a < 268435456 := by omega
    by_cases hkn : k < t.size
    · have hkb : k < bs.length := by have := HL.out; omega
      have hc := hB k hkn
      have hdrop : bs.drop k = bs[k]'hkb :: bs.drop (k + 1) := List.drop_eq_getElem_cons hkb
      have hget : bs.getD k 0 = bs[k]'hkb := by simp [List.getD, List.getElem?_eq_getElem hkb]
      rw [hdrop] at hdec
      rw [hget] at hc
      generalize bs[k]'hkb = c at hc hdec
      have hc256 : c.toNat < 256 := c.toNat_lt
      clear hB hdrop hget
      have hlo := lowI_fin ⟨c.toNat, hc256⟩
      simp only at hlo
      obtain ⟨hlo, hl0, hl1⟩ := hlo
      by_cases hdig : 48 ≤ c.toNat ∧ c.toNat ≤ 57
      · obtain ⟨hd0, hd1⟩ := hdig
        have hF : digitOf 16 c = some (c.toNat - 48) := by
          unfold digitOf
          rw [if_pos (by simp only [UInt8.le_iff_toNat_le]; exact ⟨hd0, hd1⟩), if_pos (by omega)]
        have hG : digitsFrom 16 acc (c :: bs.drop (k + 1)) = digitsFrom 16 (acc * 16 + (c.toNat - 48)) (bs.drop (k + 1)) := by rw [digitsFrom, hF]
        have HN : Hid (a * 16 + ((c.toNat : Int) - 48) = ((acc * 16 + (c.toNat - 48) : Nat) : Int) ∧ acc * 16 + (c.toNat - 48) < 16 ^ (k + 1) ∧ digitsFrom 16 0 bs = digitsFrom 16 (acc * 16 + (c.toNat - 48)) (bs.drop (k + 1))) := Lib.hid ⟨by omega, mul_lt_pow 16 k acc _ hacc (by omega), hdec.trans hG⟩
        clear hF hG hacc hdec ha hlo hl0 hl1 hp
        go_wp2
        refine ⟨⟨k + 1, acc * 16 + (c.toNat - 48), a * 16 + ((c.toNat : Int) - 48), rfl, (by first | rfl | (congr 1; omega)), (by first | rfl | (congr 1; omega)), by omega, HN⟩, by simp [intOf]; omega⟩
      · have hdig' : ¬ (48 ≤ (c.toNat : Int) ∧ (c.toNat : Int) ≤ 57) := by omega
        cases hF : digitOf 16 c with
        | none =>
          have hG : digitsFrom 16 acc (c :: bs.drop (k + 1)) = none := by rw [digitsFrom, hF]
          have HD := Lib.hid (hdec.trans hG)
          have hno : lowI c.toNat < 97 ∨ 122 < lowI c.toNat ∨ 16 ≤ lowI c.toNat - 87 := by
            unfold digitOf at hF
            simp only [UInt8.le_iff_toNat_le] at hF
            rw [if_neg (by exact fun h => hdig h)] at hF
            by_cases c1 : 97 ≤ c.toNat ∧ c.toNat ≤ 122
            · rw [if_pos (by exact c1)] at hF
              rw [if_pos (.inl c1), if_neg (by omega)] at hlo
              split at hF
              · cases hF
              · right; right; omega
            · rw [if_neg (by exact fun h => c1 h)] at hF
              by_cases c2 : 65 ≤ c.toNat ∧ c.toNat ≤ 90
              · rw [if_pos (by exact c2)] at hF
                rw [if_pos (.inr c2), if_pos (by omega)] at hlo
                split at hF
                · cases hF
                · right; right; omega
              · rw [if_neg (by omega)] at hlo
                omega
          clear hF hG hacc hdec ha hlo hp
          generalize (c.toNat : Int) = x at *
          by_cases n1 : lowI x < 97
          · go_wp2_with (go_at_call 140; refine (lower_any _ _).mono ?_; rintro e w' ⟨rfl, rfl⟩)
            all_goals go_ret2
            all_goals exact ⟨by rw [HD.out]; exact UintPost.none, HW0.out⟩
          · by_cases n2 : 122 < lowI x
            · go_wp2_with (go_at_call 140; refine (lower_any _ _).mono ?_; rintro e w' ⟨rfl, rfl⟩)
              all_goals go_ret2
              all_goals exact ⟨by rw [HD.out]; exact UintPost.none, HW0.out⟩
            · have n3 : 16 ≤ lowI x - 87 := by omega
              clear hno
              go_wp2_with (go_at_call 140; refine (lower_any _ _).mono ?_; rintro e w' ⟨rfl, rfl⟩)
              all_goals go_ret2
              all_goals exact ⟨by rw [HD.out]; exact UintPost.none, HW0.out⟩
        | some d =>
          have hd := digitOf_lt hF
          have hG : digitsFrom 16 acc (c :: bs.drop (k + 1)) = digitsFrom 16 (acc * 16 + d) (bs.drop (k + 1)) := by rw [digitsFrom, hF]
          have hy : 97 ≤ lowI c.toNat ∧ lowI c.toNat ≤ 122 ∧ lowI c.toNat - 87 = (d : Int) := by
            unfold digitOf at hF
            simp only [UInt8.le_iff_toNat_le] at hF
            rw [if_neg (by exact fun h => hdig h)] at hF
            by_cases c1 : 97 ≤ c.toNat ∧ c.toNat ≤ 122
            · rw [if_pos (by exact c1)] at hF
              rw [if_pos (.inl c1), if_neg (by omega)] at hlo
              split at hF
              · cases hF; omega
              · cases hF
            · rw [if_neg (by exact fun h => c1 h)] at hF
              by_cases c2 : 65 ≤ c.toNat ∧ c.toNat ≤ 90
              · rw [if_pos (by exact c2)] at hF
                rw [if_pos (.inr c2), if_pos (by omega)] at hlo
                split at hF
                · cases hF; omega
                · cases hF
              · rw [if_neg (by exact fun h => c2 h)] at hF
                cases hF
          obtain ⟨y0, y1, y2⟩ := hy
          have y3 : lowI c.toNat - 87 < 16 := by omega
          have HN : Hid (a * 16 + (lowI c.toNat - 97 + 10) = ((acc * 16 + d : Nat) : Int) ∧ acc * 16 + d < 16 ^ (k + 1) ∧ digitsFrom 16 0 bs = digitsFrom 16 (acc * 16 + d) (bs.drop (k + 1))) := Lib.hid ⟨by omega, mul_lt_pow 16 k acc _ hacc hd, hdec.trans hG⟩
          have h95 : ((c.toNat : Int) == 95) = false := by
            refine beq_eq_false_iff_ne.2 fun e => ?_
            rw [e] at y0 y1
            exact absurd y1 (by decide)
          clear hF hG hacc hdec ha hlo hp y2 hd
          generalize (c.toNat : Int) = x at *
          go_wp2_with (go_at_call 140; refine (lower_any _ _).mono ?_; rintro e w' ⟨rfl, rfl⟩)
          all_goals refine ⟨⟨k + 1, acc * 16 + d, a * 16 + (lowI x - 97 + 10), rfl, (by first | rfl | (congr 1; omega)), (by first | rfl | (congr 1; omega)), by omega, HN⟩, by simp [intOf]; omega⟩
    · obtain rfl : k = t.size := by omega
      have hF : digitsFrom 16 acc (bs.drop t.size) = some acc := by rw [List.drop_eq_nil_of_le (by have := HL.out; omega)]; rfl
      rw [hF] at hdec
      have HA := Lib.hid ha
      have HD := Lib.hid hdec
      clear hacc hF ha hdec hp
      go_wp2
      go_ret2
      exact ⟨by rw [HD.out]; exact UintPost.some HA.out, HW0.out⟩

end Go.Proofs.YtjkgmdnkejjppaaGreatDoor
