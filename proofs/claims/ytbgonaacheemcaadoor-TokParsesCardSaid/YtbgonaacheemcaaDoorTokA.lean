/- Walks of the scanner's small methods. -/
import Derived.Test.YtbgonaacheemcaaDoorBase
import Derived.Test.YtbgonaacheemcaaDoorModel
import Derived.Test.YtbgonaacheemcaaDoorShelf
import Derived.Lib.IndexAny
namespace Go.Proofs.YtbgonaacheemcaaDoor
open Go Go.RowKit

/-- The scanner lies in block b: its text, its place, its tokens. -/
def Sc (w : World) (b : Nat) (text : ByteArray) (at_ : Nat) (tv : Value) : Prop :=
  w.heap[b]? = some (.cells #[.string text, .int .i64 at_, tv] 35 (0, 0))

section
variable {w w' : World} {b : Nat} {text : ByteArray} {at_ : Nat} {tv : Value}
theorem Sc.all (h : Sc w b text at_ tv) : w.cell? ⟨b, 0, none⟩ = some (.string text) ∧ w.cell? ⟨b, 1, none⟩ = some (.int .i64 at_) ∧ w.cell? ⟨b, 2, none⟩ = some tv ∧
    w.frozen? ⟨b, 1, none⟩ = false ∧ w.frozen? ⟨b, 2, none⟩ = false ∧ b < w.heap.size :=
  ⟨by rw [Lib.cell_of_heap h]; rfl, by rw [Lib.cell_of_heap h]; rfl, by rw [Lib.cell_of_heap h]; rfl, Lib.frozen_of_heap h 1, Lib.frozen_of_heap h 2, lt_of_block h⟩
theorem Sc.setAt (h : Sc w b text at_ tv) (m : Nat) : Sc (w.setCell ⟨b, 1, none⟩ (.int .i64 m)) b text m tv := by
  unfold Sc at *
  simp [World.setCell, Array.getElem?_modify, h]
theorem Sc.setTv (h : Sc w b text at_ tv) (v : Value) : Sc (w.setCell ⟨b, 2, none⟩ v) b text at_ v := by
  unfold Sc at *
  simp [World.setCell, Array.getElem?_modify, h]
theorem Sc.drewN (h : Sc w b text at_ tv) (n : Nat) : Sc (w.drewN n) b text at_ tv := h
theorem Sc.kept {S : Nat → Prop} {B : Nat} (h : Sc w b text at_ tv) (hk : Kept S B w w') (hb : b < B) (hs : ¬ S b) : Sc w' b text at_ tv := by
  unfold Sc at *
  rw [hk.block b hb hs]; exact h
theorem Sc.below {B : Nat} (h : Sc w b text at_ tv) (hk : Below B w w') (hb : b < B) : Sc w' b text at_ tv := by
  unfold Sc at *
  rw [hk.block b hb]; exact h
theorem Sc.at_eq (h : Sc w b text at_ tv) {m : Nat} (e : at_ = m) : Sc w b text m tv := e ▸ h
end

/-- Block b alone may have changed. -/
abbrev Only (b : Nat) (w w' : World) : Prop := Kept (fun k => k = b) w.heap.size w w'
theorem Only.trans {b : Nat} {x y z : World} (h : Only b x y) (k : Only b y z) : Only b x z := Kept.trans h (k.mono h.size fun _ _ e => e)
theorem Only.below {b : Nat} {x y z : World} (h : Only b x y) (k : Below y.heap.size y z) : Only b x z := Kept.trans h ((Kept.of_below (k.mono h.size)))
theorem Only.of_below {b : Nat} {x y : World} (h : Below x.heap.size x y) : Only b x y := Kept.of_below h

set_option maxHeartbeats 400000 in
theorem pass_any (b : Nat) (text : ByteArray) (at_ : Nat) (n : Int) (tv : Value) (w : World) (hsc : Sc w b text at_ tv)
    (h1 : 0 ≤ n) (h2 : at_ + n ≤ text.size) (h3 : text.size ≤ 1000000000) :
    Calls Tryd.prog 29 #[.pointer (some ⟨b, 0, none⟩), .int .i64 n] w fun e w' =>
      e = .returned (.string (text.extract at_ (at_ + n.toNat))) ∧ Sc w' b text (at_ + n.toNat) tv ∧ Only b w w' := by
  obtain ⟨c0, c1, c2, f1, f2, hlt⟩ := hsc.all
  have HS := Lib.hid hsc
  clear hsc c2 f2
  obtain ⟨m, rfl⟩ := Int.eq_ofNat_of_zero_le h1
  go_enter Tryd.func29, Tryd.ntmps29
  go_wp2
  go_quiet (fail)
  go_wp2
  go_ret
  refine ⟨by simp, ?_, ?_⟩
  · have h : Sc (w.setCell ⟨b, 1, none⟩ (.int .i64 ((at_ + m : Nat) : Int))) b text (at_ + m) tv := HS.out.setAt (at_ + m)
    have : ((at_ + m : Nat) : Int) = (at_ : Int) + (m : Int) := by omega
    rw [this] at h
    simpa using h.drewN _
  · exact ((Kept.refl (fun k => k = b) _ _).setCell (p := ⟨b, 1, none⟩) (.inl rfl) _).drewN _

/-- 'next', as a bool of the rest. -/
theorem hd_drop (c : Bytes) (l : Bytes) (i : Nat) (h : i < l.length) : hd c (l.drop i) = c.contains (l[i]'h) := by
  rw [List.drop_eq_getElem_cons h]; rfl

set_option maxHeartbeats 400000 in
theorem next_any (b : Nat) (text c : ByteArray) (at_ : Nat) (tv : Value) (w : World) (hsc : Sc w b text at_ tv) (h2 : at_ ≤ text.size) (_h3 : text.size ≤ 1000000000) :
    Calls Tryd.prog 45 #[.pointer (some ⟨b, 0, none⟩), .string c] w fun e w' =>
      e = .returned (.bool (hd (lst c) ((lst text).drop at_))) ∧ ∃ k, w' = w.drewN k := by
  obtain ⟨c0, c1, c2, f1, f2, hlt⟩ := hsc.all
  clear hsc c2 f1 f2
  by_cases hat : at_ < text.size
  · have hl : at_ < (lst text).length := by rw [lst_length]; exact hat
    have hr : hd (lst c) ((lst text).drop at_) = decide ((0 : Int) ≤ Lib.indexByte (lst c) (text[at_]'hat)) := by
      rw [hd_drop _ _ _ hl, ← Lib.contains_iff_indexByte]; rfl
    have HR := Lib.hid hr
    clear hr hl
    have hat' : (at_ : Int) < (text.size : Int) := by omega
    have hati : (0 : Int) ≤ (at_ : Int) := by omega
    go_enter Tryd.func45, Tryd.ntmps45
    go_wp2
    go_quiet ((go_at_call 22; exact qs (Tryd.strings_IndexByte _ _ _)))
    go_wp2
    go_ret
    refine ⟨?_, _, rfl⟩
    rw [HR.out]
    simp [lst]
    rfl
  · have hd0 : decide ((at_ : Int) < (text.size : Int)) = false := decide_eq_false (by omega)
    have hr : hd (lst c) ((lst text).drop at_) = false := by rw [List.drop_of_length_le (by rw [lst_length]; omega)]; rfl
    have HR := Lib.hid hr
    clear hr
    go_enter Tryd.func45, Tryd.ntmps45
    go_wp2
    go_quiet (fail)
    go_wp2
    go_ret
    exact ⟨by rw [HR.out]; rfl, _, rfl⟩

/-- 'letter', over the bytes. -/
def letB (c : Int) : Bool := (decide (97 ≤ c) && decide (c ≤ 122)) || (decide (65 ≤ c) && decide (c ≤ 90))

theorem letter_any (c : Int) (w : World) (h0 : 0 ≤ c) (h1 : c < 256) :
    Calls Tryd.prog 21 #[.int .u8 c] w fun e w' => e = .returned (.bool (letB c)) ∧ w = w' := by
  go_enter Tryd.func21, Tryd.ntmps21
  go_wp2
  all_goals go_ret
  all_goals refine ⟨?_, rfl⟩
  all_goals (simp [letB, *]; try omega)

/-- What the row of 'Small' holds after k rounds. -/
structure SmallRow (s : ByteArray) (B : Nat) (k : Nat) (wr : World) : Prop where
  cells : ∀ j, j < s.size → wr.cell? ⟨B, j, none⟩ = some (.int .u8 ((if j < k then low ((lst s).getD j 0) else (lst s).getD j 0).toNat))
  free : ∀ j, j < s.size → wr.frozen? ⟨B, j, none⟩ = false

theorem low_toNat (c : UInt8) : ((low c).toNat : Int) = if 65 ≤ (c.toNat : Int) ∧ (c.toNat : Int) ≤ 90 then (c.toNat : Int) + 32 else c.toNat := by
  unfold low
  simp only [UInt8.le_iff_toNat_le]
  have e1 : (65 : UInt8).toNat = 65 := rfl
  have e2 : (90 : UInt8).toNat = 90 := rfl
  rw [e1, e2]
  by_cases h : 65 ≤ c.toNat ∧ c.toNat ≤ 90
  · rw [if_pos h, if_pos (by omega), UInt8.toNat_add]
    have : (32 : UInt8).toNat = 32 := rfl
    omega
  · rw [if_neg h, if_neg (by omega)]

theorem SmallRow.start (s : ByteArray) (w : World) (e : TypeId) : SmallRow s w.heap.size 0 (Lib.bytesWorld w e s) where
  cells j hj := by rw [Lib.bytesWorld_cell w e s j hj]; simp [lst]
  free j hj := by
    have : s.data.size = s.size := rfl
    simp [World.frozen?, Lib.bytesWorld_at_new, Lib.bytesCells]
    omega

theorem SmallRow.keep {s : ByteArray} {B k : Nat} {wr : World} (h : SmallRow s B k wr) (hk : k < s.size) (hc : ¬ (65 ≤ (((lst s).getD k 0).toNat : Int) ∧ (((lst s).getD k 0).toNat : Int) ≤ 90)) : SmallRow s B (k + 1) wr where
  cells j hj := by
    rw [h.cells j hj]
    by_cases e : j = k
    · subst e
      have := low_toNat ((lst s).getD j 0)
      rw [if_neg hc] at this
      simp only [Nat.lt_irrefl, if_false, Nat.lt_succ_self, if_true]
      rw [this]
    · have : j < k + 1 ↔ j < k := by omega
      simp only [this]
  free := h.free

theorem SmallRow.turn {s : ByteArray} {B k : Nat} {wr : World} (h : SmallRow s B k wr) (hk : k < s.size) (hc : 65 ≤ (((lst s).getD k 0).toNat : Int) ∧ (((lst s).getD k 0).toNat : Int) ≤ 90) :
    SmallRow s B (k + 1) (wr.setCell ⟨B, k, none⟩ (.int .u8 ((((lst s).getD k 0).toNat : Int) + 32))) where
  cells j hj := by
    by_cases e : j = k
    · subst e
      rw [World.cell?_setCell_same _ _ _ (h.cells j hj)]
      have := low_toNat ((lst s).getD j 0)
      rw [if_pos hc] at this
      simp only [Nat.lt_succ_self, if_true]
      rw [this]
    · rw [World.cell?_setCell_other _ _ _ _ (by simp <;> omega), h.cells j hj]
      have : j < k + 1 ↔ j < k := by omega
      simp only [this]
  free j hj := by rw [World.frozen?_setCell]; exact h.free j hj

set_option maxHeartbeats 1000000 in
theorem small_any (s : ByteArray) (w : World) (hs : s.size ≤ 1000000000) :
    Calls Tryd.prog 42 #[.string s] w fun e w' => e = .returned (.string (mk (small (lst s)))) ∧ Below w.heap.size w w' := by
  have hconv := Lib.run_convert_string_bytes (P := Tryd.prog) w 9 47 5 s Tryd.underlying9 Tryd.underlying47 Tryd.underlying5
  go_enter Tryd.func42, Tryd.ntmps42
  go_wp2
  clear hconv
  go_loopw [10] (fun i wr => ∃ k : Nat, k ≤ s.size ∧ i = .int .i64 k ∧ SmallRow s w.heap.size k wr ∧ Below w.heap.size w wr) (fun i _ => s.size - (intOf i).toNat)
  case atStart =>
    refine ⟨0, Nat.zero_le _, rfl, SmallRow.start s w _, ⟨rfl, rfl, rfl, by rw [Lib.bytesWorld_size]; omega, fun k hk => Lib.bytesWorld_at_old _ _ _ _ hk⟩⟩
  case round =>
    obtain ⟨k, hk, rfl, hR, hB⟩ := hrel
    have HR := Lib.hid hR
    have HB := Lib.hid hB
    clear hB
    by_cases hlt : k < s.size
    · have hc := hR.cells k hlt
      have hf := hR.free k hlt
      rw [if_neg (Nat.lt_irrefl k)] at hc
      clear hR
      have hx0 : 0 ≤ (((lst s).getD k 0).toNat : Int) := by omega
      have hx1 : (((lst s).getD k 0).toNat : Int) < 256 := by have := ((lst s).getD k 0).toNat_lt; omega
      have hK := fun h => SmallRow.keep HR.out hlt h
      have hT := fun h => SmallRow.turn HR.out hlt h
      have HK := Lib.hid hK
      have HT := Lib.hid hT
      clear hK hT
      generalize (((lst s).getD k 0).toNat : Int) = x at *
      by_cases h65 : 65 ≤ x
      · by_cases h90 : x ≤ 90
        · go_wp2
          go_roundw
          case rel => exact ⟨k + 1, by omega, by go_num, by rw [show x + 97 - 65 = x + 32 by omega]; exact HT.out ⟨h65, h90⟩, HB.out.setCell (by simp) _⟩
          case measure => simp [intOf]; omega
        · go_wp2
          go_roundw
          case rel => exact ⟨k + 1, by omega, by go_num, HK.out (by omega), HB.out⟩
          case measure => simp [intOf]; omega
      · go_wp2
        go_roundw
        case rel => exact ⟨k + 1, by omega, by go_num, HK.out (by omega), HB.out⟩
        case measure => simp [intOf]; omega
    · obtain rfl : k = s.size := by omega
      have hconv := conv_bytes (P := Tryd.prog) wr 47 9 5 ⟨w.heap.size, 0, none⟩ s.size (grownCap w s.size 0 5) (small (lst s)) Tryd.underlying47 Tryd.underlying5 Tryd.underlying9 (by simp [small, lst_length]) (by
        intro j hj
        have := hR.cells j hj
        rw [if_pos hj] at this
        have hadd : (⟨w.heap.size, 0, none⟩ : Addr).add j = ⟨w.heap.size, j, none⟩ := by unfold Addr.add; split <;> simp_all
        rw [hadd, this]
        have hj' : j < (lst s).length := by rw [lst_length]; exact hj
        simp [small, List.getD, hj'])
      clear hR
      go_wp2
      go_ret
      exact ⟨rfl, HB.out⟩

end Go.Proofs.YtbgonaacheemcaaDoor
