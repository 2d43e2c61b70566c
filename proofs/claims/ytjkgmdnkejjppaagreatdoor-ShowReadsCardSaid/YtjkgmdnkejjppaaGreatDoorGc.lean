/- Joined texts: TokA LibA Bld. -/
import Derived.Lib.IndexAny
import Derived.Laws.RangeAny
import Derived.Laws.Runes
import Derived.Lib.OthersKept
import Derived.Test.YtjkgmdnkejjppaaGreatDoorGa
import Derived.Test.YtjkgmdnkejjppaaGreatDoorShelf
/- Walks of the scanner's small methods. -/
namespace Go.Proofs.YtjkgmdnkejjppaaGreatDoor
open Go Go.RowKit

/-- The scanner lies in block b: its text, its place, its tokens. -/
def Sc (w : World) (b : Nat) (text : ByteArray) (at_ : Nat) (tv : Value) : Prop :=
  w.heap[b]? = some (.cells #[.string text, .int .i64 at_, tv] 93 (0, 0))

section
variable {w w' : World} {b : Nat} {text : ByteArray} {at_ : Nat} {tv : Value}
theorem Sc.all (h : Sc w b text at_ tv) : w.cell? ⟨b, 0, none⟩ = some (.string text) ∧ w.cell? ⟨b, 1, none⟩ = some (.int .i64 at_) ∧ w.cell? ⟨b, 2, none⟩ = some tv ∧
    w.frozen? ⟨b, 1, none⟩ = false ∧ w.frozen? ⟨b, 2, none⟩ = false ∧ b < w.heap.size :=
  ⟨by rw [Lib.cell_of_heap h]; rfl, by rw [Lib.cell_of_heap h]; rfl, by rw [Lib.cell_of_heap h]; rfl, Lib.frozen_of_heap h 1, Lib.frozen_of_heap h 2, lt_of_block h⟩
theorem Sc.setAt (h : Sc w b text at_ tv) (m : Nat) : Sc (w.setCell ⟨b, 1, none⟩ (.int .i64 m)) b text m tv := by
  unfold Sc at *
  simp [World.setCell, Array.getElem?_modify, h]
theorem Sc.setTv (h : Sc w b text at_ tv) (v : Value) : Sc (w.setCell ⟨b, 2, none⟩ v) b text at_ v := by
  unfold Sc at *
  simp [World.setCell, Array.getElem?_modify, h]
theorem Sc.drewN (h : Sc w b text at_ tv) (n : Nat) : Sc (w.drewN n) b text at_ tv := h
theorem Sc.kept {S : Nat → Prop} {B : Nat} (h : Sc w b text at_ tv) (hk : Kept S B w w') (hb : b < B) (hs : ¬ S b) : Sc w' b text at_ tv := by
  unfold Sc at *
  rw [hk.block b hb hs]; exact h
theorem Sc.below {B : Nat} (h : Sc w b text at_ tv) (hk : Below B w w') (hb : b < B) : Sc w' b text at_ tv := by
  unfold Sc at *
  rw [hk.block b hb]; exact h
theorem Sc.at_eq (h : Sc w b text at_ tv) {m : Nat} (e : at_ = m) : Sc w b text m tv := e ▸ h
end

/-- Block b alone may have changed. -/
abbrev Only (b : Nat) (w w' : World) : Prop := Kept (fun k => k = b) w.heap.size w w'
theorem Only.trans {b : Nat} {x y z : World} (h : Only b x y) (k : Only b y z) : Only b x z := Kept.trans h (k.mono h.size fun _ _ e => e)
theorem Only.below {b : Nat} {x y z : World} (h : Only b x y) (k : Below y.heap.size y z) : Only b x z := Kept.trans h ((Kept.of_below (k.mono h.size)))
theorem Only.of_below {b : Nat} {x y : World} (h : Below x.heap.size x y) : Only b x y := Kept.of_below h

set_option maxHeartbeats 400000 in
theorem pass_any (b : Nat) (text : ByteArray) (at_ : Nat) (n : Int) (tv : Value) (w : World) (hsc : Sc w b text at_ tv)
    (h1 : 0 ≤ n) (h2 : at_ + n ≤ text.size) (h3 : text.size ≤ 1000000000) :
    Calls Tryz.prog 78 #[.pointer (some ⟨b, 0, none⟩), .int .i64 n] w fun e w' =>
      e = .returned (.string (text.extract at_ (at_ + n.toNat))) ∧ Sc w' b text (at_ + n.toNat) tv ∧ Only b w w' := by
  obtain ⟨c0, c1, c2, f1, f2, hlt⟩ := hsc.all
  have HS := Lib.hid hsc
  clear hsc c2 f2
  obtain ⟨m, rfl⟩ := Int.eq_ofNat_of_zero_le h1
  go_enter Tryz.func78, Tryz.ntmps78
  go_wp2
  go_quiet (fail)
  go_wp2
  go_ret
  refine ⟨by simp, ?_, ?_⟩
  · have h : Sc (w.setCell ⟨b, 1, none⟩ (.int .i64 ((at_ + m : Nat) : Int))) b text (at_ + m) tv := HS.out.setAt (at_ + m)
    have : ((at_ + m : Nat) : Int) = (at_ : Int) + (m : Int) := by omega
    rw [this] at h
    simpa using h.drewN _
  · exact ((Kept.refl (fun k => k = b) _ _).setCell (p := ⟨b, 1, none⟩) (.inl rfl) _).drewN _

/-- 'next', as a bool of the rest. -/
theorem hd_drop (c : Bytes) (l : Bytes) (i : Nat) (h : i < l.length) : hd c (l.drop i) = c.contains (l[i]'h) := by
  rw [List.drop_eq_getElem_cons h]; rfl

set_option maxHeartbeats 400000 in
theorem next_any (b : Nat) (text c : ByteArray) (at_ : Nat) (tv : Value) (w : World) (hsc : Sc w b text at_ tv) (h2 : at_ ≤ text.size) (_h3 : text.size ≤ 1000000000) :
    Calls Tryz.prog 103 #[.pointer (some ⟨b, 0, none⟩), .string c] w fun e w' =>
      e = .returned (.bool (hd (lst c) ((lst text).drop at_))) ∧ ∃ k, w' = w.drewN k := by
  obtain ⟨c0, c1, c2, f1, f2, hlt⟩ := hsc.all
  clear hsc c2 f1 f2
  by_cases hat : at_ < text.size
  · have hl : at_ < (lst text).length := by rw [lst_length]; exact hat
    have hr : hd (lst c) ((lst text).drop at_) = decide ((0 : Int) ≤ Lib.indexByte (lst c) (text[at_]'hat)) := by
      rw [hd_drop _ _ _ hl, ← Lib.contains_iff_indexByte]; rfl
    have HR := Lib.hid hr
    clear hr hl
    have hat' : (at_ : Int) < (text.size : Int) := by omega
    have hati : (0 : Int) ≤ (at_ : Int) := by omega
    go_enter Tryz.func103, Tryz.ntmps103
    go_wp2
    go_quiet ((go_at_call 73; exact qs (Tryz.strings_IndexByte _ _ _)))
    go_wp2
    go_ret
    refine ⟨?_, _, rfl⟩
    rw [HR.out]
    simp [lst]
    rfl
  · have hd0 : decide ((at_ : Int) < (text.size : Int)) = false := decide_eq_false (by omega)
    have hr : hd (lst c) ((lst text).drop at_) = false := by rw [List.drop_of_length_le (by rw [lst_length]; omega)]; rfl
    have HR := Lib.hid hr
    clear hr
    go_enter Tryz.func103, Tryz.ntmps103
    go_wp2
    go_quiet (fail)
    go_wp2
    go_ret
    exact ⟨by rw [HR.out]; rfl, _, rfl⟩

/-- 'letter', over the bytes. -/
def letB (c : Int) : Bool := (decide (97 ≤ c) && decide (c ≤ 122)) || (decide (65 ≤ c) && decide (c ≤ 90))

theorem letter_any (c : Int) (w : World) (h0 : 0 ≤ c) (h1 : c < 256) :
    Calls Tryz.prog 72 #[.int .u8 c] w fun e w' => e = .returned (.bool (letB c)) ∧ w = w' := by
  go_enter Tryz.func72, Tryz.ntmps72
  go_wp2
  all_goals go_ret
  all_goals refine ⟨?_, rfl⟩
  all_goals (simp [letB, *]; try omega)

/-- What the row of 'Small' holds after k rounds. -/
structure SmallRow (s : ByteArray) (B : Nat) (k : Nat) (wr : World) : Prop where
  cells : ∀ j, j < s.size → wr.cell? ⟨B, j, none⟩ = some (.int .u8 ((if j < k then low ((lst s).getD j 0) else (lst s).getD j 0).toNat))
  free : ∀ j, j < s.size → wr.frozen? ⟨B, j, none⟩ = false

theorem low_toNat (c : UInt8) : ((low c).toNat : Int) = if 65 ≤ (c.toNat : Int) ∧ (c.toNat : Int) ≤ 90 then (c.toNat : Int) + 32 else c.toNat := by
  unfold low
  simp only [UInt8.le_iff_toNat_le]
  have e1 : (65 : UInt8).toNat = 65 := rfl
  have e2 : (90 : UInt8).toNat = 90 := rfl
  rw [e1, e2]
  by_cases h : 65 ≤ c.toNat ∧ c.toNat ≤ 90
  · rw [if_pos h, if_pos (by omega), UInt8.toNat_add]
    have : (32 : UInt8).toNat = 32 := rfl
    omega
  · rw [if_neg h, if_neg (by omega)]

theorem SmallRow.start (s : ByteArray) (w : World) (e : TypeId) : SmallRow s w.heap.size 0 (Lib.bytesWorld w e s) where
  cells j hj := by rw [Lib.bytesWorld_cell w e s j hj]; simp [lst]
  free j hj := by
    have : s.data.size = s.size := rfl
    simp [World.frozen?, Lib.bytesWorld_at_new, Lib.bytesCells]
    omega

theorem SmallRow.keep {s : ByteArray} {B k : Nat} {wr : World} (h : SmallRow s B k wr) (hk : k < s.size) (hc : ¬ (65 ≤ (((lst s).getD k 0).toNat : Int) ∧ (((lst s).getD k 0).toNat : Int) ≤ 90)) : SmallRow s B (k + 1) wr where
  cells j hj := by
    rw [h.cells j hj]
    by_cases e : j = k
    · subst e
      have := low_toNat ((lst s).getD j 0)
      rw [if_neg hc] at this
      simp only [Nat.lt_irrefl, if_false, Nat.lt_succ_self, if_true]
      rw [this]
    · have : j < k + 1 ↔ j < k := by omega
      simp only [this]
  free := h.free

theorem SmallRow.turn {s : ByteArray} {B k : Nat} {wr : World} (h : SmallRow s B k wr) (hk : k < s.size) (hc : 65 ≤ (((lst s).getD k 0).toNat : Int) ∧ (((lst s).getD k 0).toNat : Int) ≤ 90) :
    SmallRow s B (k + 1) (wr.setCell ⟨B, k, none⟩ (.int .u8 ((((lst s).getD k 0).toNat : Int) + 32))) where
  cells j hj := by
    by_cases e : j = k
    · subst e
      rw [World.cell?_setCell_same _ _ _ (h.cells j hj)]
      have := low_toNat ((lst s).getD j 0)
      rw [if_pos hc] at this
      simp only [Nat.lt_succ_self, if_true]
      rw [this]
    · rw [World.cell?_setCell_other _ _ _ _ (by simp <;> omega), h.cells j hj]
      have : j < k + 1 ↔ j < k := by omega
      simp only [this]
  free j hj := by rw [World.frozen?_setCell]; exact h.free j hj

set_option maxHeartbeats 1000000 in
theorem small_any (s : ByteArray) (w : World) (hs : s.size ≤ 1000000000) :
    Calls Tryz.prog 100 #[.string s] w fun e w' => e = .returned (.string (mk (small (lst s)))) ∧ Below w.heap.size w w' := by
  have hconv := Lib.run_convert_string_bytes (P := Tryz.prog) w 9 105 5 s Tryz.underlying9 Tryz.underlying105 Tryz.underlying5
  go_enter Tryz.func100, Tryz.ntmps100
  go_wp2
  clear hconv
  go_loopw [10] (fun i wr => ∃ k : Nat, k ≤ s.size ∧ i = .int .i64 k ∧ SmallRow s w.heap.size k wr ∧ Below w.heap.size w wr) (fun i _ => s.size - (intOf i).toNat)
  case atStart =>
    refine ⟨0, Nat.zero_le _, rfl, SmallRow.start s w _, ⟨rfl, rfl, rfl, by rw [Lib.bytesWorld_size]; omega, fun k hk => Lib.bytesWorld_at_old _ _ _ _ hk⟩⟩
  case round =>
    obtain ⟨k, hk, rfl, hR, hB⟩ := hrel
    have HR := Lib.hid hR
    have HB := Lib.hid hB
    clear hB
    by_cases hlt : k < s.size
    · have hc := hR.cells k hlt
      have hf := hR.free k hlt
      rw [if_neg (Nat.lt_irrefl k)] at hc
      clear hR
      have hx0 : 0 ≤ (((lst s).getD k 0).toNat : Int) := by omega
      have hx1 : (((lst s).getD k 0).toNat : Int) < 256 := by have := ((lst s).getD k 0).toNat_lt; omega
      have hK := fun h => SmallRow.keep HR.out hlt h
      have hT := fun h => SmallRow.turn HR.out hlt h
      have HK := Lib.hid hK
      have HT := Lib.hid hT
      clear hK hT
      generalize (((lst s).getD k 0).toNat : Int) = x at *
      by_cases h65 : 65 ≤ x
      · by_cases h90 : x ≤ 90
        · go_wp2
          go_roundw
          case rel => exact ⟨k + 1, by omega, by go_num, by rw [show x + 97 - 65 = x + 32 by omega]; exact HT.out ⟨h65, h90⟩, HB.out.setCell (by simp) _⟩
          case measure => simp [intOf]; omega
        · go_wp2
          go_roundw
          case rel => exact ⟨k + 1, by omega, by go_num, HK.out (by omega), HB.out⟩
          case measure => simp [intOf]; omega
      · go_wp2
        go_roundw
        case rel => exact ⟨k + 1, by omega, by go_num, HK.out (by omega), HB.out⟩
        case measure => simp [intOf]; omega
    · obtain rfl : k = s.size := by omega
      have hconv := conv_bytes (P := Tryz.prog) wr 105 9 5 ⟨w.heap.size, 0, none⟩ s.size (grownCap w s.size 0 5) (small (lst s)) Tryz.underlying105 Tryz.underlying5 Tryz.underlying9 (by simp [small, lst_length]) (by
        intro j hj
        have := hR.cells j hj
        rw [if_pos hj] at this
        have hadd : (⟨w.heap.size, 0, none⟩ : Addr).add j = ⟨w.heap.size, j, none⟩ := by unfold Addr.add; split <;> simp_all
        rw [hadd, this]
        have hj' : j < (lst s).length := by rw [lst_length]; exact hj
        simp [small, List.getD, hj'])
      clear hR
      go_wp2
      go_ret
      exact ⟨rfl, HB.out⟩

end Go.Proofs.YtjkgmdnkejjppaaGreatDoor
/- strings.IndexRune, IndexAny, ContainsAny: an ASCII set, any text. -/
namespace Go.Proofs.YtjkgmdnkejjppaaGreatDoor
open Go Go.RowKit

def AsciiL (l : List UInt8) : Prop := ∀ (j : Nat) b, l[j]? = some b → b.toNat < 128

theorem lst_get (s : ByteArray) (i : Nat) (h : i < s.size) : (lst s)[i]? = some (s[i]'h) := Lib.data_getElem? s i h
theorem indexByte_none (c : UInt8) : ∀ l : List UInt8, (∀ b ∈ l, b ≠ c) → Lib.indexByte l c = -1
  | [], _ => rfl
  | b :: l, h => by
    have h1 : b ≠ c := h b (by simp)
    have h2 := indexByte_none c l (fun x hx => h x (by simp [hx]))
    simp [Lib.indexByte, h1, h2]

set_option maxHeartbeats 400000 in
set_option maxRecDepth 100000 in
/-- U+FFFD in an ASCII text: nowhere. -/
theorem indexRune_bad (s : ByteArray) (w : World) (ha : AsciiL (lst s)) (_hs : s.size ≤ 1000000000) :
    Calls Tryz.prog 128 #[.string s, .int .i32 65533] w fun e w' => e = .returned (.int .i64 (-1)) ∧ Below w.heap.size w w' := by
  have HA := Lib.hid ha
  clear ha
  go_enter Tryz.func128, Tryz.ntmps128
  go_wp2
  go_loopg [5, 6, 176, 177, 178, 179, 180, 181] s.size (fun g _ _ _ _ _ _ _ _ wx => ∃ i : Nat, i + g = s.size ∧ wx = w.iter s i)
  case atStart => exact ⟨0, by omega, rfl⟩
  case round =>
    obtain ⟨i, hig, rfl⟩ := hrel
    cases gk with
    | zero =>
      obtain rfl : i = s.size := by omega
      have hnx := run_next_end (P := Tryz.prog) w s s.size
      go_wp2
      go_ret
      exact ⟨rfl, (Below.refl _ _).alloc (Nat.le_refl _) _⟩
    | succ g =>
      have hi : i < s.size := by omega
      have hx128 : (s[i]'hi).toNat < 128 := HA.out i _ (lst_get s i hi)
      have hnx := fun ty => run_next_ascii (P := Tryz.prog) w s i ty hi hx128
      have hb : (((s[i]'hi).toNat : Int) == 65533) = false := beq_eq_false_iff_ne.2 (by omega)
      go_wp2
      go_roundg g
      case measure => omega
      case rel => exact ⟨i + 1, by omega, rfl⟩

theorem encode_high (r : Int) (h : 128 ≤ r) : 2 ≤ (Utf8.encode r).size ∧ (Utf8.encode r).size ≤ 4 ∧ ∀ i (hi : i < (Utf8.encode r).size), 128 ≤ ((Utf8.encode r)[i]'hi).toNat := by
  have hv : ∀ c : Nat, 128 ≤ c → c ≤ 1114111 → (if c < 0x80 then (⟨#[UInt8.ofNat c]⟩ : ByteArray) else if c < 0x800 then ⟨#[UInt8.ofNat (0xC0 + c / 64), UInt8.ofNat (0x80 + c % 64)]⟩
      else if c < 0x10000 then ⟨#[UInt8.ofNat (0xE0 + c / 4096), UInt8.ofNat (0x80 + c / 64 % 64), UInt8.ofNat (0x80 + c % 64)]⟩
      else ⟨#[UInt8.ofNat (0xF0 + c / 262144), UInt8.ofNat (0x80 + c / 4096 % 64), UInt8.ofNat (0x80 + c / 64 % 64), UInt8.ofNat (0x80 + c % 64)]⟩) = Utf8.encode r →
      2 ≤ (Utf8.encode r).size ∧ (Utf8.encode r).size ≤ 4 ∧ ∀ x ∈ lst (Utf8.encode r), 128 ≤ x.toNat := by
    intro c h1 h2 he
    rw [← he, if_neg (by omega)]
    have hof : ∀ n : Nat, 128 ≤ n → n < 256 → 128 ≤ (UInt8.ofNat n).toNat := fun n a b => by rw [UInt8.toNat_ofNat']; omega
    by_cases c1 : c < 0x800
    · rw [if_pos c1]
      refine ⟨Nat.le_refl 2, (by omega : 2 ≤ 4), ?_⟩
      intro x hx
      rcases (List.mem_cons.1 hx) with rfl | hx
      · exact hof _ (by omega) (by omega)
      rcases (List.mem_cons.1 hx) with rfl | hx
      · exact hof _ (by omega) (by omega)
      cases hx
    · rw [if_neg c1]
      by_cases c2 : c < 0x10000
      · rw [if_pos c2]
        refine ⟨(by omega : 2 ≤ 3), (by omega : 3 ≤ 4), ?_⟩
        intro x hx
        rcases (List.mem_cons.1 hx) with rfl | hx
        · exact hof _ (by omega) (by omega)
        rcases (List.mem_cons.1 hx) with rfl | hx
        · exact hof _ (by omega) (by omega)
        rcases (List.mem_cons.1 hx) with rfl | hx
        · exact hof _ (by omega) (by omega)
        cases hx
      · rw [if_neg c2]
        refine ⟨(by omega : 2 ≤ 4), Nat.le_refl 4, ?_⟩
        intro x hx
        rcases (List.mem_cons.1 hx) with rfl | hx
        · exact hof _ (by omega) (by omega)
        rcases (List.mem_cons.1 hx) with rfl | hx
        · exact hof _ (by omega) (by omega)
        rcases (List.mem_cons.1 hx) with rfl | hx
        · exact hof _ (by omega) (by omega)
        rcases (List.mem_cons.1 hx) with rfl | hx
        · exact hof _ (by omega) (by omega)
        cases hx
  have : 2 ≤ (Utf8.encode r).size ∧ (Utf8.encode r).size ≤ 4 ∧ ∀ x ∈ lst (Utf8.encode r), 128 ≤ x.toNat := by
    by_cases hv' : Utf8.valid r = true
    · refine hv r.toNat (by omega) ?_ ?_
      · simp [Utf8.valid] at hv'
        omega
      · simp only [Utf8.encode, hv', if_true]
    · refine hv Utf8.runeError (by decide) (by decide) ?_
      simp only [Utf8.encode, hv']
      rfl
  refine ⟨this.1, this.2.1, fun i hi => this.2.2 _ (List.mem_of_getElem? (lst_get _ i hi))⟩

set_option maxHeartbeats 400000 in
set_option maxRecDepth 100000 in
theorem indexRune_valid (s : ByteArray) (r : Int) (w : World) (ha : AsciiL (lst s)) (_hs : s.size ≤ 1000000000) (h0 : 128 ≤ r) (h1 : Lib.validRune r = true) (h2 : (r == 65533) = false) :
    Calls Tryz.prog 128 #[.string s, .int .i32 r] w fun e w' => e = .returned (.int .i64 (-1)) ∧ Below w.heap.size w w' := by
  have HA := Lib.hid ha
  clear ha
  have hc : decide (r < 128) = false := decide_eq_false (by omega)
  obtain ⟨e2, e4, eh⟩ := encode_high r h0
  have EH := Lib.hid eh
  clear eh
  generalize hE : Utf8.encode r = E at *
  have HE := Lib.hid hE
  clear hE
  obtain ⟨m, hm⟩ : ∃ m : Nat, E.size = m + 1 := ⟨E.size - 1, by omega⟩
  have HM := Lib.hid hm
  clear hm
  go_enter Tryz.func128, Tryz.ntmps128
  go_wp2_with fail
  refine (Tryz.utf8_ValidRune _ _).mono ?_
  rintro e w' ⟨rfl, hw⟩
  rw [hw]
  clear hw
  go_wp2_with fail
  go_step3
  go_wp2_with fail
  rw [HE.out, HM.out, show wrap64 (((m + 1 : Nat) : Int) - 1) = (m : Int) by rw [IntWalk.wrap64_in] <;> have := HM.out <;> omega]
  have hm1 : 1 ≤ m := by have := HM.out; omega
  have hm3 : m ≤ 3 := by have := HM.out; omega
  have hmE : m < E.size := by have := HM.out; omega
  refine wp_loop_rounds 1 ?_
  rw [rounds_succ]
  by_cases hlt : m < s.size
  · have x1 : (s[m]'hlt).toNat < 128 := HA.out m _ (lst_get s m hlt)
    have x2 : 128 ≤ (E[m]'hmE).toNat := EH.out m hmE
    have hne : (((s[m]'hlt).toNat : Int) != ((E[m]'hmE).toNat : Int)) = true := by rw [bne_iff_ne]; omega
    have hib : Lib.indexByte (lst (s.extract (m + 1) s.size)) (E[m]'hmE) = -1 := by
      refine indexByte_none _ _ fun b hb => ?_
      rw [lst_extract] at hb
      have hb' := List.mem_of_mem_drop (List.mem_of_mem_take hb)
      obtain ⟨j, hj⟩ := List.getElem?_of_mem hb'
      have := HA.out j b hj
      intro e
      rw [e] at this
      omega
    have HIB := Lib.hid hib
    clear hib
    go_wp2_with fail
    go_step3
    go_wp2_with fail
    go_quiet (fail)
    go_wp2_with fail
    go_quiet ((go_at_call 73; exact q2s (Tryz.strings_IndexByte _ _ _)))
    have hneg : Lib.indexByte (List.take (s.size - (m + 1)) (List.drop (m + 1) s.data.toList)) (E[m]'hmE) < 0 := by
      have h := HIB.out
      rw [lst_extract] at h
      unfold lst at h
      omega
    go_wp2_with fail
    rw [Exit.noGoto_ret]
    simp only [Exit.inBlock, Exit.then]
    rw [Exit.noGoto_ret]
    go_ret
    exact ⟨rfl, (Below.refl _ _).trans ⟨rfl, rfl, rfl, Nat.le_refl _, fun _ _ => rfl⟩⟩
  · go_wp2_with fail
    rw [Exit.noGoto_ret]
    go_ret
    exact ⟨rfl, Below.refl _ _⟩


theorem indexRune_high (s : ByteArray) (r : Int) (w : World) (ha : AsciiL (lst s)) (hs : s.size ≤ 1000000000) (h0 : 128 ≤ r) (h1 : Lib.validRune r = true) :
    Calls Tryz.prog 128 #[.string s, .int .i32 r] w fun e w' => e = .returned (.int .i64 (-1)) ∧ Below w.heap.size w w' := by
  by_cases e : r = 65533
  · subst e; exact indexRune_bad s w ha hs
  · exact indexRune_valid s r w ha hs h0 h1 (beq_eq_false_iff_ne.2 e)

/-- A rune that begins with a byte beyond ASCII holds such bytes alone, and is a valid rune. -/
theorem decode_span (s : ByteArray) (pos : Nat) (h : pos < s.size) (ha : 128 ≤ (s[pos]'h).toNat) :
    Lib.validRune (Utf8.decode s pos).1 = true ∧ 1 ≤ (Utf8.decode s pos).2 ∧ pos + (Utf8.decode s pos).2 ≤ s.size ∧ ∀ j, pos ≤ j → j < pos + (Utf8.decode s pos).2 → ∀ b, (lst s)[j]? = some b → 128 ≤ b.toNat := by
  have g : ∀ k, pos + k < s.size → ∀ b, (lst s)[pos + k]? = some b → b = s.get! (pos + k) := by
    intro k hk b hb
    rw [lst_get s _ hk] at hb
    cases hb
    simp [ByteArray.get!, getElem!_pos, hk]
    rfl
  have hb : ∀ k, (s.get! (pos + k)).toNat < 256 := fun k => (s.get! (pos + k)).toNat_lt
  have h0 : 128 ≤ (s.get! (pos + 0)).toNat := by rw [get_at s pos h]; exact ha
  have span : ∀ n, pos + n ≤ s.size → (∀ k, k < n → 128 ≤ (s.get! (pos + k)).toNat) → ∀ j, pos ≤ j → j < pos + n → ∀ b, (lst s)[j]? = some b → 128 ≤ b.toNat := by
    intro n hn hk j h1 h2 b hj
    obtain ⟨k, rfl⟩ : ∃ k, j = pos + k := ⟨j - pos, by omega⟩
    rw [g k (by omega) b hj]
    exact hk k (by omega)
  have one : Lib.validRune ((65533 : Nat) : Int) = true ∧ 1 ≤ 1 ∧ pos + 1 ≤ s.size ∧ ∀ j, pos ≤ j → j < pos + 1 → ∀ b, (lst s)[j]? = some b → 128 ≤ b.toNat :=
    ⟨by decide, Nat.le_refl 1, by omega, span 1 (by omega) (fun k hk => by
      obtain rfl : k = 0 := by omega
      exact h0)⟩
  have hb0 := hb 0; have hb1 := hb 1; have hb2 := hb 2; have hb3 := hb 3
  unfold Utf8.decode
  simp only [Utf8.runeError]
  rw [if_neg (by omega)]
  split
  · rename_i c2
    simp only [Bool.and_eq_true, decide_eq_true_eq, beq_iff_eq] at c2
    split
    · rename_i c3
      refine ⟨?_, (by omega : 1 ≤ 2), (by omega : pos + 2 ≤ s.size), span 2 (by omega) ?_⟩
      · simp only [Lib.validRune, decide_eq_true_eq]; omega
      · intro k hk
        rcases (by omega : k = 0 ∨ k = 1) with rfl | rfl <;> omega
    · exact one
  split
  · rename_i c2
    simp only [Bool.and_eq_true, decide_eq_true_eq, beq_iff_eq] at c2
    split
    · rename_i c3
      simp only [ge_iff_le, Utf8.valid, Bool.and_eq_true, Bool.or_eq_true, decide_eq_true_eq] at c3
      refine ⟨?_, (by omega : 1 ≤ 3), (by omega : pos + 3 ≤ s.size), span 3 (by omega) ?_⟩
      · simp only [Lib.validRune, decide_eq_true_eq]; omega
      · intro k hk
        rcases (by omega : k = 0 ∨ k = 1 ∨ k = 2) with rfl | rfl | rfl <;> omega
    · exact one
  split
  · rename_i c2
    simp only [Bool.and_eq_true, decide_eq_true_eq, beq_iff_eq] at c2
    split
    · rename_i c3
      simp only [ge_iff_le, Utf8.valid, Bool.and_eq_true, Bool.or_eq_true, decide_eq_true_eq] at c3
      refine ⟨?_, (by omega : 1 ≤ 4), (by omega : pos + 4 ≤ s.size), span 4 (by omega) ?_⟩
      · simp only [Lib.validRune, decide_eq_true_eq]; omega
      · intro k hk
        rcases (by omega : k = 0 ∨ k = 1 ∨ k = 2 ∨ k = 3) with rfl | rfl | rfl | rfl <;> omega
    · exact one
  · exact one

theorem noAny_span {l c : List UInt8} {i n : Nat} (h : Lib.NoAny l c i) (hc : AsciiL c) (hs : ∀ j, i ≤ j → j < i + n → ∀ b, l[j]? = some b → 128 ≤ b.toNat) : Lib.NoAny l c (i + n) := by
  intro j b hj hb
  by_cases e : j < i
  · exact h j b e hb
  · have h1 := hs j (by omega) hj b hb
    cases hcon : c.contains b with
    | false => rfl
    | true =>
      rw [List.contains_iff_mem] at hcon
      obtain ⟨k, hk⟩ := List.getElem?_of_mem hcon
      have := hc k b hk
      omega

set_option maxHeartbeats 1000000 in
set_option maxRecDepth 100000 in
theorem indexAny_short (s chars : ByteArray) (w : World) (h2 : 2 ≤ chars.size) (h8 : s.size ≤ 8) (hc : chars.size ≤ 100) (hac : AsciiL (lst chars)) :
    Calls Tryz.prog 120 #[.string s, .string chars] w fun e w' => e = .returned (.int .i64 (Lib.indexAny (lst s) (lst chars))) ∧ Below w.heap.size w w' := by
  have HC := Lib.hid hac
  clear hac
  have hemp : chars.toList.isEmpty = false := by
    rw [Lib.toList_data]
    cases h : chars.data.toList with
    | nil => have := Lib.size_eq chars; rw [h, List.length_nil] at this; omega
    | cons _ _ => rfl
  have hn1 : ((chars.size : Int) == 1) = false := beq_eq_false_iff_ne.2 (by omega)
  have h8z : decide ((8 : Int) < (s.size : Int)) = false := decide_eq_false (by omega)
  go_enter Tryz.func120, Tryz.ntmps120
  go_wp2_with (go_at_call 129; refine (Tryz.strings_shouldUseASCIISet _ _).mono ?_; rintro e w' ⟨rfl, hw⟩; rw [hw, h8z])
  have hlt0 : w.heap.size < (w.iter s 0).heap.size := by simp [World.iter]
  go_loopg [9, 10] s.size (fun g _ _ wx => ∃ (i : Nat) (W : World), W = wx ∧ i + g = s.size ∧ wx.heap[w.heap.size]? = some (.stringIter s i) ∧ Below w.heap.size w wx ∧ Lib.NoAny (lst s) (lst chars) i)
  case atStart => exact ⟨0, _, rfl, by omega, World.iter_heap _ _ _, (Below.refl _ _).alloc (Nat.le_refl _) _, Lib.NoAny.zero _ _⟩
  case round =>
    obtain ⟨i, wr, rfl, hig, hit, hb, hno⟩ := hrel
    have HN := Lib.hid hno
    have HB := Lib.hid hb
    have HI := Lib.hid hit
    have hwz : w.heap.size < wr.heap.size := lt_of_block hit
    clear hno hb hit hlt0
    by_cases hi : i < s.size
    · by_cases hx128 : (s[i]'hi).toNat < 128
      · have hxl := lst_get s i hi
        have hnx := fun ty => Lib.run_next_ascii_at (P := Tryz.prog) wr w.heap.size s i ty HI.out hi hx128
        have hH := Lib.iterAt_heap wr w.heap.size s i (i + 1) HI.out
        have hB' := Lib.below_iterAt HB.out (Nat.le_refl _) s (i + 1)
        have HH := Lib.hid hH
        have HB2 := Lib.hid hB'
        have Hx := Lib.hid hxl
        clear hH hB' hxl
        generalize hxe : s[i]'hi = x at *
        clear hxe
        have hcon := Lib.contains_iff_indexByte (lst chars) x
        have hback : ((x.toNat : Int)).toNat.toUInt8 = x := by simp
        generalize hww : wr.iterAt w.heap.size s (i + 1) = w2 at *
        clear hww
        cases hin : (lst chars).contains x
        · rw [hin] at hcon
          have hlt : ¬ ((0 : Int) ≤ Lib.indexByte chars.data.toList x) := of_decide_eq_false hcon.symm
          clear hcon
          go_wp2_with (go_at_call 128; refine (Tryz.strings_IndexRune_ascii _ _ _ (by omega) (by omega)).mono ?_; rintro e w' ⟨rfl, hw⟩; rw [hw, hback])
          go_roundg (s.size - (i + 1))
          case measure => omega
          case rel => exact ⟨i + 1, _, rfl, by omega, HH.out, HB2.out, HN.out.succ Hx.out hin⟩
        · rw [hin] at hcon
          have hge : (0 : Int) ≤ Lib.indexByte chars.data.toList x := of_decide_eq_true hcon.symm
          clear hcon
          go_wp2_with (go_at_call 128; refine (Tryz.strings_IndexRune_ascii _ _ _ (by omega) (by omega)).mono ?_; rintro e w' ⟨rfl, hw⟩; rw [hw, hback])
          go_ret
          exact ⟨by rw [Lib.indexAny_hit HN.out Hx.out hin]; rfl, HB2.out⟩
      · obtain ⟨hv, hn1, hn2, hsp⟩ := decode_span s i hi (by omega)
        have hhi := (decode_high s i hi (by omega)).1
        have hnx := fun ty => Lib.run_next_any_at (P := Tryz.prog) wr w.heap.size s i ty HI.out hi
        have hH := Lib.iterAt_heap wr w.heap.size s i (i + (Utf8.decode s i).2) HI.out
        have hB' := Lib.below_iterAt HB.out (Nat.le_refl _) s (i + (Utf8.decode s i).2)
        have hz := Lib.iterAt_size wr w.heap.size s (i + (Utf8.decode s i).2)
        have hz' : w.heap.size < (wr.iterAt w.heap.size s (i + (Utf8.decode s i).2)).heap.size := by omega
        have HN2 := Lib.hid (noAny_span HN.out HC.out hsp)
        have HH := Lib.hid hH
        have HB2 := Lib.hid hB'
        clear hH hB' hsp hz
        generalize (Utf8.decode s i).2 = n at *
        have hr := Lib.hid hv
        clear hv
        generalize (Utf8.decode s i).1 = r at *
        generalize hww : wr.iterAt w.heap.size s (i + n) = w2 at *
        clear hww
        go_wp2_with fail
        refine (indexRune_high chars (r : Int) _ HC.out (by omega) (by omega) hr.out).mono ?_
        rintro e w3 ⟨rfl, hb3⟩
        have HB3 := Lib.hid hb3
        clear hb3
        go_wp2_with fail
        go_roundg (s.size - (i + n))
        case measure => omega
        case rel => exact ⟨i + n, _, rfl, by omega, by rw [HB3.out.block _ hz']; exact HH.out, HB2.out.trans (HB3.out.mono (by omega)), HN2.out⟩
    · have hnx := fun ty => Lib.run_next_end_at (P := Tryz.prog) wr w.heap.size s i ty HI.out hi
      go_wp2
      go_ret
      exact ⟨by rw [Lib.indexAny_none (by rw [lst_length, show s.size = i by omega]; exact HN.out)]; rfl, HB.out⟩


theorem zeroSet (w : World) : (zeroValue 173).run Tryz.prog w = .ok (.agg (Array.replicate 256 (.bool false))) w := by kernel_rfl

/-- strings.IndexAny, any text, an ASCII set. -/
theorem indexAny_any (s chars : ByteArray) (w : World) (hs : s.size ≤ 1000000000) (h1 : 1 ≤ chars.size) (hc : chars.size ≤ 100) (hac : AsciiL (lst chars)) :
    Calls Tryz.prog 120 #[.string s, .string chars] w fun e w' => e = .returned (.int .i64 (Lib.indexAny (lst s) (lst chars))) ∧ Below w.heap.size w w' := by
  by_cases h2 : chars.size = 1
  · refine (Tryz.strings_IndexAny_one s chars w h2 hac).mono ?_
    rintro e w' ⟨rfl, rfl⟩
    exact ⟨rfl, Below.refl _ _⟩
  · by_cases h8 : s.size ≤ 8
    · exact indexAny_short s chars w (by omega) h8 hc hac
    · refine (Tryz.strings_IndexAny_long zeroSet s chars w (by omega) (by omega) (by omega) (by omega) hac).mono ?_
      rintro e w' ⟨rfl, rfl⟩
      exact ⟨rfl, ((Below.refl _ _).alloc (Nat.le_refl _) _).alloc (by simp) _⟩

set_option maxHeartbeats 400000 in
theorem containsAny_any (s chars : ByteArray) (w : World) (hs : s.size ≤ 1000000000) (h1 : 1 ≤ chars.size) (hc : chars.size ≤ 100) (hac : AsciiL (lst chars)) :
    Calls Tryz.prog 115 #[.string s, .string chars] w fun e w' => e = .returned (.bool (decide (0 ≤ Lib.indexAny (lst s) (lst chars)))) ∧ Below w.heap.size w w' := by
  have HA := Lib.hid hac
  clear hac
  go_enter Tryz.func115, Tryz.ntmps115
  go_wp2_with (go_at_call 120; refine (indexAny_any _ _ _ hs h1 hc HA.out).mono ?_; rintro e w1 ⟨rfl, hb⟩)
  go_ret
  exact ⟨rfl, hb⟩

end Go.Proofs.YtjkgmdnkejjppaaGreatDoor
/- strings.Builder made by the call itself: the writers, over this translation (after the library's own contracts, which the copy check's refused branch keeps from being laid). -/
namespace Go.Proofs.YtjkgmdnkejjppaaGreatDoor
open Go Go.RowKit

/-- A builder in block b (of the call's own, from B on) that holds the bytes l. -/
def Bld (B b : Nat) (l : List UInt8) (w : World) : Prop := Lib.IsBuilderF 107 5 B b (Lib.byteCells l) w

theorem Bld.fresh (w : World) : Bld w.heap.size w.heap.size [] (w.alloc (.cells #[.pointer none, .slice none 0 0] 107)) :=
  Lib.IsBuilderF.of (Lib.fresh_isBuilder _ _ w)

/-- What lies wholly beneath the heap's end stays. -/
theorem Bld.below {B b : Nat} {l : List UInt8} {w w' : World} (h : Bld B b l w) (hb : Below w.heap.size w w') : Bld B b l w' := by
  have at_ : ∀ p, Lib.BuilderAtF 107 5 B b p (Lib.byteCells l) w → Lib.BuilderAtF 107 5 B b p (Lib.byteCells l) w' := by
    rintro p ⟨hB, v, hbk, hown, hne⟩
    refine ⟨hB, v, by rw [hb.block b (lt_of_block hbk)]; exact hbk, ⟨hown.1, ?_⟩, hne⟩
    rcases hown.2 with h0 | ⟨g, cap, cur, fz, hv, hBg, hg, r⟩
    · exact .inl h0
    · exact .inr ⟨g, cap, cur, fz, hv, hBg, by rw [hb.block g (lt_of_block hg)]; exact hg, r⟩
  rcases h with h | h
  · exact .inl (at_ _ h)
  · exact .inr (at_ _ h)

theorem sizeBuilder : (Tryz.prog.info? 107).map (·.size) = some 2 := by kernel_rfl
theorem neBuilder : 107 ≠ 5 := by decide

set_option maxHeartbeats 1000000 in
set_option maxRecDepth 100000 in
theorem copyCheck_used (b : Nat) (w : World) (h0 : w.cell? ⟨b, 0, none⟩ = some (.pointer (some ⟨b, 0, none⟩))) :
    Calls Tryz.prog 88 #[.pointer (some ⟨b, 0, none⟩)] w fun e w' => e = .returned (.tuple #[]) ∧ w' = w := by
  obtain ⟨j, hj, _⟩ := Option.map_eq_some_iff.1 sizeBuilder
  go_enter Tryz.func88, Tryz.ntmps88
  go_wp2
  rw [Lib.run_neq_ptr_same w _ Tryz.underlying104 hj]
  go_wp2
  go_end0
  exact ⟨rfl, rfl⟩

set_option maxHeartbeats 1000000 in
set_option maxRecDepth 100000 in
theorem copyCheck_fresh (b : Nat) (w : World) (h0 : w.cell? ⟨b, 0, none⟩ = some (.pointer none)) (hsh : w.shape? b = some (107, 2)) (hfz : w.frozen? ⟨b, 0, none⟩ = false) :
    Calls Tryz.prog 88 #[.pointer (some ⟨b, 0, none⟩)] w fun e w' => e = .returned (.tuple #[]) ∧ w' = w.setCell ⟨b, 0, none⟩ (.pointer (some ⟨b, 0, none⟩)) := by
  obtain ⟨j, hj, hjs⟩ := Option.map_eq_some_iff.1 sizeBuilder
  go_enter Tryz.func88, Tryz.ntmps88
  go_wp2
  rw [Lib.run_to_unsafe w ⟨b, 0, none⟩ Tryz.underlying104 Tryz.underlying149 hj (by rw [hjs]; decide) hsh (Nat.zero_lt_succ 1)]
  simp only [Result.andThen]
  rw [Oper.upon_value]
  go_wp2
  rw [run_callFunc_extern Tryz.func109 (by kernel_rfl) (by kernel_rfl) (by kernel_rfl) (e := Extern.AbiNoEscape.same) (by kernel_rfl)]
  rw [Lib.run_noEscape]
  simp only [Result.andThen]
  rw [Oper.upon_value]
  go_wp2
  rw [Lib.run_from_unsafe w ⟨b, 0, none⟩ Tryz.underlying149 Tryz.underlying104 hj hsh (by kernel_rfl)]
  simp only [Result.andThen]
  rw [Oper.upon_value]
  go_wp2
  go_end0
  exact ⟨rfl, rfl⟩

theorem copyCheck_any (B b : Nat) (bs : List Value) (w : World) (h : Lib.IsBuilderF 107 5 B b bs w) :
    Calls Tryz.prog 88 #[.pointer (some ⟨b, 0, none⟩)] w fun e w' => e = .returned (.tuple #[]) ∧ (Lib.BuilderAtF 107 5 B b (.pointer (some ⟨b, 0, none⟩)) bs w' ∧ Below B w w' ∧ Lib.OthersKept 5 (some b) w w') := by
  rcases h with h | h
  · refine (copyCheck_fresh b w h.cell0 h.shape h.frozen0).mono ?_
    rintro e w' ⟨rfl, rfl⟩
    exact ⟨rfl, h.used _, (Below.refl B w).setCell (p := ⟨b, 0, none⟩) h.1 _, (Lib.OthersKept.refl _ _ w).setCell ⟨b, 0, none⟩ rfl _⟩
  · refine (copyCheck_used b w h.cell0).mono ?_
    rintro e w' ⟨rfl, rfl⟩
    exact ⟨rfl, h, Below.refl B _, Lib.OthersKept.refl _ _ _⟩

theorem infoByte : (Tryz.prog.info? 5).map (fun i => (i.zero, i.size, i.bytes)) = some (some (.int .u8 0), 1, 1) := by kernel_rfl

set_option maxHeartbeats 2000000 in
set_option maxRecDepth 100000 in
theorem bByte (B b : Nat) (l : List UInt8) (c : Int) (cu : UInt8) (hcu : c = cu.toNat) (w : World) (h : Bld B b l w) (hlen : l.length + 1 ≤ 140737488355328) (hBw : B ≤ w.heap.size) :
    Calls Tryz.prog 62 #[.pointer (some ⟨b, 0, none⟩), .int .u8 c] w fun e w' => e = .returned .nilIface ∧ Bld B b (l ++ [cu]) w' ∧ Below B w w' ∧ Lib.OthersKept 5 (some b) w w' := by
  obtain ⟨i0, hi, hz0, hz1, hz2⟩ := info_parts infoByte
  subst hcu
  go_enter Tryz.func62, Tryz.ntmps62
  go_wp2_with (go_at_call 88; refine (copyCheck_any B b _ _ h).mono ?_)
  rintro e w1 ⟨rfl, h1, hb1, hk1⟩
  obtain ⟨hB, v, hbk, hown, hne⟩ := h1
  have hL := Lib.byteCells_length l
  have HL := Lib.hid hL
  clear hL
  have c0 : w1.cell? ⟨b, 0, none⟩ = some (.pointer (some ⟨b, 0, none⟩)) := by rw [Lib.cell_of_heap hbk]; rfl
  have c1 : w1.cell? ⟨b, 1, none⟩ = some v := by rw [Lib.cell_of_heap hbk]; rfl
  go_wp2_with (at_builtin; refine wpList_append_ownF _ rfl _ _ 105 rfl B 5 i0 (.int .u8 0) 1 1 Tryz.underlying105 hi hz0 hz1 hz2 rfl (by decide) _ _ _ rfl (hown.alloc _) ⟨w1.heap.size, 0, none⟩ 1 1 [.int .u8 cu.toNat] rfl rfl ?c1 ?c2 ?c3 ?c4 ?c5 ?_)
  case c1 =>
    intro j u hj
    match j, hj with
    | 0, hj => simp at hj; subst hj; simp [Addr.add]
  case c2 => intro u hu; simp at hu; subst hu; rfl
  case c3 => have := HL.out; unfold maxLen; omega
  case c4 => have := HL.out; omega
  case c5 => have := hb1.size; simp; omega
  intro v' w2 hown' hgrow _
  have hlt : b < w1.heap.size := by
    rcases Nat.lt_or_ge b w1.heap.size with h' | h'
    · exact h'
    · simp [Array.getElem?_eq_none h'] at hbk
  have hb2 : w2.heap[b]? = some (.cells #[.pointer (some ⟨b, 0, none⟩), v] 107 (0, 0)) := by
    rw [hgrow.block b (by simp; omega) (fun e => hne e.symm), Lib.alloc_old w1 _ b hlt]
    exact hbk
  have d0 : w2.cell? ⟨b, 0, none⟩ = some (.pointer (some ⟨b, 0, none⟩)) := by rw [Lib.cell_of_heap hb2]; rfl
  have d1 : w2.cell? ⟨b, 1, none⟩ = some v := by rw [Lib.cell_of_heap hb2]; rfl
  have f1 : w2.frozen? ⟨b, 1, none⟩ = false := Lib.frozen_of_heap hb2 1
  obtain ⟨g, cap, rfl⟩ : ∃ g cap, v' = .slice (some ⟨g, 0, none⟩) ((Lib.byteCells l).length + 1) cap := by
    rcases hown'.2 with ⟨_, h0⟩ | ⟨g, cap, cur, fz, hv, _⟩
    · omega
    · exact ⟨g, cap, hv⟩
  go_wp2
  go_ret
  refine ⟨rfl, ?_, ?_, ((hk1.alloc _).grown hgrow (Lib.ownsRowF_kind (hown.alloc _))).setCell ⟨b, 1, none⟩ rfl _⟩
  · refine .inr ?_
    rw [Lib.byteCells_append]
    exact Lib.BuilderAtF.put (T := 107) (e := 5) hB hb2 (bs' := Lib.byteCells l ++ Lib.byteCells [cu]) (by simpa [Lib.byteCells] using hown') neBuilder
  · exact ((hb1.alloc (by have := hb1.size; omega) _).grown hgrow (by have := hb1.size; simp; omega) (fun k hk => (hown.lt k hk).1)).setCell (p := ⟨b, 1, none⟩) hB _

set_option maxHeartbeats 4000000 in
set_option maxRecDepth 100000 in
theorem bRune (B b : Nat) (l : List UInt8) (r : Int) (hr0 : -2147483648 ≤ r) (hr1 : r ≤ 2147483647) (w : World) (h : Bld B b l w) (hlen : l.length + 4 ≤ 140737488355328) (hBw : B ≤ w.heap.size) :
    Calls Tryz.prog 75 #[.pointer (some ⟨b, 0, none⟩), .int .i32 r] w fun e w' => e = .returned (.tuple #[.int .i64 (Lib.runeCells r).length, .nilIface]) ∧ Bld B b (l ++ Lib.encodeRune r) w' ∧ Below B w w' ∧ Lib.OthersKept 5 (some b) w w' := by
  have hk4 := Lib.runeCells_le r
  have hL := Lib.byteCells_length l
  have HL := Lib.hid hL
  clear hL
  go_enter Tryz.func75, Tryz.ntmps75
  go_wp2_with (go_at_call 88; refine (copyCheck_any B b _ _ h).mono ?_)
  rintro e w1 ⟨rfl, h1, hb1, hk1⟩
  obtain ⟨hB, v, hbk, hown, hne⟩ := h1
  obtain ⟨ao, cap, rfl⟩ : ∃ ao cap, v = .slice ao (Lib.byteCells l).length cap := by
    rcases hown.2 with ⟨hv, h0⟩ | ⟨g, cap, cur, fz, hv, _⟩
    · exact ⟨none, 0, by rw [hv, h0]⟩
    · exact ⟨_, _, hv⟩
  have c0 : w1.cell? ⟨b, 0, none⟩ = some (.pointer (some ⟨b, 0, none⟩)) := by rw [Lib.cell_of_heap hbk]; rfl
  have c1 : w1.cell? ⟨b, 1, none⟩ = some (.slice ao (Lib.byteCells l).length cap) := by rw [Lib.cell_of_heap hbk]; rfl
  go_wp2_with (go_at_call 97; refine (Tryz.utf8_AppendRune_row B _ (Lib.byteCells l).length (Lib.byteCells l) r hr0 hr1 _ hown (by have := HL.out; omega) (by have := hb1.size; omega)).mono ?_)
  rintro e w2 ⟨v', rfl, hown', o, hgrow⟩
  have hlt : b < w1.heap.size := by
    rcases Nat.lt_or_ge b w1.heap.size with h' | h'
    · exact h'
    · simp [Array.getElem?_eq_none h'] at hbk
  have hb2 : w2.heap[b]? = some (.cells #[.pointer (some ⟨b, 0, none⟩), .slice ao (Lib.byteCells l).length cap] 107 (0, 0)) := by
    rw [hgrow.block b (by simp; omega) (fun e => hne e.symm), Lib.alloc_old w1 _ b hlt]
    exact hbk
  have d0 : w2.cell? ⟨b, 0, none⟩ = some (.pointer (some ⟨b, 0, none⟩)) := by rw [Lib.cell_of_heap hb2]; rfl
  have d1 : w2.cell? ⟨b, 1, none⟩ = some (.slice ao (Lib.byteCells l).length cap) := by rw [Lib.cell_of_heap hb2]; rfl
  have f1 : w2.frozen? ⟨b, 1, none⟩ = false := Lib.frozen_of_heap hb2 1
  obtain ⟨g, cap', rfl⟩ : ∃ g cap', v' = .slice (some ⟨g, 0, none⟩) ((Lib.byteCells l).length + (Lib.runeCells r).length) cap' := by
    rcases hown'.2 with ⟨_, h0⟩ | ⟨g, cap', cur, fz, hv, _⟩
    · omega
    · exact ⟨g, cap', hv⟩
  have hl0 : (Lib.byteCells l).length ≤ 140737488355328 := by have := HL.out; omega
  go_wp2
  go_ret2
  refine ⟨?_, ?_, ?_, ((hk1.alloc _).grown hgrow (Lib.ownsRowF_kind (hown.alloc _))).setCell ⟨b, 1, none⟩ rfl _⟩
  · have e : (((Lib.byteCells l).length : Int) + ((Lib.runeCells r).length : Int) - ((Lib.byteCells l).length : Int)) = ((Lib.runeCells r).length : Int) := by omega
    simp [e]
  · refine .inr ?_
    rw [Lib.byteCells_append, Lib.byteCells_encodeRune]
    exact Lib.BuilderAtF.put (T := 107) (e := 5) hB hb2 (bs' := Lib.byteCells l ++ Lib.runeCells r) (by simpa using hown') neBuilder
  · exact ((hb1.alloc (by have := hb1.size; omega) _).grown hgrow (by have := hb1.size; simp; omega) (fun k hk => (hown.lt k hk).1)).setCell (p := ⟨b, 1, none⟩) hB _

theorem bString (B b : Nat) (l : List UInt8) (w : World) (h : Bld B b l w) (hBw : B ≤ w.heap.size) :
    Calls Tryz.prog 63 #[.pointer (some ⟨b, 0, none⟩)] w fun e w' => e = .returned (.string (mk l)) ∧ Bld B b l w' ∧ Below B w w' ∧ Lib.OthersKept 5 (some b) w w' :=
  Tryz.Builder_String_any_k B b l w h hBw

end Go.Proofs.YtjkgmdnkejjppaaGreatDoor
