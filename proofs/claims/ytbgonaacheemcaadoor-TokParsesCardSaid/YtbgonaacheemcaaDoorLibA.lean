/- strings.IndexRune, IndexAny, ContainsAny: an ASCII set, any text. -/
import Derived.Test.YtbgonaacheemcaaDoorBase
import Derived.Test.YtbgonaacheemcaaDoorShelf
import Derived.Laws.RangeAny
import Derived.Laws.Runes
import Derived.Lib.OthersKept
import Derived.Lib.IndexAny
namespace Go.Proofs.YtbgonaacheemcaaDoor
open Go Go.RowKit

def AsciiL (l : List UInt8) : Prop := ∀ (j : Nat) b, l[j]? = some b → b.toNat < 128

theorem lst_get (s : ByteArray) (i : Nat) (h : i < s.size) : (lst s)[i]? = some (s[i]'h) := Lib.data_getElem? s i h
theorem indexByte_none (c : UInt8) : ∀ l : List UInt8, (∀ b ∈ l, b ≠ c) → Lib.indexByte l c = -1
  | [], _ => rfl
  | b :: l, h => by
    have h1 : b ≠ c := h b (by simp)
    have h2 := indexByte_none c l (fun x hx => h x (by simp [hx]))
    simp [Lib.indexByte, h1, h2]

set_option maxHeartbeats 400000 in
set_option maxRecDepth 100000 in
/-- U+FFFD in an ASCII text: nowhere. -/
theorem indexRune_bad (s : ByteArray) (w : World) (ha : AsciiL (lst s)) (_hs : s.size ≤ 1000000000) :
    Calls Tryd.prog 66 #[.string s, .int .i32 65533] w fun e w' => e = .returned (.int .i64 (-1)) ∧ Below w.heap.size w w' := by
  have HA := Lib.hid ha
  clear ha
  go_enter Tryd.func66, Tryd.ntmps66
  go_wp2
  go_loopg [5, 6, 176, 177, 178, 179, 180, 181] s.size (fun g _ _ _ _ _ _ _ _ wx => ∃ i : Nat, i + g = s.size ∧ wx = w.iter s i)
  case atStart => exact ⟨0, by omega, rfl⟩
  case round =>
    obtain ⟨i, hig, rfl⟩ := hrel
    cases gk with
    | zero =>
      obtain rfl : i = s.size := by omega
      have hnx := run_next_end (P := Tryd.prog) w s s.size
      go_wp2
      go_ret
      exact ⟨rfl, (Below.refl _ _).alloc (Nat.le_refl _) _⟩
    | succ g =>
      have hi : i < s.size := by omega
      have hx128 : (s[i]'hi).toNat < 128 := HA.out i _ (lst_get s i hi)
      have hnx := fun ty => run_next_ascii (P := Tryd.prog) w s i ty hi hx128
      have hb : (((s[i]'hi).toNat : Int) == 65533) = false := beq_eq_false_iff_ne.2 (by omega)
      go_wp2
      go_roundg g
      case measure => omega
      case rel => exact ⟨i + 1, by omega, rfl⟩

theorem encode_high (r : Int) (h : 128 ≤ r) : 2 ≤ (Utf8.encode r).size ∧ (Utf8.encode r).size ≤ 4 ∧ ∀ i (hi : i < (Utf8.encode r).size), 128 ≤ ((Utf8.encode r)[i]'hi).toNat := by
  have hv : ∀ c : Nat, 128 ≤ c → c ≤ 1114111 → (if c < 0x80 then (⟨#[UInt8.ofNat c]⟩ : ByteArray) else if c < 0x800 then ⟨#[UInt8.ofNat (0xC0 + c / 64), UInt8.ofNat (0x80 + c % 64)]⟩
      else if c < 0x10000 then ⟨#[UInt8.ofNat (0xE0 + c / 4096), UInt8.ofNat (0x80 + c / 64 % 64), UInt8.ofNat (0x80 + c % 64)]⟩
      else ⟨#[UInt8.ofNat (0xF0 + c / 262144), UInt8.ofNat (0x80 + c / 4096 % 64), UInt8.ofNat (0x80 + c / 64 % 64), UInt8.ofNat (0x80 + c % 64)]⟩) = Utf8.encode r →
      2 ≤ (Utf8.encode r).size ∧ (Utf8.encode r).size ≤ 4 ∧ ∀ x ∈ lst (Utf8.encode r), 128 ≤ x.toNat := by
    intro c h1 h2 he
    rw [← he, if_neg (by omega)]
    have hof : ∀ n : Nat, 128 ≤ n → n < 256 → 128 ≤ (UInt8.ofNat n).toNat := fun n a b => by rw [UInt8.toNat_ofNat']; omega
    by_cases c1 : c < 0x800
    · rw [if_pos c1]
      refine ⟨Nat.le_refl 2, (by omega : 2 ≤ 4), ?_⟩
      intro x hx
      rcases (List.mem_cons.1 hx) with rfl | hx
      · exact hof _ (by omega) (by omega)
      rcases (List.mem_cons.1 hx) with rfl | hx
      · exact hof _ (by omega) (by omega)
      cases hx
    · rw [if_neg c1]
      by_cases c2 : c < 0x10000
      · rw [if_pos c2]
        refine ⟨(by omega : 2 ≤ 3), (by omega : 3 ≤ 4), ?_⟩
        intro x hx
        rcases (List.mem_cons.1 hx) with rfl | hx
        · exact hof _ (by omega) (by omega)
        rcases (List.mem_cons.1 hx) with rfl | hx
        · exact hof _ (by omega) (by omega)
        rcases (List.mem_cons.1 hx) with rfl | hx
        · exact hof _ (by omega) (by omega)
        cases hx
      · rw [if_neg c2]
        refine ⟨(by omega : 2 ≤ 4), Nat.le_refl 4, ?_⟩
        intro x hx
        rcases (List.mem_cons.1 hx) with rfl | hx
        · exact hof _ (by omega) (by omega)
        rcases (List.mem_cons.1 hx) with rfl | hx
        · exact hof _ (by omega) (by omega)
        rcases (List.mem_cons.1 hx) with rfl | hx
        · exact hof _ (by omega) (by omega)
        rcases (List.mem_cons.1 hx) with rfl | hx
        · exact hof _ (by omega) (by omega)
        cases hx
  have : 2 ≤ (Utf8.encode r).size ∧ (Utf8.encode r).size ≤ 4 ∧ ∀ x ∈ lst (Utf8.encode r), 128 ≤ x.toNat := by
    by_cases hv' : Utf8.valid r = true
    · refine hv r.toNat (by omega) ?_ ?_
      · simp [Utf8.valid] at hv'
        omega
      · simp only [Utf8.encode, hv', if_true]
    · refine hv Utf8.runeError (by decide) (by decide) ?_
      simp only [Utf8.encode, hv']
      rfl
  refine ⟨this.1, this.2.1, fun i hi => this.2.2 _ (List.mem_of_getElem? (lst_get _ i hi))⟩

set_option maxHeartbeats 400000 in
set_option maxRecDepth 100000 in
theorem indexRune_valid (s : ByteArray) (r : Int) (w : World) (ha : AsciiL (lst s)) (_hs : s.size ≤ 1000000000) (h0 : 128 ≤ r) (h1 : Lib.validRune r = true) (h2 : (r == 65533) = false) :
    Calls Tryd.prog 66 #[.string s, .int .i32 r] w fun e w' => e = .returned (.int .i64 (-1)) ∧ Below w.heap.size w w' := by
  have HA := Lib.hid ha
  clear ha
  have hc : decide (r < 128) = false := decide_eq_false (by omega)
  obtain ⟨e2, e4, eh⟩ := encode_high r h0
  have EH := Lib.hid eh
  clear eh
  generalize hE : Utf8.encode r = E at *
  have HE := Lib.hid hE
  clear hE
  obtain ⟨m, hm⟩ : ∃ m : Nat, E.size = m + 1 := ⟨E.size - 1, by omega⟩
  have HM := Lib.hid hm
  clear hm
  go_enter Tryd.func66, Tryd.ntmps66
  go_wp2_with fail
  refine (Tryd.utf8_ValidRune _ _).mono ?_
  rintro e w' ⟨rfl, hw⟩
  rw [hw]
  clear hw
  go_wp2_with fail
  go_step3
  go_wp2_with fail
  rw [HE.out, HM.out, show wrap64 (((m + 1 : Nat) : Int) - 1) = (m : Int) by rw [IntWalk.wrap64_in] <;> have := HM.out <;> omega]
  have hm1 : 1 ≤ m := by have := HM.out; omega
  have hm3 : m ≤ 3 := by have := HM.out; omega
  have hmE : m < E.size := by have := HM.out; omega
  refine wp_loop_rounds 1 ?_
  rw [rounds_succ]
  by_cases hlt : m < s.size
  · have x1 : (s[m]'hlt).toNat < 128 := HA.out m _ (lst_get s m hlt)
    have x2 : 128 ≤ (E[m]'hmE).toNat := EH.out m hmE
    have hne : (((s[m]'hlt).toNat : Int) != ((E[m]'hmE).toNat : Int)) = true := by rw [bne_iff_ne]; omega
    have hib : Lib.indexByte (lst (s.extract (m + 1) s.size)) (E[m]'hmE) = -1 := by
      refine indexByte_none _ _ fun b hb => ?_
      rw [lst_extract] at hb
      have hb' := List.mem_of_mem_drop (List.mem_of_mem_take hb)
      obtain ⟨j, hj⟩ := List.getElem?_of_mem hb'
      have := HA.out j b hj
      intro e
      rw [e] at this
      omega
    have HIB := Lib.hid hib
    clear hib
    go_wp2_with fail
    go_step3
    go_wp2_with fail
    go_quiet (fail)
    go_wp2_with fail
    go_quiet ((go_at_call 22; exact q2s (Tryd.strings_IndexByte _ _ _)))
    have hneg : Lib.indexByte (List.take (s.size - (m + 1)) (List.drop (m + 1) s.data.toList)) (E[m]'hmE) < 0 := by
      have h := HIB.out
      rw [lst_extract] at h
      unfold lst at h
      omega
    go_wp2_with fail
    rw [Exit.noGoto_ret]
    simp only [Exit.inBlock, Exit.then]
    rw [Exit.noGoto_ret]
    go_ret
    exact ⟨rfl, (Below.refl _ _).trans ⟨rfl, rfl, rfl, Nat.le_refl _, fun _ _ => rfl⟩⟩
  · go_wp2_with fail
    rw [Exit.noGoto_ret]
    go_ret
    exact ⟨rfl, Below.refl _ _⟩


theorem indexRune_high (s : ByteArray) (r : Int) (w : World) (ha : AsciiL (lst s)) (hs : s.size ≤ 1000000000) (h0 : 128 ≤ r) (h1 : Lib.validRune r = true) :
    Calls Tryd.prog 66 #[.string s, .int .i32 r] w fun e w' => e = .returned (.int .i64 (-1)) ∧ Below w.heap.size w w' := by
  by_cases e : r = 65533
  · subst e; exact indexRune_bad s w ha hs
  · exact indexRune_valid s r w ha hs h0 h1 (beq_eq_false_iff_ne.2 e)

/-- A rune that begins with a byte beyond ASCII holds such bytes alone, and is a valid rune. -/
theorem decode_span (s : ByteArray) (pos : Nat) (h : pos < s.size) (ha : 128 ≤ (s[pos]'h).toNat) :
    Lib.validRune (Utf8.decode s pos).1 = true ∧ 1 ≤ (Utf8.decode s pos).2 ∧ pos + (Utf8.decode s pos).2 ≤ s.size ∧ ∀ j, pos ≤ j → j < pos + (Utf8.decode s pos).2 → ∀ b, (lst s)[j]? = some b → 128 ≤ b.toNat := by
  have g : ∀ k, pos + k < s.size → ∀ b, (lst s)[pos + k]? = some b → b = s.get! (pos + k) := by
    intro k hk b hb
    rw [lst_get s _ hk] at hb
    cases hb
    simp [ByteArray.get!, getElem!_pos, hk]
    rfl
  have hb : ∀ k, (s.get! (pos + k)).toNat < 256 := fun k => (s.get! (pos + k)).toNat_lt
  have h0 : 128 ≤ (s.get! (pos + 0)).toNat := by rw [get_at s pos h]; exact ha
  have span : ∀ n, pos + n ≤ s.size → (∀ k, k < n → 128 ≤ (s.get! (pos + k)).toNat) → ∀ j, pos ≤ j → j < pos + n → ∀ b, (lst s)[j]? = some b → 128 ≤ b.toNat := by
    intro n hn hk j h1 h2 b hj
    obtain ⟨k, rfl⟩ : ∃ k, j = pos + k := ⟨j - pos, by omega⟩
    rw [g k (by omega) b hj]
    exact hk k (by omega)
  have one : Lib.validRune ((65533 : Nat) : Int) = true ∧ 1 ≤ 1 ∧ pos + 1 ≤ s.size ∧ ∀ j, pos ≤ j → j < pos + 1 → ∀ b, (lst s)[j]? = some b → 128 ≤ b.toNat :=
    ⟨by decide, Nat.le_refl 1, by omega, span 1 (by omega) (fun k hk => by
      obtain rfl : k = 0 := by omega
      exact h0)⟩
  have hb0 := hb 0; have hb1 := hb 1; have hb2 := hb 2; have hb3 := hb 3
  unfold Utf8.decode
  simp only [Utf8.runeError]
  rw [if_neg (by omega)]
  split
  · rename_i c2
    simp only [Bool.and_eq_true, decide_eq_true_eq, beq_iff_eq] at c2
    split
    · rename_i c3
      refine ⟨?_, (by omega : 1 ≤ 2), (by omega : pos + 2 ≤ s.size), span 2 (by omega) ?_⟩
      · simp only [Lib.validRune, decide_eq_true_eq]; omega
      · intro k hk
        rcases (by omega : k = 0 ∨ k = 1) with rfl | rfl <;> omega
    · exact one
  split
  · rename_i c2
    simp only [Bool.and_eq_true, decide_eq_true_eq, beq_iff_eq] at c2
    split
    · rename_i c3
      simp only [ge_iff_le, Utf8.valid, Bool.and_eq_true, Bool.or_eq_true, decide_eq_true_eq] at c3
      refine ⟨?_, (by omega : 1 ≤ 3), (by omega : pos + 3 ≤ s.size), span 3 (by omega) ?_⟩
      · simp only [Lib.validRune, decide_eq_true_eq]; omega
      · intro k hk
        rcases (by omega : k = 0 ∨ k = 1 ∨ k = 2) with rfl | rfl | rfl <;> omega
    · exact one
  split
  · rename_i c2
    simp only [Bool.and_eq_true, decide_eq_true_eq, beq_iff_eq] at c2
    split
    · rename_i c3
      simp only [ge_iff_le, Utf8.valid, Bool.and_eq_true, Bool.or_eq_true, decide_eq_true_eq] at c3
      refine ⟨?_, (by omega : 1 ≤ 4), (by omega : pos + 4 ≤ s.size), span 4 (by omega) ?_⟩
      · simp only [Lib.validRune, decide_eq_true_eq]; omega
      · intro k hk
        rcases (by omega : k = 0 ∨ k = 1 ∨ k = 2 ∨ k = 3) with rfl | rfl | rfl | rfl <;> omega
    · exact one
  · exact one

theorem noAny_span {l c : List UInt8} {i n : Nat} (h : Lib.NoAny l c i) (hc : AsciiL c) (hs : ∀ j, i ≤ j → j < i + n → ∀ b, l[j]? = some b → 128 ≤ b.toNat) : Lib.NoAny l c (i + n) := by
  intro j b hj hb
  by_cases e : j < i
  · exact h j b e hb
  · have h1 := hs j (by omega) hj b hb
    cases hcon : c.contains b with
    | false => rfl
    | true =>
      rw [List.contains_iff_mem] at hcon
      obtain ⟨k, hk⟩ := List.getElem?_of_mem hcon
      have := hc k b hk
      omega

set_option maxHeartbeats 1000000 in
set_option maxRecDepth 100000 in
theorem indexAny_short (s chars : ByteArray) (w : World) (h2 : 2 ≤ chars.size) (h8 : s.size ≤ 8) (hc : chars.size ≤ 100) (hac : AsciiL (lst chars)) :
    Calls Tryd.prog 60 #[.string s, .string chars] w fun e w' => e = .returned (.int .i64 (Lib.indexAny (lst s) (lst chars))) ∧ Below w.heap.size w w' := by
  have HC := Lib.hid hac
  clear hac
  have hemp : chars.toList.isEmpty = false := by
    rw [Lib.toList_data]
    cases h : chars.data.toList with
    | nil => have := Lib.size_eq chars; rw [h, List.length_nil] at this; omega
    | cons _ _ => rfl
  have hn1 : ((chars.size : Int) == 1) = false := beq_eq_false_iff_ne.2 (by omega)
  have h8z : decide ((8 : Int) < (s.size : Int)) = false := decide_eq_false (by omega)
  go_enter Tryd.func60, Tryd.ntmps60
  go_wp2_with (go_at_call 67; refine (Tryd.strings_shouldUseASCIISet _ _).mono ?_; rintro e w' ⟨rfl, hw⟩; rw [hw, h8z])
  have hlt0 : w.heap.size < (w.iter s 0).heap.size := by simp [World.iter]
  go_loopg [9, 10] s.size (fun g _ _ wx => ∃ (i : Nat) (W : World), W = wx ∧ i + g = s.size ∧ wx.heap[w.heap.size]? = some (.stringIter s i) ∧ Below w.heap.size w wx ∧ Lib.NoAny (lst s) (lst chars) i)
  case atStart => exact ⟨0, _, rfl, by omega, World.iter_heap _ _ _, (Below.refl _ _).alloc (Nat.le_refl _) _, Lib.NoAny.zero _ _⟩
  case round =>
    obtain ⟨i, wr, rfl, hig, hit, hb, hno⟩ := hrel
    have HN := Lib.hid hno
    have HB := Lib.hid hb
    have HI := Lib.hid hit
    have hwz : w.heap.size < wr.heap.size := lt_of_block hit
    clear hno hb hit hlt0
    by_cases hi : i < s.size
    · by_cases hx128 : (s[i]'hi).toNat < 128
      · have hxl := lst_get s i hi
        have hnx := fun ty => Lib.run_next_ascii_at (P := Tryd.prog) wr w.heap.size s i ty HI.out hi hx128
        have hH := Lib.iterAt_heap wr w.heap.size s i (i + 1) HI.out
        have hB' := Lib.below_iterAt HB.out (Nat.le_refl _) s (i + 1)
        have HH := Lib.hid hH
        have HB2 := Lib.hid hB'
        have Hx := Lib.hid hxl
        clear hH hB' hxl
        generalize hxe : s[i]'hi = x at *
        clear hxe
        have hcon := Lib.contains_iff_indexByte (lst chars) x
        have hback : ((x.toNat : Int)).toNat.toUInt8 = x := by simp
        generalize hww : wr.iterAt w.heap.size s (i + 1) = w2 at *
        clear hww
        cases hin : (lst chars).contains x
        · rw [hin] at hcon
          have hlt : ¬ ((0 : Int) ≤ Lib.indexByte chars.data.toList x) := of_decide_eq_false hcon.symm
          clear hcon
          go_wp2_with (go_at_call 66; refine (Tryd.strings_IndexRune_ascii _ _ _ (by omega) (by omega)).mono ?_; rintro e w' ⟨rfl, hw⟩; rw [hw, hback])
          go_roundg (s.size - (i + 1))
          case measure => omega
          case rel => exact ⟨i + 1, _, rfl, by omega, HH.out, HB2.out, HN.out.succ Hx.out hin⟩
        · rw [hin] at hcon
          have hge : (0 : Int) ≤ Lib.indexByte chars.data.toList x := of_decide_eq_true hcon.symm
          clear hcon
          go_wp2_with (go_at_call 66; refine (Tryd.strings_IndexRune_ascii _ _ _ (by omega) (by omega)).mono ?_; rintro e w' ⟨rfl, hw⟩; rw [hw, hback])
          go_ret
          exact ⟨by rw [Lib.indexAny_hit HN.out Hx.out hin]; rfl, HB2.out⟩
      · obtain ⟨hv, hn1, hn2, hsp⟩ := decode_span s i hi (by omega)
        have hhi := (decode_high s i hi (by omega)).1
        have hnx := fun ty => Lib.run_next_any_at (P := Tryd.prog) wr w.heap.size s i ty HI.out hi
        have hH := Lib.iterAt_heap wr w.heap.size s i (i + (Utf8.decode s i).2) HI.out
        have hB' := Lib.below_iterAt HB.out (Nat.le_refl _) s (i + (Utf8.decode s i).2)
        have hz := Lib.iterAt_size wr w.heap.size s (i + (Utf8.decode s i).2)
        have hz' : w.heap.size < (wr.iterAt w.heap.size s (i + (Utf8.decode s i).2)).heap.size := by omega
        have HN2 := Lib.hid (noAny_span HN.out HC.out hsp)
        have HH := Lib.hid hH
        have HB2 := Lib.hid hB'
        clear hH hB' hsp hz
        generalize (Utf8.decode s i).2 = n at *
        have hr := Lib.hid hv
        clear hv
        generalize (Utf8.decode s i).1 = r at *
        generalize hww : wr.iterAt w.heap.size s (i + n) = w2 at *
        clear hww
        go_wp2_with fail
        refine (indexRune_high chars (r : Int) _ HC.out (by omega) (by omega) hr.out).mono ?_
        rintro e w3 ⟨rfl, hb3⟩
        have HB3 := Lib.hid hb3
        clear hb3
        go_wp2_with fail
        go_roundg (s.size - (i + n))
        case measure => omega
        case rel => exact ⟨i + n, _, rfl, by omega, by rw [HB3.out.block _ hz']; exact HH.out, HB2.out.trans (HB3.out.mono (by omega)), HN2.out⟩
    · have hnx := fun ty => Lib.run_next_end_at (P := Tryd.prog) wr w.heap.size s i ty HI.out hi
      go_wp2
      go_ret
      exact ⟨by rw [Lib.indexAny_none (by rw [lst_length, show s.size = i by omega]; exact HN.out)]; rfl, HB.out⟩


theorem zeroSet (w : World) : (zeroValue 93).run Tryd.prog w = .ok (.agg (Array.replicate 256 (.bool false))) w := by kernel_rfl

/-- strings.IndexAny, any text, an ASCII set. -/
theorem indexAny_any (s chars : ByteArray) (w : World) (hs : s.size ≤ 1000000000) (h1 : 1 ≤ chars.size) (hc : chars.size ≤ 100) (hac : AsciiL (lst chars)) :
    Calls Tryd.prog 60 #[.string s, .string chars] w fun e w' => e = .returned (.int .i64 (Lib.indexAny (lst s) (lst chars))) ∧ Below w.heap.size w w' := by
  by_cases h2 : chars.size = 1
  · refine (Tryd.strings_IndexAny_one s chars w h2 hac).mono ?_
    rintro e w' ⟨rfl, rfl⟩
    exact ⟨rfl, Below.refl _ _⟩
  · by_cases h8 : s.size ≤ 8
    · exact indexAny_short s chars w (by omega) h8 hc hac
    · refine (Tryd.strings_IndexAny_long zeroSet s chars w (by omega) (by omega) (by omega) (by omega) hac).mono ?_
      rintro e w' ⟨rfl, rfl⟩
      exact ⟨rfl, ((Below.refl _ _).alloc (Nat.le_refl _) _).alloc (by simp) _⟩

set_option maxHeartbeats 400000 in
theorem containsAny_any (s chars : ByteArray) (w : World) (hs : s.size ≤ 1000000000) (h1 : 1 ≤ chars.size) (hc : chars.size ≤ 100) (hac : AsciiL (lst chars)) :
    Calls Tryd.prog 54 #[.string s, .string chars] w fun e w' => e = .returned (.bool (decide (0 ≤ Lib.indexAny (lst s) (lst chars)))) ∧ Below w.heap.size w w' := by
  have HA := Lib.hid hac
  clear hac
  go_enter Tryd.func54, Tryd.ntmps54
  go_wp2_with (go_at_call 60; refine (indexAny_any _ _ _ hs h1 hc HA.out).mono ?_; rintro e w1 ⟨rfl, hb⟩)
  go_ret
  exact ⟨rfl, hb⟩

end Go.Proofs.YtbgonaacheemcaaDoor
