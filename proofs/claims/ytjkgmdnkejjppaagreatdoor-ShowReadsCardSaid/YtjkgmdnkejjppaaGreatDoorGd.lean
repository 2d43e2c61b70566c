/- Joined texts: Numb Unesc UnescB. -/
import Derived.Laws.IdiomStrings
import Derived.Lib.IfaceNeq
import Derived.Test.YtjkgmdnkejjppaaGreatDoorJParse
import Derived.Test.YtjkgmdnkejjppaaGreatDoorGc
/- ref.numbered, named, letter. -/
namespace Go.Proofs.YtjkgmdnkejjppaaGreatDoor
open Go Go.RowKit

/-- What the package-level variables hold that the tokenizer's road reads. -/
structure Glob (w : World) : Prop where
  maxLen : ∃ m, w.cell? ⟨4, 0, none⟩ = some (.int .i64 m)
  errSyntax : ∃ te pe, w.cell? ⟨5, 0, none⟩ = some (.iface te pe)
  size : 10 ≤ w.heap.size
theorem Glob.kept {S : Nat → Prop} {B : Nat} {w w' : World} (h : Glob w) (hk : Kept S B w w') (hB : 10 ≤ B) (hS : ∀ k, k < 10 → ¬ S k) : Glob w' where
  maxLen := by obtain ⟨m, hm⟩ := h.maxLen; exact ⟨m, by rw [hk.cell (by show 4 < B; omega) (hS _ (by decide))]; exact hm⟩
  errSyntax := by obtain ⟨te, pe, hm⟩ := h.errSyntax; exact ⟨te, pe, by rw [hk.cell (by show 5 < B; omega) (hS _ (by decide))]; exact hm⟩
  size := Nat.le_trans h.size hk.size
theorem Glob.below {B : Nat} {w w' : World} (h : Glob w) (hk : Below B w w') (hB : 10 ≤ B) : Glob w' := h.kept (S := fun _ => False) (Kept.of_below hk) hB (fun _ _ => id)

/-- What the inner ParseInt gives for such a text. -/
def IntPost (o : Option Nat) (e : Ending) : Prop := match o with
  | some n => e = .returned (.tuple #[.int .i64 n, .nilIface])
  | none => e = .returned (.tuple #[.int .i64 0, .iface 178 (.int .i64 2)])
theorem IntPost.some {n : Nat} : IntPost (some n) (.returned (.tuple #[.int .i64 n, .nilIface])) := rfl
theorem IntPost.none : IntPost none (.returned (.tuple #[.int .i64 0, .iface 178 (.int .i64 2)])) := rfl
/-- What strconv.ParseInt gives. -/
def IntPost2 (o : Option Nat) (e : Ending) : Prop := match o with
  | some n => e = .returned (.tuple #[.int .i64 n, .nilIface])
  | none => ∃ t v, e = .returned (.tuple #[.int .i64 0, .iface t v])
theorem IntPost2.some {n : Nat} : IntPost2 (some n) (.returned (.tuple #[.int .i64 n, .nilIface])) := rfl
theorem IntPost2.none {t : TypeId} {v : Value} : IntPost2 none (.returned (.tuple #[.int .i64 0, .iface t v])) := ⟨t, v, rfl⟩

def noSign (l : Bytes) : Prop := ∀ c, l.head? = some c → c ≠ 43 ∧ c ≠ 45


set_option maxHeartbeats 1000000 in
set_option maxRecDepth 100000 in
theorem iparseInt_10 (t : ByteArray) (hne : 1 ≤ t.size) (hmax : t.size ≤ 7) (hs : noSign (lst t)) (w : World) :
    Calls Tryz.prog 125 #[.string t, .int .i64 10, .int .i64 64] w fun e w' => IntPost (digitsFrom 10 0 (lst t)) e ∧ Below w.heap.size w w' := by
  have hemp : t.toList.isEmpty = false := by
    rw [← decide_eq_emptyBytes]
    exact decide_eq_false (fun h => by rw [h] at hne; exact absurd hne (by decide))
  have hh : (lst t).head? = some (t[0]'(by omega)) := by rw [List.head?_eq_getElem?]; exact lst_get t 0 (by omega)
  obtain ⟨s1, s2⟩ := hs _ hh
  have e1 : (((t[0]'(by omega)).toNat : Int) == 43) = false := beq_eq_false_iff_ne.2 (fun e => s1 (UInt8.toNat_inj.1 (by show _ = 43; omega)))
  have e2 : (((t[0]'(by omega)).toNat : Int) == 45) = false := beq_eq_false_iff_ne.2 (fun e => s2 (UInt8.toNat_inj.1 (by show _ = 45; omega)))
  clear hh hs s1 s2
  have hd := fun n (h : digitsFrom 10 0 (lst t) = some n) => digitsFrom_bound 10 (lst t) 0 0 n (by simp) h
  have HD := Lib.hid hd
  clear hd
  go_enter Tryz.func125, Tryz.ntmps125
  go_wp2_with fail
  refine (parseUint_10 t hne hmax w).mono ?_
  rintro e w1 ⟨hp, hb⟩
  have HB := Lib.hid hb
  clear hb
  cases hd : digitsFrom 10 0 (lst t) with
  | some n =>
    rw [hd] at hp
    obtain rfl : e = _ := hp
    have hn : n < 268435456 := by
      have h1 := HD.out n hd
      rw [lst_length] at h1
      exact Nat.lt_of_lt_of_le h1 (Nat.le_trans (Nat.pow_le_pow_right (by decide) (by omega : 0 + t.size ≤ 7)) (by decide))
    have HD2 := Lib.hid hd
    clear hd
    obtain ⟨a, ha⟩ : ∃ a : Int, a = n := ⟨_, rfl⟩
    have a0 : 0 ≤ a := by omega
    have a1 : a < 268435456 := by omega
    rw [← ha]
    have HA := Lib.hid ha
    clear ha hn
    go_wp2
    go_ret2
    exact ⟨by rw [HD2.out, show a = (n : Int) from HA.out]; exact IntPost.some, HB.out⟩
  | none =>
    rw [hd] at hp
    obtain rfl : e = _ := hp
    have HD2 := Lib.hid hd
    clear hd
    have hq2 : ∀ W, (binOp .neq 109 (.iface 178 (.int .i64 2)) (.iface 178 (.int .i64 1))).run Tryz.prog W = .ok (.bool true) W := fun W => Lib.run_neq_iface_int W 2 1 Tryz.underlying109 (by kernel_rfl) Tryz.underlying178
    go_wp2
    go_ret2
    exact ⟨by rw [HD2.out]; exact IntPost.none, HB.out⟩

set_option maxHeartbeats 1000000 in
set_option maxRecDepth 100000 in
theorem parseInt_10 (t : ByteArray) (hne : 1 ≤ t.size) (hmax : t.size ≤ 7) (hs : noSign (lst t)) (w : World) (hg : Glob w) :
    Calls Tryz.prog 116 #[.string t, .int .i64 10, .int .i64 64] w fun e w' => IntPost2 (digitsFrom 10 0 (lst t)) e ∧ Below w.heap.size w w' := by
  go_enter Tryz.func116, Tryz.ntmps116
  go_wp2_with fail
  refine (iparseInt_10 t hne hmax hs w).mono ?_
  rintro e w1 ⟨hp, hb⟩
  have HB := Lib.hid hb
  clear hb
  cases hd : digitsFrom 10 0 (lst t) with
  | some n =>
    rw [hd] at hp
    obtain rfl : e = _ := hp
    have HD2 := Lib.hid hd
    clear hd
    go_wp2
    go_ret2
    exact ⟨by rw [HD2.out]; exact IntPost2.some, HB.out⟩
  | none =>
    rw [hd] at hp
    obtain rfl : e = _ := hp
    have HD2 := Lib.hid hd
    clear hd
    obtain ⟨te, pe, he⟩ := (hg.below HB.out hg.size).errSyntax
    go_wp2_with fail
    refine (Tryz.strconv_toError_syntax _ t 10 64 _ w1 (by omega) he (.inr ⟨te, pe, rfl⟩)).mono ?_
    rintro e w2 ⟨N, rfl, h1, h2, h3⟩
    go_wp2
    go_ret2
    exact ⟨by rw [HD2.out]; exact IntPost2.none, HB.out.trans (h3.mono HB.out.size)⟩

set_option maxHeartbeats 1000000 in
set_option maxRecDepth 100000 in
theorem iparseInt_16 (t : ByteArray) (hne : 1 ≤ t.size) (hmax : t.size ≤ 7) (hs : noSign (lst t)) (w : World) :
    Calls Tryz.prog 125 #[.string t, .int .i64 16, .int .i64 64] w fun e w' => IntPost (digitsFrom 16 0 (lst t)) e ∧ Below w.heap.size w w' := by
  have hemp : t.toList.isEmpty = false := by
    rw [← decide_eq_emptyBytes]
    exact decide_eq_false (fun h => by rw [h] at hne; exact absurd hne (by decide))
  have hh : (lst t).head? = some (t[0]'(by omega)) := by rw [List.head?_eq_getElem?]; exact lst_get t 0 (by omega)
  obtain ⟨s1, s2⟩ := hs _ hh
  have e1 : (((t[0]'(by omega)).toNat : Int) == 43) = false := beq_eq_false_iff_ne.2 (fun e => s1 (UInt8.toNat_inj.1 (by show _ = 43; omega)))
  have e2 : (((t[0]'(by omega)).toNat : Int) == 45) = false := beq_eq_false_iff_ne.2 (fun e => s2 (UInt8.toNat_inj.1 (by show _ = 45; omega)))
  clear hh hs s1 s2
  have hd := fun n (h : digitsFrom 16 0 (lst t) = some n) => digitsFrom_bound 16 (lst t) 0 0 n (by simp) h
  have HD := Lib.hid hd
  clear hd
  go_enter Tryz.func125, Tryz.ntmps125
  go_wp2_with fail
  refine (parseUint_16 t hne hmax w).mono ?_
  rintro e w1 ⟨hp, hb⟩
  have HB := Lib.hid hb
  clear hb
  cases hd : digitsFrom 16 0 (lst t) with
  | some n =>
    rw [hd] at hp
    obtain rfl : e = _ := hp
    have hn : n < 268435456 := by
      have h1 := HD.out n hd
      rw [lst_length] at h1
      exact Nat.lt_of_lt_of_le h1 (Nat.le_trans (Nat.pow_le_pow_right (by decide) (by omega : 0 + t.size ≤ 7)) (by decide))
    have HD2 := Lib.hid hd
    clear hd
    obtain ⟨a, ha⟩ : ∃ a : Int, a = n := ⟨_, rfl⟩
    have a0 : 0 ≤ a := by omega
    have a1 : a < 268435456 := by omega
    rw [← ha]
    have HA := Lib.hid ha
    clear ha hn
    go_wp2
    go_ret2
    exact ⟨by rw [HD2.out, show a = (n : Int) from HA.out]; exact IntPost.some, HB.out⟩
  | none =>
    rw [hd] at hp
    obtain rfl : e = _ := hp
    have HD2 := Lib.hid hd
    clear hd
    have hq2 : ∀ W, (binOp .neq 109 (.iface 178 (.int .i64 2)) (.iface 178 (.int .i64 1))).run Tryz.prog W = .ok (.bool true) W := fun W => Lib.run_neq_iface_int W 2 1 Tryz.underlying109 (by kernel_rfl) Tryz.underlying178
    go_wp2
    go_ret2
    exact ⟨by rw [HD2.out]; exact IntPost.none, HB.out⟩

set_option maxHeartbeats 1000000 in
set_option maxRecDepth 100000 in
theorem parseInt_16 (t : ByteArray) (hne : 1 ≤ t.size) (hmax : t.size ≤ 7) (hs : noSign (lst t)) (w : World) (hg : Glob w) :
    Calls Tryz.prog 116 #[.string t, .int .i64 16, .int .i64 64] w fun e w' => IntPost2 (digitsFrom 16 0 (lst t)) e ∧ Below w.heap.size w w' := by
  go_enter Tryz.func116, Tryz.ntmps116
  go_wp2_with fail
  refine (iparseInt_16 t hne hmax hs w).mono ?_
  rintro e w1 ⟨hp, hb⟩
  have HB := Lib.hid hb
  clear hb
  cases hd : digitsFrom 16 0 (lst t) with
  | some n =>
    rw [hd] at hp
    obtain rfl : e = _ := hp
    have HD2 := Lib.hid hd
    clear hd
    go_wp2
    go_ret2
    exact ⟨by rw [HD2.out]; exact IntPost2.some, HB.out⟩
  | none =>
    rw [hd] at hp
    obtain rfl : e = _ := hp
    have HD2 := Lib.hid hd
    clear hd
    obtain ⟨te, pe, he⟩ := (hg.below HB.out hg.size).errSyntax
    go_wp2_with fail
    refine (Tryz.strconv_toError_syntax _ t 16 64 _ w1 (by omega) he (.inr ⟨te, pe, rfl⟩)).mono ?_
    rintro e w2 ⟨N, rfl, h1, h2, h3⟩
    go_wp2
    go_ret2
    exact ⟨by rw [HD2.out]; exact IntPost2.none, HB.out.trans (h3.mono HB.out.size)⟩

end Go.Proofs.YtjkgmdnkejjppaaGreatDoor
/- ref.numbered, named, letter, Unescape. -/
namespace Go.Proofs.YtjkgmdnkejjppaaGreatDoor
open Go Go.RowKit

theorem indexAny_iff (c : List UInt8) : ∀ l : List UInt8, 0 ≤ Lib.indexAny l c ↔ ∃ b ∈ l, c.contains b = true
  | [] => by simp [Lib.indexAny]
  | b :: l => by
    have ih := indexAny_iff c l
    have hge := Lib.indexAny_ge c l
    unfold Lib.indexAny
    by_cases hb : c.contains b = true
    · rw [if_pos hb]
      exact ⟨fun _ => ⟨b, by simp, hb⟩, fun _ => Int.le_refl _⟩
    · rw [if_neg hb]
      by_cases h1 : Lib.indexAny l c = -1
      · simp only [h1, beq_self_eq_true, if_true]
        rw [h1] at ih
        constructor
        · intro h; omega
        · rintro ⟨x, hx, hc⟩
          rcases List.mem_cons.1 hx with rfl | hx
          · exact absurd hc hb
          · exact absurd (ih.2 ⟨x, hx, hc⟩) (by omega)
      · rw [if_neg (by simpa using h1)]
        constructor
        · intro _
          obtain ⟨x, hx, hc⟩ := ih.1 (by omega)
          exact ⟨x, by simp [hx], hc⟩
        · intro _; omega

theorem digitsFrom_none (base : Nat) : ∀ (l : Bytes) (n : Nat) (c : UInt8), c ∈ l → digitOf base c = none → digitsFrom base n l = none
  | [], _, _, h, _ => by cases h
  | b :: l, n, c, h, hc => by
    unfold digitsFrom
    cases hd : digitOf base b with
    | none => rfl
    | some d =>
      rcases List.mem_cons.1 h with rfl | h
      · rw [hc] at hd; cases hd
      · exact digitsFrom_none base l _ c h hc

/-- A rune and whether there is one. -/
def RuneV : Option Int → Value
  | some x => .tuple #[.int .i32 x, .bool true]
  | none => .tuple #[.int .i32 0, .bool false]

theorem ascii3 : AsciiL (lst ⟨#[43, 45, 95]⟩) := by
  intro j b h
  match j, h with
  | 0, h => cases h; decide
  | 1, h => cases h; decide
  | 2, h => cases h; decide
  | j + 3, h => cases h

set_option maxHeartbeats 1000000 in
set_option maxRecDepth 100000 in
theorem numbered_10 (t : ByteArray) (hsz : t.size ≤ 1000000000) (w : World) (hg : Glob w) :
    Calls Tryz.prog 95 #[.string t, .int .i64 10, .int .i64 7] w fun e w' => e = .returned (RuneV (numberedM (lst t) 10 7)) ∧ Below w.heap.size w w' := by
  by_cases h0 : t.size = 0
  · have hemp : t.toList.isEmpty = true := by
      rw [Lib.toList_data]
      cases h : t.data.toList with
      | nil => rfl
      | cons _ _ => have := Lib.size_eq t; rw [h] at this; simp at this; omega
    have hM : numberedM (lst t) 10 7 = none := by
      have : lst t = [] := List.eq_nil_of_length_eq_zero (by rw [lst_length]; exact h0)
      simp [numberedM, this]
    have HM := Lib.hid hM
    clear hM h0
    go_enter Tryz.func95, Tryz.ntmps95
    go_wp2
    go_ret2
    exact ⟨by rw [HM.out]; rfl, Below.refl _ _⟩
  have hemp : t.toList.isEmpty = false := by
    rw [Lib.toList_data]
    cases h : t.data.toList with
    | nil => have := Lib.size_eq t; rw [h, List.length_nil] at this; omega
    | cons _ _ => rfl
  by_cases h1 : 7 < t.size
  · have hM : numberedM (lst t) 10 7 = none := by
      rw [numberedM, if_pos (.inr (by rw [lst_length]; exact h1))]
    have HM := Lib.hid hM
    clear hM h0
    have h1' : (7 : Int) < (t.size : Int) := by omega
    go_enter Tryz.func95, Tryz.ntmps95
    go_wp2
    go_ret2
    exact ⟨by rw [HM.out]; rfl, Below.refl _ _⟩
  have h1' : ¬ (7 : Int) < (t.size : Int) := by omega
  have hm1 : 1 ≤ t.size := by omega
  have hne : ¬ (lst t = [] ∨ 7 < (lst t).length) := by
    rw [lst_length]
    rintro (h | h)
    · have : (lst t).length = 0 := by rw [h]; rfl
      rw [lst_length] at this; omega
    · omega
  clear h0
  by_cases hany : 0 ≤ Lib.indexAny (lst t) (lst ⟨#[43, 45, 95]⟩)
  · have hM : numberedM (lst t) 10 7 = none := by
      obtain ⟨b, hb, hc⟩ := (indexAny_iff _ _).1 hany
      rw [numberedM, if_neg hne]
      have : digitOf 10 b = none := by
        rw [List.contains_iff_mem] at hc
        have hc' : b ∈ [43, 45, 95] := hc
        simp only [List.mem_cons, List.not_mem_nil, or_false] at hc'
        rcases hc' with rfl | rfl | rfl <;> decide
      rw [digitsFrom_none 10 _ 0 b hb this]
    have HM := Lib.hid hM
    clear hM hne
    go_enter Tryz.func95, Tryz.ntmps95
    go_wp2_with (go_at_call 115; refine (containsAny_any _ _ _ hsz (by decide) (by decide) ascii3).mono ?_; rintro e w1 ⟨rfl, hb⟩)
    go_ret2
    exact ⟨by rw [HM.out]; rfl, hb⟩
  · have hns : noSign (lst t) := by
      intro c hc
      have hmem : c ∈ lst t := List.mem_of_mem_head? hc
      constructor <;> rintro rfl <;> exact hany ((indexAny_iff _ _).2 ⟨_, hmem, by decide⟩)
    have HNS := Lib.hid hns
    have HNE := Lib.hid hne
    clear hns hne
    have hm7 : t.size ≤ 7 := by omega
    go_enter Tryz.func95, Tryz.ntmps95
    go_wp2_with (go_at_call 115; refine (containsAny_any _ _ _ hsz (by decide) (by decide) ascii3).mono ?_; rintro e w1 ⟨rfl, hb⟩)
    have HB := Lib.hid hb
    clear hb
    refine (parseInt_10 t hm1 hm7 HNS.out w1 (hg.below HB.out hg.size)).mono ?_
    rintro e w2 ⟨hp, hb2⟩
    have HB2 := Lib.hid (HB.out.trans (hb2.mono HB.out.size))
    clear hb2 hg
    cases hd : digitsFrom 10 0 (lst t) with
    | none =>
      rw [hd] at hp
      obtain ⟨x, v, rfl⟩ := hp
      have HM : Hid (numberedM (lst t) 10 7 = none) := by
        have h : numberedM (lst t) 10 7 = none := by rw [numberedM, if_neg HNE.out, hd]
        exact h
      clear hd
      go_wp2
      go_ret2
      exact ⟨by rw [HM.out]; rfl, HB2.out⟩
    | some n =>
      rw [hd] at hp
      obtain rfl : e = _ := hp
      have hn : n < 268435456 := by
        have h1 := digitsFrom_bound 10 (lst t) 0 0 n (by simp) hd
        rw [lst_length] at h1
        exact Nat.lt_of_lt_of_le h1 (Nat.le_trans (Nat.pow_le_pow_right (by decide) (by omega : 0 + t.size ≤ 7)) (by decide))
      have HM : Hid (numberedM (lst t) 10 7 = if n = 0 ∨ 1114111 < n ∨ Lib.validRune n = false then some (65533 : Int) else some (n : Int)) := by
        have h : numberedM (lst t) 10 7 = if n = 0 ∨ 1114111 < n ∨ Lib.validRune n = false then some (65533 : Int) else some (n : Int) := by rw [numberedM, if_neg HNE.out, hd]
        exact h
      clear hd
      by_cases c0 : n = 0
      · subst c0
        go_wp2
        go_ret2
        exact ⟨by rw [HM.out, if_pos (by simp)]; rfl, HB2.out⟩
      obtain ⟨a, ha⟩ : ∃ a : Int, a = n := ⟨_, rfl⟩
      have a0 : 0 ≤ a := by omega
      have a1 : a < 268435456 := by omega
      have c0' : (a == 0) = false := beq_eq_false_iff_ne.2 (by omega)
      rw [← ha]
      have HA := Lib.hid ha
      clear ha hn
      by_cases c1 : 1114111 < n
      · have c1' : (1114111 : Int) < a := by have := HA.out; omega
        clear c1 c0
        have c1 : Hid (1114111 < n) := by have h : 1114111 < n := by (have := HA.out; omega)
                                          exact h
        go_wp2
        go_ret2
        exact ⟨by rw [HM.out, if_pos (.inr (.inl c1.out))]; rfl, HB2.out⟩
      have c1' : ¬ (1114111 : Int) < a := by have := HA.out; omega
      have HC : Hid (¬ n = 0 ∧ ¬ 1114111 < n) := Lib.hid ⟨c0, c1⟩
      clear c0 c1
      cases hv : Lib.validRune a with
      | false =>
        go_wp2_with (go_at_call 117; refine (Tryz.utf8_ValidRune _ _).mono ?_; rintro e w' ⟨rfl, rfl⟩)
        go_ret2
        exact ⟨by rw [HM.out, if_pos (.inr (.inr (by rw [← (show a = (n : Int) from HA.out)]; exact hv)))]; rfl, HB2.out⟩
      | true =>
        go_wp2_with (go_at_call 117; refine (Tryz.utf8_ValidRune _ _).mono ?_; rintro e w' ⟨rfl, rfl⟩)
        go_ret2
        refine ⟨?_, HB2.out⟩
        have he : a = (n : Int) := HA.out
        rw [HM.out, if_neg (by rw [← he, hv]; have := HC.out; simp; omega), he]
        rfl

set_option maxHeartbeats 1000000 in
set_option maxRecDepth 100000 in
theorem numbered_16 (t : ByteArray) (hsz : t.size ≤ 1000000000) (w : World) (hg : Glob w) :
    Calls Tryz.prog 95 #[.string t, .int .i64 16, .int .i64 6] w fun e w' => e = .returned (RuneV (numberedM (lst t) 16 6)) ∧ Below w.heap.size w w' := by
  by_cases h0 : t.size = 0
  · have hemp : t.toList.isEmpty = true := by
      rw [Lib.toList_data]
      cases h : t.data.toList with
      | nil => rfl
      | cons _ _ => have := Lib.size_eq t; rw [h] at this; simp at this; omega
    have hM : numberedM (lst t) 16 6 = none := by
      have : lst t = [] := List.eq_nil_of_length_eq_zero (by rw [lst_length]; exact h0)
      simp [numberedM, this]
    have HM := Lib.hid hM
    clear hM h0
    go_enter Tryz.func95, Tryz.ntmps95
    go_wp2
    go_ret2
    exact ⟨by rw [HM.out]; rfl, Below.refl _ _⟩
  have hemp : t.toList.isEmpty = false := by
    rw [Lib.toList_data]
    cases h : t.data.toList with
    | nil => have := Lib.size_eq t; rw [h, List.length_nil] at this; omega
    | cons _ _ => rfl
  by_cases h1 : 6 < t.size
  · have hM : numberedM (lst t) 16 6 = none := by
      rw [numberedM, if_pos (.inr (by rw [lst_length]; exact h1))]
    have HM := Lib.hid hM
    clear hM h0
    have h1' : (6 : Int) < (t.size : Int) := by omega
    go_enter Tryz.func95, Tryz.ntmps95
    go_wp2
    go_ret2
    exact ⟨by rw [HM.out]; rfl, Below.refl _ _⟩
  have h1' : ¬ (6 : Int) < (t.size : Int) := by omega
  have hm1 : 1 ≤ t.size := by omega
  have hne : ¬ (lst t = [] ∨ 6 < (lst t).length) := by
    rw [lst_length]
    rintro (h | h)
    · have : (lst t).length = 0 := by rw [h]; rfl
      rw [lst_length] at this; omega
    · omega
  clear h0
  by_cases hany : 0 ≤ Lib.indexAny (lst t) (lst ⟨#[43, 45, 95]⟩)
  · have hM : numberedM (lst t) 16 6 = none := by
      obtain ⟨b, hb, hc⟩ := (indexAny_iff _ _).1 hany
      rw [numberedM, if_neg hne]
      have : digitOf 16 b = none := by
        rw [List.contains_iff_mem] at hc
        have hc' : b ∈ [43, 45, 95] := hc
        simp only [List.mem_cons, List.not_mem_nil, or_false] at hc'
        rcases hc' with rfl | rfl | rfl <;> decide
      rw [digitsFrom_none 16 _ 0 b hb this]
    have HM := Lib.hid hM
    clear hM hne
    go_enter Tryz.func95, Tryz.ntmps95
    go_wp2_with (go_at_call 115; refine (containsAny_any _ _ _ hsz (by decide) (by decide) ascii3).mono ?_; rintro e w1 ⟨rfl, hb⟩)
    go_ret2
    exact ⟨by rw [HM.out]; rfl, hb⟩
  · have hns : noSign (lst t) := by
      intro c hc
      have hmem : c ∈ lst t := List.mem_of_mem_head? hc
      constructor <;> rintro rfl <;> exact hany ((indexAny_iff _ _).2 ⟨_, hmem, by decide⟩)
    have HNS := Lib.hid hns
    have HNE := Lib.hid hne
    clear hns hne
    have hm7 : t.size ≤ 7 := by omega
    go_enter Tryz.func95, Tryz.ntmps95
    go_wp2_with (go_at_call 115; refine (containsAny_any _ _ _ hsz (by decide) (by decide) ascii3).mono ?_; rintro e w1 ⟨rfl, hb⟩)
    have HB := Lib.hid hb
    clear hb
    refine (parseInt_16 t hm1 hm7 HNS.out w1 (hg.below HB.out hg.size)).mono ?_
    rintro e w2 ⟨hp, hb2⟩
    have HB2 := Lib.hid (HB.out.trans (hb2.mono HB.out.size))
    clear hb2 hg
    cases hd : digitsFrom 16 0 (lst t) with
    | none =>
      rw [hd] at hp
      obtain ⟨x, v, rfl⟩ := hp
      have HM : Hid (numberedM (lst t) 16 6 = none) := by
        have h : numberedM (lst t) 16 6 = none := by rw [numberedM, if_neg HNE.out, hd]
        exact h
      clear hd
      go_wp2
      go_ret2
      exact ⟨by rw [HM.out]; rfl, HB2.out⟩
    | some n =>
      rw [hd] at hp
      obtain rfl : e = _ := hp
      have hn : n < 268435456 := by
        have h1 := digitsFrom_bound 16 (lst t) 0 0 n (by simp) hd
        rw [lst_length] at h1
        exact Nat.lt_of_lt_of_le h1 (Nat.le_trans (Nat.pow_le_pow_right (by decide) (by omega : 0 + t.size ≤ 7)) (by decide))
      have HM : Hid (numberedM (lst t) 16 6 = if n = 0 ∨ 1114111 < n ∨ Lib.validRune n = false then some (65533 : Int) else some (n : Int)) := by
        have h : numberedM (lst t) 16 6 = if n = 0 ∨ 1114111 < n ∨ Lib.validRune n = false then some (65533 : Int) else some (n : Int) := by rw [numberedM, if_neg HNE.out, hd]
        exact h
      clear hd
      by_cases c0 : n = 0
      · subst c0
        go_wp2
        go_ret2
        exact ⟨by rw [HM.out, if_pos (by simp)]; rfl, HB2.out⟩
      obtain ⟨a, ha⟩ : ∃ a : Int, a = n := ⟨_, rfl⟩
      have a0 : 0 ≤ a := by omega
      have a1 : a < 268435456 := by omega
      have c0' : (a == 0) = false := beq_eq_false_iff_ne.2 (by omega)
      rw [← ha]
      have HA := Lib.hid ha
      clear ha hn
      by_cases c1 : 1114111 < n
      · have c1' : (1114111 : Int) < a := by have := HA.out; omega
        clear c1 c0
        have c1 : Hid (1114111 < n) := by have h : 1114111 < n := by (have := HA.out; omega)
                                          exact h
        go_wp2
        go_ret2
        exact ⟨by rw [HM.out, if_pos (.inr (.inl c1.out))]; rfl, HB2.out⟩
      have c1' : ¬ (1114111 : Int) < a := by have := HA.out; omega
      have HC : Hid (¬ n = 0 ∧ ¬ 1114111 < n) := Lib.hid ⟨c0, c1⟩
      clear c0 c1
      cases hv : Lib.validRune a with
      | false =>
        go_wp2_with (go_at_call 117; refine (Tryz.utf8_ValidRune _ _).mono ?_; rintro e w' ⟨rfl, rfl⟩)
        go_ret2
        exact ⟨by rw [HM.out, if_pos (.inr (.inr (by rw [← (show a = (n : Int) from HA.out)]; exact hv)))]; rfl, HB2.out⟩
      | true =>
        go_wp2_with (go_at_call 117; refine (Tryz.utf8_ValidRune _ _).mono ?_; rintro e w' ⟨rfl, rfl⟩)
        go_ret2
        refine ⟨?_, HB2.out⟩
        have he : a = (n : Int) := HA.out
        rw [HM.out, if_neg (by rw [← he, hv]; have := HC.out; simp; omega), he]
        rfl

def namedI (s : Bytes) : Int := (namedM s).getD 0
set_option maxHeartbeats 400000 in
theorem named_any (t : ByteArray) (w : World) :
    Calls Tryz.prog 96 #[.string t] w fun e w' => e = .returned (.int .i32 (namedI (lst t))) ∧ w = w' := by
  go_enter Tryz.func96, Tryz.ntmps96
  go_wp2
  all_goals go_ret
  all_goals refine ⟨?_, rfl⟩
  all_goals simp_all [namedI, namedM, lst, Lib.toList_data]

theorem isEmpty_mk (s : ByteArray) : s.toList.isEmpty = (lst s).isEmpty := by rw [Lib.toList_data]; rfl
theorem get_of_lst {s : ByteArray} {i : Nat} {c : UInt8} (h : i < s.size) (hc : (lst s)[i]? = some c) : s[i]'h = c := by
  rw [lst_get s i h] at hc; exact Option.some.inj hc

theorem cutHash (s : ByteArray) (w : World) :
    Calls Tryz.prog 94 #[.string s, .string ⟨#[35]⟩] w fun e w' =>
      e = .returned (.tuple #[.string (match lst s with | 35 :: d => mk d | _ => s), .bool (match lst s with | 35 :: _ => true | _ => false)]) ∧ w = w' := by
  refine (Tryz.strings_CutPrefix s ⟨#[35]⟩ w).mono ?_
  rintro e w' ⟨rfl, rfl⟩
  refine ⟨?_, rfl⟩
  have h : s.data.toList = lst s := rfl
  rw [h]
  have hs := mk_lst s
  cases hl : lst s with
  | nil => rw [hl] at hs; simp [Lib.trimPrefix, Lib.hasPrefix, ← hs, mk]
  | cons c d =>
    by_cases hc : c = 35
    · subst hc
      simp [Lib.trimPrefix, Lib.hasPrefix, mk]
    · rw [hl] at hs
      have : ∀ (α : Type) (a b : α), (match (c :: d : List UInt8) with | 35 :: _ => a | _ => b) = b := by
        intro α a b
        split
        · rename_i h; injection h with h1 _; exact absurd h1 hc
        · rfl
      rw [this]
      have e2 : (match (c :: d : List UInt8) with | 35 :: d => mk d | _ => s) = s := by
        split
        · rename_i h; injection h with h1 _; exact absurd h1 hc
        · rfl
      rw [e2]
      have : Lib.hasPrefix (c :: d) [35] = false := by simp only [Lib.hasPrefix, List.isPrefixOf, Bool.and_true, beq_eq_false_iff_ne]; exact Ne.symm hc
      simp [Lib.trimPrefix, this, ← hs, mk]

set_option maxHeartbeats 1000000 in
set_option maxRecDepth 100000 in
theorem rletter_any (t : ByteArray) (hsz : t.size ≤ 1000000000) (w : World) (hg : Glob w) :
    Calls Tryz.prog 74 #[.string t] w fun e w' => e = .returned (RuneV (letterM (lst t))) ∧ Below w.heap.size w w' := by
  by_cases hc : ∃ d, lst t = 35 :: d
  · obtain ⟨d, hd⟩ := hc
    have hcut := cutHash t w
    rw [hd] at hcut
    simp only at hcut
    have hdz : (mk d).size ≤ 1000000000 := by
      have := lst_length t
      rw [hd] at this
      rw [mk_size]; simp at this; omega
    cases d with
    | nil =>
      have hM : letterM (lst t) = numberedM [] 10 7 := by rw [hd]; rfl
      have HM := Lib.hid hM
      have he : (mk []).toList.isEmpty = true := by rw [isEmpty_mk, lst_mk]; rfl
      have HC := Lib.hid hcut
      have HN := Lib.hid (numbered_10 (mk []) hdz w hg)
      rw [lst_mk] at HN
      clear hM hcut hd hg
      generalize mk [] = E at *
      go_enter Tryz.func74, Tryz.ntmps74
      go_wp2_with fail
      refine HC.out.mono ?_
      rintro e w1 ⟨rfl, rfl⟩
      go_wp2_with fail
      refine HN.out.mono ?_
      rintro e w2 ⟨rfl, hb⟩
      have HB := Lib.hid hb
      clear hb
      cases hm : numberedM [] 10 7 with
      | none =>
        rw [hm] at HM
        simp only [RuneV]
        clear hm
        go_wp2
        go_ret2
        exact ⟨by rw [HM.out]; rfl, HB.out⟩
      | some r =>
        rw [hm] at HM
        simp only [RuneV]
        clear hm
        go_wp2
        go_ret2
        exact ⟨by rw [HM.out]; rfl, HB.out⟩
    | cons x d' =>
      have he : (mk (x :: d')).toList.isEmpty = false := by rw [isEmpty_mk, lst_mk]; rfl
      have hz0 : 0 < (mk (x :: d')).size := by rw [mk_size]; simp
      have hx : (mk (x :: d'))[0]'hz0 = x := get_of_lst hz0 (by rw [lst_mk]; rfl)
      have hx256 := x.toNat_lt
      have HC := Lib.hid hcut
      by_cases hX : x = 120 ∨ x = 88
      · have hM : letterM (lst t) = numberedM d' 16 6 := by rw [hd]; simp [letterM, hX]
        have HM := Lib.hid hM
        have hext : (mk (x :: d')).extract 1 (mk (x :: d')).size = mk d' := by
          apply ext_lst
          rw [lst_extract, lst_mk, lst_mk, mk_size]
          simp
        have HE := Lib.hid hext
        have HN := Lib.hid (numbered_16 (mk d') (by rw [mk_size] at hdz ⊢; simp at hdz; omega) w hg)
        rw [lst_mk] at HN
        clear hM hcut hd hg hext
        generalize mk (x :: d') = E at *
        have HX := Lib.hid hX
        have h1 : ((x.toNat : Int) != 120) = false ∨ (((x.toNat : Int) != 120) = true ∧ ((x.toNat : Int) != 88) = false) := by
          rcases hX with rfl | rfl
          · left; rfl
          · right; exact ⟨rfl, rfl⟩
        clear hX
        rcases h1 with h1 | ⟨h1, h2⟩
        all_goals
          go_enter Tryz.func74, Tryz.ntmps74
          go_wp2_with fail
          refine HC.out.mono ?_
          rintro e w1 ⟨rfl, rfl⟩
          go_wp2_with fail
          rw [HE.out]
          refine HN.out.mono ?_
          rintro e w2 ⟨rfl, hb⟩
          have HB := Lib.hid hb
          clear hb
          cases hm : numberedM d' 16 6 with
          | none =>
            rw [hm] at HM
            simp only [RuneV]
            clear hm
            go_wp2
            go_ret2
            exact ⟨by rw [HM.out]; rfl, HB.out⟩
          | some r =>
            rw [hm] at HM
            simp only [RuneV]
            clear hm
            go_wp2
            go_ret2
            exact ⟨by rw [HM.out]; rfl, HB.out⟩
      · have hM : letterM (lst t) = numberedM (x :: d') 10 7 := by rw [hd]; simp [letterM, hX]
        have HM := Lib.hid hM
        have HN := Lib.hid (numbered_10 (mk (x :: d')) hdz w hg)
        rw [lst_mk] at HN
        clear hM hcut hd hg
        generalize mk (x :: d') = E at *
        have h1 : ((x.toNat : Int) == 120) = false := beq_eq_false_iff_ne.2 (fun e => hX (.inl (UInt8.toNat_inj.1 (by show _ = 120; omega))))
        have h2 : ((x.toNat : Int) == 88) = false := beq_eq_false_iff_ne.2 (fun e => hX (.inr (UInt8.toNat_inj.1 (by show _ = 88; omega))))
        have h1' : ((x.toNat : Int) != 120) = true := by rw [bne, h1]; rfl
        have h2' : ((x.toNat : Int) != 88) = true := by rw [bne, h2]; rfl
        clear hX
        go_enter Tryz.func74, Tryz.ntmps74
        go_wp2_with fail
        refine HC.out.mono ?_
        rintro e w1 ⟨rfl, rfl⟩
        go_wp2_with fail
        refine HN.out.mono ?_
        rintro e w2 ⟨rfl, hb⟩
        have HB := Lib.hid hb
        clear hb
        cases hm : numberedM (x :: d') 10 7 with
        | none =>
          rw [hm] at HM
          simp only [RuneV]
          clear hm
          go_wp2
          go_ret2
          exact ⟨by rw [HM.out]; rfl, HB.out⟩
        | some r =>
          rw [hm] at HM
          simp only [RuneV]
          clear hm
          go_wp2
          go_ret2
          exact ⟨by rw [HM.out]; rfl, HB.out⟩
  · have hM : letterM (lst t) = namedM (lst t) := by
      cases hl : lst t with
      | nil => rfl
      | cons c d =>
        unfold letterM
        split
        · rename_i h; exact absurd ⟨_, by rw [hl]; exact h⟩ hc
        · rfl
    have hcut : Calls Tryz.prog 94 #[.string t, .string ⟨#[35]⟩] w fun e w' => e = .returned (.tuple #[.string t, .bool false]) ∧ w = w' := by
      refine (cutHash t w).mono ?_
      rintro e w' ⟨rfl, rfl⟩
      refine ⟨?_, rfl⟩
      cases hl : lst t with
      | nil => rfl
      | cons c d =>
        have hne : c ≠ 35 := fun e => hc ⟨d, by rw [hl, e]⟩
        have e1 : (match (c :: d : List UInt8) with | 35 :: _ => true | _ => false) = false := by
          split
          · rename_i h; injection h with h1 _; exact absurd h1 hne
          · rfl
        have e2 : (match (c :: d : List UInt8) with | 35 :: d => mk d | _ => t) = t := by
          split
          · rename_i h; injection h with h1 _; exact absurd h1 hne
          · rfl
        rw [e1, e2]
    have HM := Lib.hid hM
    have HC := Lib.hid hcut
    clear hM hcut hc hg
    cases hn : namedM (lst t) with
    | none =>
      rw [hn] at HM
      have hI : namedI (lst t) = 0 := by simp [namedI, hn]
      have HI := Lib.hid hI
      clear hn hI
      go_enter Tryz.func74, Tryz.ntmps74
      go_wp2_with fail
      refine HC.out.mono ?_
      rintro e w1 ⟨rfl, rfl⟩
      go_wp2_with fail
      refine (named_any t _).mono ?_
      rintro e w1 ⟨rfl, rfl⟩
      rw [HI.out]
      go_wp2
      go_ret2
      exact ⟨by rw [HM.out]; rfl, Below.refl _ _⟩
    | some r =>
      rw [hn] at HM
      have hI : namedI (lst t) = r := by simp [namedI, hn]
      have HI := Lib.hid hI
      have hr0 : (r != 0) = true := by
        rw [bne_iff_ne]
        unfold namedM at hn
        repeat (split at hn; (cases hn; decide))
        cases hn
      clear hn hI
      go_enter Tryz.func74, Tryz.ntmps74
      go_wp2_with fail
      refine HC.out.mono ?_
      rintro e w1 ⟨rfl, rfl⟩
      go_wp2_with fail
      refine (named_any t _).mono ?_
      rintro e w1 ⟨rfl, rfl⟩
      rw [HI.out]
      go_wp2
      go_ret2
      exact ⟨by rw [HM.out]; rfl, Below.refl _ _⟩

end Go.Proofs.YtjkgmdnkejjppaaGreatDoor
/- ref.Unescape. -/
namespace Go.Proofs.YtjkgmdnkejjppaaGreatDoor
open Go Go.RowKit

theorem brk_split (c l : Bytes) : brk c l ++ brkR c l = l := List.takeWhile_append_dropWhile
theorem brk_le (c l : Bytes) : (brk c l).length ≤ l.length := by
  have h := congrArg List.length (brk_split c l)
  simp only [List.length_append] at h
  omega
theorem brk_take (c l : Bytes) : l.take (brk c l).length = brk c l := by
  have h := brk_split c l
  generalize brk c l = a at *
  generalize brkR c l = b at *
  subst h; simp
theorem brk_drop (c l : Bytes) : l.drop (brk c l).length = brkR c l := by
  have h := brk_split c l
  generalize brk c l = a at *
  generalize brkR c l = b at *
  subst h; simp

theorem unescN_fuel : ∀ (n m : Nat) (l : Bytes), l.length ≤ n → l.length ≤ m → unescN n l = unescN m l
  | 0, 0, _, _, _ => rfl
  | 0, m + 1, l, h, _ => by
    have : l = [] := List.eq_nil_of_length_eq_zero (by omega)
    subst this; rfl
  | n + 1, 0, l, _, h => by
    have : l = [] := List.eq_nil_of_length_eq_zero (by omega)
    subst this; rfl
  | n + 1, m + 1, [], _, _ => rfl
  | n + 1, m + 1, c :: r, h1, h2 => by
    simp only [List.length_cons] at h1 h2
    unfold unescN
    have e1 := unescN_fuel n m r (by omega) (by omega)
    have e2 := unescN_fuel n m (r.drop ((brk [59] r).length + 1)) (by simp; omega) (by simp; omega)
    rw [e1, e2]

theorem unesc_cons (c : UInt8) (r : Bytes) : unesc (c :: r) = (if c = 38 ∧ (brk [59] r).length < r.length then
      match letterM (brk [59] r) with
      | some x => Lib.encodeRune x ++ unesc (r.drop ((brk [59] r).length + 1))
      | none => c :: unesc r
    else c :: unesc r) := by
  have e2 : unescN r.length (r.drop ((brk [59] r).length + 1)) = unesc (r.drop ((brk [59] r).length + 1)) := unescN_fuel _ _ _ (by rw [List.length_drop]; omega) (Nat.le_refl _)
  show unescN (r.length + 1) (c :: r) = _
  unfold unescN
  rw [e2]
  rfl

theorem indexByte_brk (c : UInt8) : ∀ l : Bytes, Lib.indexByte l c = if (brk [c] l).length < l.length then ((brk [c] l).length : Int) else -1
  | [] => by simp [Lib.indexByte, brk]
  | b :: l => by
    have ih := indexByte_brk c l
    unfold Lib.indexByte
    by_cases hb : b = c
    · subst hb; simp [brk]
    · have hb1 : ([c] : List UInt8).contains b = false := by simp [hb]
      have hk : brk [c] (b :: l) = b :: brk [c] l := by simp [brk, hb]
      rw [hk, if_neg (by simpa using hb), ih]
      have hle := brk_le [c] l
      by_cases hlt : (brk [c] l).length < l.length
      · simp only [if_pos hlt, List.length_cons]
        rw [if_neg (by simp), if_pos (by omega)]
        simp
      · simp only [if_neg hlt, List.length_cons]
        simp
        omega

theorem encodeRune_le2 (r : Int) : (Lib.encodeRune r).length ≤ 4 := by
  rw [← Lib.runeCells_length]; exact (Lib.runeCells_le r).2

theorem unesc_length : ∀ (n : Nat) (l : Bytes), (unescN n l).length ≤ 4 * l.length
  | 0, _ => by simp [unescN]
  | n + 1, [] => by simp [unescN]
  | n + 1, c :: r => by
    have e1 := unesc_length n r
    have e2 := unesc_length n (r.drop ((brk [59] r).length + 1))
    unfold unescN
    split
    · split
      · rename_i x _
        have := encodeRune_le2 x
        simp only [List.length_append, List.length_cons, List.length_drop] at *
        omega
      · simp only [List.length_cons]; omega
    · simp only [List.length_cons]; omega

theorem letterM_range {l : Bytes} {x : Int} (h : letterM l = some x) : 0 ≤ x ∧ x ≤ 1114111 := by
  have hn : ∀ d b m, numberedM d b m = some x → 0 ≤ x ∧ x ≤ 1114111 := by
    intro d b m h
    unfold numberedM at h
    split at h
    · cases h
    · split at h
      · cases h
      · rename_i n _
        split at h
        · cases h; decide
        · rename_i hc
          cases h
          omega
  unfold letterM at h
  split at h
  · split at h
    · exact hn _ _ _ h
    · split at h
      · exact hn _ _ _ h
      · exact hn _ _ _ h
  · unfold namedM at h
    repeat (split at h; (cases h; decide))
    cases h

set_option maxHeartbeats 4000000 in
set_option maxRecDepth 100000 in
theorem unescape_any (s : ByteArray) (hsz : s.size ≤ 1000000000) (w : World) (hg : Glob w) :
    Calls Tryz.prog 51 #[.string s] w fun e w' => e = .returned (.string (mk (unesc (lst s)))) ∧ Below w.heap.size w w' := by
  have HG := Lib.hid hg
  clear hg
  have hb0 := Bld.fresh w
  have HB0 := Lib.hid hb0
  clear hb0
  go_enter Tryz.func51, Tryz.ntmps51
  go_wp2
  go_loopw [4] (fun vi wr => ∃ (i : Nat) (out : Bytes), i ≤ s.size ∧ vi = .int .i64 i ∧ Bld w.heap.size w.heap.size out wr ∧ Below w.heap.size w wr ∧ Hid (out.length ≤ 4 * i ∧ unesc (lst s) = out ++ unesc ((lst s).drop i))) (fun vi _ => s.size - (intOf vi).toNat)
  case atStart => exact ⟨0, [], Nat.zero_le _, rfl, HB0.out, (Below.refl _ _).alloc (Nat.le_refl _) _, by simp, rfl⟩
  case round =>
    obtain ⟨i, out, hi, rfl, hB, hb, hh⟩ := hrel
    have HB := Lib.hid hB
    have HW := Lib.hid hb
    have hz := hb.size
    clear hB hb
    by_cases hlt : i < s.size
    · have hl : i < (lst s).length := by rw [lst_length]; exact hlt
      have hdrop : (lst s).drop i = s[i]'hlt :: (lst s).drop (i + 1) := by
        rw [List.drop_eq_getElem_cons hl]; rfl
      have hc256 := (s[i]'hlt).toNat_lt
      -- the plain way: the byte goes in as it is
      have plain : unesc ((lst s).drop i) = s[i]'hlt :: unesc ((lst s).drop (i + 1)) → Hid ((out ++ [s[i]'hlt]).length ≤ 4 * (i + 1) ∧ unesc (lst s) = (out ++ [s[i]'hlt]) ++ unesc ((lst s).drop (i + 1))) := by
        intro h
        obtain ⟨h1, h2⟩ := hh.out
        have : (out ++ [s[i]'hlt]).length ≤ 4 * (i + 1) ∧ unesc (lst s) = (out ++ [s[i]'hlt]) ++ unesc ((lst s).drop (i + 1)) := ⟨by simp; omega, by rw [h2, h]; simp⟩
        exact this
      have hlen : out.length ≤ 4 * i := hh.out.1
      by_cases h38 : s[i]'hlt = 38
      · generalize hr : (lst s).drop (i + 1) = r at *
        have hrl : r.length = s.size - (i + 1) := by rw [← hr, List.length_drop, lst_length]
        have hlsi : lst (s.extract i s.size) = 38 :: r := by
          rw [lst_extract, hdrop, h38, List.take_of_length_le (by simp; omega)]
        by_cases hk : (brk [59] r).length < r.length
        · have hix : Lib.indexByte (lst (s.extract i s.size)) 59 = (((brk [59] r).length + 1 : Nat) : Int) := by
            rw [hlsi, indexByte_brk]
            have : brk [59] (38 :: r) = 38 :: brk [59] r := by simp [brk]
            rw [this, if_pos (by simpa using hk)]
            simp
          have hsub : lst (s.extract (i + 1) (i + ((brk [59] r).length + 1))) = brk [59] r := by
            rw [lst_extract, hr, show i + ((brk [59] r).length + 1) - (i + 1) = (brk [59] r).length by omega, brk_take]
          have hsubz : (s.extract (i + 1) (i + ((brk [59] r).length + 1))).size ≤ 1000000000 := by
            rw [← lst_length, hsub]; have := brk_le [59] r; omega
          have hLet := rletter_any (s.extract (i + 1) (i + ((brk [59] r).length + 1))) hsubz wr (HG.out.below HW.out HG.out.size)
          rw [hsub] at hLet
          have hIdx := (Tryz.strings_IndexByte (s.extract i s.size) 59 wr)
          have hix' : Lib.indexByte (s.extract i s.size).data.toList (59 : Int).toNat.toUInt8 = (((brk [59] r).length + 1 : Nat) : Int) := hix
          rw [hix'] at hIdx
          have hkz : i + ((brk [59] r).length + 1) < s.size := by omega
          have hc38 : (((s[i]'hlt).toNat : Int) == 38) = true := by rw [h38]; rfl
          have HLet := Lib.hid hLet
          have HIdx := Lib.hid hIdx
          cases hm : letterM (brk [59] r) with
          | none =>
            rw [hm] at HLet
            have hP := plain (by rw [hdrop, h38, unesc_cons, if_pos ⟨rfl, hk⟩, hm])
            rw [← hr] at hP
            have HBy := Lib.hid (bByte w.heap.size w.heap.size out ((s[i]'hlt).toNat : Int) (s[i]'hlt) rfl wr HB.out (by omega) hz)
            clear hLet hIdx hix hix' hsub hsubz hlsi plain hdrop h38 hl hr hm
            generalize (brk [59] r).length = k at *
            go_wp2_with fail
            refine HIdx.out.mono ?_
            rintro e w1 ⟨rfl, hw⟩
            rw [hw]
            clear hw
            go_wp2_with fail
            refine HLet.out.mono ?_
            rintro e w2 ⟨rfl, hb2⟩
            simp only [RuneV]
            have HB2 := Lib.hid (HB.out.below hb2)
            have HW2 := Lib.hid (HW.out.trans (hb2.mono hz))
            have hz2 := HW2.out.size
            have HBy := Lib.hid (bByte w.heap.size w.heap.size out ((s[i]'hlt).toNat : Int) (s[i]'hlt) rfl w2 HB2.out (by omega) hz2)
            clear hb2
            go_wp2_with fail
            refine HBy.out.mono ?_
            rintro e w3 ⟨rfl, hB3, hb3, hk3⟩
            have HB3 := Lib.hid hB3
            have HW3 := Lib.hid (HW2.out.trans hb3)
            clear hB3 hb3 hk3
            go_wp2_with fail
            go_roundw
            case rel => exact ⟨i + 1, _, by omega, by go_num, HB3.out, HW3.out, hP⟩
            case measure => simp [intOf]; omega
          | some x =>
            rw [hm] at HLet
            obtain ⟨x0, x1⟩ := letterM_range hm
            have hP : Hid ((out ++ Lib.encodeRune x).length ≤ 4 * (i + (brk [59] r).length + 2) ∧ unesc (lst s) = (out ++ Lib.encodeRune x) ++ unesc ((lst s).drop (i + (brk [59] r).length + 2))) := by
              have h1 := hh.out.2
              have h2 := encodeRune_le2 x
              have h3 : unesc ((lst s).drop i) = Lib.encodeRune x ++ unesc ((lst s).drop (i + (brk [59] r).length + 2)) := by
                rw [hdrop, h38, unesc_cons, if_pos ⟨rfl, hk⟩, hm]
                simp only
                rw [← hr, List.drop_drop, hr, show i + 1 + ((brk [59] r).length + 1) = i + (brk [59] r).length + 2 by omega]
              have : (out ++ Lib.encodeRune x).length ≤ 4 * (i + (brk [59] r).length + 2) ∧ unesc (lst s) = (out ++ Lib.encodeRune x) ++ unesc ((lst s).drop (i + (brk [59] r).length + 2)) := ⟨by rw [List.length_append]; omega, by rw [h1, h3, List.append_assoc]⟩
              exact this
            clear hLet hIdx hix hix' hsub hsubz hlsi plain hdrop h38 hl hr hm hk hrl
            generalize (brk [59] r).length = k at *
            go_wp2_with fail
            refine HIdx.out.mono ?_
            rintro e w1 ⟨rfl, hw⟩
            rw [hw]
            clear hw
            go_wp2_with fail
            refine HLet.out.mono ?_
            rintro e w2 ⟨rfl, hb2⟩
            simp only [RuneV]
            have HB2 := Lib.hid (HB.out.below hb2)
            have HW2 := Lib.hid (HW.out.trans (hb2.mono hz))
            have hz2 := HW2.out.size
            have HBy := Lib.hid (bRune w.heap.size w.heap.size out x (by omega) (by omega) w2 HB2.out (by omega) hz2)
            clear hb2
            go_wp2_with fail
            refine HBy.out.mono ?_
            rintro e w3 ⟨rfl, hB3, hb3, hk3⟩
            have HB3 := Lib.hid hB3
            have HW3 := Lib.hid (HW2.out.trans hb3)
            clear hB3 hb3 hk3
            go_wp2_with fail
            go_roundw
            case rel => exact ⟨i + k + 2, _, by omega, by go_num, HB3.out, HW3.out, hP⟩
            case measure => simp [intOf]; omega
        · have hix : Lib.indexByte (lst (s.extract i s.size)) 59 = -1 := by
            rw [hlsi, indexByte_brk]
            have : brk [59] (38 :: r) = 38 :: brk [59] r := by simp [brk]
            rw [this, if_neg (by simpa using hk)]
          have hIdx := (Tryz.strings_IndexByte (s.extract i s.size) 59 wr)
          have hix' : Lib.indexByte (s.extract i s.size).data.toList (59 : Int).toNat.toUInt8 = -1 := hix
          rw [hix'] at hIdx
          have hc38 : (((s[i]'hlt).toNat : Int) == 38) = true := by rw [h38]; rfl
          have HIdx := Lib.hid hIdx
          have hP := plain (by rw [hdrop, h38, unesc_cons, if_neg (fun h => hk h.2)])
          rw [← hr] at hP
          have HBy := Lib.hid (bByte w.heap.size w.heap.size out ((s[i]'hlt).toNat : Int) (s[i]'hlt) rfl wr HB.out (by omega) hz)
          clear hIdx hix hix' hlsi plain hdrop h38 hl hr hk hrl
          go_wp2_with fail
          refine HIdx.out.mono ?_
          rintro e w1 ⟨rfl, hw⟩
          rw [hw]
          clear hw
          go_wp2_with fail
          refine HBy.out.mono ?_
          rintro e w3 ⟨rfl, hB3, hb3, hk3⟩
          have HB3 := Lib.hid hB3
          have HW3 := Lib.hid (HW.out.trans hb3)
          clear hB3 hb3 hk3
          go_wp2_with fail
          go_roundw
          case rel => exact ⟨i + 1, _, by omega, by go_num, HB3.out, HW3.out, hP⟩
          case measure => simp [intOf]; omega
      · have h38' : ((s[i]'hlt).toNat : Int) ≠ 38 := fun e => h38 (UInt8.toNat_inj.1 (by show _ = 38; omega))
        have hP := plain (by rw [hdrop, unesc_cons, if_neg (fun h => h38 h.1)])
        have h38b : (((s[i]'hlt).toNat : Int) == 38) = false := beq_eq_false_iff_ne.2 h38'
        have hBy := bByte w.heap.size w.heap.size out ((s[i]'hlt).toNat : Int) (s[i]'hlt) rfl wr HB.out (by omega) hz
        have HBy := Lib.hid hBy
        clear plain hdrop hBy h38 h38' hl
        go_wp2_with fail
        refine HBy.out.mono ?_
        rintro e w1 ⟨rfl, hB1, hb1, hk1⟩
        have HB1 := Lib.hid hB1
        have HW1 := Lib.hid (HW.out.trans hb1)
        clear hB1 hb1 hk1
        go_wp2_with fail
        go_roundw
        case rel => exact ⟨i + 1, _, by omega, by go_num, HB1.out, HW1.out, hP⟩
        case measure => simp [intOf]; omega
    · obtain rfl : i = s.size := by omega
      have hfin : out = unesc (lst s) := by
        rw [hh.out.2, List.drop_of_length_le (by rw [lst_length]; omega)]
        show out = out ++ []
        simp
      have HF := Lib.hid hfin
      have HS := Lib.hid (bString w.heap.size w.heap.size out wr HB.out hz)
      clear hfin
      go_wp2_with fail
      refine HS.out.mono ?_
      rintro e w1 ⟨rfl, _, hb1, _⟩
      have HW1 := Lib.hid (HW.out.trans hb1)
      clear hb1
      go_wp2_with fail
      go_ret
      exact ⟨by rw [← HF.out]; rfl, HW1.out⟩

end Go.Proofs.YtjkgmdnkejjppaaGreatDoor
