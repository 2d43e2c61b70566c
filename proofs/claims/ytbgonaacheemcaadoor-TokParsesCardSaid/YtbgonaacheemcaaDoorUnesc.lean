/- ref.numbered, named, letter, Unescape. -/
import Derived.Test.YtbgonaacheemcaaDoorNumb
import Derived.Test.YtbgonaacheemcaaDoorBld
namespace Go.Proofs.YtbgonaacheemcaaDoor
open Go Go.RowKit

theorem indexAny_iff (c : List UInt8) : ∀ l : List UInt8, 0 ≤ Lib.indexAny l c ↔ ∃ b ∈ l, c.contains b = true
  | [] => by simp [Lib.indexAny]
  | b :: l => by
    have ih := indexAny_iff c l
    have hge := Lib.indexAny_ge c l
    unfold Lib.indexAny
    by_cases hb : c.contains b = true
    · rw [if_pos hb]
      exact ⟨fun _ => ⟨b, by simp, hb⟩, fun _ => Int.le_refl _⟩
    · rw [if_neg hb]
      by_cases h1 : Lib.indexAny l c = -1
      · simp only [h1, beq_self_eq_true, if_true]
        rw [h1] at ih
        constructor
        · intro h; omega
        · rintro ⟨x, hx, hc⟩
          rcases List.mem_cons.1 hx with rfl | hx
          · exact absurd hc hb
          · exact absurd (ih.2 ⟨x, hx, hc⟩) (by omega)
      · rw [if_neg (by simpa using h1)]
        constructor
        · intro _
          obtain ⟨x, hx, hc⟩ := ih.1 (by omega)
          exact ⟨x, by simp [hx], hc⟩
        · intro _; omega

theorem digitsFrom_none (base : Nat) : ∀ (l : Bytes) (n : Nat) (c : UInt8), c ∈ l → digitOf base c = none → digitsFrom base n l = none
  | [], _, _, h, _ => by cases h
  | b :: l, n, c, h, hc => by
    unfold digitsFrom
    cases hd : digitOf base b with
    | none => rfl
    | some d =>
      rcases List.mem_cons.1 h with rfl | h
      · rw [hc] at hd; cases hd
      · exact digitsFrom_none base l _ c h hc

/-- A rune and whether there is one. -/
def RuneV : Option Int → Value
  | some x => .tuple #[.int .i32 x, .bool true]
  | none => .tuple #[.int .i32 0, .bool false]

theorem ascii3 : AsciiL (lst ⟨#[43, 45, 95]⟩) := by
  intro j b h
  match j, h with
  | 0, h => cases h; decide
  | 1, h => cases h; decide
  | 2, h => cases h; decide
  | j + 3, h => cases h

set_option maxHeartbeats 1000000 in
set_option maxRecDepth 100000 in
theorem numbered_10 (t : ByteArray) (hsz : t.size ≤ 1000000000) (w : World) (hg : Glob w) :
    Calls Tryd.prog 36 #[.string t, .int .i64 10, .int .i64 7] w fun e w' => e = .returned (RuneV (numberedM (lst t) 10 7)) ∧ Below w.heap.size w w' := by
  by_cases h0 : t.size = 0
  · have hemp : t.toList.isEmpty = true := by
      rw [Lib.toList_data]
      cases h : t.data.toList with
      | nil => rfl
      | cons _ _ => have := Lib.size_eq t; rw [h] at this; simp at this; omega
    have hM : numberedM (lst t) 10 7 = none := by
      have : lst t = [] := List.eq_nil_of_length_eq_zero (by rw [lst_length]; exact h0)
      simp [numberedM, this]
    have HM := Lib.hid hM
    clear hM h0
    go_enter Tryd.func36, Tryd.ntmps36
    go_wp2
    go_ret2
    exact ⟨by rw [HM.out]; rfl, Below.refl _ _⟩
  have hemp : t.toList.isEmpty = false := by
    rw [Lib.toList_data]
    cases h : t.data.toList with
    | nil => have := Lib.size_eq t; rw [h, List.length_nil] at this; omega
    | cons _ _ => rfl
  by_cases h1 : 7 < t.size
  · have hM : numberedM (lst t) 10 7 = none := by
      rw [numberedM, if_pos (.inr (by rw [lst_length]; exact h1))]
    have HM := Lib.hid hM
    clear hM h0
    have h1' : (7 : Int) < (t.size : Int) := by omega
    go_enter Tryd.func36, Tryd.ntmps36
    go_wp2
    go_ret2
    exact ⟨by rw [HM.out]; rfl, Below.refl _ _⟩
  have h1' : ¬ (7 : Int) < (t.size : Int) := by omega
  have hm1 : 1 ≤ t.size := by omega
  have hne : ¬ (lst t = [] ∨ 7 < (lst t).length) := by
    rw [lst_length]
    rintro (h | h)
    · have : (lst t).length = 0 := by rw [h]; rfl
      rw [lst_length] at this; omega
    · omega
  clear h0
  by_cases hany : 0 ≤ Lib.indexAny (lst t) (lst ⟨#[43, 45, 95]⟩)
  · have hM : numberedM (lst t) 10 7 = none := by
      obtain ⟨b, hb, hc⟩ := (indexAny_iff _ _).1 hany
      rw [numberedM, if_neg hne]
      have : digitOf 10 b = none := by
        rw [List.contains_iff_mem] at hc
        have hc' : b ∈ [43, 45, 95] := hc
        simp only [List.mem_cons, List.not_mem_nil, or_false] at hc'
        rcases hc' with rfl | rfl | rfl <;> decide
      rw [digitsFrom_none 10 _ 0 b hb this]
    have HM := Lib.hid hM
    clear hM hne
    go_enter Tryd.func36, Tryd.ntmps36
    go_wp2_with (go_at_call 54; refine (containsAny_any _ _ _ hsz (by decide) (by decide) ascii3).mono ?_; rintro e w1 ⟨rfl, hb⟩)
    go_ret2
    exact ⟨by rw [HM.out]; rfl, hb⟩
  · have hns : noSign (lst t) := by
      intro c hc
      have hmem : c ∈ lst t := List.mem_of_mem_head? hc
      constructor <;> rintro rfl <;> exact hany ((indexAny_iff _ _).2 ⟨_, hmem, by decide⟩)
    have HNS := Lib.hid hns
    have HNE := Lib.hid hne
    clear hns hne
    have hm7 : t.size ≤ 7 := by omega
    go_enter Tryd.func36, Tryd.ntmps36
    go_wp2_with (go_at_call 54; refine (containsAny_any _ _ _ hsz (by decide) (by decide) ascii3).mono ?_; rintro e w1 ⟨rfl, hb⟩)
    have HB := Lib.hid hb
    clear hb
    refine (parseInt_10 t hm1 hm7 HNS.out w1 (hg.below HB.out hg.size)).mono ?_
    rintro e w2 ⟨hp, hb2⟩
    have HB2 := Lib.hid (HB.out.trans (hb2.mono HB.out.size))
    clear hb2 hg
    cases hd : digitsFrom 10 0 (lst t) with
    | none =>
      rw [hd] at hp
      obtain ⟨x, v, rfl⟩ := hp
      have HM : Hid (numberedM (lst t) 10 7 = none) := by
        have h : numberedM (lst t) 10 7 = none := by rw [numberedM, if_neg HNE.out, hd]
        exact h
      clear hd
      go_wp2
      go_ret2
      exact ⟨by rw [HM.out]; rfl, HB2.out⟩
    | some n =>
      rw [hd] at hp
      obtain rfl : e = _ := hp
      have hn : n < 268435456 := by
        have h1 := digitsFrom_bound 10 (lst t) 0 0 n (by simp) hd
        rw [lst_length] at h1
        exact Nat.lt_of_lt_of_le h1 (Nat.le_trans (Nat.pow_le_pow_right (by decide) (by omega : 0 + t.size ≤ 7)) (by decide))
      have HM : Hid (numberedM (lst t) 10 7 = if n = 0 ∨ 1114111 < n ∨ Lib.validRune n = false then some (65533 : Int) else some (n : Int)) := by
        have h : numberedM (lst t) 10 7 = if n = 0 ∨ 1114111 < n ∨ Lib.validRune n = false then some (65533 : Int) else some (n : Int) := by rw [numberedM, if_neg HNE.out, hd]
        exact h
      clear hd
      by_cases c0 : n = 0
      · subst c0
        go_wp2
        go_ret2
        exact ⟨by rw [HM.out, if_pos (by simp)]; rfl, HB2.out⟩
      obtain ⟨a, ha⟩ : ∃ a : Int, a = n := ⟨_, rfl⟩
      have a0 : 0 ≤ a := by omega
      have a1 : a < 268435456 := by omega
      have c0' : (a == 0) = false := beq_eq_false_iff_ne.2 (by omega)
      rw [← ha]
      have HA := Lib.hid ha
      clear ha hn
      by_cases c1 : 1114111 < n
      · have c1' : (1114111 : Int) < a := by have := HA.out; omega
        clear c1 c0
        have c1 : Hid (1114111 < n) := by have h : 1114111 < n := by (have := HA.out; omega)
                                          exact h
        go_wp2
        go_ret2
        exact ⟨by rw [HM.out, if_pos (.inr (.inl c1.out))]; rfl, HB2.out⟩
      have c1' : ¬ (1114111 : Int) < a := by have := HA.out; omega
      have HC : Hid (¬ n = 0 ∧ ¬ 1114111 < n) := Lib.hid ⟨c0, c1⟩
      clear c0 c1
      cases hv : Lib.validRune a with
      | false =>
        go_wp2_with (go_at_call 56; refine (Tryd.utf8_ValidRune _ _).mono ?_; rintro e w' ⟨rfl, rfl⟩)
        go_ret2
        exact ⟨by rw [HM.out, if_pos (.inr (.inr (by rw [← (show a = (n : Int) from HA.out)]; exact hv)))]; rfl, HB2.out⟩
      | true =>
        go_wp2_with (go_at_call 56; refine (Tryd.utf8_ValidRune _ _).mono ?_; rintro e w' ⟨rfl, rfl⟩)
        go_ret2
        refine ⟨?_, HB2.out⟩
        have he : a = (n : Int) := HA.out
        rw [HM.out, if_neg (by rw [← he, hv]; have := HC.out; simp; omega), he]
        rfl

set_option maxHeartbeats 1000000 in
set_option maxRecDepth 100000 in
theorem numbered_16 (t : ByteArray) (hsz : t.size ≤ 1000000000) (w : World) (hg : Glob w) :
    Calls Tryd.prog 36 #[.string t, .int .i64 16, .int .i64 6] w fun e w' => e = .returned (RuneV (numberedM (lst t) 16 6)) ∧ Below w.heap.size w w' := by
  by_cases h0 : t.size = 0
  · have hemp : t.toList.isEmpty = true := by
      rw [Lib.toList_data]
      cases h : t.data.toList with
      | nil => rfl
      | cons _ _ => have := Lib.size_eq t; rw [h] at this; simp at this; omega
    have hM : numberedM (lst t) 16 6 = none := by
      have : lst t = [] := List.eq_nil_of_length_eq_zero (by rw [lst_length]; exact h0)
      simp [numberedM, this]
    have HM := Lib.hid hM
    clear hM h0
    go_enter Tryd.func36, Tryd.ntmps36
    go_wp2
    go_ret2
    exact ⟨by rw [HM.out]; rfl, Below.refl _ _⟩
  have hemp : t.toList.isEmpty = false := by
    rw [Lib.toList_data]
    cases h : t.data.toList with
    | nil => have := Lib.size_eq t; rw [h, List.length_nil] at this; omega
    | cons _ _ => rfl
  by_cases h1 : 6 < t.size
  · have hM : numberedM (lst t) 16 6 = none := by
      rw [numberedM, if_pos (.inr (by rw [lst_length]; exact h1))]
    have HM := Lib.hid hM
    clear hM h0
    have h1' : (6 : Int) < (t.size : Int) := by omega
    go_enter Tryd.func36, Tryd.ntmps36
    go_wp2
    go_ret2
    exact ⟨by rw [HM.out]; rfl, Below.refl _ _⟩
  have h1' : ¬ (6 : Int) < (t.size : Int) := by omega
  have hm1 : 1 ≤ t.size := by omega
  have hne : ¬ (lst t = [] ∨ 6 < (lst t).length) := by
    rw [lst_length]
    rintro (h | h)
    · have : (lst t).length = 0 := by rw [h]; rfl
      rw [lst_length] at this; omega
    · omega
  clear h0
  by_cases hany : 0 ≤ Lib.indexAny (lst t) (lst ⟨#[43, 45, 95]⟩)
  · have hM : numberedM (lst t) 16 6 = none := by
      obtain ⟨b, hb, hc⟩ := (indexAny_iff _ _).1 hany
      rw [numberedM, if_neg hne]
      have : digitOf 16 b = none := by
        rw [List.contains_iff_mem] at hc
        have hc' : b ∈ [43, 45, 95] := hc
        simp only [List.mem_cons, List.not_mem_nil, or_false] at hc'
        rcases hc' with rfl | rfl | rfl <;> decide
      rw [digitsFrom_none 16 _ 0 b hb this]
    have HM := Lib.hid hM
    clear hM hne
    go_enter Tryd.func36, Tryd.ntmps36
    go_wp2_with (go_at_call 54; refine (containsAny_any _ _ _ hsz (by decide) (by decide) ascii3).mono ?_; rintro e w1 ⟨rfl, hb⟩)
    go_ret2
    exact ⟨by rw [HM.out]; rfl, hb⟩
  · have hns : noSign (lst t) := by
      intro c hc
      have hmem : c ∈ lst t := List.mem_of_mem_head? hc
      constructor <;> rintro rfl <;> exact hany ((indexAny_iff _ _).2 ⟨_, hmem, by decide⟩)
    have HNS := Lib.hid hns
    have HNE := Lib.hid hne
    clear hns hne
    have hm7 : t.size ≤ 7 := by omega
    go_enter Tryd.func36, Tryd.ntmps36
    go_wp2_with (go_at_call 54; refine (containsAny_any _ _ _ hsz (by decide) (by decide) ascii3).mono ?_; rintro e w1 ⟨rfl, hb⟩)
    have HB := Lib.hid hb
    clear hb
    refine (parseInt_16 t hm1 hm7 HNS.out w1 (hg.below HB.out hg.size)).mono ?_
    rintro e w2 ⟨hp, hb2⟩
    have HB2 := Lib.hid (HB.out.trans (hb2.mono HB.out.size))
    clear hb2 hg
    cases hd : digitsFrom 16 0 (lst t) with
    | none =>
      rw [hd] at hp
      obtain ⟨x, v, rfl⟩ := hp
      have HM : Hid (numberedM (lst t) 16 6 = none) := by
        have h : numberedM (lst t) 16 6 = none := by rw [numberedM, if_neg HNE.out, hd]
        exact h
      clear hd
      go_wp2
      go_ret2
      exact ⟨by rw [HM.out]; rfl, HB2.out⟩
    | some n =>
      rw [hd] at hp
      obtain rfl : e = _ := hp
      have hn : n < 268435456 := by
        have h1 := digitsFrom_bound 16 (lst t) 0 0 n (by simp) hd
        rw [lst_length] at h1
        exact Nat.lt_of_lt_of_le h1 (Nat.le_trans (Nat.pow_le_pow_right (by decide) (by omega : 0 + t.size ≤ 7)) (by decide))
      have HM : Hid (numberedM (lst t) 16 6 = if n = 0 ∨ 1114111 < n ∨ Lib.validRune n = false then some (65533 : Int) else some (n : Int)) := by
        have h : numberedM (lst t) 16 6 = if n = 0 ∨ 1114111 < n ∨ Lib.validRune n = false then some (65533 : Int) else some (n : Int) := by rw [numberedM, if_neg HNE.out, hd]
        exact h
      clear hd
      by_cases c0 : n = 0
      · subst c0
        go_wp2
        go_ret2
        exact ⟨by rw [HM.out, if_pos (by simp)]; rfl, HB2.out⟩
      obtain ⟨a, ha⟩ : ∃ a : Int, a = n := ⟨_, rfl⟩
      have a0 : 0 ≤ a := by omega
      have a1 : a < 268435456 := by omega
      have c0' : (a == 0) = false := beq_eq_false_iff_ne.2 (by omega)
      rw [← ha]
      have HA := Lib.hid ha
      clear ha hn
      by_cases c1 : 1114111 < n
      · have c1' : (1114111 : Int) < a := by have := HA.out; omega
        clear c1 c0
        have c1 : Hid (1114111 < n) := by have h : 1114111 < n := by (have := HA.out; omega)
                                          exact h
        go_wp2
        go_ret2
        exact ⟨by rw [HM.out, if_pos (.inr (.inl c1.out))]; rfl, HB2.out⟩
      have c1' : ¬ (1114111 : Int) < a := by have := HA.out; omega
      have HC : Hid (¬ n = 0 ∧ ¬ 1114111 < n) := Lib.hid ⟨c0, c1⟩
      clear c0 c1
      cases hv : Lib.validRune a with
      | false =>
        go_wp2_with (go_at_call 56; refine (Tryd.utf8_ValidRune _ _).mono ?_; rintro e w' ⟨rfl, rfl⟩)
        go_ret2
        exact ⟨by rw [HM.out, if_pos (.inr (.inr (by rw [← (show a = (n : Int) from HA.out)]; exact hv)))]; rfl, HB2.out⟩
      | true =>
        go_wp2_with (go_at_call 56; refine (Tryd.utf8_ValidRune _ _).mono ?_; rintro e w' ⟨rfl, rfl⟩)
        go_ret2
        refine ⟨?_, HB2.out⟩
        have he : a = (n : Int) := HA.out
        rw [HM.out, if_neg (by rw [← he, hv]; have := HC.out; simp; omega), he]
        rfl

def namedI (s : Bytes) : Int := (namedM s).getD 0
set_option maxHeartbeats 400000 in
theorem named_any (t : ByteArray) (w : World) :
    Calls Tryd.prog 37 #[.string t] w fun e w' => e = .returned (.int .i32 (namedI (lst t))) ∧ w = w' := by
  go_enter Tryd.func37, Tryd.ntmps37
  go_wp2
  all_goals go_ret
  all_goals refine ⟨?_, rfl⟩
  all_goals simp_all [namedI, namedM, lst, Lib.toList_data]

theorem isEmpty_mk (s : ByteArray) : s.toList.isEmpty = (lst s).isEmpty := by rw [Lib.toList_data]; rfl
theorem get_of_lst {s : ByteArray} {i : Nat} {c : UInt8} (h : i < s.size) (hc : (lst s)[i]? = some c) : s[i]'h = c := by
  rw [lst_get s i h] at hc; exact Option.some.inj hc

theorem cutHash (s : ByteArray) (w : World) :
    Calls Tryd.prog 35 #[.string s, .string ⟨#[35]⟩] w fun e w' =>
      e = .returned (.tuple #[.string (match lst s with | 35 :: d => mk d | _ => s), .bool (match lst s with | 35 :: _ => true | _ => false)]) ∧ w = w' := by
  refine (Tryd.strings_CutPrefix s ⟨#[35]⟩ w).mono ?_
  rintro e w' ⟨rfl, rfl⟩
  refine ⟨?_, rfl⟩
  have h : s.data.toList = lst s := rfl
  rw [h]
  have hs := mk_lst s
  cases hl : lst s with
  | nil => rw [hl] at hs; simp [Lib.trimPrefix, Lib.hasPrefix, ← hs, mk]
  | cons c d =>
    by_cases hc : c = 35
    · subst hc
      simp [Lib.trimPrefix, Lib.hasPrefix, mk]
    · rw [hl] at hs
      have : ∀ (α : Type) (a b : α), (match (c :: d : List UInt8) with | 35 :: _ => a | _ => b) = b := by
        intro α a b
        split
        · rename_i h; injection h with h1 _; exact absurd h1 hc
        · rfl
      rw [this]
      have e2 : (match (c :: d : List UInt8) with | 35 :: d => mk d | _ => s) = s := by
        split
        · rename_i h; injection h with h1 _; exact absurd h1 hc
        · rfl
      rw [e2]
      have : Lib.hasPrefix (c :: d) [35] = false := by simp only [Lib.hasPrefix, List.isPrefixOf, Bool.and_true, beq_eq_false_iff_ne]; exact Ne.symm hc
      simp [Lib.trimPrefix, this, ← hs, mk]

set_option maxHeartbeats 1000000 in
set_option maxRecDepth 100000 in
theorem rletter_any (t : ByteArray) (hsz : t.size ≤ 1000000000) (w : World) (hg : Glob w) :
    Calls Tryd.prog 23 #[.string t] w fun e w' => e = .returned (RuneV (letterM (lst t))) ∧ Below w.heap.size w w' := by
  by_cases hc : ∃ d, lst t = 35 :: d
  · obtain ⟨d, hd⟩ := hc
    have hcut := cutHash t w
    rw [hd] at hcut
    simp only at hcut
    have hdz : (mk d).size ≤ 1000000000 := by
      have := lst_length t
      rw [hd] at this
      rw [mk_size]; simp at this; omega
    cases d with
    | nil =>
      have hM : letterM (lst t) = numberedM [] 10 7 := by rw [hd]; rfl
      have HM := Lib.hid hM
      have he : (mk []).toList.isEmpty = true := by rw [isEmpty_mk, lst_mk]; rfl
      have HC := Lib.hid hcut
      have HN := Lib.hid (numbered_10 (mk []) hdz w hg)
      rw [lst_mk] at HN
      clear hM hcut hd hg
      generalize mk [] = E at *
      go_enter Tryd.func23, Tryd.ntmps23
      go_wp2_with fail
      refine HC.out.mono ?_
      rintro e w1 ⟨rfl, rfl⟩
      go_wp2_with fail
      refine HN.out.mono ?_
      rintro e w2 ⟨rfl, hb⟩
      have HB := Lib.hid hb
      clear hb
      cases hm : numberedM [] 10 7 with
      | none =>
        rw [hm] at HM
        simp only [RuneV]
        clear hm
        go_wp2
        go_ret2
        exact ⟨by rw [HM.out]; rfl, HB.out⟩
      | some r =>
        rw [hm] at HM
        simp only [RuneV]
        clear hm
        go_wp2
        go_ret2
        exact ⟨by rw [HM.out]; rfl, HB.out⟩
    | cons x d' =>
      have he : (mk (x :: d')).toList.isEmpty = false := by rw [isEmpty_mk, lst_mk]; rfl
      have hz0 : 0 < (mk (x :: d')).size := by rw [mk_size]; simp
      have hx : (mk (x :: d'))[0]'hz0 = x := get_of_lst hz0 (by rw [lst_mk]; rfl)
      have hx256 := x.toNat_lt
      have HC := Lib.hid hcut
      by_cases hX : x = 120 ∨ x = 88
      · have hM : letterM (lst t) = numberedM d' 16 6 := by rw [hd]; simp [letterM, hX]
        have HM := Lib.hid hM
        have hext : (mk (x :: d')).extract 1 (mk (x :: d')).size = mk d' := by
          apply ext_lst
          rw [lst_extract, lst_mk, lst_mk, mk_size]
          simp
        have HE := Lib.hid hext
        have HN := Lib.hid (numbered_16 (mk d') (by rw [mk_size] at hdz ⊢; simp at hdz; omega) w hg)
        rw [lst_mk] at HN
        clear hM hcut hd hg hext
        generalize mk (x :: d') = E at *
        have HX := Lib.hid hX
        have h1 : ((x.toNat : Int) != 120) = false ∨ (((x.toNat : Int) != 120) = true ∧ ((x.toNat : Int) != 88) = false) := by
          rcases hX with rfl | rfl
          · left; rfl
          · right; exact ⟨rfl, rfl⟩
        clear hX
        rcases h1 with h1 | ⟨h1, h2⟩
        all_goals
          go_enter Tryd.func23, Tryd.ntmps23
          go_wp2_with fail
          refine HC.out.mono ?_
          rintro e w1 ⟨rfl, rfl⟩
          go_wp2_with fail
          rw [HE.out]
          refine HN.out.mono ?_
          rintro e w2 ⟨rfl, hb⟩
          have HB := Lib.hid hb
          clear hb
          cases hm : numberedM d' 16 6 with
          | none =>
            rw [hm] at HM
            simp only [RuneV]
            clear hm
            go_wp2
            go_ret2
            exact ⟨by rw [HM.out]; rfl, HB.out⟩
          | some r =>
            rw [hm] at HM
            simp only [RuneV]
            clear hm
            go_wp2
            go_ret2
            exact ⟨by rw [HM.out]; rfl, HB.out⟩
      · have hM : letterM (lst t) = numberedM (x :: d') 10 7 := by rw [hd]; simp [letterM, hX]
        have HM := Lib.hid hM
        have HN := Lib.hid (numbered_10 (mk (x :: d')) hdz w hg)
        rw [lst_mk] at HN
        clear hM hcut hd hg
        generalize mk (x :: d') = E at *
        have h1 : ((x.toNat : Int) == 120) = false := beq_eq_false_iff_ne.2 (fun e => hX (.inl (UInt8.toNat_inj.1 (by show _ = 120; omega))))
        have h2 : ((x.toNat : Int) == 88) = false := beq_eq_false_iff_ne.2 (fun e => hX (.inr (UInt8.toNat_inj.1 (by show _ = 88; omega))))
        have h1' : ((x.toNat : Int) != 120) = true := by rw [bne, h1]; rfl
        have h2' : ((x.toNat : Int) != 88) = true := by rw [bne, h2]; rfl
        clear hX
        go_enter Tryd.func23, Tryd.ntmps23
        go_wp2_with fail
        refine HC.out.mono ?_
        rintro e w1 ⟨rfl, rfl⟩
        go_wp2_with fail
        refine HN.out.mono ?_
        rintro e w2 ⟨rfl, hb⟩
        have HB := Lib.hid hb
        clear hb
        cases hm : numberedM (x :: d') 10 7 with
        | none =>
          rw [hm] at HM
          simp only [RuneV]
          clear hm
          go_wp2
          go_ret2
          exact ⟨by rw [HM.out]; rfl, HB.out⟩
        | some r =>
          rw [hm] at HM
          simp only [RuneV]
          clear hm
          go_wp2
          go_ret2
          exact ⟨by rw [HM.out]; rfl, HB.out⟩
  · have hM : letterM (lst t) = namedM (lst t) := by
      cases hl : lst t with
      | nil => rfl
      | cons c d =>
        unfold letterM
        split
        · rename_i h; exact absurd ⟨_, by rw [hl]; exact h⟩ hc
        · rfl
    have hcut : Calls Tryd.prog 35 #[.string t, .string ⟨#[35]⟩] w fun e w' => e = .returned (.tuple #[.string t, .bool false]) ∧ w = w' := by
      refine (cutHash t w).mono ?_
      rintro e w' ⟨rfl, rfl⟩
      refine ⟨?_, rfl⟩
      cases hl : lst t with
      | nil => rfl
      | cons c d =>
        have hne : c ≠ 35 := fun e => hc ⟨d, by rw [hl, e]⟩
        have e1 : (match (c :: d : List UInt8) with | 35 :: _ => true | _ => false) = false := by
          split
          · rename_i h; injection h with h1 _; exact absurd h1 hne
          · rfl
        have e2 : (match (c :: d : List UInt8) with | 35 :: d => mk d | _ => t) = t := by
          split
          · rename_i h; injection h with h1 _; exact absurd h1 hne
          · rfl
        rw [e1, e2]
    have HM := Lib.hid hM
    have HC := Lib.hid hcut
    clear hM hcut hc hg
    cases hn : namedM (lst t) with
    | none =>
      rw [hn] at HM
      have hI : namedI (lst t) = 0 := by simp [namedI, hn]
      have HI := Lib.hid hI
      clear hn hI
      go_enter Tryd.func23, Tryd.ntmps23
      go_wp2_with fail
      refine HC.out.mono ?_
      rintro e w1 ⟨rfl, rfl⟩
      go_wp2_with fail
      refine (named_any t _).mono ?_
      rintro e w1 ⟨rfl, rfl⟩
      rw [HI.out]
      go_wp2
      go_ret2
      exact ⟨by rw [HM.out]; rfl, Below.refl _ _⟩
    | some r =>
      rw [hn] at HM
      have hI : namedI (lst t) = r := by simp [namedI, hn]
      have HI := Lib.hid hI
      have hr0 : (r != 0) = true := by
        rw [bne_iff_ne]
        unfold namedM at hn
        repeat (split at hn; (cases hn; decide))
        cases hn
      clear hn hI
      go_enter Tryd.func23, Tryd.ntmps23
      go_wp2_with fail
      refine HC.out.mono ?_
      rintro e w1 ⟨rfl, rfl⟩
      go_wp2_with fail
      refine (named_any t _).mono ?_
      rintro e w1 ⟨rfl, rfl⟩
      rw [HI.out]
      go_wp2
      go_ret2
      exact ⟨by rw [HM.out]; rfl, Below.refl _ _⟩

end Go.Proofs.YtbgonaacheemcaaDoor
