/- Walk of the row's function: EmitAgain. -/
import Derived.Test.YtemomhanchiipaaGreatDoorEWalkF
import Derived.Test.YtemomhanchiipaaGreatDoorSame
import Derived.Test.YtemomhanchiipaaGreatDoorMark
namespace Go.Proofs.YtemomhanchiipaaGreatDoor
open Go Go.RowKit

theorem twice_of_pair : ∀ l : List TAttr, (l.map (·.name)).Pairwise (· ≠ ·) → twiceM l = false
  | [], _ => rfl
  | a :: r, h => by
    rw [List.map_cons, List.pairwise_cons] at h
    rw [twiceM, twice_of_pair r h.2, Bool.or_false, List.any_eq_false]
    intro b hb he
    exact h.1 b.name (List.mem_map.2 ⟨b, hb, rfl⟩) (beq_iff_eq.1 he).symm
def errOk (e : Int) : Prop := e = 0 ∨ e = 1 ∨ e = 4 ∨ e = 5
theorem attrs_err (l : List TAttr) (h : (l.map (·.name)).Pairwise (· ≠ ·)) : errOk (attrsM l) := by
  unfold attrsM errOk
  rw [twice_of_pair l h]
  split
  · omega
  split
  · omega
  · simp
def kind4 (t : TTok) : Prop := 1 ≤ t.kind ∧ t.kind ≤ 4
theorem check_err : ∀ (l : List TTok) (last : Int), (∀ t ∈ l, kind4 t ∧ TokOk t) → errOk (checkFrom last l)
  | [], _, _ => .inl rfl
  | t :: r, last, h => by
    obtain ⟨hk, hok⟩ := h t (by simp)
    have ih := check_err r t.kind fun u hu => h u (by simp [hu])
    rw [checkFrom, if_neg (by have := hk.1; have := hk.2; omega)]
    split
    · exact .inr (.inr (.inr rfl))
    split
    · exact attrs_err _ hok.once
    split
    · exact .inr (.inr (.inl rfl))
    · exact ih
theorem emit_err (l : List TTok) (h : ∀ t ∈ l, kind4 t ∧ TokOk t) : errOk (emitM l).2 := by
  unfold emitM
  split
  · show errOk (checkM l)
    unfold checkM
    split
    · exact .inr (.inl rfl)
    · exact check_err l 0 h
  split
  · exact .inr (.inl rfl)
  · exact .inl rfl
theorem emit_zero (l : List TTok) (h : (emitM l).2 = 0) : checkM l = 0 ∧ (tokTexts l).length ≤ 600 ∧ emitM l = (tokTexts l, 0) := by
  unfold emitM at h ⊢
  by_cases hc : checkM l = 0
  · rw [if_neg (by rw [hc]; simp)] at h ⊢
    by_cases h6 : 600 < (tokTexts l).length
    · rw [if_pos h6] at h; cases h
    · rw [if_neg h6]
      exact ⟨hc, by omega, rfl⟩
  · rw [if_pos hc] at h
    exact absurd h hc
/-- Kinds of tokens of a text. -/
theorem kind_tag {k : Int} {r : Bytes} {t : TTok} {r2 : Bytes} (h : tagM k r = some (t, r2)) : t.kind = k := by
  unfold tagM at h
  generalize tagLoop _ _ _ = x at h
  match x, h with
  | none, h => cases h
  | some (l, s, r3), h =>
    simp only [tagOf, Option.some.injEq, Prod.mk.injEq] at h
    rw [← h.1]; split <;> rfl
theorem kind4_chars (s : Bytes) : kind4 (chars s) := ⟨by show (1 : Int) ≤ 3; omega, by show (3 : Int) ≤ 4; omega⟩
theorem kind4_comment (s : Bytes) : ∀ t ∈ [comment s], kind4 t := fun t ht => by cases List.mem_singleton.1 ht; exact ⟨by show (1 : Int) ≤ 4; omega, by show (4 : Int) ≤ 4; omega⟩
theorem kind4_raw (n s : Bytes) : ∀ t ∈ rawToks n s, kind4 t := fun t ht => by
  unfold rawToks at ht
  split at ht
  · cases ht
  · cases List.mem_singleton.1 ht; exact kind4_chars _
theorem kind4_text (s : Bytes) : ∀ t ∈ textToks s, kind4 t := fun t ht => by
  unfold textToks at ht
  split at ht
  · cases ht
  · cases List.mem_singleton.1 ht; exact kind4_chars _
theorem kind4_markup (X : Bytes) (ts : List TTok) (r2 : Bytes) (h : markupM X = some (ts, r2)) : ∀ t ∈ ts, kind4 t := by
  unfold markupM at h
  split at h
  · cases h; exact kind4_comment _
  · cases h; exact kind4_comment _
  · cases h; exact kind4_comment _
  · rename_i c r
    split at h
    · cases ht : tagM 2 (c :: r) with
      | none => rw [ht] at h; cases h
      | some x =>
        obtain ⟨t, r3⟩ := x
        rw [ht] at h
        cases h
        intro u hu
        cases List.mem_singleton.1 hu
        have h1 : t.kind = 2 := kind_tag ht
        exact ⟨by show (1 : Int) ≤ t.kind; omega, by show t.kind ≤ 4; omega⟩
    · cases h; exact kind4_comment _
  · rename_i r n1 n2 n3 n4
    cases ht : tagM 1 r with
    | none => rw [ht] at h; cases h
    | some x =>
      obtain ⟨t, r3⟩ := x
      rw [ht] at h
      simp only [Option.map_some] at h
      have h1 := kind_tag ht
      have h0 : kind4 t := ⟨by omega, by omega⟩
      split at h
      · simp only [Option.some.injEq, Prod.mk.injEq] at h
        rw [← h.1]
        intro u hu
        rcases List.mem_cons.1 hu with rfl | hu
        · exact h0
        · exact kind4_raw _ _ u hu
      · simp only [Option.some.injEq, Prod.mk.injEq] at h
        rw [← h.1]
        intro u hu
        cases List.mem_singleton.1 hu
        exact h0
  · cases h
theorem kind4_allN : ∀ (n : Nat) (l : Bytes), ∀ t ∈ allN n l, kind4 t := by
  intro n
  induction n with
  | zero => intro l t ht; cases ht
  | succ n ih =>
    intro l
    by_cases hl : l = []
    · subst hl; intro t ht; cases ht
    · rw [allN_succ n l hl]
      intro t ht
      rcases List.mem_append.1 ht with ht | ht
      · exact kind4_text _ t ht
      · split at ht
        · cases ht
        · cases hm : markupM (textM l).2 with
          | none => rw [hm] at ht; cases ht
          | some x =>
            obtain ⟨ts, r2⟩ := x
            rw [hm] at ht
            rcases List.mem_append.1 ht with ht | ht
            · exact kind4_markup _ _ _ hm t ht
            · exact ih r2 t ht
theorem emit_all (s : Bytes) : errOk (emitM (allM s)).2 := emit_err _ fun t ht => ⟨kind4_allN _ s t ht, (allM_ok s).ok t ht⟩
theorem sz_all (s : Bytes) (h : s.length ≤ 1000) (t : TTok) (ht : t ∈ allM s) : TokSz 1000 t := by
  have hl := allM_le s t ht
  exact ⟨Nat.le_trans hl.name h, Nat.le_trans hl.text h, Nat.le_trans hl.count h, fun a ha => ⟨Nat.le_trans (hl.attrs a ha).1 h, Nat.le_trans (hl.attrs a ha).2 h⟩⟩

set_option maxHeartbeats 2000000 in
set_option maxRecDepth 100000 in
theorem emitAgain_any (v1 : Value) (l : List Int) (w : World) (hg : Glob w) (h1 : IntRow w v1 l) :
    Calls Tryz.prog 5 #[v1] w fun e w' => e = .returned (.bool true) ∧ Below w.heap.size w w' := by
  have HG := Lib.hid hg
  have HMK := Lib.hid (markup_text v1 l 25 (by omega) w h1)
  have hEl := drawn_len markPieces 19 markPieces_len (l.take 25)
  rw [List.length_take] at hEl
  clear hg h1
  generalize drawn markPieces (l.take 25) = E at *
  have hEz : (mk E).size ≤ 475 := by rw [mk_size]; omega
  have HP1 := Lib.hid (fun W h => parsed_any (mk E) W h (by omega))
  rw [lst_mk] at HP1
  have herr := emit_all E
  have hsz := sz_all E (by rw [← mk_size]; omega)
  have hlen : (allM E).length ≤ 1000 := by have := (allM_ok E).len; have : E.length ≤ 475 := by rw [← mk_size]; exact hEz
                                           omega
  generalize allM E = X at *
  have HTX := Lib.hid (fun W tv h => emitText_fn tv X W h (by omega) hsz)
  have HSM := Lib.hid (fun v1 v2 W h1 h2 => sameTokens_any v1 v2 X (by omega) (fun t ht => Nat.le_trans (hsz t ht).count (by omega)) W h1 h2)
  clear hsz
  go_enter Tryz.func5, Tryz.ntmps5
  go_wp2_with fail
  refine HMK.out.mono ?_
  rintro e w1 ⟨rfl, hb1⟩
  have HB1 := Lib.hid hb1
  clear hb1
  go_wp2_with fail
  refine (HP1.out w1 (HG.out.below HB1.out HG.out.size)).mono ?_
  rintro e w2 ⟨tv1, rfl, htr1, hb2⟩
  have HB2 := Lib.hid (HB1.out.trans (hb2.mono HB1.out.size))
  have HV1 := Lib.hid htr1.view
  clear hb2 htr1
  go_wp2_with fail
  refine (HTX.out w2 tv1 HV1.out).mono ?_
  rintro e w3 ⟨rfl, hb3⟩
  have HB3 := Lib.hid (HB2.out.trans (hb3.mono HB2.out.size))
  have HV1b := Lib.hid (HV1.out.older (.of_below hb3))
  clear hb3
  by_cases h0 : (emitM X).2 = 0
  · obtain ⟨hc, hl6, hem⟩ := emit_zero X h0
    have hbk := emit_back X hc
    rw [hem] at HTX ⊢
    have hT6 : (mk (tokTexts X)).size ≤ 600 := by rw [mk_size]; exact hl6
    have HP2 := Lib.hid (parsed_any (mk (tokTexts X)) w3 (HG.out.below HB3.out HG.out.size) hT6)
    rw [lst_mk, hbk] at HP2
    clear hc hl6 hem hbk herr h0
    generalize tokTexts X = T at *
    have s1 : ((mk T).toList == (mk T).toList) = true := beq_self_eq_true _
    go_wp2_with fail
    refine HP2.out.mono ?_
    rintro e w4 ⟨tv2, rfl, htr2, hb4⟩
    have HB4 := Lib.hid (HB3.out.trans (hb4.mono HB3.out.size))
    have HV1c := Lib.hid (HV1b.out.older (.of_below hb4))
    have HV2 := Lib.hid htr2.view
    clear hb4 htr2
    go_wp2_with fail
    refine (HTX.out w4 tv2 HV2.out).mono ?_
    rintro e w5 ⟨rfl, hb5⟩
    have HB5 := Lib.hid (HB4.out.trans (hb5.mono HB4.out.size))
    have HSC := Lib.hid (fun n => HSM.out tv1 tv2 (w5.drewN n) ((HV1c.out.older (.of_below hb5)).older ⟨Nat.le_refl _, fun _ _ => rfl⟩) ((HV2.out.older (.of_below hb5)).older ⟨Nat.le_refl _, fun _ _ => rfl⟩))
    clear hb5
    go_wp2_with (go_at_call 19; refine (HSC.out 0).mono ?_)
    rintro e w6 ⟨rfl, q, rfl⟩
    go_wp2_with fail
    go_ret
    exact ⟨rfl, ⟨HB5.out.os, HB5.out.tape, HB5.out.output, HB5.out.size, HB5.out.block⟩⟩
  · have h3 : (emitM X).2 = 1 ∨ (emitM X).2 = 4 ∨ (emitM X).2 = 5 := herr.resolve_left h0
    clear h0 herr HTX HSM
    generalize (emitM X).1 = T at *
    rcases h3 with h3 | h3 | h3
    all_goals
      rw [h3]
      clear h3
      go_wp2_with fail
      go_ret
      exact ⟨rfl, HB3.out⟩

end Go.Proofs.YtemomhanchiipaaGreatDoor
