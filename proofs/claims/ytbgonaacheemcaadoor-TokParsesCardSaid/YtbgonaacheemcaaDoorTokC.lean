/- Walks of the scanner's methods: skip, value. -/
import Derived.Test.YtbgonaacheemcaaDoorTokB
namespace Go.Proofs.YtbgonaacheemcaaDoor
open Go Go.RowKit

theorem skd_split (c l : Bytes) : skd c l ++ skp c l = l := List.takeWhile_append_dropWhile
theorem skd_le (c l : Bytes) : (skd c l).length ≤ l.length := by
  have h := congrArg List.length (skd_split c l)
  simp only [List.length_append] at h
  omega
theorem skd_drop (c l : Bytes) : l.drop (skd c l).length = skp c l := by
  have h := skd_split c l
  generalize skd c l = a at *
  generalize skp c l = b at *
  subst h; simp
theorem hd_true {c l : Bytes} (h : hd c l = true) : ∃ b r, l = b :: r ∧ c.contains b = true := by
  cases l with
  | nil => cases h
  | cons b r => exact ⟨b, r, rfl, h⟩
theorem skd_hd {c l : Bytes} (h : hd c l = true) : (skd c l).length = (skd c (l.drop 1)).length + 1 := by
  obtain ⟨b, r, rfl, hb⟩ := hd_true h
  unfold skd; rw [List.takeWhile_cons, hb]; rfl
theorem skd_not {c l : Bytes} (h : hd c l = false) : skd c l = [] := by
  cases l with
  | nil => rfl
  | cons b r =>
    have h' : c.contains b = false := h
    unfold skd; rw [List.takeWhile_cons, h']; rfl

set_option maxHeartbeats 1000000 in
set_option maxRecDepth 100000 in
theorem skip_any (b : Nat) (text c : ByteArray) (at_ : Nat) (tv : Value) (w : World) (hsc : Sc w b text at_ tv) (hat : at_ ≤ text.size) (h3 : text.size ≤ 1000000000) :
    Calls Tryd.prog 44 #[.pointer (some ⟨b, 0, none⟩), .string c] w fun e w' =>
      e = .returned (.tuple #[]) ∧ Sc w' b text (at_ + (skd (lst c) ((lst text).drop at_)).length) tv ∧ Only b w w' := by
  have HS0 := Lib.hid hsc
  clear hsc
  go_enter Tryd.func44, Tryd.ntmps44
  go_wp2_with fail
  go_loopg [6] (text.size - at_) (fun g _ wx => ∃ (W : World) (j : Nat), W = wx ∧ at_ + j + g = text.size ∧ Sc wx b text (at_ + j) tv ∧ Only b w wx ∧ Hid ((skd (lst c) ((lst text).drop at_)).length = j + (skd (lst c) ((lst text).drop (at_ + j))).length))
  case atStart => exact ⟨_, 0, rfl, by omega, HS0.out, Kept.refl _ _ _, (by simp : (skd (lst c) ((lst text).drop at_)).length = 0 + (skd (lst c) ((lst text).drop (at_ + 0))).length)⟩
  case round =>
    obtain ⟨wr, j, rfl, hg, hs, ho, hh⟩ := hrel
    have HS := Lib.hid hs
    have HO := Lib.hid ho
    obtain ⟨c0, c1, c2, f1, f2, hlt⟩ := hs.all
    clear hs ho c2 f2
    cases hv : hd (lst c) ((lst text).drop (at_ + j)) with
    | false =>
      have HN := Lib.hid (next_any b text c (at_ + j) tv wr HS.out (by omega) h3)
      rw [hv] at HN
      have hf : (skd (lst c) ((lst text).drop at_)).length = j := by rw [hh.out, skd_not hv]; simp
      have HF := Lib.hid hf
      clear hf hv
      go_wp2_with fail
      refine HN.out.mono ?_
      rintro e w1 ⟨rfl, k, rfl⟩
      go_wp2_with fail
      go_end0
      exact ⟨rfl, by rw [HF.out]; exact HS.out.drewN _, HO.out.drewN _⟩
    | true =>
      have HN := Lib.hid (next_any b text c (at_ + j) tv wr HS.out (by omega) h3)
      rw [hv] at HN
      have hf := skd_hd hv
      rw [List.drop_drop] at hf
      have hlen : at_ + j < text.size := by
        have h := skd_le (lst c) ((lst text).drop (at_ + j))
        rw [List.length_drop, lst_length] at h
        omega
      have HF : Hid ((skd (lst c) ((lst text).drop at_)).length = (j + 1) + (skd (lst c) ((lst text).drop (at_ + (j + 1)))).length) := by
        have h : (skd (lst c) ((lst text).drop at_)).length = (j + 1) + (skd (lst c) ((lst text).drop (at_ + (j + 1)))).length := by
          rw [hh.out, hf, show at_ + j + 1 = at_ + (j + 1) by omega]; omega
        exact h
      clear hf hv
      go_wp2_with fail
      refine HN.out.mono ?_
      rintro e w1 ⟨rfl, k, rfl⟩
      go_wp2_with fail
      go_roundg (text.size - (at_ + (j + 1)))
      case measure => omega
      case rel =>
        refine ⟨_, j + 1, rfl, by omega, ?_, ?_, HF⟩
        · have h := (HS.out.drewN k).setAt (at_ + (j + 1))
          have e : ((at_ + (j + 1) : Nat) : Int) = ((at_ + j : Nat) : Int) + 1 := by omega
          rw [e] at h
          simpa using h
        · have h := Kept.setCell (HO.out.drewN k) (p := ⟨b, 1, none⟩) (.inl rfl) (.int .i64 (((at_ + j : Nat) : Int) + 1))
          simpa using h

/-- Two results: a string and whether the text goes on. -/
def StrB (v : Bytes × Bool × Bytes) : Value := .tuple #[.string (mk v.1), .bool v.2.1]

theorem valueT_cons (q : UInt8) (r2 : Bytes) : valueT (q :: r2) = (if q = 34 ∨ q = 39 then
      match brkR [q] r2 with
      | [] => ([], false, [])
      | _ :: r3 => (unesc (brk [q] r2), true, r3)
    else (unesc (brk (spaces ++ [62]) (q :: r2)), true, brkR (spaces ++ [62]) (q :: r2))) := rfl
theorem valueT_le (r : Bytes) : (valueT r).2.2.length ≤ r.length := by
  unfold valueT
  split
  · simp
  · rename_i q r2
    split
    · split
      · simp
      · rename_i x r3 hx
        have h1 := congrArg List.length (brk_split [q] r2)
        rw [hx] at h1
        simp only [List.length_append, List.length_cons] at h1
        show r3.length ≤ (q :: r2).length
        simp only [List.length_cons]
        omega
    · have h1 := congrArg List.length (brk_split (spaces ++ [62]) (q :: r2))
      simp only [List.length_append] at h1
      show (brkR (spaces ++ [62]) (q :: r2)).length ≤ (q :: r2).length
      omega
theorem valueM_le (r : Bytes) : (valueM r).2.2.length ≤ r.length := by
  have h0 := congrArg List.length (skd_split spaces r)
  simp only [List.length_append] at h0
  have := valueT_le (skp spaces r)
  unfold valueM; omega

theorem okSet_of {c : ByteArray} (h1 : 1 ≤ c.size) (h2 : c.size ≤ 100) (h : ∀ b ∈ lst c, b.toNat < 128) : OkSet c :=
  ⟨h1, h2, fun _ _ hb => h _ (List.mem_of_getElem? hb)⟩

set_option maxHeartbeats 1000000 in
set_option maxRecDepth 100000 in
theorem value_any (b : Nat) (text : ByteArray) (at_ : Nat) (tv : Value) (w : World) (hg : Glob w) (hb10 : 10 ≤ b) (hsc : Sc w b text at_ tv) (hat : at_ ≤ text.size) (h3 : text.size ≤ 1000000000) :
    Calls Tryd.prog 61 #[.pointer (some ⟨b, 0, none⟩)] w fun e w' =>
      e = .returned (StrB (valueM ((lst text).drop at_))) ∧ Sc w' b text (text.size - (valueM ((lst text).drop at_)).2.2.length) tv ∧ Only b w w' := by
  have HS0 := Lib.hid hsc
  have HG := Lib.hid hg
  clear hsc hg
  have hsk := skip_any b text ⟨#[32, 9, 10, 12]⟩ at_ tv w HS0.out hat h3
  have hsp : lst ⟨#[32, 9, 10, 12]⟩ = spaces := rfl
  rw [hsp] at hsk
  have hr0 : (lst text).drop (at_ + (skd spaces ((lst text).drop at_)).length) = skp spaces ((lst text).drop at_) := by
    rw [← List.drop_drop, skd_drop]
  have hle0 : at_ + (skd spaces ((lst text).drop at_)).length ≤ text.size := by
    have := skd_le spaces ((lst text).drop at_)
    rw [List.length_drop, lst_length] at this; omega
  have hM : valueM ((lst text).drop at_) = valueT ((lst text).drop (at_ + (skd spaces ((lst text).drop at_)).length)) := by rw [hr0]; rfl
  have HM := Lib.hid hM
  clear hM hr0 hsp
  generalize at_ + (skd spaces ((lst text).drop at_)).length = a1 at *
  have HSK := Lib.hid hsk
  clear hsk
  have hq : lst ⟨#[34, 39]⟩ = [34, 39] := rfl
  have hlen1 : ((lst text).drop a1).length = text.size - a1 := by rw [List.length_drop, lst_length]
  have hNx := fun W h => next_any b text ⟨#[34, 39]⟩ a1 tv W h hle0 h3
  rw [hq] at hNx
  have hend : lst ⟨#[32, 9, 10, 12, 62]⟩ = spaces ++ [62] := rfl
  have hUn := fun W h => until_any b text ⟨#[32, 9, 10, 12, 62]⟩ a1 tv W h hle0 h3 (okSet_of (by decide) (by decide) (by decide))
  rw [hend] at hUn
  by_cases hh : hd [34, 39] ((lst text).drop a1) = true
  · obtain ⟨q, r2, hr, hqc⟩ := hd_true hh
    rw [hh] at hNx
    have HNx := Lib.hid hNx
    rw [hr] at HM
    have hq2 : q = 34 ∨ q = 39 := by
      rw [List.contains_iff_mem] at hqc
      simpa using hqc
    have hq128 : q.toNat < 128 := by rcases hq2 with rfl | rfl <;> decide
    have hl1 : a1 < text.size := by rw [hr] at hlen1; simp at hlen1; omega
    have hr2 : (lst text).drop (a1 + 1) = r2 := by rw [← List.drop_drop, hr]; rfl
    have hquote : text.extract a1 (a1 + 1) = mk [q] := by rw [ext_take, hr]; rfl
    have HQ := Lib.hid hquote
    have hU2 := fun W h => until_any b text (mk [q]) (a1 + 1) tv W h (by omega) h3 (okSet_of (by rw [mk_size]; simp) (by rw [mk_size]; simp) (by rw [lst_mk]; simpa using hq128))
    rw [lst_mk, hr2] at hU2
    have hle2 : a1 + 1 + (brk [q] r2).length ≤ text.size := by
      have := brk_le [q] r2
      rw [← hr2, List.length_drop, lst_length] at this
      rw [← hr2]; omega
    have hr3 : (lst text).drop (a1 + 1 + (brk [q] r2).length) = brkR [q] r2 := by rw [← List.drop_drop, hr2, brk_drop]
    have hN2 := fun W h => next_any b text (mk [q]) (a1 + 1 + (brk [q] r2).length) tv W h hle2 h3
    rw [lst_mk, hr3] at hN2
    have HU2 := Lib.hid hU2
    have hl3 : (brkR [q] r2).length = text.size - (a1 + 1 + (brk [q] r2).length) := by rw [← hr3, List.length_drop, lst_length]
    have hvz : (mk (brk [q] r2)).size ≤ 1000000000 := by rw [mk_size]; omega
    cases hb3 : brkR [q] r2 with
    | nil =>
      have hv : valueT (q :: r2) = ([], false, []) := by
        rw [valueT_cons, if_pos hq2, hb3]
      rw [hv] at HM
      rw [hb3] at hN2
      have HN2 := Lib.hid hN2
      rw [hb3] at hl3
      simp only [List.length_nil] at hl3
      have HL3 := Lib.hid hl3
      clear hNx hUn hU2 hN2 hb3 hr3 hr2 hr hv hquote hh hqc hlen1 hq2 hl3 hq hend
      generalize (brk [q] r2).length = k at *
      go_enter Tryd.func61, Tryd.ntmps61
      go_wp2_with fail
      refine HSK.out.mono ?_
      rintro e w1 ⟨rfl, hs1, ho1⟩
      have HS1 := Lib.hid hs1
      have HO1 := Lib.hid ho1
      clear hs1 ho1
      go_wp2_with fail
      refine (HNx.out w1 HS1.out).mono ?_
      rintro e w2 ⟨rfl, n2, rfl⟩
      go_wp2_with fail
      refine (pass_any b text a1 1 tv _ (HS1.out.drewN n2) (by omega) (by omega) h3).mono ?_
      rintro e w3 ⟨rfl, hs3, ho3⟩
      have HS3 := Lib.hid hs3
      have HO3 := Lib.hid ((HO1.out.drewN n2).trans (ho3.mono HO1.out.size fun _ _ e => e))
      clear hs3 ho3
      go_wp2_with fail
      rw [show (text.extract a1 (a1 + 1)) = mk [q] from HQ.out]
      refine (HU2.out w3 HS3.out).mono ?_
      rintro e w4 ⟨rfl, hs4, ho4⟩
      have HS4 := Lib.hid hs4
      have HO4 := Lib.hid (HO3.out.trans (ho4.mono HO3.out.size fun _ _ e => e))
      clear hs4 ho4
      go_wp2_with fail
      refine (HN2.out w4 HS4.out).mono ?_
      rintro e w5 ⟨rfl, n5, rfl⟩
      go_wp2_with fail
      go_ret2
      refine ⟨by rw [HM.out]; rfl, ?_, HO4.out.drewN n5⟩
      rw [HM.out]
      exact (HS4.out.drewN n5).at_eq (by have := HL3.out; simp; omega)
    | cons x r3 =>
      have hv : valueT (q :: r2) = (unesc (brk [q] r2), true, r3) := by
        rw [valueT_cons, if_pos hq2, hb3]
      rw [hv] at HM
      have hxh : hd [q] (x :: r3) = true := by
        have h1 : ¬ (!([q] : Bytes).contains x) = true := by
          have := List.head?_dropWhile_not (fun b => !([q] : Bytes).contains b) r2
          unfold brkR at hb3
          rw [hb3] at this
          simpa using this
        simpa [hd] using h1
      rw [hb3, hxh] at hN2
      have HN2 := Lib.hid hN2
      rw [hb3] at hl3
      simp only [List.length_cons] at hl3
      have HL3 := Lib.hid hl3
      have hlt3 : a1 + 1 + (brk [q] r2).length < text.size := by omega
      have hvz2 := hvz
      have HUE := fun W (h : Glob W) => unescape_any (mk (brk [q] r2)) hvz2 W h
      rw [lst_mk] at HUE
      have HUE2 := Lib.hid HUE
      clear hNx hUn hU2 hN2 hb3 hr3 hr2 hr hv hquote hh hqc hlen1 hq2 hl3 hq hend HUE hxh hvz2 hvz
      generalize hbq : brk [q] r2 = bq at *
      clear hbq
      go_enter Tryd.func61, Tryd.ntmps61
      go_wp2_with fail
      refine HSK.out.mono ?_
      rintro e w1 ⟨rfl, hs1, ho1⟩
      have HS1 := Lib.hid hs1
      have HO1 := Lib.hid ho1
      clear hs1 ho1
      go_wp2_with fail
      refine (HNx.out w1 HS1.out).mono ?_
      rintro e w2 ⟨rfl, n2, rfl⟩
      go_wp2_with fail
      refine (pass_any b text a1 1 tv _ (HS1.out.drewN n2) (by omega) (by omega) h3).mono ?_
      rintro e w3 ⟨rfl, hs3, ho3⟩
      have HS3 := Lib.hid hs3
      have HO3 := Lib.hid ((HO1.out.drewN n2).trans (ho3.mono HO1.out.size fun _ _ e => e))
      clear hs3 ho3
      go_wp2_with fail
      rw [show (text.extract a1 (a1 + 1)) = mk [q] from HQ.out]
      refine (HU2.out w3 HS3.out).mono ?_
      rintro e w4 ⟨rfl, hs4, ho4⟩
      have HS4 := Lib.hid hs4
      have HO4 := Lib.hid (HO3.out.trans (ho4.mono HO3.out.size fun _ _ e => e))
      clear hs4 ho4
      go_wp2_with fail
      refine (HN2.out w4 HS4.out).mono ?_
      rintro e w5 ⟨rfl, n5, rfl⟩
      go_wp2_with fail
      refine (pass_any b text (a1 + 1 + bq.length) 1 tv _ (HS4.out.drewN n5) (by omega) (by omega) h3).mono ?_
      rintro e w6 ⟨rfl, hs6, ho6⟩
      have HS6 := Lib.hid hs6
      have HO6 := Lib.hid ((HO4.out.drewN n5).trans (ho6.mono HO4.out.size fun _ _ e => e))
      clear hs6 ho6
      go_wp2_with fail
      refine (HUE2.out w6 (HG.out.kept HO6.out HG.out.size (by intro k hk e; omega))).mono ?_
      rintro e w7 ⟨rfl, hb7⟩
      have HS7 := Lib.hid (HS6.out.below hb7 (lt_of_block HS6.out))
      have HO7 := Lib.hid (Only.below HO6.out hb7)
      clear hb7
      go_wp2_with fail
      go_ret2
      refine ⟨by rw [HM.out]; rfl, ?_, HO7.out⟩
      rw [HM.out]
      exact HS7.out.at_eq (by have := HL3.out; simp; omega)
  · have hh' : hd [34, 39] ((lst text).drop a1) = false := by simpa using hh
    rw [hh'] at hNx
    have HNx := Lib.hid hNx
    have HUn := Lib.hid hUn
    have hv : valueT ((lst text).drop a1) = (unesc (brk (spaces ++ [62]) ((lst text).drop a1)), true, brkR (spaces ++ [62]) ((lst text).drop a1)) := by
      cases hr : (lst text).drop a1 with
      | nil => rfl
      | cons q r2 =>
        rw [valueT_cons, if_neg ?_]
        rw [hr] at hh'
        simpa [hd] using hh'
    rw [hv] at HM
    have hl3 := congrArg List.length (brk_split (spaces ++ [62]) ((lst text).drop a1))
    rw [List.length_append, hlen1] at hl3
    have HL3 := Lib.hid hl3
    have hvz : (mk (brk (spaces ++ [62]) ((lst text).drop a1))).size ≤ 1000000000 := by rw [mk_size]; omega
    have HUE := fun W (h : Glob W) => unescape_any (mk (brk (spaces ++ [62]) ((lst text).drop a1))) hvz W h
    rw [lst_mk] at HUE
    have HUE2 := Lib.hid HUE
    clear hNx hUn HUE hvz hl3 hv hh' hh hq hend hlen1
    generalize brk (spaces ++ [62]) ((lst text).drop a1) = bq at *
    generalize brkR (spaces ++ [62]) ((lst text).drop a1) = br at *
    go_enter Tryd.func61, Tryd.ntmps61
    go_wp2_with fail
    refine HSK.out.mono ?_
    rintro e w1 ⟨rfl, hs1, ho1⟩
    have HS1 := Lib.hid hs1
    have HO1 := Lib.hid ho1
    clear hs1 ho1
    go_wp2_with fail
    refine (HNx.out w1 HS1.out).mono ?_
    rintro e w2 ⟨rfl, n2, rfl⟩
    go_wp2_with fail
    refine (HUn.out _ (HS1.out.drewN n2)).mono ?_
    rintro e w4 ⟨rfl, hs4, ho4⟩
    have HS4 := Lib.hid hs4
    have HO4 := Lib.hid ((HO1.out.drewN n2).trans (ho4.mono HO1.out.size fun _ _ e => e))
    clear hs4 ho4
    go_wp2_with fail
    refine (HUE2.out w4 (HG.out.kept HO4.out HG.out.size (by intro k hk e; omega))).mono ?_
    rintro e w7 ⟨rfl, hb7⟩
    have HS7 := Lib.hid (HS4.out.below hb7 (lt_of_block HS4.out))
    have HO7 := Lib.hid (Only.below HO4.out hb7)
    clear hb7
    go_wp2_with fail
    go_ret2
    refine ⟨by rw [HM.out]; rfl, ?_, HO7.out⟩
    rw [HM.out]
    exact HS7.out.at_eq (by have := HL3.out; simp; omega)

end Go.Proofs.YtbgonaacheemcaaDoor
