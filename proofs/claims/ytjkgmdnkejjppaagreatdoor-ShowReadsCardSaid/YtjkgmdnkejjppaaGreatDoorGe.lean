/- Joined texts: TokB TokC TokD AtRow. -/
import Derived.StillTailTactics
import Derived.Deep.RegionHeld3
import Derived.Laws.ResultCell
import Derived.Laws.AppendOwn
import Derived.Deep.LoopGhost
import Derived.Test.YtjkgmdnkejjppaaGreatDoorGc
import Derived.Test.YtjkgmdnkejjppaaGreatDoorGd
/- Walks of the scanner's methods: until, skip, value, attr. -/
namespace Go.Proofs.YtjkgmdnkejjppaaGreatDoor
open Go Go.RowKit

theorem brk_hit {c : Bytes} {b : UInt8} (l : Bytes) (h : c.contains b = true) : brk c (b :: l) = [] := by
  unfold brk; rw [List.takeWhile_cons, h]; rfl
theorem brk_miss {c : Bytes} {b : UInt8} (l : Bytes) (h : c.contains b = false) : brk c (b :: l) = b :: brk c l := by
  unfold brk; rw [List.takeWhile_cons, h]; rfl

theorem indexAny_brk (c : Bytes) : ∀ l : Bytes, Lib.indexAny l c = if (brk c l).length < l.length then ((brk c l).length : Int) else -1
  | [] => by simp [Lib.indexAny, brk]
  | b :: l => by
    have ih := indexAny_brk c l
    unfold Lib.indexAny
    cases hb : c.contains b with
    | true => rw [brk_hit l hb]; simp
    | false =>
      rw [brk_miss l hb, if_neg (by decide), ih]
      have hle := brk_le c l
      by_cases hlt : (brk c l).length < l.length
      · simp only [if_pos hlt, List.length_cons]
        rw [if_neg (by simp), if_pos (by omega)]
        simp
      · simp only [if_neg hlt, List.length_cons]
        rw [if_pos (by rfl), if_neg (by omega)]

/-- A set of bytes that 'until' may be handed. -/
structure OkSet (c : ByteArray) : Prop where
  pos : 1 ≤ c.size
  small : c.size ≤ 100
  ascii : AsciiL (lst c)

theorem lst_rest (text : ByteArray) (i : Nat) : lst (text.extract i text.size) = (lst text).drop i := by
  rw [lst_extract, List.take_of_length_le (by rw [List.length_drop, lst_length]; omega)]
theorem ext_take (text : ByteArray) (i k : Nat) : text.extract i (i + k) = mk (((lst text).drop i).take k) := by
  apply ext_lst; rw [lst_extract, lst_mk, show i + k - i = k by omega]

set_option maxHeartbeats 1000000 in
set_option maxRecDepth 100000 in
theorem until_any (b : Nat) (text c : ByteArray) (at_ : Nat) (tv : Value) (w : World) (hsc : Sc w b text at_ tv) (hat : at_ ≤ text.size) (h3 : text.size ≤ 1000000000) (hc : OkSet c) :
    Calls Tryz.prog 101 #[.pointer (some ⟨b, 0, none⟩), .string c] w fun e w' =>
      e = .returned (.string (mk (brk (lst c) ((lst text).drop at_)))) ∧ Sc w' b text (at_ + (brk (lst c) ((lst text).drop at_)).length) tv ∧ Only b w w' := by
  obtain ⟨c0, c1, c2, f1, f2, hlt⟩ := hsc.all
  have HS := Lib.hid hsc
  have HC := Lib.hid hc
  clear hsc c2 f1 f2 hc
  have hati : (0 : Int) ≤ (at_ : Int) := by omega
  have hati2 : (at_ : Int) ≤ (text.size : Int) := by omega
  have hez : (text.extract at_ text.size).size ≤ 1000000000 := by rw [← lst_length, lst_rest, List.length_drop, lst_length]; omega
  have hIx := indexAny_any (text.extract at_ text.size) c w.drew hez HC.out.pos HC.out.small HC.out.ascii
  rw [lst_rest, indexAny_brk] at hIx
  have hle := brk_le (lst c) ((lst text).drop at_)
  have hrl : ((lst text).drop at_).length = text.size - at_ := by rw [List.length_drop, lst_length]
  have hfull : ¬ (brk (lst c) ((lst text).drop at_)).length < ((lst text).drop at_).length → (brk (lst c) ((lst text).drop at_)).length = text.size - at_ := by intro h; omega
  have hext := ext_take text at_ (brk (lst c) ((lst text).drop at_)).length
  rw [brk_take] at hext
  have HX := Lib.hid hext
  clear hext
  generalize brk (lst c) ((lst text).drop at_) = B at *
  have hB : (B.length : Int) ≤ (text.size : Int) - at_ := by omega
  by_cases hk : B.length < ((lst text).drop at_).length
  · rw [if_pos hk] at hIx
    have HIx := Lib.hid hIx
    clear hIx hfull hk hrl hle
    go_enter Tryz.func101, Tryz.ntmps101
    go_wp2
    go_still_tail 10, (by kernel_rfl)
    change wpList _ _ _ _ _ w.drew
    go_wp2_with fail
    refine HIx.out.mono ?_
    rintro e w1 ⟨rfl, hb⟩
    have HO1 := Lib.hid (Only.below ((Kept.refl (fun k => k = b) _ w).drew) hb)
    have HS1 := Lib.hid (Sc.below (HS.out.drewN 1) hb hlt)
    clear hb
    go_wp2_with fail
    refine (pass_any b text at_ B.length tv w1 HS1.out (by omega) (by omega) h3).mono ?_
    rintro e w2 ⟨rfl, hs2, ho2⟩
    have HS2 := Lib.hid hs2
    have HO2 := Lib.hid (HO1.out.trans ho2)
    clear hs2 ho2
    go_wp2_with fail
    go_ret
    refine ⟨?_, HS2.out, HO2.out⟩
    rw [← HX.out]
    rfl
  · rw [if_neg hk] at hIx
    have hfl := hfull hk
    have HF := Lib.hid hfl
    have HIx := Lib.hid hIx
    clear hIx hfull hk hrl hle hfl
    go_enter Tryz.func101, Tryz.ntmps101
    go_wp2
    go_still_tail 10, (by kernel_rfl)
    change wpList _ _ _ _ _ w.drew
    go_wp2_with fail
    refine HIx.out.mono ?_
    rintro e w1 ⟨rfl, hb⟩
    have HO1 := Lib.hid (Only.below ((Kept.refl (fun k => k = b) _ w).drew) hb)
    have HS1 := Lib.hid (Sc.below (HS.out.drewN 1) hb hlt)
    clear hb c0 c1
    obtain ⟨c0, c1, _, _, _, hlt1⟩ := HS1.out.all
    go_wp2_with fail
    go_quiet (fail)
    generalize hwq : w1.drewN _ = wq
    have HS2 := Lib.hid (show Sc wq b text at_ tv by rw [← hwq]; exact HS1.out.drewN _)
    have HO2 := Lib.hid (show Only b w wq by rw [← hwq]; exact HO1.out.drewN _)
    clear hwq
    go_wp2_with fail
    refine (pass_any b text at_ ((text.size : Int) - at_) tv wq HS2.out (by omega) (by omega) h3).mono ?_
    rintro e w2 ⟨rfl, hs3, ho3⟩
    have e1 : ((text.size : Int) - at_).toNat = B.length := by have := HF.out; omega
    rw [e1] at hs3
    have HS3 := Lib.hid hs3
    have HO3 := Lib.hid (HO2.out.trans ho3)
    clear hs3 ho3
    go_wp2_with fail
    go_ret
    refine ⟨?_, HS3.out, HO3.out⟩
    rw [← HX.out, ← e1]
    rfl

end Go.Proofs.YtjkgmdnkejjppaaGreatDoor
/- Walks of the scanner's methods: skip, value. -/
namespace Go.Proofs.YtjkgmdnkejjppaaGreatDoor
open Go Go.RowKit

theorem skd_split (c l : Bytes) : skd c l ++ skp c l = l := List.takeWhile_append_dropWhile
theorem skd_le (c l : Bytes) : (skd c l).length ≤ l.length := by
  have h := congrArg List.length (skd_split c l)
  simp only [List.length_append] at h
  omega
theorem skd_drop (c l : Bytes) : l.drop (skd c l).length = skp c l := by
  have h := skd_split c l
  generalize skd c l = a at *
  generalize skp c l = b at *
  subst h; simp
theorem hd_true {c l : Bytes} (h : hd c l = true) : ∃ b r, l = b :: r ∧ c.contains b = true := by
  cases l with
  | nil => cases h
  | cons b r => exact ⟨b, r, rfl, h⟩
theorem skd_hd {c l : Bytes} (h : hd c l = true) : (skd c l).length = (skd c (l.drop 1)).length + 1 := by
  obtain ⟨b, r, rfl, hb⟩ := hd_true h
  unfold skd; rw [List.takeWhile_cons, hb]; rfl
theorem skd_not {c l : Bytes} (h : hd c l = false) : skd c l = [] := by
  cases l with
  | nil => rfl
  | cons b r =>
    have h' : c.contains b = false := h
    unfold skd; rw [List.takeWhile_cons, h']; rfl

set_option maxHeartbeats 1000000 in
set_option maxRecDepth 100000 in
theorem skip_any (b : Nat) (text c : ByteArray) (at_ : Nat) (tv : Value) (w : World) (hsc : Sc w b text at_ tv) (hat : at_ ≤ text.size) (h3 : text.size ≤ 1000000000) :
    Calls Tryz.prog 102 #[.pointer (some ⟨b, 0, none⟩), .string c] w fun e w' =>
      e = .returned (.tuple #[]) ∧ Sc w' b text (at_ + (skd (lst c) ((lst text).drop at_)).length) tv ∧ Only b w w' := by
  have HS0 := Lib.hid hsc
  clear hsc
  go_enter Tryz.func102, Tryz.ntmps102
  go_wp2_with fail
  go_loopg [6] (text.size - at_) (fun g _ wx => ∃ (W : World) (j : Nat), W = wx ∧ at_ + j + g = text.size ∧ Sc wx b text (at_ + j) tv ∧ Only b w wx ∧ Hid ((skd (lst c) ((lst text).drop at_)).length = j + (skd (lst c) ((lst text).drop (at_ + j))).length))
  case atStart => exact ⟨_, 0, rfl, by omega, HS0.out, Kept.refl _ _ _, (by simp : (skd (lst c) ((lst text).drop at_)).length = 0 + (skd (lst c) ((lst text).drop (at_ + 0))).length)⟩
  case round =>
    obtain ⟨wr, j, rfl, hg, hs, ho, hh⟩ := hrel
    have HS := Lib.hid hs
    have HO := Lib.hid ho
    obtain ⟨c0, c1, c2, f1, f2, hlt⟩ := hs.all
    clear hs ho c2 f2
    cases hv : hd (lst c) ((lst text).drop (at_ + j)) with
    | false =>
      have HN := Lib.hid (next_any b text c (at_ + j) tv wr HS.out (by omega) h3)
      rw [hv] at HN
      have hf : (skd (lst c) ((lst text).drop at_)).length = j := by rw [hh.out, skd_not hv]; simp
      have HF := Lib.hid hf
      clear hf hv
      go_wp2_with fail
      refine HN.out.mono ?_
      rintro e w1 ⟨rfl, k, rfl⟩
      go_wp2_with fail
      go_end0
      exact ⟨rfl, by rw [HF.out]; exact HS.out.drewN _, HO.out.drewN _⟩
    | true =>
      have HN := Lib.hid (next_any b text c (at_ + j) tv wr HS.out (by omega) h3)
      rw [hv] at HN
      have hf := skd_hd hv
      rw [List.drop_drop] at hf
      have hlen : at_ + j < text.size := by
        have h := skd_le (lst c) ((lst text).drop (at_ + j))
        rw [List.length_drop, lst_length] at h
        omega
      have HF : Hid ((skd (lst c) ((lst text).drop at_)).length = (j + 1) + (skd (lst c) ((lst text).drop (at_ + (j + 1)))).length) := by
        have h : (skd (lst c) ((lst text).drop at_)).length = (j + 1) + (skd (lst c) ((lst text).drop (at_ + (j + 1)))).length := by
          rw [hh.out, hf, show at_ + j + 1 = at_ + (j + 1) by omega]; omega
        exact h
      clear hf hv
      go_wp2_with fail
      refine HN.out.mono ?_
      rintro e w1 ⟨rfl, k, rfl⟩
      go_wp2_with fail
      go_roundg (text.size - (at_ + (j + 1)))
      case measure => omega
      case rel =>
        refine ⟨_, j + 1, rfl, by omega, ?_, ?_, HF⟩
        · have h := (HS.out.drewN k).setAt (at_ + (j + 1))
          have e : ((at_ + (j + 1) : Nat) : Int) = ((at_ + j : Nat) : Int) + 1 := by omega
          rw [e] at h
          simpa using h
        · have h := Kept.setCell (HO.out.drewN k) (p := ⟨b, 1, none⟩) (.inl rfl) (.int .i64 (((at_ + j : Nat) : Int) + 1))
          simpa using h

/-- Two results: a string and whether the text goes on. -/
def StrB (v : Bytes × Bool × Bytes) : Value := .tuple #[.string (mk v.1), .bool v.2.1]

theorem valueT_cons (q : UInt8) (r2 : Bytes) : valueT (q :: r2) = (if q = 34 ∨ q = 39 then
      match brkR [q] r2 with
      | [] => ([], false, [])
      | _ :: r3 => (unesc (brk [q] r2), true, r3)
    else (unesc (brk (spaces ++ [62]) (q :: r2)), true, brkR (spaces ++ [62]) (q :: r2))) := rfl
theorem valueT_le (r : Bytes) : (valueT r).2.2.length ≤ r.length := by
  unfold valueT
  split
  · simp
  · rename_i q r2
    split
    · split
      · simp
      · rename_i x r3 hx
        have h1 := congrArg List.length (brk_split [q] r2)
        rw [hx] at h1
        simp only [List.length_append, List.length_cons] at h1
        show r3.length ≤ (q :: r2).length
        simp only [List.length_cons]
        omega
    · have h1 := congrArg List.length (brk_split (spaces ++ [62]) (q :: r2))
      simp only [List.length_append] at h1
      show (brkR (spaces ++ [62]) (q :: r2)).length ≤ (q :: r2).length
      omega
theorem valueM_le2 (r : Bytes) : (valueM r).2.2.length ≤ r.length := by
  have h0 := congrArg List.length (skd_split spaces r)
  simp only [List.length_append] at h0
  have := valueT_le (skp spaces r)
  unfold valueM; omega

theorem okSet_of {c : ByteArray} (h1 : 1 ≤ c.size) (h2 : c.size ≤ 100) (h : ∀ b ∈ lst c, b.toNat < 128) : OkSet c :=
  ⟨h1, h2, fun _ _ hb => h _ (List.mem_of_getElem? hb)⟩

set_option maxHeartbeats 1000000 in
set_option maxRecDepth 100000 in
theorem value_any (b : Nat) (text : ByteArray) (at_ : Nat) (tv : Value) (w : World) (hg : Glob w) (hb10 : 10 ≤ b) (hsc : Sc w b text at_ tv) (hat : at_ ≤ text.size) (h3 : text.size ≤ 1000000000) :
    Calls Tryz.prog 121 #[.pointer (some ⟨b, 0, none⟩)] w fun e w' =>
      e = .returned (StrB (valueM ((lst text).drop at_))) ∧ Sc w' b text (text.size - (valueM ((lst text).drop at_)).2.2.length) tv ∧ Only b w w' := by
  have HS0 := Lib.hid hsc
  have HG := Lib.hid hg
  clear hsc hg
  have hsk := skip_any b text ⟨#[32, 9, 10, 12]⟩ at_ tv w HS0.out hat h3
  have hsp : lst ⟨#[32, 9, 10, 12]⟩ = spaces := rfl
  rw [hsp] at hsk
  have hr0 : (lst text).drop (at_ + (skd spaces ((lst text).drop at_)).length) = skp spaces ((lst text).drop at_) := by
    rw [← List.drop_drop, skd_drop]
  have hle0 : at_ + (skd spaces ((lst text).drop at_)).length ≤ text.size := by
    have := skd_le spaces ((lst text).drop at_)
    rw [List.length_drop, lst_length] at this; omega
  have hM : valueM ((lst text).drop at_) = valueT ((lst text).drop (at_ + (skd spaces ((lst text).drop at_)).length)) := by rw [hr0]; rfl
  have HM := Lib.hid hM
  clear hM hr0 hsp
  generalize at_ + (skd spaces ((lst text).drop at_)).length = a1 at *
  have HSK := Lib.hid hsk
  clear hsk
  have hq : lst ⟨#[34, 39]⟩ = [34, 39] := rfl
  have hlen1 : ((lst text).drop a1).length = text.size - a1 := by rw [List.length_drop, lst_length]
  have hNx := fun W h => next_any b text ⟨#[34, 39]⟩ a1 tv W h hle0 h3
  rw [hq] at hNx
  have hend : lst ⟨#[32, 9, 10, 12, 62]⟩ = spaces ++ [62] := rfl
  have hUn := fun W h => until_any b text ⟨#[32, 9, 10, 12, 62]⟩ a1 tv W h hle0 h3 (okSet_of (by decide) (by decide) (by decide))
  rw [hend] at hUn
  by_cases hh : hd [34, 39] ((lst text).drop a1) = true
  · obtain ⟨q, r2, hr, hqc⟩ := hd_true hh
    rw [hh] at hNx
    have HNx := Lib.hid hNx
    rw [hr] at HM
    have hq2 : q = 34 ∨ q = 39 := by
      rw [List.contains_iff_mem] at hqc
      simpa using hqc
    have hq128 : q.toNat < 128 := by rcases hq2 with rfl | rfl <;> decide
    have hl1 : a1 < text.size := by rw [hr] at hlen1; simp at hlen1; omega
    have hr2 : (lst text).drop (a1 + 1) = r2 := by rw [← List.drop_drop, hr]; rfl
    have hquote : text.extract a1 (a1 + 1) = mk [q] := by rw [ext_take, hr]; rfl
    have HQ := Lib.hid hquote
    have hU2 := fun W h => until_any b text (mk [q]) (a1 + 1) tv W h (by omega) h3 (okSet_of (by rw [mk_size]; simp) (by rw [mk_size]; simp) (by rw [lst_mk]; simpa using hq128))
    rw [lst_mk, hr2] at hU2
    have hle2 : a1 + 1 + (brk [q] r2).length ≤ text.size := by
      have := brk_le [q] r2
      rw [← hr2, List.length_drop, lst_length] at this
      rw [← hr2]; omega
    have hr3 : (lst text).drop (a1 + 1 + (brk [q] r2).length) = brkR [q] r2 := by rw [← List.drop_drop, hr2, brk_drop]
    have hN2 := fun W h => next_any b text (mk [q]) (a1 + 1 + (brk [q] r2).length) tv W h hle2 h3
    rw [lst_mk, hr3] at hN2
    have HU2 := Lib.hid hU2
    have hl3 : (brkR [q] r2).length = text.size - (a1 + 1 + (brk [q] r2).length) := by rw [← hr3, List.length_drop, lst_length]
    have hvz : (mk (brk [q] r2)).size ≤ 1000000000 := by rw [mk_size]; omega
    cases hb3 : brkR [q] r2 with
    | nil =>
      have hv : valueT (q :: r2) = ([], false, []) := by
        rw [valueT_cons, if_pos hq2, hb3]
      rw [hv] at HM
      rw [hb3] at hN2
      have HN2 := Lib.hid hN2
      rw [hb3] at hl3
      simp only [List.length_nil] at hl3
      have HL3 := Lib.hid hl3
      clear hNx hUn hU2 hN2 hb3 hr3 hr2 hr hv hquote hh hqc hlen1 hq2 hl3 hq hend
      generalize (brk [q] r2).length = k at *
      go_enter Tryz.func121, Tryz.ntmps121
      go_wp2_with fail
      refine HSK.out.mono ?_
      rintro e w1 ⟨rfl, hs1, ho1⟩
      have HS1 := Lib.hid hs1
      have HO1 := Lib.hid ho1
      clear hs1 ho1
      go_wp2_with fail
      refine (HNx.out w1 HS1.out).mono ?_
      rintro e w2 ⟨rfl, n2, rfl⟩
      go_wp2_with fail
      refine (pass_any b text a1 1 tv _ (HS1.out.drewN n2) (by omega) (by omega) h3).mono ?_
      rintro e w3 ⟨rfl, hs3, ho3⟩
      have HS3 := Lib.hid hs3
      have HO3 := Lib.hid ((HO1.out.drewN n2).trans (ho3.mono HO1.out.size fun _ _ e => e))
      clear hs3 ho3
      go_wp2_with fail
      rw [show (text.extract a1 (a1 + 1)) = mk [q] from HQ.out]
      refine (HU2.out w3 HS3.out).mono ?_
      rintro e w4 ⟨rfl, hs4, ho4⟩
      have HS4 := Lib.hid hs4
      have HO4 := Lib.hid (HO3.out.trans (ho4.mono HO3.out.size fun _ _ e => e))
      clear hs4 ho4
      go_wp2_with fail
      refine (HN2.out w4 HS4.out).mono ?_
      rintro e w5 ⟨rfl, n5, rfl⟩
      go_wp2_with fail
      go_ret2
      refine ⟨by rw [HM.out]; rfl, ?_, HO4.out.drewN n5⟩
      rw [HM.out]
      exact (HS4.out.drewN n5).at_eq (by have := HL3.out; simp; omega)
    | cons x r3 =>
      have hv : valueT (q :: r2) = (unesc (brk [q] r2), true, r3) := by
        rw [valueT_cons, if_pos hq2, hb3]
      rw [hv] at HM
      have hxh : hd [q] (x :: r3) = true := by
        have h1 : ¬ (!([q] : Bytes).contains x) = true := by
          have := List.head?_dropWhile_not (fun b => !([q] : Bytes).contains b) r2
          unfold brkR at hb3
          rw [hb3] at this
          simpa using this
        simpa [hd] using h1
      rw [hb3, hxh] at hN2
      have HN2 := Lib.hid hN2
      rw [hb3] at hl3
      simp only [List.length_cons] at hl3
      have HL3 := Lib.hid hl3
      have hlt3 : a1 + 1 + (brk [q] r2).length < text.size := by omega
      have hvz2 := hvz
      have HUE := fun W (h : Glob W) => unescape_any (mk (brk [q] r2)) hvz2 W h
      rw [lst_mk] at HUE
      have HUE2 := Lib.hid HUE
      clear hNx hUn hU2 hN2 hb3 hr3 hr2 hr hv hquote hh hqc hlen1 hq2 hl3 hq hend HUE hxh hvz2 hvz
      generalize hbq : brk [q] r2 = bq at *
      clear hbq
      go_enter Tryz.func121, Tryz.ntmps121
      go_wp2_with fail
      refine HSK.out.mono ?_
      rintro e w1 ⟨rfl, hs1, ho1⟩
      have HS1 := Lib.hid hs1
      have HO1 := Lib.hid ho1
      clear hs1 ho1
      go_wp2_with fail
      refine (HNx.out w1 HS1.out).mono ?_
      rintro e w2 ⟨rfl, n2, rfl⟩
      go_wp2_with fail
      refine (pass_any b text a1 1 tv _ (HS1.out.drewN n2) (by omega) (by omega) h3).mono ?_
      rintro e w3 ⟨rfl, hs3, ho3⟩
      have HS3 := Lib.hid hs3
      have HO3 := Lib.hid ((HO1.out.drewN n2).trans (ho3.mono HO1.out.size fun _ _ e => e))
      clear hs3 ho3
      go_wp2_with fail
      rw [show (text.extract a1 (a1 + 1)) = mk [q] from HQ.out]
      refine (HU2.out w3 HS3.out).mono ?_
      rintro e w4 ⟨rfl, hs4, ho4⟩
      have HS4 := Lib.hid hs4
      have HO4 := Lib.hid (HO3.out.trans (ho4.mono HO3.out.size fun _ _ e => e))
      clear hs4 ho4
      go_wp2_with fail
      refine (HN2.out w4 HS4.out).mono ?_
      rintro e w5 ⟨rfl, n5, rfl⟩
      go_wp2_with fail
      refine (pass_any b text (a1 + 1 + bq.length) 1 tv _ (HS4.out.drewN n5) (by omega) (by omega) h3).mono ?_
      rintro e w6 ⟨rfl, hs6, ho6⟩
      have HS6 := Lib.hid hs6
      have HO6 := Lib.hid ((HO4.out.drewN n5).trans (ho6.mono HO4.out.size fun _ _ e => e))
      clear hs6 ho6
      go_wp2_with fail
      refine (HUE2.out w6 (HG.out.kept HO6.out HG.out.size (by intro k hk e; omega))).mono ?_
      rintro e w7 ⟨rfl, hb7⟩
      have HS7 := Lib.hid (HS6.out.below hb7 (lt_of_block HS6.out))
      have HO7 := Lib.hid (Only.below HO6.out hb7)
      clear hb7
      go_wp2_with fail
      go_ret2
      refine ⟨by rw [HM.out]; rfl, ?_, HO7.out⟩
      rw [HM.out]
      exact HS7.out.at_eq (by have := HL3.out; simp; omega)
  · have hh' : hd [34, 39] ((lst text).drop a1) = false := by simpa using hh
    rw [hh'] at hNx
    have HNx := Lib.hid hNx
    have HUn := Lib.hid hUn
    have hv : valueT ((lst text).drop a1) = (unesc (brk (spaces ++ [62]) ((lst text).drop a1)), true, brkR (spaces ++ [62]) ((lst text).drop a1)) := by
      cases hr : (lst text).drop a1 with
      | nil => rfl
      | cons q r2 =>
        rw [valueT_cons, if_neg ?_]
        rw [hr] at hh'
        simpa [hd] using hh'
    rw [hv] at HM
    have hl3 := congrArg List.length (brk_split (spaces ++ [62]) ((lst text).drop a1))
    rw [List.length_append, hlen1] at hl3
    have HL3 := Lib.hid hl3
    have hvz : (mk (brk (spaces ++ [62]) ((lst text).drop a1))).size ≤ 1000000000 := by rw [mk_size]; omega
    have HUE := fun W (h : Glob W) => unescape_any (mk (brk (spaces ++ [62]) ((lst text).drop a1))) hvz W h
    rw [lst_mk] at HUE
    have HUE2 := Lib.hid HUE
    clear hNx hUn HUE hvz hl3 hv hh' hh hq hend hlen1
    generalize brk (spaces ++ [62]) ((lst text).drop a1) = bq at *
    generalize brkR (spaces ++ [62]) ((lst text).drop a1) = br at *
    go_enter Tryz.func121, Tryz.ntmps121
    go_wp2_with fail
    refine HSK.out.mono ?_
    rintro e w1 ⟨rfl, hs1, ho1⟩
    have HS1 := Lib.hid hs1
    have HO1 := Lib.hid ho1
    clear hs1 ho1
    go_wp2_with fail
    refine (HNx.out w1 HS1.out).mono ?_
    rintro e w2 ⟨rfl, n2, rfl⟩
    go_wp2_with fail
    refine (HUn.out _ (HS1.out.drewN n2)).mono ?_
    rintro e w4 ⟨rfl, hs4, ho4⟩
    have HS4 := Lib.hid hs4
    have HO4 := Lib.hid ((HO1.out.drewN n2).trans (ho4.mono HO1.out.size fun _ _ e => e))
    clear hs4 ho4
    go_wp2_with fail
    refine (HUE2.out w4 (HG.out.kept HO4.out HG.out.size (by intro k hk e; omega))).mono ?_
    rintro e w7 ⟨rfl, hb7⟩
    have HS7 := Lib.hid (HS4.out.below hb7 (lt_of_block HS4.out))
    have HO7 := Lib.hid (Only.below HO4.out hb7)
    clear hb7
    go_wp2_with fail
    go_ret2
    refine ⟨by rw [HM.out]; rfl, ?_, HO7.out⟩
    rw [HM.out]
    exact HS7.out.at_eq (by have := HL3.out; simp; omega)

end Go.Proofs.YtjkgmdnkejjppaaGreatDoor
/- Walks of the scanner's methods: attr. -/
namespace Go.Proofs.YtjkgmdnkejjppaaGreatDoor
open Go Go.RowKit

theorem mk_append (a b : Bytes) : mk a ++ mk b = mk (a ++ b) := by
  apply ext_lst
  rw [lst_mk]
  simp [lst, mk, ByteArray.data_append]

/-- An attribute in a block of its own. -/
def Cel (w : World) (n : Nat) (x y : ByteArray) : Prop := w.heap[n]? = some (.cells #[.string x, .string y] 85 (0, 0))
section
variable {w w' : World} {n : Nat} {x y : ByteArray}
theorem Cel.all (h : Cel w n x y) : w.cell? ⟨n, 0, none⟩ = some (.string x) ∧ w.cell? ⟨n, 1, none⟩ = some (.string y) ∧ w.frozen? ⟨n, 0, none⟩ = false ∧ w.frozen? ⟨n, 1, none⟩ = false ∧ n < w.heap.size :=
  ⟨by rw [Lib.cell_of_heap h]; rfl, by rw [Lib.cell_of_heap h]; rfl, Lib.frozen_of_heap h 0, Lib.frozen_of_heap h 1, lt_of_block h⟩
theorem Cel.set0 (h : Cel w n x y) (z : ByteArray) : Cel (w.setCell ⟨n, 0, none⟩ (.string z)) n z y := by
  unfold Cel at *; simp [World.setCell, Array.getElem?_modify, h]
theorem Cel.set1 (h : Cel w n x y) (z : ByteArray) : Cel (w.setCell ⟨n, 1, none⟩ (.string z)) n x z := by
  unfold Cel at *; simp [World.setCell, Array.getElem?_modify, h]
theorem Cel.kept {S : Nat → Prop} {B : Nat} (h : Cel w n x y) (hk : Kept S B w w') (hb : n < B) (hs : ¬ S n) : Cel w' n x y := by
  unfold Cel at *; rw [hk.block n hb hs]; exact h
theorem Cel.only {b : Nat} (h : Cel w n x y) (hk : Only b w w') (hne : n ≠ b) : Cel w' n x y := h.kept hk (lt_of_block h) hne
theorem Cel.drewN (h : Cel w n x y) (k : Nat) : Cel (w.drewN k) n x y := h
theorem Cel.other (h : Cel w n x y) {p : Addr} (hp : p.block ≠ n) (v : Value) : Cel (w.setCell p v) n x y := by
  unfold Cel at *; rw [Below.heap_setCell _ _ _ _ (fun e => hp e.symm)]; exact h
end
theorem Sc.other {w : World} {b : Nat} {text : ByteArray} {at_ : Nat} {tv : Value} (h : Sc w b text at_ tv) {p : Addr} (hp : p.block ≠ b) (v : Value) : Sc (w.setCell p v) b text at_ tv := by
  unfold Sc at *; rw [Below.heap_setCell _ _ _ _ (fun e => hp e.symm)]; exact h

def AttrV (v : TAttr × Bool × Bytes) : Value := .tuple #[.agg #[.string (mk v.1.name), .string (mk v.1.value)], .bool v.2.1]

theorem attrM_cons (c : UInt8) (r1 : Bytes) : attrM (c :: r1) = (match skp spaces (brkR attrEnd r1) with
    | [] => (⟨small (c :: brk attrEnd r1), []⟩, true, brkR attrEnd r1)
    | e :: r4 =>
      if e = 61 then (⟨small (c :: brk attrEnd r1), (valueM r4).1⟩, (valueM r4).2.1, (valueM r4).2.2)
      else (⟨small (c :: brk attrEnd r1), []⟩, true, brkR attrEnd r1)) := rfl

theorem attrM_le2 (c : UInt8) (r1 : Bytes) : (attrM (c :: r1)).2.2.length ≤ r1.length := by
  have h1 := congrArg List.length (brk_split attrEnd r1)
  have h2 := congrArg List.length (skd_split spaces (brkR attrEnd r1))
  simp only [List.length_append] at h1 h2
  rw [attrM_cons]
  split
  · show (brkR attrEnd r1).length ≤ _; omega
  · rename_i e r4 hs
    rw [hs] at h2
    simp only [List.length_cons] at h2
    have := valueM_le2 r4
    split
    · show (valueM r4).2.2.length ≤ _; omega
    · show (brkR attrEnd r1).length ≤ _; omega

set_option maxHeartbeats 2000000 in
set_option maxRecDepth 100000 in
theorem attr_any (b : Nat) (text : ByteArray) (at_ : Nat) (tv : Value) (w : World) (hg : Glob w) (hb10 : 10 ≤ b) (hsc : Sc w b text at_ tv) (hat : at_ < text.size) (h3 : text.size ≤ 1000000000) :
    Calls Tryz.prog 104 #[.pointer (some ⟨b, 0, none⟩)] w fun e w' =>
      e = .returned (AttrV (attrM ((lst text).drop at_))) ∧ Sc w' b text (text.size - (attrM ((lst text).drop at_)).2.2.length) tv ∧ Only b w w' := by
  have HS0 := Lib.hid hsc
  have HG := Lib.hid hg
  have hbw := lt_of_block hsc
  clear hsc hg
  have hl : at_ < (lst text).length := by rw [lst_length]; exact hat
  have hr := List.drop_eq_getElem_cons hl
  have hlen0 : ((lst text).drop (at_ + 1)).length = text.size - (at_ + 1) := by rw [List.length_drop, lst_length]
  generalize (lst text)[at_]'hl = c at *
  have hfirst : text.extract at_ (at_ + 1) = mk [c] := by rw [ext_take, hr]; rfl
  have HF := Lib.hid hfirst
  have hAe : lst ⟨#[32, 9, 10, 12, 47, 62, 61]⟩ = attrEnd := rfl
  have hUn := fun W h => until_any b text ⟨#[32, 9, 10, 12, 47, 62, 61]⟩ (at_ + 1) tv W h (by omega) h3 (okSet_of (by decide) (by decide) (by decide))
  rw [hAe] at hUn
  have hle2 : at_ + 1 + (brk attrEnd ((lst text).drop (at_ + 1))).length ≤ text.size := by
    have := brk_le attrEnd ((lst text).drop (at_ + 1))
    omega
  have hr2 : (lst text).drop (at_ + 1 + (brk attrEnd ((lst text).drop (at_ + 1))).length) = brkR attrEnd ((lst text).drop (at_ + 1)) := by rw [← List.drop_drop, brk_drop]
  have hsp : lst ⟨#[32, 9, 10, 12]⟩ = spaces := rfl
  have hSk := fun W h => skip_any b text ⟨#[32, 9, 10, 12]⟩ (at_ + 1 + (brk attrEnd ((lst text).drop (at_ + 1))).length) tv W h hle2 h3
  rw [hsp, hr2] at hSk
  have hle3 : at_ + 1 + (brk attrEnd ((lst text).drop (at_ + 1))).length + (skd spaces (brkR attrEnd ((lst text).drop (at_ + 1)))).length ≤ text.size := by
    have := skd_le spaces (brkR attrEnd ((lst text).drop (at_ + 1)))
    rw [← hr2, List.length_drop, lst_length] at this
    rw [← hr2]; omega
  have hr3 : (lst text).drop (at_ + 1 + (brk attrEnd ((lst text).drop (at_ + 1))).length + (skd spaces (brkR attrEnd ((lst text).drop (at_ + 1)))).length) = skp spaces (brkR attrEnd ((lst text).drop (at_ + 1))) := by
    rw [← List.drop_drop, hr2, skd_drop]
  have hl3 : (skp spaces (brkR attrEnd ((lst text).drop (at_ + 1)))).length = text.size - (at_ + 1 + (brk attrEnd ((lst text).drop (at_ + 1))).length + (skd spaces (brkR attrEnd ((lst text).drop (at_ + 1)))).length) := by
    rw [← hr3, List.length_drop, lst_length]
  have hl2 : (brkR attrEnd ((lst text).drop (at_ + 1))).length = text.size - (at_ + 1 + (brk attrEnd ((lst text).drop (at_ + 1))).length) := by
    rw [← hr2, List.length_drop, lst_length]
  have hM := attrM_cons c ((lst text).drop (at_ + 1))
  rw [← hr] at hM
  have hNx := fun W h => next_any b text ⟨#[61]⟩ (at_ + 1 + (brk attrEnd ((lst text).drop (at_ + 1))).length + (skd spaces (brkR attrEnd ((lst text).drop (at_ + 1)))).length) tv W h hle3 h3
  rw [hr3] at hNx
  have hbz : (brk attrEnd ((lst text).drop (at_ + 1))).length ≤ text.size := by omega
  generalize hbq : brk attrEnd ((lst text).drop (at_ + 1)) = bq at *
  generalize hbr : brkR attrEnd ((lst text).drop (at_ + 1)) = br at *
  generalize hk3 : (skd spaces br).length = k3 at *
  have HSk := Lib.hid hSk
  have HUn := Lib.hid hUn
  have hname : mk [c] ++ mk bq = mk (c :: bq) := by rw [mk_append]; rfl
  have HNa := Lib.hid hname
  have hSm := fun W => small_any (mk (c :: bq)) W (by rw [mk_size]; simp; omega)
  rw [lst_mk] at hSm
  have HSm := Lib.hid hSm
  have HL2 := Lib.hid hl2
  by_cases hh : hd [61] (skp spaces br) = true
  · obtain ⟨e, r4, hr4, hec⟩ := hd_true hh
    have he : e = 61 := by
      rw [List.contains_iff_mem] at hec
      simpa using hec
    subst he
    have hl4 : at_ + 1 + bq.length + k3 < text.size := by rw [hr4] at hl3; simp at hl3; omega
    have hr5 : (lst text).drop (at_ + 1 + bq.length + k3 + 1) = r4 := by rw [← List.drop_drop, hr3, hr4]; rfl
    have hVa := fun W h1 h2 => value_any b text (at_ + 1 + bq.length + k3 + 1) tv W h1 hb10 h2 (by omega) h3
    rw [hr5] at hVa
    have HVa := Lib.hid hVa
    rw [show lst ⟨#[61]⟩ = [61] from rfl, hh] at hNx
    rw [hr4] at hM
    have hM2 : attrM ((lst text).drop at_) = (⟨small (c :: bq), (valueM r4).1⟩, (valueM r4).2.1, (valueM r4).2.2) := hM
    have HM := Lib.hid hM2
    have HNx := Lib.hid hNx
    clear hM hM2 hNx hSm hname hUn hSk hl2 hl3 hr3 hr2 hbq hbr hk3 hr4 hAe hsp hfirst hr hl hlen0 hVa hr5 hec hh
    go_enter Tryz.func104, Tryz.ntmps104
    go_wp2_with fail
    have HC1 := Lib.hid (show Cel (w.alloc (.cells #[.string ⟨#[]⟩, .string ⟨#[]⟩] 85)) w.heap.size ⟨#[]⟩ ⟨#[]⟩ from heap_alloc_new w _)
    have hA1 := (Below.refl w.heap.size w).alloc (Nat.le_refl _) (.cells #[.string ⟨#[]⟩, .string ⟨#[]⟩] 85)
    have hz1 : w.heap.size + 1 = (w.alloc (.cells #[.string ⟨#[]⟩, .string ⟨#[]⟩] 85)).heap.size := by simp
    have HS1 := Lib.hid (HS0.out.below hA1 hbw)
    have HA1 := Lib.hid hA1
    have hz1' : w.heap.size < (w.alloc (.cells #[.string ⟨#[]⟩, .string ⟨#[]⟩] 85)).heap.size := by omega
    clear hz1 hA1
    generalize w.alloc (.cells #[.string ⟨#[]⟩, .string ⟨#[]⟩] 85) = w1 at *
    have hne : w.heap.size ≠ b := by omega
    have HNE := Lib.hid hne
    clear hne
    have hp := pass_any b text at_ 1 tv w1 HS1.out (by omega) (by omega) h3
    rw [show text.extract at_ (at_ + (1 : Int).toNat) = mk [c] from HF.out] at hp
    have hmz : (mk bq).size ≤ 1000000000 := by rw [mk_size]; omega
    have hmc : (mk [c]).size ≤ 1 := by rw [mk_size]; simp
    refine hp.mono ?_
    clear hp
    rintro e w2 ⟨rfl, hs2, ho2⟩
    have HS2 := Lib.hid hs2
    have HC2 := Lib.hid (HC1.out.only ho2 HNE.out)
    have HO2 := Lib.hid (Only.trans (Only.of_below HA1.out) ho2)
    clear hs2 ho2 HS1 HC1 HA1
    go_wp2_with fail
    refine (HUn.out w2 HS2.out).mono ?_
    rintro e w3 ⟨rfl, hs3, ho3⟩
    have HS3 := Lib.hid hs3
    have HC3 := Lib.hid (HC2.out.only ho3 HNE.out)
    have HO3 := Lib.hid (Only.trans HO2.out ho3)
    clear hs3 ho3 HS2 HC2 HO2
    go_wp2_with fail
    rw [HNa.out]
    refine (HSm.out w3).mono ?_
    rintro e w4 ⟨rfl, hb4⟩
    have hb4' := lt_of_block HS3.out
    have HS4 := Lib.hid (HS3.out.below hb4 hb4')
    have HC4 := Lib.hid (HC3.out.only (Only.of_below (b := b) hb4) HNE.out)
    have HO4 := Lib.hid (Only.below HO3.out hb4)
    clear hb4 HS3 HC3 HO3 hb4'
    obtain ⟨n0, n1, fn0, fn1, hN4⟩ := HC4.out.all
    obtain ⟨c0, c1, _, f1, _, hb4⟩ := HS4.out.all
    go_wp2_with fail
    have HC5 := Lib.hid (HC4.out.set0 (mk (small (c :: bq))))
    have HS5 := Lib.hid (HS4.out.other (p := ⟨w.heap.size, 0, none⟩) HNE.out (.string (mk (small (c :: bq)))))
    have HO5 := Lib.hid (Kept.setCell HO4.out (p := ⟨w.heap.size, 0, none⟩) (.inr (Nat.le_refl _)) (.string (mk (small (c :: bq)))))
    clear n0 n1 fn0 fn1 hN4 c0 c1 f1 hb4 HS4 HC4 HO4
    generalize w4.setCell ⟨w.heap.size, 0, none⟩ (.string (mk (small (c :: bq)))) = w5 at *
    refine (HSk.out w5 HS5.out).mono ?_
    rintro e w6 ⟨rfl, hs6, ho6⟩
    have HS6 := Lib.hid hs6
    have HC6 := Lib.hid (HC5.out.only ho6 HNE.out)
    have HO6 := Lib.hid (Only.trans HO5.out ho6)
    clear hs6 ho6 HS5 HC5 HO5
    go_wp2_with fail
    refine (HNx.out w6 HS6.out).mono ?_
    rintro e w7 ⟨rfl, n7, rfl⟩
    go_wp2_with fail
    refine (pass_any b text _ 1 tv _ (HS6.out.drewN n7) (by omega) (by omega) h3).mono ?_
    rintro e w8 ⟨rfl, hs8, ho8⟩
    have HS8 := Lib.hid hs8
    have HC8 := Lib.hid ((HC6.out.drewN n7).only ho8 HNE.out)
    have HO8 := Lib.hid (Only.trans (HO6.out.drewN n7) ho8)
    clear hs8 ho8 HS6 HC6 HO6
    go_wp2_with fail
    refine (HVa.out w8 (HG.out.kept HO8.out HG.out.size (by intro k hk e; omega)) HS8.out).mono ?_
    rintro e w9 ⟨rfl, hs9, ho9⟩
    have HS9 := Lib.hid hs9
    have HC9 := Lib.hid (HC8.out.only ho9 HNE.out)
    have HO9 := Lib.hid (Only.trans HO8.out ho9)
    clear hs9 ho9 HS8 HC8 HO8
    generalize valueM r4 = V at *
    obtain ⟨v1, v2, v3⟩ := V
    simp only [StrB]
    obtain ⟨n0, n1, fn0, fn1, hN9⟩ := HC9.out.all
    go_wp2_with fail
    refine bodyPost_ret (v := .tuple #[.agg #[.string (mk (small (c :: bq))), .string (mk v1)], .bool v2]) (by simp [results, Tryz.results104, go_sem, n0, n1]) rfl ⟨by rw [HM.out]; rfl, ?_, ?_⟩
    · rw [HM.out]
      repeat (refine Sc.other (p := ⟨w.heap.size, _, none⟩) ?_ HNE.out _)
      exact HS9.out.at_eq rfl
    · repeat (refine Kept.setCell (S := fun k => k = b) (B := w.heap.size) (p := ⟨w.heap.size, _, none⟩) ?_ (.inr (Nat.le_refl _)) _)
      exact HO9.out
  · have hh' : hd [61] (skp spaces br) = false := by simpa using hh
    have hM2 : attrM ((lst text).drop at_) = (⟨small (c :: bq), []⟩, true, br) := by
      rw [hM]
      split
      · rfl
      · rename_i e r4 hr4
        rw [hr4] at hh'
        rw [if_neg]
        intro e61
        subst e61
        exact absurd hh' (by simp [hd])
    rw [show lst ⟨#[61]⟩ = [61] from rfl, hh'] at hNx
    have HM := Lib.hid hM2
    have HNx := Lib.hid hNx
    clear hM hM2 hNx hSm hname hUn hSk hl2 hl3 hr3 hr2 hbq hbr hk3 hAe hsp hfirst hr hl hlen0 hh hh'
    go_enter Tryz.func104, Tryz.ntmps104
    go_wp2_with fail
    have HC1 := Lib.hid (show Cel (w.alloc (.cells #[.string ⟨#[]⟩, .string ⟨#[]⟩] 85)) w.heap.size ⟨#[]⟩ ⟨#[]⟩ from heap_alloc_new w _)
    have hA1 := (Below.refl w.heap.size w).alloc (Nat.le_refl _) (.cells #[.string ⟨#[]⟩, .string ⟨#[]⟩] 85)
    have hz1 : w.heap.size + 1 = (w.alloc (.cells #[.string ⟨#[]⟩, .string ⟨#[]⟩] 85)).heap.size := by simp
    have HS1 := Lib.hid (HS0.out.below hA1 hbw)
    have HA1 := Lib.hid hA1
    have hz1' : w.heap.size < (w.alloc (.cells #[.string ⟨#[]⟩, .string ⟨#[]⟩] 85)).heap.size := by omega
    clear hz1 hA1
    generalize w.alloc (.cells #[.string ⟨#[]⟩, .string ⟨#[]⟩] 85) = w1 at *
    have hne : w.heap.size ≠ b := by omega
    have HNE := Lib.hid hne
    clear hne
    have hp := pass_any b text at_ 1 tv w1 HS1.out (by omega) (by omega) h3
    rw [show text.extract at_ (at_ + (1 : Int).toNat) = mk [c] from HF.out] at hp
    have hmz : (mk bq).size ≤ 1000000000 := by rw [mk_size]; omega
    have hmc : (mk [c]).size ≤ 1 := by rw [mk_size]; simp
    refine hp.mono ?_
    clear hp
    rintro e w2 ⟨rfl, hs2, ho2⟩
    have HS2 := Lib.hid hs2
    have HC2 := Lib.hid (HC1.out.only ho2 HNE.out)
    have HO2 := Lib.hid (Only.trans (Only.of_below HA1.out) ho2)
    clear hs2 ho2 HS1 HC1 HA1
    go_wp2_with fail
    refine (HUn.out w2 HS2.out).mono ?_
    rintro e w3 ⟨rfl, hs3, ho3⟩
    have HS3 := Lib.hid hs3
    have HC3 := Lib.hid (HC2.out.only ho3 HNE.out)
    have HO3 := Lib.hid (Only.trans HO2.out ho3)
    clear hs3 ho3 HS2 HC2 HO2
    go_wp2_with fail
    rw [HNa.out]
    refine (HSm.out w3).mono ?_
    rintro e w4 ⟨rfl, hb4⟩
    have hb4' := lt_of_block HS3.out
    have HS4 := Lib.hid (HS3.out.below hb4 hb4')
    have HC4 := Lib.hid (HC3.out.only (Only.of_below (b := b) hb4) HNE.out)
    have HO4 := Lib.hid (Only.below HO3.out hb4)
    clear hb4 HS3 HC3 HO3 hb4'
    obtain ⟨n0, n1, fn0, fn1, hN4⟩ := HC4.out.all
    obtain ⟨c0, c1, _, f1, _, hb4⟩ := HS4.out.all
    go_wp2_with fail
    have HC5 := Lib.hid (HC4.out.set0 (mk (small (c :: bq))))
    have HS5 := Lib.hid (HS4.out.other (p := ⟨w.heap.size, 0, none⟩) HNE.out (.string (mk (small (c :: bq)))))
    have HO5 := Lib.hid (Kept.setCell HO4.out (p := ⟨w.heap.size, 0, none⟩) (.inr (Nat.le_refl _)) (.string (mk (small (c :: bq)))))
    clear n0 n1 fn0 fn1 hN4 c0 c1 f1 hb4 HS4 HC4 HO4
    generalize w4.setCell ⟨w.heap.size, 0, none⟩ (.string (mk (small (c :: bq)))) = w5 at *
    refine (HSk.out w5 HS5.out).mono ?_
    rintro e w6 ⟨rfl, hs6, ho6⟩
    have HS6 := Lib.hid hs6
    have HC6 := Lib.hid (HC5.out.only ho6 HNE.out)
    have HO6 := Lib.hid (Only.trans HO5.out ho6)
    clear hs6 ho6 HS5 HC5 HO5
    go_wp2_with fail
    refine (HNx.out w6 HS6.out).mono ?_
    rintro e w7 ⟨rfl, n7, rfl⟩
    obtain ⟨n0, n1, fn0, fn1, hN9⟩ := HC6.out.all
    obtain ⟨c0, c1, _, f1, _, hb6⟩ := HS6.out.all
    go_wp2_with fail
    refine bodyPost_ret (v := .tuple #[.agg #[.string (mk (small (c :: bq))), .string ⟨#[]⟩], .bool true]) (by simp [results, Tryz.results104, go_sem, n0, n1]) rfl ⟨by rw [HM.out]; rfl, ?_, ?_⟩
    · rw [HM.out]
      repeat (refine Sc.other (p := ⟨w.heap.size, _, none⟩) ?_ HNE.out _)
      have h := ((HS6.out.drewN n7).setAt (at_ + 1 + bq.length)).at_eq (m := text.size - br.length) (by have := HL2.out; omega)
      simpa using h
    · repeat (refine Kept.setCell (S := fun k => k = b) (B := w.heap.size) (p := ⟨w.heap.size, _, none⟩) ?_ (.inr (Nat.le_refl _)) _)
      have h := Kept.setCell (Kept.drewN HO6.out n7) (p := ⟨b, 1, none⟩) (.inl rfl) (.int .i64 ((at_ : Int) + 1 + bq.length))
      simpa using h

end Go.Proofs.YtjkgmdnkejjppaaGreatDoor
/- Rows of attributes and of tokens in memory; slices.ContainsFunc over attributes. -/
namespace Go.Proofs.YtjkgmdnkejjppaaGreatDoor
open Go Go.RowKit

def attrCells (l : List TAttr) : List Value := l.flatMap fun a => [.string (mk a.name), .string (mk a.value)]
theorem attrCells_length (l : List TAttr) : (attrCells l).length = l.length * 2 := by
  induction l with
  | nil => rfl
  | cons a l ih => unfold attrCells at *; simp only [List.flatMap_cons, List.length_append, ih, List.length_cons, List.length_nil]; omega
theorem attrCells_append (a b : List TAttr) : attrCells (a ++ b) = attrCells a ++ attrCells b := by simp [attrCells]
theorem attrCells_get (l : List TAttr) (i : Nat) (a : TAttr) (h : l[i]? = some a) : (attrCells l)[i * 2]? = some (.string (mk a.name)) ∧ (attrCells l)[i * 2 + 1]? = some (.string (mk a.value)) := by
  induction l generalizing i with
  | nil => simp at h
  | cons b l ih =>
    have e : attrCells (b :: l) = [.string (mk b.name), .string (mk b.value)] ++ attrCells l := by simp [attrCells]
    cases i with
    | zero => simp at h; subst h; rw [e]; exact ⟨rfl, rfl⟩
    | succ i =>
      simp at h
      have := ih i h
      rw [e, show (i + 1) * 2 = i * 2 + 2 by omega]
      simpa using this

/-- The slice value v is a row of attributes of its own (from block B on). -/
def AttrRow (B : Nat) (w : World) (v : Value) (l : List TAttr) : Prop := w.ownsRow B 85 2 v l.length (attrCells l)

theorem AttrRow.nil (B : Nat) (w : World) : AttrRow B w (.slice none 0 0) [] := World.ownsRow_nil w B _ _

/-- Blocks of a row stay where a frame keeps them. -/
theorem ownsRow_kept {B size n : Nat} {w w' : World} {e : TypeId} {v : Value} {xs : List Value} (h : w.ownsRow B e size v n xs)
    (hk : ∀ g c, v.ownBlock = some g → w.heap[g]? = some (.cells c e (0, 0)) → w'.heap[g]? = some (.cells c e (0, 0))) : w'.ownsRow B e size v n xs := by
  refine ⟨h.1, ?_⟩
  rcases h.2 with h0 | ⟨g, cap, cur, hv, hB, hg, r⟩
  · exact .inl h0
  · exact .inr ⟨g, cap, cur, hv, hB, hk g cur (by rw [hv]; rfl) hg, r⟩
theorem ownsRow_below {B size n : Nat} {w w' : World} {e : TypeId} {v : Value} {xs : List Value} (h : w.ownsRow B e size v n xs) (hb : Below w.heap.size w w') : w'.ownsRow B e size v n xs :=
  ownsRow_kept h fun g c _ hg => by rw [hb.block g (lt_of_block hg)]; exact hg
theorem ownsRow_base {B C size n : Nat} {w : World} {e : TypeId} {v : Value} {xs : List Value} (h : w.ownsRow B e size v n xs) (hC : C ≤ B) : w.ownsRow C e size v n xs := by
  refine ⟨h.1, ?_⟩
  rcases h.2 with h0 | ⟨g, cap, cur, hv, hB, r⟩
  · exact .inl h0
  · exact .inr ⟨g, cap, cur, hv, Nat.le_trans hC hB, r⟩
theorem AttrRow.below {B : Nat} {w w' : World} {v : Value} {l : List TAttr} (h : AttrRow B w v l) (hb : Below w.heap.size w w') : AttrRow B w' v l := ownsRow_below h hb
/-- The value is a slice of that length. -/
theorem ownsRow_slice {B size n : Nat} {w : World} {e : TypeId} {v : Value} {xs : List Value} (h : w.ownsRow B e size v n xs) : ∃ a cap, v = .slice a n cap := by
  rcases h.2 with ⟨rfl, rfl⟩ | ⟨g, cap, cur, rfl, _⟩
  · exact ⟨_, _, rfl⟩
  · exact ⟨_, _, rfl⟩
/-- Where there is an element: the block, and its cells. -/
theorem ownsRow_cells {B size n : Nat} {w : World} {e : TypeId} {v : Value} {xs : List Value} (h : w.ownsRow B e size v n xs) (hn : 0 < n) :
    ∃ g cap, v = .slice (some ⟨g, 0, none⟩) n cap ∧ B ≤ g ∧ g < w.heap.size ∧ n ≤ cap ∧ cap ≤ maxLen ∧ (∀ j u, xs[j]? = some u → w.cell? ⟨g, j, none⟩ = some u) ∧ ∀ j, w.frozen? ⟨g, j, none⟩ = false := by
  rcases h.2 with ⟨_, h0⟩ | ⟨g, cap, cur, hv, hB, hg, hc, hm, _⟩
  · omega
  · refine ⟨g, cap, hv, hB, lt_of_block hg, hc, hm, fun j u hu => ?_, fun j => Lib.frozen_of_heap hg j⟩
    have := h.cells (g := g) (by rw [hv]; rfl) j u hu
    have hadd : (⟨g, 0, none⟩ : Addr).add j = ⟨g, j, none⟩ := by unfold Addr.add; split <;> simp_all
    rwa [hadd] at this

def AttrArg (a : TAttr) : Value := .agg #[.string (mk a.name), .string (mk a.value)]
/-- What IndexFunc gives. -/
def idxI (p : TAttr → Bool) (l : List TAttr) : Int := match l.findIdx? p with
  | some i => i
  | none => -1
theorem idxI_any (p : TAttr → Bool) (l : List TAttr) : decide (0 ≤ idxI p l) = l.any p := by
  unfold idxI
  cases h : l.findIdx? p with
  | none =>
    have := List.findIdx?_eq_none_iff.1 h
    have h2 : l.any p = false := by rw [List.any_eq_false]; intro x hx; simpa using this x hx
    rw [h2]; rfl
  | some i =>
    obtain ⟨hi, hp, _⟩ := List.findIdx?_eq_some_iff_getElem.1 h
    have h2 : l.any p = true := List.any_eq_true.2 ⟨_, List.getElem_mem hi, hp⟩
    rw [h2]
    simp

set_option maxHeartbeats 1000000 in
set_option maxRecDepth 100000 in
theorem indexFunc_attr (k : FuncId) (caps : Array Value) (he : ∀ args w, (callFunc k args).run Tryz.prog w = .ok (.enter k args) w) (pb : TAttr → Bool) (B : Nat) (v : Value) (l : List TAttr) (hl : l.length ≤ 1000000000) (w : World) (hr : AttrRow B w v l)
    (hcl : ∀ W a, a ∈ l → Below w.heap.size w W → Calls Tryz.prog k (#[AttrArg a] ++ caps) W fun e w' => e = .returned (.bool (pb a)) ∧ Below W.heap.size W w') :
    Calls Tryz.prog 108 #[v, .func (.func k) #[] caps] w fun e w' => e = .returned (.int .i64 (idxI pb l)) ∧ Below w.heap.size w w' := by
  obtain ⟨a0, cap0, hv⟩ := ownsRow_slice hr
  have HR := Lib.hid hr
  have HCL := Lib.hid hcl
  clear hr hcl
  subst hv
  go_enter Tryz.func108, Tryz.ntmps108
  go_wp2_with fail
  go_loopg [5, 8] l.length (fun g _ v8 wx => ∃ (W : World) (i : Nat), W = wx ∧ i + g = l.length ∧ v8 = .int .i64 i ∧ Below w.heap.size w wx ∧ Hid (∀ a, a ∈ l.take i → pb a = false))
  case atStart => exact ⟨_, 0, rfl, by omega, rfl, Below.refl _ _, (by simp : ∀ a, a ∈ l.take 0 → pb a = false)⟩
  case round =>
    obtain ⟨wr, i, rfl, hg, rfl, hb, hh⟩ := hrel
    have HB := Lib.hid hb
    clear hb
    by_cases hi : i < l.length
    · obtain ⟨g, cap, hv, hBg, hglt, hcap, hcm, hcell, _⟩ := ownsRow_cells HR.out (by omega)
      obtain ⟨rfl, rfl⟩ : a0 = some ⟨g, 0, none⟩ ∧ cap0 = cap := by injection hv with h1 h2 h3; exact ⟨h1, h3⟩
      obtain ⟨a, ha⟩ : ∃ a, l[i]? = some a := ⟨l[i], List.getElem?_eq_getElem hi⟩
      obtain ⟨hc0, hc1⟩ := attrCells_get l i a ha
      have k0 : wr.cell? ⟨g, i * 2, none⟩ = some (.string (mk a.name)) := by rw [HB.out.cell (p := ⟨g, i * 2, none⟩) hglt]; exact hcell _ _ hc0
      have k1 : wr.cell? ⟨g, i * 2 + 1, none⟩ = some (.string (mk a.value)) := by rw [HB.out.cell (p := ⟨g, i * 2 + 1, none⟩) hglt]; exact hcell _ _ hc1
      have hCa := HCL.out wr a (List.mem_of_getElem? ha) HB.out
      have HA := Lib.hid ha
      clear hcell hv hc0 hc1 ha
      have HCa := Lib.hid hCa
      clear hCa
      go_wp2_with fail
      refine HCa.out.mono ?_
      rintro e w2 ⟨rfl, hb2⟩
      have HB2 := Lib.hid (HB.out.trans (hb2.mono HB.out.size))
      clear hb2
      cases hp : pb a with
      | true =>
        have hfin : idxI pb l = (i : Int) := by
          unfold idxI
          have : l.findIdx? pb = some i := by
            obtain ⟨hi', hia⟩ := List.getElem?_eq_some_iff.1 HA.out
            refine List.findIdx?_eq_some_iff_getElem.2 ⟨hi', by rw [hia]; exact hp, fun j hj => ?_⟩
            have := hh.out (l[j]'(by omega)) (by rw [List.mem_take_iff_getElem]; exact ⟨j, by omega, rfl⟩)
            simpa using this
          rw [this]
        have HF := Lib.hid hfin
        clear hfin hp
        go_wp2_with fail
        go_ret
        exact ⟨by rw [HF.out]; rfl, HB2.out⟩
      | false =>
        have HH : Hid (∀ x, x ∈ l.take (i + 1) → pb x = false) := by
          have h : ∀ x, x ∈ l.take (i + 1) → pb x = false := by
            intro x hx
            rw [List.take_add_one, HA.out] at hx
            rcases List.mem_append.1 hx with hx | hx
            · exact hh.out x hx
            · simp at hx; subst hx; exact hp
          exact h
        clear hp
        go_wp2_with fail
        go_roundg (l.length - (i + 1))
        case measure => omega
        case rel => exact ⟨_, i + 1, rfl, by omega, by go_num, HB2.out, HH⟩
    · have hfin : idxI pb l = -1 := by
        unfold idxI
        have : l.findIdx? pb = none := List.findIdx?_eq_none_iff.2 (fun x hx => hh.out x (by rw [List.take_of_length_le (by omega)]; exact hx))
        rw [this]
      have HF := Lib.hid hfin
      clear hfin
      go_wp2_with fail
      go_ret
      exact ⟨by rw [HF.out]; rfl, HB.out⟩

set_option maxHeartbeats 1000000 in
theorem containsFunc_attr (k : FuncId) (caps : Array Value) (he : ∀ args w, (callFunc k args).run Tryz.prog w = .ok (.enter k args) w) (pb : TAttr → Bool) (B : Nat) (v : Value) (l : List TAttr) (hl : l.length ≤ 1000000000) (w : World) (hr : AttrRow B w v l)
    (hcl : ∀ W a, a ∈ l → Below w.heap.size w W → Calls Tryz.prog k (#[AttrArg a] ++ caps) W fun e w' => e = .returned (.bool (pb a)) ∧ Below W.heap.size W w') :
    Calls Tryz.prog 85 #[v, .func (.func k) #[] caps] w fun e w' => e = .returned (.bool (l.any pb)) ∧ Below w.heap.size w w' := by
  have HI := Lib.hid (indexFunc_attr k caps he pb B v l hl w hr hcl)
  have HD := Lib.hid (idxI_any pb l)
  clear hr hcl he
  go_enter Tryz.func85, Tryz.ntmps85
  go_wp2_with fail
  refine HI.out.mono ?_
  rintro e w1 ⟨rfl, hb⟩
  have HB := Lib.hid hb
  clear hb
  go_wp2_with fail
  go_ret
  exact ⟨by rw [← HD.out]; rfl, HB.out⟩

end Go.Proofs.YtjkgmdnkejjppaaGreatDoor
