/- Walks of the tokenizer: All. -/
import Derived.Test.YtbgonaacheemcaaDoorTokG
import Derived.Deep.CutBlock
namespace Go.Proofs.YtbgonaacheemcaaDoor
open Go Go.RowKit

theorem textM_cons (c : UInt8) (r : Bytes) : textM (c :: r) = if opensM (c :: r) then ([], c :: r) else (c :: (textM r).1, (textM r).2) := rfl
/-- No markup begins ahead of place j. -/
def TextAt (R : Bytes) (j : Nat) : Prop := textM R = (R.take j ++ (textM (R.drop j)).1, (textM (R.drop j)).2)
theorem TextAt.zero (R : Bytes) : TextAt R 0 := by unfold TextAt; simp
theorem TextAt.succ {R : Bytes} {j : Nat} (h : TextAt R j) (hj : j < R.length) (hs : opensM (R.drop j) = false) : TextAt R (j + 1) := by
  unfold TextAt at *
  rw [List.drop_eq_getElem_cons hj] at h hs
  rw [textM_cons, hs] at h
  have e : R.take (j + 1) = R.take j ++ [R[j]] := (List.take_append_getElem hj).symm
  rw [h, e]
  simp only [Bool.false_eq_true, if_false, List.append_assoc, List.cons_append, List.nil_append]
theorem TextAt.stop {R : Bytes} {j : Nat} (h : TextAt R j) (hj : j < R.length) (hs : opensM (R.drop j) = true) : textM R = (R.take j, R.drop j) := by
  unfold TextAt at h
  rw [List.drop_eq_getElem_cons hj] at h hs
  rw [textM_cons, hs] at h
  rw [h, List.drop_eq_getElem_cons hj]
  simp
theorem TextAt.end {R : Bytes} (h : TextAt R R.length) : textM R = (R, []) := by
  unfold TextAt at h
  rw [h]
  simp [textM]

theorem upToM_len (e : Bytes) (l : Bytes) : (upToM e l).2.length ≤ l.length := by
  induction l with
  | nil => simp [upToM]
  | cons c r ih =>
    rw [upToM_cons]
    split
    · simp only [List.length_drop, List.length_cons]; omega
    · simp only [List.length_cons]; omega
theorem rawM_len (n : Bytes) (l : Bytes) : (rawM n l).1.length + (rawM n l).2.length = l.length := by
  induction l with
  | nil => rfl
  | cons c r ih =>
    rw [rawM_cons]
    split
    · simp
    · simp only [List.length_cons]; omega
theorem rawToks_len (n t : Bytes) : (rawToks n t).length ≤ t.length := by
  unfold rawToks
  split
  · simp
  · rename_i h
    cases t with
    | nil =>
      exfalso
      apply h
      unfold rawText
      split <;> rfl
    | cons a t => simp

/-- Markup is paid by its bytes. -/
theorem markupM_len (X : Bytes) (ts : List TTok) (r2 : Bytes) (h : markupM X = some (ts, r2)) : ts.length + r2.length ≤ X.length := by
  unfold markupM at h
  split at h
  · injection h with h; injection h with h1 h2; subst h1 h2
    have := upToM_len [45, 45, 62] ‹_›
    simp only [List.length_cons, List.length_nil]; omega
  · injection h with h; injection h with h1 h2; subst h1 h2
    have := upToM_len [62] ‹_›
    simp only [List.length_cons, List.length_nil]; omega
  · rename_i r
    injection h with h; injection h with h1 h2; subst h1 h2
    have := upToM_len [62] (63 :: r)
    simp only [List.length_cons, List.length_nil] at *; omega
  · rename_i c r
    split at h
    · cases ht : tagM 2 (c :: r) with
      | none => rw [ht] at h; cases h
      | some V =>
        obtain ⟨t, r3⟩ := V
        rw [ht] at h
        have hl := (tagM_suf 2 _ t r3 ht).length_le
        injection h with h; injection h with h1 h2; subst h1 h2
        simp only [List.length_cons, List.length_nil] at *; omega
    · injection h with h; injection h with h1 h2; subst h1 h2
      have := upToM_len [62] (c :: r)
      simp only [List.length_cons, List.length_nil] at *; omega
  · rename_i r _ _ _ _
    cases ht : tagM 1 r with
    | none => rw [ht] at h; cases h
    | some V =>
      obtain ⟨t, r3⟩ := V
      rw [ht] at h
      have hl := (tagM_suf 1 _ t r3 ht).length_le
      simp only [Option.map_some] at h
      split at h
      · injection h with h; injection h with h1 h2; subst h1 h2
        have e1 := rawM_len t.name r3
        have e2 := rawToks_len t.name (rawM t.name r3).1
        simp only [List.length_cons]; omega
      · injection h with h; injection h with h1 h2; subst h1 h2
        simp only [List.length_cons, List.length_nil]; omega
  · cases h

theorem upToM_suf (e : Bytes) (l : Bytes) : (upToM e l).2 <:+ l := by
  induction l with
  | nil => exact List.suffix_refl _
  | cons c r ih =>
    rw [upToM_cons]
    split
    · exact List.drop_suffix _ _
    · exact List.IsSuffix.trans ih (List.suffix_cons c r)
theorem rawM_suf (n : Bytes) (l : Bytes) : (rawM n l).2 <:+ l := by
  induction l with
  | nil => exact List.suffix_refl _
  | cons c r ih =>
    rw [rawM_cons]
    split
    · exact List.suffix_refl _
    · exact List.IsSuffix.trans ih (List.suffix_cons c r)
theorem suf_cons {r l : Bytes} (c : UInt8) (h : r <:+ l) : r <:+ c :: l := List.IsSuffix.trans h (List.suffix_cons c l)
theorem markupM_suf (X : Bytes) (ts : List TTok) (r2 : Bytes) (h : markupM X = some (ts, r2)) : r2 <:+ X := by
  unfold markupM at h
  split at h
  · injection h with h; injection h with h1 h2; subst h1 h2
    exact suf_cons _ (suf_cons _ (suf_cons _ (suf_cons _ (upToM_suf _ _))))
  · injection h with h; injection h with h1 h2; subst h1 h2
    exact suf_cons _ (suf_cons _ (upToM_suf _ _))
  · injection h with h; injection h with h1 h2; subst h1 h2
    exact suf_cons _ (upToM_suf _ _)
  · rename_i c r
    split at h
    · cases ht : tagM 2 (c :: r) with
      | none => rw [ht] at h; cases h
      | some V =>
        obtain ⟨t, r3⟩ := V
        rw [ht] at h
        have hl := tagM_suf 2 _ t r3 ht
        injection h with h; injection h with h1 h2; subst h1 h2
        exact suf_cons _ (suf_cons _ hl)
    · injection h with h; injection h with h1 h2; subst h1 h2
      exact suf_cons _ (suf_cons _ (upToM_suf _ _))
  · rename_i r _ _ _ _
    cases ht : tagM 1 r with
    | none => rw [ht] at h; cases h
    | some V =>
      obtain ⟨t, r3⟩ := V
      rw [ht] at h
      have hl := tagM_suf 1 _ t r3 ht
      simp only [Option.map_some] at h
      split at h
      · injection h with h; injection h with h1 h2; subst h1 h2
        exact suf_cons _ (List.IsSuffix.trans (rawM_suf _ _) hl)
      · injection h with h; injection h with h1 h2; subst h1 h2
        exact suf_cons _ hl
  · cases h

theorem markupM_pos (X : Bytes) (ts : List TTok) (r2 : Bytes) (h : markupM X = some (ts, r2)) : 0 < ts.length := by
  unfold markupM at h
  split at h
  · injection h with h; injection h with h1 _; subst h1; simp
  · injection h with h; injection h with h1 _; subst h1; simp
  · injection h with h; injection h with h1 _; subst h1; simp
  · rename_i c r
    split at h
    · cases ht : tagM 2 (c :: r) with
      | none => rw [ht] at h; cases h
      | some V =>
        rw [ht] at h
        injection h with h; injection h with h1 _; subst h1; simp
    · injection h with h; injection h with h1 _; subst h1; simp
  · rename_i r _ _ _ _
    cases ht : tagM 1 r with
    | none => rw [ht] at h; cases h
    | some V =>
      rw [ht] at h
      simp only [Option.map_some] at h
      split at h
      · injection h with h; injection h with h1 _; subst h1; simp
      · injection h with h; injection h with h1 _; subst h1; simp
  · cases h

theorem allN_succ (n : Nat) (X : Bytes) (h : X ≠ []) : allN (n + 1) X = textToks (textM X).1 ++ (if (textM X).2 = [] then [] else match markupM (textM X).2 with
    | none => []
    | some (l, r2) => l ++ allN n r2) := by
  cases X with
  | nil => exact absurd rfl h
  | cons c r => rfl

set_option maxHeartbeats 4000000 in
set_option maxRecDepth 100000 in
theorem all_any (text : ByteArray) (w : World) (hg : Glob w) (h3 : text.size ≤ 100000) :
    Calls Tryd.prog 7 #[.string text] w fun e w' => ∃ tv, e = .returned tv ∧ TokRow w.heap.size w' tv (allM (lst text)) ∧ Below w.heap.size w w' := by
  have HG := Lib.hid hg
  have hb10 := hg.size
  clear hg
  have hst : Hid (allM (lst text) = allN (text.size + 1) ((lst text).drop 0)) := Lib.hid (by rw [List.drop_zero]; unfold allM; rw [lst_length])
  generalize allM (lst text) = R at *
  obtain ⟨b, hb⟩ : ∃ b, b = w.heap.size := ⟨_, rfl⟩
  have HB := Lib.hid hb
  rw [← hb] at hb10 ⊢
  clear hb
  have hA := Lib.hid (((Below.refl b w).alloc (Nat.le_of_eq HB.out) (.cells #[.string text, .int .i64 0, .slice none 0 0] 35)))
  have hS := Lib.hid (show Sc (w.alloc (.cells #[.string text, .int .i64 0, .slice none 0 0] 35)) b text 0 (.slice none 0 0) by rw [HB.out]; exact heap_alloc_new w _)
  go_enter Tryd.func7, Tryd.ntmps7
  go_wp2_with fail
  rw [← HB.out]
  generalize w.alloc (.cells #[.string text, .int .i64 0, .slice none 0 0] 35) = w0 at *
  go_loopg [] (text.size + 1) (fun g wx => ∃ (W : World) (a : Nat) (tv : Value) (l : List TTok), W = wx ∧ a ≤ text.size ∧ text.size - a < g ∧ l.length ≤ a ∧ Sc wx b text a tv ∧ TokRow b wx tv l ∧ Below b w wx ∧ Hid (R = l ++ allN g ((lst text).drop a)))
  case atStart => exact ⟨_, 0, _, [], rfl, Nat.zero_le _, by omega, by simp, hS.out, ⟨[], rfl, World.ownsRow_nil _ _ _ _, by simp⟩, hA.out, Lib.hid (by rw [hst.out]; rfl)⟩
  case round =>
    obtain ⟨wr, a, tv, l, rfl, ha, hg, hla, hs, hr, hbe, hh⟩ := hrel
    have HS := Lib.hid hs
    have HR := Lib.hid hr
    have HBE := Lib.hid hbe
    obtain ⟨c0, c1, c2, _, _, hbz⟩ := hs.all
    clear hs hr hbe hst hA hS
    by_cases hlt : a < text.size
    · obtain ⟨n, rfl⟩ : ∃ n, gk = n + 1 := ⟨gk - 1, by omega⟩
      have hXl : ((lst text).drop a).length = text.size - a := by rw [List.length_drop, lst_length]
      have hXn : (lst text).drop a ≠ [] := by intro e; rw [e] at hXl; simp at hXl; omega
      have hun := hh.out
      rw [allN_succ n _ hXn] at hun
      have HUN := Lib.hid hun
      have hwj : ∀ j : Nat, a + j < text.size → IntKind.i64.wrap ((a : Int) + (j : Int) + 1) = (a : Int) + (j : Int) + 1 := fun j hj => IntWalk.i64_in _ (by omega)
      have HWJ := Lib.hid hwj
      have HXL := Lib.hid hXl
      clear hun hXn hh hwj hXl
      have haI : (a : Int) < text.size := by omega
      go_upto_block 2 with fail
      go_cut [] (fun wx => ∃ j : Nat, a + j ≤ text.size ∧ Sc wx b text (a + j) tv ∧ TokRow b wx tv l ∧ Below b w wx ∧ Hid (textM ((lst text).drop a) = (((lst text).drop a).take j, (lst text).drop (a + j))) ∧ Hid (a + j < text.size → opensM ((lst text).drop (a + j)) = true))
      case first =>
        go_wp2_with fail
        go_loopg [] (text.size - a + 1) (fun g wx => ∃ (W : World) (j : Nat), W = wx ∧ a + j ≤ text.size ∧ text.size - (a + j) < g ∧ Sc wx b text (a + j) tv ∧ TokRow b wx tv l ∧ Below b w wx ∧ Hid (TextAt ((lst text).drop a) j))
        case atStart => exact ⟨_, 0, rfl, by omega, by omega, HS.out, HR.out, HBE.out, Lib.hid (TextAt.zero _)⟩
        case round =>
          obtain ⟨wi, j, rfl, hj, hg2, hs2, hr2, hb2, hta⟩ := hrel
          have HS2 := Lib.hid hs2
          have HR2 := Lib.hid hr2
          have HB2 := Lib.hid hb2
          clear c0 c1 c2
          obtain ⟨c0, c1, _, f1, _, _⟩ := hs2.all
          clear hs2 hr2 hb2
          have hdj : ((lst text).drop a).drop j = (lst text).drop (a + j) := by rw [List.drop_drop]
          have HDJ := Lib.hid hdj
          clear hdj
          by_cases hlt2 : a + j < text.size
          · obtain ⟨m, rfl⟩ : ∃ m, gk = m + 1 := ⟨gk - 1, by omega⟩
            have hjI : (a : Int) + (j : Int) < text.size := by omega
            have hw1 := HWJ.out j hlt2
            have hop := opens_any b text (a + j) (a + j) tv wi HS2.out hlt2 (by omega)
            rw [Int.natCast_add] at hop
            cases hov : opensM ((lst text).drop (a + j)) with
            | true =>
              rw [hov] at hop
              have HOP := Lib.hid hop
              have hst2 := Lib.hid (hta.out.stop (by rw [HXL.out]; omega) (by rw [HDJ.out]; exact hov))
              rw [HDJ.out] at hst2
              have HOV := Lib.hid hov
              clear hop hov hta
              go_wp2_with fail
              refine HOP.out.mono ?_
              rintro e wz ⟨rfl, nz, rfl⟩
              generalize hwz : wi.drewN nz = wz
              have HS3 := Lib.hid (show Sc wz b text (a + j) tv by rw [← hwz]; exact HS2.out.drewN _)
              have HR3 := Lib.hid (show TokRow b wz tv l by rw [← hwz]; exact HR2.out.kept (fun _ _ _ _ h => h))
              have HB3 := Lib.hid (show Below b w wz by rw [← hwz]; exact ⟨HB2.out.os, HB2.out.tape, HB2.out.output, HB2.out.size, HB2.out.block⟩)
              clear hwz
              go_wp2_with fail
              go_meet
              exact ⟨j, hj, HS3.out, HR3.out, HB3.out, hst2, Lib.hid (fun _ => HOV.out)⟩
            | false =>
              rw [hov] at hop
              have HOP := Lib.hid hop
              have hsu2 := Lib.hid (hta.out.succ (by rw [HXL.out]; omega) (by rw [HDJ.out]; exact hov))
              clear hop hov hta
              go_wp2_with fail
              refine HOP.out.mono ?_
              rintro e wz ⟨rfl, nz, rfl⟩
              generalize hwz : wi.drewN nz = wz
              have HS3 := Lib.hid (show Sc wz b text (a + j) tv by rw [← hwz]; exact HS2.out.drewN _)
              have HR3 := Lib.hid (show TokRow b wz tv l by rw [← hwz]; exact HR2.out.kept (fun _ _ _ _ h => h))
              have HB3 := Lib.hid (show Below b w wz by rw [← hwz]; exact ⟨HB2.out.os, HB2.out.tape, HB2.out.output, HB2.out.size, HB2.out.block⟩)
              clear hwz c0 c1 f1
              obtain ⟨c0, c1, _, f1, _, _⟩ := HS3.out.all
              go_wp2_with fail
              go_roundg m
              case measure => omega
              case rel =>
                have hs4 : Sc (wz.setCell ⟨b, 1, none⟩ (.int .i64 ((a + (j + 1) : Nat) : Int))) b text (a + (j + 1)) tv := HS3.out.setAt _
                have e1 : ((a + (j + 1) : Nat) : Int) = (a : Int) + (j : Int) + 1 := by omega
                rw [e1] at hs4
                exact ⟨_, j + 1, rfl, by omega, by omega, hs4, HR3.out.kept (RowsKept.of_only HS3.out ((Kept.refl (fun k => k = b) wz.heap.size wz).setCell (p := ⟨b, 1, none⟩) (.inl rfl) _)), Below.setCell HB3.out (Nat.le_refl b) _, hsu2⟩
          · have hje : j = ((lst text).drop a).length := by rw [HXL.out]; omega
            have hen := hta.out
            rw [hje] at hen
            have hen2 := hen.end
            have ht : ((lst text).drop a).take j = (lst text).drop a := List.take_of_length_le (by rw [HXL.out]; omega)
            have hdz : (lst text).drop (a + j) = [] := List.drop_eq_nil_of_le (by rw [lst_length]; omega)
            have hst2 := Lib.hid (show textM ((lst text).drop a) = (((lst text).drop a).take j, (lst text).drop (a + j)) by
              rw [hen2, ht, hdz])
            have hjI : ¬ ((a : Int) + (j : Int) < text.size) := by omega
            clear hen hen2 hta hje ht hdz
            go_wp2_with fail
            go_meet
            exact ⟨j, hj, HS2.out, HR2.out, HB2.out, hst2, Lib.hid (fun h => absurd h hlt2)⟩
      case rest =>
        obtain ⟨j, hj, hs2, hr2, hb2, htm, hop⟩ := hcut
        have HS2 := Lib.hid hs2
        have HR2 := Lib.hid hr2
        have HB2 := Lib.hid hb2
        clear c0 c1 c2 hbz HS HR HBE
        obtain ⟨c0, c1, c2, f1, f2, hbz⟩ := hs2.all
        clear hs2 hr2 hb2
        rw [htm.out] at HUN
        simp only at HUN
        go_upto_if 47 with (fail)
        go_cut [] (fun wx => ∃ tv', Sc wx b text (a + j) tv' ∧ TokRow b wx tv' (l ++ textToks (((lst text).drop a).take j)) ∧ Below b w wx)
        case first =>
          by_cases hj0 : j = 0
          · subst hj0
            go_wp2_with fail
            go_meet
            exact ⟨tv, HS2.out, by rw [List.take_zero]; show TokRow b _ tv (l ++ []); rw [List.append_nil]; exact HR2.out, HB2.out⟩
          · have hjp : (a : Int) < (a : Int) + (j : Int) := by omega
            have hT : textToks (((lst text).drop a).take j) = [chars (unesc (((lst text).drop a).take j))] := by
              unfold textToks
              rw [if_neg]
              intro e
              have h := congrArg List.length e
              rw [List.length_take, HXL.out] at h
              simp at h; omega
            have HT := Lib.hid hT
            have hun := fun W h => unescape_any (text.extract a (a + j)) (by rw [ByteArray.size_extract]; omega) W h
            rw [ext_take, lst_mk, ← ext_take] at hun
            generalize unesc (((lst text).drop a).take j) = Y at *
            have HUE := Lib.hid hun
            have b0 : (0 : Int) ≤ a := by omega
            have b1 : (a : Int) ≤ (a : Int) + (j : Int) := by omega
            have b2 : (a : Int) + (j : Int) ≤ text.size := by omega
            have b3 : ((a : Int) + (j : Int)).toNat = a + j := by omega
            obtain ⟨ps, hps, hown0, hat0⟩ := HR2.out
            have hpl : ps.length = l.length := by rw [← hps, List.length_map]
            obtain ⟨av, capv, htv⟩ := ownsRow_slice hown0
            have HTV := Lib.hid htv
            have HPS := Lib.hid hps
            have HAT := Lib.hid hat0
            have HOWN0 := Lib.hid hown0
            have hpz : ps.length ≤ 1000000 := by omega
            have hone : ∀ u ∈ (#[.int .i64 3, .string ⟨#[]⟩, .slice none 0 0, .bool false, .string (mk Y)] : Array Value).toList, u.oneCell' = true := by
              intro u hu
              simp only [List.mem_cons, List.not_mem_nil, or_false] at hu
              rcases hu with rfl | rfl | rfl | rfl | rfl <;> rfl
            have HONE := Lib.hid hone
            have hGd : Glob wc.drew := HG.out.below (B := b) ⟨HB2.out.os, HB2.out.tape, HB2.out.output, HB2.out.size, HB2.out.block⟩ hb10
            have HGD := Lib.hid hGd
            have hbz9 : b < wc.heap.size := hbz
            clear hps hpl hat0 hown0 htv hone hGd hT hun htm hop
            go_wp2_with fail
            go_region_law (first
              | (refine step_at 11 (by rfl) ?_; go_simp; go_loud (refine (HUE.out wc.drew HGD.out).mono ?_; rintro e w2 ⟨rfl, hbl⟩; have HBL := Lib.hid (show Below wc.heap.size wc w2 from Below.undrew hbl); have HS9 := Lib.hid (HS2.out.below HBL.out hbz9); have HOWN2 := Lib.hid (ownsRow_kept HOWN0.out fun g c _ hg => RowsKept.of_below HBL.out g c _ (.inl rfl) hg); have hBz2 : b ≤ w2.heap.size := Nat.le_trans (Nat.le_of_lt hbz9) HBL.out.size; have HBT := Lib.hid (show some b ≠ tv.ownBlock from own_ne HS9.out HOWN2.out); obtain ⟨g0, g1, g2, _, g3, _⟩ := HS9.out.all; clear hbl))
              | (refine step_push (by rfl) _ _ (by rfl) b tv ps.length (tokCells ps) w2 _ #[.int .i64 3, .string ⟨#[]⟩, .slice none 0 0, .bool false, .string (mk Y)] (by rfl) (by rfl) HOWN2.out (by rfl) (by rfl) HONE.out hpz hBz2 ?_; intro g cap w11 hown1 hgrow; have HOWN := Lib.hid hown1; have HGR := Lib.hid hgrow; have hs11 := sc_grown HS9.out hgrow HBT.out; obtain ⟨_, _, q2, _, q3, _⟩ := hs11.all; clear hs11 hown1 hgrow))
            all_goals
              go_wp2_with fail
              go_meet
              obtain ⟨p1, p2, p3⟩ := push_tok (t := chars Y) (va := .slice none 0 0) HS9.out (Nat.le_refl b) HPS.out (fun p hp => ownsRow_kept (HAT.out p hp) fun g c _ hg => RowsKept.of_below HBL.out g c _ (.inr rfl) hg) (AttrRow.nil _ _) HOWN2.out HBT.out HGR.out HOWN.out
              exact ⟨_, p1, by rw [HT.out]; exact p2, Below.trans HB2.out (Below.trans (HBL.out.mono (Nat.le_of_lt hbz9)) p3)⟩
        case rest =>
          obtain ⟨tv', hs3, hr3, hb3⟩ := hcut
          have HS3 := Lib.hid hs3
          have HR3 := Lib.hid hr3
          have HB3 := Lib.hid hb3
          clear c0 c1 c2 f1 f2 hbz HS2 HR2 HB2
          obtain ⟨c0, c1, c2, _, _, hbz⟩ := hs3.all
          clear hs3 hr3 hb3
          have htl : (textToks (((lst text).drop a).take j)).length ≤ j := by
            unfold textToks
            split
            · simp
            · rename_i hne
              cases j with
              | zero => simp at hne
              | succ j => simp
          by_cases hlt2 : a + j < text.size
          · have hne : (lst text).drop (a + j) ≠ [] := by
              intro e
              have h := congrArg List.length e
              rw [List.length_drop, lst_length] at h
              simp at h; omega
            rw [if_neg hne] at HUN
            have hlen := fun ts r2 => markupM_len ((lst text).drop (a + j)) ts r2
            have hmk := markup_any b b text (a + j) tv' (l ++ textToks (((lst text).drop a).take j)) wc (HG.out.below HB3.out hb10) hb10 (Nat.le_refl _) HS3.out HR3.out (by rw [List.length_append]; omega) hj (by omega) (hop.out hlt2)
            rw [List.length_drop, lst_length] at hlen
            have hsf : ∀ ts r2, markupM ((lst text).drop (a + j)) = some (ts, r2) → (lst text).drop (text.size - r2.length) = r2 := fun ts r2 h => by
              rw [← lst_length]
              exact suf_drop (List.IsSuffix.trans (markupM_suf _ ts r2 h) (List.drop_suffix _ _))
            have hpo := fun ts r2 => markupM_pos ((lst text).drop (a + j)) ts r2
            have HPO := Lib.hid hpo
            have HSF := Lib.hid hsf
            have HLEN := Lib.hid hlen
            clear hsf hlen hpo
            have hjI : (a : Int) + (j : Int) < text.size := by omega
            generalize markupM ((lst text).drop (a + j)) = O at *
            have HMK := Lib.hid hmk
            clear hmk hop htm hne
            go_wp2_with fail
            refine HMK.out.mono ?_
            rintro e w5 hmp
            cases O with
            | none =>
              obtain ⟨rfl, hb5, a5, tv5, h5a, hs5, hr5⟩ := hmp
              have HR5 := Lib.hid hr5
              have HB5 := Lib.hid (Below.trans HB3.out hb5)
              have HU2 := Lib.hid (show R = l ++ textToks (((lst text).drop a).take j) by rw [HUN.out, List.append_nil])
              clear c0 c1 c2 hbz hb5 hr5 HUN
              obtain ⟨c0, c1, c2, _, _, hbz⟩ := hs5.all
              clear hs5
              go_wp2_with fail
              go_ret
              exact ⟨tv5, rfl, by rw [HU2.out]; exact HR5.out, HB5.out⟩
            | some V =>
              obtain ⟨ts, r2⟩ := V
              obtain ⟨rfl, hb5, tv5, hs5, hr5⟩ := hmp
              have HS5 := Lib.hid hs5
              have HR5 := Lib.hid hr5
              have HB5 := Lib.hid (Below.trans HB3.out hb5)
              have hl5 := HLEN.out ts r2 rfl
              have HU2 := Lib.hid (show R = l ++ textToks (((lst text).drop a).take j) ++ ts ++ allN n ((lst text).drop (text.size - r2.length)) by
                rw [HSF.out ts r2 rfl, HUN.out]; simp)
              have hp5 := HPO.out ts r2 rfl
              clear hb5 hs5 hr5 HUN
              go_wp2_with fail
              go_roundg n
              case measure => omega
              case rel => exact ⟨_, text.size - r2.length, tv5, l ++ textToks (((lst text).drop a).take j) ++ ts, rfl, by omega, by omega, by rw [List.length_append, List.length_append]; omega, HS5.out, HR5.out, HB5.out, HU2⟩
          · have hdz : (lst text).drop (a + j) = [] := List.drop_eq_nil_of_le (by rw [lst_length]; omega)
            have hjI : ¬ ((a : Int) + (j : Int) < text.size) := by omega
            rw [if_pos hdz, List.append_nil] at HUN
            have HU2 := Lib.hid (show R = l ++ textToks (((lst text).drop a).take j) ++ allN n ((lst text).drop (a + j)) by
              rw [HUN.out, hdz]; cases n <;> simp [allN])
            clear hdz HUN hop htm
            go_wp2_with fail
            go_roundg n
            case measure => omega
            case rel => exact ⟨_, a + j, tv', l ++ textToks (((lst text).drop a).take j), rfl, hj, by omega, by rw [List.length_append]; omega, HS3.out, HR3.out, HB3.out, HU2⟩
    · obtain rfl : a = text.size := by omega
      have hR : R = l := by
        rw [hh.out, List.drop_eq_nil_of_le (by rw [lst_length]; omega)]
        cases gk <;> simp [allN]
      have HR2 := Lib.hid hR
      clear hR hh
      go_wp2_with fail
      go_ret
      exact ⟨tv, rfl, by rw [HR2.out]; exact HR.out, HBE.out⟩

end Go.Proofs.YtbgonaacheemcaaDoor
