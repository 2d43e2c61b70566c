/- Joined texts: EWalkE EWalkF. -/
import Derived.Test.YtpbcalbolnlojaaGreatDoorGl
import Derived.Test.YtpbcalbolnlojaaGreatDoorGg
import Derived.Test.YtpbcalbolnlojaaGreatDoorGa
/- Walks of emit: Tag, Check, Text. -/
namespace Go.Proofs.YtpbcalbolnlojaaGreatDoor
open Go Go.RowKit

theorem attr_cat (D nm E : Bytes) : mk D ++ ((((⟨#[32]⟩ ++ mk nm) ++ ⟨#[61, 34]⟩) ++ mk E) ++ ⟨#[34]⟩) = mk (D ++ (32 :: nm ++ 61 :: 34 :: E ++ [34])) := by
  rw [show (⟨#[32]⟩ : ByteArray) = mk [32] from rfl, show (⟨#[61, 34]⟩ : ByteArray) = mk [61, 34] from rfl, show (⟨#[34]⟩ : ByteArray) = mk [34] from rfl, cat_mk, cat_mk, cat_mk, cat_mk, cat_mk]
  congr 1
  simp

set_option maxHeartbeats 2000000 in
set_option maxRecDepth 100000 in
theorem etag_any (n : Bytes) (av : Value) (l : List TAttr) (self : Bool) (w : World) (hv : AttrView w av l) (hn : n.length ≤ 1000) (hl : l.length ≤ 1000) (ha : ∀ a ∈ l, a.name.length ≤ 1000 ∧ a.value.length ≤ 1000) :
    Calls Tryz.prog 27 #[.string (mk n), av, .bool self] w fun e w' => e = .returned (.string (mk (tagText n l self))) ∧ Below w.heap.size w w' := by
  obtain ⟨ad, cap, hf⟩ := hv.1
  subst hf
  have HV := Lib.hid hv
  have HAL := Lib.hid ha
  have hnz : (mk n).size ≤ 1000 := by rw [mk_size]; exact hn
  have h0 : (⟨#[60]⟩ : ByteArray) ++ mk n = mk (60 :: n ++ attrTexts (l.take 0)) := by
    rw [show (⟨#[60]⟩ : ByteArray) = mk [60] from rfl, cat_mk, List.take_zero, attrTexts, List.append_nil]; rfl
  have H0 := Lib.hid h0
  clear hv ha h0
  go_enter Tryz.func27, Tryz.ntmps27
  go_upto_region 2 with fail
  rw [H0.out]
  go_wp2_with fail
  go_loopg [7, 14] l.length (fun g s i wx => ∃ (W : World) (k : Nat), W = wx ∧ k + g = l.length ∧ i = .int .i64 k ∧ s = .string (mk (60 :: n ++ attrTexts (l.take k))) ∧ Hid (Below w.heap.size w wx))
  case atStart => exact ⟨_, 0, rfl, by omega, rfl, rfl, Lib.hid (Below.refl _ _)⟩
  case round =>
    obtain ⟨wr, k, rfl, hk, rfl, rfl, hB⟩ := hrel
    by_cases hlt : k < l.length
    · obtain ⟨m, rfl⟩ : ∃ m, gk = m + 1 := ⟨gk - 1, by omega⟩
      obtain ⟨a, ha⟩ : ∃ a, l[k]? = some a := ⟨_, List.getElem?_eq_getElem hlt⟩
      have hvr := HV.out.older (.of_below hB.out)
      obtain ⟨g, c, hf, hc1, ⟨cs, hgb⟩, a1, a2⟩ := hvr.2 k a ha
      obtain rfl : ad = some ⟨g, 0, none⟩ := by simp at hf; exact hf.1
      obtain ⟨w2, hw2⟩ : ∃ w2, w2 = wr.alloc (.cells #[.string (mk a.name), .string (mk a.value)] 30) := ⟨_, rfl⟩
      have hb2 : Below wr.heap.size wr w2 := by rw [hw2]; exact (Below.refl _ _).alloc (Nat.le_refl _) _
      have hN : w2.heap[wr.heap.size]? = some (.cells #[.string (mk a.name), .string (mk a.value)] 30 (0, 0)) := by rw [hw2]; exact heap_alloc_new _ _
      have c0 : w2.cell? ⟨wr.heap.size, 0, none⟩ = some (.string (mk a.name)) := by rw [Lib.cell_of_heap hN]; rfl
      have c1 : w2.cell? ⟨wr.heap.size, 1, none⟩ = some (.string (mk a.value)) := by rw [Lib.cell_of_heap hN]; rfl
      have hmem := HAL.out a (List.mem_of_getElem? ha)
      have HC := Lib.hid (escape_any (mk a.value) true (by rw [mk_size]; omega) w2.drew)
      rw [lst_mk] at HC
      have hez := (escM_len true a.value).2.1
      have hdz := attrTexts_len 1000 (l.take k) (fun b hb => HAL.out b (List.mem_of_mem_take hb))
      have htk : (l.take k).length ≤ 1000 := by rw [List.length_take]; omega
      have hst : 60 :: n ++ attrTexts (l.take (k + 1)) = (60 :: n ++ attrTexts (l.take k)) ++ (32 :: a.name ++ 61 :: 34 :: escM true a.value ++ [34]) := by
        rw [attrTexts_take l k a ha]; unfold attrText; simp
      have hcat := attr_cat (60 :: n ++ attrTexts (l.take k)) a.name (escM true a.value)
      rw [← hst] at hcat
      have HCAT := Lib.hid hcat
      have hDz : (mk (60 :: n ++ attrTexts (l.take k))).size ≤ 100000000 := by rw [mk_size]; simp only [List.length_append, List.length_cons]; omega
      have hEz : (mk (escM true a.value)).size ≤ 100000 := by rw [mk_size]; omega
      have hNz : (mk a.name).size ≤ 1000 := by rw [mk_size]; exact hmem.1
      generalize 60 :: n ++ attrTexts (l.take k) = D at *
      generalize escM true a.value = E at *
      have HB2 := Lib.hid (hB.out.trans (hb2.mono hB.out.size))
      have HW2 := Lib.hid hw2
      have hN2 := lt_of_block hN
      have k0 : (0 : Int) ≤ k := by omega
      have k1 : (k : Int) < l.length := by omega
      clear hf hvr hgb ha hb2 hN hw2 hst hcat hez hdz hmem
      have x1 : ¬ 9223372036854775807 < 1 + (mk a.name).size := by omega
      have x2 : ¬ 9223372036854775807 < 1 + (mk a.name).size + 2 := by omega
      have x3 : ¬ 9223372036854775807 < 1 + (mk a.name).size + 2 + (mk E).size := by omega
      have x4 : ¬ 9223372036854775807 < 1 + (mk a.name).size + 2 + (mk E).size + 1 := by omega
      have x5 : ¬ 9223372036854775807 < (mk D).size + (1 + (mk a.name).size + 2 + (mk E).size + 1) := by omega
      go_upto_region 5 with fail
      rw [← HW2.out]
      go_region_law ((refine step_at 28 (by rfl) ?_; go_simp; go_loud (refine HC.out.mono ?_; rintro e w3 ⟨rfl, hb3⟩; have HB3 := Lib.hid (HB2.out.trans ((show Below w2.heap.size w2 w3 from ⟨hb3.os, hb3.tape, hb3.output, hb3.size, hb3.block⟩).mono HB2.out.size)); have y0 := ((Older.of_below (show Below w2.heap.size w2 w3 from ⟨hb3.os, hb3.tape, hb3.output, hb3.size, hb3.block⟩)).cell wr.heap.size 0 hN2).trans c0; clear hb3)))
      all_goals
        go_wp2_with fail
        go_roundg m
        case measure => omega
        case rel => exact ⟨_, k + 1, rfl, by omega, by go_num, by rw [HCAT.out], HB3⟩
    · obtain rfl : k = l.length := by omega
      rw [List.take_length]
      have hdz := attrTexts_len 1000 l HAL.out
      have hDz : (mk (60 :: n ++ attrTexts l)).size ≤ 100000000 := by rw [mk_size]; simp only [List.length_append, List.length_cons]; omega
      cases self with
      | true =>
        have HE := Lib.hid (show (mk (60 :: n ++ attrTexts l) ++ ⟨#[47]⟩) ++ ⟨#[62]⟩ = mk (tagText n l true) by
          rw [show (⟨#[47]⟩ : ByteArray) = mk [47] from rfl, show (⟨#[62]⟩ : ByteArray) = mk [62] from rfl, cat_mk, cat_mk]
          congr 1
          unfold tagText tagTail
          simp)
        generalize 60 :: n ++ attrTexts l = D at *
        go_wp2_with fail
        go_ret
        exact ⟨by rw [← HE.out]; rfl, hB.out⟩
      | false =>
        have HE := Lib.hid (show mk (60 :: n ++ attrTexts l) ++ ⟨#[62]⟩ = mk (tagText n l false) by
          rw [show (⟨#[62]⟩ : ByteArray) = mk [62] from rfl, cat_mk]
          congr 1
          unfold tagText tagTail
          simp)
        generalize 60 :: n ++ attrTexts l = D at *
        go_wp2_with fail
        go_ret
        exact ⟨by rw [← HE.out]; rfl, hB.out⟩

end Go.Proofs.YtpbcalbolnlojaaGreatDoor
/- Walks of emit: Check, Text. -/
namespace Go.Proofs.YtpbcalbolnlojaaGreatDoor
open Go Go.RowKit

theorem checkFrom_end (l : List TTok) (h : ∀ j t, l[j]? = some t → failAt t (lastAt 0 l j) (l.drop (j + 1)) = 0) : checkFrom 0 l = 0 := by
  rw [checkFrom_at l.length l 0 fun j t _ ht => h j t ht, List.drop_length]
  cases l <;> rfl
theorem checkFrom_stop (l : List TTok) (k : Nat) (t : TTok) (hk : l[k]? = some t) (h : ∀ j u, j < k → l[j]? = some u → failAt u (lastAt 0 l j) (l.drop (j + 1)) = 0) (hf : failAt t (lastAt 0 l k) (l.drop (k + 1)) ≠ 0) : checkFrom 0 l = failAt t (lastAt 0 l k) (l.drop (k + 1)) := by
  have hlt := (List.getElem?_eq_some_iff.1 hk).1
  rw [checkFrom_at k l 0 h, List.drop_eq_getElem_cons hlt, (List.getElem?_eq_some_iff.1 hk).2, checkFrom_cons, if_pos hf]

set_option maxHeartbeats 4000000 in
set_option maxRecDepth 100000 in
theorem check_any (tv : Value) (l : List TTok) (w : World) (hv : TokView w tv l) (hl : l.length ≤ 1000000) (hs : ∀ t ∈ l, TokSz 1000 t) :
    Calls Tryz.prog 25 #[tv] w fun e w' => e = .returned (.int .i64 (checkM l)) ∧ Below w.heap.size w w' := by
  obtain ⟨ad, cap, hf⟩ := hv.form
  subst hf
  obtain ⟨e0, rfl⟩ : ∃ e0, cap = l.length + e0 := ⟨cap - l.length, by
    rcases Nat.eq_zero_or_pos l.length with h0 | h0
    · omega
    · obtain ⟨g, c, va, hf, hc, _⟩ := hv.get 0 _ (List.getElem?_eq_getElem h0)
      obtain ⟨_, rfl⟩ : ad = some ⟨g, 0, none⟩ ∧ cap = c := by simpa using hf
      omega⟩
  have HV := Lib.hid hv
  have HS := Lib.hid hs
  have HCM := Lib.hid (show checkM l = if 300 < l.length then 1 else checkFrom 0 l from rfl)
  clear hv hs
  go_enter Tryz.func25, Tryz.ntmps25
  by_cases h300 : 300 < l.length
  · have b0 : (300 : Int) < l.length := by omega
    have HR := Lib.hid (show checkM l = 1 by rw [HCM.out, if_pos h300])
    go_wp2_with fail
    go_ret
    exact ⟨by rw [HR.out]; rfl, Below.refl _ _⟩
  have b0 : ¬ (300 : Int) < l.length := by omega
  have HCM2 := Lib.hid (show checkM l = checkFrom 0 l by rw [HCM.out, if_neg h300])
  clear HCM
  go_wp2_with fail
  go_loopg [3, 12] l.length (fun g la i wx => ∃ (W : World) (k : Nat), W = wx ∧ k + g = l.length ∧ i = .int .i64 k ∧ la = .int .i64 (lastAt 0 l k) ∧ Hid (Below w.heap.size w wx) ∧ Hid (∀ j t, j < k → l[j]? = some t → failAt t (lastAt 0 l j) (l.drop (j + 1)) = 0))
  case atStart => exact ⟨_, 0, rfl, by omega, rfl, by cases l <;> rfl, Lib.hid (Below.refl _ _), Lib.hid (fun j t h => by omega)⟩
  case round =>
    obtain ⟨wr, k, rfl, hk, rfl, rfl, hB, hno⟩ := hrel
    by_cases hlt : k < l.length
    · obtain ⟨n, rfl⟩ : ∃ n, gk = n + 1 := ⟨gk - 1, by omega⟩
      obtain ⟨t, ht⟩ : ∃ t, l[k]? = some t := ⟨_, List.getElem?_eq_getElem hlt⟩
      have hvr := HV.out.older (.of_below hB.out)
      obtain ⟨g, c, va, hf, hc1, hc2, hglt, hat, hav⟩ := hvr.get k t ht
      obtain rfl : ad = some ⟨g, 0, none⟩ := by simp at hf; exact hf.1
      obtain ⟨⟨aa, ca, haf⟩, -⟩ := id hav
      subst haf
      obtain ⟨d0, d1, d2, d3, d4⟩ := hat
      obtain ⟨w2, hw2⟩ : ∃ w2, w2 = wr.alloc (.cells #[.int .i64 t.kind, .string (mk t.name), .slice aa t.attrs.length ca, .bool t.self, .string (mk t.text)] 33) := ⟨_, rfl⟩
      have hb2 : Below wr.heap.size wr w2 := by rw [hw2]; exact (Below.refl _ _).alloc (Nat.le_refl _) _
      have hbox : TokBox w2 wr.heap.size t (.slice aa t.attrs.length ca) := by rw [hw2]; exact heap_alloc_new _ _
      have hrest : RestView w2 (.slice (some ⟨g, (k + 1) * 5, none⟩) (l.drop (k + 1)).length (l.length + e0 - (k + 1))) (l.drop (k + 1)) := by
        refine ⟨⟨_, _, rfl⟩, fun u r hr => ?_⟩
        have hu : l[k + 1]? = some u := by rw [← List.head?_drop, hr]; rfl
        obtain ⟨g', c', va', hf', _, _, hg', hat', _⟩ := hvr.get (k + 1) u hu
        obtain rfl : g = g' := by simp at hf'; exact hf'.1
        exact ⟨g, (k + 1) * 5, _, rfl, Nat.lt_of_lt_of_le hg' hb2.size, (hb2.cell (p := ⟨g, (k + 1) * 5, none⟩) hg').trans hat'.kind, (hb2.cell (p := ⟨g, (k + 1) * 5 + 1, none⟩) hg').trans hat'.name⟩
      have hsz := HS.out t (List.mem_of_getElem? ht)
      obtain ⟨t0, t1, t2, t3, t4, tz⟩ := hbox.cells
      have HBOX := Lib.hid hbox
      have HRV := Lib.hid hrest
      have HAV := Lib.hid (hav.older (.of_below hb2))
      have HB2 := Lib.hid (hB.out.trans (hb2.mono hB.out.size))
      have HW2 := Lib.hid hw2
      have HT := Lib.hid ht
      have HLS := Lib.hid (lastAt_succ k l 0 t ht)
      have HSTOP := Lib.hid (checkFrom_stop l k t ht hno.out)
      have hrl : (l.drop (k + 1)).length = l.length - (k + 1) := List.length_drop
      have HN := Lib.hid (name_any (mk t.name) w2)
      rw [lst_mk] at HN
      have HATT := Lib.hid (fun W h => attrs_any (.slice aa t.attrs.length ca) t.attrs (Nat.le_trans hsz.count (by omega)) W h)
      have HODD := Lib.hid (fun W o c h1 h2 => odd_any t (.slice aa t.attrs.length ca) (.slice (some ⟨g, o, none⟩) (l.length - (k + 1)) c) (lastAt 0 l k) (l.drop (k + 1)) W h1 h2 (by omega) (Nat.le_trans hsz.count (by omega)))
      have HRS := Lib.hid (show ∀ W o c, l.length = k + 1 → RestView W (.slice (some ⟨g, o, none⟩) (l.length - (k + 1)) c) (l.drop (k + 1)) from fun W o c h => ⟨⟨_, _, by rw [hrl]⟩, fun u r hr => by
        have h1 := congrArg List.length hr
        rw [hrl, List.length_cons] at h1
        omega⟩)
      have HFA := Lib.hid (show failAt t (lastAt 0 l k) (l.drop (k + 1)) = if t.kind < 1 ∨ 4 < t.kind then 3 else if t.kind ≤ 2 ∧ nameM t.name = false then 5 else if t.kind ≤ 2 ∧ attrsM t.attrs ≠ 0 then attrsM t.attrs else if oddM t (lastAt 0 l k) (l.drop (k + 1)) then 4 else 0 from rfl)
      rw [hrl] at HRV
      have k0 : (0 : Int) ≤ k := by omega
      have k1 : (k : Int) < l.length := by omega
      have k2 : IntKind.i64.wrap ((k : Int) + 1) = (k : Int) + 1 := IntWalk.i64_in _ (by omega)
      have k3 : (k : Int) + 1 ≤ l.length := by omega
      have k4 : (0 : Int) ≤ (k : Int) + 1 := by omega
      have k5 : ((k : Int) + 1).toNat = k + 1 := by omega
      have k6 : ((l.length : Int) - ((k : Int) + 1)).toNat = l.length - (k + 1) := by omega
      have k7 : (l.length : Int) ≤ ((l.length + e0 : Nat) : Int) := by omega
      have k8 : (l.length : Int) ≤ (l.length : Int) + e0 := by omega
      have k9 : (k : Int) + 1 ≤ (l.length : Int) + e0 := by omega
      clear hf hvr hav ht hb2 hbox hrest hw2 hsz hrl
      generalize hla : lastAt 0 l k = la at *
      generalize hrest : l.drop (k + 1) = rest at *
      have HLA := Lib.hid hla
      have HREST := Lib.hid hrest
      clear hla hrest
      go_upto_region 7 with fail
      rw [← HW2.out]
      by_cases c1 : t.kind < 1
      · have HF := Lib.hid (show failAt t la rest = 3 by rw [HFA.out, if_pos (.inl c1)])
        have HR := Lib.hid (show checkM l = 3 by rw [HCM2.out, HSTOP.out (by rw [HF.out]; decide), HF.out])
        go_wp2_with fail
        go_ret
        exact ⟨by rw [HR.out]; rfl, HB2.out⟩
      by_cases c2 : 4 < t.kind
      · have HF := Lib.hid (show failAt t la rest = 3 by rw [HFA.out, if_pos (.inr c2)])
        have HR := Lib.hid (show checkM l = 3 by rw [HCM2.out, HSTOP.out (by rw [HF.out]; decide), HF.out])
        go_wp2_with fail
        go_ret
        exact ⟨by rw [HR.out]; rfl, HB2.out⟩
      have HFB := Lib.hid (show failAt t la rest = if t.kind ≤ 2 ∧ nameM t.name = false then 5 else if t.kind ≤ 2 ∧ attrsM t.attrs ≠ 0 then attrsM t.attrs else if oddM t la rest then 4 else 0 by rw [HFA.out, if_neg (by omega)])
      by_cases c3 : t.kind ≤ 2
      · cases hnm : nameM t.name with
        | false =>
          have HF := Lib.hid (show failAt t la rest = 5 by rw [HFB.out, if_pos ⟨c3, hnm⟩])
          have HR := Lib.hid (show checkM l = 5 by rw [HCM2.out, HSTOP.out (by rw [HF.out]; decide), HF.out])
          rw [hnm] at HN
          clear hnm
          go_wp2_with fail
          refine HN.out.mono ?_
          rintro e w3 ⟨rfl, hb3⟩
          have HB3 := Lib.hid (HB2.out.trans (hb3.mono HB2.out.size))
          clear hb3
          go_wp2_with fail
          go_ret
          exact ⟨by rw [HR.out]; rfl, HB3.out⟩
        | true =>
          have HFC := Lib.hid (show failAt t la rest = if attrsM t.attrs ≠ 0 then attrsM t.attrs else if oddM t la rest then 4 else 0 by rw [HFB.out, if_neg (by rw [hnm]; rintro ⟨_, h⟩; cases h)]; simp only [c3, true_and])
          rw [hnm] at HN
          clear hnm
          go_wp2_with fail
          refine HN.out.mono ?_
          rintro e w3 ⟨rfl, hb3⟩
          have HB3 := Lib.hid (HB2.out.trans (hb3.mono HB2.out.size))
          have hO := Older.of_below hb3
          obtain ⟨t0, t1, t2, t3, t4, tz⟩ := (HBOX.out.keep (hO.2 _ (lt_of_block HBOX.out))).cells
          have HC := Lib.hid (HATT.out w3 (HAV.out.older hO))
          have HBOX3 := Lib.hid (HBOX.out.keep (hO.2 _ (lt_of_block HBOX.out)))
          have HAV3 := Lib.hid (HAV.out.older hO)
          have HRV3 := Lib.hid (HRV.out.older hO)
          clear hb3 hO
          go_wp2_with fail
          refine HC.out.mono ?_
          rintro e w4 ⟨rfl, hb4⟩
          have HB4 := Lib.hid (HB3.out.trans (hb4.mono HB3.out.size))
          have hO := Older.of_below hb4
          obtain ⟨t0, t1, t2, t3, t4, tz⟩ := (HBOX3.out.keep (hO.2 _ (lt_of_block HBOX3.out))).cells
          have HAV4 := Lib.hid (HAV3.out.older hO)
          have HRV4 := Lib.hid (HRV3.out.older hO)
          clear hb4 hO
          by_cases c4 : attrsM t.attrs = 0
          · have HFD := Lib.hid (show failAt t la rest = if oddM t la rest then 4 else 0 by rw [HFC.out, if_neg (by rw [c4]; simp)])
            rw [c4]
            clear c4
            go_upto_region 15 with fail
            go_still_tail 6, (by kernel_rfl)
            change wpList _ _ _ _ _ w4.drew
            go_wp2_with fail
            all_goals
              try (rename l.length + e0 = k + 1 => hcap; have HCAP := Lib.hid hcap; rw [show Value.slice (some ⟨g, 0, none⟩) l.length (k + 1) = Value.slice (some ⟨g, 0, none⟩) l.length (l.length + e0) by rw [HCAP.out]]; clear hcap)
              refine (HODD.out w4.drew _ _ (HAV4.out.older ⟨Nat.le_refl _, fun _ _ => rfl⟩) (by first | exact HRV4.out.older ⟨Nat.le_refl _, fun _ _ => rfl⟩ | exact HRS.out _ _ _ (by have := HCAP.out; omega))).mono ?_
              rintro e w5 ⟨rfl, hb5⟩
              have hb5' : Below w4.heap.size w4 w5 := ⟨hb5.os, hb5.tape, hb5.output, hb5.size, hb5.block⟩
              have HB5 := Lib.hid (HB4.out.trans (hb5'.mono HB4.out.size))
              have e0 := ((Older.of_below hb5').cell wr.heap.size 0 tz).trans t0
              clear hb5 hb5'
              cases hodd : oddM t la rest with
              | true =>
                have HR := Lib.hid (show checkM l = 4 by
                  have hF : failAt t la rest = 4 := by rw [HFD.out, hodd]; rfl
                  rw [HCM2.out, HSTOP.out (by rw [hF]; decide), hF])
                clear hodd
                go_wp2_with fail
                go_ret
                exact ⟨by rw [HR.out]; rfl, HB5.out⟩
              | false =>
                have hF : failAt t la rest = 0 := by rw [HFD.out, hodd]; rfl
                have HF := Lib.hid hF
                clear hodd hF
                go_wp2_with fail
                go_roundg n
                case measure => omega
                case rel =>
                  refine ⟨_, k + 1, rfl, by omega, by go_num, by rw [HLS.out], HB5, Lib.hid (fun j u hj hu => ?_)⟩
                  by_cases hjk : j = k
                  · subst hjk; rw [HT.out] at hu; cases hu; rw [HLA.out, HREST.out]; exact HF.out
                  · exact hno.out j u (by omega) hu
          · have HF := Lib.hid (show failAt t la rest = attrsM t.attrs by rw [HFC.out, if_pos c4])
            have HR := Lib.hid (show checkM l = attrsM t.attrs by rw [HCM2.out, HSTOP.out (by rw [HF.out]; exact c4), HF.out])
            have c5 : (attrsM t.attrs == 0) = false := beq_eq_false_iff_ne.2 c4
            go_wp2_with fail
            go_ret
            exact ⟨by rw [HR.out]; rfl, HB4.out⟩
      · have HFD := Lib.hid (show failAt t la rest = if oddM t la rest then 4 else 0 by rw [HFB.out, if_neg (fun h => c3 h.1), if_neg (fun h => c3 h.1)])
        go_upto_region 15 with fail
        go_still_tail 6, (by kernel_rfl)
        change wpList _ _ _ _ _ w2.drew
        go_wp2_with fail
        all_goals
          try (rename l.length + e0 = k + 1 => hcap; have HCAP := Lib.hid hcap; rw [show Value.slice (some ⟨g, 0, none⟩) l.length (k + 1) = Value.slice (some ⟨g, 0, none⟩) l.length (l.length + e0) by rw [HCAP.out]]; clear hcap)
          refine (HODD.out w2.drew _ _ (HAV.out.older ⟨Nat.le_refl _, fun _ _ => rfl⟩) (by first | exact HRV.out.older ⟨Nat.le_refl _, fun _ _ => rfl⟩ | exact HRS.out _ _ _ (by have := HCAP.out; omega))).mono ?_
          rintro e w5 ⟨rfl, hb5⟩
          have hb5' : Below w2.heap.size w2 w5 := ⟨hb5.os, hb5.tape, hb5.output, hb5.size, hb5.block⟩
          have HB5 := Lib.hid (HB2.out.trans (hb5'.mono HB2.out.size))
          have e0 := ((Older.of_below hb5').cell wr.heap.size 0 tz).trans t0
          clear hb5 hb5'
          cases hodd : oddM t la rest with
          | true =>
            have HR := Lib.hid (show checkM l = 4 by
              have hF : failAt t la rest = 4 := by rw [HFD.out, hodd]; rfl
              rw [HCM2.out, HSTOP.out (by rw [hF]; decide), hF])
            clear hodd
            go_wp2_with fail
            go_ret
            exact ⟨by rw [HR.out]; rfl, HB5.out⟩
          | false =>
            have hF : failAt t la rest = 0 := by rw [HFD.out, hodd]; rfl
            have HF := Lib.hid hF
            clear hodd hF
            go_wp2_with fail
            go_roundg n
            case measure => omega
            case rel =>
              refine ⟨_, k + 1, rfl, by omega, by go_num, by rw [HLS.out], HB5, Lib.hid (fun j u hj hu => ?_)⟩
              by_cases hjk : j = k
              · subst hjk; rw [HT.out] at hu; cases hu; rw [HLA.out, HREST.out]; exact HF.out
              · exact hno.out j u (by omega) hu
    · obtain rfl : k = l.length := by omega
      have HR := Lib.hid (show checkM l = 0 by rw [HCM2.out, checkFrom_end l fun j t h => hno.out j t (List.getElem?_eq_some_iff.1 h).1 h])
      go_wp2_with fail
      go_ret
      exact ⟨by rw [HR.out]; rfl, hB.out⟩


theorem end_cat (n : Bytes) : (⟨#[60, 47]⟩ ++ mk n) ++ ⟨#[62]⟩ = mk (60 :: 47 :: n ++ [62]) := by
  rw [show (⟨#[60, 47]⟩ : ByteArray) = mk [60, 47] from rfl, show (⟨#[62]⟩ : ByteArray) = mk [62] from rfl, cat_mk, cat_mk]
  congr 1

set_option maxHeartbeats 4000000 in
set_option maxRecDepth 100000 in
theorem emitText_fn (tv : Value) (l : List TTok) (w : World) (hv : TokView w tv l) (hl : l.length ≤ 1000000) (hs : ∀ t ∈ l, TokSz 1000 t) :
    Calls Tryz.prog 8 #[tv] w fun e w' => e = .returned (.tuple #[.string (mk (emitM l).1), .int .i64 (emitM l).2]) ∧ Below w.heap.size w w' := by
  obtain ⟨ad, cap, hf⟩ := hv.form
  subst hf
  have HV := Lib.hid hv
  have HS := Lib.hid hs
  have HC := Lib.hid (check_any _ l w hv hl hs)
  have HEM := Lib.hid (show emitM l = if checkM l ≠ 0 then ([], checkM l) else if 600 < (tokTexts l).length then ([], 1) else (tokTexts l, 0) from rfl)
  have htot := tokTexts_len l hs
  clear hv hs
  go_enter Tryz.func8, Tryz.ntmps8
  go_wp2_with fail
  refine HC.out.mono ?_
  rintro e w0 ⟨rfl, hb0⟩
  have HB0 := Lib.hid hb0
  clear hb0
  by_cases hc : checkM l = 0
  · have HEM2 := Lib.hid (show emitM l = if 600 < (tokTexts l).length then ([], 1) else (tokTexts l, 0) by rw [HEM.out, if_neg (by rw [hc]; simp)])
    rw [hc]
    clear hc HEM
    obtain ⟨w1, hw1⟩ : ∃ w1, w1 = w0.alloc (.cells #[.pointer none, .slice none 0 0] 67) := ⟨_, rfl⟩
    have hbl0 : Bld w0.heap.size w0.heap.size [] w1 := by rw [hw1]; exact Bld.fresh w0
    have hb1 : Below w0.heap.size w0 w1 := by rw [hw1]; exact (Below.refl _ _).alloc (Nat.le_refl _) _
    have HBL0 := Lib.hid hbl0
    have HB1 := Lib.hid hb1
    have HW1 := Lib.hid hw1
    clear hbl0 hb1 hw1
    go_upto_region 5 with fail
    rw [← HW1.out]
    go_wp2_with fail
    go_loopg [15] l.length (fun g i wx => ∃ (W : World) (k : Nat), W = wx ∧ k + g = l.length ∧ i = .int .i64 k ∧ Hid (Bld w0.heap.size w0.heap.size (tokTexts (l.take k)) wx) ∧ Hid (Below w0.heap.size w0 wx))
    case atStart => exact ⟨_, 0, rfl, by omega, rfl, HBL0, HB1⟩
    case round =>
      obtain ⟨wr, k, rfl, hk, rfl, hbl, hB⟩ := hrel
      by_cases hlt : k < l.length
      · obtain ⟨n, rfl⟩ : ∃ n, gk = n + 1 := ⟨gk - 1, by omega⟩
        obtain ⟨t, ht⟩ : ∃ t, l[k]? = some t := ⟨_, List.getElem?_eq_getElem hlt⟩
        have hB0r : Below w.heap.size w wr := HB0.out.trans (hB.out.mono HB0.out.size)
        have hvr := HV.out.older (.of_below hB0r)
        obtain ⟨g, c, va, hf, hc1, hc2, hglt, hat, hav⟩ := hvr.get k t ht
        obtain rfl : ad = some ⟨g, 0, none⟩ := by simp at hf; exact hf.1
        obtain ⟨⟨aa, ca, haf⟩, -⟩ := id hav
        subst haf
        obtain ⟨d0, d1, d2, d3, d4⟩ := hat
        obtain ⟨w2, hw2⟩ : ∃ w2, w2 = wr.alloc (.cells #[.int .i64 t.kind, .string (mk t.name), .slice aa t.attrs.length ca, .bool t.self, .string (mk t.text)] 33) := ⟨_, rfl⟩
        have hb2 : Below wr.heap.size wr w2 := by rw [hw2]; exact (Below.refl _ _).alloc (Nat.le_refl _) _
        have hbox : TokBox w2 wr.heap.size t (.slice aa t.attrs.length ca) := by rw [hw2]; exact heap_alloc_new _ _
        have hsz := HS.out t (List.mem_of_getElem? ht)
        obtain ⟨t0, t1, t2, t3, t4, tz⟩ := hbox.cells
        have HB2 := Lib.hid (hB.out.trans (hb2.mono hB.out.size))
        have HBL2 := Lib.hid (hbl.out.below hb2)
        have hst := tokTexts_take l k t ht
        have HST := Lib.hid hst
        have hol := tokTexts_len (l.take k) (fun u hu => HS.out u (List.mem_of_mem_take hu))
        have htl : (l.take k).length ≤ 1000000 := by rw [List.length_take]; omega
        have htt := tokText_len t hsz
        have HAV := Lib.hid (hav.older (.of_below hb2))
        have HW2 := Lib.hid hw2
        have k0 : (0 : Int) ≤ k := by omega
        have k1 : (k : Int) < l.length := by omega
        have hz2 := HB2.out.size
        clear hf hvr hav ht hb2 hbox hw2 hst hB0r
        generalize tokTexts (l.take k) = D at *
        have hDz : D.length ≤ 8000000000000 := by omega
        go_upto_region 8 with fail
        rw [← HW2.out]
        by_cases c1 : t.kind = 1
        · have htx : tokText t = tagText t.name t.attrs t.self := by unfold tokText; rw [if_pos c1]
          have HTG := Lib.hid (etag_any t.name (.slice aa t.attrs.length ca) t.attrs t.self w2 HAV.out hsz.name hsz.count hsz.attrs)
          rw [← htx] at HTG
          have HTX := Lib.hid htx
          rw [c1] at t0
          clear htx c1 hsz
          generalize tokText t = T at *
          go_wp2_with fail
          refine HTG.out.mono ?_
          rintro e w3 ⟨rfl, hb3⟩
          have HB3 := Lib.hid (HB2.out.trans (hb3.mono HB2.out.size))
          have HWS := Lib.hid (bStr w0.heap.size w0.heap.size D T w3 (HBL2.out.below hb3) (by omega) HB3.out.size)
          clear hb3
          go_wp2_with fail
          refine HWS.out.mono ?_
          rintro e w4 ⟨rfl, hB4, hb4, _⟩
          have HBL4 := Lib.hid hB4
          have HB4 := Lib.hid (HB3.out.trans hb4)
          clear hB4 hb4
          go_wp2_with fail
          go_roundg n
          case measure => omega
          case rel => exact ⟨_, k + 1, rfl, by omega, by go_num, by rw [HST.out]; exact HBL4, HB4⟩
        by_cases c2 : t.kind = 2
        · have htx : tokText t = 60 :: 47 :: t.name ++ [62] := by unfold tokText; rw [if_neg c1, if_pos c2]
          have hcat := end_cat t.name
          rw [← htx] at hcat
          have HCAT := Lib.hid hcat
          have HWS := Lib.hid (bStr w0.heap.size w0.heap.size D (tokText t) w2 HBL2.out (by omega) HB2.out.size)
          have hnz : (mk t.name).size ≤ 1000 := by rw [mk_size]; exact hsz.name
          rw [c2] at t0
          clear htx c1 c2 hsz hcat
          generalize tokText t = T at *
          go_wp2_with (go_at_call 26; rw [HCAT.out]; refine HWS.out.mono ?_)
          rintro e w4 ⟨rfl, hB4, hb4, _⟩
          have HBL4 := Lib.hid hB4
          have HB4 := Lib.hid (HB2.out.trans hb4)
          clear hB4 hb4
          go_wp2_with fail
          go_roundg n
          case measure => omega
          case rel => exact ⟨_, k + 1, rfl, by omega, by go_num, by rw [HST.out]; exact HBL4, HB4⟩
        have htx : tokText t = escM false t.text := by unfold tokText; rw [if_neg c1, if_neg c2]
        have HES := Lib.hid (escape_any (mk t.text) false (by rw [mk_size]; have := hsz.text; omega) w2)
        rw [lst_mk, ← htx] at HES
        have e1 : (t.kind == 1) = false := beq_eq_false_iff_ne.2 c1
        have e2 : (t.kind == 2) = false := beq_eq_false_iff_ne.2 c2
        clear htx hsz
        generalize tokText t = T at *
        go_wp2_with fail
        refine HES.out.mono ?_
        rintro e w3 ⟨rfl, hb3⟩
        have HB3 := Lib.hid (HB2.out.trans (hb3.mono HB2.out.size))
        have HWS := Lib.hid (bStr w0.heap.size w0.heap.size D T w3 (HBL2.out.below hb3) (by omega) HB3.out.size)
        clear hb3
        go_wp2_with fail
        refine HWS.out.mono ?_
        rintro e w4 ⟨rfl, hB4, hb4, _⟩
        have HBL4 := Lib.hid hB4
        have HB4 := Lib.hid (HB3.out.trans hb4)
        clear hB4 hb4
        go_wp2_with fail
        go_roundg n
        case measure => omega
        case rel => exact ⟨_, k + 1, rfl, by omega, by go_num, by rw [HST.out]; exact HBL4, HB4⟩
      · obtain rfl : k = l.length := by omega
        rw [List.take_length] at hbl
        have hLEN := Tryz.Builder_Len_f w0.heap.size w0.heap.size _ wr hbl.out
        rw [Lib.byteCells_length] at hLEN
        have HLEN := Lib.hid hLEN
        have HSTR := Lib.hid (bString w0.heap.size w0.heap.size _ wr hbl.out hB.out.size)
        have HFIN := Lib.hid (HB0.out.trans (hB.out.mono HB0.out.size))
        have hz0 := HB0.out.size
        clear hLEN
        generalize tokTexts l = X at *
        go_wp2_with fail
        refine HLEN.out.mono ?_
        rintro e w5 ⟨rfl, hw⟩
        rw [hw]
        clear hw
        by_cases h6 : 600 < X.length
        · have b6 : (600 : Int) < X.length := by omega
          rw [if_pos h6] at HEM2
          clear h6
          go_wp2_with fail
          exact bodyPost_ret (v := .tuple #[.string ⟨#[]⟩, .int .i64 1]) (by simp [results, Tryz.results8, go_sem]) rfl ⟨by rw [HEM2.out]; rfl, HFIN.out⟩
        · have b6 : ¬ (600 : Int) < X.length := by omega
          rw [if_neg h6] at HEM2
          clear h6
          go_wp2_with fail
          refine HSTR.out.mono ?_
          rintro e w6 ⟨rfl, _, hb6, _⟩
          have HFIN2 := Lib.hid (HFIN.out.trans (hb6.mono hz0))
          clear hb6
          go_wp2_with fail
          exact bodyPost_ret (v := .tuple #[.string (mk X), .int .i64 0]) (by simp [results, Tryz.results8, go_sem]) rfl ⟨by rw [HEM2.out], HFIN2.out⟩
  · have HEM2 := Lib.hid (show emitM l = ([], checkM l) by rw [HEM.out, if_pos hc])
    have c5 : (checkM l == 0) = false := beq_eq_false_iff_ne.2 hc
    go_wp2_with fail
    exact bodyPost_ret (v := .tuple #[.string ⟨#[]⟩, .int .i64 (checkM l)]) (by simp [results, Tryz.results8, go_sem]) rfl ⟨by rw [HEM2.out]; rfl, HB0.out⟩

end Go.Proofs.YtpbcalbolnlojaaGreatDoor
