/- Walk of show: Read; the row ShowFixed. -/
import Derived.Test.YtjkgmdnkejjppaaGreatDoorGo
namespace Go.Proofs.YtjkgmdnkejjppaaGreatDoor
open Go Go.RowKit

mutual
theorem deep_countN : ∀ t : TNode, deepN t ≤ countN t
  | .mk n a t ps => by
    have := deep_countL ps
    rw [deepN, countN]; omega
theorem deep_countL : ∀ l : List TNode, deepL l ≤ countL l
  | [] => by rw [deepL, countL]; exact Nat.le_refl _
  | t :: l => by
    have h1 := deep_countN t
    have h2 := deep_countL l
    rw [deepL, countL]; omega
end
theorem sz_allR (s : Bytes) (h : s.length ≤ 1000) (t : TTok) (ht : t ∈ allM s) : TokSz 1000 t := by
  have hl := allM_le s t ht
  exact ⟨Nat.le_trans hl.name h, Nat.le_trans hl.text h, Nat.le_trans hl.count h, fun a ha => ⟨Nat.le_trans (hl.attrs a ha).1 h, Nat.le_trans (hl.attrs a ha).2 h⟩⟩
theorem szN_text (x : Bytes) (h : x.length ≤ 1000) : SzN (tText x) := by
  unfold tText
  rw [SzN]
  exact ⟨⟨by simp, h, by simp, fun b hb => by cases hb⟩, by rw [SzL]; trivial⟩
theorem szN_elem {t : TTok} (h : TokSz 1000 t) (ps : List TNode) (hp : SzL ps) : SzN (tElem t.name t.attrs ps) := by
  unfold tElem
  rw [SzN]
  exact ⟨⟨h.name, by simp, h.count, h.attrs⟩, hp⟩
theorem count_cons (t : TNode) (l : List TNode) : countL (t :: l) = countN t + countL l := by rw [countL]
theorem prs_all : ∀ (f : Nat) (l : List TTok) (o : List TNode) (q : List TTok), prs f l = some (o, q) → countL o + q.length ≤ l.length ∧ ((∀ t ∈ l, TokSz 1000 t) → SzL o ∧ ∀ t ∈ q, TokSz 1000 t)
  | 0, l, o, q, h => by rw [prs] at h; cases h
  | f + 1, l, o, q, h => by
    cases l with
    | nil => rw [prs] at h; cases h; exact ⟨by rw [countL]; simp, fun _ => ⟨by rw [SzL]; trivial, fun t ht => by cases ht⟩⟩
    | cons t r =>
      rw [prs] at h
      split at h
      · cases h; exact ⟨by rw [countL]; simp, fun hs => ⟨by rw [SzL]; trivial, hs⟩⟩
      split at h
      · obtain ⟨⟨o1, q1⟩, h1, h2⟩ := Option.map_eq_some_iff.1 h
        obtain ⟨i1, i2⟩ := prs_all f r o1 q1 h1
        cases h2
        refine ⟨?_, fun hs => ?_⟩
        · simp only [count_cons, List.length_cons]
          have : countN (tText t.text) = 1 := by unfold tText; rw [countN, countL]
          omega
        · obtain ⟨j1, j2⟩ := i2 fun u hu => hs u (by simp [hu])
          exact ⟨by show SzL (tText t.text :: o1); rw [SzL]; exact ⟨szN_text _ (hs t (by simp)).text, j1⟩, j2⟩
      split at h
      · cases h
      split at h
      · obtain ⟨⟨o1, q1⟩, h1, h2⟩ := Option.map_eq_some_iff.1 h
        obtain ⟨i1, i2⟩ := prs_all f r o1 q1 h1
        cases h2
        refine ⟨?_, fun hs => ?_⟩
        · simp only [count_cons, List.length_cons]
          have : countN (tElem t.name t.attrs []) = 1 := by unfold tElem; rw [countN, countL]
          omega
        · obtain ⟨j1, j2⟩ := i2 fun u hu => hs u (by simp [hu])
          exact ⟨by show SzL (tElem t.name t.attrs [] :: o1); rw [SzL]; exact ⟨szN_elem (hs t (by simp)) [] (by rw [SzL]; trivial), j1⟩, j2⟩
      split at h
      · cases h
      · cases h
      rename_i ps e q2 hp
      split at h
      · obtain ⟨⟨o1, q1⟩, h1, h2⟩ := Option.map_eq_some_iff.1 h
        obtain ⟨k1, k2⟩ := prs_all f r ps (e :: q2) hp
        obtain ⟨i1, i2⟩ := prs_all f q2 o1 q1 h1
        cases h2
        simp only [List.length_cons] at k1
        refine ⟨?_, fun hs => ?_⟩
        · simp only [count_cons, List.length_cons]
          have : countN (tElem t.name t.attrs ps) = countL ps + 1 := by unfold tElem; rw [countN]
          omega
        · obtain ⟨l1, l2⟩ := k2 fun u hu => hs u (by simp [hu])
          obtain ⟨j1, j2⟩ := i2 fun u hu => l2 u (by simp [hu])
          exact ⟨by show SzL (tElem t.name t.attrs ps :: o1); rw [SzL]; exact ⟨szN_elem (hs t (by simp)) ps l1, j1⟩, j2⟩
      · cases h
theorem readS_small (S : Bytes) (h : S.length ≤ 600) : SzL (readS S).1 ∧ countL (readS S).1 ≤ 1000 := by
  unfold readS
  rw [if_neg (by omega)]
  have hlen := (allM_ok S).len
  cases hx : prsM (allM S) with
  | none => exact ⟨by show SzL []; rw [SzL]; trivial, by show countL [] ≤ 1000; rw [countL]; omega⟩
  | some y =>
    obtain ⟨o, q⟩ := y
    obtain ⟨i1, i2⟩ := prs_all _ (allM S) o q hx
    obtain ⟨j1, -⟩ := i2 fun t ht => sz_allR S (by omega) t ht
    cases q with
    | nil =>
      show SzL (if checkS o = 0 ∧ ofL o = S then (o, (0 : Int)) else ([], 4)).1 ∧ countL (if checkS o = 0 ∧ ofL o = S then (o, (0 : Int)) else ([], 4)).1 ≤ 1000
      split
      · exact ⟨j1, by show countL o ≤ 1000; omega⟩
      · exact ⟨by show SzL []; rw [SzL]; trivial, by show countL [] ≤ 1000; rw [countL]; omega⟩
    | cons e q => exact ⟨by show SzL []; rw [SzL]; trivial, by show countL [] ≤ 1000; rw [countL]; omega⟩

set_option maxHeartbeats 4000000 in
set_option maxRecDepth 100000 in
theorem sread_any (S : Bytes) (w : World) (hg : Glob w) :
    Calls Tryz.prog 5 #[.string (mk S)] w fun e w' => ∃ v, e = .returned (.tuple #[v, .int .i64 (readS S).2]) ∧ NodeView 1001 w' v (readS S).1 ∧ Below w.heap.size w w' := by
  have hSl : (mk S).size = S.length := mk_size _
  by_cases h6 : 600 < S.length
  · have c1 : (600 : Int) < (mk S).size := by omega
    have HR := Lib.hid (show readS S = ([], 1) by unfold readS; rw [if_pos h6])
    clear hSl
    go_enter Tryz.func5, Tryz.ntmps5
    go_wp2_with fail
    exact bodyPost_ret (v := .tuple #[.slice none 0 0, .int .i64 1]) (by simp [results, Tryz.results5, go_sem]) rfl ⟨.slice none 0 0, by rw [HR.out], by rw [HR.out]; exact NodeIn.nil _ _ _, Below.refl _ _⟩
  · have c1 : ¬ (600 : Int) < (mk S).size := by omega
    have HP := Lib.hid (parse_any (mk S) w hg (by omega))
    rw [lst_mk] at HP
    have hlen := (allM_ok S).len
    have HRD := Lib.hid (show readS S = readOf S (prsM (allM S)) by unfold readS; rw [if_neg h6])
    have HSA := Lib.hid (sz_allR S (by omega))
    have hL : (allM S).length ≤ 1000 := by omega
    have HSL := Lib.hid hSl
    clear hSl hlen h6 hg
    generalize allM S = L at *
    go_enter Tryz.func5, Tryz.ntmps5
    go_wp2_with fail
    refine HP.out.mono ?_
    rintro e w1 ⟨tv, rfl, htr, hb1⟩
    have HB1 := Lib.hid hb1
    have HC1 := Lib.hid (snodes_any 1000 tv L w1 w1 hL hL htr.view.sub (Below.refl _ _))
    have HOR := Lib.hid (fun o (ho : prsM L = some (o, [])) => (show readS S = if checkS o = 0 ∧ ofL o = S then (o, 0) else ([], 4) by rw [HRD.out, ho]; rfl))
    clear htr hb1
    obtain ⟨x, hx⟩ : ∃ x, prsM L = x := ⟨_, rfl⟩
    have HX := Lib.hid hx
    rw [hx] at HC1 HRD
    clear hx
    go_wp2_with fail
    refine HC1.out.mono ?_
    rintro e w2 ⟨hb2, hp⟩
    have HB2 := Lib.hid (HB1.out.trans (hb2.mono HB1.out.size))
    clear hb2
    cases x with
    | none =>
      have hp' : e = .returned (.tuple #[.slice none 0 0, .slice none 0 0, .bool false]) := hp
      subst hp'
      have HR := Lib.hid (show readS S = ([], 4) by rw [HRD.out]; rfl)
      clear hp
      go_wp2_with fail
      exact bodyPost_ret (v := .tuple #[.slice none 0 0, .int .i64 4]) (by simp [results, Tryz.results5, go_sem]) rfl ⟨.slice none 0 0, by rw [HR.out], by rw [HR.out]; exact NodeIn.nil _ _ _, HB2.out⟩
    | some y =>
      obtain ⟨o, q⟩ := y
      obtain ⟨ov, qv, rfl, hown, hq⟩ := hp
      obtain ⟨oa, oc, hof⟩ := hown.form
      subst hof
      obtain ⟨qa, qe, hqf⟩ := hq.form
      subst hqf
      obtain ⟨i1, i2⟩ := prs_all _ L o q HX.out
      obtain ⟨j1, -⟩ := i2 HSA.out
      have hdc := deep_countL o
      cases q with
      | cons u q =>
        have HR := Lib.hid (show readS S = ([], 4) by rw [HRD.out]; rfl)
        have q0 : 0 < (u :: q).length := by simp
        generalize (u :: q).length = ql at *
        have q0' : (0 : Int) < ql := by omega
        clear hown hq HX i2 j1
        go_wp2_with fail
        exact bodyPost_ret (v := .tuple #[.slice none 0 0, .int .i64 4]) (by simp [results, Tryz.results5, go_sem]) rfl ⟨.slice none 0 0, by rw [HR.out], by rw [HR.out]; exact NodeIn.nil _ _ _, HB2.out⟩
      | nil =>
        have HRO := Lib.hid (HOR.out o HX.out)
        have HV2 := Lib.hid hown.view.any
        have HCK := Lib.hid (scheck_any 1001 (.slice oa o.length oc) o w2 hown.view.any (by omega) (by omega) j1)
        have HOF := Lib.hid (fun W h => of_any 1001 (.slice oa o.length oc) o W h (by omega) j1)
        simp only [List.length_nil]
        clear hown hq HX i2 j1 HOR HRD i1 hdc
        go_wp2_with fail
        refine HCK.out.mono ?_
        rintro e w3 ⟨rfl, hb3⟩
        have HB3 := Lib.hid (HB2.out.trans (hb3.mono HB2.out.size))
        have HV3 := Lib.hid (HV2.out.older (.of_below hb3))
        clear hb3
        generalize checkS o = x at *
        by_cases hx0 : x = 0
        · subst hx0
          have HOF3 := Lib.hid (HOF.out w3 HV3.out)
          go_wp2_with fail
          refine HOF3.out.mono ?_
          rintro e w4 ⟨rfl, hb4⟩
          have HB4 := Lib.hid (HB3.out.trans (hb4.mono HB3.out.size))
          have HV4 := Lib.hid (HV3.out.older (.of_below hb4))
          clear hb4
          by_cases hS : ofL o = S
          · have HR := Lib.hid (show readS S = (o, 0) by rw [HRO.out]; simp [hS])
            rw [hS]
            clear hS
            have s1 : ((mk S).toList == (mk S).toList) = true := beq_self_eq_true _
            go_wp2_with fail
            exact bodyPost_ret (v := .tuple #[.slice oa o.length oc, .int .i64 0]) (by simp [results, Tryz.results5, go_sem]) rfl ⟨.slice oa o.length oc, by rw [HR.out], by rw [HR.out]; exact HV4.out, HB4.out⟩
          · have HR := Lib.hid (show readS S = ([], 4) by rw [HRO.out, if_neg (fun h => hS h.2)])
            have f1 : ((mk (ofL o)).toList == (mk S).toList) = false := by rw [toList_mk, toList_mk]; exact beq_eq_false_iff_ne.2 hS
            have f2 : ¬ (mk (ofL o)).toList = (mk S).toList := by rw [toList_mk, toList_mk]; exact hS
            clear hS
            go_wp2_with fail
            exact bodyPost_ret (v := .tuple #[.slice none 0 0, .int .i64 4]) (by simp [results, Tryz.results5, go_sem]) rfl ⟨.slice none 0 0, by rw [HR.out], by rw [HR.out]; exact NodeIn.nil _ _ _, HB4.out⟩
        · have x1 : (x == 0) = false := beq_eq_false_iff_ne.2 hx0
          have x2 : (x != 0) = true := by rw [bne_iff_ne]; exact hx0
          have HR := Lib.hid (show readS S = ([], 4) by rw [HRO.out, if_neg (fun h => hx0 h.1)])
          go_wp2_with fail
          exact bodyPost_ret (v := .tuple #[.slice none 0 0, .int .i64 4]) (by simp [results, Tryz.results5, go_sem]) rfl ⟨.slice none 0 0, by rw [HR.out], by rw [HR.out]; exact NodeIn.nil _ _ _, HB3.out⟩

end Go.Proofs.YtjkgmdnkejjppaaGreatDoor
