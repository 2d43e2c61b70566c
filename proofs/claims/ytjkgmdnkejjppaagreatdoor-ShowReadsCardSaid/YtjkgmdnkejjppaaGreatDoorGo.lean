/- Joined texts: HWalkC. -/
import Derived.Test.YtjkgmdnkejjppaaGreatDoorGn
/- Walk of show: nodes of tokens. -/
namespace Go.Proofs.YtjkgmdnkejjppaaGreatDoor
open Go Go.RowKit

/-- Tokens as a part of a row, from some place on. -/
def TokSub (w : World) (v : Value) (l : List TTok) : Prop :=
  (∃ a e, v = .slice a l.length (l.length + e)) ∧ ∀ i t, l[i]? = some t → ∃ g o e va, v = .slice (some ⟨g, o, none⟩) l.length (l.length + e) ∧ (∃ cs, w.heap[g]? = some (.cells cs 70 (0, 0))) ∧
    (w.cell? ⟨g, o + i * 5, none⟩ = some (.int .i64 t.kind) ∧ w.cell? ⟨g, o + i * 5 + 1, none⟩ = some (.string (mk t.name)) ∧ w.cell? ⟨g, o + i * 5 + 2, none⟩ = some va ∧ w.cell? ⟨g, o + i * 5 + 3, none⟩ = some (.bool t.self) ∧ w.cell? ⟨g, o + i * 5 + 4, none⟩ = some (.string (mk t.text))) ∧
    AttrView w va t.attrs
theorem TokView.sub {w : World} {v : Value} {l : List TTok} (h : TokView w v l) : TokSub w v l := by
  obtain ⟨a, cap, hf⟩ := h.form
  have hcap2 : l.length ≤ cap := by
    cases l with
    | nil => exact Nat.zero_le _
    | cons t r =>
      obtain ⟨g, c, va, h1, h2, _⟩ := h.get 0 t rfl
      rw [hf] at h1
      cases h1
      exact h2
  obtain ⟨ps, rfl, -, hp⟩ := h
  refine ⟨⟨a, cap - (ps.map Prod.fst).length, by rw [hf]; congr 1; omega⟩, fun i t hi => ?_⟩
  rw [List.getElem?_map] at hi
  obtain ⟨p, hpi, rfl⟩ := Option.map_eq_some_iff.1 hi
  obtain ⟨g, c, h1, h2, _, h3, h4, h5⟩ := hp i p hpi
  refine ⟨g, 0, c - (ps.map Prod.fst).length, p.2, by rw [h1]; congr 1; omega, h3, ?_, h5⟩
  rw [Nat.zero_add]
  exact ⟨h4.kind, h4.name, h4.attrs, h4.self, h4.text⟩
theorem TokSub.form {w : World} {v : Value} {l : List TTok} (h : TokSub w v l) : ∃ a e, v = .slice a l.length (l.length + e) := h.1
theorem TokSub.stay {w w' : World} {v : Value} {l : List TTok} (h : TokSub w v l) (ha : ∀ (g : Nat) (cs : Array Value), w.heap[g]? = some (.cells cs 85 (0, 0)) → w'.heap[g]? = w.heap[g]?) (hk : ∀ (g : Nat) (cs : Array Value), w.heap[g]? = some (.cells cs 70 (0, 0)) → w'.heap[g]? = w.heap[g]?) : TokSub w' v l :=
  ⟨h.1, fun i t hi => by
    obtain ⟨g, o, e, va, h1, ⟨cs, h2⟩, ⟨c0, c1, c2, c3, c4⟩, h4⟩ := h.2 i t hi
    have ee := hk g cs h2
    have c := fun o => World.cell?_of_block (w := w) (w' := w') (a := ⟨g, o, none⟩) ee
    exact ⟨g, o, e, va, h1, ⟨cs, ee.trans h2⟩, ⟨(c _).trans c0, (c _).trans c1, (c _).trans c2, (c _).trans c3, (c _).trans c4⟩, h4.stay ha⟩⟩
theorem TokSub.older {w w' : World} {v : Value} {l : List TTok} (h : TokSub w v l) (hk : Older w w') : TokSub w' v l :=
  h.stay (fun g _ hg => hk.2 g (lt_of_block hg)) fun g _ hg => hk.2 g (lt_of_block hg)
theorem TokSub.head {w : World} {v : Value} {t : TTok} {r : List TTok} (h : TokSub w v (t :: r)) : ∃ g o e va, v = .slice (some ⟨g, o, none⟩) (r.length + 1) (r.length + 1 + e) ∧ g < w.heap.size ∧
    (w.cell? ⟨g, o, none⟩ = some (.int .i64 t.kind) ∧ w.cell? ⟨g, o + 1, none⟩ = some (.string (mk t.name)) ∧ w.cell? ⟨g, o + 2, none⟩ = some va ∧ w.cell? ⟨g, o + 3, none⟩ = some (.bool t.self) ∧ w.cell? ⟨g, o + 4, none⟩ = some (.string (mk t.text))) ∧
    AttrView w va t.attrs ∧ (∀ a, r.length = 0 → TokSub w (.slice a r.length (r.length + e)) r) ∧ TokSub w (.slice (some ⟨g, o + 5, none⟩) r.length (r.length + e)) r := by
  obtain ⟨g, o, e, va, h1, ⟨cs, h2⟩, h3, h4⟩ := h.2 0 t rfl
  rw [Nat.zero_mul, Nat.add_zero] at h3
  refine ⟨g, o, e, va, h1, lt_of_block h2, h3, h4, fun a hr => ⟨⟨_, _, rfl⟩, fun i u hi => by rw [List.eq_nil_of_length_eq_zero hr] at hi; simp at hi⟩, ⟨⟨_, _, rfl⟩, fun i u hi => ?_⟩⟩
  obtain ⟨g', o', e', va', k1, k2, k3, k4⟩ := h.2 (i + 1) u (by simpa using hi)
  rw [h1] at k1
  have hg : g = g' ∧ o = o' := by simp at k1; exact ⟨k1.1.1, k1.1.2⟩
  obtain ⟨rfl, rfl⟩ := hg
  refine ⟨g, o + 5, e, va', rfl, k2, ?_, k4⟩
  have ee : o + 5 + i * 5 = o + (i + 1) * 5 := by omega
  rw [ee]
  exact k3

theorem NodeIn.deeper {P : Nat → Prop} : ∀ {d : Nat} {w : World} {v : Value} {l : List TNode}, NodeIn P d w v l → NodeIn P (d + 1) w v l
  | 0, w, v, l, ⟨h, a, cap, hv⟩ => by subst h; exact ⟨⟨a, cap, hv⟩, fun i t hi => by simp at hi⟩
  | d + 1, w, v, l, h => ⟨h.1, fun i t hi => by
      obtain ⟨g, cap, av, pv, h1, h2, h3, hp, h4, h5, h6, h7⟩ := h.2 i t hi
      exact ⟨g, cap, av, pv, h1, h2, h3, hp, h4, h5, h6, NodeIn.deeper h7⟩⟩
theorem NodeIn.deep {P : Nat → Prop} {d e : Nat} {w : World} {v : Value} {l : List TNode} (h : NodeIn P d w v l) (hd : d ≤ e) : NodeIn P e w v l := by
  induction hd with
  | refl => exact h
  | step _ ih => exact ih.deeper

/-- What a call leaves: the tokens lie in a world of before. -/
def PrsPost (n : Nat) (h w : World) (x : Option (List TNode × List TTok)) (e : Ending) (w' : World) : Prop :=
  Below w.heap.size w w' ∧ match x with
    | none => e = .returned (.tuple #[.slice none 0 0, .slice none 0 0, .bool false])
    | some (o, q) => ∃ ov qv, e = .returned (.tuple #[ov, qv, .bool true]) ∧ NodeOwn n w.heap.size w' ov o ∧ TokSub h qv q
theorem PrsPost.no {n : Nat} {h w w' : World} (hb : Below w.heap.size w w') : PrsPost n h w none (.returned (.tuple #[.slice none 0 0, .slice none 0 0, .bool false])) w' := ⟨hb, rfl⟩
theorem PrsPost.yes {n : Nat} {h w w' : World} {o : List TNode} {q : List TTok} {ov qv : Value} (hb : Below w.heap.size w w') (h1 : NodeOwn n w.heap.size w' ov o) (h2 : TokSub h qv q) : PrsPost n h w (some (o, q)) (.returned (.tuple #[ov, qv, .bool true])) w' := ⟨hb, ov, qv, rfl, h1, h2⟩
/-- A place in memory of four cells: a node that is being made. -/
def NodeBox (w : World) (b : Nat) (n : Bytes) (av pv : Value) : Prop := w.heap[b]? = some (.cells #[.string (mk n), av, .string ⟨#[]⟩, pv] 44 (0, 0))

set_option maxHeartbeats 8000000 in
set_option maxRecDepth 100000 in
theorem snodes_any : ∀ (n : Nat) (v : Value) (l : List TTok) (h w : World), l.length ≤ n → l.length ≤ 1000 → TokSub h v l → Below h.heap.size h w →
    Calls Tryz.prog 15 #[v] w (PrsPost n h w (prsM l)) := by
  intro n
  induction n using Nat.strongRecOn with
  | _ n ih =>
  intro v l h w hn hln hv hhw
  obtain ⟨a, e0, rfl⟩ := hv.form
  have HIH := Lib.hid ih
  have HV := Lib.hid hv
  have HN := Lib.hid hn
  have HH := Lib.hid hhw
  clear ih hv hn hhw
  go_enter Tryz.func15, Tryz.ntmps15
  go_wp2_with fail
  go_loopg [0, 5] l.length (fun g lv ov wx => ∃ (W : World) (cur : List TTok) (o : List TNode), W = wx ∧ cur.length = g ∧ cur.length ≤ l.length ∧ o.length + cur.length ≤ l.length ∧ Hid (TokSub h lv cur) ∧ Hid (NodeOwn n w.heap.size wx ov o) ∧ Hid (Below w.heap.size w wx) ∧ Hid (prsM l = (prsM cur).map fun x => (o ++ x.1, x.2)))
  case atStart => exact ⟨_, l, [], rfl, rfl, by omega, by simp, HV, Lib.hid (NodeOwn.nil _ _ _), Lib.hid (Below.refl _ _), Lib.hid (by cases prsM l <;> rfl)⟩
  case round =>
    obtain ⟨W, cur, o, rfl, hg, hcl, hol, hT, hO, hB, hP⟩ := hrel
    obtain ⟨oa, oc, hof⟩ := hO.out.form
    subst hof
    have HHW := Lib.hid (HH.out.trans (hB.out.mono HH.out.size))
    cases cur with
    | nil =>
      obtain ⟨ca, ce, hcf⟩ := hT.out.form
      subst hcf
      have HR := Lib.hid (show prsM l = some (o, []) by rw [hP.out, prsM_nil]; simp)
      have HTT := Lib.hid (show TokSub h (.slice ca 0 (0 + ce)) [] from hT.out)
      have hg0 : gk = 0 := hg.symm
      subst hg0
      clear hP hT hg hcl hol
      go_wp2_with fail
      exact bodyPost_ret (v := .tuple #[.slice oa o.length oc, .slice ca 0 (0 + ce), .bool true]) (by simp [results, Tryz.results15, go_sem]) rfl (by rw [HR.out]; exact PrsPost.yes hB.out hO.out HTT.out)
    | cons t r =>
      obtain ⟨g, of, ce, va, hcf, hgl, ⟨c0, c1, c2, c3, c4⟩, hav, hT0, hT1⟩ := hT.out.head
      subst hcf
      obtain ⟨⟨aa, ac, haf⟩, -⟩ := id hav
      subst haf
      have hoW := Older.of_below HHW.out
      have c0 := (hoW.cell _ _ hgl).trans c0
      have c1 := (hoW.cell _ _ hgl).trans c1
      have c2 := (hoW.cell _ _ hgl).trans c2
      have c3 := (hoW.cell _ _ hgl).trans c3
      have c4 := (hoW.cell _ _ hgl).trans c4
      have HTT := Lib.hid hT.out
      have HT0 := Lib.hid hT0
      have HT1 := Lib.hid hT1
      have HAV := Lib.hid (hav.older hoW)
      clear hT0 hT1 hav hT hoW
      simp only [List.length_cons] at hg hcl hol
      subst hg
      have r0 : 0 < r.length + 1 := by omega
      by_cases hk2 : t.kind = 2
      · have HR := Lib.hid (show prsM l = some (o, t :: r) by rw [hP.out, prsM_stop t r hk2]; simp)
        rw [hk2] at c0
        clear hk2 hP
        go_wp2_with fail
        exact bodyPost_ret (v := .tuple #[.slice oa o.length oc, .slice (some ⟨g, of, none⟩) (r.length + 1) (r.length + 1 + ce), .bool true]) (by simp [results, Tryz.results15, go_sem]) rfl (by rw [HR.out]; exact PrsPost.yes hB.out hO.out HTT.out)
      · have e2 : (t.kind == 2) = false := beq_eq_false_iff_ne.2 hk2
        have e2' : (t.kind != 2) = true := by rw [bne_iff_ne]; exact hk2
        have HK2 := Lib.hid hk2
        obtain ⟨w1, hw1⟩ : ∃ w1, w1 = W.alloc (.cells #[.int .i64 t.kind, .string (mk t.name), .slice aa t.attrs.length ac, .bool t.self, .string (mk t.text)] 70) := ⟨_, rfl⟩
        have hb1 : Below W.heap.size W w1 := by rw [hw1]; exact (Below.refl _ _).alloc (Nat.le_refl _) _
        have hbox : TokBox w1 W.heap.size t (.slice aa t.attrs.length ac) := by rw [hw1]; exact heap_alloc_new _ _
        have HBOX := Lib.hid hbox
        have HB1 := Lib.hid hb1
        have HW1 := Lib.hid hw1
        clear hk2 hb1 hbox hw1
        go_upto_region 4 with fail
        rw [← HW1.out]
        go_cut [0] (fun lv wx => ∃ la, lv = .slice la r.length (r.length + ce) ∧ Hid (TokSub h lv r) ∧ wx = w1)
        case first =>
          have q0 : (1 : Int) ≤ ((r.length + 1 : Nat) : Int) := by omega
          have q1 : (1 : Int) ≤ ((r.length + 1 + ce : Nat) : Int) := by omega
          go_wp2_with fail
          · go_meet
            case rel => exact ⟨_, rfl, Lib.hid (HT0.out _ (by omega)), rfl⟩
          · go_meet
            case rel => exact ⟨_, rfl, HT1, rfl⟩
        case rest =>
          obtain ⟨la, rfl, HTR, rfl⟩ := hcut
          clear c0 c1 c2 c3 c4 HTT HT0 HT1 hgl r0 e2'
          obtain ⟨c0, c1, c2, c3, c4, cz⟩ := HBOX.out.cells
          have HO1 := Lib.hid (hO.out.older (.of_below HB1.out))
          have HBW := Lib.hid (hB.out.trans (HB1.out.mono hB.out.size))
          have HAV1 := Lib.hid (HAV.out.older (.of_below HB1.out))
          have hBz := HBW.out.size
          have hol2 : o.length ≤ 1000000 := by omega
          by_cases hk3 : t.kind = 3
          · rw [hk3] at c0
            have HNX := Lib.hid (show prsM l = (prsM r).map fun x => ((o ++ [tText t.text]) ++ x.1, x.2) by rw [hP.out, prsM_chars t r hk3, Option.map_map]; congr 1; funext x; simp)
            clear hk3 hP
            go_wp2_with (at_builtin; go_must (refine wpList_pushNode (by rfl) (.tmp 69) (.tmp 73) (by rfl) n w.heap.size _ o (tText t.text) (.slice none 0 0) (.slice none 0 0) wc _ (by rfl) (by rfl) HO1.out (attrView_nil _) (NodeIn.nil _ _ _) wc.heap.size rfl (by rfl) hol2 hBz ?_); intro v' w' hown' hbl'; have HOW := Lib.hid hown'; have HBL := Lib.hid (HBW.out.trans hbl'); clear hown' hbl')
            go_roundg r.length
            case measure => omega
            case rel => exact ⟨_, r, _, rfl, rfl, by omega, by rw [List.length_append, List.length_singleton]; omega, HTR, HOW, HBL, HNX⟩
          · have e3 : (t.kind == 3) = false := beq_eq_false_iff_ne.2 hk3
            by_cases hk1 : t.kind = 1
            · cases hs : t.self with
              | true =>
                have HR := Lib.hid (show prsM l = none by rw [hP.out, prsM_bad t r HK2.out hk3 (.inr hs)]; rfl)
                rw [hs] at c3
                rw [hk1] at c0
                clear hs hk1 hk3 hP e2 e3
                go_wp2_with fail
                exact bodyPost_ret (v := .tuple #[.slice none 0 0, .slice none 0 0, .bool false]) (by simp [results, Tryz.results15, go_sem]) rfl (by rw [HR.out]; exact PrsPost.no HBW.out)
              | false =>
                rw [hs] at c3
                rw [hk1] at c0
                have HVOID := Lib.hid (fun hv => prsM_void t r hk1 hs hv)
                have HELEM := Lib.hid (fun hv => prsM_elem t r hk1 hs hv)
                clear hs hk1 hk3 e2 e3
                obtain ⟨w2, hw2⟩ : ∃ w2, w2 = wc.alloc (.cells #[.string (mk t.name), .slice aa t.attrs.length ac, .string ⟨#[]⟩, .slice none 0 0] 44) := ⟨_, rfl⟩
                have hb2 : Below wc.heap.size wc w2 := by rw [hw2]; exact (Below.refl _ _).alloc (Nat.le_refl _) _
                have hN2 : NodeBox w2 wc.heap.size t.name (.slice aa t.attrs.length ac) (.slice none 0 0) := by rw [hw2]; exact heap_alloc_new _ _
                have HN2 := Lib.hid hN2
                have HB2 := Lib.hid hb2
                have HW2 := Lib.hid hw2
                have hcz2 := Nat.lt_of_lt_of_le cz hb2.size
                have hbx := lt_of_block hN2
                have d1 := (hb2.cell (p := ⟨W.heap.size, 1, none⟩) cz).trans c1
                have HVO := Lib.hid (void_any t.name w2)
                clear hw2 hb2 hN2
                go_upto_region 6 with fail
                rw [← HW2.out]
                clear c0 c1 c2 c3 c4
                go_wp2_with fail
                refine HVO.out.mono ?_
                rintro e w3 ⟨rfl, hb3⟩
                have o3 := Older.of_below hb3
                have HO3 := Lib.hid ((HO1.out.older (.of_below HB2.out)).older o3)
                have HBW3 := Lib.hid ((HBW.out.trans (HB2.out.mono HBW.out.size)).trans (hb3.mono (Nat.le_trans HBW.out.size HB2.out.size)))
                have HAV3 := Lib.hid ((HAV1.out.older (.of_below HB2.out)).older o3)
                have hN3 := (hb3.block _ hbx).trans HN2.out
                have HN3 := Lib.hid (show NodeBox w3 wc.heap.size t.name (.slice aa t.attrs.length ac) (.slice none 0 0) from hN3)
                have hbx3 := lt_of_block hN3
                have d1 := (o3.cell _ _ hcz2).trans d1
                have hcz3 := Nat.lt_of_lt_of_le hcz2 hb3.size
                have m0 : w3.cell? ⟨wc.heap.size, 0, none⟩ = some (.string (mk t.name)) := by rw [Lib.cell_of_heap hN3]; rfl
                have m1 : w3.cell? ⟨wc.heap.size, 1, none⟩ = some (.slice aa t.attrs.length ac) := by rw [Lib.cell_of_heap hN3]; rfl
                have m2 : w3.cell? ⟨wc.heap.size, 2, none⟩ = some (.string ⟨#[]⟩) := by rw [Lib.cell_of_heap hN3]; rfl
                have m3 : w3.cell? ⟨wc.heap.size, 3, none⟩ = some (.slice none 0 0) := by rw [Lib.cell_of_heap hN3]; rfl
                have hBz3 := HBW3.out.size
                have HB3X := Lib.hid hb3
                clear hb3 o3 hN3
                cases hv : isVoid t.name with
                | true =>
                  have HNX := Lib.hid (show prsM l = (prsM r).map fun x => ((o ++ [tElem t.name t.attrs []]) ++ x.1, x.2) by rw [hP.out, HVOID.out hv, Option.map_map]; congr 1; funext x; simp)
                  clear hv hP
                  go_wp2_with (at_builtin; go_must (refine wpList_pushNode (by rfl) (.tmp 61) (.tmp 63) (by rfl) n w.heap.size _ o (tElem t.name t.attrs []) (.slice aa t.attrs.length ac) (.slice none 0 0) w3 _ (by rfl) (by rfl) HO3.out HAV3.out (NodeIn.nil _ _ _) w3.heap.size rfl (by rfl) hol2 hBz3 ?_); intro v' w' hown' hbl'; have HOW := Lib.hid hown'; have HBL := Lib.hid (HBW3.out.trans hbl'); clear hown' hbl')
                  go_roundg r.length
                  case measure => omega
                  case rel => exact ⟨_, r, _, rfl, rfl, by omega, by rw [List.length_append, List.length_singleton]; omega, HTR, HOW, HBL, HNX⟩
                | false =>
                  have HEL := Lib.hid (HELEM.out hv)
                  have hn0 := HN.out
                  have HC3 := Lib.hid (HIH.out (n - 1) (by omega) (.slice la r.length (r.length + ce)) r h w3 (by omega) (by omega) HTR.out (HH.out.trans (HBW3.out.mono HH.out.size)))
                  obtain ⟨x, hx⟩ : ∃ x, prsM r = x := ⟨_, rfl⟩
                  have HX := Lib.hid hx
                  rw [hx] at HC3 HEL
                  clear hv hx hn0 m0 m1 m2
                  go_wp2_with fail
                  refine HC3.out.mono ?_
                  rintro e w4 ⟨hb4, hp⟩
                  have HB4 := Lib.hid (HBW3.out.trans (hb4.mono HBW3.out.size))
                  have HH4 := Lib.hid (HH.out.trans (HB4.out.mono HH.out.size))
                  have o4 := Older.of_below hb4
                  have d1 := (o4.cell _ _ hcz3).trans d1
                  have HO4 := Lib.hid o4
                  have HBX4 := Lib.hid hb4
                  have hN4 := (hb4.block _ hbx3).trans HN3.out
                  have HN4 := Lib.hid hN4
                  clear hb4 o4 hN4 m3
                  cases x with
                  | none =>
                    have hp' : e = .returned (.tuple #[.slice none 0 0, .slice none 0 0, .bool false]) := hp
                    subst hp'
                    have HR := Lib.hid (show prsM l = none by rw [hP.out, HEL.out]; rfl)
                    clear hp hP
                    go_wp2_with fail
                    go_quiet (fail)
                    go_wp2_with fail
                    exact bodyPost_ret (v := .tuple #[.slice none 0 0, .slice none 0 0, .bool false]) (by simp [results, Tryz.results15, go_sem]) rfl (by rw [HR.out]; exact PrsPost.no ⟨HB4.out.os, HB4.out.tape, HB4.out.output, HB4.out.size, HB4.out.block⟩)
                  | some y =>
                    obtain ⟨ps, q⟩ := y
                    obtain ⟨ov, qv, rfl, hown, hq⟩ := hp
                    obtain ⟨pa, pc, hpf⟩ := hown.form
                    subst hpf
                    have HOWN := Lib.hid hown
                    cases q with
                    | nil =>
                      obtain ⟨qa, qe, hqf⟩ := hq.form
                      subst hqf
                      have HR := Lib.hid (show prsM l = none by rw [hP.out, HEL.out]; rfl)
                      clear hP hq hown
                      simp only [List.length_nil]
                      go_wp2_with fail
                      go_quiet (fail)
                      go_wp2_with fail
                      exact bodyPost_ret (v := .tuple #[.slice none 0 0, .slice none 0 0, .bool false]) (by simp [results, Tryz.results15, go_sem]) rfl (by rw [HR.out]; exact PrsPost.no ⟨HB4.out.os, HB4.out.tape, HB4.out.output, HB4.out.size, HB4.out.block⟩)
                    | cons u q2 =>
                      obtain ⟨g2, of2, qe, vu, hqf, hgl2, ⟨-, k1, -, -, -⟩, -, hT0, hT1⟩ := hq.head
                      subst hqf
                      have k1 := ((Older.of_below HH4.out).cell _ _ hgl2).trans k1
                      have HT0 := Lib.hid hT0
                      have HT1 := Lib.hid hT1
                      clear hT0 hT1 hq hown hgl2
                      have r0 : 0 < q2.length + 1 := by omega
                      by_cases hnm : u.name = t.name
                      · rw [hnm] at k1
                        have HNX := Lib.hid (show prsM l = (prsM q2).map fun x => ((o ++ [tElem t.name t.attrs ps]) ++ x.1, x.2) by
                          rw [hP.out, HEL.out]
                          show Option.map _ (if u.name = t.name then _ else none) = _
                          rw [if_pos hnm, Option.map_map]; congr 1; funext x; simp)
                        have hql := prs_len _ r ps (u :: q2) HX.out
                        simp only [List.length_cons] at hql
                        clear hP hnm
                        go_wp2_with fail
                        go_quiet (fail)
                        obtain ⟨w5, hw5⟩ : ∃ w5, w5 = w4.drewN nq := ⟨_, rfl⟩
                        rw [← hw5]
                        have HOD := Lib.hid (show Older w4 w5 by rw [hw5]; exact ⟨Nat.le_refl _, fun _ _ => rfl⟩)
                        have HB5 := Lib.hid (show Below w.heap.size w w5 by rw [hw5]; exact ⟨HB4.out.os, HB4.out.tape, HB4.out.output, HB4.out.size, HB4.out.block⟩)
                        have HN5 := Lib.hid (show NodeBox w5 wc.heap.size t.name (.slice aa t.attrs.length ac) (.slice none 0 0) by rw [hw5]; exact HN4.out)
                        have y1 : w5.cell? ⟨wc.heap.size, 3, none⟩ = some (.slice none 0 0) := by rw [Lib.cell_of_heap HN5.out]; rfl
                        have y2 : w5.frozen? ⟨wc.heap.size, 3, none⟩ = false := Lib.frozen_of_heap HN5.out 3
                        have q0 : (1 : Int) ≤ ((q2.length + 1 : Nat) : Int) := by omega
                        have q1 : (1 : Int) ≤ ((q2.length + 1 + qe : Nat) : Int) := by omega
                        clear k1 d1 hw5
                        go_upto_region 10 with fail
                        go_region
                        have HTA := Lib.hid (show TokSub h (.slice (if q2.length + 1 + qe = 1 then some ⟨g2, of2, none⟩ else some ⟨g2, of2 + 5, none⟩) q2.length (q2.length + qe)) q2 by
                          split
                          · exact HT0.out _ (by omega)
                          · exact HT1.out)
                        generalize (if q2.length + 1 + qe = 1 then (some ⟨g2, of2, none⟩ : Option Addr) else some ⟨g2, of2 + 5, none⟩) = A at *
                        go_upto_region 11 with fail
                        obtain ⟨w6, hw6⟩ : ∃ w6, w6 = (w5.setCell ⟨wc.heap.size, 3, none⟩ (.slice pa ps.length pc)).drew := ⟨_, rfl⟩
                        rw [← hw6]
                        have hN6 : NodeBox w6 wc.heap.size t.name (.slice aa t.attrs.length ac) (.slice pa ps.length pc) := by
                          have hx := HN5.out
                          unfold NodeBox at hx ⊢
                          rw [hw6]
                          show ((w5.setCell _ _).heap[_]? = _)
                          simp [World.setCell, Array.getElem?_modify, hx]
                        have h56 : ∀ k, k ≠ wc.heap.size → w6.heap[k]? = w5.heap[k]? := fun k hk => by
                          rw [hw6]
                          exact Below.heap_setCell w5 _ _ _ hk
                        have hb6 : Below w.heap.size w w6 := by rw [hw6]; exact (HB5.out.setCell (p := ⟨wc.heap.size, 3, none⟩) hBz _).drew
                        have hz2 := HB2.out.size
                        have hz3 := HB3X.out.size
                        have hz4 := HBX4.out.size
                        have hz5 := HOD.out.1
                        have hz6 : w5.heap.size ≤ w6.heap.size := by rw [hw6]; simp [World.setCell]
                        have ho6 : Older wc w6 := ⟨by omega, fun k hk => by
                          rw [h56 k (by omega), HOD.out.2 k (by omega), HBX4.out.block k (by omega), HB3X.out.block k (by omega), HB2.out.block k hk]⟩
                        have hv6 : NodeIn (fun g => w.heap.size ≤ g ∧ (Value.slice oa o.length oc).ownBlock ≠ some g) n w6 (.slice pa ps.length pc) ps := by
                          have hv5 := (HOWN.out.view.older HOD.out).deep (show n - 1 + 1 ≤ n by have := HN.out; omega)
                          refine hv5.stay (fun g cs hg => h56 g (type_ne hg HN5.out (by decide))) fun g cs hp hg => ⟨⟨?_, fun e => ?_⟩, h56 g (by have hp' : w3.heap.size ≤ g := hp; omega)⟩
                          · have hp' : w3.heap.size ≤ g := hp
                            omega
                          · have hp' : w3.heap.size ≤ g := hp
                            have := HO1.out.block e; omega
                        have HV6 := Lib.hid hv6
                        have HO6 := Lib.hid (HO1.out.older ho6)
                        have HA6 := Lib.hid (HAV1.out.older ho6)
                        have HB6 := Lib.hid hb6
                        have m0 : w6.cell? ⟨wc.heap.size, 0, none⟩ = some (.string (mk t.name)) := by rw [Lib.cell_of_heap hN6]; rfl
                        have m1 : w6.cell? ⟨wc.heap.size, 1, none⟩ = some (.slice aa t.attrs.length ac) := by rw [Lib.cell_of_heap hN6]; rfl
                        have m2 : w6.cell? ⟨wc.heap.size, 2, none⟩ = some (.string ⟨#[]⟩) := by rw [Lib.cell_of_heap hN6]; rfl
                        have m3 : w6.cell? ⟨wc.heap.size, 3, none⟩ = some (.slice pa ps.length pc) := by rw [Lib.cell_of_heap hN6]; rfl
                        have hBz6 := hb6.size
                        clear hw6 hN6 h56 hb6 ho6 hv6 y1 y2 hz2 hz3 hz4 hz5 hz6
                        go_wp2_with (at_builtin; go_must (refine wpList_pushNode (by rfl) (.tmp 61) (.tmp 63) (by rfl) n w.heap.size _ o (tElem t.name t.attrs ps) (.slice aa t.attrs.length ac) (.slice pa ps.length pc) w6 _ (by rfl) (by rfl) HO6.out HA6.out HV6.out w6.heap.size rfl (by rfl) hol2 hBz6 ?_); intro v' w' hown' hbl'; have HOW := Lib.hid hown'; have HBL := Lib.hid (HB6.out.trans hbl'); clear hown' hbl')
                        go_roundg q2.length
                        case measure => omega
                        case rel => exact ⟨_, q2, _, rfl, rfl, by omega, by rw [List.length_append, List.length_singleton]; omega, HTA, HOW, HBL, HNX⟩
                      · have HR := Lib.hid (show prsM l = none by rw [hP.out, HEL.out]; show Option.map _ (if u.name = t.name then _ else none) = none; rw [if_neg hnm]; rfl)
                        have f1 : ((mk u.name).toList == (mk t.name).toList) = false := by rw [toList_mk, toList_mk]; exact beq_eq_false_iff_ne.2 hnm
                        have f2 : ¬ (mk u.name).toList = (mk t.name).toList := by rw [toList_mk, toList_mk]; exact hnm
                        clear hP hnm
                        go_wp2_with fail
                        go_quiet (fail)
                        go_wp2_with fail
                        exact bodyPost_ret (v := .tuple #[.slice none 0 0, .slice none 0 0, .bool false]) (by simp [results, Tryz.results15, go_sem]) rfl (by rw [HR.out]; exact PrsPost.no ⟨HB4.out.os, HB4.out.tape, HB4.out.output, HB4.out.size, HB4.out.block⟩)
            · have HR := Lib.hid (show prsM l = none by rw [hP.out, prsM_bad t r HK2.out hk3 (.inl hk1)]; rfl)
              have e1 : (t.kind == 1) = false := beq_eq_false_iff_ne.2 hk1
              have e1' : (t.kind != 1) = true := by rw [bne_iff_ne]; exact hk1
              clear hP hk1 hk3
              go_wp2_with fail
              exact bodyPost_ret (v := .tuple #[.slice none 0 0, .slice none 0 0, .bool false]) (by simp [results, Tryz.results15, go_sem]) rfl (by rw [HR.out]; exact PrsPost.no HBW.out)

end Go.Proofs.YtjkgmdnkejjppaaGreatDoor
