/- Walks of the keep's helper hasClosing and of the row's function: ShowBuilt. -/
import Derived.Test.YtemomhanchiipaaGreatDoorGq
import Derived.Test.YtemomhanchiipaaGreatDoorGk
namespace Go.Proofs.YtemomhanchiipaaGreatDoor
open Go Go.RowKit

theorem closesL_append : ∀ (a b : List TNode), closesL (a ++ b) = (closesL a || closesL b)
  | [], b => by rw [closesL]; rfl
  | t :: a, b => by rw [List.cons_append, closesL, closesL, closesL_append a b, Bool.or_assoc]
theorem closesN_of (t : TNode) : closesN t = (t.name == nP || t.name == nUl || closesL t.parts) := by cases t; rw [closesN]; rfl
theorem closes_step {l : List TNode} {k : Nat} {t : TNode} (h : l[k]? = some t) (h0 : closesL (l.take k) = false) : closesL (l.take (k + 1)) = (t.name == nP || t.name == nUl || closesL t.parts) := by
  rw [List.take_add_one, h, closesL_append, h0, Bool.false_or]
  show closesL [t] = _
  rw [closesL, closesL, Bool.or_false, closesN_of]
theorem closes_hit {l : List TNode} {k : Nat} (h : closesL (l.take k) = true) : closesL l = true := by
  have h1 : closesL l = (closesL (l.take k) || closesL (l.drop k)) := by rw [← closesL_append, List.take_append_drop]
  rw [h1, h]; rfl

set_option maxHeartbeats 4000000 in
set_option maxRecDepth 100000 in
theorem hasClosing_any : ∀ (d : Nat) (v : Value) (l : List TNode) (w : World), NodeView d w v l → countL l ≤ 1000000 →
    Calls Tryz.prog 33 #[v] w fun e w' => e = .returned (.bool (closesL l)) ∧ w = w' := by
  intro d
  induction d using Nat.strongRecOn with
  | _ d ih =>
  intro v l w hv hct
  obtain ⟨a, cap, rfl⟩ := hv.form
  have hln := Nat.le_trans (len_countL l) hct
  have HIH := Lib.hid ih
  have HV := Lib.hid hv
  have HCT := Lib.hid hct
  clear ih hv hct
  go_enter Tryz.func33, Tryz.ntmps33
  go_wp2_with fail
  go_loop [3] (fun i => ∃ k : Nat, k ≤ l.length ∧ i = .int .i64 k ∧ Hid (closesL (l.take k) = false)) (fun i => l.length - (intOf i).toNat)
  case atStart => exact ⟨0, by omega, rfl, Lib.hid (by rw [List.take_zero, closesL])⟩
  case round =>
    obtain ⟨k, hk, rfl, hF⟩ := hrel
    by_cases hlt : k < l.length
    · obtain ⟨t, ht⟩ : ∃ t, l[k]? = some t := ⟨_, List.getElem?_eq_getElem hlt⟩
      obtain ⟨d', hd', g, c, av, pv, hf, hc1, hc2, hg, hat, hav, hpv⟩ := HV.out.get k t ht
      obtain rfl : a = some ⟨g, 0, none⟩ := by simp at hf; exact hf.1
      obtain ⟨a1, a2, a3, a4⟩ := hat
      obtain ⟨pa, pc, hpf⟩ := hpv.form
      subst hpf
      have h3 := countN_mem (List.mem_of_getElem? ht)
      rw [countN_of] at h3
      have HCALL := Lib.hid (HIH.out d' (by omega) (.slice pa t.parts.length pc) t.parts w hpv (by have := HCT.out; omega))
      have HST := Lib.hid (closes_step ht hF.out)
      have HHIT := Lib.hid (@closes_hit l (k + 1))
      have k0 : (0 : Int) ≤ k := by omega
      have k1 : (k : Int) < l.length := by omega
      clear hf hpv hav ht h3 a2 a3 hd'
      by_cases n1 : t.name = nP
      · rw [n1] at a1
        have a1' : w.cell? ⟨g, k * 4, none⟩ = some (.string ⟨#[112]⟩) := a1
        have HR := Lib.hid (HHIT.out (by rw [HST.out, n1]; rfl))
        clear n1 a1
        go_wp2_with fail
        go_ret
        exact ⟨by rw [HR.out]; rfl, rfl⟩
      by_cases n2 : t.name = nUl
      · rw [n2] at a1
        have a1' : w.cell? ⟨g, k * 4, none⟩ = some (.string ⟨#[117, 108]⟩) := a1
        have HR := Lib.hid (HHIT.out (by rw [HST.out, n2]; rfl))
        clear n1 n2 a1
        go_wp2_with fail
        go_ret
        exact ⟨by rw [HR.out]; rfl, rfl⟩
      have f1 := sBeqF n1
      have f2 := sBeqF n2
      have f1' := sEqF n1
      have f2' := sEqF n2
      unfold nP at f1 f1'
      unfold nUl at f2 f2'
      have HST2 := Lib.hid (show closesL (l.take (k + 1)) = closesL t.parts by rw [HST.out, beq_eq_false_iff_ne.2 n1, beq_eq_false_iff_ne.2 n2]; rfl)
      clear n1 n2 HST
      cases hc : closesL t.parts with
      | true =>
        have HR := Lib.hid (HHIT.out (by rw [HST2.out, hc]))
        rw [hc] at HCALL
        clear hc
        go_wp2_with fail
        refine HCALL.out.mono ?_
        rintro e w' ⟨rfl, hw⟩
        rw [← hw]
        clear hw
        go_wp2_with fail
        go_ret
        exact ⟨by rw [HR.out]; rfl, rfl⟩
      | false =>
        have HR := Lib.hid (show closesL (l.take (k + 1)) = false by rw [HST2.out, hc])
        rw [hc] at HCALL
        clear hc
        go_wp2_with fail
        refine HCALL.out.mono ?_
        rintro e w' ⟨rfl, hw⟩
        rw [← hw]
        clear hw
        go_wp2_with fail
        go_round
        case rel => exact ⟨k + 1, by omega, by go_num, HR⟩
        case measure => simp [intOf]; omega
    · obtain rfl : k = l.length := by omega
      have HR := Lib.hid (show closesL l = false by have h := hF.out; rw [List.take_length] at h; exact h)
      go_wp2_with fail
      go_ret
      exact ⟨by rw [HR.out]; rfl, rfl⟩

/- Tokens of a tree that is drawn. -/
def TkOk (u : TTok) : Prop := (u.kind = 1 ∨ u.kind = 2 ∨ u.kind = 3 ∨ u.kind = 4) ∧ (u.kind = 1 → u.name ≠ []) ∧ u.attrs.length ≤ 1000000 ∧ u.text.length ≤ 10
theorem tkL_mem : ∀ (l : List TNode) (Q : TTok → Prop), (∀ t ∈ l, ∀ u ∈ tkN t, Q u) → ∀ u ∈ tkL l, Q u
  | [], Q, _, u, hu => by rw [tkL] at hu; cases hu
  | t :: l, Q, h, u, hu => by
    rw [tkL] at hu
    rcases List.mem_append.1 hu with hu | hu
    · exact h t (by simp) u hu
    · exact tkL_mem l Q (fun x hx => h x (by simp [hx])) u hu
theorem good_tk : ∀ (d : Nat) (l : List TNode), GoodL d l → ∀ u ∈ tkL l, TkOk u
  | 0, l, h => by cases (show l = [] from h); rw [tkL]; intro u hu; cases hu
  | d + 1, l, h => by
    obtain ⟨h1, h2, h3⟩ := h
    refine tkL_mem l TkOk fun t ht u hu => ?_
    rcases h3 t ht with ⟨x, hx, rfl⟩ | ⟨n, hn, rfl⟩ | ⟨n, a, ps, hn, hga, hps, rfl⟩
    · unfold tText at hu
      rw [tkN, if_pos rfl] at hu
      cases List.mem_singleton.1 hu
      exact ⟨.inr (.inr (.inl rfl)), fun h => (by cases h), by show 0 ≤ 1000000; omega, (txts6_ok x hx).2⟩
    · obtain ⟨_, _, k3, _⟩ := voids2_ok n hn
      have hv : ∀ n ∈ voids2, isVoid n = true := by decide
      unfold tElem at hu
      rw [tkN, if_neg k3, if_pos (hv n hn)] at hu
      cases List.mem_singleton.1 hu
      exact ⟨.inl rfl, fun _ => k3, by show 0 ≤ 1000000; omega, by show 0 ≤ 10; omega⟩
    · obtain ⟨_, _, k3, k4, _⟩ := elems6_ok n hn
      unfold tElem at hu
      rw [tkN, if_neg k4, if_neg (by rw [k3]; simp)] at hu
      have hal := (goodA_ok hga).2.1
      rcases List.mem_cons.1 hu with rfl | hu
      · exact ⟨.inl rfl, fun _ => k4, by show a.length ≤ 1000000; omega, by show 0 ≤ 10; omega⟩
      · rcases List.mem_append.1 hu with hu | hu
        · exact good_tk d ps hps u hu
        · cases List.mem_singleton.1 hu
          exact ⟨.inr (.inl rfl), fun h => (by cases h), by show 0 ≤ 1000000; omega, by show 0 ≤ 10; omega⟩
theorem textSum_cap (m : Nat) : ∀ l : List TTok, (∀ u ∈ l, u.text.length ≤ m) → textSum l ≤ l.length * m
  | [], _ => Nat.zero_le _
  | t :: l, h => by
    have h1 := h t (by simp)
    have h2 := textSum_cap m l fun u hu => h u (by simp [hu])
    have e : textSum (t :: l) = t.text.length + textSum l := rfl
    rw [e, List.length_cons, Nat.add_mul]; omega
theorem good_build (l : List TNode) (h : GoodL 4 l) (hc : closesL l = false) (hk : countL l ≤ 150) : BuildOk (tkL l) ∧ buildM (tkL l) = l := by
  have hf := good_fault 4 l 0 h (by decide)
  obtain ⟨b1, b2⟩ := build_tk l hf (good_calm 4 l h hc)
  have hm := good_tk 4 l h
  have hl := tkL_len l
  have ht := textSum_cap 10 (tkL l) fun u hu => (hm u hu).2.2.2
  exact ⟨⟨by omega, fun t ht => (hm t ht).1, fun t ht => (hm t ht).2.1, by rw [b2]; exact hk, fun t ht => (hm t ht).2.2.1, by omega⟩, b1⟩

/-- A node with a text, or with none, laid. -/
theorem oneNode (w : World) (x : Bytes) (d : Nat) : NodeView (d + 1) (w.alloc (.cells #[.string ⟨#[]⟩, .slice none 0 0, .string (mk x), .slice none 0 0] 35)) (.slice (some ⟨w.heap.size, 0, none⟩) 1 1) [tText x] := by
  have h := heap_alloc_new w (.cells #[.string ⟨#[]⟩, .slice none 0 0, .string (mk x), .slice none 0 0] 35)
  refine ⟨⟨_, _, rfl⟩, fun i t hi => ?_⟩
  cases i with
  | succ i => simp at hi
  | zero =>
    cases hi
    exact ⟨_, 1, .slice none 0 0, .slice none 0 0, rfl, Nat.le_refl _, by unfold maxLen; omega, trivial, ⟨_, h⟩, ⟨by rw [Lib.cell_of_heap h]; rfl, by rw [Lib.cell_of_heap h]; rfl, by rw [Lib.cell_of_heap h]; rfl, by rw [Lib.cell_of_heap h]; rfl⟩, attrView_nil _, NodeIn.nil _ _ _⟩
theorem oneSz (x : Bytes) (h : x.length ≤ 1000) : SzL [tText x] := SzL.of fun t ht => by cases List.mem_singleton.1 ht; exact szN_text x h

set_option maxHeartbeats 4000000 in
set_option maxRecDepth 100000 in
theorem showBuilt_any (v1 : Value) (l : List Int) (w : World) (hg : Glob w) (htb : Tabs w) (h1 : IntSub w v1 l) :
    Calls Tryz.prog 10 #[v1] w fun e w' => e = .returned (.bool true) ∧ Below w.heap.size w w' := by
  have HG := Lib.hid hg
  have HT := Lib.hid htb
  have HK := Lib.hid (knodes_any 3 v1 l 6 4 w w (by decide) (by decide) (by decide) h1 (Below.refl _ _))
  clear hg h1 htb
  go_enter Tryz.func10, Tryz.ntmps10
  go_wp2_with fail
  refine HK.out.mono ?_
  rintro e w1 ⟨hb1, ov, qv, o, q, rfl, hown, hgd, hol, hq, hql⟩
  obtain ⟨oa, oc, hof⟩ := hown.form
  subst hof
  obtain ⟨qa, qe, hqf⟩ := hq.form
  subst hqf
  have HB1 := Lib.hid hb1
  have HV1 := Lib.hid hown.view.any
  have hct : countL o ≤ 1554 := good_count 4 o hgd
  have hdc := deep_countL o
  have hsz := good_sz_tree 4 o hgd
  have hft := good_fault 4 o 0 hgd (by decide)
  have HCL := Lib.hid (hasClosing_any 5 (.slice oa o.length oc) o w1 hown.view.any (by omega))
  have HTX := Lib.hid (stext_any 5 (.slice oa o.length oc) o w1 hown.view.any (by omega) (by omega) hsz)
  have HSM := Lib.hid (fun v2 W h1 h2 => sameNodes_any 5 12 (.slice oa o.length oc) v2 o W h1 h2 (by omega) hsz.sm)
  have HGB := Lib.hid (good_build o hgd)
  have HAO := Lib.hid (all_of o hft)
  clear hb1 hown hgd hq hql hct hdc hsz
  cases hcl : closesL o with
  | true =>
    rw [hcl] at HCL
    clear hcl HGB
    obtain ⟨w5, hw5⟩ : ∃ w5, w5 = w1.alloc (.cells #[.string ⟨#[]⟩, .slice none 0 0, .string ⟨#[120]⟩, .slice none 0 0] 35) := ⟨_, rfl⟩
    have hb5 : Below w1.heap.size w1 w5 := by rw [hw5]; exact (Below.refl _ _).alloc (Nat.le_refl _) _
    have HC5 := Lib.hid (scheck_any 1 (.slice (some ⟨w1.heap.size, 0, none⟩) 1 1) [tText [120]] w5 (by rw [hw5]; exact oneNode w1 [120] 0) (by decide) (by decide) (oneSz [120] (by decide)))
    rw [show checkS [tText [120]] = 0 from by decide] at HC5
    have HB5 := Lib.hid (HB1.out.trans (hb5.mono HB1.out.size))
    have HW5 := Lib.hid hw5
    clear hb5 hw5
    go_wp2_with fail
    refine HCL.out.mono ?_
    rintro e w' ⟨rfl, hw⟩
    rw [← hw]
    clear hw
    go_wp2_with fail
    rw [← HW5.out]
    refine HC5.out.mono ?_
    rintro e w6 ⟨rfl, hb6⟩
    have HB6 := Lib.hid (HB5.out.trans (hb6.mono HB5.out.size))
    obtain ⟨w7, hw7⟩ : ∃ w7, w7 = w6.alloc (.cells #[.string ⟨#[]⟩, .slice none 0 0, .string ⟨#[]⟩, .slice none 0 0] 35) := ⟨_, rfl⟩
    have hb7 : Below w6.heap.size w6 w7 := by rw [hw7]; exact (Below.refl _ _).alloc (Nat.le_refl _) _
    have HC7 := Lib.hid (scheck_any 1 (.slice (some ⟨w6.heap.size, 0, none⟩) 1 1) [tText []] w7 (by rw [hw7]; exact oneNode w6 [] 0) (by decide) (by decide) (oneSz [] (by decide)))
    rw [show checkS [tText []] = 4 from by decide] at HC7
    have HB7 := Lib.hid (HB6.out.trans (hb7.mono HB6.out.size))
    have HW7 := Lib.hid hw7
    clear hb6 hb7 hw7
    go_wp2_with fail
    rw [← HW7.out]
    refine HC7.out.mono ?_
    rintro e w8 ⟨rfl, hb8⟩
    have HB8 := Lib.hid (HB7.out.trans (hb8.mono HB7.out.size))
    clear hb8
    go_wp2_with fail
    go_ret
    exact ⟨rfl, HB8.out⟩
  | false =>
    have HGB2 := Lib.hid (fun h => HGB.out hcl h)
    rw [hcl] at HCL
    have htw := textS_ways o
    have HCK := Lib.hid (@checkS_ok o)
    have hck : checkS o = 0 ∨ checkS o = 1 := by
      unfold checkS
      rw [if_neg (by rw [hft]; simp)]
      split
      · exact .inr rfl
      · exact .inl rfl
    clear hcl HGB hft
    generalize hT : textS o = T at *
    obtain ⟨s, k⟩ := T
    clear hT
    go_wp2_with fail
    refine HCL.out.mono ?_
    rintro e w' ⟨rfl, hw⟩
    rw [← hw]
    clear hw
    go_wp2_with fail
    refine HTX.out.mono ?_
    rintro e w2 ⟨rfl, hb2⟩
    have HB2 := Lib.hid (HB1.out.trans (hb2.mono HB1.out.size))
    have HV2 := Lib.hid (HV1.out.older (.of_below hb2))
    clear hb2
    have hk : k = 1 ∨ (k = 0 ∧ checkS o = 0 ∧ s = ofL o ∧ s.length ≤ 600) := by
      rcases htw with ⟨h, h'⟩ | ⟨h, _⟩ | ⟨h, h', h''⟩ <;> cases h
      · rcases hck with hx | hx
        · exact absurd hx h'
        · exact .inl hx
      · exact .inl rfl
      · exact .inr ⟨rfl, h', rfl, h''⟩
    clear htw hck
    rcases hk with rfl | ⟨rfl, hck, rfl, hs6⟩
    · go_wp2_with fail
      go_ret
      exact ⟨rfl, HB2.out⟩
    · obtain ⟨hbo, hbm⟩ := HGB2.out (HCK.out hck).2
      have HPA := Lib.hid (parse_any (mk (ofL o)) w2 (HG.out.below HB2.out HG.out.size) (by rw [mk_size]; exact hs6))
      rw [lst_mk, HAO.out] at HPA
      have HBU := Lib.hid (fun tv W h1 h2 => build_any tv (tkL o) W h1 h2 hbo)
      rw [hbm] at HBU
      clear hck hs6 hbo hbm HTX HGB2 HAO
      generalize ofL o = S at *
      generalize tkL o = K at *
      go_wp2_with fail
      refine HPA.out.mono ?_
      rintro e w3 ⟨tv, rfl, htr, hb3⟩
      have HB3 := Lib.hid (HB2.out.trans (hb3.mono HB2.out.size))
      have HV3 := Lib.hid (HV2.out.older (.of_below hb3))
      have HBU3 := Lib.hid (HBU.out tv w3 (HT.out.below HB3.out HT.out.size) htr.view)
      clear hb3 htr
      go_wp2_with fail
      refine HBU3.out.mono ?_
      rintro e w4 ⟨v2, rfl, hv2, hb4⟩
      have HB4 := Lib.hid (HB3.out.trans (hb4.mono HB3.out.size))
      have HV4 := Lib.hid (HV3.out.older (.of_below hb4))
      obtain ⟨v2a, v2c, hvf⟩ := hv2.form
      subst hvf
      have HBV := Lib.hid hv2.any
      clear hb4 hv2
      obtain ⟨w5, hw5⟩ : ∃ w5, w5 = w4.alloc (.cells #[.string ⟨#[98, 114]⟩, .slice none 0 0, .string ⟨#[]⟩, .slice none 0 0] 35) := ⟨_, rfl⟩
      have hb5 : Below w4.heap.size w4 w5 := by rw [hw5]; exact (Below.refl _ _).alloc (Nat.le_refl _) _
      have HT5 := Lib.hid (stext_any 1 (.slice (some ⟨w4.heap.size, 0, none⟩) 1 1) brTree w5 (by rw [hw5]; exact brView w4 0) (by decide) (by decide) br_sz)
      rw [br_text] at HT5
      have HB5 := Lib.hid (HB4.out.trans (hb5.mono HB4.out.size))
      have HV5 := Lib.hid (HV4.out.older (.of_below hb5))
      have HBV5 := Lib.hid (HBV.out.older (.of_below hb5))
      have HW5 := Lib.hid hw5
      clear hb5 hw5
      go_wp2_with fail
      rw [← HW5.out]
      refine HT5.out.mono ?_
      rintro e w6 ⟨rfl, hb6⟩
      have HB6 := Lib.hid (HB5.out.trans (hb6.mono HB5.out.size))
      have HS6 := Lib.hid (HSM.out _ w6 (HV5.out.older (.of_below hb6)) (HBV5.out.older (.of_below hb6)))
      clear hb6
      rw [show mk [60, 98, 114, 62] = ⟨#[60, 98, 114, 62]⟩ from rfl]
      go_wp2_with fail
      refine HS6.out.mono ?_
      rintro e w7 ⟨rfl, q, rfl⟩
      go_wp2_with fail
      go_ret
      exact ⟨rfl, ⟨HB6.out.os, HB6.out.tape, HB6.out.output, HB6.out.size, HB6.out.block⟩⟩

end Go.Proofs.YtemomhanchiipaaGreatDoor
