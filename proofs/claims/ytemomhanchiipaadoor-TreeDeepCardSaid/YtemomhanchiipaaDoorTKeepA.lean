/- Walks of the keep's readers of trees: words, closedTree, apartTexts; tree.Count. -/
import Derived.Test.YtemomhanchiipaaDoorTWalkE
import Derived.Test.YtemomhanchiipaaDoorTLawG
namespace Go.Proofs.YtemomhanchiipaaDoor
open Go Go.RowKit

set_option maxHeartbeats 1000000 in
set_option maxRecDepth 100000 in
theorem words_any : ∀ (d : Nat) (v : Value) (l : List TNode) (w : World), NodeView d w v l → countL l ≤ 1000000 → (wordsL l).length ≤ 1000000 →
    Calls Tryd.prog 10 #[v] w fun e w' => e = .returned (.string (mk (wordsL l))) ∧ ∃ n, w' = w.drewN n := by
  intro d
  induction d using Nat.strongRecOn with
  | _ d ih =>
  intro v l w hv hct hwl
  obtain ⟨a, cap, rfl⟩ := hv.form
  have hln := Nat.le_trans (len_countL l) hct
  have HIH := Lib.hid ih
  have HV := Lib.hid hv
  have HCT := Lib.hid hct
  have HWL := Lib.hid hwl
  clear ih hv hct hwl
  go_enter Tryd.func10, Tryd.ntmps10
  go_wp2_with fail
  go_loopw [3, 4] (fun s i wr => ∃ (W : World) (k : Nat), W = wr ∧ k ≤ l.length ∧ i = .int .i64 k ∧ s = .string (mk (wordsL (l.take k))) ∧ Hid (∃ n, W = w.drewN n)) (fun _ i _ => l.length - (intOf i).toNat)
  case atStart => exact ⟨_, 0, rfl, by omega, rfl, rfl, Lib.hid ⟨0, rfl⟩⟩
  case round =>
    obtain ⟨W, k, rfl, hk, rfl, rfl, hW⟩ := hrel
    by_cases hlt : k < l.length
    · obtain ⟨t, ht⟩ : ∃ t, l[k]? = some t := ⟨_, List.getElem?_eq_getElem hlt⟩
      have hOl : Older w W := by obtain ⟨n, hn⟩ := hW.out; rw [hn]; exact ⟨Nat.le_refl _, fun _ _ => rfl⟩
      obtain ⟨d', hd', g, c, av, pv, hf, hc1, hc2, hg, hat, hav, hpv⟩ := (HV.out.older hOl).get k t ht
      obtain rfl : a = some ⟨g, 0, none⟩ := by simp at hf; exact hf.1
      obtain ⟨a1, a2, a3, a4⟩ := hat
      obtain ⟨pa, pc, hpf⟩ := hpv.form
      subst hpf
      have h1 := wordsL_take l k t ht
      have h2 := wordsL_take_len l (k + 1)
      have h3 := countN_mem (List.mem_of_getElem? ht)
      rw [countN_of] at h3
      rw [h1, List.length_append, List.length_append] at h2
      have hwz := HWL.out
      have HCALL := Lib.hid (fun n => HIH.out d' (by omega) _ t.parts (W.drewN n) (hpv.older ⟨Nat.le_refl _, fun _ _ => rfl⟩) (by have := HCT.out; omega) (by omega))
      have HTK := Lib.hid h1
      generalize wordsL (l.take k) = D at *
      generalize wordsL t.parts = R at *
      have z1 : (mk D).size ≤ 1000000 := by rw [mk_size]; omega
      have z2 : (mk R).size ≤ 1000000 := by rw [mk_size]; omega
      have z3 : (mk t.text).size ≤ 1000000 := by rw [mk_size]; omega
      have k0 : (0 : Int) ≤ k := by omega
      have k1 : (k : Int) < l.length := by omega
      clear hf hpv hav ht h1 h3 hOl hwz
      go_wp2_with fail
      go_quiet ((go_at_call 10; exact qd (HCALL.out _)))
      have hW2 := Lib.hid (show ∃ n, W.drewN nq = w.drewN n by obtain ⟨n, hn⟩ := hW.out; exact ⟨n + nq, by rw [hn, World.drewN_drewN]⟩)
      go_wp2_with fail
      go_roundw
      case rel => exact ⟨_, k + 1, rfl, by omega, by go_num, by rw [HTK.out, ← cat_mk, ← cat_mk], hW2⟩
      case measure => simp [intOf]; omega
    · obtain rfl : k = l.length := by omega
      rw [List.take_length]
      go_wp2_with fail
      go_ret
      exact ⟨rfl, hW.out⟩

set_option maxHeartbeats 2000000 in
set_option maxRecDepth 100000 in
theorem closed_any : ∀ (d : Nat) (v : Value) (l : List TNode) (p li : Bool) (w : World), NodeView d w v l → countL l ≤ 1000000 → closedL l p li = true →
    Calls Tryd.prog 11 #[v, .bool p, .bool li] w fun e w' => e = .returned (.bool true) ∧ w = w' := by
  intro d
  induction d using Nat.strongRecOn with
  | _ d ih =>
  intro v l p li w hv hct hcl
  obtain ⟨a, cap, rfl⟩ := hv.form
  have hln := Nat.le_trans (len_countL l) hct
  have HIH := Lib.hid ih
  have HV := Lib.hid hv
  have HCT := Lib.hid hct
  have HCL := Lib.hid hcl
  clear ih hv hct hcl
  go_enter Tryd.func11, Tryd.ntmps11
  go_wp2_with fail
  go_loop [7] (fun i => ∃ k : Nat, k ≤ l.length ∧ i = .int .i64 k) (fun i => l.length - (intOf i).toNat)
  case atStart => exact ⟨0, by omega, rfl⟩
  case round =>
    obtain ⟨k, hk, rfl⟩ := hrel
    by_cases hlt : k < l.length
    · obtain ⟨t, ht⟩ : ∃ t, l[k]? = some t := ⟨_, List.getElem?_eq_getElem hlt⟩
      obtain ⟨d', hd', g, c, av, pv, hf, hc1, hc2, hg, hat, hav, hpv⟩ := HV.out.get k t ht
      obtain rfl : a = some ⟨g, 0, none⟩ := by simp at hf; exact hf.1
      obtain ⟨a1, a2, a3, a4⟩ := hat
      obtain ⟨pa, pc, hpf⟩ := hpv.form
      subst hpf
      obtain ⟨g1, g2, g3⟩ := closed_get l p li k t HCL.out ht
      have h3 := countN_mem (List.mem_of_getElem? ht)
      rw [countN_of] at h3
      have HCALL := Lib.hid (HIH.out d' (by omega) _ t.parts (p || t.name == nP) (inLiM t.name li) w hpv (by have := HCT.out; omega) g3)
      have k0 : (0 : Int) ≤ k := by omega
      have k1 : (k : Int) < l.length := by omega
      clear hf hpv hav ht h3 g3 a2 a3
      by_cases n1 : t.name = nP
      · have hp : p = false := by cases p; rfl; exact absurd ⟨n1, rfl⟩ g1
        subst hp
        have e1 : (false || t.name == nP) = true := by rw [n1]; rfl
        have e2 : inLiM t.name li = li := by rw [n1]; rfl
        rw [e1, e2] at HCALL
        rw [n1] at a1
        have a1' : w.cell? ⟨g, k * 4, none⟩ = some (.string ⟨#[112]⟩) := a1
        clear n1 g1 g2 e1 e2 a1
        go_wp2_with fail
        refine HCALL.out.mono ?_
        rintro e w' ⟨rfl, hw⟩
        rw [← hw]
        clear hw
        go_wp2_with fail
        go_round
        case rel => exact ⟨k + 1, by omega, by go_num⟩
        case measure => simp [intOf]; omega
      by_cases n2 : t.name = nLi
      · have hp : li = false := by cases li; rfl; exact absurd ⟨n2, rfl⟩ g2
        subst hp
        have e1 : (p || t.name == nP) = p := by rw [n2]; cases p <;> rfl
        have e2 : inLiM t.name false = true := by rw [n2]; rfl
        rw [e1, e2] at HCALL
        rw [n2] at a1
        have a1' : w.cell? ⟨g, k * 4, none⟩ = some (.string ⟨#[108, 105]⟩) := a1
        clear n1 n2 g1 g2 e1 e2 a1
        cases p
        all_goals
          go_wp2_with fail
          refine HCALL.out.mono ?_
          rintro e w' ⟨rfl, hw⟩
          rw [← hw]
          clear hw
          go_wp2_with fail
          go_round
          case rel => exact ⟨k + 1, by omega, by go_num⟩
          case measure => simp [intOf]; omega
      by_cases n3 : t.name = nUl
      · have e1 : (p || t.name == nP) = p := by rw [n3]; cases p <;> rfl
        have e2 : inLiM t.name li = false := by rw [n3]; rfl
        rw [e1, e2] at HCALL
        rw [n3] at a1
        have a1' : w.cell? ⟨g, k * 4, none⟩ = some (.string ⟨#[117, 108]⟩) := a1
        clear n1 n2 n3 g1 g2 e1 e2 a1
        cases p
        all_goals
          go_wp2_with fail
          refine HCALL.out.mono ?_
          rintro e w' ⟨rfl, hw⟩
          rw [← hw]
          clear hw
          go_wp2_with fail
          go_round
          case rel => exact ⟨k + 1, by omega, by go_num⟩
          case measure => simp [intOf]; omega
      by_cases n4 : t.name = nOl
      · have e1 : (p || t.name == nP) = p := by rw [n4]; cases p <;> rfl
        have e2 : inLiM t.name li = false := by rw [n4]; rfl
        rw [e1, e2] at HCALL
        rw [n4] at a1
        have a1' : w.cell? ⟨g, k * 4, none⟩ = some (.string ⟨#[111, 108]⟩) := a1
        clear n1 n2 n3 n4 g1 g2 e1 e2 a1
        cases p
        all_goals
          go_wp2_with fail
          refine HCALL.out.mono ?_
          rintro e w' ⟨rfl, hw⟩
          rw [← hw]
          clear hw
          go_wp2_with fail
          go_round
          case rel => exact ⟨k + 1, by omega, by go_num⟩
          case measure => simp [intOf]; omega
      have e1 : (p || t.name == nP) = p := by rw [beq_eq_false_iff_ne.2 n1]; cases p <;> rfl
      have e2 : inLiM t.name li = li := by unfold inLiM; rw [if_neg (by simp [n3, n4]), if_neg n2]
      rw [e1, e2] at HCALL
      have f1 := sBeqF n1
      have f2 := sBeqF n2
      have f3 := sBeqF n3
      have f4 := sBeqF n4
      have f1' := sEqF n1
      have f2' := sEqF n2
      have f3' := sEqF n3
      have f4' := sEqF n4
      unfold nP at f1 f1'
      unfold nLi at f2 f2'
      unfold nUl at f3 f3'
      unfold nOl at f4 f4'
      clear n1 n2 n3 n4 g1 g2 e1 e2
      cases p
      all_goals
        go_wp2_with fail
        refine HCALL.out.mono ?_
        rintro e w' ⟨rfl, hw⟩
        rw [← hw]
        clear hw
        go_wp2_with fail
        go_round
        case rel => exact ⟨k + 1, by omega, by go_num⟩
        case measure => simp [intOf]; omega
    · obtain rfl : k = l.length := by omega
      go_wp2_with fail
      go_ret
      exact ⟨rfl, rfl⟩

set_option maxHeartbeats 2000000 in
set_option maxRecDepth 100000 in
theorem count_any : ∀ (d : Nat) (v : Value) (l : List TNode) (w : World), NodeView d w v l → countL l ≤ 1000000 → deepL l ≤ 1000000 →
    Calls Tryd.prog 13 #[v] w fun e w' => e = .returned (.tuple #[.int .i64 (countL l), .int .i64 (deepL l)]) ∧ Below w.heap.size w w' := by
  intro d
  induction d using Nat.strongRecOn with
  | _ d ih =>
  intro v l w hv hct hdp
  obtain ⟨a, cap, rfl⟩ := hv.form
  have hln := Nat.le_trans (len_countL l) hct
  have HIH := Lib.hid ih
  have HV := Lib.hid hv
  have HCT := Lib.hid hct
  have HDP := Lib.hid hdp
  clear ih hv hct hdp
  go_enter Tryd.func13, Tryd.ntmps13
  go_wp2_with fail
  go_loopw [2, 3, 10] (fun x y i wr => ∃ (W : World) (k : Nat), W = wr ∧ k ≤ l.length ∧ i = .int .i64 k ∧ x = .int .i64 (countL (l.take k)) ∧ y = .int .i64 (deepL (l.take k)) ∧ Hid (Below w.heap.size w W)) (fun _ _ i _ => l.length - (intOf i).toNat)
  case atStart => exact ⟨_, 0, rfl, by omega, rfl, by rw [List.take_zero, countL]; rfl, by rw [List.take_zero, deepL]; rfl, Lib.hid (Below.refl _ _)⟩
  case round =>
    obtain ⟨W, k, rfl, hk, rfl, rfl, rfl, hW⟩ := hrel
    by_cases hlt : k < l.length
    · obtain ⟨t, ht⟩ : ∃ t, l[k]? = some t := ⟨_, List.getElem?_eq_getElem hlt⟩
      obtain ⟨d', hd', g, c, av, pv, hf, hc1, hc2, hg, hat, hav, hpv⟩ := (HV.out.older (.of_below hW.out)).get k t ht
      obtain rfl : a = some ⟨g, 0, none⟩ := by simp at hf; exact hf.1
      obtain ⟨a1, a2, a3, a4⟩ := hat
      obtain ⟨pa, pc, hpf⟩ := hpv.form
      subst hpf
      obtain ⟨⟨aa, ac, haf⟩, -⟩ := id hav
      subst haf
      have h1 := countL_take l k t ht
      have h2 := countL_take_le l (k + 1)
      have h3 := deepL_take l k t ht
      have h4 := deepL_take_le l (k + 1)
      have hc0 := HCT.out
      have hd0 := HDP.out
      obtain ⟨w1, hw1⟩ : ∃ w1, w1 = W.alloc (.cells #[.string (mk t.name), .slice aa t.attrs.length ac, .string (mk t.text), .slice pa t.parts.length pc] 41) := ⟨_, rfl⟩
      have hb1 : Below W.heap.size W w1 := by rw [hw1]; exact (Below.refl _ _).alloc (Nat.le_refl _) _
      have hN1 : w1.heap[W.heap.size]? = some (.cells #[.string (mk t.name), .slice aa t.attrs.length ac, .string (mk t.text), .slice pa t.parts.length pc] 41 (0, 0)) := by rw [hw1]; exact heap_alloc_new _ _
      have m3 : w1.cell? ⟨W.heap.size, 3, none⟩ = some (.slice pa t.parts.length pc) := by rw [Lib.cell_of_heap hN1]; rfl
      have HCALL := Lib.hid (HIH.out d' (by omega) _ t.parts w1 (hpv.older (.of_below hb1)) (by omega) (by omega))
      have HB1 := Lib.hid (hW.out.trans (hb1.mono hW.out.size))
      have HW1 := Lib.hid hw1
      have hm : max (deepL (l.take k) : Int) ((deepL t.parts : Int) + 1) = (deepL (l.take (k + 1)) : Int) := by rw [h3]; omega
      have hs : (countL (l.take k) : Int) + ((countL t.parts : Int) + 1) = (countL (l.take (k + 1)) : Int) := by rw [h1]; omega
      have HM := Lib.hid hm
      have HS := Lib.hid hs
      rw [h1] at h2
      rw [h3] at h4
      have y1 : countL (l.take k) ≤ 1000000 := by omega
      have y2 : countL t.parts ≤ 1000000 := by omega
      have y3 : deepL (l.take k) ≤ 1000000 := by omega
      have y4 : deepL t.parts ≤ 1000000 := by omega
      have k0 : (0 : Int) ≤ k := by omega
      have k1 : (k : Int) < l.length := by omega
      clear hf hpv hav ht h1 h2 h3 h4 hc0 hd0 hb1 hN1 hw1 hm hs
      generalize countL (l.take k) = x at *
      generalize countL t.parts = x' at *
      generalize deepL (l.take k) = y at *
      generalize deepL t.parts = y' at *
      go_upto_region 4 with fail
      rw [← HW1.out]
      go_wp2_with fail
      refine HCALL.out.mono ?_
      rintro e w2 ⟨rfl, hb2⟩
      have HB2 := Lib.hid (HB1.out.trans (hb2.mono HB1.out.size))
      clear hb2 m3
      go_wp2_with fail
      go_roundw
      case rel => exact ⟨_, k + 1, rfl, by omega, by go_num, by rw [← HS.out], by rw [← HM.out], HB2⟩
      case measure => simp [intOf]; omega
    · obtain rfl : k = l.length := by omega
      rw [List.take_length]
      go_wp2_with fail
      exact bodyPost_ret (v := .tuple #[.int .i64 (countL l), .int .i64 (deepL l)]) (by simp [results, Tryd.results13, go_sem]) rfl ⟨rfl, hW.out⟩

set_option maxHeartbeats 2000000 in
set_option maxRecDepth 100000 in
theorem apart_any : ∀ (d : Nat) (v : Value) (l : List TNode) (w : World), NodeView d w v l → countL l ≤ 1000000 → apartL false l = true →
    Calls Tryd.prog 14 #[v] w fun e w' => e = .returned (.bool true) ∧ w = w' := by
  intro d
  induction d using Nat.strongRecOn with
  | _ d ih =>
  intro v l w hv hct hcl
  obtain ⟨a, cap, rfl⟩ := hv.form
  have hln := Nat.le_trans (len_countL l) hct
  have HIH := Lib.hid ih
  have HV := Lib.hid hv
  have HCT := Lib.hid hct
  have HCL := Lib.hid hcl
  clear ih hv hct hcl
  go_enter Tryd.func14, Tryd.ntmps14
  go_wp2_with fail
  go_loop [3] (fun i => ∃ k : Nat, k ≤ l.length ∧ i = .int .i64 k) (fun i => l.length - (intOf i).toNat)
  case atStart => exact ⟨0, by omega, rfl⟩
  case round =>
    obtain ⟨k, hk, rfl⟩ := hrel
    by_cases hlt : k < l.length
    · obtain ⟨t, ht⟩ : ∃ t, l[k]? = some t := ⟨_, List.getElem?_eq_getElem hlt⟩
      obtain ⟨d', hd', g, c, av, pv, hf, hc1, hc2, hg, hat, hav, hpv⟩ := HV.out.get k t ht
      obtain rfl : a = some ⟨g, 0, none⟩ := by simp at hf; exact hf.1
      obtain ⟨a1, a2, a3, a4⟩ := hat
      obtain ⟨pa, pc, hpf⟩ := hpv.form
      subst hpf
      obtain ⟨⟨aa, ac, haf⟩, -⟩ := id hav
      subst haf
      obtain ⟨g1, g2⟩ := apart_get l false k t HCL.out ht
      have h3 := countN_mem (List.mem_of_getElem? ht)
      rw [countN_of] at h3
      have k0 : (0 : Int) ≤ k := by omega
      have k1 : (k : Int) < l.length := by omega
      by_cases hn : t.name = []
      · obtain ⟨⟨q1, q2, q3⟩, -, q4⟩ := g1 hn
        rw [hn] at a1
        rw [q2] at a4
        rw [q3] at a2
        have a1' : w.cell? ⟨g, k * 4, none⟩ = some (.string ⟨#[]⟩) := a1
        have a2' : w.cell? ⟨g, k * 4 + 1, none⟩ = some (.slice aa 0 ac) := a2
        have a4' : w.cell? ⟨g, k * 4 + 3, none⟩ = some (.slice pa 0 pc) := a4
        have f1 := sBeqF q1
        have f2 := sEqF q1
        have f3 := sEmpF q1
        clear hf hpv hav ht h3 g1 g2 hn q1 q2 q3 a1 a2 a4
        cases k with
        | zero =>
          clear q4
          go_wp2_with fail
          go_round
          case rel => exact ⟨0 + 1, by omega, by go_num⟩
          case measure => simp [intOf]; omega
        | succ j =>
          obtain ⟨u, hu⟩ : ∃ u, l[j]? = some u := ⟨_, List.getElem?_eq_getElem (by omega)⟩
          have hun := q4 j u rfl hu
          obtain ⟨_, _, g', c', _, _, hf', _, _, _, hat', _, _⟩ := HV.out.get j u hu
          obtain rfl : g = g' := by simp at hf'; exact hf'.1
          obtain ⟨b1, -, -, -⟩ := hat'
          have u1 := sBeqF hun
          have u2 := sEqF hun
          have u3 := sEmpF hun
          have j0 : (0 : Int) < ((j + 1 : Nat) : Int) := by omega
          have j1 : IntKind.i64.wrap (((j + 1 : Nat) : Int) - 1) = (j : Int) := by rw [IntWalk.i64_in _ (by omega)]; omega
          have j2 : (j : Int) < l.length := by omega
          have j3 : (0 : Int) ≤ j := by omega
          clear hf' hu hun q4
          go_wp2_with fail
          go_round
          case rel => exact ⟨j + 1 + 1, by omega, by go_num⟩
          case measure => simp [intOf]; omega
      · obtain ⟨q1, q2⟩ := g2 hn
        rw [q1] at a3
        have a3' : w.cell? ⟨g, k * 4 + 2, none⟩ = some (.string ⟨#[]⟩) := a3
        have f1 := sBeqF hn
        have f2 := sEqF hn
        have f3 := sEmpF hn
        have HCALL := Lib.hid (HIH.out d' (by omega) _ t.parts w hpv (by have := HCT.out; omega) q2)
        clear hf hpv hav ht h3 g1 g2 hn q1 q2 a3 a2
        go_wp2_with fail
        refine HCALL.out.mono ?_
        rintro e w' ⟨rfl, hw⟩
        rw [← hw]
        clear hw
        go_wp2_with fail
        go_round
        case rel => exact ⟨k + 1, by omega, by go_num⟩
        case measure => simp [intOf]; omega
    · obtain rfl : k = l.length := by omega
      go_wp2_with fail
      go_ret
      exact ⟨rfl, rfl⟩

end Go.Proofs.YtemomhanchiipaaDoor
