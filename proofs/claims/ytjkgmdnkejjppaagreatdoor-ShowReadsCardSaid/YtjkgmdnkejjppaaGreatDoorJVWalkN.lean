/- Walk of the reference's strict reader: nodes. -/
import Derived.Test.YtjkgmdnkejjppaaGreatDoorJVWalkB
import Derived.Test.YtjkgmdnkejjppaaGreatDoorJVWalkU
import Derived.Test.YtjkgmdnkejjppaaGreatDoorGw
import Derived.Test.YtjkgmdnkejjppaaGreatDoorJVNode
namespace Go.Proofs.YtjkgmdnkejjppaaGreatDoor
open Go Go.RowKit

/-- What the reader's nodes leave. -/
def NodesPost (n b : Nat) (s : ByteArray) (w : World) (x : List TNode × Bytes × Bool) (e : Ending) (w' : World) : Prop :=
  Only b w w' ∧ RdR w' b s x.2.1 x.2.2 ∧ ∃ ov, e = .returned ov ∧ NodeOwn n w.heap.size w' ov x.1

set_option maxHeartbeats 8000000 in
set_option maxRecDepth 100000 in
theorem rnodes_any : ∀ (n b : Nat) (s : ByteArray) (r : Bytes) (bad : Bool) (w : World), r.length ≤ n → s.size ≤ 600 → RdR w b s r bad →
    Calls Tryz.prog 18 #[.pointer (some ⟨b, 0, none⟩)] w (NodesPost n b s w (nodesC r bad [])) := by
  intro n
  induction n using Nat.strongRecOn with
  | _ n ih =>
  intro b s r bad w hn hs hr
  have HIH := Lib.hid ih
  have HRD := Lib.hid hr
  have hrl := hr.len
  have hbw : b < w.heap.size := by obtain ⟨_, h, _⟩ := hr; exact lt_of_block h
  obtain ⟨R, hR⟩ : ∃ R, nodesC r bad [] = R := ⟨_, rfl⟩
  rw [hR]
  have HR := Lib.hid hR
  clear ih hr hR
  go_enter Tryz.func18, Tryz.ntmps18
  go_wp2_with fail
  go_loopg [3] r.length (fun g ov wx => ∃ (W : World) (cur : Bytes) (bd : Bool) (o : List TNode), W = wx ∧ cur.length ≤ g ∧ cur.length ≤ r.length ∧ o.length + cur.length ≤ r.length ∧ Hid (RdR W b s cur bd) ∧ Hid (NodeOwn n w.heap.size W ov o) ∧ Hid (Only b w W) ∧ Hid (nodesC cur bd o = R))
  case atStart => exact ⟨_, r, bad, [], rfl, Nat.le_refl _, by omega, by simp, HRD, Lib.hid (NodeOwn.nil _ _ _), Lib.hid (Kept.refl _ _ _), HR⟩
  case round =>
    obtain ⟨W, cur, bd, o, rfl, hg, hcl, hol, hRd, hO, hB, hP⟩ := hrel
    obtain ⟨oa, oc, hof⟩ := hO.out.view.form
    subst hof
    obtain ⟨at0, hrd, hle, hrest⟩ := id hRd.out
    have hcul : cur.length = s.size - at0 := by rw [← hrest, List.length_drop, lst_length]
    obtain ⟨c0, c1, c2, f1, f2, hb⟩ := hrd.all
    have HREST := Lib.hid hrest
    clear hrd hrest HRD HR
    by_cases hstop : cur = [] ∨ bd = true
    · have hRE := hP.out
      rw [nodesC_stop cur bd o hstop] at hRE
      have HRE := Lib.hid hRE
      clear hRE hP
      by_cases hlt : at0 < s.size
      · have l1 : (at0 : Int) < s.size := by omega
        have hbd : bd = true := by
          rcases hstop with h | h
          · rw [h] at hcul; simp at hcul; omega
          · exact h
        subst hbd
        clear hstop hlt hcul hcl hol hg
        go_wp2_with fail
        go_quiet (fail)
        go_wp2_with fail
        exact bodyPost_ret (v := .slice oa o.length oc) (by simp [results, Tryz.results18, go_sem]) rfl (by rw [← HRE.out]; exact ⟨hB.out.drewN _, hRd.out.drewN _, _, rfl, hO.out.drewN _⟩)
      · obtain rfl : at0 = s.size := by omega
        clear hstop hlt hcul hcl hol hg
        go_wp2_with fail
        go_quiet (fail)
        go_wp2_with fail
        exact bodyPost_ret (v := .slice oa o.length oc) (by simp [results, Tryz.results18, go_sem]) rfl (by rw [← HRE.out]; exact ⟨hB.out.drewN _, hRd.out.drewN _, _, rfl, hO.out.drewN _⟩)
    · obtain ⟨hne, hbd⟩ : cur ≠ [] ∧ bd = false := by
        cases bd with
        | true => exact absurd (Or.inr rfl) hstop
        | false => exact ⟨fun e => hstop (.inl e), rfl⟩
      subst hbd
      have hlp : 0 < cur.length := List.length_pos_iff.2 hne
      have l1 : (at0 : Int) < s.size := by omega
      have HNE := Lib.hid hne
      clear hne hstop
      have z0 : IntKind.i64.wrap ((at0 : Int) + 1) = (at0 : Int) + 1 := IntWalk.i64_in _ (by omega)
      have z1 : IntKind.i64.wrap ((at0 : Int) + 2) = (at0 : Int) + 2 := IntWalk.i64_in _ (by omega)
      go_wp2_with fail
      go_quiet (fail)
      obtain ⟨W1, hW1⟩ : ∃ W1, W1 = W.drewN nq := ⟨_, rfl⟩
      rw [← hW1]
      have HRD1 := Lib.hid (show RdR W1 b s cur false by rw [hW1]; exact hRd.out.drewN _)
      have HO1 := Lib.hid (show NodeOwn n w.heap.size W1 (.slice oa o.length oc) o by rw [hW1]; exact hO.out.drewN _)
      have HB1 := Lib.hid (show Only b w W1 by rw [hW1]; exact hB.out.drewN _)
      have c0 : W1.cell? ⟨b, 0, none⟩ = some (.string s) := by rw [hW1]; exact c0
      have c1 : W1.cell? ⟨b, 1, none⟩ = some (.int .i64 at0) := by rw [hW1]; exact c1
      clear hW1 hRd hO hB c2 f1 f2
      go_upto_region 3 with fail
      go_cut [50] (fun v wx => v = .bool (eatM [60, 47] cur).1 ∧ ∃ W2, wx = W2 ∧ Hid (RdR W2 b s cur false) ∧ Hid (NodeOwn n w.heap.size W2 (.slice oa o.length oc) o) ∧ Hid (Only b w W2))
      case first =>
        rcases two_bytes HREST.out with ⟨h1, h2, h3⟩ | ⟨h1, h2⟩
        · have l2 : (at0 : Int) + 1 < s.size := by omega
          have l3 : (at0 : Int) + 2 ≤ s.size := by omega
          have s1 : ((mk [60, 47]).toList == [60, 47]) = true := by rw [toList_mk]; rfl
          have s2 : (mk [60, 47]).toList = [60, 47] := by rw [toList_mk]
          have H1 := Lib.hid h1
          clear h1
          go_quiet (fail)
          go_wp2_with fail
          go_meet
          exact ⟨by rw [H1.out], _, rfl, Lib.hid (HRD1.out.drewN _), Lib.hid (HO1.out.drewN _), Lib.hid (HB1.out.drewN _)⟩
        · have H1 := Lib.hid h1
          clear h1
          by_cases hl2 : at0 + 1 < s.size
          · have l2 : (at0 : Int) + 1 < s.size := by omega
            have l3 : (at0 : Int) + 2 ≤ s.size := by omega
            obtain ⟨h3, h4⟩ := h2 (by omega)
            have s1 : ((mk (cur.take 2)).toList == [60, 47]) = false := by rw [toList_mk]; exact beq_eq_false_iff_ne.2 h4
            have s2 : ¬ (mk (cur.take 2)).toList = [60, 47] := by rw [toList_mk]; exact h4
            clear h2 h4
            go_quiet (fail)
            go_wp2_with fail
            go_meet
            exact ⟨by rw [H1.out], _, rfl, Lib.hid (HRD1.out.drewN _), Lib.hid (HO1.out.drewN _), Lib.hid (HB1.out.drewN _)⟩
          · have l2 : ¬ (at0 : Int) + 1 < s.size := by omega
            have l2d : decide ((at0 : Int) + 1 < s.size) = false := decide_eq_false l2
            clear h2
            go_quiet (fail)
            go_wp2_with fail
            go_meet
            exact ⟨by rw [H1.out], _, rfl, Lib.hid (HRD1.out.drewN _), Lib.hid (HO1.out.drewN _), Lib.hid (HB1.out.drewN _)⟩
      case rest =>
        obtain ⟨rfl, W2, rfl, HRD2, HO2, HB2⟩ := hcut
        clear HRD1 HO1 HB1 c0 c1 HREST z0 z1 l1 hcul hle hb
        cases h1 : (eatM [60, 47] cur).1 with
        | true =>
          have hRE := hP.out
          rw [nodesC_close cur o h1] at hRE
          have HRE := Lib.hid hRE
          clear hRE hP h1
          go_wp2_with fail
          exact bodyPost_ret (v := .slice oa o.length oc) (by simp [results, Tryz.results18, go_sem]) rfl (by rw [← HRE.out]; exact ⟨HB2.out, HRD2.out, _, rfl, HO2.out⟩)
        | false =>
          have H1 := Lib.hid h1
          have HE1 := Lib.hid (fun W h => eat_any b s [60] cur false (by omega) (by decide) W h)
          clear h1
          go_wp2_with fail
          refine (HE1.out _ HRD2.out).mono ?_
          rintro e w3 ⟨rfl, hr3, hb3⟩
          have HB3 := Lib.hid (HB2.out.trans hb3)
          have HO3 := Lib.hid (HO2.out.only hb3 HRD2.out.block)
          have HRD3 := Lib.hid hr3
          clear hr3 hb3 HRD2 HO2 HB2 HE1
          cases h2 : (eatM [60] cur).1 with
          | false =>
            have H2 := Lib.hid h2
            have hcur : (eatM [60] cur).2 = cur := by
              have : ¬ ([60] : Bytes).isPrefixOf cur = true := fun hp => by
                unfold eatM at h2; rw [if_pos hp] at h2; cases h2
              unfold eatM; rw [if_neg this]
            rw [hcur] at HRD3
            clear h2 hcur
            go_wp2_with fail
            have HU := Lib.hid (fun W h => upto_any b s cur 60 false (by omega) W h)
            have hlt3 := upR_lt HNE.out H2.out
            have hup := upR_len 60 cur
            obtain ⟨T, hT⟩ : ∃ T, unesc (upT 60 cur) = T := ⟨_, rfl⟩
            have hNX := hP.out
            rw [nodesC_text cur o HNE.out H1.out H2.out, hT] at hNX
            rw [hT] at HU
            have HNX := Lib.hid hNX
            clear hNX hT hP
            refine (HU.out _ HRD3.out).mono ?_
            rintro e w4 ⟨rfl, hr4, hb4⟩
            have HB4 := Lib.hid (HB3.out.trans hb4)
            have HO4 := Lib.hid (HO3.out.only hb4 HRD3.out.block)
            have HRD4 := Lib.hid hr4
            have hBz := HB4.out.size
            have hol2 : o.length ≤ 1000000 := by omega
            clear hr4 hb4 HRD3 HO3 HB3 HU
            go_wp2_with (at_builtin; go_must (refine wpList_pushNode (by rfl) (.tmp 55) (.tmp 59) (by rfl) n w.heap.size _ o (tText T) (.slice none 0 0) (.slice none 0 0) w4 _ (by rfl) (by rfl) HO4.out (attrView_nil _) (NodeIn.nil _ _ _) w4.heap.size rfl (by rfl) hol2 hBz ?_); intro v' w' hown' hbl'; have HOW := Lib.hid hown'; have HBL := Lib.hid hbl'; clear hown' hbl')
            go_roundg (upR 60 cur).length
            case measure => omega
            case rel => exact ⟨_, upR 60 cur, false, _, rfl, Nat.le_refl _, by omega, by rw [List.length_append, List.length_singleton]; omega, Lib.hid (HRD4.out.below HBL.out hbw), HOW, Lib.hid (Kept.trans HB4.out (Kept.of_below HBL.out)), HNX⟩
          | true =>
            have H2 := Lib.hid h2
            clear h2
            obtain ⟨r1, hr1⟩ : ∃ r1, (eatM [60] cur).2 = r1 := ⟨_, rfl⟩
            rw [hr1] at HRD3
            have HR1 := Lib.hid hr1
            have HNM := Lib.hid (fun W h => sname_any b s r1 false (by omega) W h)
            have hr1l := (eatM_len [60] cur).2 H2.out
            rw [hr1] at hr1l
            simp only [List.length_singleton] at hr1l
            have hz1 := nmR_len r1
            clear hr1
            go_wp2_with fail
            refine (HNM.out _ HRD3.out).mono ?_
            rintro e w4 ⟨rfl, hr4, hb4⟩
            have HB4 := Lib.hid (HB3.out.trans hb4)
            have HO4 := Lib.hid (HO3.out.only hb4 HRD3.out.block)
            obtain ⟨nm, hnm⟩ : ∃ nm, nmT r1 = nm := ⟨_, rfl⟩
            obtain ⟨zz, hzz⟩ : ∃ zz, nmR r1 = zz := ⟨_, rfl⟩
            rw [hzz] at hr4 hz1
            rw [hnm]
            have HNMT := Lib.hid hnm
            have HZZ := Lib.hid hzz
            have HRD4 := Lib.hid hr4
            have hb4w := lt_of_block hr4.block.choose_spec
            clear hr4 hb4 HRD3 HO3 HB3 HNM hnm hzz
            obtain ⟨w5, hw5⟩ : ∃ w5, w5 = w4.alloc (.cells #[.string (mk nm), .slice none 0 0, .string ⟨#[]⟩, .slice none 0 0] 44) := ⟨_, rfl⟩
            have HST := Lib.hid (show AtSt w4 b s nm w5 zz false (.slice none 0 0) [] by rw [hw5]; exact .start HRD4.out)
            obtain ⟨RA, hRA⟩ : ∃ RA, attrsC zz false [] = RA := ⟨_, rfl⟩
            have HRA := Lib.hid hRA
            have HW5 := Lib.hid hw5
            clear hRA hw5
            go_wp2_with fail
            rw [← HW5.out]
            go_loopg [] zz.length (fun g wx => ∃ (W : World) (z : Bytes) (bd : Bool) (al : List TAttr) (av : Value), W = wx ∧ z.length ≤ g ∧ z.length ≤ zz.length ∧ al.length + z.length ≤ zz.length ∧ Hid (AtSt w4 b s nm W z bd av al) ∧ Hid (attrsC z bd al = RA))
            case atStart => exact ⟨_, zz, false, [], .slice none 0 0, rfl, Nat.le_refl _, by omega, by simp, HST, HRA⟩
            case round =>
              obtain ⟨W, z, bd, al, av, rfl, hzg, hzl, hal, HS, HAT⟩ := hrel
              obtain ⟨aa, ac, haf⟩ := ownsRow_slice HS.out.row
              subst haf
              have HE2 := Lib.hid (fun W h => eat_any b s [32] z bd (by omega) (by decide) W h)
              clear HST HW5
              go_wp2_with fail
              refine (HE2.out _ HS.out.rd).mono ?_
              rintro e w6 ⟨rfl, hr6, hb6⟩
              have HS6 := Lib.hid (HS.out.only hb6 hr6)
              clear hr6 hb6 HS HE2
              cases h3 : (eatM [32] z).1 with
              | true =>
                have HG := Lib.hid (show attrsC (atOne (eatM [32] z).2).2.1 (bd || (atOne (eatM [32] z).2).2.2) (al ++ [(atOne (eatM [32] z).2).1]) = RA by rw [← attrsC_go z bd al h3]; exact HAT.out)
                have k1 := (eatM_len [32] z).2 h3
                simp only [List.length_singleton] at k1
                clear h3 HAT HRA
                obtain ⟨z1, hz1⟩ : ∃ z1, (eatM [32] z).2 = z1 := ⟨_, rfl⟩
                rw [hz1] at HG HS6 k1
                clear hz1
                have k2 := atOne_len z1
                have HN1 := Lib.hid (fun W h => sname_any b s z1 bd (by omega) W h)
                go_wp2_with fail
                refine (HN1.out _ HS6.out.rd).mono ?_
                rintro e w7 ⟨rfl, hr7, hb7⟩
                have HS7 := Lib.hid (HS6.out.only hb7 hr7)
                clear hr7 hb7 HS6 HN1
                obtain ⟨w8, hw8⟩ : ∃ w8, w8 = w7.alloc (.cells #[.string (mk (nmT z1)), .string ⟨#[]⟩] 85) := ⟨_, rfl⟩
                have hb8 : Below w7.heap.size w7 w8 := by rw [hw8]; exact (Below.refl _ _).alloc (Nat.le_refl _) _
                have HAB := Lib.hid (show w8.heap[w7.heap.size]? = some (.cells #[.string (mk (nmT z1)), .string ⟨#[]⟩] 85 (0, 0)) by rw [hw8]; exact heap_alloc_new _ _)
                have HS8 := Lib.hid (HS7.out.below hb8)
                have HNO := Lib.hid HS7.out.own_lt
                have HB7 := Lib.hid HS7.out.old
                have HS7Z := Lib.hid (lt_of_block HS7.out.box)
                have HW8 := Lib.hid hw8
                clear hb8 hw8
                go_upto_region 10 with fail
                rw [← HW8.out]
                have HE3 := Lib.hid (fun W h => eat_any b s [61, 34] (nmR z1) bd (by omega) (by decide) W h)
                clear HS7 HW8
                go_wp2_with fail
                refine (HE3.out _ HS8.out.rd).mono ?_
                rintro e w9 ⟨rfl, hr9, hb9⟩
                have HS9 := Lib.hid (HS8.out.only hb9 hr9)
                have HAB9 := Lib.hid (show w9.heap[w7.heap.size]? = some (.cells #[.string (mk (nmT z1)), .string ⟨#[]⟩] 85 (0, 0)) by rw [hb9.block _ (lt_of_block HAB.out) (fun e => by have := HB7.out; have := HS7Z.out; omega)]; exact HAB.out)
                clear hr9 hb9 HS8 HE3 HAB
                obtain ⟨at9, hrd9, -, -⟩ := id HS9.out.rd
                obtain ⟨-, -, d2, -, e2, -⟩ := hrd9.all
                clear hrd9
                obtain ⟨bd2, hbd2⟩ : ∃ bd2, bd2 = (bd || !(eatM [61, 34] (nmR z1)).1) := ⟨_, rfl⟩
                obtain ⟨z3, hz3⟩ : ∃ z3, (eatM [61, 34] (nmR z1)).2 = z3 := ⟨_, rfl⟩
                have HBD2 := Lib.hid hbd2
                have HZ3 := Lib.hid hz3
                rw [hz3] at HS9
                have hz3l : z3.length ≤ z1.length := by
                  have := (eatM_len [61, 34] (nmR z1)).1
                  have := nmR_len z1
                  rw [← hz3]; omega
                clear hbd2 hz3
                cases h4 : (eatM [61, 34] (nmR z1)).1
                all_goals
                  first
                    | have h5 : (eatM [61, 34] (nmR z1)).1 = true := h4
                      clear h5
                      have H10 := Lib.hid (show AtSt w4 b s nm w9 z3 bd2 (.slice aa al.length ac) al by rw [HBD2.out, h4]; simpa using HS9.out)
                      clear h4
                      go_upto_region 12 with fail
                      obtain ⟨w10, hw10⟩ : ∃ w10, w10 = w9 := ⟨_, rfl⟩
                      rw [← hw10]
                      have HS10 := Lib.hid (show AtSt w4 b s nm w10 z3 bd2 (.slice aa al.length ac) al by rw [hw10]; exact H10.out)
                      have HAB10 := Lib.hid (show w10.heap[w7.heap.size]? = some (.cells #[.string (mk (nmT z1)), .string ⟨#[]⟩] 85 (0, 0)) by rw [hw10]; exact HAB9.out)
                      clear H10 hw10 d2 e2 HS9 HAB9
                    | have h5 : (eatM [61, 34] (nmR z1)).1 = false := h4
                      clear h5
                      have H10 := Lib.hid (show AtSt w4 b s nm (w9.setCell ⟨b, 2, none⟩ (.bool true)) z3 bd2 (.slice aa al.length ac) al by rw [HBD2.out, h4, Bool.not_false, Bool.or_true]; exact HS9.out.setBad)
                      have HAB10' := Lib.hid (show (w9.setCell ⟨b, 2, none⟩ (.bool true)).heap[w7.heap.size]? = some (.cells #[.string (mk (nmT z1)), .string ⟨#[]⟩] 85 (0, 0)) by
                        rw [Below.heap_setCell _ _ _ _ (show w7.heap.size ≠ b by have := HB7.out; have := HS7Z.out; omega)]; exact HAB9.out)
                      clear h4
                      go_upto_region 12 with fail
                      obtain ⟨w10, hw10⟩ : ∃ w10, w10 = w9.setCell ⟨b, 2, none⟩ (.bool true) := ⟨_, rfl⟩
                      rw [← hw10]
                      have HS10 := Lib.hid (show AtSt w4 b s nm w10 z3 bd2 (.slice aa al.length ac) al by rw [hw10]; exact H10.out)
                      have HAB10 := Lib.hid (show w10.heap[w7.heap.size]? = some (.cells #[.string (mk (nmT z1)), .string ⟨#[]⟩] 85 (0, 0)) by rw [hw10]; exact HAB10'.out)
                      clear H10 HAB10' hw10 d2 e2 HS9 HAB9
                all_goals
                  have HU := Lib.hid (fun W h => upto_any b s z3 34 bd2 (by omega) W h)
                  obtain ⟨vv, hvv⟩ : ∃ vv, unesc (upT 34 z3) = vv := ⟨_, rfl⟩
                  obtain ⟨z4, hz4⟩ : ∃ z4, upR 34 z3 = z4 := ⟨_, rfl⟩
                  rw [hvv, hz4] at HU
                  have HVV := Lib.hid hvv
                  have HZ4 := Lib.hid hz4
                  clear hvv hz4
                  go_wp2_with fail
                  refine (HU.out _ HS10.out.rd).mono ?_
                  rintro e w11 ⟨rfl, hr11, hb11⟩
                  have HS11 := Lib.hid (HS10.out.only hb11 hr11)
                  have hab11 : w11.heap[w7.heap.size]? = some (.cells #[.string (mk (nmT z1)), .string ⟨#[]⟩] 85 (0, 0)) := by
                    rw [hb11.block _ (lt_of_block HAB10.out) (fun e => by have := HB7.out; have := HS7Z.out; omega)]; exact HAB10.out
                  have HAB11 := Lib.hid hab11
                  have d1 : w11.frozen? ⟨w7.heap.size, 1, none⟩ = false := Lib.frozen_of_heap hab11 1
                  have d2 : w11.cell? ⟨w7.heap.size, 1, none⟩ = some (.string ⟨#[]⟩) := by rw [Lib.cell_of_heap hab11]; rfl
                  obtain ⟨w12, hw12⟩ : ∃ w12, w12 = w11.setCell ⟨w7.heap.size, 1, none⟩ (.string (mk vv)) := ⟨_, rfl⟩
                  have HAB12 := Lib.hid (show w12.heap[w7.heap.size]? = some (.cells #[.string (mk (nmT z1)), .string (mk vv)] 85 (0, 0)) by rw [hw12]; simp [World.setCell, Array.getElem?_modify, hab11])
                  have HS12 := Lib.hid (show AtSt w4 b s nm w12 z4 bd2 (.slice aa al.length ac) al by rw [hw12]; exact HS11.out.other (by have := HB7.out; have := HS7Z.out; omega) HS7Z.out HNO.out _)
                  have HW12 := Lib.hid hw12
                  clear hr11 hb11 HS10 HAB10 hab11 hw12 HU
                  go_upto_region 13 with fail
                  rw [← HW12.out]
                  have HE4 := Lib.hid (fun W h => eat_any b s [34] z4 bd2 (by omega) (by decide) W h)
                  clear d1 d2 HS11 HAB11 HW12
                  go_wp2_with fail
                  refine (HE4.out _ HS12.out.rd).mono ?_
                  rintro e w13 ⟨rfl, hr13, hb13⟩
                  have HS13 := Lib.hid (HS12.out.only hb13 hr13)
                  have hab13 : w13.heap[w7.heap.size]? = some (.cells #[.string (mk (nmT z1)), .string (mk vv)] 85 (0, 0)) := by
                    rw [hb13.block _ (lt_of_block HAB12.out) (fun e => by have := HB7.out; have := HS7Z.out; omega)]; exact HAB12.out
                  have hbx := HS13.out.box
                  have m0 : w13.cell? ⟨w7.heap.size, 0, none⟩ = some (.string (mk (nmT z1))) := by rw [Lib.cell_of_heap hab13]; rfl
                  have m1 : w13.cell? ⟨w7.heap.size, 1, none⟩ = some (.string (mk vv)) := by rw [Lib.cell_of_heap hab13]; rfl
                  have m2 : w13.cell? ⟨w4.heap.size, 1, none⟩ = some (.slice aa al.length ac) := by rw [Lib.cell_of_heap hbx]; rfl
                  have hal2 : al.length ≤ 1000000 := by omega
                  have h20 : z4.length ≤ z3.length := by rw [← HZ4.out]; exact upR_len _ _
                  clear hr13 hb13 HS12 HAB12 HE4 hab13 hbx
                  go_wp2_with (at_builtin; go_must (refine wpList_stAttr (by rfl) (.tmp 81) (.tmp 83) (by rfl) (w4 := w4) (.slice aa al.length ac) al ⟨nmT z1, vv⟩ rfl rfl HS13.out (by rfl) (by rfl) hal2 ?_); intro A C w14 hbx14 hst14; have HST14 := Lib.hid hst14; have y1 := Lib.frozen_of_heap hbx14 1; have y2 := Lib.cell_of_heap hbx14 1; clear hbx14 hst14)
                  have HG2 := Lib.hid (show attrsC (eatM [34] z4).2 bd2 (al ++ [⟨nmT z1, vv⟩]) = RA by
                    have h9 := HG.out
                    unfold atOne at h9
                    rw [HZ3.out, HVV.out, HZ4.out, ← HBD2.out] at h9
                    exact h9)
                  have h21 := (eatM_len [34] z4).1
                  go_roundg (eatM [34] z4).2.length
                  case measure => omega
                  case rel => exact ⟨_, (eatM [34] z4).2, bd2, _, _, rfl, Nat.le_refl _, by omega, by rw [List.length_append, List.length_singleton]; omega, HST14, HG2⟩
              | false =>
                rw [eatM_no h3] at HS6
                have HA := Lib.hid (show attrsC (nmR (eatM [60] cur).2) false [] = (al, z, bd) by rw [HR1.out, HZZ.out, HRA.out, ← HAT.out, attrsC_stop z bd al h3])
                have HN := Lib.hid (show nmT (eatM [60] cur).2 = nm by rw [HR1.out]; exact HNMT.out)
                have HE5 := Lib.hid (fun W h => eat_any b s [62] z bd (by omega) (by decide) W h)
                have HR1X := HR1
                clear h3 HAT HRA HR1 HZZ HNMT
                go_wp2_with fail
                refine (HE5.out _ HS6.out.rd).mono ?_
                rintro e w7 ⟨rfl, hr7, hb7⟩
                have HS7 := Lib.hid (HS6.out.only hb7 hr7)
                have HO7 := Lib.hid (HO4.out.only HS7.out.onl HRD4.out.block)
                have HB7 := Lib.hid (HB4.out.trans HS7.out.onl)
                obtain ⟨at9, hrd9, -, -⟩ := id HS7.out.rd
                obtain ⟨-, -, d2, -, e2, -⟩ := hrd9.all
                clear hr7 hb7 HS6 HE5 hrd9
                cases h6 : (eatM [62] z).1 with
                | false =>
                  have hRE := hP.out
                  rw [nodesC_bad cur nm z al bd o HNE.out H1.out H2.out HN.out HA.out h6] at hRE
                  have HRE := Lib.hid hRE
                  rw [eatM_no h6] at HS7
                  clear h6 hRE
                  go_wp2_with fail
                  exact bodyPost_ret (v := .slice none 0 0) (by simp [results, Tryz.results18, go_sem]) rfl (by rw [← HRE.out]; exact ⟨Kept.setCell HB7.out (.inl rfl) _, HS7.out.rd.setBad, _, rfl, NodeOwn.nil _ _ _⟩)
                | true =>
                  have H6 := Lib.hid h6
                  have hzl2 := (eatM_len [62] z).2 h6
                  simp only [List.length_singleton] at hzl2
                  obtain ⟨zr, hzr⟩ : ∃ zr, (eatM [62] z).2 = zr := ⟨_, rfl⟩
                  rw [hzr] at HS7 hzl2
                  have HZR := Lib.hid hzr
                  have hbx := HS7.out.box
                  have m0 : w7.cell? ⟨w4.heap.size, 0, none⟩ = some (.string (mk nm)) := by rw [Lib.cell_of_heap hbx]; rfl
                  have HVO := Lib.hid (risVoid_any nm w7)
                  clear h6 hzr hbx d2 e2
                  go_wp2_with fail
                  refine HVO.out.mono ?_
                  rintro e w8 ⟨rfl, hb8⟩
                  have HS8 := Lib.hid (HS7.out.below hb8)
                  have HO8 := Lib.hid (HO7.out.older (Older.of_below hb8))
                  have HB8 := Lib.hid (HB7.out.trans (Only.of_below hb8))
                  clear hb8 HS7 HO7 HB7 m0 HVO
                  have hbx := HS8.out.box
                  have m0 : w8.cell? ⟨w4.heap.size, 0, none⟩ = some (.string (mk nm)) := by rw [Lib.cell_of_heap hbx]; rfl
                  have m1 : w8.cell? ⟨w4.heap.size, 1, none⟩ = some (.slice aa al.length ac) := by rw [Lib.cell_of_heap hbx]; rfl
                  have m2 : w8.cell? ⟨w4.heap.size, 2, none⟩ = some (.string ⟨#[]⟩) := by rw [Lib.cell_of_heap hbx]; rfl
                  have m3 : w8.cell? ⟨w4.heap.size, 3, none⟩ = some (.slice none 0 0) := by rw [Lib.cell_of_heap hbx]; rfl
                  have f3 := Lib.frozen_of_heap hbx 3
                  have hBz8 := HB8.out.size
                  have hol2 : o.length ≤ 1000000 := by omega
                  clear hbx
                  cases hv : isVoid nm with
                  | true =>
                    have HNX := Lib.hid (show nodesC zr bd (o ++ [.mk nm al [] []]) = R by
                      rw [← HZR.out, ← nodesC_void cur nm z al bd o HNE.out H1.out H2.out HN.out HA.out H6.out hv]; exact hP.out)
                    clear hv hP
                    go_wp2_with (at_builtin; go_must (refine wpList_pushNode (by rfl) (.tmp 109) (.tmp 111) (by rfl) n w.heap.size _ o (.mk nm al [] []) (.slice aa al.length ac) (.slice none 0 0) w8 _ (by rfl) (by rfl) HO8.out HS8.out.row.view (NodeIn.nil _ _ _) w8.heap.size rfl (by rfl) hol2 hBz8 ?_); intro v' w' hown' hbl'; have HOW := Lib.hid hown'; have HBL := Lib.hid hbl'; clear hown' hbl')
                    have hal2 := after_len cur z al bd H2.out HA.out H6.out
                    rw [HZR.out] at hal2
                    go_roundg zr.length
                    case measure => omega
                    case rel => exact ⟨_, zr, bd, _, rfl, Nat.le_refl _, by omega, by rw [List.length_append, List.length_singleton]; omega, Lib.hid (HS8.out.rd.below HBL.out hbw), HOW, Lib.hid (Kept.trans HB8.out (Kept.of_below HBL.out)), HNX⟩
                  | false =>
                    have hal2 := after_len cur z al bd H2.out HA.out H6.out
                    rw [HZR.out] at hal2
                    have hnml : nm.length ≤ r1.length := by rw [← HN.out, HR1X.out]; exact (List.takeWhile_prefix _).length_le
                    obtain ⟨X, hX⟩ : ∃ X, nodesC zr bd [] = X := ⟨_, rfl⟩
                    obtain ⟨ps, y, c⟩ := X
                    have HCC := Lib.hid (HIH.out (n - 1) (by omega) b s zr bd w8 (by omega) hs HS8.out.rd)
                    rw [hX] at HCC
                    have hyl := nodesC_len zr bd []
                    rw [hX] at hyl
                    simp only at hyl
                    have HNX := Lib.hid (show nodesC (eatM (60 :: 47 :: nm ++ [62]) y).2 (c || !(eatM (60 :: 47 :: nm ++ [62]) y).1) (o ++ [.mk nm al [] ps]) = R by
                      rw [← nodesC_elem cur nm z al bd o HNE.out H1.out H2.out HN.out HA.out H6.out hv ps y c (by rw [HZR.out]; exact hX)]; exact hP.out)
                    have HZ48 := Lib.hid (lt_of_block HS8.out.box)
                    clear hv hP hX m0 m1 m2 m3 f3
                    go_wp2_with fail
                    refine HCC.out.mono ?_
                    rintro e w9 ⟨hb9, hr9, pv, rfl, hown9⟩
                    obtain ⟨pa, pc, hpf⟩ := hown9.view.form
                    subst hpf
                    have hs9 := HS8.out.only hb9 hr9
                    have HEL := Lib.hid (ElSt.make HO4.out HRD4.out HB4.out hs9 hown9 HZ48.out (by omega))
                    have f3 := Lib.frozen_of_heap hs9.box 3
                    have m3 : w9.cell? ⟨w4.heap.size, 3, none⟩ = some (.slice none 0 0) := by rw [Lib.cell_of_heap hs9.box]; rfl
                    obtain ⟨w10, hw10⟩ : ∃ w10, w10 = w9.setCell ⟨w4.heap.size, 3, none⟩ (.slice pa ps.length pc) := ⟨_, rfl⟩
                    have HW10 := Lib.hid hw10
                    rw [← hw10] at HEL
                    clear hw10 hs9 hown9 hr9 hb9 HCC HS8 HO8 HB8
                    go_upto_region 20 with fail
                    rw [← HW10.out]
                    clear f3 m3 HW10
                    have m0 : w10.cell? ⟨w4.heap.size, 0, none⟩ = some (.string (mk nm)) := by rw [Lib.cell_of_heap HEL.out.box]; rfl
                    have hnz : (mk nm).size ≤ 1000 := by rw [mk_size]; omega
                    have q1 : ¬ 9223372036854775807 < 2 + (mk nm).size := by omega
                    have q2 : ¬ 9223372036854775807 < 2 + (mk nm).size + 1 := by omega
                    have hcat : (⟨#[60, 47]⟩ : ByteArray) ++ mk nm ++ (⟨#[62]⟩ : ByteArray) = mk (60 :: 47 :: nm ++ [62]) := by
                      rw [show (⟨#[60, 47]⟩ : ByteArray) = mk [60, 47] from rfl, show (⟨#[62]⟩ : ByteArray) = mk [62] from rfl, cat_mk, cat_mk]; rfl
                    have HCAT := Lib.hid hcat
                    clear hcat
                    have HE6 := Lib.hid (fun W h => eat_any b s (60 :: 47 :: nm ++ [62]) y c (by omega) (by simp; omega) W h)
                    go_wp2_with fail
                    rw [HCAT.out]
                    refine (HE6.out _ HEL.out.rd).mono ?_
                    rintro e w11 ⟨rfl, hr11, hb11⟩
                    have HEL11 := Lib.hid (HEL.out.only hb11 hr11)
                    obtain ⟨at9, hrd9, -, -⟩ := id HEL11.out.rd
                    obtain ⟨-, -, d2, -, e2, -⟩ := hrd9.all
                    obtain ⟨c2, hc2⟩ : ∃ c2, (c || !(eatM (60 :: 47 :: nm ++ [62]) y).1) = c2 := ⟨_, rfl⟩
                    obtain ⟨y2, hy2⟩ : ∃ y2, (eatM (60 :: 47 :: nm ++ [62]) y).2 = y2 := ⟨_, rfl⟩
                    have hy2l := (eatM_len (60 :: 47 :: nm ++ [62]) y).1
                    rw [hy2] at hy2l HEL11 HNX
                    rw [hc2] at HNX
                    have HC2 := Lib.hid hc2
                    clear hr11 hb11 hrd9 HEL HE6 q1 q2 HCAT m0 hc2 hy2
                    cases h7 : (eatM (60 :: 47 :: nm ++ [62]) y).1
                    all_goals
                      first
                        | have h5 : (eatM (60 :: 47 :: nm ++ [62]) y).1 = true := h7
                          clear h5
                          have H12 := Lib.hid (show ElSt n b s w w4.heap.size (.slice oa o.length oc) o nm (.slice aa al.length ac) al (.slice pa ps.length pc) ps w11 y2 c2 by rw [← HC2.out, h7]; simpa using HEL11.out)
                          clear h7
                          go_upto_region 22 with fail
                          obtain ⟨w12, hw12⟩ : ∃ w12, w12 = w11 := ⟨_, rfl⟩
                          rw [← hw12]
                          have HEL12 := Lib.hid (show ElSt n b s w w4.heap.size (.slice oa o.length oc) o nm (.slice aa al.length ac) al (.slice pa ps.length pc) ps w12 y2 c2 by rw [hw12]; exact H12.out)
                          clear H12 hw12 d2 e2 HEL11
                        | have h5 : (eatM (60 :: 47 :: nm ++ [62]) y).1 = false := h7
                          clear h5
                          have H12 := Lib.hid (show ElSt n b s w w4.heap.size (.slice oa o.length oc) o nm (.slice aa al.length ac) al (.slice pa ps.length pc) ps (w11.setCell ⟨b, 2, none⟩ (.bool true)) y2 c2 by rw [← HC2.out, h7, Bool.not_false, Bool.or_true]; exact HEL11.out.setBad)
                          clear h7
                          go_upto_region 22 with fail
                          obtain ⟨w12, hw12⟩ : ∃ w12, w12 = w11.setCell ⟨b, 2, none⟩ (.bool true) := ⟨_, rfl⟩
                          rw [← hw12]
                          have HEL12 := Lib.hid (show ElSt n b s w w4.heap.size (.slice oa o.length oc) o nm (.slice aa al.length ac) al (.slice pa ps.length pc) ps w12 y2 c2 by rw [hw12]; exact H12.out)
                          clear H12 hw12 d2 e2 HEL11
                    all_goals
                      have hbx := HEL12.out.box
                      have m0 : w12.cell? ⟨w4.heap.size, 0, none⟩ = some (.string (mk nm)) := by rw [Lib.cell_of_heap hbx]; rfl
                      have m1 : w12.cell? ⟨w4.heap.size, 1, none⟩ = some (.slice aa al.length ac) := by rw [Lib.cell_of_heap hbx]; rfl
                      have m2 : w12.cell? ⟨w4.heap.size, 2, none⟩ = some (.string ⟨#[]⟩) := by rw [Lib.cell_of_heap hbx]; rfl
                      have m3 : w12.cell? ⟨w4.heap.size, 3, none⟩ = some (.slice pa ps.length pc) := by rw [Lib.cell_of_heap hbx]; rfl
                      have hBz9 := HEL12.out.onl.size
                      clear hbx
                      go_wp2_with (at_builtin; go_must (refine wpList_pushNode (by rfl) (.tmp 109) (.tmp 111) (by rfl) n w.heap.size _ o (.mk nm al [] ps) (.slice aa al.length ac) (.slice pa ps.length pc) w12 _ (by rfl) (by rfl) HEL12.out.own HEL12.out.ats HEL12.out.pts w12.heap.size rfl (by rfl) hol2 hBz9 ?_); intro v' w' hown' hbl'; have HOW := Lib.hid hown'; have HBL := Lib.hid hbl'; clear hown' hbl')
                      go_roundg y2.length
                      case measure => omega
                      case rel => exact ⟨_, y2, c2, _, rfl, Nat.le_refl _, by omega, by rw [List.length_append, List.length_singleton]; omega, Lib.hid (HEL12.out.rd.below HBL.out hbw), HOW, Lib.hid (Kept.trans HEL12.out.onl (Kept.of_below HBL.out)), HNX⟩
end Go.Proofs.YtjkgmdnkejjppaaGreatDoor
