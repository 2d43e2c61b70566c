/- Walk of the reference's tagAt. -/
import Derived.Test.YtbgonaacheemcaaDoorRWalkD
import Derived.Test.YtbgonaacheemcaaDoorRWalkE
namespace Go.Proofs.YtbgonaacheemcaaDoor
open Go Go.RowKit

/-- What tagAt gives. -/
def TagAtPost (B : Nat) (s : ByteArray) (w : World) (R : Option (TTok × Bytes)) (e : Ending) (w' : World) : Prop :=
  Below B w w' ∧ match R with
    | none => e = .returned (.tuple #[.agg #[.int .i64 0, .string ⟨#[]⟩, .slice none 0 0, .bool false, .string ⟨#[]⟩], .int .i64 0, .bool false])
    | some (y, r2) => ∃ va, e = .returned (.tuple #[.agg #[.int .i64 0, .string (mk y.name), va, .bool y.self, .string ⟨#[]⟩], .int .i64 (s.size - r2.length : Nat), .bool true]) ∧ AttrRow B w' va y.attrs

set_option maxHeartbeats 16000000 in
set_option maxRecDepth 100000 in
theorem tagAt_any (s : ByteArray) (at0 : Nat) (w : World) (hs : s.size ≤ 1000000) (ha : at0 ≤ s.size) :
    Calls Tryd.prog 18 #[.string s, .int .i64 at0] w fun e w' => TagAtPost w.heap.size s w (mName [] ((lst s).drop at0)) e w' := by
  generalize hRR : mName [] ((lst s).drop at0) = R
  have HRR := Lib.hid hRR
  clear hRR
  obtain ⟨w1, hw1⟩ : ∃ w1, w1 = w.alloc (.cells #[.int .i64 0, .string ⟨#[]⟩, .slice none 0 0, .bool false, .string ⟨#[]⟩] 31) := ⟨_, rfl⟩
  obtain ⟨w2, hw2⟩ : ∃ w2, w2 = w1.alloc (.cells #[.int .i64 0, .string ⟨#[]⟩, .slice none 0 0, .bool false, .string ⟨#[]⟩] 31) := ⟨_, rfl⟩
  have hb1 : Below w.heap.size w w1 := by rw [hw1]; exact (Below.refl _ w).alloc (Nat.le_refl _) _
  have hz1 : w1.heap.size = w.heap.size + 1 := by rw [hw1]; simp
  have ht1 : TokBlk w1 w.heap.size 0 (mk []) (.slice none 0 0) false := by rw [hw1]; exact heap_alloc_new w _
  have ht2 : TokBlk w2 (w.heap.size + 1) 0 (mk []) (.slice none 0 0) false := by rw [hw2, ← hz1]; exact heap_alloc_new w1 _
  have hb2 : Below w1.heap.size w1 w2 := by rw [hw2]; exact (Below.refl _ w1).alloc (Nat.le_refl _) _
  have HT0 := Lib.hid (show TagRel w w2 (.slice none 0 0) [] [] from ⟨AttrRow.nil _ _, ht1.older hb2, ht2, hb1.trans (hb2.mono hb1.size)⟩)
  have HW := Lib.hid (show (w.alloc (.cells #[.int .i64 0, .string ⟨#[]⟩, .slice none 0 0, .bool false, .string ⟨#[]⟩] 31)).alloc (.cells #[.int .i64 0, .string ⟨#[]⟩, .slice none 0 0, .bool false, .string ⟨#[]⟩] 31) = w2 by rw [hw2, hw1])
  clear hb1 hb2 ht1 ht2 hz1 hw1 hw2
  go_enter Tryd.func18, Tryd.ntmps18
  go_wp2_with fail
  rw [HW.out]
  go_loopw [1, 8, 9, 10, 11, 12, 13] (fun vat vall vst vnm vval vq vsl wr => ∃ (W : World) (a st : Nat) (nm0 nm va : Bytes) (q : UInt8) (sl : Bool) (al : List TAttr), W = wr ∧ vat = .int .i64 a ∧ a ≤ s.size ∧ vst = .int .i64 st ∧ st ≤ 6 ∧ vnm = .string (mk nm) ∧ vval = .string (mk va) ∧ vq = .int .u8 q.toNat ∧ vsl = .bool sl ∧ nm0.length ≤ a ∧ nm.length ≤ a ∧ va.length ≤ a ∧ al.length ≤ a ∧
      Hid (st = 0 → al = []) ∧ Hid (TagRel w wr vall nm0 al) ∧ Hid (meanT st nm0 nm va q sl al ((lst s).drop a) = R)) (fun vat _ vst _ _ _ _ _ => 2 * (s.size - (intOf vat).toNat) + (if intOf vst = 4 then 1 else 0))
  case atStart => exact ⟨_, at0, 0, [], [], [], 0, false, [], rfl, rfl, ha, rfl, by omega, rfl, rfl, rfl, rfl, by simp, by simp, by simp, by simp, Lib.hid (fun _ => rfl), HT0, Lib.hid (by unfold meanT; rw [if_pos rfl]; exact HRR.out)⟩
  case round =>
    obtain ⟨W, a, st, nm0, nm, va, q, sl, al, rfl, rfl, hat, rfl, hst, rfl, rfl, rfl, rfl, z0, z1, z2, z3, HZ, HT, HM⟩ := hrel
    by_cases hlt : a < s.size
    · have hdr : (lst s).drop a = s[a]'hlt :: (lst s).drop (a + 1) := List.drop_eq_getElem_cons (by rw [lst_length]; exact hlt)
      obtain ⟨r, hr⟩ : ∃ r, (lst s).drop (a + 1) = r := ⟨_, rfl⟩
      have hm := HM.out
      rw [hdr, hr] at hm
      have hlow := fun (W : World) => lowered_any (mk nm) W (by rw [mk_size]; omega)
      have hune := fun (W : World) => refUnescape_any (mk va) W (by rw [mk_size]; omega)
      simp only [lst_mk] at hlow hune
      have HLow := Lib.hid hlow
      have HUne := Lib.hid hune
      have HR1 := Lib.hid hr
      have HDR := Lib.hid hdr
      have HM2 := Lib.hid hm
      clear hdr HM hm hr hlow hune HRR HT0 HW
      go_upto_region 10 with fail
      rename_i K hK
      refine stop_here hK ?_
      intro T hT HT2
      clear hK
      go_wp2_with fail
      generalize hb : s[a]'hlt = b at *
      have HBb := Lib.hid hb
      clear hb
      have HS := Lib.hid (isSpace_any b)
      refine HT2.out _ _ ?_
      clear HT2
      apply wp_seq_k
      intro K1 hK1
      go_cut [9, 13] (fun vst vsl wx => wx = W ∧ ∃ (st1 : Nat) (sl1 : Bool), vst = .int .i64 st1 ∧ 1 ≤ st1 ∧ st1 ≤ 6 ∧ vsl = .bool sl1 ∧ Hid (tagR nm0 (meanA st1 nm va q sl1 al (b :: r)) = R) ∧ Hid (st1 = 4 → st = 4))
      case first => as_aux_lemma =>
        by_cases hs0 : st = 0
        · subst hs0
          have hal := HZ.out rfl
          have HAL := Lib.hid hal
          clear hal
          cases he : nameEnd.contains b with
          | true =>
            have HM3 := Lib.hid (show tagR nm0 (meanA 1 nm va q false al (b :: r)) = R by
              have h : mName nm0 (b :: r) = R := HM2.out
              rw [mName_out _ _ _ he] at h
              rw [HAL.out]; exact h)
            have hec := end_cases he
            clear HM2 he
            rcases hec with e1 | ⟨e1, hmem⟩
            · obtain ⟨n1, n2, _⟩ := sp_not e1
              have HSt := fun W => HS.out W
              rw [e1] at HSt
              have HSt := Lib.hid HSt
              clear e1 n1 n2
              go_wp2_with fail
              refine (HSt.out W).mono ?_
              rintro e w' ⟨rfl, hw⟩
              rw [← hw]
              clear hw w'
              go_wp2_with fail
              go_meet
              exact ⟨rfl, 1, false, rfl, by omega, by omega, rfl, HM3, Lib.hid (fun h => absurd h (by decide))⟩
            · have HSt := fun W => HS.out W
              rw [e1] at HSt
              have HSt := Lib.hid HSt
              clear e1
              have hb2 : b = 47 ∨ (b ≠ 47 ∧ b = 62) := by
                by_cases h : b = 47
                · exact .inl h
                · simp only [List.mem_cons, List.not_mem_nil, or_false] at hmem
                  exact .inr ⟨h, hmem.resolve_left h⟩
              clear hmem
              rcases hb2 with hb2 | ⟨hb1, hb2⟩
              · obtain ⟨f1, f2⟩ := bEq47 hb2
                clear hb2 f1
                go_wp2_with fail
                refine (HSt.out W).mono ?_
                rintro e w' ⟨rfl, hw⟩
                rw [← hw]
                clear hw w'
                go_wp2_with fail
                go_meet
                exact ⟨rfl, 1, false, rfl, by omega, by omega, rfl, HM3, Lib.hid (fun h => absurd h (by decide))⟩
              · obtain ⟨f1, f2⟩ := bNe47 hb1
                obtain ⟨f3, f4⟩ := bEq62 hb2
                clear hb2 hb1 f1 f3
                go_wp2_with fail
                refine (HSt.out W).mono ?_
                rintro e w' ⟨rfl, hw⟩
                rw [← hw]
                clear hw w'
                go_wp2_with fail
                go_meet
                exact ⟨rfl, 1, false, rfl, by omega, by omega, rfl, HM3, Lib.hid (fun h => absurd h (by decide))⟩
          | false =>
            have HM3 := Lib.hid (show meanT 0 (nm0 ++ [b]) nm va q sl al ((lst s).drop (a + 1)) = R by
              have h : mName nm0 (b :: r) = R := HM2.out
              rw [mName_in _ _ _ he] at h
              rw [HR1.out]; exact h)
            obtain ⟨e1, hmem⟩ := end_not he
            have n47 : b ≠ 47 := fun h => hmem (by simp [h])
            have n62 : b ≠ 62 := fun h => hmem (by simp [h])
            obtain ⟨f1, f2⟩ := bNe47 n47
            obtain ⟨f3, f4⟩ := bNe62 n62
            have HSt := fun W => HS.out W
            rw [e1] at HSt
            have HSt := Lib.hid HSt
            obtain ⟨t0, t1, t2, t3, t4, tf2, tf3, tl⟩ := HT.out.tok.all
            have tf1 := Lib.frozen_of_heap HT.out.tok 1
            have hcv := conv_one W b
            have hA := fun o : Obj => (MapKept.heap_alloc W o).2 (w.heap.size + 1) tl
            clear e1 hmem n47 n62 he f1 f3 t0 t2 t3 t4 tf2 tf3 HM2
            go_wp2_with fail
            refine (HSt.out W).mono ?_
            rintro e w' ⟨rfl, hw⟩
            rw [← hw]
            clear hw w'
            have hcat : ¬ 9223372036854775807 < (mk nm0).size + (mk [b]).size := by rw [mk_size, mk_size]; simp only [List.length_cons, List.length_nil]; omega
            go_wp2_with fail
            go_roundw
            case rel =>
              refine ⟨_, a + 1, 0, nm0 ++ [b], nm, va, q, sl, al, rfl, by go_num, by omega, rfl, by omega, rfl, rfl, rfl, rfl, by rw [List.length_append]; simp; omega, by omega, by omega, by omega, Lib.hid (fun _ => HAL.out), Lib.hid ?_, HM3⟩
              rw [mk_append]
              exact HT.out.name _ _
            case measure => simp [intOf]; omega
        · have HM3 := Lib.hid (show tagR nm0 (meanA st nm va q sl al (b :: r)) = R by
            have h := HM2.out
            unfold meanT at h
            rw [if_neg hs0] at h; exact h)
          have e0 : ((st : Int) == 0) = false := beq_eq_false_iff_ne.2 (by omega)
          have hs1 : 1 ≤ st := by omega
          clear hs0 HM2
          go_wp2_with fail
          go_meet
          exact ⟨rfl, st, sl, rfl, hs1, hst, rfl, HM3, Lib.hid (fun h => h)⟩
      case rest => as_aux_lemma =>
        obtain ⟨hwc, st1, sl1, rfl, hs1, hs6, rfl, HM3, HQ1⟩ := hcut
        have hwc2 := hwc.symm
        clear hwc HM2 HZ hst
        subst hwc2
        refine hK1 _ _ ?_
        clear hK1
        apply wp_seq_k
        intro K2 hK2
        go_cut [9] (fun vst wx => wx = W ∧ ∃ st2 : Nat, vst = .int .i64 st2 ∧ 1 ≤ st2 ∧ st2 ≤ 6 ∧ Hid (st2 = 2 → attrEnd.contains b = false) ∧ Hid (tagR nm0 (meanA st2 nm va q sl1 al (b :: r)) = R) ∧ Hid (st2 = 4 → st = 4))
        case first => as_aux_lemma =>
          by_cases hst2 : st1 = 2
          · subst hst2
            cases he : attrEnd.contains b with
            | true =>
              have HM4 := Lib.hid (show tagR nm0 (meanA 3 nm va q sl1 al (b :: r)) = R by
                have h : tagR nm0 (mAttr (dedup al) nm (b :: r)) = R := HM3.out
                rw [mAttr_out _ _ _ _ he] at h; exact h)
              have hec := end_cases he
              clear HM3 he hs1 hs6
              rcases hec with e1 | ⟨e1, hmem⟩
              · have HSt := fun W => HS.out W
                rw [e1] at HSt
                have HSt := Lib.hid HSt
                clear e1
                go_wp2_with fail
                refine (HSt.out W).mono ?_
                rintro e w' ⟨rfl, hw⟩
                rw [← hw]
                clear hw w'
                go_wp2_with fail
                go_meet
                exact ⟨rfl, 3, rfl, by omega, by omega, Lib.hid (fun h => absurd h (by decide)), HM4, Lib.hid (fun h => absurd h (by decide))⟩
              · have HSt := fun W => HS.out W
                rw [e1] at HSt
                have HSt := Lib.hid HSt
                clear e1
                have hb2 : b = 47 ∨ (b ≠ 47 ∧ b = 62) ∨ (b ≠ 47 ∧ b ≠ 62 ∧ b = 61) := by
                  simp only [List.mem_cons, List.not_mem_nil, or_false] at hmem
                  by_cases h : b = 47
                  · exact .inl h
                  · by_cases h2 : b = 62
                    · exact .inr (.inl ⟨h, h2⟩)
                    · exact .inr (.inr ⟨h, h2, (hmem.resolve_left h).resolve_left h2⟩)
                clear hmem
                rcases hb2 with hb2 | ⟨hb1, hb2⟩ | ⟨hb1, hb2, hb3⟩
                · obtain ⟨f1, f2⟩ := bEq47 hb2
                  clear hb2 f2
                  go_wp2_with fail
                  refine (HSt.out W).mono ?_
                  rintro e w' ⟨rfl, hw⟩
                  rw [← hw]
                  clear hw w'
                  go_wp2_with fail
                  go_meet
                  exact ⟨rfl, 3, rfl, by omega, by omega, Lib.hid (fun h => absurd h (by decide)), HM4, Lib.hid (fun h => absurd h (by decide))⟩
                · obtain ⟨f1, f2⟩ := bNe47 hb1
                  obtain ⟨f3, f4⟩ := bEq62 hb2
                  clear hb1 hb2 f2 f4
                  go_wp2_with fail
                  refine (HSt.out W).mono ?_
                  rintro e w' ⟨rfl, hw⟩
                  rw [← hw]
                  clear hw w'
                  go_wp2_with fail
                  go_meet
                  exact ⟨rfl, 3, rfl, by omega, by omega, Lib.hid (fun h => absurd h (by decide)), HM4, Lib.hid (fun h => absurd h (by decide))⟩
                · obtain ⟨f1, f2⟩ := bNe47 hb1
                  obtain ⟨f3, f4⟩ := bNe62 hb2
                  obtain ⟨f5, f6⟩ := bEq61 hb3
                  clear hb1 hb2 hb3 f2 f4 f6
                  go_wp2_with fail
                  refine (HSt.out W).mono ?_
                  rintro e w' ⟨rfl, hw⟩
                  rw [← hw]
                  clear hw w'
                  go_wp2_with fail
                  go_meet
                  exact ⟨rfl, 3, rfl, by omega, by omega, Lib.hid (fun h => absurd h (by decide)), HM4, Lib.hid (fun h => absurd h (by decide))⟩
            | false =>
              obtain ⟨e1, hmem⟩ := end_not he
              have n47 : b ≠ 47 := fun h => hmem (by simp [h])
              have n62 : b ≠ 62 := fun h => hmem (by simp [h])
              have n61 : b ≠ 61 := fun h => hmem (by simp [h])
              obtain ⟨f1, f2⟩ := bNe47 n47
              obtain ⟨f3, f4⟩ := bNe62 n62
              obtain ⟨f5, f6⟩ := bNe61 n61
              have HSt := fun W => HS.out W
              rw [e1] at HSt
              have HSt := Lib.hid HSt
              have HE := Lib.hid he
              clear e1 hmem n47 n62 n61 he f2 f4 f6 hs1 hs6
              go_wp2_with fail
              refine (HSt.out W).mono ?_
              rintro e w' ⟨rfl, hw⟩
              rw [← hw]
              clear hw w'
              go_wp2_with fail
              go_meet
              exact ⟨rfl, 2, rfl, by omega, by omega, Lib.hid (fun _ => HE.out), HM3, Lib.hid (fun h => absurd h (by decide))⟩
          · have e2 : ((st1 : Int) == 2) = false := beq_eq_false_iff_ne.2 (by omega)
            have HN := Lib.hid hst2
            clear hst2
            go_wp2_with fail
            go_meet
            exact ⟨rfl, st1, rfl, hs1, hs6, Lib.hid (fun h => absurd h HN.out), HM3, HQ1⟩
        case rest => as_aux_lemma =>
          obtain ⟨hwc, st2, rfl, hs1, hs6, HA2, HM4, HQ2⟩ := hcut
          have hwc2 := hwc.symm
          clear hwc HM3
          subst hwc2
          refine hK2 _ _ ?_
          clear hK2
          apply wp_seq_k
          intro K3 hK3
          go_cut [8, 9, 13] (fun vall vst vsl wx => ∃ (st3 : Nat) (sl3 : Bool) (al3 : List TAttr), vst = .int .i64 st3 ∧ 1 ≤ st3 ∧ st3 ≤ 6 ∧ vsl = .bool sl3 ∧ al3.length ≤ a + 1 ∧ Hid (st3 = 2 → attrEnd.contains b = false) ∧ Hid (st3 = 6 → bareEnd.contains b = false) ∧ Hid (TagRel w wx vall nm0 al3) ∧ Hid (tagR nm0 (meanA st3 nm va q sl3 al3 (b :: r)) = R) ∧ Hid (st3 = 1 ∨ al3.length ≤ a) ∧ Hid (st3 = 4 → st = 4))
          case first => as_aux_lemma =>
            by_cases hst3 : st2 = 6
            · subst hst3
              cases he : bareEnd.contains b with
              | true =>
                have HM5 := Lib.hid (show tagR nm0 (meanA 1 nm va q false (al ++ [⟨small nm, unesc va⟩]) (b :: r)) = R by
                  have h : tagR nm0 (mBare (dedup al) nm va (b :: r)) = R := HM4.out
                  rw [mBare_end _ _ _ _ _ he, ← dedup_snoc] at h; exact h)
                have hec := end_cases he
                clear HM4 he hs1 hs6 HA2
                rcases hec with e1 | ⟨e1, hmem⟩
                · have HSt := fun W => HS.out W
                  rw [e1] at HSt
                  have HSt := Lib.hid HSt
                  clear e1
                  go_wp2_with fail
                  refine (HSt.out W).mono ?_
                  rintro e w' ⟨rfl, hw⟩
                  rw [← hw]
                  clear hw w'
                  go_wp2_with fail
                  refine (HLow.out _).mono ?_
                  rintro e w4 ⟨rfl, hb4⟩
                  have HT4 := Lib.hid (HT.out.older hb4)
                  clear hb4
                  go_wp2_with fail
                  refine (HUne.out w4).mono ?_
                  rintro e w5 ⟨rfl, hb5⟩
                  have HT5 := Lib.hid (HT4.out.older hb5)
                  clear hb5 HT4
                  have hal9 : al.length ≤ 1000000 := by omega
                  go_wp2_with (at_builtin; refine wpList_append_attr (by rfl) (.tmp 77) (.tmp 83) (by rfl) _ nm0 al ⟨small nm, unesc va⟩ (by rfl) (by rfl) (by rfl) (by rfl) HT5.out hal9 ?_; intro v' w6 hT6; have HT6 := Lib.hid hT6; clear hT6)
                  go_wp2_with fail
                  go_meet
                  exact ⟨1, false, al ++ [⟨small nm, unesc va⟩], rfl, by omega, by omega, rfl, by rw [List.length_append]; simp; omega, Lib.hid (fun h => absurd h (by decide)), Lib.hid (fun h => absurd h (by decide)), HT6, HM5, Lib.hid (.inl rfl), Lib.hid (fun h => absurd h (by decide))⟩
                · have HSt := fun W => HS.out W
                  rw [e1] at HSt
                  have HSt := Lib.hid HSt
                  have hb2 : b = 62 := by simpa using hmem
                  obtain ⟨f1, f2⟩ := bEq62 hb2
                  clear e1 hmem hb2 f2
                  go_wp2_with fail
                  refine (HSt.out W).mono ?_
                  rintro e w' ⟨rfl, hw⟩
                  rw [← hw]
                  clear hw w'
                  go_wp2_with fail
                  refine (HLow.out _).mono ?_
                  rintro e w4 ⟨rfl, hb4⟩
                  have HT4 := Lib.hid (HT.out.older hb4)
                  clear hb4
                  go_wp2_with fail
                  refine (HUne.out w4).mono ?_
                  rintro e w5 ⟨rfl, hb5⟩
                  have HT5 := Lib.hid (HT4.out.older hb5)
                  clear hb5 HT4
                  have hal9 : al.length ≤ 1000000 := by omega
                  go_wp2_with (at_builtin; refine wpList_append_attr (by rfl) (.tmp 77) (.tmp 83) (by rfl) _ nm0 al ⟨small nm, unesc va⟩ (by rfl) (by rfl) (by rfl) (by rfl) HT5.out hal9 ?_; intro v' w6 hT6; have HT6 := Lib.hid hT6; clear hT6)
                  go_wp2_with fail
                  go_meet
                  exact ⟨1, false, al ++ [⟨small nm, unesc va⟩], rfl, by omega, by omega, rfl, by rw [List.length_append]; simp; omega, Lib.hid (fun h => absurd h (by decide)), Lib.hid (fun h => absurd h (by decide)), HT6, HM5, Lib.hid (.inl rfl), Lib.hid (fun h => absurd h (by decide))⟩
              | false =>
                obtain ⟨e1, hmem⟩ := end_not he
                have n62 : b ≠ 62 := fun h => hmem (by simp [h])
                obtain ⟨f1, f2⟩ := bNe62 n62
                have HSt := fun W => HS.out W
                rw [e1] at HSt
                have HSt := Lib.hid HSt
                have HE := Lib.hid he
                clear e1 hmem n62 he f2 hs1 hs6
                go_wp2_with fail
                refine (HSt.out W).mono ?_
                rintro e w' ⟨rfl, hw⟩
                rw [← hw]
                clear hw w'
                go_wp2_with fail
                go_meet
                exact ⟨6, sl1, al, rfl, by omega, by omega, rfl, by omega, HA2, Lib.hid (fun _ => HE.out), HT, HM4, Lib.hid (.inr z3), Lib.hid (fun h => absurd h (by decide))⟩
            · have e6 : ((st2 : Int) == 6) = false := beq_eq_false_iff_ne.2 (by omega)
              have HN := Lib.hid hst3
              clear hst3
              go_wp2_with fail
              go_meet
              exact ⟨st2, sl1, al, rfl, hs1, hs6, rfl, by omega, HA2, Lib.hid (fun h => absurd h HN.out), HT, HM4, Lib.hid (.inr z3), HQ2⟩
          case rest => as_aux_lemma =>
            obtain ⟨st3, sl3, al3, rfl, hs1, hs6, rfl, z4, HA3, HA6, HT3, HM5, HZ3, HQ3⟩ := hcut
            clear HM4 HA2 HT
            obtain ⟨W3, hW3⟩ : ∃ W3, W3 = wc := ⟨_, rfl⟩
            subst hW3
            refine hK3 _ _ ?_
            clear hK3
            apply wp_seq_k
            intro K4 hK4
            go_cut [8, 9, 13] (fun vall vst vsl wx => ∃ (st4 : Nat) (sl4 : Bool) (al4 : List TAttr), vst = .int .i64 st4 ∧ 1 ≤ st4 ∧ st4 ≤ 6 ∧ vsl = .bool sl4 ∧ al4.length ≤ a + 1 ∧ Hid (st4 = 2 → attrEnd.contains b = false) ∧ Hid (st4 = 6 → bareEnd.contains b = false) ∧ Hid (st4 = 3 → spaces.contains b = true ∨ spaces.contains b = false ∧ b = 61) ∧ Hid (TagRel w wx vall nm0 al4) ∧ Hid (tagR nm0 (meanA st4 nm va q sl4 al4 (b :: r)) = R) ∧ Hid (st4 = 1 ∨ al4.length ≤ a) ∧ Hid (st4 = 4 → st = 4))
            case first => as_aux_lemma =>
              by_cases hst4 : st3 = 3
              · subst hst4
                have hz3 := HZ3.out.resolve_left (by decide)
                cases he : spaces.contains b with
                | true =>
                  have HSt := fun W => HS.out W
                  rw [he] at HSt
                  have HSt := Lib.hid HSt
                  have HE := Lib.hid he
                  clear he hs1 hs6
                  go_wp2_with fail
                  refine (HSt.out W3).mono ?_
                  rintro e w' ⟨rfl, hw⟩
                  rw [← hw]
                  clear hw w'
                  go_wp2_with fail
                  go_meet
                  exact ⟨3, sl3, al3, rfl, by omega, by omega, rfl, by omega, HA3, HA6, Lib.hid (fun _ => .inl HE.out), HT3, HM5, HZ3, Lib.hid (fun h => absurd h (by decide))⟩
                | false =>
                  have HSt := fun W => HS.out W
                  rw [he] at HSt
                  have HSt := Lib.hid HSt
                  by_cases hb2 : b = 61
                  · obtain ⟨f1, f2⟩ := bEq61 hb2
                    have HE := Lib.hid (show spaces.contains b = false ∧ b = 61 from ⟨he, hb2⟩)
                    clear he hb2 f1 hs1 hs6
                    go_wp2_with fail
                    refine (HSt.out W3).mono ?_
                    rintro e w' ⟨rfl, hw⟩
                    rw [← hw]
                    clear hw w'
                    go_wp2_with fail
                    go_meet
                    exact ⟨3, sl3, al3, rfl, by omega, by omega, rfl, by omega, HA3, HA6, Lib.hid (fun _ => .inr HE.out), HT3, HM5, HZ3, Lib.hid (fun h => absurd h (by decide))⟩
                  · obtain ⟨f1, f2⟩ := bNe61 hb2
                    have HM6 := Lib.hid (show tagR nm0 (meanA 1 nm va q false (al3 ++ [⟨small nm, []⟩]) (b :: r)) = R by
                      have h : tagR nm0 (mBehind (dedup al3) nm (b :: r)) = R := HM5.out
                      rw [mBehind_else _ _ _ _ he hb2, ← dedup_snoc] at h; exact h)
                    clear he hb2 f1 hs1 hs6 HM5
                    go_wp2_with fail
                    refine (HSt.out W3).mono ?_
                    rintro e w' ⟨rfl, hw⟩
                    rw [← hw]
                    clear hw w'
                    go_wp2_with fail
                    refine (HLow.out _).mono ?_
                    rintro e w4 ⟨rfl, hb4⟩
                    have HT4 := Lib.hid (HT3.out.older hb4)
                    clear hb4
                    have HT5 := HT4
                    clear HT4
                    have hal9 : al3.length ≤ 1000000 := by omega
                    go_wp2_with (at_builtin; refine wpList_append_attr (by rfl) (.tmp 96) (.tmp 100) (by rfl) _ nm0 al3 ⟨small nm, []⟩ (by rfl) (by rfl) (by rfl) (by rfl) HT5.out hal9 ?_; intro v' w6 hT6; have HT6 := Lib.hid hT6; clear hT6)
                    go_wp2_with fail
                    go_meet
                    exact ⟨1, false, al3 ++ [⟨small nm, []⟩], rfl, by omega, by omega, rfl, by rw [List.length_append]; simp; omega, Lib.hid (fun h => absurd h (by decide)), Lib.hid (fun h => absurd h (by decide)), Lib.hid (fun h => absurd h (by decide)), HT6, HM6, Lib.hid (.inl rfl), Lib.hid (fun h => absurd h (by decide))⟩
              · have e3 : ((st3 : Int) == 3) = false := beq_eq_false_iff_ne.2 (by omega)
                have HN := Lib.hid hst4
                clear hst4
                go_wp2_with fail
                go_meet
                exact ⟨st3, sl3, al3, rfl, hs1, hs6, rfl, by omega, HA3, HA6, Lib.hid (fun h => absurd h HN.out), HT3, HM5, HZ3, HQ3⟩
            case rest => as_aux_lemma =>
              obtain ⟨st4, sl4, al4, rfl, hs1, hs6, rfl, z5, HB2, HB6, HB3, HT4, HM6, HZ4, HQ4⟩ := hcut
              clear HM5 HA3 HA6 HT3 HZ3 z4
              obtain ⟨W4, hW4⟩ : ∃ W4, W4 = wc := ⟨_, rfl⟩
              subst hW4
              refine hK4 _ _ ?_
              clear hK4
              have hw6 : st4 = 1 ∨ st4 = 2 ∨ st4 = 3 ∨ st4 = 4 ∨ st4 = 5 ∨ st4 = 6 := by omega
              clear hs1 hs6
              rcases hw6 with rfl | rfl | rfl | rfl | rfl | rfl
              case inl => as_aux_lemma =>
                clear HB2 HB3 HB6 HZ4
                have h1 : tagR nm0 (mAhead (dedup al4) sl4 (b :: r)) = R := HM6.out
                by_cases hb62 : b = 62
                · as_aux_lemma =>
                    have HRE := Lib.hid (show R = some (⟨0, small nm0, dedup al4, sl4, []⟩, r) by rw [hb62, mAhead_end] at h1; exact h1.symm)
                    have hlow0 := fun (W : World) => lowered_any (mk nm0) W (by rw [mk_size]; omega)
                    simp only [lst_mk] at hlow0
                    have HLow0 := Lib.hid hlow0
                    obtain ⟨f1, f2⟩ := bEq62 hb62
                    obtain ⟨t0, t1, t2, t3, t4, tf2, tf3, tl⟩ := HT4.out.tok.all
                    clear h1 hb62 f2 hlow0 t0 t2 t3 t4 tf2 tf3 HM6
                    go_wp2_with fail
                    refine (HLow0.out _).mono ?_
                    rintro e w5 ⟨rfl, hb5⟩
                    have HT5 := Lib.hid (HT4.out.older hb5)
                    clear hb5 t1 tl
                    have tf1 := Lib.frozen_of_heap HT5.out.tok 1
                    obtain ⟨_, t1, _, _, _, _, _, _⟩ := HT5.out.tok.all
                    obtain ⟨aa, ac, hu8⟩ := ownsRow_slice HT5.out.row
                    subst hu8
                    go_wp2_with fail
                    obtain ⟨W6, hW6⟩ : ∃ W6, W6 = w5.setCell ⟨w.heap.size + 1, 1, none⟩ (.string (mk (small nm0))) := ⟨_, rfl⟩
                    rw [← hW6]
                    have HT6 := Lib.hid (show TagRel w W6 (.slice aa al4.length ac) (small nm0) al4 from hW6 ▸ HT5.out.setName (small nm0))
                    clear hW6 tf1 t1
                    obtain ⟨N, hN⟩ : ∃ N, N = w.heap.size + 1 := ⟨_, rfl⟩
                    have hNlt : N < W6.heap.size := by rw [hN]; exact lt_of_block HT6.out.tok
                    have HN := Lib.hid hN
                    rw [← hN]
                    have HE0 := Lib.hid (show EndRel W6 W6 N (small nm0) (.slice none 0 0) [] from ⟨Kept.refl _ _ _, hN ▸ HT6.out.tok, AttrRow.nil _ _⟩)
                    clear hN
                    go_loopw [168] (fun vi wx => ∃ (W : World) (i : Nat) (va2 : Value), W = wx ∧ vi = .int .i64 i ∧ i ≤ al4.length ∧ Hid (EndRel W6 wx N (small nm0) va2 (dedup (al4.take i)))) (fun vi _ => al4.length - (intOf vi).toNat)
                    case atStart => exact ⟨_, 0, _, rfl, rfl, by omega, HE0⟩
                    case round =>
                      obtain ⟨Wr, i, va2, rfl, rfl, hi, HE⟩ := hrel
                      obtain ⟨va2a, va2c, hva2⟩ := ownsRow_slice HE.out.row
                      subst hva2
                      have hdl := dedup_le al4 i hi
                      have HTK := HE.out.tok
                      by_cases hil : i < al4.length
                      · obtain ⟨t, ht⟩ : ∃ t, al4[i]? = some t := ⟨_, List.getElem?_eq_getElem hil⟩
                        obtain ⟨g, cap, hv, hBg, hglt, hcap, hcm, hcell, _⟩ := ownsRow_cells HT6.out.row (by omega)
                        obtain ⟨rfl, rfl⟩ : aa = some ⟨g, 0, none⟩ ∧ ac = cap := by injection hv with h1 h2 h3; exact ⟨h1, h3⟩
                        obtain ⟨hc0, hc1⟩ := attrCells_get al4 i t ht
                        have hgN : g ≠ N := by have := HN.out; omega
                        have k0 : Wr.cell? ⟨g, i * 2, none⟩ = some (.string (mk t.name)) := by rw [HE.out.only.cell (p := ⟨g, i * 2, none⟩) hglt hgN]; exact hcell _ _ hc0
                        have k1 : Wr.cell? ⟨g, i * 2 + 1, none⟩ = some (.string (mk t.value)) := by rw [HE.out.only.cell (p := ⟨g, i * 2 + 1, none⟩) hglt hgN]; exact hcell _ _ hc1
                        have HTT := Lib.hid ht
                        clear hv hcell hc0 hc1 ht HTK hBg hglt hgN
                        go_upto_region 58 with fail
                        obtain ⟨W7, hW7⟩ : ∃ W7, W7 = Wr.alloc (.cells #[.string (mk t.name), .string (mk t.value)] 45) := ⟨_, rfl⟩
                        rw [← hW7]
                        have hbn : Below Wr.heap.size Wr W7 := by rw [hW7]; exact (Below.refl _ _).alloc (Nat.le_refl _) _
                        have HC7 := Lib.hid (show Cel W7 Wr.heap.size (mk t.name) (mk t.value) by rw [hW7]; exact heap_alloc_new _ _)
                        have HE7 := Lib.hid (HE.out.older hbn)
                        clear hW7 hbn k0 k1
                        obtain ⟨t0, t1, t2, t3, t4, tf2, tf3, tl⟩ := HE7.out.tok.all
                        clear t0 t1 t3 t4 tf3 tf2
                        go_wp2_with fail
                        generalize hD : dedup (al4.take i) = D at *
                        have HD := Lib.hid hD
                        clear hD
                        obtain ⟨wo, hwo⟩ : ∃ wo, wo = Wr := ⟨_, rfl⟩
                        subst hwo
                        go_loopw [17, 175] (fun vf vj wx => ∃ (W : World) (j : Nat), W = wx ∧ vj = .int .i64 j ∧ j ≤ D.length ∧ vf = .bool (!((D.take j).any (fun x => x.name == t.name))) ∧ Hid (Below W7.heap.size W7 wx)) (fun _ vj _ => D.length - (intOf vj).toNat)
                        case atStart => exact ⟨_, 0, rfl, rfl, by omega, by simp, Lib.hid (Below.refl _ _)⟩
                        case round =>
                          obtain ⟨Wi, j, rfl, rfl, hj, rfl, hBI⟩ := hrel
                          by_cases hjl : j < D.length
                          · obtain ⟨c, hc⟩ : ∃ c, D[j]? = some c := ⟨_, List.getElem?_eq_getElem hjl⟩
                            obtain ⟨g2, cap2, hv2, _, hg2lt, _, _, hcell2, _⟩ := ownsRow_cells HE7.out.row (by omega)
                            obtain ⟨rfl, rfl⟩ : va2a = some ⟨g2, 0, none⟩ ∧ va2c = cap2 := by injection hv2 with h1 h2 h3; exact ⟨h1, h3⟩
                            obtain ⟨hc0, hc1⟩ := attrCells_get D j c hc
                            have k0 : Wi.cell? ⟨g2, j * 2, none⟩ = some (.string (mk c.name)) := by rw [hBI.out.cell (p := ⟨g2, j * 2, none⟩) hg2lt]; exact hcell2 _ _ hc0
                            have k1 : Wi.cell? ⟨g2, j * 2 + 1, none⟩ = some (.string (mk c.value)) := by rw [hBI.out.cell (p := ⟨g2, j * 2 + 1, none⟩) hg2lt]; exact hcell2 _ _ hc1
                            have HFS := Lib.hid (fresh_step D j c hc t.name)
                            obtain ⟨fr, hfr⟩ : ∃ fr, (D.take j).any (fun x => x.name == t.name) = fr := ⟨_, rfl⟩
                            rw [hfr]
                            rw [hfr] at HFS
                            clear hfr hv2 hcell2 hc0 hc1 hc hg2lt
                            go_upto_region 61 with fail
                            obtain ⟨W8, hW8⟩ : ∃ W8, W8 = Wi.alloc (.cells #[.string (mk c.name), .string (mk c.value)] 45) := ⟨_, rfl⟩
                            rw [← hW8]
                            have hbn : Below Wi.heap.size Wi W8 := by rw [hW8]; exact (Below.refl _ _).alloc (Nat.le_refl _) _
                            have HC8 := Lib.hid (show Cel W8 Wi.heap.size (mk c.name) (mk c.value) by rw [hW8]; exact heap_alloc_new _ _)
                            have HB8 := Lib.hid (hBI.out.trans (hbn.mono hBI.out.size))
                            have HA8 := Lib.hid (HC7.out.kept (Kept.of_below (S := fun _ => False) HB8.out) (lt_of_block HC7.out) (fun h => h))
                            obtain ⟨m0, _, _, _, _⟩ := HC8.out.all
                            obtain ⟨a0, _, _, _, _⟩ := HA8.out.all
                            clear hW8 hbn k0 k1
                            cases fr with
                            | true =>
                              go_wp2_with fail
                              go_roundw
                              case rel => exact ⟨_, j + 1, rfl, by go_num, by omega, by rw [HFS.out]; rfl, HB8⟩
                              case measure => simp [intOf]; omega
                            | false =>
                              go_wp2_with fail
                              go_roundw
                              case rel => exact ⟨_, j + 1, rfl, by go_num, by omega, by rw [HFS.out]; simp [toList_mk], HB8⟩
                              case measure => simp [intOf]; omega
                          · obtain rfl : j = D.length := by omega
                            rw [List.take_length]
                            have HEi := Lib.hid (HE7.out.older hBI.out)
                            have HCi := Lib.hid (HC7.out.kept (Kept.of_below (S := fun _ => False) hBI.out) (lt_of_block HC7.out) (fun h => h))
                            have hdt := dedup_take al4 i t HTT.out
                            rw [HD.out] at hdt
                            have HDT := Lib.hid hdt
                            clear hdt
                            cases hany : D.any (fun x => x.name == t.name) with
                            | true =>
                              have HDT2 := Lib.hid (show dedup (al4.take (i + 1)) = D by rw [HDT.out]; unfold addAttr; rw [if_pos hany])
                              clear hany
                              go_wp2_with fail
                              go_roundw
                              case rel => exact ⟨_, i + 1, _, rfl, by go_num, by omega, Lib.hid (by rw [HDT2.out]; exact HEi.out)⟩
                              case measure => simp [intOf]; omega
                            | false =>
                              have HDT2 := Lib.hid (show dedup (al4.take (i + 1)) = D ++ [t] by rw [HDT.out]; unfold addAttr; rw [if_neg (by rw [hany]; simp)])
                              clear hany
                              obtain ⟨_, _, t2, _, _, _, _, _⟩ := HEi.out.tok.all
                              obtain ⟨a0, a1, _, _, _⟩ := HCi.out.all
                              have hD9 : D.length ≤ 1000000 := by omega
                              go_wp2_with (at_builtin; refine wpList_append_end (by rfl) (.tmp 190) (.tmp 192) (by rfl) N (small nm0) _ D t (by rfl) (by rfl) (by rfl) (by rfl) HEi.out hNlt hD9 ?_; intro A C w9 htb hE9; have HTB := Lib.hid htb; have HE9 := Lib.hid hE9; clear htb hE9; obtain ⟨_, _, q2, _, _, qf2, _, _⟩ := HTB.out.all)
                              go_wp2_with fail
                              go_roundw
                              case rel => exact ⟨_, i + 1, .slice A (D.length + 1) C, rfl, by go_num, by omega, Lib.hid (by rw [HDT2.out]; exact HE9.out)⟩
                              case measure => simp [intOf]; omega
                      · obtain rfl : i = al4.length := by omega
                        rw [List.take_length] at *
                        obtain ⟨t0, t1, t2, t3, t4, tf2, tf3, tl⟩ := HE.out.tok.all
                        clear HTK
                        go_upto_region 67 with fail
                        obtain ⟨W9, hW9⟩ : ∃ W9, W9 = Wr.setCell ⟨N, 3, none⟩ (.bool sl4) := ⟨_, rfl⟩
                        rw [← hW9]
                        have HT9 := Lib.hid (show TokBlk W9 N 0 (mk (small nm0)) (.slice va2a (dedup al4).length va2c) sl4 by rw [hW9]; exact HE.out.tok.setS sl4)
                        have hNw : w.heap.size ≠ N := by have := HN.out; omega
                        have HR9 := Lib.hid (show TokBlk W9 w.heap.size 0 (mk []) (.slice none 0 0) false by
                          rw [hW9]
                          exact (HT6.out.res.only HE.out.only hNw).other (p := ⟨N, 3, none⟩) (fun e => hNw e.symm) _)
                        have HB9 := Lib.hid (show Below w.heap.size w W9 by
                          rw [hW9]
                          exact ((Kept.trans (Kept.of_below HT6.out.bel) (HE.out.only.mono HT6.out.bel.size (fun _ _ e => e))).below (C := w.heap.size) (fun k hk e => by have := HN.out; omega) (Nat.le_refl _)).setCell (p := ⟨N, 3, none⟩) (by show w.heap.size ≤ N; have := HN.out; omega) _)
                        have HA9 := Lib.hid (show AttrRow W6.heap.size W9 (.slice va2a (dedup al4).length va2c) (dedup al4) by
                          rw [hW9]
                          exact attrRow_other HE.out.row (fun e => by have := ownsRow_base_le HE.out.row e.symm; omega) _)
                        clear hW9 t0 t1 t2 t3 t4 tf2 tf3 tl
                        obtain ⟨t0, t1, t2, t3, t4, _, _, tl⟩ := HT9.out.all
                        obtain ⟨r0, r1, r2, r3, r4, rf2, rf3, rl⟩ := HR9.out.all
                        have rf0 := Lib.frozen_of_heap HR9.out 0
                        have rf1 := Lib.frozen_of_heap HR9.out 1
                        have rf4 := Lib.frozen_of_heap HR9.out 4
                        go_wp2_with fail
                        have hcs : ∀ v0 v1 v2 v3 v4 : Value, ((((((W9.setCell ⟨w.heap.size, 0, none⟩ v0).setCell ⟨w.heap.size, 1, none⟩ v1).setCell ⟨w.heap.size, 2, none⟩ v2).setCell ⟨w.heap.size, 3, none⟩ v3).setCell ⟨w.heap.size, 4, none⟩ v4).heap[w.heap.size]? = some (.cells #[v0, v1, v2, v3, v4] 31)) := by
                          intro v0 v1 v2 v3 v4
                          have hx := HR9.out
                          unfold TokBlk at hx
                          simp [World.setCell, Array.getElem?_modify, hx]
                        have hh := hcs (.int .i64 0) (.string (mk (small nm0))) (.slice va2a (dedup al4).length va2c) (.bool sl4) (.string ⟨#[]⟩)
                        have hne2 : (Value.slice va2a (dedup al4).length va2c).ownBlock ≠ some w.heap.size := fun e => by have := ownsRow_base_le HA9.out e.symm; have := HN.out; omega
                        have hav := attrRow_other (i := 4) (attrRow_other (i := 3) (attrRow_other (i := 2) (attrRow_other (i := 1) (attrRow_other (i := 0) HA9.out hne2 (.int .i64 0)) hne2 (.string (mk (small nm0)))) hne2 (.slice va2a (dedup al4).length va2c)) hne2 (.bool sl4)) hne2 (.string ⟨#[]⟩)
                        have hbe := ((((HB9.out.setCell (p := ⟨w.heap.size, 0, none⟩) (Nat.le_refl _) (.int .i64 0)).setCell (p := ⟨w.heap.size, 1, none⟩) (Nat.le_refl _) (.string (mk (small nm0)))).setCell (p := ⟨w.heap.size, 2, none⟩) (Nat.le_refl _) (.slice va2a (dedup al4).length va2c)).setCell (p := ⟨w.heap.size, 3, none⟩) (Nat.le_refl _) (.bool sl4)).setCell (p := ⟨w.heap.size, 4, none⟩) (Nat.le_refl _) (.string ⟨#[]⟩)
                        generalize hWE : ((((W9.setCell ⟨w.heap.size, 0, none⟩ (.int .i64 0)).setCell ⟨w.heap.size, 1, none⟩ (.string (mk (small nm0)))).setCell ⟨w.heap.size, 2, none⟩ (.slice va2a (dedup al4).length va2c)).setCell ⟨w.heap.size, 3, none⟩ (.bool sl4)).setCell ⟨w.heap.size, 4, none⟩ (.string ⟨#[]⟩) = WE at *
                        have n0 : WE.cell? ⟨w.heap.size, 0, none⟩ = some (.int .i64 0) := by rw [Lib.cell_of_heap hh]; rfl
                        have n1 : WE.cell? ⟨w.heap.size, 1, none⟩ = some (.string (mk (small nm0))) := by rw [Lib.cell_of_heap hh]; rfl
                        have n2 : WE.cell? ⟨w.heap.size, 2, none⟩ = some (.slice va2a (dedup al4).length va2c) := by rw [Lib.cell_of_heap hh]; rfl
                        have n3 : WE.cell? ⟨w.heap.size, 3, none⟩ = some (.bool sl4) := by rw [Lib.cell_of_heap hh]; rfl
                        have n4 : WE.cell? ⟨w.heap.size, 4, none⟩ = some (.string ⟨#[]⟩) := by rw [Lib.cell_of_heap hh]; rfl
                        have hpos : ((s.size - r.length : Nat) : Int) = (a : Int) + 1 := by
                          rw [← HR1.out, List.length_drop, lst_length]; omega
                        have hwz : w.heap.size ≤ W6.heap.size := HT6.out.bel.size
                        exact bodyPost_ret (v := .tuple #[.agg #[.int .i64 0, .string (mk (small nm0)), .slice va2a (dedup al4).length va2c, .bool sl4, .string ⟨#[]⟩], .int .i64 ((a : Int) + 1), .bool true]) (by simp [results, Tryd.results18, go_sem, n0, n1, n2, n3, n4]) rfl ⟨hbe, by rw [HRE.out]; exact ⟨_, by rw [hpos], ownsRow_base hav hwz⟩⟩
                · obtain ⟨f1, f2⟩ := bNe62 hb62
                  by_cases hb47 : b = 47
                  · obtain ⟨f3, f4⟩ := bEq47 hb47
                    have HM7 := Lib.hid (show meanT 1 nm0 nm va q true al4 ((lst s).drop (a + 1)) = R by
                      rw [mAhead_gap _ _ _ _ (by rw [hb47]; decide), show (b == 47) = true by rw [hb47]; rfl] at h1
                      rw [HR1.out]; exact h1)
                    clear h1 hb62 hb47 f2 f4 HM6
                    go_wp2_with fail
                    go_roundw
                    case rel => exact ⟨_, a + 1, 1, nm0, nm, va, q, true, al4, rfl, by go_num, by omega, rfl, by omega, rfl, rfl, rfl, rfl, by omega, by omega, by omega, by omega, Lib.hid (fun h => absurd h (by decide)), HT4, HM7⟩
                    case measure => simp [intOf]; omega
                  · obtain ⟨f3, f4⟩ := bNe47 hb47
                    cases he : spaces.contains b with
                    | true =>
                      have HSt := fun W => HS.out W
                      rw [he] at HSt
                      have HSt := Lib.hid HSt
                      have HM7 := Lib.hid (show meanT 1 nm0 nm va q false al4 ((lst s).drop (a + 1)) = R by
                        rw [mAhead_gap _ _ _ _ (by unfold tagGap; rw [List.contains_eq_mem] at *; simp only [decide_eq_true_eq, List.mem_append] at *; exact .inl he), show (b == 47) = false from beq_eq_false_iff_ne.2 hb47] at h1
                        rw [HR1.out]; exact h1)
                      clear h1 hb62 hb47 f2 f4 HM6 he
                      go_wp2_with fail
                      refine (HSt.out _).mono ?_
                      rintro e w' ⟨rfl, hw⟩
                      rw [← hw]
                      clear hw w'
                      go_wp2_with fail
                      go_roundw
                      case rel => exact ⟨_, a + 1, 1, nm0, nm, va, q, false, al4, rfl, by go_num, by omega, rfl, by omega, rfl, rfl, rfl, rfl, by omega, by omega, by omega, by omega, Lib.hid (fun h => absurd h (by decide)), HT4, HM7⟩
                      case measure => simp [intOf]; omega
                    | false =>
                      have HSt := fun W => HS.out W
                      rw [he] at HSt
                      have HSt := Lib.hid HSt
                      have HM7 := Lib.hid (show meanT 2 nm0 [b] va q sl4 al4 ((lst s).drop (a + 1)) = R by
                        have hg : tagGap.contains b = false := by
                          unfold tagGap; rw [List.contains_eq_mem] at *; simp only [decide_eq_false_iff_not, List.mem_append, not_or] at *; exact ⟨he, by simp [hb47]⟩
                        rw [mAhead_attr _ _ _ _ hg hb62] at h1
                        rw [HR1.out]; exact h1)
                      have hcv := conv_one W4 b
                      clear h1 hb62 hb47 f2 f4 HM6 he
                      go_wp2_with fail
                      refine (HSt.out _).mono ?_
                      rintro e w' ⟨rfl, hw⟩
                      rw [← hw]
                      clear hw w'
                      go_wp2_with fail
                      go_roundw
                      case rel => exact ⟨_, a + 1, 2, nm0, [b], va, q, sl4, al4, rfl, by go_num, by omega, rfl, by omega, rfl, rfl, rfl, rfl, by omega, by simp, by omega, by omega, Lib.hid (fun h => absurd h (by decide)), Lib.hid (HT4.out.alloc _), HM7⟩
                      case measure => simp [intOf]; omega
              case inr.inl => as_aux_lemma =>
                have HM7 := Lib.hid (show meanT 2 nm0 (nm ++ [b]) va q sl4 al4 ((lst s).drop (a + 1)) = R by
                  have h : tagR nm0 (mAttr (dedup al4) nm (b :: r)) = R := HM6.out
                  rw [mAttr_in _ _ _ _ (HB2.out rfl)] at h
                  rw [HR1.out]; exact h)
                have hcv := conv_one W4 b
                have hcat : ¬ 9223372036854775807 < (mk nm).size + (mk [b]).size := by rw [mk_size, mk_size]; simp only [List.length_cons, List.length_nil]; omega
                clear HM6 HB2 HB3 HB6 HZ4
                go_wp2_with fail
                go_roundw
                case rel => exact ⟨_, a + 1, 2, nm0, (nm ++ [b]), va, q, sl4, al4, rfl, by go_num, by omega, rfl, by omega, by rw [mk_append], rfl, rfl, rfl, by omega, by simp; omega, by omega, by omega, Lib.hid (fun h => absurd h (by decide)), Lib.hid (HT4.out.alloc _), HM7⟩
                case measure => simp [intOf]; omega
              case inr.inr.inl => as_aux_lemma =>
                rcases HB3.out rfl with he | ⟨_, he⟩
                · obtain ⟨_, _, n61, _⟩ := sp_not he
                  obtain ⟨f1, f2⟩ := bNe61 n61
                  have HM7 := Lib.hid (show meanT 3 nm0 nm va q sl4 al4 ((lst s).drop (a + 1)) = R by
                    have h : tagR nm0 (mBehind (dedup al4) nm (b :: r)) = R := HM6.out
                    rw [mBehind_sp _ _ _ _ he] at h
                    rw [HR1.out]; exact h)
                  clear HM6 HB2 HB3 HB6 HZ4 he n61 f2
                  go_wp2_with fail
                  go_roundw
                  case rel => exact ⟨_, a + 1, 3, nm0, nm, va, q, sl4, al4, rfl, by go_num, by omega, rfl, by omega, rfl, rfl, rfl, rfl, by omega, by omega, by omega, by omega, Lib.hid (fun h => absurd h (by decide)), HT4, HM7⟩
                  case measure => simp [intOf]; omega
                · obtain ⟨f1, f2⟩ := bEq61 he
                  have HM7 := Lib.hid (show meanT 4 nm0 nm va q sl4 al4 ((lst s).drop (a + 1)) = R by
                    have h : tagR nm0 (mBehind (dedup al4) nm (b :: r)) = R := HM6.out
                    rw [he, mBehind_eq] at h
                    rw [HR1.out]; exact h)
                  clear HM6 HB2 HB3 HB6 HZ4 he f2
                  go_wp2_with fail
                  go_roundw
                  case rel => exact ⟨_, a + 1, 4, nm0, nm, va, q, sl4, al4, rfl, by go_num, by omega, rfl, by omega, rfl, rfl, rfl, rfl, by omega, by omega, by omega, by omega, Lib.hid (fun h => absurd h (by decide)), HT4, HM7⟩
                  case measure => simp [intOf]; omega
              case inr.inr.inr.inl => as_aux_lemma =>
                have h1 : tagR nm0 (mVal (dedup al4) nm (valueM (b :: r))) = R := HM6.out
                have hz4 := HZ4.out.resolve_left (by decide)
                clear HB2 HB3 HB6 HZ4 HM6
                cases he : spaces.contains b with
                | true =>
                  have HSt := fun W => HS.out W
                  rw [he] at HSt
                  have HSt := Lib.hid HSt
                  have HM7 := Lib.hid (show meanT 4 nm0 nm va q sl4 al4 ((lst s).drop (a + 1)) = R by
                    rw [valueM_sp _ _ he] at h1
                    rw [HR1.out]; exact h1)
                  clear h1 he
                  go_wp2_with fail
                  refine (HSt.out _).mono ?_
                  rintro e w' ⟨rfl, hw⟩
                  rw [← hw]
                  clear hw w'
                  go_wp2_with fail
                  go_roundw
                  case rel => exact ⟨_, a + 1, 4, nm0, nm, va, q, sl4, al4, rfl, by go_num, by omega, rfl, by omega, rfl, rfl, rfl, rfl, by omega, by omega, by omega, by omega, Lib.hid (fun h => absurd h (by decide)), HT4, HM7⟩
                  case measure => simp [intOf]; omega
                | false =>
                  have HSt := fun W => HS.out W
                  rw [he] at HSt
                  have HSt := Lib.hid HSt
                  by_cases h34 : b = 34
                  · obtain ⟨f1, f2⟩ := bEq34 h34
                    have HM7 := Lib.hid (show meanT 5 nm0 nm [] b sl4 al4 ((lst s).drop (a + 1)) = R by
                      rw [mVal_quote _ _ _ _ (.inl h34)] at h1
                      rw [HR1.out]; exact h1)
                    clear h1 he h34 f2
                    go_wp2_with fail
                    refine (HSt.out _).mono ?_
                    rintro e w' ⟨rfl, hw⟩
                    rw [← hw]
                    clear hw w'
                    go_wp2_with fail
                    go_roundw
                    case rel => exact ⟨_, a + 1, 5, nm0, nm, [], b, sl4, al4, rfl, by go_num, by omega, rfl, by omega, rfl, rfl, rfl, rfl, by omega, by omega, by simp, by omega, Lib.hid (fun h => absurd h (by decide)), HT4, HM7⟩
                    case measure => simp [intOf]; omega
                  · obtain ⟨f1, f2⟩ := bNe34 h34
                    by_cases h39 : b = 39
                    · obtain ⟨f3, f4⟩ := bEq39 h39
                      have HM7 := Lib.hid (show meanT 5 nm0 nm [] b sl4 al4 ((lst s).drop (a + 1)) = R by
                        rw [mVal_quote _ _ _ _ (.inr h39)] at h1
                        rw [HR1.out]; exact h1)
                      clear h1 he h34 h39 f2 f4
                      go_wp2_with fail
                      refine (HSt.out _).mono ?_
                      rintro e w' ⟨rfl, hw⟩
                      rw [← hw]
                      clear hw w'
                      go_wp2_with fail
                      go_roundw
                      case rel => exact ⟨_, a + 1, 5, nm0, nm, [], b, sl4, al4, rfl, by go_num, by omega, rfl, by omega, rfl, rfl, rfl, rfl, by omega, by omega, by simp, by omega, Lib.hid (fun h => absurd h (by decide)), HT4, HM7⟩
                      case measure => simp [intOf]; omega
                    · obtain ⟨f3, f4⟩ := bNe39 h39
                      have HM7 := Lib.hid (show meanT 6 nm0 nm [] q sl4 al4 ((lst s).drop a) = R by
                        rw [mVal_bare _ _ _ _ he (fun h => h.elim h34 h39)] at h1
                        rw [HDR.out, HR1.out]; exact h1)
                      clear h1 he h34 h39 f2 f4
                      go_wp2_with fail
                      refine (HSt.out _).mono ?_
                      rintro e w' ⟨rfl, hw⟩
                      rw [← hw]
                      clear hw w'
                      go_wp2_with fail
                      go_roundw
                      case rel => exact ⟨_, a, 6, nm0, nm, [], q, sl4, al4, rfl, by go_num, hat, rfl, by omega, rfl, rfl, rfl, rfl, by omega, by omega, by simp, by omega, Lib.hid (fun h => absurd h (by decide)), HT4, HM7⟩
                      case measure =>
                        have hq4 : st = 4 := HQ4.out (by trivial)
                        subst hq4
                        simp [intOf]
              case inr.inr.inr.inr.inl => as_aux_lemma =>
                have h1 : tagR nm0 (mQuote (dedup al4) nm q va (b :: r)) = R := HM6.out
                have hz4 := HZ4.out.resolve_left (by decide)
                clear HB2 HB3 HB6 HZ4 HM6
                by_cases hq : b = q
                · have f1 : ((b.toNat : Int) == (q.toNat : Int)) = true := by rw [hq]; exact beq_self_eq_true _
                  have HM7 := Lib.hid (show meanT 1 nm0 nm va q false (al4 ++ [⟨small nm, unesc va⟩]) ((lst s).drop (a + 1)) = R by
                    rw [hq, mQuote_end, ← dedup_snoc] at h1
                    rw [HR1.out]; exact h1)
                  clear h1 hq
                  go_wp2_with fail
                  refine (HLow.out _).mono ?_
                  rintro e w4 ⟨rfl, hb4⟩
                  have HT5 := Lib.hid (HT4.out.older hb4)
                  clear hb4
                  go_wp2_with fail
                  refine (HUne.out w4).mono ?_
                  rintro e w5 ⟨rfl, hb5⟩
                  have HT6 := Lib.hid (HT5.out.older hb5)
                  clear hb5 HT5
                  have hal9 : al4.length ≤ 1000000 := by omega
                  go_wp2_with (at_builtin; refine wpList_append_attr (by rfl) (.tmp 134) (.tmp 140) (by rfl) _ nm0 al4 ⟨small nm, unesc va⟩ (by rfl) (by rfl) (by rfl) (by rfl) HT6.out hal9 ?_; intro v' w6 hT7; have HT7 := Lib.hid hT7; clear hT7)
                  go_wp2_with fail
                  go_roundw
                  case rel => exact ⟨_, a + 1, 1, nm0, nm, va, q, false, (al4 ++ [⟨small nm, unesc va⟩]), rfl, by go_num, by omega, rfl, by omega, rfl, rfl, rfl, rfl, by omega, by omega, by omega, by rw [List.length_append]; simp; omega, Lib.hid (fun h => absurd h (by decide)), HT7, HM7⟩
                  case measure => simp [intOf]; omega
                · have f1 : ((b.toNat : Int) == (q.toNat : Int)) = false := beq_eq_false_iff_ne.2 (fun h => hq (UInt8.toNat_inj.1 (Int.ofNat_inj.1 h)))
                  have HM7 := Lib.hid (show meanT 5 nm0 nm (va ++ [b]) q sl4 al4 ((lst s).drop (a + 1)) = R by
                    rw [mQuote_in _ _ _ _ _ _ hq] at h1
                    rw [HR1.out]; exact h1)
                  have hcv := conv_one W4 b
                  have hcat : ¬ 9223372036854775807 < (mk va).size + (mk [b]).size := by rw [mk_size, mk_size]; simp only [List.length_cons, List.length_nil]; omega
                  clear h1 hq
                  go_wp2_with fail
                  go_roundw
                  case rel => exact ⟨_, a + 1, 5, nm0, nm, (va ++ [b]), q, sl4, al4, rfl, by go_num, by omega, rfl, by omega, rfl, by rw [mk_append], rfl, rfl, by omega, by omega, by simp; omega, by omega, Lib.hid (fun h => absurd h (by decide)), Lib.hid (HT4.out.alloc _), HM7⟩
                  case measure => simp [intOf]; omega
              case inr.inr.inr.inr.inr => as_aux_lemma =>
                have HM7 := Lib.hid (show meanT 6 nm0 nm (va ++ [b]) q sl4 al4 ((lst s).drop (a + 1)) = R by
                  have h : tagR nm0 (mBare (dedup al4) nm va (b :: r)) = R := HM6.out
                  rw [mBare_in _ _ _ _ _ (HB6.out rfl)] at h
                  rw [HR1.out]; exact h)
                have hcv := conv_one W4 b
                have hcat : ¬ 9223372036854775807 < (mk va).size + (mk [b]).size := by rw [mk_size, mk_size]; simp only [List.length_cons, List.length_nil]; omega
                clear HM6 HB2 HB3 HB6 HZ4
                go_wp2_with fail
                go_roundw
                case rel => exact ⟨_, a + 1, 6, nm0, nm, (va ++ [b]), q, sl4, al4, rfl, by go_num, by omega, rfl, by omega, rfl, by rw [mk_append], rfl, rfl, by omega, by omega, by simp; omega, by omega, Lib.hid (fun h => absurd h (by decide)), Lib.hid (HT4.out.alloc _), HM7⟩
                case measure => simp [intOf]; omega
    · have hR : R = none := by
        have := HM.out
        rw [List.drop_eq_nil_of_le (by rw [lst_length]; omega), meanT_nil] at this
        exact this.symm
      have HR := Lib.hid hR
      obtain ⟨r0, r1, r2, r3, r4, rf2, rf3, rl⟩ := HT.out.res.all
      have rf0 := Lib.frozen_of_heap HT.out.res 0
      have rf1 := Lib.frozen_of_heap HT.out.res 1
      have rf4 := Lib.frozen_of_heap HT.out.res 4
      clear hR
      go_wp2_with fail
      have hcs : ∀ v0 v1 v2 v3 v4 : Value, ((((((W.setCell ⟨w.heap.size, 0, none⟩ v0).setCell ⟨w.heap.size, 1, none⟩ v1).setCell ⟨w.heap.size, 2, none⟩ v2).setCell ⟨w.heap.size, 3, none⟩ v3).setCell ⟨w.heap.size, 4, none⟩ v4).heap[w.heap.size]? = some (.cells #[v0, v1, v2, v3, v4] 31)) := by
        intro v0 v1 v2 v3 v4
        have hx := HT.out.res
        unfold TokBlk at hx
        simp [World.setCell, Array.getElem?_modify, hx]
      have hh := hcs (.int .i64 0) (.string ⟨#[]⟩) (.slice none 0 0) (.bool false) (.string ⟨#[]⟩)
      generalize hWE : ((((W.setCell ⟨w.heap.size, 0, none⟩ (.int .i64 0)).setCell ⟨w.heap.size, 1, none⟩ (.string ⟨#[]⟩)).setCell ⟨w.heap.size, 2, none⟩ (.slice none 0 0)).setCell ⟨w.heap.size, 3, none⟩ (.bool false)).setCell ⟨w.heap.size, 4, none⟩ (.string ⟨#[]⟩) = WE at *
      have n0 : WE.cell? ⟨w.heap.size, 0, none⟩ = some (.int .i64 0) := by rw [Lib.cell_of_heap hh]; rfl
      have n1 : WE.cell? ⟨w.heap.size, 1, none⟩ = some (.string ⟨#[]⟩) := by rw [Lib.cell_of_heap hh]; rfl
      have n2 : WE.cell? ⟨w.heap.size, 2, none⟩ = some (.slice none 0 0) := by rw [Lib.cell_of_heap hh]; rfl
      have n3 : WE.cell? ⟨w.heap.size, 3, none⟩ = some (.bool false) := by rw [Lib.cell_of_heap hh]; rfl
      have n4 : WE.cell? ⟨w.heap.size, 4, none⟩ = some (.string ⟨#[]⟩) := by rw [Lib.cell_of_heap hh]; rfl
      have HBE : Below w.heap.size w WE := by
        rw [← hWE]
        exact ((((HT.out.bel.setCell (p := ⟨w.heap.size, 0, none⟩) (Nat.le_refl _) _).setCell (p := ⟨w.heap.size, 1, none⟩) (Nat.le_refl _) _).setCell (p := ⟨w.heap.size, 2, none⟩) (Nat.le_refl _) _).setCell (p := ⟨w.heap.size, 3, none⟩) (Nat.le_refl _) _).setCell (p := ⟨w.heap.size, 4, none⟩) (Nat.le_refl _) _
      exact bodyPost_ret (v := .tuple #[.agg #[.int .i64 0, .string ⟨#[]⟩, .slice none 0 0, .bool false, .string ⟨#[]⟩], .int .i64 0, .bool false]) (by simp [results, Tryd.results18, go_sem, n0, n1, n2, n3, n4]) rfl ⟨HBE, by rw [HR.out]⟩

end Go.Proofs.YtbgonaacheemcaaDoor
