/- Walk of style.pieces. -/
import Derived.Test.YtpbcalbolnlojaaGreatDoorJYRow
import Derived.Test.YtpbcalbolnlojaaGreatDoorGe
namespace Go.Proofs.YtpbcalbolnlojaaGreatDoor
open Go Go.RowKit

theorem cur_snoc (s : ByteArray) (fr i : Nat) (hf : fr ≤ i) (hi : i < s.size) : ((lst s).drop fr).take (i + 1 - fr) = ((lst s).drop fr).take (i - fr) ++ [s[i]'hi] := by
  rw [show i + 1 - fr = (i - fr) + 1 by omega, List.take_add_one, List.getElem?_drop, show fr + (i - fr) = i by omega, lst_get s i hi]; rfl
theorem cur_ext (s : ByteArray) (fr i : Nat) : s.extract fr i = mk (((lst s).drop fr).take (i - fr)) := by
  apply ext_lst; rw [lst_extract, lst_mk]
/-- What the loop of pieces keeps. -/
def PRel (s : ByteArray) (out : List Bytes) (fr dp : Nat) (q : UInt8) (i : Nat) : Prop := out ++ pcs dp q (((lst s).drop fr).take (i - fr)) ((lst s).drop i) = pcs 0 0 [] (lst s)
theorem PRel.step {s : ByteArray} {out : List Bytes} {fr dp dp' : Nat} {q q' : UInt8} {i : Nat} (h : PRel s out fr dp q i) (hf : fr ≤ i) (hi : i < s.size) (he : ∀ cur r, pcs dp q cur (s[i]'hi :: r) = pcs dp' q' (cur ++ [s[i]'hi]) r) : PRel s out fr dp' q' (i + 1) := by
  unfold PRel at *
  have hdr : (lst s).drop i = s[i]'hi :: (lst s).drop (i + 1) := List.drop_eq_getElem_cons (by rw [lst_length]; exact hi)
  rw [hdr, he, ← cur_snoc s fr i hf hi] at h
  exact h
theorem PRel.cut {s : ByteArray} {out : List Bytes} {fr : Nat} {i : Nat} (h : PRel s out fr 0 0 i) (hi : i < s.size) (he : s[i]'hi = 59) : PRel s (out ++ [((lst s).drop fr).take (i - fr)]) (i + 1) 0 0 (i + 1) := by
  unfold PRel at *
  have hdr : (lst s).drop i = s[i]'hi :: (lst s).drop (i + 1) := List.drop_eq_getElem_cons (by rw [lst_length]; exact hi)
  rw [hdr, he, pcs_cut] at h
  rw [Nat.sub_self, List.take_zero, List.append_assoc]
  exact h

set_option maxHeartbeats 4000000 in
set_option maxRecDepth 100000 in
theorem pieces_any (s : ByteArray) (w : World) (hs : s.size ≤ 100000) :
    Calls Tryz.prog 50 #[.string s] w fun e w' => ∃ v, e = .returned v ∧ SRow w.heap.size w' v (pcs 0 0 [] (lst s)) ∧ Below w.heap.size w w' := by
  go_enter Tryz.func50, Tryz.ntmps50
  go_wp2_with fail
  go_loopw [3, 4, 5, 6, 11] (fun vo vf vd vq vi wr => ∃ (W : World) (i fr dp : Nat) (q : UInt8) (out : List Bytes) (A : Option Addr) (C : Nat), W = wr ∧ vo = .slice A out.length C ∧ vf = .int .i64 fr ∧ vd = .int .i64 dp ∧ vq = .int .u8 q.toNat ∧ vi = .int .i64 i ∧ fr ≤ i ∧ i ≤ s.size ∧ dp ≤ i ∧ out.length ≤ i ∧ Hid (SRow w.heap.size wr (.slice A out.length C) out) ∧ Hid (Below w.heap.size w wr) ∧ Hid (PRel s out fr dp q i)) (fun _ _ _ _ vi _ => s.size - (intOf vi).toNat)
  case atStart => exact ⟨_, 0, 0, 0, 0, [], _, _, rfl, rfl, rfl, rfl, rfl, rfl, by omega, by omega, by omega, by simp, Lib.hid (SRow.nil _ _), Lib.hid (Below.refl _ _), Lib.hid (by unfold PRel; simp)⟩
  case round =>
    obtain ⟨W, i, fr, dp, q, out, A, C, rfl, rfl, rfl, rfl, rfl, rfl, hfi, his, hdi, hoi, HO, HB, HR⟩ := hrel
    have hzW : w.heap.size ≤ W.heap.size := HB.out.size
    by_cases hlt : i < s.size
    · obtain ⟨c, hc⟩ : ∃ c, s[i]'hlt = c := ⟨_, rfl⟩
      have HC := Lib.hid hc
      have hltI : (i : Int) < s.size := by omega
      by_cases hq : q = 0
      · subst hq
        by_cases h34 : c = 34
        · have HR2 := Lib.hid (HR.out.step hfi hlt (fun cur r => by rw [hc]; exact pcs_open cur r (.inl h34)))
          subst h34
          go_wp2_with fail
          go_roundw
          case rel => exact ⟨_, i + 1, fr, dp, 34, out, A, C, rfl, rfl, rfl, rfl, rfl, by go_num, by omega, by omega, by omega, by omega, HO, HB, HR2⟩
          case measure => simp [intOf]; omega
        by_cases h39 : c = 39
        · have HR2 := Lib.hid (HR.out.step hfi hlt (fun cur r => by rw [hc]; exact pcs_open cur r (.inr h39)))
          subst h39
          go_wp2_with fail
          go_roundw
          case rel => exact ⟨_, i + 1, fr, dp, 39, out, A, C, rfl, rfl, rfl, rfl, rfl, by go_num, by omega, by omega, by omega, by omega, HO, HB, HR2⟩
          case measure => simp [intOf]; omega
        by_cases h40 : c = 40
        · have HR2 := Lib.hid (HR.out.step (dp' := dp + 1) (q' := 0) hfi hlt (fun cur r => by rw [hc, h40]; exact pcs_in cur r))
          subst h40
          go_wp2_with fail
          go_roundw
          case rel => exact ⟨_, i + 1, fr, dp + 1, 0, out, A, C, rfl, rfl, rfl, rfl, rfl, by go_num, by omega, by omega, by omega, by omega, HO, HB, HR2⟩
          case measure => simp [intOf]; omega
        by_cases h41 : c = 41
        · have HR2 := Lib.hid (HR.out.step (dp' := dp - 1) (q' := 0) hfi hlt (fun cur r => by rw [hc, h41]; exact pcs_out cur r))
          have hmx : max (0 : Int) ((dp : Int) - 1) = ((dp - 1 : Nat) : Int) := by omega
          subst h41
          go_wp2_with fail
          go_roundw
          case rel => exact ⟨_, i + 1, fr, dp - 1, 0, out, A, C, rfl, rfl, rfl, rfl, rfl, by go_num, by omega, by omega, by omega, by omega, HO, HB, HR2⟩
          case measure => simp [intOf]; omega
        have f34 : ((c.toNat : Int) == 34) = false := beq_eq_false_iff_ne.2 fun e => h34 (UInt8.toNat_inj.1 (by show _ = 34; omega))
        have f39 : ((c.toNat : Int) == 39) = false := beq_eq_false_iff_ne.2 fun e => h39 (UInt8.toNat_inj.1 (by show _ = 39; omega))
        have f40 : ((c.toNat : Int) == 40) = false := beq_eq_false_iff_ne.2 fun e => h40 (UInt8.toNat_inj.1 (by show _ = 40; omega))
        have f41 : ((c.toNat : Int) == 41) = false := beq_eq_false_iff_ne.2 fun e => h41 (UInt8.toNat_inj.1 (by show _ = 41; omega))
        by_cases h59 : c = 59
        · by_cases hd : dp = 0
          · subst hd
            have HR2 := Lib.hid (HR.out.cut hlt (by rw [hc]; exact h59))
            have HX := Lib.hid (cur_ext s fr i)
            subst h59
            have hex : mk (((lst s).drop fr).take (i - fr)) = s.extract fr i := (cur_ext s fr i).symm
            have HO2 := Lib.hid (HO.out.below ((Below.refl _ _).alloc (Nat.le_refl _) (.cells #[.string (s.extract fr i)] 9)))
            have HB2 := Lib.hid (HB.out.alloc hzW (.cells #[.string (s.extract fr i)] 9))
            have HN := Lib.hid (heap_alloc_new W (.cells #[.string (s.extract fr i)] 9))
            have HX := Lib.hid hex
            have hz2 : w.heap.size ≤ (W.alloc (.cells #[.string (s.extract fr i)] 9)).heap.size := HB2.out.size
            clear h34 h39 h40 h41 f34 f39 f40 f41 hex
            generalize ((lst s).drop fr).take (i - fr) = cur at *
            have hfiI : (fr : Int) ≤ i := by omega
            have hisI : (i : Int) ≤ s.size := by omega
            go_wp2_with (at_builtin; refine wpList_row1 Tryz.underlying46 infoStr rfl (by decide) (by decide) (by rfl) (.tmp 49) (.tmp 54) (by rfl) w.heap.size _ out.length _ W.heap.size #[.string (s.extract fr i)] (by rfl) (by rfl) HO2.out HN.out rfl (by simp [Value.oneCell']) (by omega) hz2 ?_; intro A2 C2 w2 hown hgr; have HB3 := Lib.hid (HB2.out.trans (row_grown_below hgr HO2.out hz2)); have HO3 := Lib.hid hown; clear hown hgr)
            go_roundw
            case rel => exact ⟨_, i + 1, i + 1, 0, 0, out ++ [cur], A2, C2, rfl, by rw [List.length_append]; rfl, by go_num, rfl, rfl, by go_num, by omega, by omega, by omega, by simp; omega, Lib.hid (by unfold SRow; rw [List.length_append, List.map_append, List.map_singleton, HX.out]; exact HO3.out), HB3, HR2⟩
            case measure => simp [intOf]; omega
          · have HR2 := Lib.hid (HR.out.step (dp' := dp) (q' := 0) hfi hlt (fun cur r => by rw [hc]; exact pcs_else cur r h34 h39 h40 h41 (fun e => hd e.2)))
            have fd : ((dp : Int) == 0) = false := beq_eq_false_iff_ne.2 (by omega)
            subst h59
            clear h34 h39 h40 h41
            go_wp2_with fail
            go_roundw
            case rel => exact ⟨_, i + 1, fr, dp, 0, out, A, C, rfl, rfl, rfl, rfl, rfl, by go_num, by omega, by omega, by omega, by omega, HO, HB, HR2⟩
            case measure => simp [intOf]; omega
        · have HR2 := Lib.hid (HR.out.step (dp' := dp) (q' := 0) hfi hlt (fun cur r => by rw [hc]; exact pcs_else cur r h34 h39 h40 h41 (fun e => h59 e.1)))
          have f59 : ((c.toNat : Int) == 59) = false := beq_eq_false_iff_ne.2 fun e => h59 (UInt8.toNat_inj.1 (by show _ = 59; omega))
          clear h34 h39 h40 h41 h59
          go_wp2_with fail
          go_roundw
          case rel => exact ⟨_, i + 1, fr, dp, 0, out, A, C, rfl, rfl, rfl, rfl, rfl, by go_num, by omega, by omega, by omega, by omega, HO, HB, HR2⟩
          case measure => simp [intOf]; omega
      · have fq : ((q.toNat : Int) == 0) = false := beq_eq_false_iff_ne.2 fun e => hq (UInt8.toNat_inj.1 (by show _ = 0; omega))
        by_cases hcq : c = q
        · have HR2 := Lib.hid (HR.out.step (dp' := dp) (q' := 0) hfi hlt (fun cur r => by rw [hc, pcs_quote cur r hq, if_pos hcq]))
          subst hcq
          clear hq
          go_wp2_with fail
          go_roundw
          case rel => exact ⟨_, i + 1, fr, dp, 0, out, A, C, rfl, rfl, rfl, rfl, rfl, by go_num, by omega, by omega, by omega, by omega, HO, HB, HR2⟩
          case measure => simp [intOf]; omega
        · have HR2 := Lib.hid (HR.out.step (dp' := dp) (q' := q) hfi hlt (fun cur r => by rw [hc, pcs_quote cur r hq, if_neg hcq]))
          have fcq : ((c.toNat : Int) == (q.toNat : Int)) = false := beq_eq_false_iff_ne.2 fun e => hcq (UInt8.toNat_inj.1 (by omega))
          clear hq hcq
          go_wp2_with fail
          go_roundw
          case rel => exact ⟨_, i + 1, fr, dp, q, out, A, C, rfl, rfl, rfl, rfl, rfl, by go_num, by omega, by omega, by omega, by omega, HO, HB, HR2⟩
          case measure => simp [intOf]; omega
    · obtain rfl : i = s.size := by omega
      have HRf := Lib.hid (show out ++ [((lst s).drop fr).take (s.size - fr)] = pcs 0 0 [] (lst s) by
        have h := HR.out
        unfold PRel at h
        have e0 : (lst s).drop s.size = [] := List.drop_eq_nil_of_le (by rw [lst_length]; omega)
        rw [e0, pcs] at h
        exact h)
      have HX := Lib.hid (cur_ext s fr s.size).symm
      have HO2 := Lib.hid (HO.out.below ((Below.refl _ _).alloc (Nat.le_refl _) (.cells #[.string (s.extract fr s.size)] 9)))
      have HB2 := Lib.hid (HB.out.alloc hzW (.cells #[.string (s.extract fr s.size)] 9))
      have HN := Lib.hid (heap_alloc_new W (.cells #[.string (s.extract fr s.size)] 9))
      have hz2 : w.heap.size ≤ (W.alloc (.cells #[.string (s.extract fr s.size)] 9)).heap.size := HB2.out.size
      have hfiI : (fr : Int) ≤ s.size := by omega
      go_wp2_with (at_builtin; refine wpList_row1 Tryz.underlying46 infoStr rfl (by decide) (by decide) (by rfl) (.tmp 59) (.tmp 63) (by rfl) w.heap.size _ out.length _ W.heap.size #[.string (s.extract fr s.size)] (by rfl) (by rfl) HO2.out HN.out rfl (by simp [Value.oneCell']) (by omega) hz2 ?_; intro A2 C2 w2 hown hgr; have HB3 := Lib.hid (HB2.out.trans (row_grown_below hgr HO2.out hz2)); have HO3 := Lib.hid hown; clear hown hgr)
      go_ret
      refine ⟨_, rfl, ?_, HB3.out⟩
      rw [← HRf.out]
      unfold SRow
      rw [List.length_append, List.map_append, List.map_singleton, HX.out]
      exact HO3.out
end Go.Proofs.YtpbcalbolnlojaaGreatDoor
