/- Joined texts: EWalkA EWalkB EWalkC. -/
import Derived.Test.YtjkgmdnkejjppaaGreatDoorGc
import Derived.Test.YtjkgmdnkejjppaaGreatDoorGa
import Derived.Test.YtjkgmdnkejjppaaGreatDoorGi
import Derived.Test.YtjkgmdnkejjppaaGreatDoorShelfB
import Derived.Test.YtjkgmdnkejjppaaGreatDoorGe
import Derived.Test.YtjkgmdnkejjppaaGreatDoorGh
/- Walks of ref.Escape and of strings.Builder.WriteString; emit.raw. -/
namespace Go.Proofs.YtjkgmdnkejjppaaGreatDoor
open Go Go.RowKit

theorem strCells_mk (m : Bytes) : Lib.strCells (mk m) = Lib.byteCells m := rfl

set_option maxHeartbeats 2000000 in
set_option maxRecDepth 100000 in
theorem bStr (B b : Nat) (l m : Bytes) (w : World) (h : Bld B b l w) (hlen : l.length + m.length ≤ 140737488355328) (hBw : B ≤ w.heap.size) :
    Calls Tryz.prog 61 #[.pointer (some ⟨b, 0, none⟩), .string (mk m)] w fun e w' => e = .returned (.tuple #[.int .i64 m.length, .nilIface]) ∧ Bld B b (l ++ m) w' ∧ Below B w w' ∧ Lib.OthersKept 5 (some b) w w' := by
  obtain ⟨i0, hi, hz0, hz1, hz2⟩ := info_parts infoByte
  go_enter Tryz.func61, Tryz.ntmps61
  go_wp2_with (go_at_call 88; refine (copyCheck_any B b _ _ h).mono ?_)
  rintro e w1 ⟨rfl, h1, hb1, hk1⟩
  obtain ⟨hB, v, hbk, hown, hne⟩ := h1
  have hL := Lib.byteCells_length l
  have HL := Lib.hid hL
  clear hL
  have c0 : w1.cell? ⟨b, 0, none⟩ = some (.pointer (some ⟨b, 0, none⟩)) := by rw [Lib.cell_of_heap hbk]; rfl
  have c1 : w1.cell? ⟨b, 1, none⟩ = some v := by rw [Lib.cell_of_heap hbk]; rfl
  go_wp2_with (at_builtin; refine Lib.wpList_append_own_stringF _ rfl _ _ 105 9 rfl B 5 i0 Tryz.underlying105 Tryz.underlying9 hi hz0 hz1 hz2 _ _ _ rfl hown (mk m) rfl ?c3 ?c4 ?c5 ?_)
  case c3 => have := HL.out; have := mk_size m; unfold maxLen; omega
  case c4 => have := HL.out; have := mk_size m; omega
  case c5 => have := hb1.size; omega
  intro v' w2 hown' hgrow _
  have hlt : b < w1.heap.size := by
    rcases Nat.lt_or_ge b w1.heap.size with h' | h'
    · exact h'
    · simp [Array.getElem?_eq_none h'] at hbk
  have hb2 : w2.heap[b]? = some (.cells #[.pointer (some ⟨b, 0, none⟩), v] 107 (0, 0)) := by
    rw [hgrow.block b hlt (fun e => hne e.symm)]
    exact hbk
  have d0 : w2.cell? ⟨b, 0, none⟩ = some (.pointer (some ⟨b, 0, none⟩)) := by rw [Lib.cell_of_heap hb2]; rfl
  have d1 : w2.cell? ⟨b, 1, none⟩ = some v := by rw [Lib.cell_of_heap hb2]; rfl
  have f1 : w2.frozen? ⟨b, 1, none⟩ = false := Lib.frozen_of_heap hb2 1
  obtain ⟨ao, n', cap, rfl⟩ : ∃ ao n' cap, v' = .slice ao n' cap := by
    rcases hown'.2 with ⟨hv, _⟩ | ⟨g, cap, cur, fz, hv, _⟩
    · exact ⟨_, _, _, hv⟩
    · exact ⟨_, _, _, hv⟩
  go_wp2
  go_ret2
  refine ⟨rfl, ?_, ?_, (hk1.grown hgrow (Lib.ownsRowF_kind hown)).setCell ⟨b, 1, none⟩ rfl _⟩
  · refine .inr ?_
    rw [Lib.byteCells_append]
    exact Lib.BuilderAtF.put (T := 107) (e := 5) hB hb2 (bs' := Lib.byteCells l ++ Lib.byteCells m) (by rw [strCells_mk, mk_size] at hown'; simpa [Lib.byteCells_length] using hown') neBuilder
  · exact (hb1.grown hgrow (by have := hb1.size; omega) (fun k hk => (hown.lt k hk).1)).setCell (p := ⟨b, 1, none⟩) hB _

theorem escM_take (q : Bool) (l : Bytes) (i : Nat) (c : UInt8) (h : l[i]? = some c) : escM q (l.take (i + 1)) = escM q (l.take i) ++ escB q c := by
  rw [List.take_add_one, h, escM_append]
  show _ ++ escM q [c] = _
  rw [escM, escM, List.append_nil]

set_option maxHeartbeats 4000000 in
set_option maxRecDepth 100000 in
theorem escape_any (s : ByteArray) (q : Bool) (hsz : s.size ≤ 1000000) (w : World) :
    Calls Tryz.prog 36 #[.string s, .bool q] w fun e w' => e = .returned (.string (mk (escM q (lst s)))) ∧ Below w.heap.size w w' := by
  have hb0 := Bld.fresh w
  have HB0 := Lib.hid hb0
  clear hb0
  go_enter Tryz.func36, Tryz.ntmps36
  go_wp2
  go_loopw [10] (fun vi wr => ∃ (i : Nat), i ≤ s.size ∧ vi = .int .i64 i ∧ Bld w.heap.size w.heap.size (escM q ((lst s).take i)) wr ∧ Below w.heap.size w wr) (fun vi _ => s.size - (intOf vi).toNat)
  case atStart => exact ⟨0, Nat.zero_le _, rfl, HB0.out, (Below.refl _ _).alloc (Nat.le_refl _) _⟩
  case round =>
    obtain ⟨i, hi, rfl, hB, hb⟩ := hrel
    have HB := Lib.hid hB
    have HW := Lib.hid hb
    have hz := hb.size
    clear hB hb
    by_cases hlt : i < s.size
    · have hst := escM_take q (lst s) i (s[i]'hlt) (lst_get s i hlt)
      have hol := (escM_len q ((lst s).take i)).2.1
      have htl : ((lst s).take i).length ≤ s.size := by rw [List.length_take, lst_length]; omega
      have HST := Lib.hid hst
      generalize escM q ((lst s).take i) = out at *
      have hout : out.length ≤ 6000000 := by omega
      have hc256 := (s[i]'hlt).toNat_lt
      have k0 : (0 : Int) ≤ i := by omega
      have k1 : (i : Int) < s.size := by omega
      clear hst hol htl
      by_cases h38 : s[i]'hlt = 38
      · have f1 : (((s[i]'hlt).toNat : Int) == 38) = true := by rw [h38]; rfl
        have HE := Lib.hid (show escB q (s[i]'hlt) = [38, 97, 109, 112, 59] by rw [h38]; rfl)
        have HS := Lib.hid (bStr w.heap.size w.heap.size out [38, 97, 109, 112, 59] wr HB.out (by simp; omega) hz)
        rw [show mk [38, 97, 109, 112, 59] = ⟨#[38, 97, 109, 112, 59]⟩ from rfl] at HS
        clear h38
        go_wp2_with fail
        refine HS.out.mono ?_
        rintro e w3 ⟨rfl, hB3, hb3, hk3⟩
        have HB3 := Lib.hid hB3
        have HW3 := Lib.hid (HW.out.trans hb3)
        clear hB3 hb3 hk3
        go_wp2_with fail
        go_roundw
        case rel => exact ⟨i + 1, by omega, by go_num, by rw [HST.out, HE.out]; exact HB3.out, HW3.out⟩
        case measure => simp [intOf]; omega
      have f1 : (((s[i]'hlt).toNat : Int) == 38) = false := beq_eq_false_iff_ne.2 fun e => h38 (UInt8.toNat_inj.1 (by show _ = 38; omega))
      by_cases h60 : s[i]'hlt = 60
      · have f2 : (((s[i]'hlt).toNat : Int) == 60) = true := by rw [h60]; rfl
        have HE := Lib.hid (show escB q (s[i]'hlt) = [38, 108, 116, 59] by rw [h60]; rfl)
        have HS := Lib.hid (bStr w.heap.size w.heap.size out [38, 108, 116, 59] wr HB.out (by simp; omega) hz)
        rw [show mk [38, 108, 116, 59] = ⟨#[38, 108, 116, 59]⟩ from rfl] at HS
        clear h38 h60
        go_wp2_with fail
        refine HS.out.mono ?_
        rintro e w3 ⟨rfl, hB3, hb3, hk3⟩
        have HB3 := Lib.hid hB3
        have HW3 := Lib.hid (HW.out.trans hb3)
        clear hB3 hb3 hk3
        go_wp2_with fail
        go_roundw
        case rel => exact ⟨i + 1, by omega, by go_num, by rw [HST.out, HE.out]; exact HB3.out, HW3.out⟩
        case measure => simp [intOf]; omega
      have f2 : (((s[i]'hlt).toNat : Int) == 60) = false := beq_eq_false_iff_ne.2 fun e => h60 (UInt8.toNat_inj.1 (by show _ = 60; omega))
      by_cases h62 : s[i]'hlt = 62
      · have f3 : (((s[i]'hlt).toNat : Int) == 62) = true := by rw [h62]; rfl
        have HE := Lib.hid (show escB q (s[i]'hlt) = [38, 103, 116, 59] by rw [h62]; rfl)
        have HS := Lib.hid (bStr w.heap.size w.heap.size out [38, 103, 116, 59] wr HB.out (by simp; omega) hz)
        rw [show mk [38, 103, 116, 59] = ⟨#[38, 103, 116, 59]⟩ from rfl] at HS
        clear h38 h60 h62
        go_wp2_with fail
        refine HS.out.mono ?_
        rintro e w3 ⟨rfl, hB3, hb3, hk3⟩
        have HB3 := Lib.hid hB3
        have HW3 := Lib.hid (HW.out.trans hb3)
        clear hB3 hb3 hk3
        go_wp2_with fail
        go_roundw
        case rel => exact ⟨i + 1, by omega, by go_num, by rw [HST.out, HE.out]; exact HB3.out, HW3.out⟩
        case measure => simp [intOf]; omega
      have f3 : (((s[i]'hlt).toNat : Int) == 62) = false := beq_eq_false_iff_ne.2 fun e => h62 (UInt8.toNat_inj.1 (by show _ = 62; omega))
      by_cases h34 : s[i]'hlt = 34 ∧ q = true
      · obtain ⟨h34, rfl⟩ := h34
        have f4 : (((s[i]'hlt).toNat : Int) == 34) = true := by rw [h34]; rfl
        have HE := Lib.hid (show escB true (s[i]'hlt) = [38, 113, 117, 111, 116, 59] by rw [h34]; rfl)
        have HS := Lib.hid (bStr w.heap.size w.heap.size out [38, 113, 117, 111, 116, 59] wr HB.out (by simp; omega) hz)
        rw [show mk [38, 113, 117, 111, 116, 59] = ⟨#[38, 113, 117, 111, 116, 59]⟩ from rfl] at HS
        clear h38 h60 h62 h34
        go_wp2_with fail
        refine HS.out.mono ?_
        rintro e w3 ⟨rfl, hB3, hb3, hk3⟩
        have HB3 := Lib.hid hB3
        have HW3 := Lib.hid (HW.out.trans hb3)
        clear hB3 hb3 hk3
        go_wp2_with fail
        go_roundw
        case rel => exact ⟨i + 1, by omega, by go_num, by rw [HST.out, HE.out]; exact HB3.out, HW3.out⟩
        case measure => simp [intOf]; omega
      have HE := Lib.hid (show escB q (s[i]'hlt) = [s[i]'hlt] by unfold escB; rw [if_neg h38, if_neg h60, if_neg h62, if_neg h34])
      have HBy := Lib.hid (bByte w.heap.size w.heap.size out ((s[i]'hlt).toNat : Int) (s[i]'hlt) rfl wr HB.out (by omega) hz)
      have h4 : (((s[i]'hlt).toNat : Int) == 34) = false ∨ q = false := by
        rcases Bool.eq_false_or_eq_true q with hq | hq
        · exact .inl (beq_eq_false_iff_ne.2 fun e => h34 ⟨UInt8.toNat_inj.1 (by show _ = 34; omega), hq⟩)
        · exact .inr hq
      clear h38 h60 h62 h34
      rcases h4 with f4 | rfl
      · go_wp2_with fail
        refine HBy.out.mono ?_
        rintro e w3 ⟨rfl, hB3, hb3, hk3⟩
        have HB3 := Lib.hid hB3
        have HW3 := Lib.hid (HW.out.trans hb3)
        clear hB3 hb3 hk3
        go_wp2_with fail
        go_roundw
        case rel => exact ⟨i + 1, by omega, by go_num, by rw [HST.out, HE.out]; exact HB3.out, HW3.out⟩
        case measure => simp [intOf]; omega
      · cases f4 : (((s[i]'hlt).toNat : Int) == 34)
        all_goals
          go_wp2_with fail
          refine HBy.out.mono ?_
          rintro e w3 ⟨rfl, hB3, hb3, hk3⟩
          have HB3 := Lib.hid hB3
          have HW3 := Lib.hid (HW.out.trans hb3)
          clear hB3 hb3 hk3
          go_wp2_with fail
          go_roundw
          case rel => exact ⟨i + 1, by omega, by go_num, by rw [HST.out, HE.out]; exact HB3.out, HW3.out⟩
          case measure => simp [intOf]; omega
    · obtain rfl : i = s.size := by omega
      rw [show (lst s).take s.size = lst s by rw [← lst_length]; exact List.take_length] at HB
      have HS := Lib.hid (bString w.heap.size w.heap.size _ wr HB.out hz)
      go_wp2_with fail
      refine HS.out.mono ?_
      rintro e w1 ⟨rfl, _, hb1, _⟩
      have HW1 := Lib.hid (HW.out.trans hb1)
      clear hb1
      go_wp2_with fail
      go_ret
      exact ⟨rfl, HW1.out⟩

end Go.Proofs.YtjkgmdnkejjppaaGreatDoor
/- Walks of emit: Name, raw, Attrs. -/
namespace Go.Proofs.YtjkgmdnkejjppaaGreatDoor
open Go Go.RowKit

/-- Is a rune refused in a name? -/
theorem nameFn_grows (w : World) : PredGrows Tryz.prog 84 #[] (fun r => !nameR r) w := by
  intro W r hr _
  have h9 : (r : Int) ≤ 1114111 := by omega
  have h0 : (0 : Int) ≤ r := by omega
  have HN := Lib.hid (show nameR r = ((decide (97 ≤ r) && decide (r ≤ 122)) || (decide (48 ≤ r) && decide (r ≤ 57)) || r == 45) from rfl)
  change Calls Tryz.prog _ #[.int .i32 r] W _
  by_cases a1 : 97 ≤ r
  · have b1 : (97 : Int) ≤ r := by omega
    by_cases a2 : r ≤ 122
    · have b2 : (r : Int) ≤ 122 := by omega
      have HR := Lib.hid (show nameR r = true by rw [HN.out]; simp [a1, a2])
      clear a1 a2
      go_enter Tryz.func84, Tryz.ntmps84
      go_wp2_with fail
      go_ret
      exact ⟨by rw [HR.out]; rfl, Below.refl _ _⟩
    · have b2 : ¬ (r : Int) ≤ 122 := by omega
      have b3 : (48 : Int) ≤ r := by omega
      have b4 : ¬ (r : Int) ≤ 57 := by omega
      have b5 : ((r : Int) == 45) = false := beq_eq_false_iff_ne.2 (by omega)
      have HR := Lib.hid (show nameR r = false by rw [HN.out]; simp [a1, a2]; omega)
      clear a1 a2
      go_enter Tryz.func84, Tryz.ntmps84
      go_wp2_with fail
      go_ret
      exact ⟨by rw [HR.out]; rfl, Below.refl _ _⟩
  · have b1 : ¬ (97 : Int) ≤ r := by omega
    by_cases a3 : 48 ≤ r
    · have b3 : (48 : Int) ≤ r := by omega
      by_cases a4 : r ≤ 57
      · have b4 : (r : Int) ≤ 57 := by omega
        have HR := Lib.hid (show nameR r = true by rw [HN.out]; simp [a3, a4])
        clear a1 a3 a4
        go_enter Tryz.func84, Tryz.ntmps84
        go_wp2_with fail
        go_ret
        exact ⟨by rw [HR.out]; rfl, Below.refl _ _⟩
      · have b4 : ¬ (r : Int) ≤ 57 := by omega
        have b5 : ((r : Int) == 45) = false := beq_eq_false_iff_ne.2 (by omega)
        have HR := Lib.hid (show nameR r = false by rw [HN.out]; simp [a1, a4]; omega)
        clear a1 a3 a4
        go_enter Tryz.func84, Tryz.ntmps84
        go_wp2_with fail
        go_ret
        exact ⟨by rw [HR.out]; rfl, Below.refl _ _⟩
    · have b3 : ¬ (48 : Int) ≤ r := by omega
      by_cases a5 : r = 45
      · have b5 : ((r : Int) == 45) = true := beq_iff_eq.2 (by omega)
        have HR := Lib.hid (show nameR r = true by rw [HN.out]; simp [a5])
        clear a1 a3 a5
        go_enter Tryz.func84, Tryz.ntmps84
        go_wp2_with fail
        go_ret
        exact ⟨by rw [HR.out]; rfl, Below.refl _ _⟩
      · have b5 : ((r : Int) == 45) = false := beq_eq_false_iff_ne.2 (by omega)
        have HR := Lib.hid (show nameR r = false by rw [HN.out]; simp [a1, a3, a5])
        clear a1 a3 a5
        go_enter Tryz.func84, Tryz.ntmps84
        go_wp2_with fail
        go_ret
        exact ⟨by rw [HR.out]; rfl, Below.refl _ _⟩

theorem enter_nameFn : ∀ args w, (callFunc 84 args).run Tryz.prog w = .ok (.enter 84 args) w := enters_of Tryz.func84 (by kernel_rfl) rfl
theorem indexFn_any (s : ByteArray) (w : World) :
    Calls Tryz.prog 124 #[.string s, .func (.func 84) #[] #[], .bool true] w fun e w' => e = .returned (.int .i64 (Lib.idxFunc (fun r => !nameR r) true s)) ∧ Below w.heap.size w w' :=
  Any.strings_indexFunc_grows Tryz.lays315 _ #[] enter_nameFn _ true s w (nameFn_grows w)
theorem containsFn_any (s : ByteArray) (w : World) :
    Calls Tryz.prog 83 #[.string s, .func (.func 84) #[] #[]] w fun e w' => e = .returned (.bool (!(lst s).all nameC)) ∧ Below w.heap.size w w' := by
  have HI := Lib.hid (indexFn_any s w)
  have hx := idx_name_all s
  rw [← hx]
  clear hx
  generalize Lib.idxFunc (fun r => !nameR r) true s = I at *
  have HF : Calls Tryz.prog 107 #[.string s, .func (.func 84) #[] #[]] w fun e w' => e = .returned (.int .i64 I) ∧ Below w.heap.size w w' := by
    go_enter Tryz.func107, Tryz.ntmps107
    go_wp2_with fail
    refine HI.out.mono ?_
    rintro e w1 ⟨rfl, hb⟩
    have HB := Lib.hid hb
    clear hb
    go_wp2_with fail
    go_ret
    exact ⟨rfl, HB.out⟩
  have HF' := Lib.hid HF
  clear HF HI
  go_enter Tryz.func83, Tryz.ntmps83
  go_wp2_with fail
  refine HF'.out.mono ?_
  rintro e w1 ⟨rfl, hb⟩
  have HB := Lib.hid hb
  clear hb
  go_wp2_with fail
  go_ret
  exact ⟨rfl, HB.out⟩

set_option maxHeartbeats 1000000 in
theorem name_any (s : ByteArray) (w : World) :
    Calls Tryz.prog 57 #[.string s] w fun e w' => e = .returned (.bool (nameM (lst s))) ∧ Below w.heap.size w w' := by
  have HC := Lib.hid (containsFn_any s w)
  by_cases h0 : s.size = 0
  · have hl : lst s = [] := List.eq_nil_of_length_eq_zero (by rw [lst_length]; exact h0)
    have hs0 : s = mk [] := by rw [← mk_lst s, hl]
    subst hs0
    rw [show mk [] = ⟨#[]⟩ from rfl]
    clear HC h0 hl
    go_enter Tryz.func57, Tryz.ntmps57
    go_wp2_with fail
    go_ret
    exact ⟨rfl, Below.refl _ _⟩
  · have hpos : 0 < s.size := by omega
    have hl : lst s = s[0]'hpos :: (lst s).drop 1 := by
      have h1 : 0 < (lst s).length := by rw [lst_length]; exact hpos
      have := List.drop_eq_getElem_cons h1
      rw [List.drop_zero] at this
      exact this
    have hne : lst s ≠ [] := by rw [hl]; simp
    have ht : s.toList = lst s := by
      have h := toList_mk (lst s)
      rw [mk_lst] at h
      exact h
    have f1 : (s.toList == []) = false := by rw [ht]; exact beq_eq_false_iff_ne.2 hne
    have f2 : ¬ s.toList = [] := by rw [ht]; exact hne
    have f3 : s.toList.isEmpty = false := by rw [ht]; exact List.isEmpty_eq_false_iff.2 hne
    clear ht
    have hN := Lib.hid (show nameM (lst s) = (decide ((lst s).length ≤ 12) && (decide ((97 : UInt8) ≤ s[0]'hpos) && decide (s[0]'hpos ≤ (122 : UInt8))) && (lst s).all nameC) by
      rw [hl]; rfl)
    have hc256 := (s[0]'hpos).toNat_lt
    have p0 : (0 : Int) < s.size := by omega
    have hlz := lst_length s
    have g1 : decide ((97 : UInt8) ≤ s[0]'hpos) = decide (97 ≤ (s[0]'hpos).toNat) := decide_eq_decide.2 UInt8.le_iff_toNat_le
    have g2 : decide (s[0]'hpos ≤ (122 : UInt8)) = decide ((s[0]'hpos).toNat ≤ 122) := decide_eq_decide.2 UInt8.le_iff_toNat_le
    rw [g1, g2, hlz] at hN
    clear g1 g2 hl hne h0
    by_cases h1 : 12 < s.size
    · have b1 : (12 : Int) < s.size := by omega
      have HR := Lib.hid (show nameM (lst s) = false by rw [hN.out, decide_eq_false (by omega)]; simp)
      clear h1
      go_enter Tryz.func57, Tryz.ntmps57
      go_wp2_with fail
      go_ret
      exact ⟨by rw [HR.out]; rfl, Below.refl _ _⟩
    · have b1 : ¬ (12 : Int) < s.size := by omega
      by_cases h2 : 97 ≤ (s[0]'hpos).toNat
      · have b2 : ¬ ((s[0]'hpos).toNat : Int) < 97 := by omega
        by_cases h3 : (s[0]'hpos).toNat ≤ 122
        · have b3 : ¬ (122 : Int) < ((s[0]'hpos).toNat : Int) := by omega
          have HR := Lib.hid (show nameM (lst s) = (lst s).all nameC by rw [hN.out, decide_eq_true (show s.size ≤ 12 by omega), decide_eq_true h2, decide_eq_true h3]; simp)
          clear h1 h2 h3
          go_enter Tryz.func57, Tryz.ntmps57
          go_wp2_with fail
          refine HC.out.mono ?_
          rintro e w1 ⟨rfl, hb⟩
          have HB := Lib.hid hb
          clear hb
          go_wp2_with fail
          go_ret
          exact ⟨by rw [HR.out, ← Bool.not_not ((lst s).all nameC)]; rfl, HB.out⟩
        · have b3 : (122 : Int) < ((s[0]'hpos).toNat : Int) := by omega
          have HR := Lib.hid (show nameM (lst s) = false by rw [hN.out, decide_eq_false h3]; simp)
          clear h1 h2 h3
          go_enter Tryz.func57, Tryz.ntmps57
          go_wp2_with fail
          go_ret
          exact ⟨by rw [HR.out]; rfl, Below.refl _ _⟩
      · have b2 : ((s[0]'hpos).toNat : Int) < 97 := by omega
        have HR := Lib.hid (show nameM (lst s) = false by rw [hN.out, decide_eq_false h2]; simp)
        clear h1 h2
        go_enter Tryz.func57, Tryz.ntmps57
        go_wp2_with fail
        go_ret
        exact ⟨by rw [HR.out]; rfl, Below.refl _ _⟩

def rawNames : List Bytes := [sScript, sStyle, sTextarea, sTitle]
theorem isRaw_names (n : Bytes) : rawNames.contains n = isRaw n := by
  unfold rawNames isRaw
  simp only [List.contains_cons, List.contains_nil, Bool.or_false, Bool.or_assoc]
end Go.Proofs.YtjkgmdnkejjppaaGreatDoor
/- Walks of emit: slices.ContainsFunc over attributes that are seen; Attrs; odd. -/
namespace Go.Proofs.YtjkgmdnkejjppaaGreatDoor
open Go Go.RowKit

set_option maxHeartbeats 1000000 in
set_option maxRecDepth 100000 in
theorem indexFunc_view (k : FuncId) (caps : Array Value) (he : ∀ args w, (callFunc k args).run Tryz.prog w = .ok (.enter k args) w) (pb : TAttr → Bool) (v : Value) (l : List TAttr) (hl : l.length ≤ 1000000000) (w : World) (hr : AttrView w v l)
    (hcl : ∀ W a, a ∈ l → Below w.heap.size w W → Calls Tryz.prog k (#[AttrArg a] ++ caps) W fun e w' => e = .returned (.bool (pb a)) ∧ Below W.heap.size W w') :
    Calls Tryz.prog 108 #[v, .func (.func k) #[] caps] w fun e w' => e = .returned (.int .i64 (idxI pb l)) ∧ Below w.heap.size w w' := by
  obtain ⟨a0, cap0, hv⟩ := hr.1
  have HR := Lib.hid hr
  have HCL := Lib.hid hcl
  clear hr hcl
  subst hv
  go_enter Tryz.func108, Tryz.ntmps108
  go_wp2_with fail
  go_loopg [5, 8] l.length (fun g _ v8 wx => ∃ (W : World) (i : Nat), W = wx ∧ i + g = l.length ∧ v8 = .int .i64 i ∧ Below w.heap.size w wx ∧ Hid (∀ a, a ∈ l.take i → pb a = false))
  case atStart => exact ⟨_, 0, rfl, by omega, rfl, Below.refl _ _, (by simp : ∀ a, a ∈ l.take 0 → pb a = false)⟩
  case round =>
    obtain ⟨wr, i, rfl, hg, rfl, hb, hh⟩ := hrel
    have HB := Lib.hid hb
    clear hb
    by_cases hi : i < l.length
    · obtain ⟨a, ha⟩ : ∃ a, l[i]? = some a := ⟨l[i], List.getElem?_eq_getElem hi⟩
      obtain ⟨g, cap, hv, hcap, ⟨cs, hgb⟩, hc0, hc1⟩ := HR.out.2 i a ha
      obtain ⟨rfl, rfl⟩ : a0 = some ⟨g, 0, none⟩ ∧ cap0 = cap := by injection hv with h1 h2 h3; exact ⟨h1, h3⟩
      have hglt := lt_of_block hgb
      have k0 : wr.cell? ⟨g, i * 2, none⟩ = some (.string (mk a.name)) := by rw [HB.out.cell (p := ⟨g, i * 2, none⟩) hglt]; exact hc0
      have k1 : wr.cell? ⟨g, i * 2 + 1, none⟩ = some (.string (mk a.value)) := by rw [HB.out.cell (p := ⟨g, i * 2 + 1, none⟩) hglt]; exact hc1
      have hCa := HCL.out wr a (List.mem_of_getElem? ha) HB.out
      have HA := Lib.hid ha
      clear hv hc0 hc1 ha hgb
      have HCa := Lib.hid hCa
      clear hCa
      go_wp2_with fail
      refine HCa.out.mono ?_
      rintro e w2 ⟨rfl, hb2⟩
      have HB2 := Lib.hid (HB.out.trans (hb2.mono HB.out.size))
      clear hb2
      cases hp : pb a with
      | true =>
        have hfin : idxI pb l = (i : Int) := by
          unfold idxI
          have : l.findIdx? pb = some i := by
            obtain ⟨hi', hia⟩ := List.getElem?_eq_some_iff.1 HA.out
            refine List.findIdx?_eq_some_iff_getElem.2 ⟨hi', by rw [hia]; exact hp, fun j hj => ?_⟩
            have := hh.out (l[j]'(by omega)) (by rw [List.mem_take_iff_getElem]; exact ⟨j, by omega, rfl⟩)
            simpa using this
          rw [this]
        have HF := Lib.hid hfin
        clear hfin hp
        go_wp2_with fail
        go_ret
        exact ⟨by rw [HF.out]; rfl, HB2.out⟩
      | false =>
        have HH : Hid (∀ x, x ∈ l.take (i + 1) → pb x = false) := by
          have h : ∀ x, x ∈ l.take (i + 1) → pb x = false := by
            intro x hx
            rw [List.take_add_one, HA.out] at hx
            rcases List.mem_append.1 hx with hx | hx
            · exact hh.out x hx
            · simp at hx; subst hx; exact hp
          exact h
        clear hp
        go_wp2_with fail
        go_roundg (l.length - (i + 1))
        case measure => omega
        case rel => exact ⟨_, i + 1, rfl, by omega, by go_num, HB2.out, HH⟩
    · have hfin : idxI pb l = -1 := by
        unfold idxI
        have : l.findIdx? pb = none := List.findIdx?_eq_none_iff.2 (fun x hx => hh.out x (by rw [List.take_of_length_le (by omega)]; exact hx))
        rw [this]
      have HF := Lib.hid hfin
      clear hfin
      go_wp2_with fail
      go_ret
      exact ⟨by rw [HF.out]; rfl, HB.out⟩

set_option maxHeartbeats 1000000 in
theorem containsFunc_view (k : FuncId) (caps : Array Value) (he : ∀ args w, (callFunc k args).run Tryz.prog w = .ok (.enter k args) w) (pb : TAttr → Bool) (v : Value) (l : List TAttr) (hl : l.length ≤ 1000000000) (w : World) (hr : AttrView w v l)
    (hcl : ∀ W a, a ∈ l → Below w.heap.size w W → Calls Tryz.prog k (#[AttrArg a] ++ caps) W fun e w' => e = .returned (.bool (pb a)) ∧ Below W.heap.size W w') :
    Calls Tryz.prog 85 #[v, .func (.func k) #[] caps] w fun e w' => e = .returned (.bool (l.any pb)) ∧ Below w.heap.size w w' := by
  have HI := Lib.hid (indexFunc_view k caps he pb v l hl w hr hcl)
  have HD := Lib.hid (idxI_any pb l)
  clear hr hcl he
  go_enter Tryz.func85, Tryz.ntmps85
  go_wp2_with fail
  refine HI.out.mono ?_
  rintro e w1 ⟨rfl, hb⟩
  have HB := Lib.hid hb
  clear hb
  go_wp2_with fail
  go_ret
  exact ⟨by rw [← HD.out]; rfl, HB.out⟩


/-- The first of them. -/
theorem AttrView.take {w : World} {a : Option Addr} {cap : Nat} {l : List TAttr} (h : AttrView w (.slice a l.length cap) l) {n : Nat} (hn : n ≤ l.length) : AttrView w (.slice a n cap) (l.take n) := by
  refine ⟨⟨a, cap, by rw [List.length_take, Nat.min_eq_left hn]⟩, fun i t hi => ?_⟩
  have hlt : i < n := by have := (List.getElem?_eq_some_iff.1 hi).1; rw [List.length_take] at this; omega
  rw [List.getElem?_take_of_lt hlt] at hi
  obtain ⟨g, c, hv, hc, hb, h1, h2⟩ := h.2 i t hi
  obtain ⟨rfl, rfl⟩ : a = some ⟨g, 0, none⟩ ∧ cap = c := by simpa using hv
  rw [List.length_take, Nat.min_eq_left hn]
  exact ⟨g, cap, rfl, by omega, hb, h1, h2⟩
theorem AttrView.cap_le {w : World} {a : Option Addr} {cap : Nat} {l : List TAttr} (h : AttrView w (.slice a l.length cap) l) {n : Nat} (hn : n ≤ l.length) : n ≤ cap := by
  rcases Nat.eq_zero_or_pos n with h0 | h0
  · omega
  · obtain ⟨g, c, hv, hc, _⟩ := h.2 0 _ (List.getElem?_eq_getElem (by omega))
    obtain ⟨_, rfl⟩ : a = some ⟨g, 0, none⟩ ∧ cap = c := by simpa using hv
    omega

theorem enter_attrs1 : ∀ args w, (callFunc 86 args).run Tryz.prog w = .ok (.enter 86 args) w := enters_of Tryz.func86 (by kernel_rfl) rfl
theorem enter_attrs2 : ∀ args w, (callFunc 87 args).run Tryz.prog w = .ok (.enter 87 args) w := enters_of Tryz.func87 (by kernel_rfl) rfl

theorem attrs1_any (W : World) (a : TAttr) : Calls Tryz.prog 86 (#[AttrArg a] ++ #[]) W fun e w' => e = .returned (.bool (!nameM a.name)) ∧ Below W.heap.size W w' := by
  obtain ⟨w1, hw1⟩ : ∃ w1, w1 = W.alloc (.cells #[.string (mk a.name), .string (mk a.value)] 85) := ⟨_, rfl⟩
  have hb1 : Below W.heap.size W w1 := by rw [hw1]; exact (Below.refl _ _).alloc (Nat.le_refl _) _
  have hN : w1.heap[W.heap.size]? = some (.cells #[.string (mk a.name), .string (mk a.value)] 85 (0, 0)) := by rw [hw1]; exact heap_alloc_new _ _
  have c0 : w1.cell? ⟨W.heap.size, 0, none⟩ = some (.string (mk a.name)) := by rw [Lib.cell_of_heap hN]; rfl
  have HC := Lib.hid (name_any (mk a.name) w1)
  rw [lst_mk] at HC
  have HB1 := Lib.hid hb1
  have HW1 := Lib.hid hw1
  clear hb1 hN hw1
  unfold AttrArg
  change Calls Tryz.prog _ #[.agg #[.string (mk a.name), .string (mk a.value)]] W _
  go_enter Tryz.func86, Tryz.ntmps86
  go_upto_region 1 with fail
  rw [← HW1.out]
  go_wp2_with fail
  refine HC.out.mono ?_
  rintro e w2 ⟨rfl, hb⟩
  have HB2 := Lib.hid (HB1.out.trans (hb.mono HB1.out.size))
  clear hb
  go_wp2_with fail
  go_ret
  exact ⟨rfl, HB2.out⟩

theorem attrs2_any (W : World) (a b : TAttr) (n : Nat) (hn : W.cell? ⟨n, 0, none⟩ = some (.string (mk a.name))) : Calls Tryz.prog 87 (#[AttrArg b] ++ #[.pointer (some ⟨n, 0, none⟩)]) W fun e w' => e = .returned (.bool (a.name == b.name)) ∧ Below W.heap.size W w' := by
  obtain ⟨w1, hw1⟩ : ∃ w1, w1 = W.alloc (.cells #[.string (mk b.name), .string (mk b.value)] 85) := ⟨_, rfl⟩
  have hb1 : Below W.heap.size W w1 := by rw [hw1]; exact (Below.refl _ _).alloc (Nat.le_refl _) _
  have hN : w1.heap[W.heap.size]? = some (.cells #[.string (mk b.name), .string (mk b.value)] 85 (0, 0)) := by rw [hw1]; exact heap_alloc_new _ _
  have c0 : w1.cell? ⟨W.heap.size, 0, none⟩ = some (.string (mk b.name)) := by rw [Lib.cell_of_heap hN]; rfl
  have c1 : w1.cell? ⟨n, 0, none⟩ = some (.string (mk a.name)) := (hb1.cell (p := ⟨n, 0, none⟩) (block_lt_of_cell hn)).trans hn
  have HB1 := Lib.hid hb1
  have HW1 := Lib.hid hw1
  clear hb1 hN hw1 hn
  unfold AttrArg
  change Calls Tryz.prog _ #[.agg #[.string (mk b.name), .string (mk b.value)], .pointer (some ⟨n, 0, none⟩)] W _
  by_cases he : a.name = b.name
  · have s1 : ((mk a.name).toList == (mk b.name).toList) = true := by rw [he]; exact beq_self_eq_true _
    have s2 : (mk a.name).toList = (mk b.name).toList := by rw [he]
    have HE := Lib.hid (show (a.name == b.name) = true by rw [he]; exact beq_self_eq_true _)
    clear he
    go_enter Tryz.func87, Tryz.ntmps87
    go_upto_region 1 with fail
    rw [← HW1.out]
    go_wp2_with fail
    go_ret
    exact ⟨by rw [HE.out]; rfl, HB1.out⟩
  · have s1 : ((mk a.name).toList == (mk b.name).toList) = false := beq_eq_false_iff_ne.2 (by rw [toList_mk, toList_mk]; exact he)
    have s2 : ¬ (mk a.name).toList = (mk b.name).toList := by rw [toList_mk, toList_mk]; exact he
    have HE := Lib.hid (show (a.name == b.name) = false from beq_eq_false_iff_ne.2 he)
    clear he
    go_enter Tryz.func87, Tryz.ntmps87
    go_upto_region 1 with fail
    rw [← HW1.out]
    go_wp2_with fail
    go_ret
    exact ⟨by rw [HE.out]; rfl, HB1.out⟩

set_option maxHeartbeats 2000000 in
set_option maxRecDepth 100000 in
theorem attrs_any (v : Value) (l : List TAttr) (hl : l.length ≤ 1000000) (w : World) (hv : AttrView w v l) :
    Calls Tryz.prog 59 #[v] w fun e w' => e = .returned (.int .i64 (attrsM l)) ∧ Below w.heap.size w w' := by
  have H1 := Lib.hid (containsFunc_view 86 #[] enter_attrs1 (fun a => !nameM a.name) v l (by omega) w hv (fun W a _ _ => attrs1_any W a))
  obtain ⟨ad, cap, hf⟩ := hv.1
  subst hf
  have HV := Lib.hid hv
  have HA := Lib.hid (show attrsM l = if l.any (fun a => !nameM a.name) then 5 else if 4 < l.length then 1 else if twiceM l then 8 else 0 from rfl)
  have hcap := hv.cap_le (Nat.le_refl l.length)
  clear hv
  go_enter Tryz.func59, Tryz.ntmps59
  go_wp2_with fail
  refine H1.out.mono ?_
  rintro e w1 ⟨rfl, hb⟩
  have HB1 := Lib.hid hb
  clear hb
  cases h1 : l.any (fun a => !nameM a.name) with
  | true =>
    have HR := Lib.hid (show attrsM l = 5 by rw [HA.out, h1]; rfl)
    clear h1
    go_wp2_with fail
    go_ret
    exact ⟨by rw [HR.out]; rfl, HB1.out⟩
  | false =>
    have HA2 := Lib.hid (show attrsM l = if 4 < l.length then 1 else if twiceM l then 8 else 0 by rw [HA.out, h1]; rfl)
    clear h1
    by_cases h2 : 4 < l.length
    · have b2 : (4 : Int) < l.length := by omega
      have HR := Lib.hid (show attrsM l = 1 by rw [HA2.out, if_pos h2])
      go_wp2_with fail
      go_ret
      exact ⟨by rw [HR.out]; rfl, HB1.out⟩
    · have b2 : ¬ (4 : Int) < l.length := by omega
      have HA3 := Lib.hid (show attrsM l = if twiceM l then 8 else 0 by rw [HA2.out, if_neg h2])
      go_wp2_with fail
      go_loopg [12] l.length (fun g i wx => ∃ (W : World) (k : Nat), W = wx ∧ k + g = l.length ∧ i = .int .i64 k ∧ Hid (Below w.heap.size w wx) ∧ Hid (∀ i a, i < k → l[i]? = some a → (l.take i).any (fun b => a.name == b.name) = false))
      case atStart => exact ⟨_, 0, rfl, by omega, rfl, HB1, Lib.hid (fun i a h => by omega)⟩
      case round =>
        obtain ⟨wr, k, rfl, hk, rfl, hB, hno⟩ := hrel
        by_cases hlt : k < l.length
        · obtain ⟨n, rfl⟩ : ∃ n, gk = n + 1 := ⟨gk - 1, by omega⟩
          obtain ⟨a, ha⟩ : ∃ a, l[k]? = some a := ⟨_, List.getElem?_eq_getElem hlt⟩
          have hvr := HV.out.older (.of_below hB.out)
          obtain ⟨g, c, hf, hc1, ⟨cs, hgb⟩, a1, a2⟩ := hvr.2 k a ha
          obtain ⟨rfl, rfl⟩ : ad = some ⟨g, 0, none⟩ ∧ cap = c := by simpa using hf
          obtain ⟨w2, hw2⟩ : ∃ w2, w2 = wr.alloc (.cells #[.string (mk a.name), .string (mk a.value)] 85) := ⟨_, rfl⟩
          have hb2 : Below wr.heap.size wr w2 := by rw [hw2]; exact (Below.refl _ _).alloc (Nat.le_refl _) _
          have hN : w2.heap[wr.heap.size]? = some (.cells #[.string (mk a.name), .string (mk a.value)] 85 (0, 0)) := by rw [hw2]; exact heap_alloc_new _ _
          have c0 : w2.cell? ⟨wr.heap.size, 0, none⟩ = some (.string (mk a.name)) := by rw [Lib.cell_of_heap hN]; rfl
          have hz2 : wr.heap.size < w2.heap.size := lt_of_block hN
          have HC := Lib.hid (containsFunc_view 87 #[.pointer (some ⟨wr.heap.size, 0, none⟩)] enter_attrs2 (fun b => a.name == b.name) (.slice (some ⟨g, 0, none⟩) k cap) (l.take k) (by rw [List.length_take]; omega) w2 ((hvr.older (.of_below hb2)).take (by omega))
            (fun W b _ hW => attrs2_any W a b _ ((hW.cell (p := ⟨wr.heap.size, 0, none⟩) hz2).trans c0)))
          have HB2 := Lib.hid (hB.out.trans (hb2.mono hB.out.size))
          have HW2 := Lib.hid hw2
          have HAK := Lib.hid ha
          have k0 : (0 : Int) ≤ k := by omega
          have k1 : (k : Int) < l.length := by omega
          have k2 : (k : Int) ≤ cap := by omega
          clear hf hvr hgb ha hb2 hN hw2 c0
          go_upto_region 8 with fail
          rw [← HW2.out]
          go_wp2_with fail
          refine HC.out.mono ?_
          rintro e w3 ⟨rfl, hb3⟩
          have HB3 := Lib.hid (HB2.out.trans (hb3.mono HB2.out.size))
          clear hb3
          cases hx : (l.take k).any (fun b => a.name == b.name) with
          | true =>
            have HR := Lib.hid (show attrsM l = 8 by rw [HA3.out, (twice_iff l).2 ⟨k, a, HAK.out, hx⟩]; rfl)
            clear hx
            go_wp2_with fail
            go_ret
            exact ⟨by rw [HR.out]; rfl, HB3.out⟩
          | false =>
            have HNO := Lib.hid (show ∀ i b, i < k + 1 → l[i]? = some b → (l.take i).any (fun c => b.name == c.name) = false from fun i b hi hb => by
              by_cases hik : i = k
              · subst hik; rw [HAK.out] at hb; cases hb; exact hx
              · exact hno.out i b (by omega) hb)
            clear hx
            go_wp2_with fail
            go_roundg n
            case measure => omega
            case rel => exact ⟨_, k + 1, rfl, by omega, by go_num, HB3, HNO⟩
        · obtain rfl : k = l.length := by omega
          have HR := Lib.hid (show attrsM l = 0 by
            rw [HA3.out, twice_none l (fun i a h => hno.out i a (List.getElem?_eq_some_iff.1 h).1 h)]; rfl)
          go_wp2_with fail
          go_ret
          exact ⟨by rw [HR.out]; rfl, hB.out⟩

end Go.Proofs.YtjkgmdnkejjppaaGreatDoor
