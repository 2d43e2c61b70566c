/- Walks of ref.Escape and of strings.Builder.WriteString; emit.raw. -/
import Derived.Test.YtemomhanchiipaaGreatDoorBld
import Derived.Test.YtemomhanchiipaaGreatDoorELaw
import Derived.Test.YtemomhanchiipaaGreatDoorTWalkC
import Derived.Test.YtemomhanchiipaaGreatDoorLibA
namespace Go.Proofs.YtemomhanchiipaaGreatDoor
open Go Go.RowKit

theorem strCells_mk (m : Bytes) : Lib.strCells (mk m) = Lib.byteCells m := rfl

set_option maxHeartbeats 2000000 in
set_option maxRecDepth 100000 in
theorem bStr (B b : Nat) (l m : Bytes) (w : World) (h : Bld B b l w) (hlen : l.length + m.length ≤ 140737488355328) (hBw : B ≤ w.heap.size) :
    Calls Tryz.prog 35 #[.pointer (some ⟨b, 0, none⟩), .string (mk m)] w fun e w' => e = .returned (.tuple #[.int .i64 m.length, .nilIface]) ∧ Bld B b (l ++ m) w' ∧ Below B w w' ∧ Lib.OthersKept 5 (some b) w w' := by
  obtain ⟨i0, hi, hz0, hz1, hz2⟩ := info_parts infoByte
  go_enter Tryz.func35, Tryz.ntmps35
  go_wp2_with (go_at_call 57; refine (copyCheck_any B b _ _ h).mono ?_)
  rintro e w1 ⟨rfl, h1, hb1, hk1⟩
  obtain ⟨hB, v, hbk, hown, hne⟩ := h1
  have hL := Lib.byteCells_length l
  have HL := Lib.hid hL
  clear hL
  have c0 : w1.cell? ⟨b, 0, none⟩ = some (.pointer (some ⟨b, 0, none⟩)) := by rw [Lib.cell_of_heap hbk]; rfl
  have c1 : w1.cell? ⟨b, 1, none⟩ = some v := by rw [Lib.cell_of_heap hbk]; rfl
  go_wp2_with (at_builtin; refine Lib.wpList_append_own_stringF _ rfl _ _ 61 9 rfl B 5 i0 Tryz.underlying61 Tryz.underlying9 hi hz0 hz1 hz2 _ _ _ rfl hown (mk m) rfl ?c3 ?c4 ?c5 ?_)
  case c3 => have := HL.out; have := mk_size m; unfold maxLen; omega
  case c4 => have := HL.out; have := mk_size m; omega
  case c5 => have := hb1.size; omega
  intro v' w2 hown' hgrow _
  have hlt : b < w1.heap.size := by
    rcases Nat.lt_or_ge b w1.heap.size with h' | h'
    · exact h'
    · simp [Array.getElem?_eq_none h'] at hbk
  have hb2 : w2.heap[b]? = some (.cells #[.pointer (some ⟨b, 0, none⟩), v] 65 (0, 0)) := by
    rw [hgrow.block b hlt (fun e => hne e.symm)]
    exact hbk
  have d0 : w2.cell? ⟨b, 0, none⟩ = some (.pointer (some ⟨b, 0, none⟩)) := by rw [Lib.cell_of_heap hb2]; rfl
  have d1 : w2.cell? ⟨b, 1, none⟩ = some v := by rw [Lib.cell_of_heap hb2]; rfl
  have f1 : w2.frozen? ⟨b, 1, none⟩ = false := Lib.frozen_of_heap hb2 1
  obtain ⟨ao, n', cap, rfl⟩ : ∃ ao n' cap, v' = .slice ao n' cap := by
    rcases hown'.2 with ⟨hv, _⟩ | ⟨g, cap, cur, fz, hv, _⟩
    · exact ⟨_, _, _, hv⟩
    · exact ⟨_, _, _, hv⟩
  go_wp2
  go_ret2
  refine ⟨rfl, ?_, ?_, (hk1.grown hgrow (Lib.ownsRowF_kind hown)).setCell ⟨b, 1, none⟩ rfl _⟩
  · refine .inr ?_
    rw [Lib.byteCells_append]
    exact Lib.BuilderAtF.put (T := 65) (e := 5) hB hb2 (bs' := Lib.byteCells l ++ Lib.byteCells m) (by rw [strCells_mk, mk_size] at hown'; simpa [Lib.byteCells_length] using hown') neBuilder
  · exact (hb1.grown hgrow (by have := hb1.size; omega) (fun k hk => (hown.lt k hk).1)).setCell (p := ⟨b, 1, none⟩) hB _

theorem escM_take (q : Bool) (l : Bytes) (i : Nat) (c : UInt8) (h : l[i]? = some c) : escM q (l.take (i + 1)) = escM q (l.take i) ++ escB q c := by
  rw [List.take_add_one, h, escM_append]
  show _ ++ escM q [c] = _
  rw [escM, escM, List.append_nil]

set_option maxHeartbeats 4000000 in
set_option maxRecDepth 100000 in
theorem escape_any (s : ByteArray) (q : Bool) (hsz : s.size ≤ 1000000) (w : World) :
    Calls Tryz.prog 12 #[.string s, .bool q] w fun e w' => e = .returned (.string (mk (escM q (lst s)))) ∧ Below w.heap.size w w' := by
  have hb0 := Bld.fresh w
  have HB0 := Lib.hid hb0
  clear hb0
  go_enter Tryz.func12, Tryz.ntmps12
  go_wp2
  go_loopw [10] (fun vi wr => ∃ (i : Nat), i ≤ s.size ∧ vi = .int .i64 i ∧ Bld w.heap.size w.heap.size (escM q ((lst s).take i)) wr ∧ Below w.heap.size w wr) (fun vi _ => s.size - (intOf vi).toNat)
  case atStart => exact ⟨0, Nat.zero_le _, rfl, HB0.out, (Below.refl _ _).alloc (Nat.le_refl _) _⟩
  case round =>
    obtain ⟨i, hi, rfl, hB, hb⟩ := hrel
    have HB := Lib.hid hB
    have HW := Lib.hid hb
    have hz := hb.size
    clear hB hb
    by_cases hlt : i < s.size
    · have hst := escM_take q (lst s) i (s[i]'hlt) (lst_get s i hlt)
      have hol := (escM_len q ((lst s).take i)).2.1
      have htl : ((lst s).take i).length ≤ s.size := by rw [List.length_take, lst_length]; omega
      have HST := Lib.hid hst
      generalize escM q ((lst s).take i) = out at *
      have hout : out.length ≤ 6000000 := by omega
      have hc256 := (s[i]'hlt).toNat_lt
      have k0 : (0 : Int) ≤ i := by omega
      have k1 : (i : Int) < s.size := by omega
      clear hst hol htl
      by_cases h38 : s[i]'hlt = 38
      · have f1 : (((s[i]'hlt).toNat : Int) == 38) = true := by rw [h38]; rfl
        have HE := Lib.hid (show escB q (s[i]'hlt) = [38, 97, 109, 112, 59] by rw [h38]; rfl)
        have HS := Lib.hid (bStr w.heap.size w.heap.size out [38, 97, 109, 112, 59] wr HB.out (by simp; omega) hz)
        rw [show mk [38, 97, 109, 112, 59] = ⟨#[38, 97, 109, 112, 59]⟩ from rfl] at HS
        clear h38
        go_wp2_with fail
        refine HS.out.mono ?_
        rintro e w3 ⟨rfl, hB3, hb3, hk3⟩
        have HB3 := Lib.hid hB3
        have HW3 := Lib.hid (HW.out.trans hb3)
        clear hB3 hb3 hk3
        go_wp2_with fail
        go_roundw
        case rel => exact ⟨i + 1, by omega, by go_num, by rw [HST.out, HE.out]; exact HB3.out, HW3.out⟩
        case measure => simp [intOf]; omega
      have f1 : (((s[i]'hlt).toNat : Int) == 38) = false := beq_eq_false_iff_ne.2 fun e => h38 (UInt8.toNat_inj.1 (by show _ = 38; omega))
      by_cases h60 : s[i]'hlt = 60
      · have f2 : (((s[i]'hlt).toNat : Int) == 60) = true := by rw [h60]; rfl
        have HE := Lib.hid (show escB q (s[i]'hlt) = [38, 108, 116, 59] by rw [h60]; rfl)
        have HS := Lib.hid (bStr w.heap.size w.heap.size out [38, 108, 116, 59] wr HB.out (by simp; omega) hz)
        rw [show mk [38, 108, 116, 59] = ⟨#[38, 108, 116, 59]⟩ from rfl] at HS
        clear h38 h60
        go_wp2_with fail
        refine HS.out.mono ?_
        rintro e w3 ⟨rfl, hB3, hb3, hk3⟩
        have HB3 := Lib.hid hB3
        have HW3 := Lib.hid (HW.out.trans hb3)
        clear hB3 hb3 hk3
        go_wp2_with fail
        go_roundw
        case rel => exact ⟨i + 1, by omega, by go_num, by rw [HST.out, HE.out]; exact HB3.out, HW3.out⟩
        case measure => simp [intOf]; omega
      have f2 : (((s[i]'hlt).toNat : Int) == 60) = false := beq_eq_false_iff_ne.2 fun e => h60 (UInt8.toNat_inj.1 (by show _ = 60; omega))
      by_cases h62 : s[i]'hlt = 62
      · have f3 : (((s[i]'hlt).toNat : Int) == 62) = true := by rw [h62]; rfl
        have HE := Lib.hid (show escB q (s[i]'hlt) = [38, 103, 116, 59] by rw [h62]; rfl)
        have HS := Lib.hid (bStr w.heap.size w.heap.size out [38, 103, 116, 59] wr HB.out (by simp; omega) hz)
        rw [show mk [38, 103, 116, 59] = ⟨#[38, 103, 116, 59]⟩ from rfl] at HS
        clear h38 h60 h62
        go_wp2_with fail
        refine HS.out.mono ?_
        rintro e w3 ⟨rfl, hB3, hb3, hk3⟩
        have HB3 := Lib.hid hB3
        have HW3 := Lib.hid (HW.out.trans hb3)
        clear hB3 hb3 hk3
        go_wp2_with fail
        go_roundw
        case rel => exact ⟨i + 1, by omega, by go_num, by rw [HST.out, HE.out]; exact HB3.out, HW3.out⟩
        case measure => simp [intOf]; omega
      have f3 : (((s[i]'hlt).toNat : Int) == 62) = false := beq_eq_false_iff_ne.2 fun e => h62 (UInt8.toNat_inj.1 (by show _ = 62; omega))
      by_cases h34 : s[i]'hlt = 34 ∧ q = true
      · obtain ⟨h34, rfl⟩ := h34
        have f4 : (((s[i]'hlt).toNat : Int) == 34) = true := by rw [h34]; rfl
        have HE := Lib.hid (show escB true (s[i]'hlt) = [38, 113, 117, 111, 116, 59] by rw [h34]; rfl)
        have HS := Lib.hid (bStr w.heap.size w.heap.size out [38, 113, 117, 111, 116, 59] wr HB.out (by simp; omega) hz)
        rw [show mk [38, 113, 117, 111, 116, 59] = ⟨#[38, 113, 117, 111, 116, 59]⟩ from rfl] at HS
        clear h38 h60 h62 h34
        go_wp2_with fail
        refine HS.out.mono ?_
        rintro e w3 ⟨rfl, hB3, hb3, hk3⟩
        have HB3 := Lib.hid hB3
        have HW3 := Lib.hid (HW.out.trans hb3)
        clear hB3 hb3 hk3
        go_wp2_with fail
        go_roundw
        case rel => exact ⟨i + 1, by omega, by go_num, by rw [HST.out, HE.out]; exact HB3.out, HW3.out⟩
        case measure => simp [intOf]; omega
      have HE := Lib.hid (show escB q (s[i]'hlt) = [s[i]'hlt] by unfold escB; rw [if_neg h38, if_neg h60, if_neg h62, if_neg h34])
      have HBy := Lib.hid (bByte w.heap.size w.heap.size out ((s[i]'hlt).toNat : Int) (s[i]'hlt) rfl wr HB.out (by omega) hz)
      have h4 : (((s[i]'hlt).toNat : Int) == 34) = false ∨ q = false := by
        rcases Bool.eq_false_or_eq_true q with hq | hq
        · exact .inl (beq_eq_false_iff_ne.2 fun e => h34 ⟨UInt8.toNat_inj.1 (by show _ = 34; omega), hq⟩)
        · exact .inr hq
      clear h38 h60 h62 h34
      rcases h4 with f4 | rfl
      · go_wp2_with fail
        refine HBy.out.mono ?_
        rintro e w3 ⟨rfl, hB3, hb3, hk3⟩
        have HB3 := Lib.hid hB3
        have HW3 := Lib.hid (HW.out.trans hb3)
        clear hB3 hb3 hk3
        go_wp2_with fail
        go_roundw
        case rel => exact ⟨i + 1, by omega, by go_num, by rw [HST.out, HE.out]; exact HB3.out, HW3.out⟩
        case measure => simp [intOf]; omega
      · cases f4 : (((s[i]'hlt).toNat : Int) == 34)
        all_goals
          go_wp2_with fail
          refine HBy.out.mono ?_
          rintro e w3 ⟨rfl, hB3, hb3, hk3⟩
          have HB3 := Lib.hid hB3
          have HW3 := Lib.hid (HW.out.trans hb3)
          clear hB3 hb3 hk3
          go_wp2_with fail
          go_roundw
          case rel => exact ⟨i + 1, by omega, by go_num, by rw [HST.out, HE.out]; exact HB3.out, HW3.out⟩
          case measure => simp [intOf]; omega
    · obtain rfl : i = s.size := by omega
      rw [show (lst s).take s.size = lst s by rw [← lst_length]; exact List.take_length] at HB
      have HS := Lib.hid (bString w.heap.size w.heap.size _ wr HB.out hz)
      go_wp2_with fail
      refine HS.out.mono ?_
      rintro e w1 ⟨rfl, _, hb1, _⟩
      have HW1 := Lib.hid (HW.out.trans hb1)
      clear hb1
      go_wp2_with fail
      go_ret
      exact ⟨rfl, HW1.out⟩

end Go.Proofs.YtemomhanchiipaaGreatDoor
