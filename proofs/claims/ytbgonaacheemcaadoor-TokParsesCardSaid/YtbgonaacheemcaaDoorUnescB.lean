/- ref.Unescape. -/
import Derived.Test.YtbgonaacheemcaaDoorUnesc
namespace Go.Proofs.YtbgonaacheemcaaDoor
open Go Go.RowKit

theorem brk_split (c l : Bytes) : brk c l ++ brkR c l = l := List.takeWhile_append_dropWhile
theorem brk_le (c l : Bytes) : (brk c l).length ≤ l.length := by
  have h := congrArg List.length (brk_split c l)
  simp only [List.length_append] at h
  omega
theorem brk_take (c l : Bytes) : l.take (brk c l).length = brk c l := by
  have h := brk_split c l
  generalize brk c l = a at *
  generalize brkR c l = b at *
  subst h; simp
theorem brk_drop (c l : Bytes) : l.drop (brk c l).length = brkR c l := by
  have h := brk_split c l
  generalize brk c l = a at *
  generalize brkR c l = b at *
  subst h; simp

theorem unescN_fuel : ∀ (n m : Nat) (l : Bytes), l.length ≤ n → l.length ≤ m → unescN n l = unescN m l
  | 0, 0, _, _, _ => rfl
  | 0, m + 1, l, h, _ => by
    have : l = [] := List.eq_nil_of_length_eq_zero (by omega)
    subst this; rfl
  | n + 1, 0, l, _, h => by
    have : l = [] := List.eq_nil_of_length_eq_zero (by omega)
    subst this; rfl
  | n + 1, m + 1, [], _, _ => rfl
  | n + 1, m + 1, c :: r, h1, h2 => by
    simp only [List.length_cons] at h1 h2
    unfold unescN
    have e1 := unescN_fuel n m r (by omega) (by omega)
    have e2 := unescN_fuel n m (r.drop ((brk [59] r).length + 1)) (by simp; omega) (by simp; omega)
    rw [e1, e2]

theorem unesc_cons (c : UInt8) (r : Bytes) : unesc (c :: r) = (if c = 38 ∧ (brk [59] r).length < r.length then
      match letterM (brk [59] r) with
      | some x => Lib.encodeRune x ++ unesc (r.drop ((brk [59] r).length + 1))
      | none => c :: unesc r
    else c :: unesc r) := by
  have e2 : unescN r.length (r.drop ((brk [59] r).length + 1)) = unesc (r.drop ((brk [59] r).length + 1)) := unescN_fuel _ _ _ (by rw [List.length_drop]; omega) (Nat.le_refl _)
  show unescN (r.length + 1) (c :: r) = _
  unfold unescN
  rw [e2]
  rfl

theorem indexByte_brk (c : UInt8) : ∀ l : Bytes, Lib.indexByte l c = if (brk [c] l).length < l.length then ((brk [c] l).length : Int) else -1
  | [] => by simp [Lib.indexByte, brk]
  | b :: l => by
    have ih := indexByte_brk c l
    unfold Lib.indexByte
    by_cases hb : b = c
    · subst hb; simp [brk]
    · have hb1 : ([c] : List UInt8).contains b = false := by simp [hb]
      have hk : brk [c] (b :: l) = b :: brk [c] l := by simp [brk, hb]
      rw [hk, if_neg (by simpa using hb), ih]
      have hle := brk_le [c] l
      by_cases hlt : (brk [c] l).length < l.length
      · simp only [if_pos hlt, List.length_cons]
        rw [if_neg (by simp), if_pos (by omega)]
        simp
      · simp only [if_neg hlt, List.length_cons]
        simp
        omega

theorem encodeRune_le (r : Int) : (Lib.encodeRune r).length ≤ 4 := by
  rw [← Lib.runeCells_length]; exact (Lib.runeCells_le r).2

theorem unesc_length : ∀ (n : Nat) (l : Bytes), (unescN n l).length ≤ 4 * l.length
  | 0, _ => by simp [unescN]
  | n + 1, [] => by simp [unescN]
  | n + 1, c :: r => by
    have e1 := unesc_length n r
    have e2 := unesc_length n (r.drop ((brk [59] r).length + 1))
    unfold unescN
    split
    · split
      · rename_i x _
        have := encodeRune_le x
        simp only [List.length_append, List.length_cons, List.length_drop] at *
        omega
      · simp only [List.length_cons]; omega
    · simp only [List.length_cons]; omega

theorem letterM_range {l : Bytes} {x : Int} (h : letterM l = some x) : 0 ≤ x ∧ x ≤ 1114111 := by
  have hn : ∀ d b m, numberedM d b m = some x → 0 ≤ x ∧ x ≤ 1114111 := by
    intro d b m h
    unfold numberedM at h
    split at h
    · cases h
    · split at h
      · cases h
      · rename_i n _
        split at h
        · cases h; decide
        · rename_i hc
          cases h
          omega
  unfold letterM at h
  split at h
  · split at h
    · exact hn _ _ _ h
    · split at h
      · exact hn _ _ _ h
      · exact hn _ _ _ h
  · unfold namedM at h
    repeat (split at h; (cases h; decide))
    cases h

set_option maxHeartbeats 4000000 in
set_option maxRecDepth 100000 in
theorem unescape_any (s : ByteArray) (hsz : s.size ≤ 1000000000) (w : World) (hg : Glob w) :
    Calls Tryd.prog 11 #[.string s] w fun e w' => e = .returned (.string (mk (unesc (lst s)))) ∧ Below w.heap.size w w' := by
  have HG := Lib.hid hg
  clear hg
  have hb0 := Bld.fresh w
  have HB0 := Lib.hid hb0
  clear hb0
  go_enter Tryd.func11, Tryd.ntmps11
  go_wp2
  go_loopw [4] (fun vi wr => ∃ (i : Nat) (out : Bytes), i ≤ s.size ∧ vi = .int .i64 i ∧ Bld w.heap.size w.heap.size out wr ∧ Below w.heap.size w wr ∧ Hid (out.length ≤ 4 * i ∧ unesc (lst s) = out ++ unesc ((lst s).drop i))) (fun vi _ => s.size - (intOf vi).toNat)
  case atStart => exact ⟨0, [], Nat.zero_le _, rfl, HB0.out, (Below.refl _ _).alloc (Nat.le_refl _) _, by simp, rfl⟩
  case round =>
    obtain ⟨i, out, hi, rfl, hB, hb, hh⟩ := hrel
    have HB := Lib.hid hB
    have HW := Lib.hid hb
    have hz := hb.size
    clear hB hb
    by_cases hlt : i < s.size
    · have hl : i < (lst s).length := by rw [lst_length]; exact hlt
      have hdrop : (lst s).drop i = s[i]'hlt :: (lst s).drop (i + 1) := by
        rw [List.drop_eq_getElem_cons hl]; rfl
      have hc256 := (s[i]'hlt).toNat_lt
      -- the plain way: the byte goes in as it is
      have plain : unesc ((lst s).drop i) = s[i]'hlt :: unesc ((lst s).drop (i + 1)) → Hid ((out ++ [s[i]'hlt]).length ≤ 4 * (i + 1) ∧ unesc (lst s) = (out ++ [s[i]'hlt]) ++ unesc ((lst s).drop (i + 1))) := by
        intro h
        obtain ⟨h1, h2⟩ := hh.out
        have : (out ++ [s[i]'hlt]).length ≤ 4 * (i + 1) ∧ unesc (lst s) = (out ++ [s[i]'hlt]) ++ unesc ((lst s).drop (i + 1)) := ⟨by simp; omega, by rw [h2, h]; simp⟩
        exact this
      have hlen : out.length ≤ 4 * i := hh.out.1
      by_cases h38 : s[i]'hlt = 38
      · generalize hr : (lst s).drop (i + 1) = r at *
        have hrl : r.length = s.size - (i + 1) := by rw [← hr, List.length_drop, lst_length]
        have hlsi : lst (s.extract i s.size) = 38 :: r := by
          rw [lst_extract, hdrop, h38, List.take_of_length_le (by simp; omega)]
        by_cases hk : (brk [59] r).length < r.length
        · have hix : Lib.indexByte (lst (s.extract i s.size)) 59 = (((brk [59] r).length + 1 : Nat) : Int) := by
            rw [hlsi, indexByte_brk]
            have : brk [59] (38 :: r) = 38 :: brk [59] r := by simp [brk]
            rw [this, if_pos (by simpa using hk)]
            simp
          have hsub : lst (s.extract (i + 1) (i + ((brk [59] r).length + 1))) = brk [59] r := by
            rw [lst_extract, hr, show i + ((brk [59] r).length + 1) - (i + 1) = (brk [59] r).length by omega, brk_take]
          have hsubz : (s.extract (i + 1) (i + ((brk [59] r).length + 1))).size ≤ 1000000000 := by
            rw [← lst_length, hsub]; have := brk_le [59] r; omega
          have hLet := rletter_any (s.extract (i + 1) (i + ((brk [59] r).length + 1))) hsubz wr (HG.out.below HW.out HG.out.size)
          rw [hsub] at hLet
          have hIdx := (Tryd.strings_IndexByte (s.extract i s.size) 59 wr)
          have hix' : Lib.indexByte (s.extract i s.size).data.toList (59 : Int).toNat.toUInt8 = (((brk [59] r).length + 1 : Nat) : Int) := hix
          rw [hix'] at hIdx
          have hkz : i + ((brk [59] r).length + 1) < s.size := by omega
          have hc38 : (((s[i]'hlt).toNat : Int) == 38) = true := by rw [h38]; rfl
          have HLet := Lib.hid hLet
          have HIdx := Lib.hid hIdx
          cases hm : letterM (brk [59] r) with
          | none =>
            rw [hm] at HLet
            have hP := plain (by rw [hdrop, h38, unesc_cons, if_pos ⟨rfl, hk⟩, hm])
            rw [← hr] at hP
            have HBy := Lib.hid (bByte w.heap.size w.heap.size out ((s[i]'hlt).toNat : Int) (s[i]'hlt) rfl wr HB.out (by omega) hz)
            clear hLet hIdx hix hix' hsub hsubz hlsi plain hdrop h38 hl hr hm
            generalize (brk [59] r).length = k at *
            go_wp2_with fail
            refine HIdx.out.mono ?_
            rintro e w1 ⟨rfl, hw⟩
            rw [hw]
            clear hw
            go_wp2_with fail
            refine HLet.out.mono ?_
            rintro e w2 ⟨rfl, hb2⟩
            simp only [RuneV]
            have HB2 := Lib.hid (HB.out.below hb2)
            have HW2 := Lib.hid (HW.out.trans (hb2.mono hz))
            have hz2 := HW2.out.size
            have HBy := Lib.hid (bByte w.heap.size w.heap.size out ((s[i]'hlt).toNat : Int) (s[i]'hlt) rfl w2 HB2.out (by omega) hz2)
            clear hb2
            go_wp2_with fail
            refine HBy.out.mono ?_
            rintro e w3 ⟨rfl, hB3, hb3, hk3⟩
            have HB3 := Lib.hid hB3
            have HW3 := Lib.hid (HW2.out.trans hb3)
            clear hB3 hb3 hk3
            go_wp2_with fail
            go_roundw
            case rel => exact ⟨i + 1, _, by omega, by go_num, HB3.out, HW3.out, hP⟩
            case measure => simp [intOf]; omega
          | some x =>
            rw [hm] at HLet
            obtain ⟨x0, x1⟩ := letterM_range hm
            have hP : Hid ((out ++ Lib.encodeRune x).length ≤ 4 * (i + (brk [59] r).length + 2) ∧ unesc (lst s) = (out ++ Lib.encodeRune x) ++ unesc ((lst s).drop (i + (brk [59] r).length + 2))) := by
              have h1 := hh.out.2
              have h2 := encodeRune_le x
              have h3 : unesc ((lst s).drop i) = Lib.encodeRune x ++ unesc ((lst s).drop (i + (brk [59] r).length + 2)) := by
                rw [hdrop, h38, unesc_cons, if_pos ⟨rfl, hk⟩, hm]
                simp only
                rw [← hr, List.drop_drop, hr, show i + 1 + ((brk [59] r).length + 1) = i + (brk [59] r).length + 2 by omega]
              have : (out ++ Lib.encodeRune x).length ≤ 4 * (i + (brk [59] r).length + 2) ∧ unesc (lst s) = (out ++ Lib.encodeRune x) ++ unesc ((lst s).drop (i + (brk [59] r).length + 2)) := ⟨by rw [List.length_append]; omega, by rw [h1, h3, List.append_assoc]⟩
              exact this
            clear hLet hIdx hix hix' hsub hsubz hlsi plain hdrop h38 hl hr hm hk hrl
            generalize (brk [59] r).length = k at *
            go_wp2_with fail
            refine HIdx.out.mono ?_
            rintro e w1 ⟨rfl, hw⟩
            rw [hw]
            clear hw
            go_wp2_with fail
            refine HLet.out.mono ?_
            rintro e w2 ⟨rfl, hb2⟩
            simp only [RuneV]
            have HB2 := Lib.hid (HB.out.below hb2)
            have HW2 := Lib.hid (HW.out.trans (hb2.mono hz))
            have hz2 := HW2.out.size
            have HBy := Lib.hid (bRune w.heap.size w.heap.size out x (by omega) (by omega) w2 HB2.out (by omega) hz2)
            clear hb2
            go_wp2_with fail
            refine HBy.out.mono ?_
            rintro e w3 ⟨rfl, hB3, hb3, hk3⟩
            have HB3 := Lib.hid hB3
            have HW3 := Lib.hid (HW2.out.trans hb3)
            clear hB3 hb3 hk3
            go_wp2_with fail
            go_roundw
            case rel => exact ⟨i + k + 2, _, by omega, by go_num, HB3.out, HW3.out, hP⟩
            case measure => simp [intOf]; omega
        · have hix : Lib.indexByte (lst (s.extract i s.size)) 59 = -1 := by
            rw [hlsi, indexByte_brk]
            have : brk [59] (38 :: r) = 38 :: brk [59] r := by simp [brk]
            rw [this, if_neg (by simpa using hk)]
          have hIdx := (Tryd.strings_IndexByte (s.extract i s.size) 59 wr)
          have hix' : Lib.indexByte (s.extract i s.size).data.toList (59 : Int).toNat.toUInt8 = -1 := hix
          rw [hix'] at hIdx
          have hc38 : (((s[i]'hlt).toNat : Int) == 38) = true := by rw [h38]; rfl
          have HIdx := Lib.hid hIdx
          have hP := plain (by rw [hdrop, h38, unesc_cons, if_neg (fun h => hk h.2)])
          rw [← hr] at hP
          have HBy := Lib.hid (bByte w.heap.size w.heap.size out ((s[i]'hlt).toNat : Int) (s[i]'hlt) rfl wr HB.out (by omega) hz)
          clear hIdx hix hix' hlsi plain hdrop h38 hl hr hk hrl
          go_wp2_with fail
          refine HIdx.out.mono ?_
          rintro e w1 ⟨rfl, hw⟩
          rw [hw]
          clear hw
          go_wp2_with fail
          refine HBy.out.mono ?_
          rintro e w3 ⟨rfl, hB3, hb3, hk3⟩
          have HB3 := Lib.hid hB3
          have HW3 := Lib.hid (HW.out.trans hb3)
          clear hB3 hb3 hk3
          go_wp2_with fail
          go_roundw
          case rel => exact ⟨i + 1, _, by omega, by go_num, HB3.out, HW3.out, hP⟩
          case measure => simp [intOf]; omega
      · have h38' : ((s[i]'hlt).toNat : Int) ≠ 38 := fun e => h38 (UInt8.toNat_inj.1 (by show _ = 38; omega))
        have hP := plain (by rw [hdrop, unesc_cons, if_neg (fun h => h38 h.1)])
        have h38b : (((s[i]'hlt).toNat : Int) == 38) = false := beq_eq_false_iff_ne.2 h38'
        have hBy := bByte w.heap.size w.heap.size out ((s[i]'hlt).toNat : Int) (s[i]'hlt) rfl wr HB.out (by omega) hz
        have HBy := Lib.hid hBy
        clear plain hdrop hBy h38 h38' hl
        go_wp2_with fail
        refine HBy.out.mono ?_
        rintro e w1 ⟨rfl, hB1, hb1, hk1⟩
        have HB1 := Lib.hid hB1
        have HW1 := Lib.hid (HW.out.trans hb1)
        clear hB1 hb1 hk1
        go_wp2_with fail
        go_roundw
        case rel => exact ⟨i + 1, _, by omega, by go_num, HB1.out, HW1.out, hP⟩
        case measure => simp [intOf]; omega
    · obtain rfl : i = s.size := by omega
      have hfin : out = unesc (lst s) := by
        rw [hh.out.2, List.drop_of_length_le (by rw [lst_length]; omega)]
        show out = out ++ []
        simp
      have HF := Lib.hid hfin
      have HS := Lib.hid (bString w.heap.size w.heap.size out wr HB.out hz)
      clear hfin
      go_wp2_with fail
      refine HS.out.mono ?_
      rintro e w1 ⟨rfl, _, hb1, _⟩
      have HW1 := Lib.hid (HW.out.trans hb1)
      clear hb1
      go_wp2_with fail
      go_ret
      exact ⟨by rw [← HF.out]; rfl, HW1.out⟩

end Go.Proofs.YtbgonaacheemcaaDoor
