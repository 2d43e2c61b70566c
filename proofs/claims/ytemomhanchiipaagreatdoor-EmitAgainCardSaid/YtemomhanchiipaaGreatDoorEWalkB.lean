/- Walks of emit: Name, raw, Attrs. -/
import Derived.Test.YtemomhanchiipaaGreatDoorEWalkA
import Derived.Test.YtemomhanchiipaaGreatDoorELaw
import Derived.Test.YtemomhanchiipaaGreatDoorShelfB
import Derived.Test.YtemomhanchiipaaGreatDoorAtRow
import Derived.Test.YtemomhanchiipaaGreatDoorView
namespace Go.Proofs.YtemomhanchiipaaGreatDoor
open Go Go.RowKit

/-- Is a rune refused in a name? -/
theorem nameFn_grows (w : World) : PredGrows Tryz.prog 66 #[] (fun r => !nameR r) w := by
  intro W r hr _
  have h9 : (r : Int) ≤ 1114111 := by omega
  have h0 : (0 : Int) ≤ r := by omega
  have HN := Lib.hid (show nameR r = ((decide (97 ≤ r) && decide (r ≤ 122)) || (decide (48 ≤ r) && decide (r ≤ 57)) || r == 45) from rfl)
  change Calls Tryz.prog _ #[.int .i32 r] W _
  by_cases a1 : 97 ≤ r
  · have b1 : (97 : Int) ≤ r := by omega
    by_cases a2 : r ≤ 122
    · have b2 : (r : Int) ≤ 122 := by omega
      have HR := Lib.hid (show nameR r = true by rw [HN.out]; simp [a1, a2])
      clear a1 a2
      go_enter Tryz.func66, Tryz.ntmps66
      go_wp2_with fail
      go_ret
      exact ⟨by rw [HR.out]; rfl, Below.refl _ _⟩
    · have b2 : ¬ (r : Int) ≤ 122 := by omega
      have b3 : (48 : Int) ≤ r := by omega
      have b4 : ¬ (r : Int) ≤ 57 := by omega
      have b5 : ((r : Int) == 45) = false := beq_eq_false_iff_ne.2 (by omega)
      have HR := Lib.hid (show nameR r = false by rw [HN.out]; simp [a1, a2]; omega)
      clear a1 a2
      go_enter Tryz.func66, Tryz.ntmps66
      go_wp2_with fail
      go_ret
      exact ⟨by rw [HR.out]; rfl, Below.refl _ _⟩
  · have b1 : ¬ (97 : Int) ≤ r := by omega
    by_cases a3 : 48 ≤ r
    · have b3 : (48 : Int) ≤ r := by omega
      by_cases a4 : r ≤ 57
      · have b4 : (r : Int) ≤ 57 := by omega
        have HR := Lib.hid (show nameR r = true by rw [HN.out]; simp [a3, a4])
        clear a1 a3 a4
        go_enter Tryz.func66, Tryz.ntmps66
        go_wp2_with fail
        go_ret
        exact ⟨by rw [HR.out]; rfl, Below.refl _ _⟩
      · have b4 : ¬ (r : Int) ≤ 57 := by omega
        have b5 : ((r : Int) == 45) = false := beq_eq_false_iff_ne.2 (by omega)
        have HR := Lib.hid (show nameR r = false by rw [HN.out]; simp [a1, a4]; omega)
        clear a1 a3 a4
        go_enter Tryz.func66, Tryz.ntmps66
        go_wp2_with fail
        go_ret
        exact ⟨by rw [HR.out]; rfl, Below.refl _ _⟩
    · have b3 : ¬ (48 : Int) ≤ r := by omega
      by_cases a5 : r = 45
      · have b5 : ((r : Int) == 45) = true := beq_iff_eq.2 (by omega)
        have HR := Lib.hid (show nameR r = true by rw [HN.out]; simp [a5])
        clear a1 a3 a5
        go_enter Tryz.func66, Tryz.ntmps66
        go_wp2_with fail
        go_ret
        exact ⟨by rw [HR.out]; rfl, Below.refl _ _⟩
      · have b5 : ((r : Int) == 45) = false := beq_eq_false_iff_ne.2 (by omega)
        have HR := Lib.hid (show nameR r = false by rw [HN.out]; simp [a1, a3, a5])
        clear a1 a3 a5
        go_enter Tryz.func66, Tryz.ntmps66
        go_wp2_with fail
        go_ret
        exact ⟨by rw [HR.out]; rfl, Below.refl _ _⟩

theorem enter_nameFn : ∀ args w, (callFunc 66 args).run Tryz.prog w = .ok (.enter 66 args) w := enters_of Tryz.func66 (by kernel_rfl) rfl
theorem indexFn_any (s : ByteArray) (w : World) :
    Calls Tryz.prog 101 #[.string s, .func (.func 66) #[] #[], .bool true] w fun e w' => e = .returned (.int .i64 (Lib.idxFunc (fun r => !nameR r) true s)) ∧ Below w.heap.size w w' :=
  Any.strings_indexFunc_grows Tryz.lays315 _ #[] enter_nameFn _ true s w (nameFn_grows w)
theorem containsFn_any (s : ByteArray) (w : World) :
    Calls Tryz.prog 65 #[.string s, .func (.func 66) #[] #[]] w fun e w' => e = .returned (.bool (!(lst s).all nameC)) ∧ Below w.heap.size w w' := by
  have HI := Lib.hid (indexFn_any s w)
  have hx := idx_name_all s
  rw [← hx]
  clear hx
  generalize Lib.idxFunc (fun r => !nameR r) true s = I at *
  have HF : Calls Tryz.prog 86 #[.string s, .func (.func 66) #[] #[]] w fun e w' => e = .returned (.int .i64 I) ∧ Below w.heap.size w w' := by
    go_enter Tryz.func86, Tryz.ntmps86
    go_wp2_with fail
    refine HI.out.mono ?_
    rintro e w1 ⟨rfl, hb⟩
    have HB := Lib.hid hb
    clear hb
    go_wp2_with fail
    go_ret
    exact ⟨rfl, HB.out⟩
  have HF' := Lib.hid HF
  clear HF HI
  go_enter Tryz.func65, Tryz.ntmps65
  go_wp2_with fail
  refine HF'.out.mono ?_
  rintro e w1 ⟨rfl, hb⟩
  have HB := Lib.hid hb
  clear hb
  go_wp2_with fail
  go_ret
  exact ⟨rfl, HB.out⟩

set_option maxHeartbeats 1000000 in
theorem name_any (s : ByteArray) (w : World) :
    Calls Tryz.prog 48 #[.string s] w fun e w' => e = .returned (.bool (nameM (lst s))) ∧ Below w.heap.size w w' := by
  have HC := Lib.hid (containsFn_any s w)
  by_cases h0 : s.size = 0
  · have hl : lst s = [] := List.eq_nil_of_length_eq_zero (by rw [lst_length]; exact h0)
    have hs0 : s = mk [] := by rw [← mk_lst s, hl]
    subst hs0
    rw [show mk [] = ⟨#[]⟩ from rfl]
    clear HC h0 hl
    go_enter Tryz.func48, Tryz.ntmps48
    go_wp2_with fail
    go_ret
    exact ⟨rfl, Below.refl _ _⟩
  · have hpos : 0 < s.size := by omega
    have hl : lst s = s[0]'hpos :: (lst s).drop 1 := by
      have h1 : 0 < (lst s).length := by rw [lst_length]; exact hpos
      have := List.drop_eq_getElem_cons h1
      rw [List.drop_zero] at this
      exact this
    have hne : lst s ≠ [] := by rw [hl]; simp
    have ht : s.toList = lst s := by
      have h := toList_mk (lst s)
      rw [mk_lst] at h
      exact h
    have f1 : (s.toList == []) = false := by rw [ht]; exact beq_eq_false_iff_ne.2 hne
    have f2 : ¬ s.toList = [] := by rw [ht]; exact hne
    have f3 : s.toList.isEmpty = false := by rw [ht]; exact List.isEmpty_eq_false_iff.2 hne
    clear ht
    have hN := Lib.hid (show nameM (lst s) = (decide ((lst s).length ≤ 12) && (decide ((97 : UInt8) ≤ s[0]'hpos) && decide (s[0]'hpos ≤ (122 : UInt8))) && (lst s).all nameC) by
      rw [hl]; rfl)
    have hc256 := (s[0]'hpos).toNat_lt
    have p0 : (0 : Int) < s.size := by omega
    have hlz := lst_length s
    have g1 : decide ((97 : UInt8) ≤ s[0]'hpos) = decide (97 ≤ (s[0]'hpos).toNat) := decide_eq_decide.2 UInt8.le_iff_toNat_le
    have g2 : decide (s[0]'hpos ≤ (122 : UInt8)) = decide ((s[0]'hpos).toNat ≤ 122) := decide_eq_decide.2 UInt8.le_iff_toNat_le
    rw [g1, g2, hlz] at hN
    clear g1 g2 hl hne h0
    by_cases h1 : 12 < s.size
    · have b1 : (12 : Int) < s.size := by omega
      have HR := Lib.hid (show nameM (lst s) = false by rw [hN.out, decide_eq_false (by omega)]; simp)
      clear h1
      go_enter Tryz.func48, Tryz.ntmps48
      go_wp2_with fail
      go_ret
      exact ⟨by rw [HR.out]; rfl, Below.refl _ _⟩
    · have b1 : ¬ (12 : Int) < s.size := by omega
      by_cases h2 : 97 ≤ (s[0]'hpos).toNat
      · have b2 : ¬ ((s[0]'hpos).toNat : Int) < 97 := by omega
        by_cases h3 : (s[0]'hpos).toNat ≤ 122
        · have b3 : ¬ (122 : Int) < ((s[0]'hpos).toNat : Int) := by omega
          have HR := Lib.hid (show nameM (lst s) = (lst s).all nameC by rw [hN.out, decide_eq_true (show s.size ≤ 12 by omega), decide_eq_true h2, decide_eq_true h3]; simp)
          clear h1 h2 h3
          go_enter Tryz.func48, Tryz.ntmps48
          go_wp2_with fail
          refine HC.out.mono ?_
          rintro e w1 ⟨rfl, hb⟩
          have HB := Lib.hid hb
          clear hb
          go_wp2_with fail
          go_ret
          exact ⟨by rw [HR.out, ← Bool.not_not ((lst s).all nameC)]; rfl, HB.out⟩
        · have b3 : (122 : Int) < ((s[0]'hpos).toNat : Int) := by omega
          have HR := Lib.hid (show nameM (lst s) = false by rw [hN.out, decide_eq_false h3]; simp)
          clear h1 h2 h3
          go_enter Tryz.func48, Tryz.ntmps48
          go_wp2_with fail
          go_ret
          exact ⟨by rw [HR.out]; rfl, Below.refl _ _⟩
      · have b2 : ((s[0]'hpos).toNat : Int) < 97 := by omega
        have HR := Lib.hid (show nameM (lst s) = false by rw [hN.out, decide_eq_false h2]; simp)
        clear h1 h2
        go_enter Tryz.func48, Tryz.ntmps48
        go_wp2_with fail
        go_ret
        exact ⟨by rw [HR.out]; rfl, Below.refl _ _⟩

def rawNames : List Bytes := [sScript, sStyle, sTextarea, sTitle]
theorem isRaw_names (n : Bytes) : rawNames.contains n = isRaw n := by
  unfold rawNames isRaw
  simp only [List.contains_cons, List.contains_nil, Bool.or_false, Bool.or_assoc]
set_option maxHeartbeats 1000000 in
theorem raw2_any (n : Bytes) (w : World) :
    Calls Tryz.prog 70 #[.string (mk n)] w fun e w' => e = .returned (.bool (isRaw n)) ∧ Below w.heap.size w w' := by
  obtain ⟨w1, hw1⟩ : ∃ w1, w1 = w.alloc (.cells #[.string ⟨#[115, 99, 114, 105, 112, 116]⟩, .string ⟨#[115, 116, 121, 108, 101]⟩, .string ⟨#[116, 101, 120, 116, 97, 114, 101, 97]⟩, .string ⟨#[116, 105, 116, 108, 101]⟩] 9) := ⟨_, rfl⟩
  have hb1 : Below w.heap.size w w1 := by rw [hw1]; exact (Below.refl _ _).alloc (Nat.le_refl _) _
  have hat : StrAt w1 w.heap.size rawNames := by
    intro i s hi
    have h := heap_alloc_new w (.cells #[.string ⟨#[115, 99, 114, 105, 112, 116]⟩, .string ⟨#[115, 116, 121, 108, 101]⟩, .string ⟨#[116, 101, 120, 116, 97, 114, 101, 97]⟩, .string ⟨#[116, 105, 116, 108, 101]⟩] 9)
    rw [← hw1] at h
    rw [Lib.cell_of_heap h]
    match i, hi with
    | 0, hi => cases hi; rfl
    | 1, hi => cases hi; rfl
    | 2, hi => cases hi; rfl
    | 3, hi => cases hi; rfl
    | i + 4, hi => simp [rawNames] at hi
  have HC := Lib.hid (strContains_any w.heap.size 4 rawNames n (by decide) w1 hat)
  rw [isRaw_names] at HC
  have HB1 := Lib.hid hb1
  have HW1 := Lib.hid hw1
  clear hb1 hat hw1
  go_enter Tryz.func70, Tryz.ntmps70
  go_wp2_with fail
  rw [← HW1.out]
  refine HC.out.mono ?_
  rintro e w2 ⟨rfl, hw⟩
  rw [← hw]
  clear hw
  go_wp2_with fail
  go_ret
  exact ⟨rfl, HB1.out⟩

end Go.Proofs.YtemomhanchiipaaGreatDoor
