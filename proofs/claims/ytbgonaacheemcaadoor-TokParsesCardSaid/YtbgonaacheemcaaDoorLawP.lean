/- Walk of the row's function: TokParses: tok.Parse and the reference give the same tokens. -/
import Derived.Test.YtbgonaacheemcaaDoorRTokB
import Derived.Test.YtbgonaacheemcaaDoorRWalkF
import Derived.Test.YtbgonaacheemcaaDoorRSame
import Derived.Test.YtbgonaacheemcaaDoorTokI
namespace Go.Proofs.YtbgonaacheemcaaDoor
open Go Go.RowKit

theorem tagHyp_of (s : ByteArray) (hs : s.size ≤ 100000) : TagHyp s := fun at0 W h => (tagAt_any s at0 W (by omega) h).mono fun _ _ h => h

set_option maxHeartbeats 1000000 in
theorem tokParsed_any (s : ByteArray) (w : World) (h3 : s.size ≤ 600) :
    Calls Tryd.prog 5 #[.string s] w fun e w' => ∃ tv, e = .returned (.tuple #[tv, .int .i64 0]) ∧ TokOwn w.heap.size w' tv (allM (lst s)) ∧ Below w.heap.size w w' := by
  have HAL := Lib.hid (refToks_of s w (by omega) (tagHyp_of s (by omega)))
  have hz : (s.size : Int) ≤ 600 := by omega
  clear h3
  go_enter Tryd.func5, Tryd.ntmps5
  go_wp2_with fail
  refine HAL.out.mono ?_
  rintro e w1 ⟨tv, rfl, htr, hbe⟩
  have HTR := Lib.hid htr
  have HBE := Lib.hid hbe
  clear htr hbe
  go_wp2_with fail
  exact bodyPost_ret (v := .tuple #[tv, .int .i64 0]) (by simp [results, Tryd.results5, go_sem]) rfl ⟨tv, rfl, HTR.out, HBE.out⟩
set_option maxHeartbeats 1000000 in
theorem tokParsed_long (s : ByteArray) (w : World) (h3 : 600 < s.size) :
    Calls Tryd.prog 5 #[.string s] w fun e w' => e = .returned (.tuple #[.slice none 0 0, .int .i64 1]) ∧ w' = w := by
  have hz : (600 : Int) < s.size := by omega
  clear h3
  go_enter Tryd.func5, Tryd.ntmps5
  go_wp2_with fail
  exact bodyPost_ret (v := .tuple #[.slice none 0 0, .int .i64 1]) (by simp [results, Tryd.results5, go_sem]) rfl ⟨rfl, rfl⟩

set_option maxHeartbeats 2000000 in
theorem tokParses_any (s : ByteArray) (w : World) (hg : Glob w) :
    Calls Tryd.prog 3 #[.string s] w fun e w' => e = .returned (.bool true) ∧ Below w.heap.size w w' := by
  by_cases h3 : s.size ≤ 600
  · have HP := Lib.hid (parse_any s w hg h3)
    have HD := Lib.hid (fun W : World => tokParsed_any s W h3)
    have hl1 : (allM (lst s)).length ≤ 1000000 := by have := (allM_ok (lst s)).len; rw [lst_length] at this; omega
    have hA : ∀ t ∈ allM (lst s), t.attrs.length ≤ 1000000 := fun t ht => by have := (allM_le (lst s) t ht).count; rw [lst_length] at this; omega
    have HS := Lib.hid (fun v1 v2 W h1 h2 => refTokens_any v1 v2 (allM (lst s)) hl1 hA W h1 h2)
    clear hg h3 hl1 hA
    go_enter Tryd.func3, Tryd.ntmps3
    go_wp2_with fail
    refine HP.out.mono ?_
    rintro e w1 ⟨tv, rfl, htr, hb1⟩
    have HB1 := Lib.hid hb1
    have HV1 := Lib.hid htr.own.view
    clear htr hb1
    go_wp2_with fail
    refine (HD.out w1).mono ?_
    rintro e w2 ⟨tv2, rfl, htr2, hb2⟩
    have HB2 := Lib.hid (HB1.out.trans (hb2.mono HB1.out.size))
    have HV2 := Lib.hid htr2.view
    have HV1b := Lib.hid (HV1.out.older (.of_below hb2))
    clear htr2 hb2
    go_wp2_with fail
    refine (HS.out tv tv2 w2 HV1b.out HV2.out).mono ?_
    rintro e w3 ⟨rfl, n, hw⟩
    rw [hw]
    clear hw
    go_wp2_with fail
    go_ret
    exact ⟨rfl, HB2.out.os, HB2.out.tape, HB2.out.output, HB2.out.size, HB2.out.block⟩
  · have h4 : 600 < s.size := by omega
    have HP := Lib.hid (parse_long s w h4)
    have HD := Lib.hid (tokParsed_long s w h4)
    have HS := Lib.hid (refTokens_any (.slice none 0 0) (.slice none 0 0) [] (by simp) (fun t ht => by cases ht) w (TokOwn.nil w.heap.size w).view (TokOwn.nil w.heap.size w).view)
    clear hg h3 h4
    go_enter Tryd.func3, Tryd.ntmps3
    go_wp2_with fail
    refine HP.out.mono ?_
    rintro e w1 ⟨rfl, hw⟩
    rw [hw]
    clear hw
    go_wp2_with fail
    refine HD.out.mono ?_
    rintro e w2 ⟨rfl, hw⟩
    rw [hw]
    clear hw
    go_wp2_with fail
    refine HS.out.mono ?_
    rintro e w3 ⟨rfl, n, hw⟩
    rw [hw]
    clear hw
    go_wp2_with fail
    go_ret
    exact ⟨rfl, rfl, rfl, rfl, Nat.le_refl _, fun _ _ => rfl⟩

end Go.Proofs.YtbgonaacheemcaaDoor
