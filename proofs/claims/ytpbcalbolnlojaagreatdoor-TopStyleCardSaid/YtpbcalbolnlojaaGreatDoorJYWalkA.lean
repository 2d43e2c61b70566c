/- Walks of style: bare (of a text without a slash), pieces. -/
import Derived.Test.YtpbcalbolnlojaaGreatDoorGl
import Derived.Test.YtpbcalbolnlojaaGreatDoorJYLaw
import Derived.Test.YtpbcalbolnlojaaGreatDoorGd
import Derived.Test.YtpbcalbolnlojaaGreatDoorShelfC
namespace Go.Proofs.YtpbcalbolnlojaaGreatDoor
open Go Go.RowKit

theorem cut_any (s sep : ByteArray) (w : World) (hg : Glob w) (hs : s.size ≤ 1000000) :
    Calls Tryz.prog 52 #[.string s, .string sep] w fun e w' => e = .returned (.tuple #[.string (mk (Lib.cut (lst s) (lst sep)).1), .string (mk (Lib.cut (lst s) (lst sep)).2.1), .bool (Lib.cut (lst s) (lst sep)).2.2]) ∧ ∃ n, w' = w.drewN n := by
  obtain ⟨m, hm⟩ := hg.maxLen
  exact Any.strings_Cut Tryz.lays145 s sep m w (by omega) hm

set_option maxHeartbeats 1000000 in
set_option maxRecDepth 100000 in
theorem bare_any (s : ByteArray) (w : World) (hg : Glob w) (hs : s.size ≤ 1000000) (h47 : (47 : UInt8) ∉ lst s) :
    Calls Tryz.prog 51 #[.string s] w fun e w' => e = .returned (.string s) ∧ Below w.heap.size w w' := by
  have hb0 := Bld.fresh w
  have hw0 := (Below.refl w.heap.size w).alloc (Nat.le_refl _) (.cells #[.pointer none, .slice none 0 0] 67)
  have HC := Lib.hid (fun (W : World) (h : Below w.heap.size w W) => cut_any s ⟨#[47, 42]⟩ W (hg.below h hg.size) hs)
  have hcut : Lib.cut (lst s) [47, 42] = (lst s, [], false) := cut_out h47
  have HCUT := Lib.hid hcut
  have hsz : (lst s).length ≤ 1000000 := by rw [lst_length]; exact hs
  clear hg h47 hcut
  obtain ⟨W0, hW0⟩ : ∃ W0, W0 = w.alloc (.cells #[.pointer none, .slice none 0 0] 67) := ⟨_, rfl⟩
  rw [← hW0] at hb0 hw0
  have HB0 := Lib.hid hb0
  have HW0 := Lib.hid hw0
  have HE := Lib.hid hW0
  clear hb0 hw0 hW0
  go_enter Tryz.func51, Tryz.ntmps51
  go_wp2_with fail
  rw [← HE.out]
  go_loopw [0] (fun v0 wr => v0 = .string s ∧ wr = W0) (fun _ _ => 0)
  case atStart => exact ⟨rfl, rfl⟩
  case round =>
    obtain ⟨rfl, rfl⟩ := hrel
    have hz0 : w.heap.size ≤ wr.heap.size := HW0.out.size
    go_wp2_with fail
    refine (HC.out _ HW0.out).mono ?_
    rintro e w1 ⟨rfl, n, hw1⟩
    rw [show lst (⟨#[47, 42]⟩ : ByteArray) = [47, 42] from rfl, HCUT.out, mk_lst]
    have HS := Lib.hid (bStr w.heap.size w.heap.size [] (lst s) w1 (HB0.out.below (by rw [hw1]; exact ⟨rfl, rfl, rfl, Nat.le_refl _, fun _ _ => rfl⟩)) (by simp; omega) (by rw [hw1]; exact hz0))
    rw [mk_lst] at HS
    have HW1 := Lib.hid (show Below w.heap.size w w1 by rw [hw1]; exact ⟨HW0.out.os, HW0.out.tape, HW0.out.output, HW0.out.size, HW0.out.block⟩)
    clear hw1
    go_wp2_with fail
    refine HS.out.mono ?_
    rintro e w2 ⟨rfl, hb2, hk2, _⟩
    have HW2 := Lib.hid (HW1.out.trans hk2)
    have HS2 := Lib.hid (bString w.heap.size w.heap.size _ w2 hb2 HW2.out.size)
    rw [List.nil_append, mk_lst] at HS2
    clear hb2 hk2
    go_wp2_with fail
    refine HS2.out.mono ?_
    rintro e w3 ⟨rfl, _, hk3, _⟩
    have HW3 := Lib.hid (HW2.out.trans hk3)
    clear hk3
    go_wp2_with fail
    go_ret
    exact ⟨rfl, HW3.out⟩

theorem trim_any (s : ByteArray) (w : World) (hs : s.size ≤ 1000000) :
    Calls Tryz.prog 54 #[.string s, .string ⟨#[32, 9, 10, 12, 13]⟩] w fun e w' => e = .returned (.string (mk (trimM (lst s)))) ∧ Below w.heap.size w w' :=
  Any.strings_Trim_laid Tryz.lays160 (by kernel_rfl) s ⟨#[32, 9, 10, 12, 13]⟩ w (by omega) (by decide) (ascii_of_all (by decide))

end Go.Proofs.YtpbcalbolnlojaaGreatDoor
