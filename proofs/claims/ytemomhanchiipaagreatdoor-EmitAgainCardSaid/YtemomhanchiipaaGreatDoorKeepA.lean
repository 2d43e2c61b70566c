/- Walks of the keep's helpers: parsed. -/
import Derived.Test.YtemomhanchiipaaGreatDoorTokI
import Derived.Test.YtemomhanchiipaaGreatDoorLawA
namespace Go.Proofs.YtemomhanchiipaaGreatDoor
open Go Go.RowKit

theorem allM_b : allM [60, 98, 62] = [⟨1, [98], [], false, []⟩] := by decide

set_option maxHeartbeats 1000000 in
set_option maxRecDepth 100000 in
theorem parsed_any (text : ByteArray) (w : World) (hg : Glob w) (h3 : text.size ≤ 600) :
    Calls Tryz.prog 21 #[.string text] w fun e w' => ∃ tv, e = .returned (.tuple #[tv, .bool true]) ∧ TokRow w.heap.size w' tv (allM (lst text)) ∧ Below w.heap.size w w' := by
  have HG := Lib.hid hg
  have hal := parse_any text w hg h3
  have HAL := Lib.hid hal
  have hpb := fun W h => parse_any ⟨#[60, 98, 62]⟩ W h (by decide)
  rw [show lst ⟨#[60, 98, 62]⟩ = [60, 98, 62] from rfl, allM_b] at hpb
  have HPB := Lib.hid hpb
  clear hal hg h3 hpb
  go_enter Tryz.func21, Tryz.ntmps21
  go_wp2_with fail
  refine HAL.out.mono ?_
  rintro e w1 ⟨tv, rfl, htr, hbe⟩
  have HTR := Lib.hid htr
  have HBE := Lib.hid hbe
  clear htr hbe
  go_wp2_with fail
  refine (HPB.out w1 (HG.out.below HBE.out HG.out.size)).mono ?_
  rintro e w2 ⟨tv2, rfl, htr, hbe⟩
  have HTR2 := Lib.hid (HTR.out.kept (RowsKept.of_below hbe))
  have HBE2 := Lib.hid (Below.trans HBE.out (hbe.mono HBE.out.size))
  obtain ⟨g, cap, htv, hcn⟩ := last_name (l := []) htr
  have hcn2 : w2.cell? ⟨g, 1, none⟩ = some (.string ⟨#[98]⟩) := hcn
  have htv2 : tv2 = .slice (some ⟨g, 0, none⟩) 1 cap := htv
  clear htr hbe hcn htv
  subst htv2
  go_wp2_with fail
  go_quiet (fail)
  go_wp2_with fail
  exact bodyPost_ret (v := .tuple #[tv, .bool true]) (by simp [results, Tryz.results21, go_sem]) rfl ⟨tv, rfl, HTR2.out.kept (fun _ _ _ _ h => h), ⟨HBE2.out.os, HBE2.out.tape, HBE2.out.output, HBE2.out.size, HBE2.out.block⟩⟩

end Go.Proofs.YtemomhanchiipaaGreatDoor
