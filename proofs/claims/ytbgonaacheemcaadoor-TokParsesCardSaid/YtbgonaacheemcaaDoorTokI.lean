/- Walks of the tokenizer: Parse. -/
import Derived.Test.YtbgonaacheemcaaDoorTokH
namespace Go.Proofs.YtbgonaacheemcaaDoor
open Go Go.RowKit

set_option maxHeartbeats 1000000 in
theorem parse_any (text : ByteArray) (w : World) (hg : Glob w) (h3 : text.size ≤ 600) :
    Calls Tryd.prog 4 #[.string text] w fun e w' => ∃ tv, e = .returned (.tuple #[tv, .int .i64 0]) ∧ TokRow w.heap.size w' tv (allM (lst text)) ∧ Below w.heap.size w w' := by
  have hal := all_any text w hg (by omega)
  have HAL := Lib.hid hal
  have hz : (text.size : Int) ≤ 600 := by omega
  clear hal hg h3
  go_enter Tryd.func4, Tryd.ntmps4
  go_wp2_with fail
  refine HAL.out.mono ?_
  rintro e w1 ⟨tv, rfl, htr, hbe⟩
  have HTR := Lib.hid htr
  have HBE := Lib.hid hbe
  clear htr hbe
  go_wp2_with fail
  exact bodyPost_ret (v := .tuple #[tv, .int .i64 0]) (by simp [results, Tryd.results4, go_sem]) rfl ⟨tv, rfl, HTR.out, HBE.out⟩

set_option maxHeartbeats 1000000 in
theorem parse_long (text : ByteArray) (w : World) (h3 : 600 < text.size) :
    Calls Tryd.prog 4 #[.string text] w fun e w' => e = .returned (.tuple #[.slice none 0 0, .int .i64 1]) ∧ w' = w := by
  have hz : (600 : Int) < text.size := by omega
  clear h3
  go_enter Tryd.func4, Tryd.ntmps4
  go_wp2_with fail
  exact bodyPost_ret (v := .tuple #[.slice none 0 0, .int .i64 1]) (by simp [results, Tryd.results4, go_sem]) rfl ⟨rfl, rfl⟩

end Go.Proofs.YtbgonaacheemcaaDoor
