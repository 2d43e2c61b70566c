/- Walks of the keep's helpers: built. -/
import Derived.Test.YtemomhanchiipaaDoorTWalkF
import Derived.Test.YtemomhanchiipaaDoorTKeepA
import Derived.Test.YtemomhanchiipaaDoorKeepA
namespace Go.Proofs.YtemomhanchiipaaDoor
open Go Go.RowKit

def tokB : TTok := ⟨1, [98], [], false, []⟩
theorem buildOk_b : BuildOk [tokB] := ⟨by decide, fun t ht => by cases List.mem_singleton.1 ht; exact .inl rfl, fun t ht _ => by cases List.mem_singleton.1 ht; decide, by decide, fun t ht => by cases List.mem_singleton.1 ht; decide, by decide⟩
theorem buildM_b : buildM [tokB] = [tElem [98] [] []] := rfl
/-- A token laid in a row of its own. -/
theorem tokView_b (w : World) : TokView (w.alloc (.cells #[.int .i64 1, .string ⟨#[98]⟩, .slice none 0 0, .bool false, .string ⟨#[]⟩] 33)) (.slice (some ⟨w.heap.size, 0, none⟩) 1 1) [tokB] := by
  have h : (w.alloc (.cells #[.int .i64 1, .string ⟨#[98]⟩, .slice none 0 0, .bool false, .string ⟨#[]⟩] 33)).heap[w.heap.size]? = some (.cells #[.int .i64 1, .string ⟨#[98]⟩, .slice none 0 0, .bool false, .string ⟨#[]⟩] 33 (0, 0)) := heap_alloc_new _ _
  refine ⟨[(tokB, .slice none 0 0)], rfl, ⟨_, _, rfl⟩, fun i p hi => ?_⟩
  cases i with
  | succ i => simp at hi
  | zero =>
    cases hi
    exact ⟨_, _, rfl, Nat.le_refl _, by unfold maxLen; omega, ⟨_, h⟩, ⟨by rw [Lib.cell_of_heap h]; rfl, by rw [Lib.cell_of_heap h]; rfl, by rw [Lib.cell_of_heap h]; rfl, by rw [Lib.cell_of_heap h]; rfl, by rw [Lib.cell_of_heap h]; rfl⟩, attrView_nil _⟩

set_option maxHeartbeats 2000000 in
set_option maxRecDepth 100000 in
theorem built_any (s : ByteArray) (w : World) (hg : Glob w) (ht : Tabs w) (h6 : s.size ≤ 600) (hok : BuildOk (allM (lst s))) :
    Calls Tryd.prog 9 #[.string s] w fun e w' => ∃ v, e = .returned (.tuple #[v, .bool true]) ∧ NodeView 12 w' v (buildM (allM (lst s))) ∧ Below w.heap.size w w' := by
  have HT := Lib.hid ht
  have HP := Lib.hid (parsed_any s w hg h6)
  have HOK := Lib.hid hok
  clear hg ht hok
  go_enter Tryd.func9, Tryd.ntmps9
  go_wp2_with fail
  refine HP.out.mono ?_
  rintro e w1 ⟨tv, rfl, htr, hb1⟩
  have HB1 := Lib.hid hb1
  have HC1 := Lib.hid (build_any tv _ w1 (HT.out.below hb1 HT.out.size) htr.view HOK.out)
  clear htr hb1
  go_wp2_with fail
  refine HC1.out.mono ?_
  rintro e w2 ⟨v, rfl, hv, hb2⟩
  have HV2 := Lib.hid hv.any
  have HB2 := Lib.hid (HB1.out.trans (hb2.mono HB1.out.size))
  clear hv hb2
  obtain ⟨w3, hw3⟩ : ∃ w3, w3 = w2.alloc (.cells #[.int .i64 1, .string ⟨#[98]⟩, .slice none 0 0, .bool false, .string ⟨#[]⟩] 33) := ⟨_, rfl⟩
  have hb3 : Below w2.heap.size w2 w3 := by rw [hw3]; exact (Below.refl _ _).alloc (Nat.le_refl _) _
  have HB3 := Lib.hid (HB2.out.trans (hb3.mono HB2.out.size))
  have HV3 := Lib.hid (HV2.out.older (.of_below hb3))
  have HC3 := Lib.hid (build_any (.slice (some ⟨w2.heap.size, 0, none⟩) 1 1) [tokB] w3 (HT.out.below HB3.out HT.out.size) (by rw [hw3]; exact tokView_b w2) buildOk_b)
  rw [buildM_b] at HC3
  have HW3 := Lib.hid hw3
  clear hw3 hb3
  go_wp2_with fail
  rw [← HW3.out]
  refine HC3.out.mono ?_
  rintro e w4 ⟨v1, rfl, hv1, hb4⟩
  have HV4 := Lib.hid (HV3.out.older (.of_below hb4))
  have HB4 := Lib.hid (HB3.out.trans (hb4.mono HB3.out.size))
  obtain ⟨d', hd', g, cap, av, pv, hf, hc1, hc2, hg, hat, -, -⟩ := hv1.get 0 _ rfl
  have hf' : v1 = .slice (some ⟨g, 0, none⟩) 1 cap := hf
  subst hf'
  have e0 : w4.cell? ⟨g, 0, none⟩ = some (.string ⟨#[98]⟩) := hat.nm
  clear hv1 hb4 hat hf
  go_wp2_with fail
  go_quiet (fail)
  go_wp2_with fail
  exact bodyPost_ret (v := .tuple #[v, .bool true]) (by simp [results, Tryd.results9, go_sem]) rfl ⟨v, rfl, HV4.out.older ⟨Nat.le_refl _, fun _ _ => rfl⟩, ⟨HB4.out.os, HB4.out.tape, HB4.out.output, HB4.out.size, HB4.out.block⟩⟩

end Go.Proofs.YtemomhanchiipaaDoor
