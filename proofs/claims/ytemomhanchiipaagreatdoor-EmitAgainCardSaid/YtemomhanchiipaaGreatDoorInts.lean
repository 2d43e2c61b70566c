/- Slices of integers that came in; Picked. -/
import Derived.Test.YtemomhanchiipaaGreatDoorTokI
import Derived.ChangeSlices
import Derived.WideShapes
import Derived.ProofKit
import Derived.OpenShut
import Derived.Carry
import Derived.Laws.Rows
namespace Go.Proofs.YtemomhanchiipaaGreatDoor
open Go Go.RowKit Go.ChangeShapes Go.WideShapes

theorem picked_law (a n : Int) (hn : 0 < n) : (if a.tmod n < 0 then a.tmod n + n else a.tmod n) = a % n := by
  have h1 := Int.mul_tdiv_add_tmod a n
  have h2 : a % n = a.tmod n % n := by
    conv => lhs; rw [← h1]
    rw [Int.add_comm, Int.add_mul_emod_self_left]
  have h3 := Int.tmod_lt_of_pos a hn
  have h4 : -n < a.tmod n := by
    have := Int.neg_tmod a n
    have h5 := Int.tmod_lt_of_pos (-a) hn
    rw [this] at h5
    omega
  rw [h2]
  split
  · rename_i h
    rw [← Int.add_emod_right]
    exact (Int.emod_eq_of_lt (by omega) (by omega)).symm
  · rename_i h
    exact (Int.emod_eq_of_lt (by omega) (by omega)).symm

theorem picked_any (a n : Int) (w : World) (hn : 0 < n) (hn2 : n ≤ 1000000) :
    Calls Tryz.prog 45 #[.int .i64 a, .int .i64 n] w fun e w' => e = .returned (.int .i64 (a % n)) ∧ w = w' := by
  have hp := picked_law a n hn
  have h3 := Int.tmod_lt_of_pos a hn
  have h4 : -n < a.tmod n := by
    have := Int.neg_tmod a n
    have h5 := Int.tmod_lt_of_pos (-a) hn
    rw [this] at h5
    omega
  have hz : (n == 0) = false := beq_eq_false_iff_ne.2 (by omega)
  have HP := Lib.hid hp
  clear hp
  go_enter Tryz.func45, Tryz.ntmps45
  go_wp2
  · go_ret
    exact ⟨congrArg (fun x => Ending.returned (.int .i64 x)) (by rw [← HP.out, if_pos ‹_›]), rfl⟩
  · go_ret
    exact ⟨congrArg (fun x => Ending.returned (.int .i64 x)) (by rw [← HP.out, if_neg (by omega)]), rfl⟩

/-- A slice of integers that came in. -/
def IntRow (W : World) (v : Value) (l : List Int) : Prop :=
  (∃ a cap, v = .slice a l.length cap) ∧ l.length ≤ maxLen ∧ ∀ j x, l[j]? = some x → (-9223372036854775808 ≤ x ∧ x ≤ 9223372036854775807) ∧ ∃ b off cap, v = .slice (some ⟨b, off, none⟩) l.length cap ∧ b < W.heap.size ∧
    W.cell? ⟨b, off + j, none⟩ = some (.int .i64 x)

theorem IntRow.older {W W' : World} {v : Value} {l : List Int} (h : IntRow W v l) (hs : W.heap.size ≤ W'.heap.size) (hc : ∀ b o, b < W.heap.size → W'.cell? ⟨b, o, none⟩ = W.cell? ⟨b, o, none⟩) : IntRow W' v l :=
  ⟨h.1, h.2.1, fun j x hx => by
    obtain ⟨h1, b, off, cap, hv, hb, hx⟩ := h.2.2 j x hx
    exact ⟨h1, b, off, cap, hv, Nat.lt_of_lt_of_le hb hs, by rw [hc _ _ hb]; exact hx⟩⟩

theorem laidOut : laidOutB Tryz.prog = true := by kernel_rfl

section
variable {H : Type} {enc : TypeId × Value → H}
/-- What the opening of such an argument gives. -/
structure IntArg (enc : TypeId × Value → H) (W : World) (v : Value) (d : DataW H) (p : List MemPlace) (l : List Int) : Prop where
  row : IntRow W v l
  reads : DataW.Trod enc Tryz.prog W 0 (fun _ => true) true 37 v d p

theorem IntArg.again {W W' : World} {v : Value} {d : DataW H} {p : List MemPlace} {l : List Int} (h : IntArg enc W v d p l) (hb : Below W.heap.size W W') (hlt : ∀ x ∈ p, x.block < W.heap.size) (sp : Nat → Bool) (hsp : ∀ x ∈ p, sp x.block = true) :
    DataW.Trod enc Tryz.prog W' 0 sp true 37 v d p :=
  WideElems.Trod_stays laidOut (by kernel_rfl) (of_decide_eq_true (by kernel_rfl)) h.reads (fun x hx => hb.same (hlt x hx)) hsp

set_option maxRecDepth 100000 in
theorem open_raw {W : World} {base : Nat} {v : Value} {d : DataW H} {p : List MemPlace} (hval : Value.okWide Tryz.prog W .any base 37 v) (h : DataW.Trod enc Tryz.prog W 0 (fun _ => true) true 37 v d p) :
    ∃ l, IntArg enc W v d p l := by
  obtain ⟨a0, len, cap, rfl⟩ := okWide_slice Tryz.underlying37 hval
  obtain ⟨fuel, hf⟩ := id h
  rcases open_ints Tryz.underlying37 Tryz.underlying3 (by kernel_rfl) hf with ⟨hcs, hx⟩ | ⟨a, len', cap', zs, hcs, _, hl, hm, hz, hx, hcell, hwz⟩
  · refine ⟨[], ⟨⟨a0, cap, ?_⟩, by simp, fun j x hj => by simp at hj⟩, h⟩
    simp only [Value.cells] at hcs
    have : Value.slice a0 len cap = .slice none 0 0 := by simpa using hcs
    cases this
    rfl
  · have hv : Value.slice a0 len cap = .slice (some a) len' cap' := by simpa [Value.cells] using hcs
    cases hv
    rw [if_pos rfl] at hz
    have hlen : (zs.take len).length = len := by rw [List.length_take]; omega
    refine ⟨zs.take len, ⟨⟨some a, cap, by rw [hlen]⟩, by rw [hlen]; omega, fun j x hj => ?_⟩, h⟩
    have hj' : j < len := by rw [← hlen]; exact (List.getElem?_eq_some_iff.1 hj).1
    rw [List.getElem?_take_of_lt hj'] at hj
    obtain ⟨hjz, hjx⟩ := List.getElem?_eq_some_iff.1 hj
    obtain ⟨b, off, rfl, hc⟩ := ints_at hcell (by omega)
    have hx := hc j hjz
    have hg : zs.getD j 0 = x := by simp [List.getD, hj]
    rw [hg] at hx
    have hwf := hwz x (List.mem_of_getElem? hj)
    refine ⟨?_, b, off, cap, by rw [hlen], block_lt_of_cell hx, hx⟩
    exact bounds_i64 hwf
end

end Go.Proofs.YtemomhanchiipaaGreatDoor
