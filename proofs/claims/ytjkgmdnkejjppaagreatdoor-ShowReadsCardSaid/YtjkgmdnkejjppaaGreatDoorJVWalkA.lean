/- Walks of the reference's strict reader: eat, name. -/
import Derived.Test.YtjkgmdnkejjppaaGreatDoorGe
import Derived.Test.YtjkgmdnkejjppaaGreatDoorGx
namespace Go.Proofs.YtjkgmdnkejjppaaGreatDoor
open Go Go.RowKit

/-- The reader's block. -/
def Rd (w : World) (b : Nat) (s : ByteArray) (at_ : Nat) (bad : Bool) : Prop := w.heap[b]? = some (.cells #[.string s, .int .i64 at_, .bool bad] 54 (0, 0))
theorem Rd.all {w : World} {b : Nat} {s : ByteArray} {at_ : Nat} {bad : Bool} (h : Rd w b s at_ bad) : w.cell? ⟨b, 0, none⟩ = some (.string s) ∧ w.cell? ⟨b, 1, none⟩ = some (.int .i64 at_) ∧ w.cell? ⟨b, 2, none⟩ = some (.bool bad) ∧ w.frozen? ⟨b, 1, none⟩ = false ∧ w.frozen? ⟨b, 2, none⟩ = false ∧ b < w.heap.size :=
  ⟨by rw [Lib.cell_of_heap h]; rfl, by rw [Lib.cell_of_heap h]; rfl, by rw [Lib.cell_of_heap h]; rfl, Lib.frozen_of_heap h 1, Lib.frozen_of_heap h 2, lt_of_block h⟩
theorem Rd.setAt {w : World} {b : Nat} {s : ByteArray} {at_ : Nat} {bad : Bool} (h : Rd w b s at_ bad) (m : Nat) : Rd (w.setCell ⟨b, 1, none⟩ (.int .i64 m)) b s m bad := by
  unfold Rd at *
  simp [World.setCell, Array.getElem?_modify, h]
theorem Rd.setBad {w : World} {b : Nat} {s : ByteArray} {at_ : Nat} {bad : Bool} (h : Rd w b s at_ bad) : Rd (w.setCell ⟨b, 2, none⟩ (.bool true)) b s at_ true := by
  unfold Rd at *
  simp [World.setCell, Array.getElem?_modify, h]
theorem Rd.below {B : Nat} {w w' : World} {b : Nat} {s : ByteArray} {at_ : Nat} {bad : Bool} (h : Rd w b s at_ bad) (hk : Below B w w') (hb : b < B) : Rd w' b s at_ bad := by
  unfold Rd at *
  rw [hk.block b hb]; exact h
theorem Rd.only {w w' : World} {b b2 : Nat} {s : ByteArray} {at_ : Nat} {bad : Bool} (h : Rd w b s at_ bad) (hk : Only b2 w w') (hb : b ≠ b2) : Rd w' b s at_ bad := by
  unfold Rd at *
  rw [hk.block b (lt_of_block h) hb]; exact h
/-- The reader, by what is left of its text. -/
def RdR (w : World) (b : Nat) (s : ByteArray) (r : Bytes) (bad : Bool) : Prop := ∃ at_, Rd w b s at_ bad ∧ at_ ≤ s.size ∧ (lst s).drop at_ = r
theorem RdR.len {w : World} {b : Nat} {s : ByteArray} {r : Bytes} {bad : Bool} (h : RdR w b s r bad) : r.length ≤ s.size := by
  obtain ⟨a, _, _, rfl⟩ := h
  rw [List.length_drop, lst_length]; omega

set_option maxHeartbeats 1000000 in
theorem eat_any (b : Nat) (s : ByteArray) (p r : Bytes) (bad : Bool) (hs : s.size ≤ 1000000) (hp : p.length ≤ 1000000) (w : World) (h : RdR w b s r bad) :
    Calls Tryz.prog 38 #[.pointer (some ⟨b, 0, none⟩), .string (mk p)] w fun e w' => e = .returned (.bool (eatM p r).1) ∧ RdR w' b s (eatM p r).2 bad ∧ Only b w w' := by
  obtain ⟨at_, hr, hle, hrest⟩ := h
  obtain ⟨c0, c1, c2, f1, f2, hb⟩ := hr.all
  have hps : (mk p).size = p.length := mk_size p
  have hrl : r.length = s.size - at_ := by rw [← hrest, List.length_drop, lst_length]
  have HR := Lib.hid hr
  have HREST := Lib.hid hrest
  have z0 : IntKind.i64.wrap ((at_ : Int) + (p.length : Int)) = (at_ : Int) + (p.length : Int) := IntWalk.i64_in _ (by omega)
  have z1 : IntKind.i64.wrap ((at_ : Int) + ((mk p).size : Int)) = (at_ : Int) + ((mk p).size : Int) := IntWalk.i64_in _ (by omega)
  clear hr hrest c2 f2
  by_cases hlen : at_ + p.length ≤ s.size
  · have g1 : (at_ : Int) + (p.length : Int) ≤ (s.size : Int) := by omega
    have g2 : (at_ : Int) + ((mk p).size : Int) ≤ (s.size : Int) := by omega
    have hext : s.extract at_ (at_ + p.length) = mk (r.take p.length) := by rw [ext_take, HREST.out]
    have hext2 : s.extract at_ (at_ + (mk p).size) = mk (r.take p.length) := by rw [hps]; exact hext
    by_cases he : r.take p.length = p
    · have hE : eatM p r = (true, r.drop p.length) := by
        unfold eatM
        rw [if_pos (List.isPrefixOf_iff_prefix.2 (by rw [List.prefix_iff_eq_take]; exact he.symm))]
      rw [hE]
      have s1 : ((mk (r.take p.length)).toList == (mk p).toList) = true := by rw [he]; exact beq_self_eq_true _
      have s2 : (mk (r.take p.length)).toList = (mk p).toList := by rw [he]
      clear he hE
      go_enter Tryz.func38, Tryz.ntmps38
      go_wp2_with fail
      go_quiet (fail)
      go_wp2_with fail
      go_ret
      refine ⟨by simp, ⟨at_ + p.length, ?_, by omega, ?_⟩, ?_⟩
      · have h : Rd ((w.drewN nq).setCell ⟨b, 1, none⟩ (.int .i64 ((at_ + p.length : Nat) : Int))) b s (at_ + p.length) bad := (show Rd (w.drewN nq) b s at_ bad from HR.out).setAt (at_ + p.length)
        have e : ((at_ + p.length : Nat) : Int) = (at_ : Int) + (p.length : Int) := by omega
        rw [e] at h
        simpa [hps] using h
      · rw [← HREST.out, List.drop_drop]
      · exact ((Kept.refl (fun k => k = b) _ _).drewN _).setCell (p := ⟨b, 1, none⟩) (.inl rfl) _
    · have hE : eatM p r = (false, r) := by
        unfold eatM
        rw [if_neg (by rw [List.isPrefixOf_iff_prefix, List.prefix_iff_eq_take]; exact fun e => he e.symm)]
      rw [hE]
      have s1 : ((mk (r.take p.length)).toList == (mk p).toList) = false := beq_eq_false_iff_ne.2 (by rw [toList_mk, toList_mk]; exact he)
      have s2 : ¬ (mk (r.take p.length)).toList = (mk p).toList := by rw [toList_mk, toList_mk]; exact he
      clear he hE
      go_enter Tryz.func38, Tryz.ntmps38
      go_wp2_with fail
      go_quiet (fail)
      go_wp2_with fail
      go_ret
      exact ⟨by simp, ⟨at_, HR.out, hle, HREST.out⟩, (Kept.refl (fun k => k = b) _ _).drewN _⟩
  · have g1 : ¬ (at_ : Int) + (p.length : Int) ≤ (s.size : Int) := by omega
    have g2 : ¬ (at_ : Int) + ((mk p).size : Int) ≤ (s.size : Int) := by omega
    have hE : eatM p r = (false, r) := by
      unfold eatM
      rw [if_neg (by rw [List.isPrefixOf_iff_prefix]; intro hpre; have := hpre.length_le; omega)]
    rw [hE]
    have g3 : (s.size : Int) < (at_ : Int) + (p.length : Int) := by omega
    have g4 : decide ((at_ : Int) + (p.length : Int) ≤ (s.size : Int)) = false := decide_eq_false g1
    have g5 : ¬ at_ + p.length ≤ s.size := by omega
    clear hE g2 hlen
    go_enter Tryz.func38, Tryz.ntmps38
    go_wp2_with fail
    go_quiet (fail)
    go_wp2_with fail
    go_ret
    exact ⟨by simp, ⟨at_, HR.out, hle, HREST.out⟩, (Kept.refl (fun k => k = b) _ _).drewN _⟩
end Go.Proofs.YtjkgmdnkejjppaaGreatDoor
