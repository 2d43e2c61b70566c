/- A table of strings that is laid: buildSlice of constants, at once. -/
import Derived.Test.YtjkgmdnkejjppaaGreatDoorJOrdS
import Derived.Test.YtjkgmdnkejjppaaGreatDoorGa
namespace Go.Proofs.YtjkgmdnkejjppaaGreatDoor
open Go Go.RowKit

theorem fill_strs : ∀ (ps : List Bytes) (k : Nat) (cells : Array Value), k + ps.length ≤ cells.size →
    ∃ R, Instr.fill (fun i => some (i * 1, 1)) cells ((ps.zipIdx k).map fun x => (x.2, Value.string (mk x.1))) = some R ∧ R.size = cells.size ∧ ∀ j, R[j]? = if k ≤ j ∧ j < k + ps.length then some (.string (mk (ps.getD (j - k) []))) else cells[j]?
  | [], k, cells, _ => ⟨cells, rfl, rfl, fun j => by rw [if_neg (by simp)]⟩
  | p :: ps, k, cells, h => by
    have h1 : k + 1 ≤ cells.size := by simp only [List.length_cons] at h; omega
    obtain ⟨R, hR, hs, hg⟩ := fill_strs ps (k + 1) (cells.setIfInBounds k (.string (mk p))) (by simp only [List.length_cons] at h; simp; omega)
    refine ⟨R, ?_, by rw [hs]; simp, fun j => ?_⟩
    · rw [List.zipIdx_cons, List.map_cons, Instr.fill]
      simp only [Nat.mul_one]
      have hc : (Value.string (mk p)).cells = #[.string (mk p)] := rfl
      simp only [hc]
      rw [if_neg (by simp; omega)]
      simpa using hR
    · rw [hg j]
      by_cases hj : j = k
      · subst hj
        have hjl : j < cells.size := by omega
        rw [if_neg (by omega), if_pos (by simp)]
        simp [hjl]
      · by_cases h2 : k + 1 ≤ j ∧ j < k + 1 + ps.length
        · rw [if_pos h2, if_pos (by simp only [List.length_cons]; omega)]
          rw [show j - k = (j - (k + 1)) + 1 by omega]; rfl
        · rw [if_neg h2, if_neg (by simp only [List.length_cons]; omega)]
          rw [Array.getElem?_setIfInBounds_ne (by omega)]

/-- What a table of strings comes to. -/
theorem run_table (t : TypeId) (hu : Tryz.prog.underlying t = some (.slice 9)) (ps : List Bytes) (hn : ps.length ≤ 1000) (hpos : 0 < ps.length) (parts : Array (Nat × Value)) (hp : parts.toList = (ps.zipIdx 0).map fun x => (x.2, Value.string (mk x.1))) (w : World) :
    (Instr.buildSlice t ps.length parts).run Tryz.prog w = .ok (.slice (some ⟨w.heap.size, 0, none⟩) ps.length ps.length) (w.alloc (.cells (ps.map fun p => Value.string (mk p)).toArray 9)) := by
  have hinfo : ∃ i, Tryz.prog.info? 9 = some i ∧ i.size = 1 ∧ i.zero = some (.string ⟨#[]⟩) := by
    have h : (Tryz.prog.info? 9).map (fun i => (i.zero, i.size)) = some (some (.string ⟨#[]⟩), 1) := by kernel_rfl
    obtain ⟨i, hi, he⟩ := Option.map_eq_some_iff.1 h
    exact ⟨i, hi, (Prod.mk.inj he).2, (Prod.mk.inj he).1⟩
  obtain ⟨i, hi, h1, h2⟩ := hinfo
  obtain ⟨R, hR, hs, hg⟩ := fill_strs ps 0 ((Array.range (ps.length * 1)).map ((Value.string ⟨#[]⟩).cells[· % (Value.string ⟨#[]⟩).cells.size]!)) (by simp)
  have hRe : R = (ps.map fun p => Value.string (mk p)).toArray := by
    apply Array.ext_getElem?
    intro j
    rw [hg j]
    by_cases hj : j < ps.length
    · rw [if_pos ⟨Nat.zero_le _, by omega⟩]
      simp [hj, List.getD]
    · rw [if_neg (by omega)]
      rw [Array.getElem?_eq_none (by simp; omega), Array.getElem?_eq_none (by simp; omega)]
  have e1 : (sizeOf 9).run Tryz.prog w = .ok 1 w := by simp [sizeOf, typeInfo, hi, h1]
  have e2 : (zeroValue 9).run Tryz.prog w = .ok (.string ⟨#[]⟩) w := by simp [zeroValue, typeInfo, hi, h2]
  have e3 : (newRow 9 (ps.map fun p => Value.string (mk p)).toArray).run Tryz.prog w = .ok ⟨w.heap.size, 0, none⟩ (w.alloc (.cells (ps.map fun p => Value.string (mk p)).toArray 9)) := rfl
  rw [hRe] at hR
  have z1 : (Value.string ⟨#[]⟩).cells = #[.string ⟨#[]⟩] := rfl
  rw [z1] at hR
  simp only [Nat.mul_one] at hR
  unfold Instr.buildSlice
  rw [Sem.run_bind, run_underlying hu, Result.andThen_ok]
  simp only [Sem.run_bind, e1, Result.andThen_ok, Nat.mul_one]
  rw [if_neg (by omega), if_neg (by omega), Sem.run_bind]
  simp only [Sem.run_bind, e2, Result.andThen_ok, Sem.run_pure, z1]
  rw [hp, hR]
  simp only [Sem.run_bind, e3, Result.andThen_ok, Sem.run_pure]
/-- .. at one step of a drawn region. -/
theorem step_table {ops : Array Oper} {o : Oper} {a : Act} {K : Act → World → Prop} {Q : Exit → Act → World → Prop} {E : Prop} {w : World} (hgd : o.guard = none)
    (t : TypeId) (hu : Tryz.prog.underlying t = some (.slice 9)) (ps : List Bytes) (hn : ps.length ≤ 1000) (hpos : 0 < ps.length) (n : Nat) (hnn : n = ps.length) (V : Array Value) (hV : (ps.map fun p => Value.string (mk p)).toArray = V) (parts : Array (Nat × Operand)) (ho : o.op = .buildSlice t n parts)
    (hp : (parts.map fun x => (x.1, a.eval x.2)).toList = (ps.zipIdx 0).map fun x => (x.2, Value.string (mk x.1)))
    (h : K (a.put o.dst (.slice (some ⟨w.heap.size, 0, none⟩) n n)) (w.alloc (.cells V 9))) : if Region.wanted o (yielded ops a.tmps) = true then Oper.wp Tryz.prog o a w K Q else E := by
  have hw : Region.wanted o (yielded ops a.tmps) = true := by simp [Region.wanted, hgd]
  rw [if_pos hw]
  have hr := run_table t hu ps hn hpos _ hp w
  rw [← hnn, hV] at hr
  unfold Oper.wp execOp
  simp only [ho, Sem.run_bind, Sem.run_pure, Result.andThen_ok, hr]
  exact h
end Go.Proofs.YtjkgmdnkejjppaaGreatDoor
