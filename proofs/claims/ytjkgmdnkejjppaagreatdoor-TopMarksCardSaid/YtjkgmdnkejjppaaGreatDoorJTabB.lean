/- A table of strings laid at a plain region's list. -/
import Derived.Test.YtjkgmdnkejjppaaGreatDoorJTab
import Derived.Test.YtjkgmdnkejjppaaGreatDoorJYRow
namespace Go.Proofs.YtjkgmdnkejjppaaGreatDoor
open Go Go.RowKit

theorem wpList_table {ops : Array Oper} {rest : List Oper} {o : Oper} {a : Act} {Q : Exit → Act → World → Prop} {w : World} (hgd : o.guard = none)
    (t : TypeId) (hu : Tryz.prog.underlying t = some (.slice 9)) (ps : List Bytes) (hn : ps.length ≤ 1000) (hpos : 0 < ps.length) (n : Nat) (hnn : n = ps.length) (V : Array Value) (hV : (ps.map fun p => Value.string (mk p)).toArray = V) (parts : Array (Nat × Operand)) (ho : o.op = .buildSlice t n parts)
    (hp : (parts.map fun x => (x.1, a.eval x.2)).toList = (ps.zipIdx 0).map fun x => (x.2, Value.string (mk x.1)))
    (h : wpList Tryz.prog ops Q rest (a.put o.dst (.slice (some ⟨w.heap.size, 0, none⟩) n n)) (w.alloc (.cells V 9))) : wpList Tryz.prog ops Q (o :: rest) a w := by
  have hw : Region.wanted o (yielded ops a.tmps) = true := by simp [Region.wanted, hgd]
  refine wpList_guarded hw fun K hK => ?_
  have hr := run_table t hu ps hn hpos _ hp w
  rw [← hnn, hV] at hr
  unfold Oper.wp execOp
  simp only [ho, Sem.run_bind, Sem.run_pure, Result.andThen_ok, hr]
  exact hK _ _ h
/-- .. where one part is a value of the frame. -/
theorem wpList_one {ops : Array Oper} {rest : List Oper} {o : Oper} {a : Act} {Q : Exit → Act → World → Prop} {w : World} (hgd : o.guard = none)
    (t : TypeId) (hu : Tryz.prog.underlying t = some (.slice 9)) (p : Bytes) (parts : Array (Nat × Operand)) (ho : o.op = .buildSlice t 1 parts)
    (hp : (parts.map fun x => (x.1, a.eval x.2)).toList = [(0, Value.string (mk p))])
    (h : wpList Tryz.prog ops Q rest (a.put o.dst (.slice (some ⟨w.heap.size, 0, none⟩) 1 1)) (w.alloc (.cells #[.string (mk p)] 9))) : wpList Tryz.prog ops Q (o :: rest) a w :=
  wpList_table hgd t hu [p] (by simp) (by simp) 1 rfl _ rfl parts ho hp h
end Go.Proofs.YtjkgmdnkejjppaaGreatDoor
