/- Slices of strings and of runs as a reader sees them; runs in a row of the call's own; one run appended. -/
import Derived.Test.YtjkgmdnkejjppaaGreatDoorJYRow
import Derived.Test.YtjkgmdnkejjppaaGreatDoorJQLaw
namespace Go.Proofs.YtjkgmdnkejjppaaGreatDoor
open Go Go.RowKit

/-- A slice of strings, at whatever place of its block. -/
def SView (w : World) (v : Value) (l : List Bytes) : Prop :=
  (∃ a e, v = .slice a l.length (l.length + e)) ∧ ∀ i p, l[i]? = some p → ∃ g o e, v = .slice (some ⟨g, o, none⟩) l.length (l.length + e) ∧ (∃ cs, w.heap[g]? = some (.cells cs 9 (0, 0))) ∧ w.cell? ⟨g, o + i, none⟩ = some (.string (mk p))
theorem SView.nil (w : World) : SView w (.slice none 0 0) [] := ⟨⟨none, 0, rfl⟩, fun i p h => by simp at h⟩
theorem SView.stay {w w' : World} {v : Value} {l : List Bytes} (h : SView w v l) (hk : ∀ (g : Nat) (cs : Array Value), w.heap[g]? = some (.cells cs 9 (0, 0)) → w'.heap[g]? = w.heap[g]?) : SView w' v l :=
  ⟨h.1, fun i p hi => by
    obtain ⟨g, o, e, h1, ⟨cs, h2⟩, h3⟩ := h.2 i p hi
    have ee := hk g cs h2
    exact ⟨g, o, e, h1, ⟨cs, ee.trans h2⟩, (World.cell?_of_block (w := w) (w' := w') (a := ⟨g, o + i, none⟩) ee).trans h3⟩⟩
theorem SView.older {w w' : World} {v : Value} {l : List Bytes} (h : SView w v l) (hk : Older w w') : SView w' v l := h.stay fun g _ hg => hk.2 g (lt_of_block hg)
theorem SRow.sview {B : Nat} {w : World} {v : Value} {l : List Bytes} (h : SRow B w v l) : SView w v l := by
  rcases h.2 with ⟨hv, h0⟩ | ⟨g, cap, cur, hv, _, hg, hc, _, _⟩
  · have hl : l = [] := List.eq_nil_of_length_eq_zero h0
    subst hl; subst hv
    exact SView.nil w
  · refine ⟨⟨_, cap - l.length, by rw [hv]; congr 1; omega⟩, fun i p hi => ⟨g, 0, cap - l.length, by rw [hv]; congr 1; omega, ⟨cur, hg⟩, ?_⟩⟩
    have := h.cells (g := g) (by rw [hv]; rfl) i (.string (mk p)) (by rw [List.getElem?_map, hi]; rfl)
    have hadd : (⟨g, 0, none⟩ : Addr).add i = ⟨g, i, none⟩ := by unfold Addr.add; split <;> simp_all
    rw [hadd] at this
    rw [Nat.zero_add]; exact this

/-- A slice of runs, at whatever place of its block. -/
def RView (w : World) (v : Value) (l : List TRun) : Prop :=
  (∃ a e, v = .slice a l.length (l.length + e)) ∧ ∀ i r, l[i]? = some r → ∃ g o e mv, v = .slice (some ⟨g, o, none⟩) l.length (l.length + e) ∧ (∃ cs, w.heap[g]? = some (.cells cs 46 (0, 0))) ∧
    w.cell? ⟨g, o + i * 2, none⟩ = some (.string (mk r.text)) ∧ w.cell? ⟨g, o + i * 2 + 1, none⟩ = some mv ∧ SView w mv r.marks
theorem RView.stay {w w' : World} {v : Value} {l : List TRun} (h : RView w v l) (hs : ∀ (g : Nat) (cs : Array Value), w.heap[g]? = some (.cells cs 9 (0, 0)) → w'.heap[g]? = w.heap[g]?) (hk : ∀ (g : Nat) (cs : Array Value), w.heap[g]? = some (.cells cs 46 (0, 0)) → w'.heap[g]? = w.heap[g]?) : RView w' v l :=
  ⟨h.1, fun i r hi => by
    obtain ⟨g, o, e, mv, h1, ⟨cs, h2⟩, h3, h4, h5⟩ := h.2 i r hi
    have ee := hk g cs h2
    have c := fun o => World.cell?_of_block (w := w) (w' := w') (a := ⟨g, o, none⟩) ee
    exact ⟨g, o, e, mv, h1, ⟨cs, ee.trans h2⟩, (c _).trans h3, (c _).trans h4, h5.stay hs⟩⟩
theorem RView.older {w w' : World} {v : Value} {l : List TRun} (h : RView w v l) (hk : Older w w') : RView w' v l := h.stay (fun g _ hg => hk.2 g (lt_of_block hg)) fun g _ hg => hk.2 g (lt_of_block hg)

def runCell (p : TRun × Value) : List Value := [.string (mk p.1.text), p.2]
def runCells (l : List (TRun × Value)) : List Value := l.flatMap runCell
theorem runCells_append (a b : List (TRun × Value)) : runCells (a ++ b) = runCells a ++ runCells b := by simp [runCells]
theorem runCells_get : ∀ (ps : List (TRun × Value)) (i : Nat) (p : TRun × Value), ps[i]? = some p → (runCells ps)[i * 2]? = some (.string (mk p.1.text)) ∧ (runCells ps)[i * 2 + 1]? = some p.2
  | [], i, p, h => by simp at h
  | a :: ps, i, p, h => by
    have e : runCells (a :: ps) = .string (mk a.1.text) :: a.2 :: runCells ps := by simp [runCells, runCell]
    cases i with
    | zero => simp at h; subst h; rw [e]; exact ⟨rfl, rfl⟩
    | succ i =>
      simp at h
      have := runCells_get ps i p h
      rw [e, show (i + 1) * 2 = i * 2 + 2 by omega]
      simpa using this
/-- Runs in a row of the call's own; their marks wherever. -/
def RunOwn (B : Nat) (w : World) (v : Value) (l : List TRun) : Prop :=
  ∃ ps : List (TRun × Value), ps.map Prod.fst = l ∧ w.ownsRow B 46 2 v ps.length (runCells ps) ∧ ∀ p ∈ ps, SView w p.2 p.1.marks
theorem RunOwn.nil (B : Nat) (w : World) : RunOwn B w (.slice none 0 0) [] := ⟨[], rfl, World.ownsRow_nil w B _ _, fun p hp => by cases hp⟩
theorem RunOwn.older {B : Nat} {w w' : World} {v : Value} {l : List TRun} (h : RunOwn B w v l) (hk : Older w w') : RunOwn B w' v l := by
  obtain ⟨ps, h1, h2, h3⟩ := h
  exact ⟨ps, h1, ownsRow_kept h2 fun g c _ hg => (hk.2 g (lt_of_block hg)).trans hg, fun p hp => (h3 p hp).older hk⟩
theorem RunOwn.view {B : Nat} {w : World} {v : Value} {l : List TRun} (h : RunOwn B w v l) : RView w v l := by
  obtain ⟨ps, rfl, hown, hat⟩ := h
  have hlen : (ps.map Prod.fst).length = ps.length := List.length_map _
  rcases hown.2 with ⟨hv, h0⟩ | ⟨g, cap, cur, hv, _, hg, hc, _, _⟩
  · have hl : ps = [] := List.eq_nil_of_length_eq_zero h0
    subst hl; subst hv
    exact ⟨⟨none, 0, rfl⟩, fun i p h => by simp at h⟩
  · refine ⟨⟨_, cap - ps.length, by rw [hv, hlen]; congr 1; omega⟩, fun i r hi => ?_⟩
    rw [List.getElem?_map] at hi
    obtain ⟨p, hp, rfl⟩ := Option.map_eq_some_iff.1 hi
    have hc2 := runCells_get ps i p hp
    have k := fun j u hu => hown.cells (g := g) (by rw [hv]; rfl) j u hu
    have hadd : ∀ j, (⟨g, 0, none⟩ : Addr).add j = ⟨g, j, none⟩ := fun j => by unfold Addr.add; split <;> simp_all
    have k0 := k _ _ hc2.1
    have k1 := k _ _ hc2.2
    rw [hadd] at k0 k1
    exact ⟨g, 0, cap - ps.length, p.2, by rw [hv, hlen]; congr 1; omega, ⟨cur, hg⟩, by rw [Nat.zero_add]; exact k0, by rw [Nat.zero_add]; exact k1, hat p (List.mem_of_getElem? hp)⟩
theorem infoRun : (Tryz.prog.info? 46).map (fun i => (i.zero, i.size, i.bytes)) = some (some (.agg #[.string ⟨#[]⟩, .slice none 0 0]), 2, 40) := by kernel_rfl
/-- What was appended to the row leaves rows of strings as they are. -/
theorem run_stay_str {B n : Nat} {w w' : World} {tv : Value} {cells : List Value} (hown : w.ownsRow B 46 2 tv n cells) (hg : w.grownBy w' tv.ownBlock) (g : Nat) (cs : Array Value) (h : w.heap[g]? = some (.cells cs 9 (0, 0))) : w'.heap[g]? = w.heap[g]? :=
  hg.block g (lt_of_block h) (by
    intro e
    rcases hown.2 with ⟨hv0, _⟩ | ⟨g0, cap0, cur0, hv0, _, hg0, _⟩
    · rw [hv0] at e; cases e
    · rw [hv0] at e
      have e' : g = g0 := by injection e
      rw [e', hg0] at h
      injection h with h; injection h with _ h2 _
      exact absurd h2 (by decide))
/-- A cell of the row written. -/
theorem ownsRow_write {B size n g cap : Nat} {w : World} {e : TypeId} {xs : List Value} (h : w.ownsRow B e size (.slice (some ⟨g, 0, none⟩) n cap) n xs) (i : Nat) (u : Value) :
    (w.setCell ⟨g, i, none⟩ u).ownsRow B e size (.slice (some ⟨g, 0, none⟩) n cap) n (xs.set i u) := by
  refine ⟨by rw [List.length_set]; exact h.1, ?_⟩
  rcases h.2 with ⟨hv, _⟩ | ⟨g', cap', cur, hv, hB, hg, hc, hm, hcs, ht⟩
  · cases hv
  · cases hv
    refine .inr ⟨g, cap, cur.setIfInBounds i u, rfl, hB, ?_, hc, hm, by simpa using hcs, ?_⟩
    · simp [World.setCell, Array.getElem?_modify, hg]
    · rw [Array.toList_setIfInBounds, ← ht, List.take_set]
/-- The row as the append sees it, and what it is behind one run more. -/
theorem RunOwn.row {B : Nat} {w : World} {v : Value} {l : List TRun} (h : RunOwn B w v l) : ∃ cells, w.ownsRow B 46 2 v l.length cells ∧ ∀ (r : TRun) (mv v' : Value) (w' : World), SView w mv r.marks → w.grownBy w' v.ownBlock →
    w'.ownsRow B 46 2 v' (l.length + 1) (cells ++ [.string (mk r.text), mv]) → RunOwn B w' v' (l ++ [r]) := by
  obtain ⟨ps, rfl, hown, hat⟩ := h
  refine ⟨runCells ps, by rw [List.length_map]; exact hown, fun r mv v' w' hm hg ho => ⟨ps ++ [(r, mv)], by simp, ?_, fun p hp => ?_⟩⟩
  · rw [runCells_append, List.length_append]
    rw [List.length_map] at ho
    exact ho
  · rcases List.mem_append.1 hp with hp | hp
    · exact (hat p hp).stay fun g cs h => run_stay_str hown hg g cs h
    · cases List.mem_singleton.1 hp
      exact hm.stay fun g cs h => run_stay_str hown hg g cs h
end Go.Proofs.YtjkgmdnkejjppaaGreatDoor
