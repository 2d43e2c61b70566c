/- Parts of slices of runs and of strings; a run's text written in its row. -/
import Derived.Test.YtjkgmdnkejjppaaGreatDoorJQView
namespace Go.Proofs.YtjkgmdnkejjppaaGreatDoor
open Go Go.RowKit

theorem heap_setCell_at {w : World} {g i : Nat} {cs : Array Value} {T : TypeId} {fr : Nat × Nat} (u : Value) (h : w.heap[g]? = some (.cells cs T fr)) : (w.setCell ⟨g, i, none⟩ u).heap[g]? = some (.cells (cs.setIfInBounds i u) T fr) := by
  simp [World.setCell, Array.getElem?_modify, h]
theorem tw_all {α : Type} {p : α → Bool} : ∀ {l : List α}, (∀ q ∈ l, p q = true) → l.takeWhile p = l
  | [], _ => rfl
  | a :: l, h => by rw [List.takeWhile_cons, if_pos (h a (by simp)), tw_all fun q hq => h q (by simp [hq])]
theorem RView.empty (w : World) (a : Option Addr) (e : Nat) : RView w (.slice a 0 e) [] := ⟨⟨a, e, by rw [List.length_nil, Nat.zero_add]⟩, fun i r h => by simp at h⟩
theorem SView.empty (w : World) (a : Option Addr) (e : Nat) : SView w (.slice a 0 e) [] := ⟨⟨a, e, by rw [List.length_nil, Nat.zero_add]⟩, fun i r h => by simp at h⟩
theorem RView.head {w : World} {v : Value} {r : TRun} {l : List TRun} (h : RView w v (r :: l)) : ∃ g o e mv, v = .slice (some ⟨g, o, none⟩) (l.length + 1) (l.length + 1 + e) ∧ g < w.heap.size ∧ w.cell? ⟨g, o, none⟩ = some (.string (mk r.text)) ∧ w.cell? ⟨g, o + 1, none⟩ = some mv ∧ SView w mv r.marks := by
  obtain ⟨g, o, e, mv, hv, ⟨cs, hg⟩, h1, h2, h3⟩ := h.2 0 r rfl
  exact ⟨g, o, e, mv, hv, lt_of_block hg, by simpa using h1, by simpa using h2, h3⟩
/-- What is left behind the first ones. -/
theorem RView.drop {w : World} {g o e : Nat} {l : List TRun} (h : RView w (.slice (some ⟨g, o, none⟩) l.length (l.length + e)) l) (n : Nat) : RView w (.slice (some ⟨g, o + n * 2, none⟩) (l.length - n) (l.length - n + e)) (l.drop n) := by
  refine ⟨⟨_, e, by rw [List.length_drop]⟩, fun i r hi => ?_⟩
  rw [List.getElem?_drop] at hi
  obtain ⟨g', o', e', mv, hv, hg, h1, h2, h3⟩ := h.2 (n + i) r hi
  obtain ⟨⟨rfl, rfl⟩, rfl⟩ : (g = g' ∧ o = o') ∧ e = e' := by simp at hv; exact ⟨hv.1, by omega⟩
  refine ⟨g, o + n * 2, e, mv, by rw [List.length_drop], hg, ?_, ?_, h3⟩
  · rw [show o + n * 2 + i * 2 = o + (n + i) * 2 by omega]; exact h1
  · rw [show o + n * 2 + i * 2 + 1 = o + (n + i) * 2 + 1 by omega]; exact h2
theorem RView.tail {w : World} {g o re : Nat} {r : TRun} {rest : List TRun} (h : RView w (.slice (some ⟨g, o, none⟩) (rest.length + 1) (rest.length + 1 + re)) (r :: rest)) :
    RView w (.slice (if rest.length + 1 + re = 1 then some ⟨g, o, none⟩ else some ⟨g, o + 2, none⟩) rest.length (rest.length + re)) rest := by
  by_cases hl : rest.length = 0
  · have : rest = [] := List.eq_nil_of_length_eq_zero hl
    subst this
    exact RView.empty w _ _
  · rw [if_neg (by omega)]
    have h1 := RView.drop (l := r :: rest) h 1
    exact h1
theorem RView.cut {w : World} {g o e : Nat} {l : List TRun} (h : RView w (.slice (some ⟨g, o, none⟩) l.length (l.length + e)) l) (n : Nat) (hn : n ≤ l.length) :
    RView w (.slice (if l.length + e = n then some ⟨g, o, none⟩ else some ⟨g, o + n * 2, none⟩) (l.length - n) (l.length + e - n)) (l.drop n) := by
  by_cases hl : l.length + e = n
  · rw [if_pos hl, List.drop_of_length_le (by omega), show l.length - n = 0 by omega]
    exact RView.empty w _ _
  · rw [if_neg hl, show l.length + e - n = l.length - n + e by omega]
    exact h.drop n
theorem RView.take {w : World} {g o e : Nat} {l : List TRun} (h : RView w (.slice (some ⟨g, o, none⟩) l.length (l.length + e)) l) (n : Nat) (hn : n ≤ l.length) : RView w (.slice (some ⟨g, o, none⟩) n (l.length + e)) (l.take n) := by
  have hl : (l.take n).length = n := by rw [List.length_take]; omega
  refine ⟨⟨_, l.length - n + e, by rw [hl]; congr 1; omega⟩, fun i r hi => ?_⟩
  have hlt : i < n := by have := (List.getElem?_eq_some_iff.1 hi).1; omega
  rw [List.getElem?_take_of_lt hlt] at hi
  obtain ⟨g', o', e', mv, hv, hg, h1, h2, h3⟩ := h.2 i r hi
  obtain ⟨⟨rfl, rfl⟩, rfl⟩ : (g = g' ∧ o = o') ∧ e = e' := by simp at hv; exact ⟨hv.1, by omega⟩
  exact ⟨g, o, l.length - n + e, mv, by rw [hl]; congr 1; omega, hg, h1, h2, h3⟩
theorem SView.take {w : World} {a : Option Addr} {e : Nat} {l : List Bytes} (h : SView w (.slice a l.length (l.length + e)) l) (n : Nat) (hn : n ≤ l.length) : SView w (.slice a n (l.length + e)) (l.take n) := by
  have hl : (l.take n).length = n := by rw [List.length_take]; omega
  refine ⟨⟨_, l.length - n + e, by rw [hl]; congr 1; omega⟩, fun i r hi => ?_⟩
  have hlt : i < n := by have := (List.getElem?_eq_some_iff.1 hi).1; omega
  rw [List.getElem?_take_of_lt hlt] at hi
  obtain ⟨g', o', e', hv, hg, h1⟩ := h.2 i r hi
  obtain ⟨rfl, rfl⟩ : a = some ⟨g', o', none⟩ ∧ e = e' := by simp at hv; exact ⟨hv.1, by omega⟩
  exact ⟨g', o', l.length - n + e, by rw [hl]; congr 1; omega, hg, h1⟩
theorem runCells_len : ∀ ps : List (TRun × Value), (runCells ps).length = ps.length * 2
  | [] => rfl
  | p :: ps => by
    have e : runCells (p :: ps) = runCell p ++ runCells ps := rfl
    rw [e, List.length_append, runCells_len ps, List.length_cons]
    show 2 + _ = _
    omega
theorem runCells_set (ps : List (TRun × Value)) (u : TRun) (mv : Value) (t : Bytes) : (runCells (ps ++ [(u, mv)])).set (ps.length * 2) (.string (mk t)) = runCells (ps ++ [(⟨t, u.marks⟩, mv)]) := by
  rw [runCells_append, runCells_append, ← runCells_len ps]
  rw [List.set_append_right _ _ (Nat.le_refl _), Nat.sub_self]; rfl
/-- The last run's place in the row. -/
theorem RunOwn.last {B : Nat} {w : World} {v : Value} {l : List TRun} {u : TRun} (h : RunOwn B w v (l ++ [u])) : ∃ g cap mv, v = .slice (some ⟨g, 0, none⟩) (l.length + 1) cap ∧ B ≤ g ∧ g < w.heap.size ∧ w.cell? ⟨g, l.length * 2, none⟩ = some (.string (mk u.text)) ∧ w.cell? ⟨g, l.length * 2 + 1, none⟩ = some mv ∧ SView w mv u.marks ∧ w.frozen? ⟨g, l.length * 2, none⟩ = false ∧
    ∀ t : Bytes, RunOwn B (w.setCell ⟨g, l.length * 2, none⟩ (.string (mk t))) v (l ++ [⟨t, u.marks⟩]) := by
  obtain ⟨ps, hps, hown, hat⟩ := h
  have hl : ps.length = l.length + 1 := by have := congrArg List.length hps; simpa using this
  obtain ⟨qs, q, rfl⟩ : ∃ qs q, ps = qs ++ [q] := by
    rcases List.eq_nil_or_concat ps with h | ⟨qs, q, h⟩
    · subst h; simp at hl
    · exact ⟨qs, q, by rw [h, List.concat_eq_append]⟩
  rw [List.map_append] at hps
  have hq := List.append_inj hps (by simp at hl ⊢; omega)
  have hqs : qs.map Prod.fst = l := hq.1
  have hqu : q.1 = u := by have := hq.2; simpa using this
  have hql : qs.length = l.length := by rw [← hqs, List.length_map]
  rw [hl] at hown
  obtain ⟨g, cap, hv, hB, hg, hc, hm, hcell, _⟩ := ownsRow_cells hown (by omega)
  subst hv
  have hblk := ownsRow_block hown rfl (by omega)
  have hget : (qs ++ [q])[l.length]? = some q := by rw [← hql]; simp
  have k := runCells_get (qs ++ [q]) l.length q hget
  subst hqu
  refine ⟨g, cap, q.2, rfl, hB, hg, hcell _ _ k.1, hcell _ _ k.2, hat q (by simp), (by obtain ⟨cs, hcs⟩ := hblk; exact Lib.frozen_of_heap hcs _), fun t => ⟨qs ++ [(⟨t, q.1.marks⟩, q.2)], by rw [List.map_append, hqs]; rfl, ?_, fun p hp => ?_⟩⟩
  · have hw := ownsRow_write hown (l.length * 2) (.string (mk t))
    have hlen2 : (qs ++ [((⟨t, q.1.marks⟩ : TRun), q.2)]).length = l.length + 1 := by simp; omega
    rw [hlen2]
    have he := runCells_set qs q.1 q.2 t
    rw [hql] at he
    rw [← he]
    exact hw
  · have hp' : ∃ p' ∈ qs ++ [q], SView w p'.2 p'.1.marks ∧ p.2 = p'.2 ∧ p.1.marks = p'.1.marks := by
      rcases List.mem_append.1 hp with hp | hp
      · exact ⟨p, by simp [hp], hat p (by simp [hp]), rfl, rfl⟩
      · cases List.mem_singleton.1 hp
        exact ⟨q, by simp, hat q (by simp), rfl, rfl⟩
    obtain ⟨p', _, hs, e1, e2⟩ := hp'
    rw [e1, e2]
    refine hs.stay fun g2 cs2 h2 => ?_
    obtain ⟨cs, hcs⟩ := hblk
    have hne : g2 ≠ g := fun e => by
      rw [e, hcs] at h2
      injection h2 with h2; injection h2 with _ h2 _
      exact absurd h2 (by decide)
    unfold World.setCell
    simp [Array.getElem?_modify, hne.symm]
theorem RunOwn.below {B : Nat} {w w' : World} {v : Value} {l : List TRun} (h : RunOwn B w v l) (hb : Below w.heap.size w w') : RunOwn B w' v l := h.older (Older.of_below hb)
theorem RunOwn.mono {B B' : Nat} {w : World} {v : Value} {l : List TRun} (h : RunOwn B w v l) (hB : B' ≤ B) : RunOwn B' w v l := by
  obtain ⟨ps, h1, ⟨h2, h3⟩, h4⟩ := h
  refine ⟨ps, h1, ⟨h2, ?_⟩, h4⟩
  rcases h3 with h3 | ⟨g, cap, cur, h5, h6, h7⟩
  · exact .inl h3
  · exact .inr ⟨g, cap, cur, h5, Nat.le_trans hB h6, h7⟩
end Go.Proofs.YtjkgmdnkejjppaaGreatDoor
