/- What the rows' readers of trees find at a place. Nothing of the program here. -/
import Derived.Test.YtemomhanchiipaaDoorTLawF
namespace Go.Proofs.YtemomhanchiipaaDoor

theorem wordsN_eq (t : TNode) : wordsN t = t.text ++ wordsL t.parts := by cases t; rw [wordsN]; rfl
theorem wordsL_take (l : List TNode) (k : Nat) (t : TNode) (h : l[k]? = some t) : wordsL (l.take (k + 1)) = wordsL (l.take k) ++ (t.text ++ wordsL t.parts) := by
  rw [List.take_add_one, h, wordsL_append]
  show _ ++ wordsL [t] = _
  rw [wordsL_one, wordsN_eq]
theorem wordsL_take_len (l : List TNode) (k : Nat) : (wordsL (l.take k)).length ≤ (wordsL l).length := by
  have h : wordsL l = wordsL (l.take k) ++ wordsL (l.drop k) := by rw [← wordsL_append, List.take_append_drop]
  rw [h, List.length_append]; omega

theorem countN_of (t : TNode) : countN t = countL t.parts + 1 := by cases t; rw [countN]; rfl
theorem countL_take (l : List TNode) (k : Nat) (t : TNode) (h : l[k]? = some t) : countL (l.take (k + 1)) = countL (l.take k) + (countL t.parts + 1) := by
  rw [List.take_add_one, h, countL_append]
  show _ + countL [t] = _
  rw [countL_one, countN_of]
theorem countL_take_le (l : List TNode) (k : Nat) : countL (l.take k) ≤ countL l := by
  have h : countL l = countL (l.take k) + countL (l.drop k) := by rw [← countL_append, List.take_append_drop]
  omega
theorem deepN_of (t : TNode) : deepN t = deepL t.parts + 1 := by cases t; rw [deepN]; rfl
theorem deepL_take (l : List TNode) (k : Nat) (t : TNode) (h : l[k]? = some t) : deepL (l.take (k + 1)) = max (deepL (l.take k)) (deepL t.parts + 1) := by
  rw [List.take_add_one, h, deepL_append]
  show max _ (deepL [t]) = _
  rw [deepL, deepL, deepN_of, Nat.max_zero]
theorem deepL_take_le (l : List TNode) (k : Nat) : deepL (l.take k) ≤ deepL l := by
  have h : deepL l = max (deepL (l.take k)) (deepL (l.drop k)) := by rw [← deepL_append, List.take_append_drop]
  omega
theorem apart_get : ∀ (l : List TNode) (b : Bool) (k : Nat) (t : TNode), apartL b l = true → l[k]? = some t →
    (t.name = [] → (t.text ≠ [] ∧ t.parts = [] ∧ t.attrs = []) ∧ (k = 0 → b = false) ∧ ∀ j u, j + 1 = k → l[j]? = some u → u.name ≠ []) ∧ (t.name ≠ [] → t.text = [] ∧ apartL false t.parts = true)
  | [], _, _, _, _, h => by simp at h
  | x :: xs, b, k, t, ha, h => by
    rw [apartL] at ha
    simp only [Bool.and_eq_true, Bool.not_eq_true'] at ha
    obtain ⟨⟨h1, h2⟩, h3⟩ := ha
    cases k with
    | zero =>
      cases h
      obtain ⟨n, a, s, ps⟩ := x
      rw [apartN] at h2
      refine ⟨fun hn => ?_, fun hn => ?_⟩
      · have hn' : n = [] := hn
        subst hn'
        simp only [if_pos, Bool.and_eq_true, Bool.not_eq_true', List.isEmpty_iff] at h2
        refine ⟨⟨?_, h2.1.2, h2.2⟩, fun _ => ?_, fun j u hj => by omega⟩
        · have h4 := h2.1.1
          intro hs
          have hs' : s = [] := hs
          rw [hs'] at h4; cases h4
        · cases b
          · rfl
          · cases h1
      · have hn' : ¬ n = [] := hn
        rw [if_neg hn'] at h2
        simp only [Bool.and_eq_true, beq_iff_eq] at h2
        exact h2
    | succ k =>
      obtain ⟨g1, g2⟩ := apart_get xs (x.name == []) k t h3 h
      refine ⟨fun hn => ?_, g2⟩
      obtain ⟨e1, e2, e3⟩ := g1 hn
      refine ⟨e1, fun h => by omega, fun j u hj hu => ?_⟩
      cases j with
      | zero =>
        cases hu
        have := e2 (by omega)
        intro hx
        rw [hx] at this; cases this
      | succ j => exact e3 j u (by omega) hu
theorem closed_get : ∀ (l : List TNode) (p li : Bool) (k : Nat) (t : TNode), closedL l p li = true → l[k]? = some t →
    ¬ (t.name = nP ∧ p = true) ∧ ¬ (t.name = nLi ∧ li = true) ∧ closedL t.parts (p || t.name == nP) (inLiM t.name li) = true
  | [], _, _, _, _, _, h => by simp at h
  | x :: xs, p, li, k, t, ha, h => by
    rw [closedL, Bool.and_eq_true] at ha
    obtain ⟨h1, h2⟩ := ha
    cases k with
    | zero =>
      cases h
      obtain ⟨n, a, s, ps⟩ := x
      rw [closedN, Bool.and_eq_true] at h1
      simp only [Bool.not_eq_true', Bool.or_eq_false_iff, Bool.and_eq_false_iff, beq_eq_false_iff_ne] at h1
      obtain ⟨⟨h3, h4⟩, h5⟩ := h1
      refine ⟨?_, ?_, h5⟩
      · rintro ⟨g1, g2⟩
        rcases h3 with h3 | h3
        · exact h3 g1
        · rw [g2] at h3; cases h3
      · rintro ⟨g1, g2⟩
        rcases h4 with h4 | h4
        · exact h4 g1
        · rw [g2] at h4; cases h4
    | succ k => exact closed_get xs p li k t h2 h

end Go.Proofs.YtemomhanchiipaaDoor
