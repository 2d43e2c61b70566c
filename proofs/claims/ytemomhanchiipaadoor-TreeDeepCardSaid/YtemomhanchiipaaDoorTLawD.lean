/- How many nodes a builder holds: as many as it counts. Nothing of the program here. -/
import Derived.Test.YtemomhanchiipaaDoorTWalkE
namespace Go.Proofs.YtemomhanchiipaaDoor

def countS : List Fr → Nat
  | [] => 0
  | f :: r => countL f.done + countS r
theorem countL_append (a b : List TNode) : countL (a ++ b) = countL a + countL b := by
  induction a with
  | nil => rw [List.nil_append, countL, Nat.zero_add]
  | cons t a ih => rw [List.cons_append, countL, countL, ih, Nat.add_assoc]
theorem countL_one (t : TNode) : countL [t] = countN t := by rw [countL, countL, Nat.add_zero]
theorem countS_pop (l : List Fr) : countS (popM l) + (popM l).length = countS l + l.length := by
  match l with
  | [] => rfl
  | [_] => rfl
  | f :: g :: r =>
    show countL (g.done ++ [tElem f.name f.attrs f.done]) + countS r + (r.length + 1) = countL f.done + (countL g.done + countS r) + (r.length + 1 + 1)
    rw [countL_append, countL_one, tElem, countN_eq]; omega
theorem countS_popN : ∀ (n : Nat) (l : List Fr), countS (popN n l) + (popN n l).length = countS l + l.length
  | 0, _ => rfl
  | n + 1, l => (countS_popN n (popM l)).trans (countS_pop l)
theorem countS_close (i : Nat) (l : List Fr) : countS (closeM i l) + (closeM i l).length = countS l + l.length := by
  unfold closeM
  split
  · rfl
  · exact countS_popN _ _
theorem countL_addText (l : List TNode) (s : Bytes) : countL (addText l s) + (if lastText l then 1 else 0) = countL l + 1 := by
  rcases List.eq_nil_or_concat l with rfl | ⟨d, x, rfl⟩
  · show countL [tText s] + 0 = _
    rw [countL_one, tText, countN_eq]
  · rw [List.concat_eq_append]
    obtain ⟨n, a, t, ps⟩ := x
    unfold addText lastText
    rw [List.getLast?_append]
    cases n with
    | nil =>
      show countL ((d ++ [TNode.mk [] a t ps]).dropLast ++ [TNode.mk [] a (t ++ s) ps]) + 1 = _
      rw [List.dropLast_concat, countL_append, countL_append, countL_one, countL_one, countN_eq, countN_eq]
    | cons y n =>
      show countL ((d ++ [TNode.mk (y :: n) a t ps]) ++ [tText s]) + 0 = _
      rw [countL_append, countL_one, tText, countN_eq (ps := [])]
      rw [countL]
/-- As many as are counted. -/
def Counted (b : BSt) : Prop := countS b.stack + b.stack.length = b.count + 1 ∧ b.stack ≠ []
theorem popN_ne : ∀ (n : Nat) (l : List Fr), l ≠ [] → popN n l ≠ []
  | 0, _, h => h
  | n + 1, l, h => popN_ne n (popM l) (by
    match l, h with
    | [f], _ => simp [popM]
    | f :: g :: r, _ => simp [popM])
theorem closeM_ne (i : Nat) (l : List Fr) (h : l ≠ []) : closeM i l ≠ [] := by
  unfold closeM
  split
  · exact h
  · exact popN_ne _ _ h
theorem startA_count (b : BSt) (t : TTok) (h : b.stack ≠ []) : countS (startA b t) + (startA b t).length = countS b.stack + b.stack.length ∧ startA b t ≠ [] := by
  unfold startA
  split
  · exact ⟨countS_close _ _, closeM_ne _ _ h⟩
  · exact ⟨rfl, h⟩
theorem startB_count (s : List Fr) (t : TTok) (h : s ≠ []) : countS (startB s t) + (startB s t).length = countS s + s.length ∧ startB s t ≠ [] := by
  unfold startB
  split
  · exact ⟨countS_close _ _, closeM_ne _ _ h⟩
  · exact ⟨rfl, h⟩
theorem startAB_count {b : BSt} (t : TTok) (h : Counted b) : countS (startB (startA b t) t) + (startB (startA b t) t).length = b.count + 1 ∧ startB (startA b t) t ≠ [] := by
  obtain ⟨h1, h2⟩ := startA_count b t h.2
  obtain ⟨h3, h4⟩ := startB_count _ t h2
  exact ⟨h3.trans (h1.trans h.1), h4⟩
theorem counted_step (b : BSt) (t : TTok) (h : Counted b) : Counted (stepM b t) := by
  unfold stepM
  split
  · obtain ⟨h1, h2⟩ := startAB_count t h
    unfold startM startC
    generalize startB (startA b t) t = s at *
    split
    · exact ⟨h1, h2⟩
    · split
      · cases s with
        | nil => exact absurd rfl h2
        | cons f r =>
          refine ⟨?_, by simp [addTop]⟩
          show countL (f.done ++ [tElem t.name t.attrs []]) + countS r + (r.length + 1) = b.count + 1 + 1
          have h1' : countL f.done + countS r + (r.length + 1) = b.count + 1 := h1
          rw [countL_append, countL_one, tElem, countN_eq, countL]; omega
      · refine ⟨?_, by simp⟩
        show countL [] + countS s + (s.length + 1) = b.count + 1 + 1
        rw [countL]; omega
  · split
    · exact ⟨(countS_close _ _).trans h.1, closeM_ne _ _ h.2⟩
    · split
      · unfold charsM
        split
        · exact h
        · obtain ⟨h1, h2⟩ := h
          split
          · rename_i hh
            exact absurd hh h2
          · rename_i f r hh
            rw [hh] at h1
            refine ⟨?_, by simp⟩
            have h1' : countL f.done + countS r + (r.length + 1) = b.count + 1 := h1
            have h3 := countL_addText f.done t.text
            show countL (addText f.done t.text) + countS r + (r.length + 1) = (if lastText f.done then b.count else b.count + 1) + 1
            split <;> simp_all <;> omega
      · exact h
theorem counted_init : Counted initM := ⟨rfl, by simp [initM]⟩
theorem counted_steps (l : List TTok) : Counted (stepsM l) := steps_keep Counted counted_init counted_step l
theorem countS_mem : ∀ {l : List Fr} {f : Fr}, f ∈ l → f.done.length + l.length ≤ countS l + l.length
  | [], _, h => by cases h
  | x :: l, f, h => by
    have h0 : countS (x :: l) = countL x.done + countS l := rfl
    rcases List.mem_cons.1 h with rfl | h
    · have := len_countL f.done; omega
    · have := countS_mem h; omega

end Go.Proofs.YtemomhanchiipaaDoor
