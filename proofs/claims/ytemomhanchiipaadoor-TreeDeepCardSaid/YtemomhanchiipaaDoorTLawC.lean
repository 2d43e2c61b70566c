/- Plain laws of the builder's model: TreeClosed, TreeDeep. -/
import Derived.Test.YtemomhanchiipaaDoorTLawB
namespace Go.Proofs.YtemomhanchiipaaDoor

/- What is closed by itself. -/
def liNs : List Bytes → Bool
  | [] => false
  | x :: r => inLiM x (liNs r)
def PathOk : List Bytes → Prop
  | [] => True
  | [x] => x = []
  | x :: y :: r => ¬ (x = nP ∧ nP ∈ y :: r) ∧ ¬ (x = nLi ∧ liNs (y :: r) = true) ∧ PathOk (y :: r)

theorem findNs_cons (n x y : Bytes) (r : List Bytes) : findNs n (x :: y :: r) = if x = n then (y :: r).length else findNs n (y :: r) := rfl
theorem drop_cons (x : Bytes) (l : List Bytes) (i : Nat) (h : i ≤ l.length) : (x :: l).drop ((x :: l).length - i) = l.drop (l.length - i) := by
  rw [List.length_cons, show l.length + 1 - i = (l.length - i) + 1 by omega, List.drop_succ_cons]

theorem close_p : ∀ ns : List Bytes, PathOk ns → nP ∉ closeNs (findNs nP ns) ns
  | [], _ => by simp [closeNs, findNs]
  | [x], h => by
    have : x = [] := h
    subst this
    simp [closeNs, findNs, nP]
  | x :: y :: r, h => by
    obtain ⟨h1, h2, h3⟩ := h
    have ih := close_p (y :: r) h3
    rw [findNs_cons]
    by_cases hx : x = nP
    · rw [if_pos hx]
      unfold closeNs
      rw [if_neg (by simp), drop_cons _ _ _ (Nat.le_refl _), Nat.sub_self, List.drop_zero]
      exact fun hm => h1 ⟨hx, hm⟩
    · rw [if_neg hx]
      have hle := findNs_le nP (y :: r)
      generalize findNs nP (y :: r) = i at *
      unfold closeNs at *
      split
      · rename_i h0
        rw [if_pos h0] at ih
        intro hm
        rcases List.mem_cons.1 hm with h | h
        · exact hx h.symm
        · exact ih h
      · rename_i h0
        rw [if_neg h0] at ih
        rw [drop_cons _ _ _ (by omega)]
        exact ih

theorem close_li : ∀ ns : List Bytes, PathOk ns → liNs (if findNs nUl ns < findNs nLi ns ∧ findNs nOl ns < findNs nLi ns then closeNs (findNs nLi ns) ns else ns) = false
  | [], _ => rfl
  | [x], h => by
    have : x = [] := h
    subst this
    rfl
  | x :: y :: r, h => by
    obtain ⟨h1, h2, h3⟩ := h
    have ih := close_li (y :: r) h3
    have l1 := findNs_le nLi (y :: r)
    have l2 := findNs_le nUl (y :: r)
    have l3 := findNs_le nOl (y :: r)
    rw [findNs_cons, findNs_cons, findNs_cons]
    have d1 : nLi ≠ nUl := by decide
    have d2 : nLi ≠ nOl := by decide
    have d3 : nUl ≠ nOl := by decide
    by_cases hx : x = nLi
    · have e1 : ¬ x = nUl := by rw [hx]; exact d1
      have e2 : ¬ x = nOl := by rw [hx]; exact d2
      rw [if_pos hx, if_neg e1, if_neg e2]
      have : 0 < (y :: r).length := by simp
      rw [if_pos (by omega)]
      unfold closeNs
      rw [if_neg (by omega), drop_cons _ _ _ (Nat.le_refl _), Nat.sub_self, List.drop_zero]
      rw [← Bool.not_eq_true]
      exact fun hm => h2 ⟨hx, hm⟩
    · rw [if_neg hx]
      by_cases hu : x = nUl
      · have e2 : ¬ x = nOl := by rw [hu]; exact d3
        rw [if_pos hu, if_neg e2, if_neg (by omega)]
        show inLiM x _ = false
        unfold inLiM
        rw [if_pos (.inl hu)]
      · rw [if_neg hu]
        by_cases hol : x = nOl
        · rw [if_pos hol, if_neg (by omega)]
          show inLiM x _ = false
          unfold inLiM
          rw [if_pos (.inr hol)]
        · rw [if_neg hol]
          generalize findNs nLi (y :: r) = i at *
          have hin : ∀ b, inLiM x b = b := by
            intro b
            unfold inLiM
            rw [if_neg (fun h => h.elim hu hol), if_neg hx]
          split
          · rename_i hc
            rw [if_pos hc] at ih
            unfold closeNs at *
            rw [if_neg (by omega)] at ih ⊢
            rw [drop_cons _ _ _ (by omega)]
            exact ih
          · rename_i hc
            rw [if_neg hc] at ih
            show inLiM x (liNs (y :: r)) = false
            rw [hin]; exact ih

def PClosed (l : List Fr) : Prop := match l with
  | [] => True
  | f :: r => closedL f.done ((nm (f :: r)).contains nP) (liNs (nm (f :: r))) = true ∧ ¬ (f.name = nP ∧ nP ∈ nm r) ∧ ¬ (f.name = nLi ∧ liNs (nm r) = true) ∧ (r = [] → f.name = [])
theorem pathOk_of : ∀ l : List Fr, Frames PClosed l → PathOk (nm l)
  | [], _ => trivial
  | [_], h => h.head.2.2.2 rfl
  | _ :: g :: r, h => ⟨h.head.2.1, h.head.2.2.1, pathOk_of (g :: r) h.tail⟩

theorem contains_cons (x : Bytes) (l : List Bytes) : (x :: l).contains nP = (l.contains nP || x == nP) := by
  rw [List.contains_cons, Bool.or_comm]
  congr 1
  rw [Bool.eq_iff_iff, beq_iff_eq, beq_iff_eq]
  exact ⟨Eq.symm, Eq.symm⟩
theorem closed_elem (f : Fr) (l : List Bytes) (hd : closedL f.done ((f.name :: l).contains nP) (liNs (f.name :: l)) = true) (h1 : ¬ (f.name = nP ∧ nP ∈ l)) (h2 : ¬ (f.name = nLi ∧ liNs l = true)) :
    closedN (tElem f.name f.attrs f.done) (l.contains nP) (liNs l) = true := by
  show (!((f.name == nP && l.contains nP) || (f.name == nLi && liNs l)) && closedL f.done (l.contains nP || f.name == nP) (inLiM f.name (liNs l))) = true
  rw [contains_cons] at hd
  have hd' : closedL f.done (l.contains nP || f.name == nP) (inLiM f.name (liNs l)) = true := hd
  rw [hd', Bool.and_true, Bool.not_eq_true', Bool.or_eq_false_iff]
  constructor
  · rw [← Bool.not_eq_true]
    intro h
    simp only [Bool.and_eq_true, beq_iff_eq, List.contains_eq_mem, decide_eq_true_eq] at h
    exact h1 h
  · rw [← Bool.not_eq_true]
    intro h
    simp only [Bool.and_eq_true, beq_iff_eq] at h
    exact h2 h
theorem closed_snoc (l : List TNode) (t : TNode) (p li : Bool) (h1 : closedL l p li = true) (h2 : closedN t p li = true) : closedL (l ++ [t]) p li = true := by
  rw [closedL_append, h1, Bool.true_and]
  show (closedN t p li && true) = true
  rw [h2]; rfl
theorem stable_closed : Stable PClosed := ⟨fun f g r h1 h2 => ⟨closed_snoc _ _ _ _ h2.1 (closed_elem f (nm (g :: r)) h1.1 h1.2.1 h1.2.2.1), h2.2.1, h2.2.2.1, h2.2.2.2⟩⟩
theorem closed_text (l : List TNode) (s : Bytes) (p li : Bool) (h : closedL l p li = true) : closedL (addText l s) p li = true := by
  unfold addText
  split
  · rename_i a t ps he
    obtain ⟨l', rfl⟩ : ∃ l', l = l' ++ [TNode.mk [] a t ps] := by
      rcases List.eq_nil_or_concat l with rfl | ⟨l', x, rfl⟩
      · simp at he
      · rw [List.concat_eq_append] at *
        rw [List.getLast?_append] at he
        simp at he
        exact ⟨l', by rw [he]⟩
    rw [List.dropLast_concat]
    rw [closedL_append, Bool.and_eq_true] at h
    refine closed_snoc _ _ _ _ h.1 ?_
    have h2 := h.2
    have h3 : (closedN (TNode.mk [] a t ps) p li && true) = true := h2
    rw [Bool.and_true] at h3
    exact h3
  · refine closed_snoc _ _ _ _ h ?_
    rfl

theorem nm_ne {l : List Fr} (h : Frames PClosed l) : nm l ≠ [] := by
  intro h0
  exact h.ne (List.map_eq_nil_iff.1 h0)
theorem push_ok (b : BSt) (t : TTok) (h : Frames PClosed b.stack) : ¬ (t.name = nP ∧ nP ∈ nm (startB (startA b t) t)) ∧ ¬ (t.name = nLi ∧ liNs (nm (startB (startA b t) t)) = true) := by
  have hA : Frames PClosed (startA b t) := by
    unfold startA
    split
    · exact h.close stable_closed _
    · exact h
  constructor
  · rintro ⟨hn, hm⟩
    have h1 := nm_startB _ _ _ hm
    unfold startA at h1
    rw [if_pos (by rw [hn]; decide), nm_find] at h1
    exact close_p _ (pathOk_of _ h) h1
  · rintro ⟨hn, hm⟩
    have h1 := close_li _ (pathOk_of _ hA)
    unfold startB at hm
    rw [findM_ns, findM_ns, findM_ns] at hm
    by_cases hc : findNs nUl (nm (startA b t)) < findNs nLi (nm (startA b t)) ∧ findNs nOl (nm (startA b t)) < findNs nLi (nm (startA b t))
    · rw [if_pos ⟨hn, hc⟩, ← findM_ns, nm_find] at hm
      rw [if_pos hc] at h1
      rw [h1] at hm; cases hm
    · rw [if_neg (fun h => hc h.2)] at hm
      rw [if_neg hc] at h1
      rw [h1] at hm; cases hm

theorem closed_step (b : BSt) (t : TTok) (h : Frames PClosed b.stack) : Frames PClosed (stepM b t).stack := by
  obtain ⟨p1, p2⟩ := push_ok b t h
  refine frames_step stable_closed b t h (fun s hs he _ _ => ?_) (fun f r hf he _ _ => ?_) (fun f r hf _ _ _ => ?_)
  · subst he
    exact ⟨rfl, p1, p2, fun h => absurd h hs.ne⟩
  · rw [← he] at p1 p2
    obtain ⟨h1, h2, h3, h4⟩ := hf.head
    exact ⟨closed_snoc _ _ _ _ h1 (closed_elem ⟨t.name, t.attrs, []⟩ (nm (f :: r)) rfl p1 p2), h2, h3, h4⟩
  · obtain ⟨h1, h2, h3, h4⟩ := hf.head
    exact ⟨closed_text _ _ _ _ h1, h2, h3, h4⟩
/-- What TreeClosed asks. -/
theorem closed_law (l : List TTok) : closedL (buildM l) false false = true := by
  have h := steps_keep (fun b => Frames PClosed b.stack) (.root _ ⟨rfl, fun h => absurd h.2 (by simp [nm]), fun h => absurd h.2 (by simp [nm, liNs]), fun _ => rfl⟩) closed_step l
  obtain ⟨f, h1, h2⟩ := rootDone_of stable_closed h
  unfold buildM
  rw [h2]
  have h3 := h1.1
  have h4 := h1.2.2.2 rfl
  have e1 : (nm [f]).contains nP = false := by simp [nm, h4]; decide
  have e2 : liNs (nm [f]) = false := by show inLiM f.name false = false; rw [h4]; rfl
  rw [e1, e2] at h3
  exact h3

/- How deep; texts apart. -/
def PDeep (l : List Fr) : Prop := match l with
  | [] => True
  | f :: r => deepL f.done + r.length ≤ 11 ∧ apartL false f.done = true ∧ (r ≠ [] → f.name ≠ []) ∧ r.length ≤ 10
theorem apart_snoc_elem (l : List TNode) (n : Bytes) (a : List TAttr) (ps : List TNode) (hl : apartL false l = true) (hn : n ≠ []) (hp : apartL false ps = true) : apartL false (l ++ [tElem n a ps]) = true := by
  rw [apartL_append, hl, Bool.true_and]
  have hn2 : (n == []) = false := beq_eq_false_iff_ne.2 hn
  show (!(_ && n == []) && apartN (tElem n a ps) && true) = true
  rw [hn2, Bool.and_false, Bool.not_false, Bool.true_and, Bool.and_true]
  show (if n = [] then _ else (([] : Bytes) == []) && apartL false ps) = true
  rw [if_neg hn, hp]; rfl
theorem deep_snoc (l : List TNode) (t : TNode) : deepL (l ++ [t]) = max (deepL l) (deepN t) := by
  rw [deepL_append]
  show max (deepL l) (max (deepN t) 0) = _
  omega
theorem stable_deep : Stable PDeep := ⟨fun f g r h1 h2 => by
  obtain ⟨a1, a2, a3, a4⟩ := h1
  obtain ⟨b1, b2, b3, b4⟩ := h2
  refine ⟨?_, apart_snoc_elem _ _ _ _ b2 (a3 (by simp)) a2, b3, b4⟩
  show deepL (g.done ++ [tElem f.name f.attrs f.done]) + r.length ≤ 11
  rw [deep_snoc]
  have : deepN (tElem f.name f.attrs f.done) = deepL f.done + 1 := rfl
  simp at a1
  omega⟩
theorem apart_text (l : List TNode) (s : Bytes) (hs : s ≠ []) (h : apartL false l = true) : apartL false (addText l s) = true ∧ deepL (addText l s) ≤ max (deepL l) 1 := by
  unfold addText
  split
  · rename_i a t ps he
    obtain ⟨l', rfl⟩ : ∃ l', l = l' ++ [TNode.mk [] a t ps] := by
      rcases List.eq_nil_or_concat l with rfl | ⟨l', x, rfl⟩
      · simp at he
      · rw [List.concat_eq_append] at *
        rw [List.getLast?_append] at he
        simp at he
        exact ⟨l', by rw [he]⟩
    rw [List.dropLast_concat]
    rw [apartL_append, Bool.and_eq_true] at h
    obtain ⟨h1, h2⟩ := h
    refine ⟨?_, by rw [deep_snoc, deep_snoc]; show max _ (deepL ps + 1) ≤ max (max _ (deepL ps + 1)) 1; omega⟩
    rw [apartL_append, h1, Bool.true_and]
    generalize lastT false l' = pv at *
    have h3 : (!(pv && true) && (!(t == []) && ps.isEmpty && a.isEmpty) && true) = true := h2
    show (!(pv && true) && (!(t ++ s == []) && ps.isEmpty && a.isEmpty) && true) = true
    have h4 : (t ++ s == []) = false := beq_eq_false_iff_ne.2 (by simp [hs])
    simp only [Bool.and_true, Bool.and_eq_true] at h3 ⊢
    exact ⟨h3.1, ⟨by rw [h4]; rfl, h3.2.1.2⟩, h3.2.2⟩
  · rename_i hno
    refine ⟨?_, by rw [deep_snoc]; show max _ (0 + 1) ≤ _; omega⟩
    rw [apartL_append, h, Bool.true_and]
    have hs2 : (s == []) = false := beq_eq_false_iff_ne.2 hs
    have hlast : lastT false l = false := by
      unfold lastT
      cases hg : l.getLast? with
      | none => rfl
      | some x =>
        obtain ⟨n, a, t, ps⟩ := x
        show (n == []) = false
        rw [beq_eq_false_iff_ne]
        rintro rfl
        exact hno a t ps hg
    show (!(_ && true) && (!(s == []) && true && true) && true) = true
    rw [hlast, hs2]; rfl

theorem deep_step (b : BSt) (t : TTok) (h : Frames PDeep b.stack) (hn : t.kind = 1 → t.name ≠ []) : Frames PDeep (stepM b t).stack := by
  refine frames_step stable_deep b t h (fun s _ _ hl hk => ?_) (fun f r hf _ hl hk => ?_) (fun f r hf _ _ hs => ?_)
  · exact ⟨by show 0 + s.length ≤ 11; omega, rfl, fun _ => hn hk, hl⟩
  · obtain ⟨h1, h2, h3, h4⟩ := hf.head
    refine ⟨?_, apart_snoc_elem _ _ _ _ h2 (hn hk) rfl, h3, h4⟩
    show deepL (f.done ++ [tElem t.name t.attrs []]) + r.length ≤ 11
    rw [deep_snoc]
    have : deepN (tElem t.name t.attrs []) = 0 + 1 := rfl
    simp at hl
    omega
  · obtain ⟨h1, h2, h3, h4⟩ := hf.head
    obtain ⟨k1, k2⟩ := apart_text f.done t.text hs h2
    exact ⟨by show deepL (addText f.done t.text) + r.length ≤ 11; omega, k1, h3, h4⟩
/-- What TreeDeep asks. -/
theorem deep_law (l : List TTok) (hn : ∀ t ∈ l, t.kind = 1 → t.name ≠ []) : deepL (buildM l) ≤ 11 ∧ apartL false (buildM l) = true := by
  have h := steps_keep_of (fun b => Frames PDeep b.stack) (.root _ ⟨by show 0 + 0 ≤ 11; omega, rfl, fun h => absurd rfl h, by show 0 ≤ 10; omega⟩) l (fun b t ht hb => deep_step b t hb (hn t ht))
  obtain ⟨f, h1, h2⟩ := rootDone_of stable_deep h
  unfold buildM
  rw [h2]
  exact ⟨h1.1, h1.2.1⟩

end Go.Proofs.YtemomhanchiipaaDoor
