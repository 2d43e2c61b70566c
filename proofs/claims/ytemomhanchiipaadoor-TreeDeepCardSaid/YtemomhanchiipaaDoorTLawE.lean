/- The builder's end; how long its texts are. Nothing of the program here. -/
import Derived.Test.YtemomhanchiipaaDoorTLawD
namespace Go.Proofs.YtemomhanchiipaaDoor

/-- What lies at the root when all is closed. -/
theorem stk_root {H : OMap} {hi root : Nat} {bs : List Nat} {fs : List Fr} (h : Stk H none hi bs fs) (hr : bs.getLast? = some root) : ∃ r, H root = some r ∧ KidsIn H (root + 1) r.kids (rootDone fs) hi := by
  have hlen := h.len
  have hpos : 0 < bs.length := h.pos
  have h1 := h.popN (fs.length - 1) (by omega)
  have hlast : bs.drop (fs.length - 1) = [root] := by
    have e1 : (bs.drop (fs.length - 1)).length = 1 := by rw [List.length_drop]; omega
    have e2 : (bs.drop (fs.length - 1)).getLast? = some root := by
      rw [List.getLast?_drop, if_neg (by omega)]; exact hr
    match bs.drop (fs.length - 1), e1, e2 with
    | [x], _, e2 => cases e2; rfl
  rw [hlast] at h1
  unfold rootDone
  generalize popN (fs.length - 1) fs = s at *
  cases h1 with
  | root _ f ks _ _ h hk hn => exact ⟨_, h, by simpa using hk⟩
  | cons _ nb f ks _ _ _ fs2 h hn hk hr2 => exact absurd hr2.pos (by simp)

theorem stepsM_take (l : List TTok) (i : Nat) (t : TTok) (h : l[i]? = some t) : stepsM (l.take (i + 1)) = stepM (stepsM (l.take i)) t := by
  unfold stepsM
  rw [List.take_add_one, h, List.foldl_append]; rfl
theorem stepsM_all (l : List TTok) : stepsM (l.take l.length) = stepsM l := by rw [List.take_length]
theorem stepM_mono (b : BSt) (t : TTok) : b.count ≤ (stepM b t).count := (stepM_count b t).2
theorem stepsM_mono (l : List TTok) (i : Nat) : (stepsM (l.take i)).count ≤ (stepsM l).count := by
  have e : stepsM l = (l.drop i).foldl stepM (stepsM (l.take i)) := by
    unfold stepsM
    rw [← List.foldl_append, List.take_append_drop]
  rw [e]
  exact (steps_count _ _).2

theorem wordsL_one (t : TNode) : wordsL [t] = wordsN t := by rw [wordsL, wordsL, List.append_nil]
theorem wordsL_addText_len (l : List TNode) (s : Bytes) : (wordsL (addText l s)).length ≤ (wordsL l).length + s.length := by
  rcases List.eq_nil_or_concat l with rfl | ⟨d, x, rfl⟩
  · show (wordsL [tText s]).length ≤ _
    rw [wordsL_one, tText, wordsN, wordsL, List.append_nil]; simp
  · rw [List.concat_eq_append]
    obtain ⟨n, a, t, ps⟩ := x
    unfold addText
    rw [List.getLast?_append]
    cases n with
    | nil =>
      show (wordsL ((d ++ [TNode.mk [] a t ps]).dropLast ++ [TNode.mk [] a (t ++ s) ps])).length ≤ _
      rw [List.dropLast_concat, wordsL_append, wordsL_append, wordsL_one, wordsL_one, wordsN, wordsN]
      simp only [List.length_append]; omega
    | cons y n =>
      show (wordsL ((d ++ [TNode.mk (y :: n) a t ps]) ++ [tText s])).length ≤ _
      rw [wordsL_append, wordsL_one, tText, wordsN, wordsL]
      simp only [List.length_append, List.length_nil]; omega
theorem wordsS_len_step (b : BSt) (t : TTok) : (wordsS (stepM b t).stack).length ≤ (wordsS b.stack).length + t.text.length := by
  unfold stepM
  split
  · have h1 : wordsS (startB (startA b t) t) = wordsS b.stack := by
      unfold startB
      have h2 : wordsS (startA b t) = wordsS b.stack := by
        unfold startA
        split
        · exact wordsS_close _ _
        · rfl
      split
      · exact (wordsS_close _ _).trans h2
      · exact h2
    unfold startM startC
    split
    · show (wordsS (startB (startA b t) t)).length ≤ _
      rw [h1]; omega
    · split
      · show (wordsS (addTop _ _)).length ≤ _
        rw [addTop_words, h1]; omega
      · show (wordsS (startB (startA b t) t) ++ wordsL []).length ≤ _
        rw [h1, wordsL, List.append_nil]; omega
  · split
    · show (wordsS (closeM _ _)).length ≤ _
      rw [wordsS_close]; omega
    · split
      · unfold charsM
        split
        · omega
        · split
          · omega
          · rename_i f r hh
            rw [hh]
            show (wordsS r ++ wordsL (addText f.done t.text)).length ≤ (wordsS r ++ wordsL f.done).length + _
            have := wordsL_addText_len f.done t.text
            simp only [List.length_append]; omega
      · omega
def textSum (l : List TTok) : Nat := (l.map fun t => t.text.length).sum
theorem wordsS_len (l : List TTok) : ∀ b : BSt, (wordsS (l.foldl stepM b).stack).length ≤ (wordsS b.stack).length + textSum l := by
  induction l with
  | nil => intro b; simp [textSum]
  | cons t l ih =>
    intro b
    have h1 := ih (stepM b t)
    have h2 := wordsS_len_step b t
    have e : textSum (t :: l) = t.text.length + textSum l := rfl
    rw [List.foldl_cons, e]; omega
theorem textSum_take (l : List TTok) (i : Nat) : textSum (l.take i) ≤ textSum l := by
  have e : textSum l = textSum (l.take i) + textSum (l.drop i) := by
    unfold textSum
    rw [← List.sum_append, ← List.map_append, List.take_append_drop]
  omega
theorem wordsS_steps (l : List TTok) (i : Nat) : (wordsS (stepsM (l.take i)).stack).length ≤ textSum l := by
  have h1 := wordsS_len (l.take i) initM
  have h2 := textSum_take l i
  have h3 : (wordsS initM.stack).length = 0 := rfl
  unfold stepsM
  omega

/-- Tokens that the builder takes. -/
structure BuildOk (l : List TTok) : Prop where
  of ::
  len : l.length ≤ 300
  kinds : ∀ t ∈ l, t.kind = 1 ∨ t.kind = 2 ∨ t.kind = 3 ∨ t.kind = 4
  names : ∀ t ∈ l, t.kind = 1 → t.name ≠ []
  count : (stepsM l).count ≤ 150
  attrs : ∀ t ∈ l, t.attrs.length ≤ 1000000
  texts : textSum l ≤ 100000

end Go.Proofs.YtemomhanchiipaaDoor
