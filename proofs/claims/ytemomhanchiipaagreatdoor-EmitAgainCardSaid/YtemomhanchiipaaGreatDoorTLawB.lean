/- Plain laws of the builder's model: TreeText, TreeClosed, TreeDeep. -/
import Derived.Test.YtemomhanchiipaaGreatDoorTLawA
namespace Go.Proofs.YtemomhanchiipaaGreatDoor

theorem stepM_count (b : BSt) (t : TTok) : (stepM b t).count ≤ b.count + 1 ∧ b.count ≤ (stepM b t).count := by
  unfold stepM
  split
  · unfold startM startC
    split
    · simp
    · split <;> simp
  · split
    · unfold endM; simp
    · split
      · unfold charsM
        split
        · simp
        · split
          · simp
          · simp only
            split <;> simp
      · simp
theorem steps_count (l : List TTok) : ∀ b : BSt, (l.foldl stepM b).count ≤ b.count + l.length ∧ b.count ≤ (l.foldl stepM b).count := by
  induction l with
  | nil => intro b; simp
  | cons t l ih =>
    intro b
    have h1 := stepM_count b t
    have h2 := ih (stepM b t)
    simp only [List.foldl_cons, List.length_cons]
    omega

/- Texts. -/
def wordsS : List Fr → Bytes
  | [] => []
  | f :: r => wordsS r ++ wordsL f.done
theorem wordsS_pop (l : List Fr) : wordsS (popM l) = wordsS l := by
  match l with
  | [] => rfl
  | [_] => rfl
  | f :: g :: r =>
    show wordsS r ++ wordsL (g.done ++ [tElem f.name f.attrs f.done]) = (wordsS r ++ wordsL g.done) ++ wordsL f.done
    rw [wordsL_append]
    have : wordsL [tElem f.name f.attrs f.done] = wordsL f.done := by
      show ([] ++ wordsL f.done) ++ [] = _
      simp
    rw [this, List.append_assoc]
theorem wordsS_popN (n : Nat) : ∀ l, wordsS (popN n l) = wordsS l := by
  induction n with
  | zero => intro l; rfl
  | succ n ih => intro l; show wordsS (popN n (popM l)) = _; rw [ih, wordsS_pop]
theorem wordsS_close (i : Nat) (l : List Fr) : wordsS (closeM i l) = wordsS l := by
  unfold closeM
  split
  · rfl
  · exact wordsS_popN _ _

def nm (l : List Fr) : List Bytes := l.map (·.name)
theorem nm_pop (l : List Fr) : nm (popM l) = if 2 ≤ l.length then (nm l).drop 1 else nm l := by
  match l with
  | [] => rfl
  | [_] => rfl
  | f :: g :: r => simp [popM, nm]
theorem nm_popN : ∀ (n : Nat) (l : List Fr), n + 1 ≤ l.length → nm (popN n l) = (nm l).drop n := by
  intro n
  induction n with
  | zero => intro l _; simp [popN]
  | succ n ih =>
    intro l h
    show nm (popN n (popM l)) = _
    rw [ih _ (by rw [popM_len, if_pos (by omega)]; omega), nm_pop, if_pos (by omega), List.drop_drop]
    congr 1; omega
def findNs (n : Bytes) : List Bytes → Nat
  | [] => 0
  | [_] => 0
  | x :: y :: r => if x = n then (y :: r).length else findNs n (y :: r)
theorem findM_ns (n : Bytes) : ∀ l : List Fr, findM n l = findNs n (nm l)
  | [] => rfl
  | [_] => rfl
  | f :: g :: r => by
    have := findM_ns n (g :: r)
    unfold findM
    show _ = (if f.name = n then (nm (g :: r)).length else findNs n (nm (g :: r)))
    rw [this]
    simp [nm]
theorem findNs_le (n : Bytes) : ∀ l : List Bytes, findNs n l ≤ l.length - 1
  | [] => by simp [findNs]
  | [_] => by simp [findNs]
  | x :: y :: r => by
    have := findNs_le n (y :: r)
    unfold findNs
    split
    · simp
    · simp at this ⊢; omega
def closeNs (i : Nat) (l : List Bytes) : List Bytes := if i = 0 then l else l.drop (l.length - i)
theorem nm_close (i : Nat) (l : List Fr) (h : i ≤ l.length - 1) : nm (closeM i l) = closeNs i (nm l) := by
  unfold closeM closeNs
  split
  · rfl
  · rw [nm_popN _ _ (by omega)]
    simp [nm]
theorem nm_find (n : Bytes) (l : List Fr) : nm (closeM (findM n l) l) = closeNs (findNs n (nm l)) (nm l) := by
  rw [nm_close _ _ (findM_le n l), findM_ns]
theorem closeNs_sub (i : Nat) (l : List Bytes) : ∀ x ∈ closeNs i l, x ∈ l := by
  intro x hx
  unfold closeNs at hx
  split at hx
  · exact hx
  · exact List.mem_of_mem_drop hx
theorem nm_close_sub (n : Bytes) (l : List Fr) : ∀ x ∈ nm (closeM (findM n l) l), x ∈ nm l := by
  rw [nm_find]; exact closeNs_sub _ _
theorem nm_startA (b : BSt) (t : TTok) : ∀ x ∈ nm (startA b t), x ∈ nm b.stack := by
  unfold startA
  split
  · exact nm_close_sub _ _
  · exact fun _ h => h
theorem nm_startB (s : List Fr) (t : TTok) : ∀ x ∈ nm (startB s t), x ∈ nm s := by
  unfold startB
  split
  · exact nm_close_sub _ _
  · exact fun _ h => h

theorem wordsL_addText (l : List TNode) (s : Bytes) (hl : ∀ n a t ps, l.getLast? = some (.mk n a t ps) → n = [] → ps = []) : wordsL (addText l s) = wordsL l ++ s := by
  unfold addText
  split
  · rename_i a t ps h
    have hp := hl _ _ _ _ h rfl
    subst hp
    obtain ⟨l', rfl⟩ : ∃ l', l = l' ++ [TNode.mk [] a t []] := by
      rcases List.eq_nil_or_concat l with rfl | ⟨l', x, rfl⟩
      · simp at h
      · rw [List.concat_eq_append] at *
        rw [List.getLast?_append] at h
        simp at h
        exact ⟨l', by rw [h]⟩
    rw [List.dropLast_concat, wordsL_append, wordsL_append]
    show wordsL l' ++ (((t ++ s) ++ []) ++ []) = wordsL l' ++ ((t ++ []) ++ []) ++ s
    simp
  · rw [wordsL_append]
    show _ ++ ((s ++ []) ++ []) = _
    simp

/-- Texts have no parts. -/
def LastOk (l : List TNode) : Prop := ∀ n a t ps, l.getLast? = some (.mk n a t ps) → n = [] → ps = []
theorem lastOk_elem (l : List TNode) (n : Bytes) (a : List TAttr) (ps : List TNode) (hn : n ≠ [] ∨ ps = []) : LastOk (l ++ [tElem n a ps]) := by
  intro n' a' t' ps' h h0
  rw [List.getLast?_append] at h
  simp [tElem] at h
  obtain ⟨rfl, rfl, rfl, rfl⟩ := h
  rcases hn with h | h
  · exact absurd h0 h
  · exact h
theorem lastOk_text (l : List TNode) (s : Bytes) (h : LastOk l) : LastOk (addText l s) := by
  unfold addText
  split
  · rename_i a t ps he
    have hp := h _ _ _ _ he rfl
    subst hp
    intro n' a' t' ps' h' _
    rw [List.getLast?_append] at h'
    simp at h'
    exact h'.2.2.2
  · intro n' a' t' ps' h' _
    rw [List.getLast?_append] at h'
    simp [tText] at h'
    exact h'.2.2.2

def PLast (l : List Fr) : Prop := match l with
  | [] => True
  | f :: r => LastOk f.done ∧ (r ≠ [] → f.name ≠ []) ∧ (r = [] → f.name = [])
theorem stable_last : Stable PLast := ⟨fun f g r h1 h2 => ⟨lastOk_elem _ _ _ _ (.inl (h1.2.1 (by simp))), h2.2.1, h2.2.2⟩⟩
/-- What one step keeps of a property of frames. -/
theorem frames_step {P : List Fr → Prop} (hP : Stable P) (b : BSt) (t : TTok) (h : Frames P b.stack)
    (hpush : ∀ s, Frames P s → s = startB (startA b t) t → s.length ≤ 10 → t.kind = 1 → P (⟨t.name, t.attrs, []⟩ :: s))
    (hvoid : ∀ f r, Frames P (f :: r) → f :: r = startB (startA b t) t → (f :: r).length ≤ 10 → t.kind = 1 → P ({ f with done := f.done ++ [tElem t.name t.attrs []] } :: r))
    (htext : ∀ f r, Frames P (f :: r) → f :: r = b.stack → t.kind = 3 → t.text ≠ [] → P ({ f with done := addText f.done t.text } :: r)) : Frames P (stepM b t).stack := by
  have hA : Frames P (startA b t) := by
    unfold startA
    split
    · exact h.close hP _
    · exact h
  have hB : Frames P (startB (startA b t) t) := by
    unfold startB
    split
    · exact hA.close hP _
    · exact hA
  have swap : ∀ {f : Fr} {r : List Fr} {f' : Fr}, Frames P (f :: r) → P (f' :: r) → Frames P (f' :: r) := by
    intro f r f' h1 h2
    cases r with
    | nil => exact .root _ h2
    | cons g r => exact .cons _ g r h2 h1.tail
  unfold stepM
  split
  · rename_i hk
    unfold startM startC
    split
    · exact hB
    · rename_i hlen
      split
      · cases hs : startB (startA b t) t with
        | nil => exact absurd hs hB.ne
        | cons f r =>
          rw [hs] at hB hlen
          exact swap hB (hvoid f r hB hs.symm (by omega) hk)
      · cases hs : startB (startA b t) t with
        | nil => exact absurd hs hB.ne
        | cons f r =>
          have := hpush _ hB rfl (by omega) hk
          rw [hs] at this hB
          exact .cons _ f r this hB
  · split
    · exact h.close hP _
    · split
      · rename_i hk
        unfold charsM
        split
        · exact h
        · rename_i hc
          split
          · rename_i hs; exact h
          · rename_i f r hs
            rw [hs] at h
            exact swap h (htext f r h hs.symm hk (fun h0 => hc (.inr (.inr (.inl h0)))))
      · exact h

theorem addTop_words (l : List Fr) (n : Bytes) (a : List TAttr) : wordsS (addTop l (tElem n a [])) = wordsS l := by
  cases l with
  | nil => rfl
  | cons f r =>
    show wordsS r ++ wordsL (f.done ++ [tElem n a []]) = _
    rw [wordsL_append]
    show wordsS r ++ (wordsL f.done ++ ([] ++ [])) = _
    simp; rfl

/-- Tokens without scripts and styles. -/
def Mild (t : TTok) : Prop := t.name ≠ sScript ∧ t.name ≠ sStyle ∧ (t.kind = 1 → t.name ≠ [])
structure TextInv (b : BSt) : Prop where
  mute : b.mute = []
  names : ∀ x ∈ nm b.stack, x ≠ sScript ∧ x ≠ sStyle
  last : Frames PLast b.stack
theorem textInv_init : TextInv initM := ⟨rfl, fun x hx => by cases List.mem_singleton.1 hx; decide, .root _ ⟨fun _ _ _ _ h => (by cases h), fun h => absurd rfl h, fun _ => rfl⟩⟩
theorem last_step (b : BSt) (t : TTok) (h : Frames PLast b.stack) (hn : t.kind = 1 → t.name ≠ []) : Frames PLast (stepM b t).stack := by
  refine frames_step stable_last b t h (fun s hs _ _ hk => ⟨fun _ _ _ _ h => (by cases h), fun _ => hn hk, fun h => absurd h hs.ne⟩) (fun f r hf _ _ hk => ?_) (fun f r hf _ _ _ => ?_)
  · obtain ⟨h1, h2, h3⟩ := hf.head
    exact ⟨lastOk_elem _ _ _ _ (.inl (hn hk)), h2, h3⟩
  · obtain ⟨h1, h2, h3⟩ := hf.head
    exact ⟨lastOk_text _ _ h1, h2, h3⟩
theorem words_step (b : BSt) (t : TTok) (h : TextInv b) (ht : Mild t) : TextInv (stepM b t) ∧ wordsS (stepM b t).stack = wordsS b.stack ++ (if t.kind = 3 then t.text else []) := by
  obtain ⟨hm, hn, hl⟩ := h
  have hl' := last_step b t hl ht.2.2
  have hsub : ∀ x ∈ nm (startB (startA b t) t), x ∈ nm b.stack := fun x hx => nm_startA b t x (nm_startB _ t x hx)
  have hw : wordsS (startB (startA b t) t) = wordsS b.stack := by
    have h1 : wordsS (startA b t) = wordsS b.stack := by unfold startA; split; exact wordsS_close _ _; rfl
    unfold startB
    split
    · rw [wordsS_close, h1]
    · exact h1
  unfold stepM at *
  split
  · rename_i hk
    rw [if_pos hk] at hl'
    have hk3 : ¬ t.kind = 3 := by omega
    rw [if_neg hk3, List.append_nil]
    have hmu : muteOf t = [] := by
      unfold muteOf
      rw [if_neg (fun h => h.2.elim ht.1 ht.2.1)]
    unfold startM startC at *
    split
    · exact ⟨⟨hmu, fun x hx => hn x (hsub x hx), by rename_i h; rw [if_pos h] at hl'; exact hl'⟩, hw⟩
    · rename_i h10
      rw [if_neg h10] at hl'
      split
      · rename_i hv
        rw [if_pos hv] at hl'
        refine ⟨⟨rfl, fun x hx => ?_, hl'⟩, by rw [addTop_words]; exact hw⟩
        have : nm (addTop (startB (startA b t) t) (tElem t.name t.attrs [])) = nm (startB (startA b t) t) := by
          cases startB (startA b t) t <;> rfl
        rw [show (BSt.mk (addTop (startB (startA b t) t) (tElem t.name t.attrs [])) (b.count + 1) []).stack = addTop (startB (startA b t) t) (tElem t.name t.attrs []) from rfl, this] at hx
        exact hn x (hsub x hx)
      · rename_i hv
        rw [if_neg hv] at hl'
        refine ⟨⟨rfl, fun x hx => ?_, hl'⟩, ?_⟩
        · rcases List.mem_cons.1 hx with rfl | hx
          · exact ⟨ht.1, ht.2.1⟩
          · exact hn x (hsub x hx)
        · show wordsS (startB (startA b t) t) ++ [] = _
          rw [List.append_nil]; exact hw
  · rename_i hk1
    rw [if_neg hk1] at hl'
    split
    · rename_i hk
      rw [if_pos hk] at hl'
      have hk3 : ¬ t.kind = 3 := by omega
      rw [if_neg hk3, List.append_nil]
      refine ⟨⟨?_, fun x hx => hn x (nm_close_sub _ _ x hx), hl'⟩, wordsS_close _ _⟩
      show (if t.name = b.mute then [] else b.mute) = []
      split
      · rfl
      · exact hm
    · rename_i hk2
      rw [if_neg hk2] at hl'
      split
      · rename_i hk
        rw [if_pos hk] at hl'
        unfold charsM at *
        by_cases hs : t.text = []
        · rw [if_pos (.inr (.inr (.inl hs)))]
          exact ⟨⟨hm, hn, hl⟩, by rw [hs, List.append_nil]⟩
        · cases hst : b.stack with
          | nil => exact absurd hst hl.ne
          | cons f r =>
            have hnf := hn f.name (by rw [hst]; simp [nm])
            have hno : ¬ (topName (f :: r) = sScript ∨ topName (f :: r) = sStyle ∨ t.text = [] ∨ b.mute ≠ []) := by
              rintro (h | h | h | h)
              · exact hnf.1 h
              · exact hnf.2 h
              · exact hs h
              · exact h hm
            rw [hst, if_neg hno] at hl'
            rw [if_neg hno]
            rw [hst] at hl hn
            refine ⟨⟨hm, fun x hx => hn x hx, hl'⟩, ?_⟩
            show wordsS r ++ wordsL (addText f.done t.text) = (wordsS r ++ wordsL f.done) ++ t.text
            rw [wordsL_addText _ _ hl.head.1, List.append_assoc]
      · exact ⟨⟨hm, hn, hl⟩, by simp⟩

def textsOf (l : List TTok) : Bytes := (l.map fun t => if t.kind = 3 then t.text else []).flatten
/-- What TreeText asks: texts of a tree are those of its tokens. -/
theorem words_law (l : List TTok) (h : ∀ t ∈ l, Mild t) : wordsL (buildM l) = textsOf l := by
  have key : ∀ (l : List TTok) (b : BSt), TextInv b → (∀ t ∈ l, Mild t) → TextInv (l.foldl stepM b) ∧ wordsS (l.foldl stepM b).stack = wordsS b.stack ++ textsOf l := by
    intro l
    induction l with
    | nil => intro b hb _; exact ⟨hb, by simp [textsOf]⟩
    | cons t l ih =>
      intro b hb h
      obtain ⟨h1, h2⟩ := words_step b t hb (h t (by simp))
      obtain ⟨h3, h4⟩ := ih (stepM b t) h1 (fun x hx => h x (by simp [hx]))
      refine ⟨h3, ?_⟩
      rw [List.foldl_cons, h4, h2, List.append_assoc]
      rfl
  obtain ⟨h1, h2⟩ := key l initM textInv_init h
  have h3 : wordsS initM.stack = [] := rfl
  rw [h3, List.nil_append] at h2
  unfold buildM stepsM
  rw [← h2, ← wordsS_popN ((l.foldl stepM initM).stack.length - 1)]
  obtain ⟨f, _, h5⟩ := rootDone_of stable_last h1.last
  have h6 := h1.last.popN stable_last ((l.foldl stepM initM).stack.length - 1)
  rw [h5]
  unfold rootDone at h5
  have hlen : ∀ (n : Nat) (l : List Fr), 1 ≤ l.length → (popN n l).length = max 1 (l.length - n) := by
    intro n
    induction n with
    | zero => intro l h; simp [popN]; omega
    | succ n ih =>
      intro l h
      show (popN n (popM l)).length = _
      have h2 := popM_len l
      rw [ih _ (by rw [h2]; split <;> omega), h2]
      split <;> omega
  have h7 := hlen ((l.foldl stepM initM).stack.length - 1) (l.foldl stepM initM).stack (by cases hs : (l.foldl stepM initM).stack with | nil => exact absurd hs h1.last.ne | cons => simp)
  generalize popN ((l.foldl stepM initM).stack.length - 1) (l.foldl stepM initM).stack = s at *
  match s, h5, h7 with
  | [g], h5, _ =>
    show _ = [] ++ wordsL g.done
    rw [List.nil_append]
    exact congrArg wordsL (Eq.symm h5)
  | [], _, h7 => simp at h7; omega
  | _ :: _ :: _, _, h7 => simp at h7; omega

end Go.Proofs.YtemomhanchiipaaGreatDoor
