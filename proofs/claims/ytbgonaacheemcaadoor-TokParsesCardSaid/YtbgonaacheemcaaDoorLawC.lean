/- Plain laws of the tokenizer's model: tokens are no longer than their text. -/
import Derived.Test.YtbgonaacheemcaaDoorLawB
namespace Go.Proofs.YtbgonaacheemcaaDoor

theorem encodeRune_le (x : Int) : (Lib.encodeRune x).length ≤ 4 := by
  have := (Lib.encodeRuneZ_length x).2
  unfold Lib.encodeRune
  rw [List.length_map]; exact this
theorem encodeRune_two (x : Int) (h0 : 0 ≤ x) (h : x ≤ 2047) : (Lib.encodeRune x).length ≤ 2 := by
  unfold Lib.encodeRune
  rw [List.length_map]
  by_cases h1 : x ≤ 127
  · rw [Lib.encodeRuneZ_one h0 h1]; simp
  · rw [Lib.encodeRuneZ_two (by omega) h]; simp

theorem numberedM_ne (d : Bytes) (b m : Nat) (x : Int) (h : numberedM d b m = some x) : 1 ≤ d.length := by
  unfold numberedM at h
  split at h
  · cases h
  · rename_i hn
    cases d with
    | nil => exact absurd (.inl rfl) hn
    | cons => simp
theorem namedM_le (s : Bytes) (x : Int) (h : namedM s = some x) : 2 ≤ s.length ∧ 0 ≤ x ∧ x ≤ 2047 := by
  unfold namedM at h
  repeat' (split at h)
  all_goals first | (cases h; subst_vars; decide) | cases h
theorem letterM_le (s : Bytes) (x : Int) (h : letterM s = some x) : (Lib.encodeRune x).length ≤ s.length + 2 := by
  have h4 := encodeRune_le x
  unfold letterM at h
  split at h
  · split at h
    · have := numberedM_ne _ _ _ _ h; simp at this
    · split at h
      · have := numberedM_ne _ _ _ _ h
        simp; omega
      · simp; omega
  · obtain ⟨h1, h2, h3⟩ := namedM_le _ _ h
    have := encodeRune_two x h2 h3
    omega

theorem unescN_le : ∀ (n : Nat) (l : Bytes), (unescN n l).length ≤ l.length := by
  intro n
  induction n with
  | zero => intro l; simp [unescN]
  | succ n ih =>
    intro l
    cases l with
    | nil => simp [unescN]
    | cons c r =>
      unfold unescN
      split
      · rename_i h
        split
        · rename_i x hx
          have h1 := letterM_le _ _ hx
          have h2 := ih (r.drop ((brk [59] r).length + 1))
          rw [List.length_drop] at h2
          rw [List.length_append]
          simp; omega
        · have := ih r
          simp; exact this
      · have := ih r
        simp; exact this
theorem unesc_le (l : Bytes) : (unesc l).length ≤ l.length := unescN_le _ l

def abulk (a : TAttr) : Nat := a.name.length + a.value.length
def asum (l : List TAttr) : Nat := (l.map abulk).sum
def bulk (t : TTok) : Nat := t.name.length + t.text.length + asum t.attrs
def tsum (l : List TTok) : Nat := (l.map bulk).sum
theorem asum_append (a b : List TAttr) : asum (a ++ b) = asum a + asum b := by unfold asum; rw [List.map_append, List.sum_append]
theorem tsum_append (a b : List TTok) : tsum (a ++ b) = tsum a + tsum b := by unfold tsum; rw [List.map_append, List.sum_append]
theorem tsum_cons (a : TTok) (b : List TTok) : tsum (a :: b) = bulk a + tsum b := by unfold tsum; rw [List.map_cons, List.sum_cons]
theorem asum_mem (l : List TAttr) (a : TAttr) (h : a ∈ l) : abulk a ≤ asum l := by
  induction l with
  | nil => cases h
  | cons b l ih =>
    unfold asum at *
    rw [List.map_cons, List.sum_cons]
    rcases List.mem_cons.1 h with rfl | h
    · omega
    · have := ih h; omega
theorem tsum_mem (l : List TTok) (a : TTok) (h : a ∈ l) : bulk a ≤ tsum l := by
  induction l with
  | nil => cases h
  | cons b l ih =>
    unfold tsum at *
    rw [List.map_cons, List.sum_cons]
    rcases List.mem_cons.1 h with rfl | h
    · omega
    · have := ih h; omega
theorem small_len (l : Bytes) : (small l).length = l.length := List.length_map _
theorem skp_len (c l : Bytes) : (skp c l).length ≤ l.length := skp_le c l

theorem valueM_bulk (r : Bytes) : (valueM r).1.length + (valueM r).2.2.length ≤ r.length := by
  unfold valueM
  have h1 := skp_le spaces r
  generalize skp spaces r = s at *
  cases s with
  | nil => simp [valueT, unesc, unescN]
  | cons q r2 =>
    unfold valueT
    simp only
    split
    · have h2 := brk_len [q] r2
      have h3 := unesc_le (brk [q] r2)
      split
      · simp
      · rename_i x r3 he
        rw [he] at h2
        simp at h1 h2 ⊢; omega
    · have h2 := brk_len (spaces ++ [62]) (q :: r2)
      have h3 := unesc_le (brk (spaces ++ [62]) (q :: r2))
      dsimp only
      omega
theorem attrM_bulk (c : UInt8) (r1 : Bytes) : abulk (attrM (c :: r1)).1 + (attrM (c :: r1)).2.2.length ≤ r1.length + 1 ∧ 1 ≤ (attrM (c :: r1)).1.name.length := by
  unfold attrM
  simp only
  have h1 := brk_len attrEnd r1
  have h2 := skp_le spaces (brkR attrEnd r1)
  split
  · refine ⟨?_, by simp [small_len]⟩
    simp [abulk, small_len]; omega
  · rename_i e r4 he
    rw [he] at h2
    split
    · have h3 := valueM_bulk r4
      refine ⟨?_, by simp [small_len]⟩
      simp [abulk, small_len] at h2 ⊢; omega
    · refine ⟨?_, by simp [small_len]⟩
      simp [abulk, small_len]; omega

def attrsOk (l : List TAttr) : Prop := ∀ a ∈ l, 1 ≤ a.name.length ∧ nameSmall a.name
theorem attrM_small (c : UInt8) (r1 : Bytes) : nameSmall (attrM (c :: r1)).1.name := by
  unfold attrM
  simp only
  split
  · exact nameSmall_small _
  · split <;> exact nameSmall_small _

theorem tagLoop_bulk : ∀ (n : Nat) (r : Bytes) (l l' : List TAttr) (s : Bool) (r2 : Bytes), tagLoop n r l = some (l', s, r2) → attrsOk l →
    asum l' + r2.length + 1 ≤ asum l + r.length ∧ attrsOk l' := by
  intro n
  induction n with
  | zero => intro r l l' s r2 h; cases h
  | succ n ih =>
    intro r l l' s r2 h hl
    unfold tagLoop at h
    have h1 := skp_le tagGap r
    split at h
    · cases h
    · rename_i c r3 he
      rw [he] at h1
      split at h
      · cases h
        refine ⟨?_, hl⟩
        simp at h1; omega
      · split at h
        · have h2 := attrM_bulk c r3
          have h3 : asum (addAttr l (attrM (c :: r3)).1) ≤ asum l + abulk (attrM (c :: r3)).1 ∧ attrsOk (addAttr l (attrM (c :: r3)).1) := by
            unfold addAttr
            split
            · exact ⟨by omega, hl⟩
            · rw [asum_append]
              refine ⟨by simp [asum], fun a ha => ?_⟩
              rcases List.mem_append.1 ha with ha | ha
              · exact hl a ha
              · cases List.mem_singleton.1 ha
                exact ⟨h2.2, attrM_small c r3⟩
          obtain ⟨h4, h5⟩ := ih _ _ _ _ _ h h3.2
          simp at h1
          exact ⟨by omega, h5⟩
        · cases h

theorem tagM_bulk (kind : Int) (r : Bytes) (t : TTok) (r2 : Bytes) (h : tagM kind r = some (t, r2)) : bulk t + r2.length + 1 ≤ r.length ∧ attrsOk t.attrs := by
  unfold tagM at h
  have hb := brk_len nameEnd r
  generalize hl : tagLoop (r.length + 1) (brkR nameEnd r) [] = o at h
  unfold tagOf at h
  cases o with
  | none => cases h
  | some x =>
    obtain ⟨l, s, r3⟩ := x
    obtain ⟨h1, h2⟩ := tagLoop_bulk _ _ _ _ _ _ hl (fun a ha => by cases ha)
    simp only [Option.some.injEq, Prod.mk.injEq] at h
    obtain ⟨h3, rfl⟩ := h
    have e0 : asum [] = 0 := rfl
    rw [e0] at h1
    split at h3 <;> subst h3
    · refine ⟨?_, fun a ha => by cases ha⟩
      simp [bulk, small_len, e0]; omega
    · refine ⟨?_, h2⟩
      simp [bulk, small_len]; omega

theorem upToM_bulk (e : Bytes) (l : Bytes) : (upToM e l).1.length + (upToM e l).2.length ≤ l.length := by
  induction l with
  | nil => simp [upToM]
  | cons c r ih =>
    unfold upToM
    split
    · simp [List.length_drop]
    · simp; omega

theorem bulk_comment (t : Bytes) : bulk (comment t) = t.length := by simp [bulk, comment, asum]
theorem bulk_chars (t : Bytes) : bulk (chars t) = t.length := by simp [bulk, chars, asum]

theorem rawText_le (n t : Bytes) : (rawText n t).length ≤ t.length := by
  unfold rawText
  split
  · exact unesc_le t
  · omega
theorem rawToks_bulk (n t : Bytes) : tsum (rawToks n t) ≤ t.length := by
  unfold rawToks
  split
  · simp [tsum]
  · rw [tsum_cons, bulk_chars]
    have := rawText_le n t
    simp [tsum]; exact this

def toksOk (l : List TTok) : Prop := ∀ t ∈ l, attrsOk t.attrs
theorem toksOk_one (t : TTok) (h : attrsOk t.attrs) : toksOk [t] := fun x hx => by cases List.mem_singleton.1 hx; exact h
theorem toksOk_append {a b : List TTok} (h : toksOk a) (k : toksOk b) : toksOk (a ++ b) := fun t ht => (List.mem_append.1 ht).elim (h t) (k t)
theorem attrsOk_nil : attrsOk [] := fun a ha => by cases ha
theorem toksOk_nil : toksOk [] := fun a ha => by cases ha

theorem markupM_bulk (X : Bytes) (ts : List TTok) (r2 : Bytes) (h : markupM X = some (ts, r2)) : tsum ts + r2.length ≤ X.length ∧ toksOk ts := by
  unfold markupM at h
  split at h
  · rename_i r
    cases h
    have := upToM_bulk [45, 45, 62] r
    refine ⟨?_, toksOk_one _ attrsOk_nil⟩
    rw [tsum_cons, bulk_comment]; simp [tsum]; omega
  · rename_i r _
    cases h
    have := upToM_bulk [62] r
    refine ⟨?_, toksOk_one _ attrsOk_nil⟩
    rw [tsum_cons, bulk_comment]; simp [tsum]; omega
  · rename_i r
    cases h
    have := upToM_bulk [62] (63 :: r)
    refine ⟨?_, toksOk_one _ attrsOk_nil⟩
    rw [tsum_cons, bulk_comment]; simp [tsum] at this ⊢; omega
  · rename_i c r
    split at h
    · cases ht : tagM 2 (c :: r) with
      | none => rw [ht] at h; cases h
      | some x =>
        obtain ⟨t, r3⟩ := x
        rw [ht] at h
        cases h
        obtain ⟨h1, h2⟩ := tagM_bulk _ _ _ _ ht
        refine ⟨?_, toksOk_one _ h2⟩
        rw [tsum_cons]; simp [tsum] at h1 ⊢; omega
    · cases h
      have := upToM_bulk [62] (c :: r)
      refine ⟨?_, toksOk_one _ attrsOk_nil⟩
      rw [tsum_cons, bulk_comment]; simp [tsum] at this ⊢; omega
  · rename_i r _ _ _ _
    cases ht : tagM 1 r with
    | none => rw [ht] at h; cases h
    | some x =>
      obtain ⟨t, r3⟩ := x
      rw [ht] at h
      obtain ⟨h1, h2⟩ := tagM_bulk _ _ _ _ ht
      simp only [Option.map_some] at h
      split at h
      · have g1 := (rawM_le t.name r3).1
        have g2 := rawToks_bulk t.name (rawM t.name r3).1
        cases h
        refine ⟨?_, fun x hx => ?_⟩
        · rw [tsum_cons]; simp; omega
        · rcases List.mem_cons.1 hx with rfl | hx
          · exact h2
          · unfold rawToks at hx
            split at hx
            · cases hx
            · cases List.mem_singleton.1 hx; exact attrsOk_nil
      · cases h
        refine ⟨?_, toksOk_one _ h2⟩
        rw [tsum_cons]; simp [tsum]; omega
  · cases h

theorem allN_bulk : ∀ (n : Nat) (l : Bytes), tsum (allN n l) ≤ l.length ∧ toksOk (allN n l) := by
  intro n
  induction n with
  | zero => intro l; exact ⟨by simp [allN, tsum], toksOk_nil⟩
  | succ n ih =>
    intro l
    cases l with
    | nil => exact ⟨by simp [allN, tsum], toksOk_nil⟩
    | cons c r =>
      have h1 := (textM_ok (c :: r)).1
      have hshow : allN (n + 1) (c :: r) = textToks (textM (c :: r)).1 ++ (if (textM (c :: r)).2 = [] then [] else match markupM (textM (c :: r)).2 with
          | none => []
          | some (l, r2) => l ++ allN n r2) := rfl
      rw [hshow, tsum_append]
      have h2 : tsum (textToks (textM (c :: r)).1) ≤ (textM (c :: r)).1.length ∧ toksOk (textToks (textM (c :: r)).1) := by
        unfold textToks
        split
        · exact ⟨by simp [tsum], toksOk_nil⟩
        · refine ⟨?_, toksOk_one _ attrsOk_nil⟩
          rw [tsum_cons, bulk_chars]
          have := unesc_le (textM (c :: r)).1
          simp [tsum]; exact this
      have h3 : tsum (if (textM (c :: r)).2 = [] then [] else match markupM (textM (c :: r)).2 with
          | none => []
          | some (l, r2) => l ++ allN n r2) ≤ (textM (c :: r)).2.length ∧ toksOk (if (textM (c :: r)).2 = [] then [] else match markupM (textM (c :: r)).2 with
          | none => []
          | some (l, r2) => l ++ allN n r2) := by
        split
        · exact ⟨by simp [tsum], toksOk_nil⟩
        · cases hm : markupM (textM (c :: r)).2 with
          | none => exact ⟨by simp [tsum], toksOk_nil⟩
          | some x =>
            obtain ⟨ts, r2⟩ := x
            obtain ⟨g1, g2⟩ := markupM_bulk _ _ _ hm
            obtain ⟨g3, g4⟩ := ih r2
            refine ⟨?_, toksOk_append g2 g4⟩
            show tsum (ts ++ allN n r2) ≤ _
            rw [tsum_append]; omega
      exact ⟨by omega, toksOk_append h2.2 h3.2⟩

/-- Tokens are no longer than their text; attributes' names are small and not empty. -/
theorem allM_bulk (l : Bytes) : tsum (allM l) ≤ l.length ∧ toksOk (allM l) := allN_bulk _ l

theorem attrs_len {l : List TAttr} (h : attrsOk l) : l.length ≤ asum l := by
  induction l with
  | nil => simp
  | cons a l ih =>
    have h1 := (h a (by simp)).1
    have h2 := ih (fun x hx => h x (by simp [hx]))
    have e : asum (a :: l) = abulk a + asum l := rfl
    rw [e]
    simp [abulk]; omega

/-- What a token of a text is bounded by. -/
structure TokLe (m : Nat) (t : TTok) : Prop where
  name : t.name.length ≤ m
  text : t.text.length ≤ m
  count : t.attrs.length ≤ m
  attrs : ∀ a ∈ t.attrs, a.name.length ≤ m ∧ a.value.length ≤ m
theorem allM_le (l : Bytes) (t : TTok) (h : t ∈ allM l) : TokLe l.length t := by
  obtain ⟨h1, h2⟩ := allM_bulk l
  have h3 := tsum_mem _ _ h
  have h4 := attrs_len (h2 t h)
  have h5 : bulk t = t.name.length + t.text.length + asum t.attrs := rfl
  refine ⟨by omega, by omega, by omega, fun a ha => ?_⟩
  have h6 := asum_mem _ _ ha
  have h7 : abulk a = a.name.length + a.value.length := rfl
  exact ⟨by omega, by omega⟩

end Go.Proofs.YtbgonaacheemcaaDoor
