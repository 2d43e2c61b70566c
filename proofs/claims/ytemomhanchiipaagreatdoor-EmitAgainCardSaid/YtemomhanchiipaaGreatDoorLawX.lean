/- Plain laws of the tokenizer's model: what comes later changes nothing but the last token. -/
import Derived.Test.YtemomhanchiipaaGreatDoorLawD
namespace Go.Proofs.YtemomhanchiipaaGreatDoor

theorem dropWhile_ext {p : UInt8 → Bool} : ∀ (l q : Bytes), l.dropWhile p ≠ [] → (l ++ q).dropWhile p = l.dropWhile p ++ q ∧ (l ++ q).takeWhile p = l.takeWhile p := by
  intro l q
  induction l with
  | nil => intro h; exact absurd rfl h
  | cons c r ih =>
    intro h
    rw [List.dropWhile_cons] at h
    rw [List.cons_append, List.dropWhile_cons, List.dropWhile_cons, List.takeWhile_cons, List.takeWhile_cons]
    split
    · rename_i hp
      rw [if_pos hp] at h
      obtain ⟨h1, h2⟩ := ih h
      exact ⟨h1, by rw [h2]⟩
    · exact ⟨rfl, rfl⟩
theorem skp_ext (c l q : Bytes) (h : skp c l ≠ []) : skp c (l ++ q) = skp c l ++ q ∧ skd c (l ++ q) = skd c l := dropWhile_ext l q h
theorem brk_ext (c l q : Bytes) (h : brkR c l ≠ []) : brkR c (l ++ q) = brkR c l ++ q ∧ brk c (l ++ q) = brk c l := dropWhile_ext l q h

theorem opensM_cons2 (c0 c : UInt8) (r : Bytes) : opensM (c0 :: c :: r) = (c0 == 60 && (isLet c || c == 33 || c == 63 || (c == 47 && !r.isEmpty))) := by
  by_cases h : c0 = 60
  · subst h; rfl
  · have : (c0 == 60) = false := beq_eq_false_iff_ne.2 h
    rw [this, Bool.false_and]
    exact opensM_head _ _ h
theorem opensM_two (l : Bytes) (h : opensM l = true) : 2 ≤ l.length := by
  match l, h with
  | [], h => cases h
  | [c], h => exfalso; unfold opensM at h; split at h <;> simp_all
  | _ :: _ :: _, _ => simp
theorem opensM_ext (l q : Bytes) (h : opensM l = true) : opensM (l ++ q) = true := by
  match l, h with
  | [], h => cases h
  | [c], h => exfalso; unfold opensM at h; split at h <;> simp_all
  | a :: c :: r, h =>
    rw [List.cons_append, List.cons_append, opensM_cons2]
    rw [opensM_cons2] at h
    cases r with
    | nil => simp at h ⊢; rcases h with ⟨h1, h2⟩; exact ⟨h1, .inl h2⟩
    | cons x y => exact h
theorem opensM_long (l q : Bytes) (h : 3 ≤ l.length) : opensM (l ++ q) = opensM l := by
  match l, h with
  | [], h => simp at h
  | [_], h => simp at h
  | [_, _], h => simp at h
  | a :: c :: x :: r, _ => rw [List.cons_append, List.cons_append, opensM_cons2, opensM_cons2]; rfl

theorem textM_ext (p q : Bytes) (h : (textM p).2 ≠ []) : textM (p ++ q) = ((textM p).1, (textM p).2 ++ q) := by
  induction p with
  | nil => exact absurd rfl h
  | cons c r ih =>
    by_cases ho : opensM (c :: r) = true
    · rw [textM_opens _ ho, textM_opens _ (opensM_ext _ q ho)]
    · have e : textM (c :: r) = (c :: (textM r).1, (textM r).2) := by
        show (if opensM (c :: r) then _ else _) = _
        rw [if_neg ho]
      rw [e] at h ⊢
      obtain ⟨h1, h2⟩ := textM_ok r
      have h3 := opensM_two _ (h2.resolve_left h)
      have ho2 : opensM (c :: r ++ q) = false := by
        rw [opensM_long _ _ (by simp; omega)]
        simpa using ho
      show (if opensM (c :: r ++ q) then _ else (c :: (textM (r ++ q)).1, (textM (r ++ q)).2)) = _
      rw [ho2, ih h]
      rfl

theorem valueM_ext (r q : Bytes) (hok : (valueM r).2.1 = true) (h : (valueM r).2.2 ≠ []) : valueM (r ++ q) = ((valueM r).1, true, (valueM r).2.2 ++ q) := by
  unfold valueM at *
  by_cases hs : skp spaces r = []
  · rw [hs] at h; exact absurd rfl h
  · rw [(skp_ext spaces r q hs).1]
    generalize skp spaces r = s at *
    cases s with
    | nil => exact absurd rfl hs
    | cons x r2 =>
      rw [List.cons_append]
      unfold valueT at *
      simp only at *
      split
      · rename_i hx
        rw [if_pos hx] at hok h
        cases hb : brkR [x] r2 with
        | nil => rw [hb] at hok; cases hok
        | cons y r3 =>
          have hne : brkR [x] r2 ≠ [] := by rw [hb]; simp
          obtain ⟨k1, k2⟩ := brk_ext [x] r2 q hne
          rw [k1, k2, hb]
          rfl
      · rename_i hx
        rw [if_neg hx] at h
        obtain ⟨k1, k2⟩ := brk_ext (spaces ++ [62]) (x :: r2) q h
        rw [List.cons_append] at k1 k2
        rw [k1, k2]

theorem dropWhile_mono {p q : UInt8 → Bool} (h : ∀ x, p x = true → q x = true) : ∀ l : Bytes, l.dropWhile p = [] → l.dropWhile q = [] := by
  intro l
  induction l with
  | nil => intro _; rfl
  | cons c r ih =>
    intro hd
    rw [List.dropWhile_cons] at hd ⊢
    split at hd
    · rename_i hp
      rw [if_pos (h c hp)]
      exact ih hd
    · cases hd
theorem skp_sub (B : Bytes) (h : skp spaces B = []) : skp tagGap B = [] := by
  refine dropWhile_mono (fun x hx => ?_) B h
  simp only [tagGap, List.contains_eq_mem, decide_eq_true_eq, List.mem_append] at *
  exact .inl hx

theorem attrM_ext (c : UInt8) (r1 q : Bytes) (hok : (attrM (c :: r1)).2.1 = true) (h : skp tagGap (attrM (c :: r1)).2.2 ≠ []) :
    attrM (c :: (r1 ++ q)) = ((attrM (c :: r1)).1, true, (attrM (c :: r1)).2.2 ++ q) := by
  unfold attrM at *
  simp only at *
  by_cases hB : brkR attrEnd r1 = []
  · exfalso
    rw [hB] at h
    exact h rfl
  · obtain ⟨k1, k2⟩ := brk_ext attrEnd r1 q hB
    rw [k1, k2]
    by_cases hs : skp spaces (brkR attrEnd r1) = []
    · exfalso
      rw [hs] at h
      exact h (skp_sub _ hs)
    · rw [(skp_ext spaces _ q hs).1]
      cases he : skp spaces (brkR attrEnd r1) with
      | nil => exact absurd he hs
      | cons e r4 =>
        rw [he] at hok h
        rw [List.cons_append]
        simp only at hok h ⊢
        split
        · rename_i h61
          rw [if_pos h61] at hok h
          simp only at hok h
          have hne : (valueM r4).2.2 ≠ [] := by intro h0; rw [h0] at h; exact h rfl
          rw [valueM_ext r4 q hok hne]
        · rfl

theorem tagLoop_ext (q : Bytes) : ∀ (n : Nat) (r : Bytes) (l l' : List TAttr) (s : Bool) (r2 : Bytes), tagLoop n r l = some (l', s, r2) → ∀ m, n ≤ m → tagLoop m (r ++ q) l = some (l', s, r2 ++ q) := by
  intro n
  induction n with
  | zero => intro r l l' s r2 h; cases h
  | succ n ih =>
    intro r l l' s r2 h m hm
    obtain ⟨m, rfl⟩ : ∃ j, m = j + 1 := ⟨m - 1, by omega⟩
    unfold tagLoop at h ⊢
    cases hs : skp tagGap r with
    | nil => rw [hs] at h; cases h
    | cons c r3 =>
      have hne : skp tagGap r ≠ [] := by rw [hs]; simp
      obtain ⟨k1, k2⟩ := skp_ext tagGap r q hne
      rw [k1, k2, hs]
      rw [hs] at h
      simp only [List.cons_append] at h ⊢
      split at h
      · rename_i h62
        rw [if_pos h62]
        cases h
        rfl
      · rename_i h62
        rw [if_neg h62]
        split at h
        · rename_i hok
          have hg : skp tagGap (attrM (c :: r3)).2.2 ≠ [] := by
            intro h0
            cases n with
            | zero => cases h
            | succ n => unfold tagLoop at h; rw [h0] at h; cases h
          rw [attrM_ext c r3 q hok hg]
          simp only [if_true]
          exact ih _ _ _ _ _ h m (by omega)
        · cases h

theorem tagM_ext (kind : Int) (r q : Bytes) (t : TTok) (r2 : Bytes) (h : tagM kind r = some (t, r2)) : tagM kind (r ++ q) = some (t, r2 ++ q) := by
  unfold tagM at *
  by_cases hB : brkR nameEnd r = []
  · rw [hB] at h
    cases hl : r.length + 1 with
    | zero => omega
    | succ n => rw [hl] at h; cases h
  · obtain ⟨k1, k2⟩ := brk_ext nameEnd r q hB
    rw [k1, k2]
    cases hl : tagLoop (r.length + 1) (brkR nameEnd r) [] with
    | none => rw [hl] at h; cases h
    | some x =>
      obtain ⟨l, s, r3⟩ := x
      rw [tagLoop_ext q _ _ _ _ _ _ hl ((r ++ q).length + 1) (by simp)]
      rw [hl] at h
      unfold tagOf at *
      simp only [Option.some.injEq, Prod.mk.injEq] at h ⊢
      exact ⟨h.1, by rw [h.2]⟩

theorem upToM_ext (e l q : Bytes) (h : (upToM e l).2 ≠ []) : upToM e (l ++ q) = ((upToM e l).1, (upToM e l).2 ++ q) := by
  induction l with
  | nil => exact absurd rfl h
  | cons c r ih =>
    by_cases hp : e.isPrefixOf (c :: r) = true
    · have hp2 := List.isPrefixOf_iff_prefix.1 hp
      have hp3 : e.isPrefixOf (c :: r ++ q) = true := List.isPrefixOf_iff_prefix.2 (List.IsPrefix.trans hp2 (List.prefix_append _ _))
      have e1 : upToM e (c :: r) = ([], (c :: r).drop e.length) := by unfold upToM; rw [if_pos hp]
      have e2 : upToM e (c :: r ++ q) = ([], (c :: r ++ q).drop e.length) := by
        show (if e.isPrefixOf (c :: r ++ q) then _ else _) = _
        rw [if_pos hp3]; rfl
      rw [e1, e2, List.drop_append_of_le_length hp2.length_le]
    · have e1 : upToM e (c :: r) = (c :: (upToM e r).1, (upToM e r).2) := by
        show (if e.isPrefixOf (c :: r) then _ else _) = _
        rw [if_neg hp]
      rw [e1] at h ⊢
      have hlen := (upToM_le e r).resolve_left h
      have hp3 : ¬ e.isPrefixOf (c :: r ++ q) = true := by
        intro hq
        apply hp
        rw [List.isPrefixOf_iff_prefix] at hq ⊢
        exact List.prefix_of_prefix_length_le hq (List.prefix_append _ _) (by simp; omega)
      show (if e.isPrefixOf (c :: (r ++ q)) then _ else (c :: (upToM e (r ++ q)).1, (upToM e (r ++ q)).2)) = _
      rw [show (c :: (r ++ q)) = c :: r ++ q from rfl, if_neg hp3, ih h]

theorem rawStop_ext (n S q : Bytes) (h : n.length + 3 ≤ S.length) : rawStop n (S ++ q) = rawStop n S := by
  match S, h with
  | [], h => simp at h
  | [_], h => simp at h
  | a :: b :: r, h =>
    by_cases hab : a = 60 ∧ b = 47
    · obtain ⟨rfl, rfl⟩ := hab
      show (small ((r ++ q).take n.length) == n && hd nameEnd ((r ++ q).drop n.length)) = (small (r.take n.length) == n && hd nameEnd (r.drop n.length))
      have hr : n.length + 1 ≤ r.length := by simp at h; omega
      rw [List.take_append_of_le_length (by omega), List.drop_append_of_le_length (by omega)]
      cases hd1 : r.drop n.length with
      | nil => have := congrArg List.length hd1; simp at this; omega
      | cons x y => rfl
    · have f : ∀ r', rawStop n (a :: b :: r') = false := by
        intro r'
        unfold rawStop
        split
        · rename_i he
          injection he with h1 h2
          injection h2 with h2 _
          exact absurd ⟨h1, h2⟩ hab
        · rfl
      rw [List.cons_append, List.cons_append, f, f]
theorem rawStop_len (n S : Bytes) (h : rawStop n S = true) : n.length + 3 ≤ S.length := by
  unfold rawStop at h
  split at h
  · rename_i r
    simp only [Bool.and_eq_true] at h
    have h2 := h.2
    cases hd1 : r.drop n.length with
    | nil => rw [hd1] at h2; cases h2
    | cons x y =>
      have := congrArg List.length hd1
      simp at this ⊢; omega
  · cases h
theorem rawM_ext (n l q : Bytes) (h : (rawM n l).2 ≠ []) : rawM n (l ++ q) = ((rawM n l).1, (rawM n l).2 ++ q) := by
  induction l with
  | nil => exact absurd rfl h
  | cons c r ih =>
    by_cases hs : rawStop n (c :: r) = true
    · have e1 : rawM n (c :: r) = ([], c :: r) := by unfold rawM; rw [if_pos hs]
      have hs2 : rawStop n (c :: r ++ q) = true := by rw [rawStop_ext n _ q (rawStop_len n _ hs)]; exact hs
      rw [e1]
      show (if rawStop n (c :: r ++ q) then _ else _) = _
      rw [if_pos hs2]
      rfl
    · have e1 : rawM n (c :: r) = (c :: (rawM n r).1, (rawM n r).2) := by
        show (if rawStop n (c :: r) then _ else _) = _
        rw [if_neg hs]
      rw [e1] at h ⊢
      obtain ⟨g1, g2⟩ := rawM_le n r
      have hl := rawStop_len n _ (g2.resolve_left h)
      have hs2 : ¬ rawStop n (c :: r ++ q) = true := by rw [rawStop_ext n _ q (by simp; omega)]; exact hs
      show (if rawStop n (c :: r ++ q) then _ else (c :: (rawM n (r ++ q)).1, (rawM n (r ++ q)).2)) = _
      rw [if_neg hs2, ih h]

theorem markupM_bang2 (r : Bytes) (h : ∀ r', r ≠ 45 :: 45 :: r') : markupM (60 :: 33 :: r) = some ([comment (upToM [62] r).1], (upToM [62] r).2) := by
  unfold markupM
  split
  · rename_i he
    injection he with _ he
    injection he with _ he
    exact absurd he (h _)
  · rename_i r' _ he
    injection he with _ he
    injection he with _ he
    subst he
    rfl
  · rename_i he; injection he with _ he; injection he with he _; exact absurd he (by decide)
  · rename_i he; injection he with _ he; injection he with he _; exact absurd he (by decide)
  · rename_i r' n1 n2 n3 n4 he
    injection he with _ he
    exact absurd he.symm (n2 r)
  · rename_i n; exact absurd rfl (n (33 :: r))

theorem markupM_tag2 (c : UInt8) (r : Bytes) (h : isLet c = true) : markupM (60 :: c :: r) = (tagM 1 (c :: r)).map fun x => if isRaw x.1.name then (x.1 :: rawToks x.1.name (rawM x.1.name x.2).1, (rawM x.1.name x.2).2) else ([x.1], x.2) := by
  have h33 : c ≠ 33 := by rintro rfl; cases h
  have h63 : c ≠ 63 := by rintro rfl; cases h
  have h47 : c ≠ 47 := by rintro rfl; cases h
  unfold markupM
  split
  · rename_i he; injection he with _ he; injection he with he _; exact absurd he h33
  · rename_i he; injection he with _ he; injection he with he _; exact absurd he h33
  · rename_i he; injection he with _ he; injection he with he _; exact absurd he h63
  · rename_i he; injection he with _ he; injection he with he _; exact absurd he h47
  · rename_i r' _ _ _ _ he
    injection he with _ he
    subst he
    rfl
  · rename_i n; exact absurd rfl (n (c :: r))

/-- The ways that markup begins. -/
theorem opens_ways (X : Bytes) (h : opensM X = true) : (∃ r, X = 60 :: 33 :: r) ∨ (∃ r, X = 60 :: 63 :: r) ∨ (∃ c r, X = 60 :: 47 :: c :: r) ∨ ∃ c r, X = 60 :: c :: r ∧ isLet c = true := by
  match X, h with
  | [], h => cases h
  | [c], h => exfalso; unfold opensM at h; split at h <;> simp_all
  | a :: c :: r, h =>
    rw [opensM_cons2] at h
    simp only [Bool.and_eq_true, beq_iff_eq, Bool.or_eq_true] at h
    obtain ⟨rfl, h⟩ := h
    rcases h with ((h | rfl) | rfl) | ⟨rfl, h⟩
    · exact .inr (.inr (.inr ⟨c, r, rfl, h⟩))
    · exact .inl ⟨r, rfl⟩
    · exact .inr (.inl ⟨r, rfl⟩)
    · cases r with
      | nil => simp at h
      | cons x y => exact .inr (.inr (.inl ⟨x, y, rfl⟩))

/-- Markup that ends ahead of the end is the same in whatever goes on. -/
theorem markupM_ext (X q : Bytes) (ts : List TTok) (r2 : Bytes) (ho : opensM X = true) (h : markupM X = some (ts, r2)) (hr : r2 ≠ []) : markupM (X ++ q) = some (ts, r2 ++ q) := by
  rcases opens_ways X ho with ⟨r, rfl⟩ | ⟨r, rfl⟩ | ⟨c, r, rfl⟩ | ⟨c, r, rfl, hc⟩
  · by_cases hd : ∃ r', r = 45 :: 45 :: r'
    · obtain ⟨r', rfl⟩ := hd
      have e : markupM (60 :: 33 :: 45 :: 45 :: r') = some ([comment (upToM [45, 45, 62] r').1], (upToM [45, 45, 62] r').2) := rfl
      rw [e] at h
      cases h
      show some ([comment (upToM [45, 45, 62] (r' ++ q)).1], (upToM [45, 45, 62] (r' ++ q)).2) = _
      rw [upToM_ext _ _ _ hr]
    · rw [markupM_bang2 r (fun r' he => hd ⟨r', he⟩)] at h
      cases h
      have hl := (upToM_le [62] r).resolve_left hr
      have h2 : 1 ≤ (upToM [62] r).2.length := by
        cases hu : (upToM [62] r).2 with
        | nil => exact absurd hu hr
        | cons => simp
      have hne : ∀ r', r ++ q ≠ 45 :: 45 :: r' := by
        intro r' he
        have hr2 : 2 ≤ r.length := by have : [(62 : UInt8)].length = 1 := rfl; omega
        match r, hr2, hd, he with
        | [], hr2, _, _ => simp at hr2
        | [x], hr2, _, _ => simp at hr2
        | a :: b :: r3, _, hd, he =>
          rw [List.cons_append, List.cons_append] at he
          injection he with ha he
          injection he with hb _
          exact hd ⟨r3, by rw [ha, hb]⟩
      show markupM (60 :: 33 :: (r ++ q)) = _
      rw [markupM_bang2 _ hne, upToM_ext _ _ _ hr]
  · have e : markupM (60 :: 63 :: r) = some ([comment (upToM [62] (63 :: r)).1], (upToM [62] (63 :: r)).2) := rfl
    rw [e] at h
    cases h
    show some ([comment (upToM [62] ((63 :: r) ++ q)).1], (upToM [62] ((63 :: r) ++ q)).2) = _
    rw [upToM_ext _ _ _ hr]
  · have e : ∀ r, markupM (60 :: 47 :: c :: r) = if isLet c then (tagM 2 (c :: r)).map fun x => ([x.1], x.2) else some ([comment (upToM [62] (c :: r)).1], (upToM [62] (c :: r)).2) := fun _ => rfl
    rw [e] at h
    show markupM (60 :: 47 :: c :: (r ++ q)) = _
    rw [e]
    split
    · rename_i hc
      rw [if_pos hc] at h
      cases ht : tagM 2 (c :: r) with
      | none => rw [ht] at h; cases h
      | some x =>
        obtain ⟨t, r3⟩ := x
        rw [ht] at h
        cases h
        have := tagM_ext 2 (c :: r) q _ _ ht
        rw [List.cons_append] at this
        rw [this]
        rfl
    · rename_i hc
      rw [if_neg hc] at h
      cases h
      rw [show c :: (r ++ q) = c :: r ++ q from rfl, upToM_ext _ _ _ hr]
  · rw [markupM_tag2 c r hc] at h
    show markupM (60 :: c :: (r ++ q)) = _
    rw [markupM_tag2 c _ hc]
    cases ht : tagM 1 (c :: r) with
    | none => rw [ht] at h; cases h
    | some x =>
      obtain ⟨t, r3⟩ := x
      rw [ht] at h
      have := tagM_ext 1 (c :: r) q _ _ ht
      rw [List.cons_append] at this
      rw [this]
      simp only [Option.map_some] at h ⊢
      split
      · rename_i hraw
        rw [if_pos hraw] at h
        cases h
        rw [rawM_ext _ _ _ hr]
      · rename_i hraw
        rw [if_neg hraw] at h
        cases h
        rfl

/-- The first token of markup of two tokens stays, whatever comes. -/
theorem markupM_first (X q : Bytes) (t u : TTok) (r2 : Bytes) (ho : opensM X = true) (h : markupM X = some ([t, u], r2)) : ∃ ts r3, markupM (X ++ q) = some (t :: ts, r3) := by
  rcases opens_ways X ho with ⟨r, rfl⟩ | ⟨r, rfl⟩ | ⟨c, r, rfl⟩ | ⟨c, r, rfl, hc⟩
  · exfalso
    by_cases hd : ∃ r', r = 45 :: 45 :: r'
    · obtain ⟨r', rfl⟩ := hd
      have e : markupM (60 :: 33 :: 45 :: 45 :: r') = some ([comment (upToM [45, 45, 62] r').1], (upToM [45, 45, 62] r').2) := rfl
      rw [e] at h; cases h
    · rw [markupM_bang2 r (fun r' he => hd ⟨r', he⟩)] at h; cases h
  · exfalso
    have e : markupM (60 :: 63 :: r) = some ([comment (upToM [62] (63 :: r)).1], (upToM [62] (63 :: r)).2) := rfl
    rw [e] at h; cases h
  · exfalso
    have e : markupM (60 :: 47 :: c :: r) = if isLet c then (tagM 2 (c :: r)).map fun x => ([x.1], x.2) else some ([comment (upToM [62] (c :: r)).1], (upToM [62] (c :: r)).2) := rfl
    rw [e] at h
    split at h
    · cases ht : tagM 2 (c :: r) with
      | none => rw [ht] at h; cases h
      | some x => rw [ht] at h; cases h
    · cases h
  · rw [markupM_tag2 c r hc] at h
    cases ht : tagM 1 (c :: r) with
    | none => rw [ht] at h; cases h
    | some x =>
      obtain ⟨t', r3⟩ := x
      rw [ht] at h
      have := tagM_ext 1 (c :: r) q _ _ ht
      rw [List.cons_append] at this
      show ∃ ts r3, markupM (60 :: c :: (r ++ q)) = _
      rw [markupM_tag2 c _ hc, this]
      simp only [Option.map_some] at h ⊢
      split at h
      · rename_i hraw
        rw [if_pos hraw]
        simp only [Option.some.injEq, Prod.mk.injEq, List.cons.injEq] at h
        obtain ⟨⟨rfl, _⟩, _⟩ := h
        exact ⟨_, _, rfl⟩
      · cases h

def Pre (x y : List TTok) : Prop := ∃ z, y = x.dropLast ++ z
theorem Pre.nil (y : List TTok) : Pre [] y := ⟨y, rfl⟩
theorem Pre.one (t : TTok) (y : List TTok) : Pre [t] y := ⟨y, rfl⟩
theorem Pre.append (a : List TTok) {x y : List TTok} (h : Pre x y) : Pre (a ++ x) (a ++ y) := by
  obtain ⟨z, rfl⟩ := h
  by_cases hx : x = []
  · subst hx
    rw [List.append_nil]
    rcases List.eq_nil_or_concat a with rfl | ⟨b, t, rfl⟩
    · exact ⟨z, rfl⟩
    · exact ⟨[t] ++ z, by simp [List.concat_eq_append]⟩
  · exact ⟨z, by rw [List.dropLast_append_of_ne_nil hx, List.append_assoc]⟩

theorem prefix_opens : ∀ (k : Nat) (p q : Bytes), p.length ≤ k → Pre (allM p) (allM (p ++ q)) := by
  intro k
  induction k with
  | zero =>
    intro p q h
    have : p = [] := List.eq_nil_of_length_eq_zero (by omega)
    subst this
    exact Pre.nil _
  | succ k ih =>
    intro p q h
    obtain ⟨h1, h2⟩ := textM_ok p
    by_cases hR : (textM p).2 = []
    · rw [allM_split p, hR, allM_nil, List.append_nil]
      unfold textToks
      split
      · exact Pre.nil _
      · exact Pre.one _ _
    · have ho := h2.resolve_left hR
      rw [allM_split p, allM_split (p ++ q), textM_ext p q hR]
      refine Pre.append _ ?_
      simp only
      generalize (textM p).2 = X at *
      cases hm : markupM X with
      | none => rw [allM_none X ho hm]; exact Pre.nil _
      | some x =>
        obtain ⟨ts, r2⟩ := x
        have hok := markupM_ok _ _ _ ho hm
        rw [allM_markup X ts r2 ho hm]
        by_cases hr : r2 = []
        · subst hr
          rw [allM_nil, List.append_nil]
          cases hok with
          | one t _ _ _ _ => exact Pre.one _ _
          | raw t x _ _ _ _ _ _ =>
            obtain ⟨ts, r3, h3⟩ := markupM_first X q _ _ _ ho hm
            rw [allM_markup _ _ _ (opensM_ext X q ho) h3]
            exact ⟨ts ++ allM r3, rfl⟩
        · rw [allM_markup _ _ _ (opensM_ext X q ho) (markupM_ext X q ts r2 ho hm hr)]
          exact Pre.append _ (ih r2 q (by have := hok.less; omega))

/-- What TokPrefix asks. -/
theorem tokPrefix_law (s : Bytes) (n : Nat) : ∃ z, allM s = (allM (s.take n)).dropLast ++ z := by
  have h := prefix_opens (s.take n).length (s.take n) (s.drop n) (Nat.le_refl _)
  rw [List.take_append_drop] at h
  exact h

end Go.Proofs.YtemomhanchiipaaGreatDoor
