/- The reference's tokens, step by step: text that was kept, and what is left. Nothing of the program here. -/
import Derived.Test.YtbgonaacheemcaaDoorLawB
import Derived.Test.YtbgonaacheemcaaDoorRLawB
namespace Go.Proofs.YtbgonaacheemcaaDoor

theorem MarkOk.less {X : Bytes} {ts : List TTok} {r2 : Bytes} (h : MarkOk X ts r2) : r2.length < X.length := by
  cases h with
  | one t _ hk ht h =>
    rcases h with h | ⟨rfl, h⟩
    · omega
    · simp; omega
  | raw t x _ hk ht hx ho h => omega
theorem allN_fuel : ∀ (k n m : Nat) (l : Bytes), l.length ≤ k → l.length < n → l.length < m → allN n l = allN m l := by
  intro k
  induction k with
  | zero =>
    intro n m l h hn hm
    have : l = [] := List.eq_nil_of_length_eq_zero (by omega)
    subst this
    cases n <;> cases m <;> rfl
  | succ k ih =>
    intro n m l h hn hm
    cases l with
    | nil => cases n <;> cases m <;> rfl
    | cons c r =>
      obtain ⟨n, rfl⟩ : ∃ j, n = j + 1 := ⟨n - 1, by omega⟩
      obtain ⟨m, rfl⟩ : ∃ j, m = j + 1 := ⟨m - 1, by omega⟩
      obtain ⟨h1, h2⟩ := textM_ok (c :: r)
      unfold allN
      split
      · rfl
      · rename_i hne
        have ho := h2.resolve_left hne
        cases hm : markupM (textM (c :: r)).2 with
        | none => rfl
        | some x =>
          obtain ⟨ts, r2⟩ := x
          have hl := (markupM_ok _ _ _ ho hm).less
          simp only
          rw [ih n m r2 (by omega) (by omega) (by omega)]
theorem allN_eq (n : Nat) (l : Bytes) (h : l.length < n) : allN n l = allM l := allN_fuel l.length n (l.length + 1) l (Nat.le_refl _) h (by omega)
theorem allM_markup (X : Bytes) (ts : List TTok) (r2 : Bytes) (ho : opensM X = true) (h : markupM X = some (ts, r2)) : allM X = ts ++ allM r2 := by
  have hl := (markupM_ok _ _ _ ho h).less
  cases X with
  | nil => cases ho
  | cons c r =>
    show textToks (textM (c :: r)).1 ++ (if (textM (c :: r)).2 = [] then [] else match markupM (textM (c :: r)).2 with
      | none => []
      | some (l, r2) => l ++ allN (c :: r).length r2) = _
    rw [textM_opens _ ho]
    simp only [textToks_nil, List.nil_append, h]
    rw [if_neg (by simp), allN_eq _ _ hl]
theorem allM_none (X : Bytes) (ho : opensM X = true) (h : markupM X = none) : allM X = [] := by
  cases X with
  | nil => cases ho
  | cons c r =>
    show textToks (textM (c :: r)).1 ++ (if (textM (c :: r)).2 = [] then [] else match markupM (textM (c :: r)).2 with
      | none => []
      | some (l, r2) => l ++ allN (c :: r).length r2) = _
    rw [textM_opens _ ho]
    simp only [textToks_nil, List.nil_append, h]
    rw [if_neg (by simp)]
theorem allM_nil : allM [] = [] := rfl
theorem opensM_head (c : UInt8) (r : Bytes) (h : c ≠ 60) : opensM (c :: r) = false := by
  unfold opensM
  split
  · rename_i he; exact absurd (by injection he) h
  · rfl
theorem allM_split (X : Bytes) : allM X = textToks (textM X).1 ++ allM (textM X).2 := by
  cases X with
  | nil => rfl
  | cons c r =>
    obtain ⟨h1, h2⟩ := textM_ok (c :: r)
    show textToks (textM (c :: r)).1 ++ (if (textM (c :: r)).2 = [] then [] else match markupM (textM (c :: r)).2 with
      | none => []
      | some (l, r2) => l ++ allN (c :: r).length r2) = _
    congr 1
    split
    · rename_i h; rw [h]; rfl
    · rename_i hne
      have ho := h2.resolve_left hne
      cases hm : markupM (textM (c :: r)).2 with
      | none => rw [allM_none _ ho hm]
      | some x =>
        obtain ⟨ts, r2⟩ := x
        have hl := (markupM_ok _ _ _ ho hm).less
        rw [allM_markup _ _ _ ho hm]
        simp only
        rw [allN_eq _ _ (by omega)]
theorem opensM_cons2 (c0 c : UInt8) (r : Bytes) : opensM (c0 :: c :: r) = (c0 == 60 && (isLet c || c == 33 || c == 63 || (c == 47 && !r.isEmpty))) := by
  by_cases h : c0 = 60
  · subst h; rfl
  · have : (c0 == 60) = false := beq_eq_false_iff_ne.2 h
    rw [this, Bool.false_and]
    exact opensM_head _ _ h
theorem markupM_bang2 (r : Bytes) (h : ∀ r', r ≠ 45 :: 45 :: r') : markupM (60 :: 33 :: r) = some ([comment (upToM [62] r).1], (upToM [62] r).2) := by
  unfold markupM
  split
  · rename_i he
    injection he with _ he
    injection he with _ he
    exact absurd he (h _)
  · rename_i r' _ he
    injection he with _ he
    injection he with _ he
    subst he
    rfl
  · rename_i he; injection he with _ he; injection he with he _; exact absurd he (by decide)
  · rename_i he; injection he with _ he; injection he with he _; exact absurd he (by decide)
  · rename_i r' n1 n2 n3 n4 he
    injection he with _ he
    exact absurd he.symm (n2 r)
  · rename_i n; exact absurd rfl (n (33 :: r))
theorem markupM_tag2 (c : UInt8) (r : Bytes) (h : isLet c = true) : markupM (60 :: c :: r) = (tagM 1 (c :: r)).map fun x => if isRaw x.1.name then (x.1 :: rawToks x.1.name (rawM x.1.name x.2).1, (rawM x.1.name x.2).2) else ([x.1], x.2) := by
  have h33 : c ≠ 33 := by rintro rfl; cases h
  have h63 : c ≠ 63 := by rintro rfl; cases h
  have h47 : c ≠ 47 := by rintro rfl; cases h
  unfold markupM
  split
  · rename_i he; injection he with _ he; injection he with he _; exact absurd he h33
  · rename_i he; injection he with _ he; injection he with he _; exact absurd he h33
  · rename_i he; injection he with _ he; injection he with he _; exact absurd he h63
  · rename_i he; injection he with _ he; injection he with he _; exact absurd he h47
  · rename_i r' _ _ _ _ he
    injection he with _ he
    subst he
    rfl
  · rename_i n; exact absurd rfl (n (c :: r))
/-- Tokens, where a text was kept. -/
def mText (t r : Bytes) : List TTok := textToks (t ++ (textM r).1) ++ allM (textM r).2
theorem mText_all (r : Bytes) : mText [] r = allM r := (allM_split r).symm
theorem mText_nil (t : Bytes) : mText t [] = textToks t := by
  unfold mText
  show textToks (t ++ []) ++ allM [] = _
  rw [List.append_nil, allM_nil, List.append_nil]
theorem mText_in (t : Bytes) (c : UInt8) (r : Bytes) (h : opensM (c :: r) = false) : mText t (c :: r) = mText (t ++ [c]) r := by
  unfold mText
  have : textM (c :: r) = (c :: (textM r).1, (textM r).2) := by
    rw [textM]
    rw [if_neg (by rw [h]; simp)]
  rw [this, List.append_assoc]; rfl
theorem mText_out (t r : Bytes) (h : opensM r = true) : mText t r = textToks t ++ allM r := by
  unfold mText
  rw [textM_opens _ h, List.append_nil]
theorem mText_mark (t r : Bytes) (h : opensM r = true) (ts : List TTok) (r2 : Bytes) (hm : markupM r = some (ts, r2)) : mText t r = textToks t ++ (ts ++ mText [] r2) := by
  rw [mText_out t r h, allM_markup r ts r2 h hm, mText_all]
theorem mText_none (t r : Bytes) (h : opensM r = true) (hm : markupM r = none) : mText t r = textToks t := by
  rw [mText_out t r h, allM_none r h hm, List.append_nil]
theorem opens_slash (c : UInt8) (r : Bytes) : opensM (60 :: 47 :: c :: r) = true := by rw [opensM_cons2]; rfl
theorem opens_bang (r : Bytes) : opensM (60 :: 33 :: r) = true := by rw [opensM_cons2]; rfl
theorem opens_quest (r : Bytes) : opensM (60 :: 63 :: r) = true := by rw [opensM_cons2]; rfl
theorem mText_dash (t r : Bytes) : mText t (60 :: 33 :: 45 :: 45 :: r) = textToks t ++ (comment (upToM [45, 45, 62] r).1 :: mText [] (upToM [45, 45, 62] r).2) :=
  mText_mark t (60 :: 33 :: 45 :: 45 :: r) (opens_bang _) [comment (upToM [45, 45, 62] r).1] (upToM [45, 45, 62] r).2 rfl
theorem mText_bang (t r : Bytes) (h : ∀ r', r ≠ 45 :: 45 :: r') : mText t (60 :: 33 :: r) = textToks t ++ (comment (upToM [62] r).1 :: mText [] (upToM [62] r).2) :=
  mText_mark t (60 :: 33 :: r) (opens_bang _) _ _ (markupM_bang2 r h)
theorem mText_quest (t r : Bytes) : mText t (60 :: 63 :: r) = textToks t ++ (comment (upToM [62] (63 :: r)).1 :: mText [] (upToM [62] (63 :: r)).2) :=
  mText_mark t (60 :: 63 :: r) (opens_quest _) [comment (upToM [62] (63 :: r)).1] (upToM [62] (63 :: r)).2 rfl
theorem mText_odd (t : Bytes) (c : UInt8) (r : Bytes) (h : isLet c = false) : mText t (60 :: 47 :: c :: r) = textToks t ++ (comment (upToM [62] (c :: r)).1 :: mText [] (upToM [62] (c :: r)).2) :=
  mText_mark t (60 :: 47 :: c :: r) (opens_slash c r) _ _ (by
    show (if isLet c then _ else _) = _
    rw [if_neg (by rw [h]; simp)])
theorem markup_end (c : UInt8) (r : Bytes) (h : isLet c = true) : markupM (60 :: 47 :: c :: r) = (mName [] (c :: r)).map fun y => ([⟨2, y.1.name, [], false, []⟩], y.2) := by
  show (if isLet c then _ else _) = _
  rw [if_pos h, tagM_end]
  cases mName [] (c :: r) <;> rfl
theorem mText_end (t : Bytes) (c : UInt8) (r : Bytes) (h : isLet c = true) (y : TTok) (r2 : Bytes) (hm : mName [] (c :: r) = some (y, r2)) : mText t (60 :: 47 :: c :: r) = textToks t ++ (⟨2, y.name, [], false, []⟩ :: mText [] r2) :=
  mText_mark t (60 :: 47 :: c :: r) (opens_slash c r) _ _ (by rw [markup_end c r h, hm]; rfl)
theorem mText_end0 (t : Bytes) (c : UInt8) (r : Bytes) (h : isLet c = true) (hm : mName [] (c :: r) = none) : mText t (60 :: 47 :: c :: r) = textToks t :=
  mText_none t (60 :: 47 :: c :: r) (opens_slash c r) (by rw [markup_end c r h, hm]; rfl)
theorem markup_start (c : UInt8) (r : Bytes) (h : isLet c = true) : markupM (60 :: c :: r) = (mName [] (c :: r)).map fun y => if isRaw y.1.name then (⟨1, y.1.name, y.1.attrs, y.1.self, []⟩ :: rawToks y.1.name (rawM y.1.name y.2).1, (rawM y.1.name y.2).2) else ([⟨1, y.1.name, y.1.attrs, y.1.self, []⟩], y.2) := by
  rw [markupM_tag2 c r h, tagM_start]
  cases mName [] (c :: r) <;> rfl
theorem opens_let (c : UInt8) (r : Bytes) (h : isLet c = true) : opensM (60 :: c :: r) = true := by rw [opensM_cons2, h]; rfl
theorem mText_start (t : Bytes) (c : UInt8) (r : Bytes) (h : isLet c = true) (y : TTok) (r2 : Bytes) (hm : mName [] (c :: r) = some (y, r2)) (hr : isRaw y.name = false) : mText t (60 :: c :: r) = textToks t ++ (⟨1, y.name, y.attrs, y.self, []⟩ :: mText [] r2) :=
  mText_mark t (60 :: c :: r) (opens_let c r h) [⟨1, y.name, y.attrs, y.self, []⟩] r2 (by rw [markup_start c r h, hm]; simp [hr])
theorem mText_start0 (t : Bytes) (c : UInt8) (r : Bytes) (h : isLet c = true) (hm : mName [] (c :: r) = none) : mText t (60 :: c :: r) = textToks t :=
  mText_none t (60 :: c :: r) (opens_let c r h) (by rw [markup_start c r h, hm]; rfl)
theorem mText_raw (t : Bytes) (c : UInt8) (r : Bytes) (h : isLet c = true) (y : TTok) (r2 : Bytes) (hm : mName [] (c :: r) = some (y, r2)) (hr : isRaw y.name = true) : mText t (60 :: c :: r) = textToks t ++ (⟨1, y.name, y.attrs, y.self, []⟩ :: (rawToks y.name (rawM y.name r2).1 ++ mText [] (rawM y.name r2).2)) :=
  mText_mark t (60 :: c :: r) (opens_let c r h) (⟨1, y.name, y.attrs, y.self, []⟩ :: rawToks y.name (rawM y.name r2).1) (rawM y.name r2).2 (by rw [markup_start c r h, hm]; simp [hr])

/-- Where a text begins in another. -/
def placeM (e : Bytes) : Bytes → Option Nat
  | [] => none
  | c :: r => if e.isPrefixOf (c :: r) then some 0 else (placeM e r).map (· + 1)
theorem place_upTo (e : Bytes) : ∀ l : Bytes, upToM e l = (match placeM e l with
    | some k => (l.take k, l.drop (k + e.length))
    | none => (l, []))
  | [] => rfl
  | c :: r => by
    have ih := place_upTo e r
    rw [upToM, placeM]
    split
    · simp
    · rw [ih]
      cases placeM e r with
      | none => rfl
      | some k =>
        simp only [Option.map_some, List.take_succ_cons]
        rw [show k + 1 + e.length = (k + e.length) + 1 by omega, List.drop_succ_cons]

end Go.Proofs.YtbgonaacheemcaaDoor
