/- Plain laws of the builder's model: what stays true of its stack. -/
import Derived.Test.YtemomhanchiipaaGreatDoorTModel
import Derived.Test.YtemomhanchiipaaGreatDoorLawB
namespace Go.Proofs.YtemomhanchiipaaGreatDoor

theorem wordsL_append (a b : List TNode) : wordsL (a ++ b) = wordsL a ++ wordsL b := by
  induction a with
  | nil => rfl
  | cons t a ih => show wordsN t ++ wordsL (a ++ b) = _; rw [ih, ← List.append_assoc]; rfl
theorem closedL_append (a b : List TNode) (p li : Bool) : closedL (a ++ b) p li = (closedL a p li && closedL b p li) := by
  induction a with
  | nil => rfl
  | cons t a ih => show (closedN t p li && closedL (a ++ b) p li) = _; rw [ih, ← Bool.and_assoc]; rfl
theorem deepL_append (a b : List TNode) : deepL (a ++ b) = max (deepL a) (deepL b) := by
  induction a with
  | nil => simp [deepL]
  | cons t a ih => show max (deepN t) (deepL (a ++ b)) = max (max (deepN t) (deepL a)) (deepL b); rw [ih]; omega
/-- Is the last one a text (or was the one ahead)? -/
def lastT (p : Bool) (a : List TNode) : Bool := match a.getLast? with
  | some t => t.name == []
  | none => p
theorem lastT_cons (p : Bool) (t x : TNode) (a : List TNode) : lastT p (t :: x :: a) = lastT (t.name == []) (x :: a) := by
  unfold lastT
  rw [List.getLast?_cons_cons]
  cases h : (x :: a).getLast? with
  | none => simp at h
  | some y => rfl
theorem apartL_append (p : Bool) (a b : List TNode) : apartL p (a ++ b) = (apartL p a && apartL (lastT p a) b) := by
  induction a generalizing p with
  | nil => simp [apartL, lastT]
  | cons t a ih =>
    show (!(p && t.name == []) && apartN t && apartL (t.name == []) (a ++ b)) = (!(p && t.name == []) && apartN t && apartL (t.name == []) a && _)
    rw [ih]
    cases a with
    | nil => simp [apartL, lastT]
    | cons x a => rw [lastT_cons]; simp only [Bool.and_assoc]

/-- What may be said of a stack: of each open element, and of those that it is in. -/
inductive Frames (P : List Fr → Prop) : List Fr → Prop
  | root (f : Fr) (h : P [f]) : Frames P [f]
  | cons (f g : Fr) (r : List Fr) (h : P (f :: g :: r)) (hr : Frames P (g :: r)) : Frames P (f :: g :: r)
theorem Frames.ne {P : List Fr → Prop} {l : List Fr} (h : Frames P l) : l ≠ [] := by cases h <;> simp
theorem Frames.head {P : List Fr → Prop} {f : Fr} {r : List Fr} (h : Frames P (f :: r)) : P (f :: r) := by cases h <;> assumption
theorem Frames.tail {P : List Fr → Prop} {f g : Fr} {r : List Fr} (h : Frames P (f :: g :: r)) : Frames P (g :: r) := by cases h; assumption

/-- What a stack's property must bear. -/
structure Stable (P : List Fr → Prop) : Prop where
  pop : ∀ f g r, P (f :: g :: r) → P (g :: r) → P ({ g with done := g.done ++ [tElem f.name f.attrs f.done] } :: r)
theorem Frames.pop {P : List Fr → Prop} (hP : Stable P) {l : List Fr} (h : Frames P l) : Frames P (popM l) := by
  cases h with
  | root f h => exact .root f h
  | cons f g r h hr =>
    have hg := hr.head
    have := hP.pop f g r h hg
    cases hr with
    | root _ _ => exact .root _ this
    | cons _ g2 r2 _ hr2 => exact .cons _ g2 r2 this hr2
theorem popM_len (l : List Fr) : (popM l).length = if 2 ≤ l.length then l.length - 1 else l.length := by
  match l with
  | [] => rfl
  | [_] => rfl
  | _ :: _ :: r => simp [popM]
theorem Frames.popN {P : List Fr → Prop} (hP : Stable P) : ∀ (n : Nat) {l : List Fr}, Frames P l → Frames P (popN n l)
  | 0, _, h => h
  | n + 1, _, h => Frames.popN hP n (h.pop hP)
theorem Frames.close {P : List Fr → Prop} (hP : Stable P) (i : Nat) {l : List Fr} (h : Frames P l) : Frames P (closeM i l) := by
  unfold closeM
  split
  · exact h
  · exact h.popN hP _

theorem findM_le (n : Bytes) (l : List Fr) : findM n l ≤ l.length - 1 := by
  match l with
  | [] => simp [findM]
  | [_] => simp [findM]
  | f :: g :: r =>
    unfold findM
    split
    · simp
    · have := findM_le n (g :: r)
      simp at this ⊢; omega

/-- A property of stacks that every step keeps, holds in the end. -/
theorem steps_keep (Q : BSt → Prop) (h0 : Q initM) (hs : ∀ b t, Q b → Q (stepM b t)) (l : List TTok) : Q (stepsM l) := by
  unfold stepsM
  have : ∀ (l : List TTok) (b : BSt), Q b → Q (l.foldl stepM b) := by
    intro l
    induction l with
    | nil => intro b h; exact h
    | cons t l ih => intro b h; exact ih _ (hs b t h)
  exact this l _ h0
theorem steps_keep_of (Q : BSt → Prop) (h0 : Q initM) (l : List TTok) (hs : ∀ b t, t ∈ l → Q b → Q (stepM b t)) : Q (stepsM l) := by
  unfold stepsM
  have : ∀ (l : List TTok) (b : BSt), (∀ b t, t ∈ l → Q b → Q (stepM b t)) → Q b → Q (l.foldl stepM b) := by
    intro l
    induction l with
    | nil => intro b _ h; exact h
    | cons t l ih => intro b hs h; exact ih _ (fun b t ht => hs b t (by simp [ht])) (hs b t (by simp) h)
  exact this l _ hs h0

theorem rootDone_of {P : List Fr → Prop} (hP : Stable P) {l : List Fr} (h : Frames P l) : ∃ f, P [f] ∧ rootDone l = f.done := by
  have h1 := h.popN hP (l.length - 1)
  have hlen : ∀ (n : Nat) (l : List Fr), 1 ≤ l.length → (popN n l).length = max 1 (l.length - n) := by
    intro n
    induction n with
    | zero => intro l h; simp [popN]; omega
    | succ n ih =>
      intro l h
      show (popN n (popM l)).length = _
      have h2 := popM_len l
      rw [ih _ (by rw [h2]; split <;> omega), h2]
      split <;> omega
  have h2 := hlen (l.length - 1) l (by cases l with | nil => exact absurd rfl h.ne | cons => simp)
  unfold rootDone
  generalize popN (l.length - 1) l = s at *
  match s, h1, h2 with
  | [f], h1, _ => exact ⟨f, h1.head, rfl⟩
  | [], h1, _ => exact absurd rfl h1.ne
  | _ :: _ :: _, _, h2 => simp at h2; omega

end Go.Proofs.YtemomhanchiipaaGreatDoor
