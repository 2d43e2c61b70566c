/- Plain laws of the tokenizer's model: text without signs. -/
import Derived.Test.YtemomhanchiipaaGreatDoorModel
namespace Go.Proofs.YtemomhanchiipaaGreatDoor

theorem unescN_plain : ∀ (n : Nat) (l : Bytes), l.length ≤ n → (∀ c ∈ l, c ≠ 38) → unescN n l = l
  | 0, l, h, _ => by
    have : l = [] := List.eq_nil_of_length_eq_zero (by omega)
    subst this; rfl
  | n + 1, [], _, _ => rfl
  | n + 1, c :: r, h, hc => by
    have h1 : c ≠ 38 := hc c (by simp)
    have h2 := unescN_plain n r (by simpa using h) (fun x hx => hc x (by simp [hx]))
    show (if c = 38 ∧ (brk [59] r).length < r.length then _ else c :: unescN n r) = _
    rw [if_neg (fun h => h1 h.1), h2]
theorem unesc_plain (l : Bytes) (hc : ∀ c ∈ l, c ≠ 38) : unesc l = l := unescN_plain _ l (Nat.le_refl _) hc

theorem opensM_plain (l : Bytes) (hc : ∀ c ∈ l, c ≠ 60) : opensM l = false := by
  unfold opensM
  split
  · exact absurd rfl (hc 60 (by simp))
  · rfl
theorem textM_plain : ∀ l : Bytes, (∀ c ∈ l, c ≠ 60) → textM l = (l, [])
  | [], _ => rfl
  | c :: r, hc => by
    have h2 := textM_plain r (fun x hx => hc x (by simp [hx]))
    show (if opensM (c :: r) then _ else (c :: (textM r).1, (textM r).2)) = _
    rw [opensM_plain _ hc, if_neg (by decide), h2]

/-- Text without < and & is one token, or none. -/
theorem allM_plain (l : Bytes) (h1 : ∀ c ∈ l, c ≠ 60) (h2 : ∀ c ∈ l, c ≠ 38) : allM l = if l = [] then [] else [chars l] := by
  cases l with
  | nil => rfl
  | cons c r =>
    show textToks (textM (c :: r)).1 ++ (if (textM (c :: r)).2 = [] then [] else _) = _
    rw [textM_plain _ h1]
    simp only [if_pos]
    rw [List.append_nil]
    unfold textToks
    rw [unesc_plain _ h2]

end Go.Proofs.YtemomhanchiipaaGreatDoor
