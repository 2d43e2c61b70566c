/- A region that draws its order, each of whose operations comes to one value whatever was done ahead of it: one step for each operation. -/
import Derived.Test.YtjkgmdnkejjppaaGreatDoorGp
namespace Go.Proofs.YtjkgmdnkejjppaaGreatDoor
open Go

/-- Slots base and on, filled. -/
def fillB (base : Nat) (b : Act) (V : Nat → Value) : Nat → Act
  | 0 => b
  | n + 1 => (fillB base b V n).put (some (base + n)) (V n)
theorem fillB_size (base : Nat) (b : Act) (V : Nat → Value) : ∀ n, (fillB base b V n).tmps.size = b.tmps.size
  | 0 => rfl
  | n + 1 => by
    show ((fillB base b V n).tmps.setIfInBounds _ _).size = _
    rw [Array.size_setIfInBounds]; exact fillB_size base b V n
theorem fillB_defers (base : Nat) (b : Act) (V : Nat → Value) : ∀ n, (fillB base b V n).defers = b.defers
  | 0 => rfl
  | n + 1 => fillB_defers base b V n
theorem fillB_get (base : Nat) (b : Act) (V : Nat → Value) (j : Nat) : ∀ n, (fillB base b V n).tmps[j]? = if base ≤ j ∧ j < base + n ∧ j < b.tmps.size then some (V (j - base)) else b.tmps[j]?
  | 0 => by rw [if_neg (by omega)]; rfl
  | n + 1 => by
    show ((fillB base b V n).tmps.setIfInBounds (base + n) (V n))[j]? = _
    rw [Array.getElem?_setIfInBounds, fillB_size, fillB_get base b V j n]
    by_cases h : base + n = j
    · subst h
      by_cases h2 : base + n < b.tmps.size
      · rw [if_pos rfl, if_pos h2, if_pos ⟨by omega, by omega, h2⟩]
        congr 2; omega
      · rw [if_pos rfl, if_neg h2, if_neg (by omega), Array.getElem?_eq_none (by omega)]
    · rw [if_neg h]
      by_cases h2 : base ≤ j ∧ j < base + n ∧ j < b.tmps.size
      · rw [if_pos h2, if_pos (by omega)]
      · rw [if_neg h2, if_neg (by omega)]
theorem fillB_eq (base n : Nat) (a b : Act) (V : Nat → Value) (hs : a.tmps.size = b.tmps.size) (hd : a.defers = b.defers) (hr : ∀ j, (j < base ∨ base + n ≤ j) → a.tmps[j]? = b.tmps[j]?) (hv : ∀ i, i < n → a.tmps[base + i]? = some (V i)) :
    a = fillB base b V n := by
  have ht : a.tmps = (fillB base b V n).tmps := by
    apply Array.ext_getElem?
    intro j
    rw [fillB_get]
    by_cases h : base ≤ j ∧ j < base + n ∧ j < b.tmps.size
    · rw [if_pos h]
      have := hv (j - base) (by omega)
      rwa [show base + (j - base) = j by omega] at this
    · rw [if_neg h]
      by_cases h2 : j < base ∨ base + n ≤ j
      · exact hr j h2
      · rw [Array.getElem?_eq_none (by omega), Array.getElem?_eq_none (by omega)]
  have hd2 : a.defers = (fillB base b V n).defers := by rw [fillB_defers]; exact hd
  obtain ⟨at_, ad⟩ := a
  generalize fillB base b V n = c at *
  obtain ⟨ct, cd⟩ := c
  simp only at ht hd2
  rw [ht, hd2]

/-- What is carried: each operation that is done holds its value. -/
structure VJ (base n : Nat) (V : Nat → Value) (S : World → Prop) (a0 : Act) (L : Nat → Bool) (a : Act) (w : World) : Prop where
  of ::
  world : S w
  size : a.tmps.size = a0.tmps.size
  defers : a.defers = a0.defers
  rest : ∀ t, (t < base ∨ base + n ≤ t) → a.tmps[t]? = a0.tmps[t]?
  vals : ∀ i, i < n → L i = true → a.tmps[base + i]? = some (V i)
theorem VJ.put {base n : Nat} {V : Nat → Value} {S : World → Prop} {a0 : Act} {L : Nat → Bool} {a : Act} {w w' : World} (h : VJ base n V S a0 L a w) (hz : base + n ≤ a0.tmps.size) (i : Nat) (hi : i < n) (hS : S w') (v : Value) (hv : v = V i) :
    VJ base n V S a0 (fun j => j == i || L j) (a.put (some (base + i)) v) w' := by
  subst hv
  have hs := h.size
  refine ⟨hS, by rw [← hs]; simp [Act.put], h.defers, fun t ht => ?_, fun j hj hl => ?_⟩
  · show (a.tmps.setIfInBounds (base + i) _)[t]? = _
    rw [Array.getElem?_setIfInBounds_ne (by omega)]; exact h.rest t ht
  · show (a.tmps.setIfInBounds (base + i) _)[base + j]? = _
    by_cases hji : j = i
    · subst hji
      rw [Array.getElem?_setIfInBounds_self_of_lt (by omega)]
    · rw [Array.getElem?_setIfInBounds_ne (by omega)]
      exact h.vals j hj (by simpa [hji] using hl)

/-- A region that draws its order: each operation comes to its value (a skipped one to 'undef'), whatever was done ahead of it. -/
theorem wp_region_vals {P : Program} {ops : Array Oper} {Q : Exit → Act → World → Prop} {id : Nat} {a0 : Act} {w0 : World} (hm : P.follows .mixedOrders = true) (hac : ∀ (i : Nat) (o : Oper), ops[i]? = some o → ∀ e ∈ o.after.toList, e.on < i)
    (base n : Nat) (V : Nat → Value) (S : World → Prop) (hn : ops.size = n) (hz : base + n ≤ a0.tmps.size) (hdst : ∀ (i : Nat) (o : Oper), ops[i]? = some o → o.dst = some (base + i)) (hS : S w0.drew)
    (hstep : ∀ (i : Nat) (o : Oper), ops[i]? = some o → ∀ (a : Act) (w : World), S w → (∀ t, (t < base ∨ base + n ≤ t) → a.tmps[t]? = a0.tmps[t]?) → (∀ e ∈ o.after.toList, Region.binds .any e = true → a.tmps[base + e.on]? = some (V e.on)) →
      ∀ K : Act → World → Prop, (∀ w', S w' → K (a.put o.dst (V i)) w') → if Region.wanted o (yielded ops a.tmps) then o.wp P a w K Q else V i = undef)
    (hend : ∀ w, S w → Q .normal (fillB base a0 V n) w) : (Code.region id ops true).wp P Q a0 w0 := by
  refine wp_region_inv hm hac (VJ base n V S a0) ⟨hS, rfl, rfl, fun _ _ => rfl, fun _ _ h => by cases h⟩ ?_ ?_
  · intro i o ho L a w _ hJ _ hd
    have hi : i < n := by rw [← hn]; exact (Array.getElem?_eq_some_iff.1 ho).1
    have hdo := hdst i o ho
    have hs := hstep i o ho a w hJ.world hJ.rest (fun e he hb => hJ.vals e.on (by have := hac i o ho e he; omega) (hd e he hb)) (VJ base n V S a0 fun j => j == i || L j) (fun w' hS' => by rw [hdo]; exact hJ.put hz i hi hS' _ rfl)
    by_cases hw : Region.wanted o (yielded ops a.tmps) = true
    · rw [if_pos hw] at hs ⊢; exact hs
    · rw [if_neg hw] at hs ⊢
      rw [hdo]; exact hJ.put hz i hi hJ.world _ hs.symm
  · intro L a w hall hJ
    rw [fillB_eq base n a a0 V hJ.size hJ.defers hJ.rest (fun i hi => hJ.vals i hi (hall i (by omega)))]
    exact hend w hJ.world

end Go.Proofs.YtjkgmdnkejjppaaGreatDoor
