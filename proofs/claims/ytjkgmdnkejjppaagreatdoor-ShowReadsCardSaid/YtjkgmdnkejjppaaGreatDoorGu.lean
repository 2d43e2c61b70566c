/- Joined texts: OrdV OrdS. -/
import Derived.Test.YtjkgmdnkejjppaaGreatDoorGp
/- A region that draws its order, each of whose operations comes to one value whatever was done ahead of it: one step for each operation. -/
namespace Go.Proofs.YtjkgmdnkejjppaaGreatDoor
open Go

/-- Slots base and on, filled. -/
def fillB (base : Nat) (b : Act) (V : Nat → Value) : Nat → Act
  | 0 => b
  | n + 1 => (fillB base b V n).put (some (base + n)) (V n)
theorem fillB_size (base : Nat) (b : Act) (V : Nat → Value) : ∀ n, (fillB base b V n).tmps.size = b.tmps.size
  | 0 => rfl
  | n + 1 => by
    show ((fillB base b V n).tmps.setIfInBounds _ _).size = _
    rw [Array.size_setIfInBounds]; exact fillB_size base b V n
theorem fillB_defers (base : Nat) (b : Act) (V : Nat → Value) : ∀ n, (fillB base b V n).defers = b.defers
  | 0 => rfl
  | n + 1 => fillB_defers base b V n
theorem fillB_get (base : Nat) (b : Act) (V : Nat → Value) (j : Nat) : ∀ n, (fillB base b V n).tmps[j]? = if base ≤ j ∧ j < base + n ∧ j < b.tmps.size then some (V (j - base)) else b.tmps[j]?
  | 0 => by rw [if_neg (by omega)]; rfl
  | n + 1 => by
    show ((fillB base b V n).tmps.setIfInBounds (base + n) (V n))[j]? = _
    rw [Array.getElem?_setIfInBounds, fillB_size, fillB_get base b V j n]
    by_cases h : base + n = j
    · subst h
      by_cases h2 : base + n < b.tmps.size
      · rw [if_pos rfl, if_pos h2, if_pos ⟨by omega, by omega, h2⟩]
        congr 2; omega
      · rw [if_pos rfl, if_neg h2, if_neg (by omega), Array.getElem?_eq_none (by omega)]
    · rw [if_neg h]
      by_cases h2 : base ≤ j ∧ j < base + n ∧ j < b.tmps.size
      · rw [if_pos h2, if_pos (by omega)]
      · rw [if_neg h2, if_neg (by omega)]
theorem fillB_eq (base n : Nat) (a b : Act) (V : Nat → Value) (hs : a.tmps.size = b.tmps.size) (hd : a.defers = b.defers) (hr : ∀ j, (j < base ∨ base + n ≤ j) → a.tmps[j]? = b.tmps[j]?) (hv : ∀ i, i < n → a.tmps[base + i]? = some (V i)) :
    a = fillB base b V n := by
  have ht : a.tmps = (fillB base b V n).tmps := by
    apply Array.ext_getElem?
    intro j
    rw [fillB_get]
    by_cases h : base ≤ j ∧ j < base + n ∧ j < b.tmps.size
    · rw [if_pos h]
      have := hv (j - base) (by omega)
      rwa [show base + (j - base) = j by omega] at this
    · rw [if_neg h]
      by_cases h2 : j < base ∨ base + n ≤ j
      · exact hr j h2
      · rw [Array.getElem?_eq_none (by omega), Array.getElem?_eq_none (by omega)]
  have hd2 : a.defers = (fillB base b V n).defers := by rw [fillB_defers]; exact hd
  obtain ⟨at_, ad⟩ := a
  generalize fillB base b V n = c at *
  obtain ⟨ct, cd⟩ := c
  simp only at ht hd2
  rw [ht, hd2]

/-- What is carried: each operation that is done holds its value. -/
structure VJ (base n : Nat) (V : Nat → Value) (S : World → Prop) (a0 : Act) (L : Nat → Bool) (a : Act) (w : World) : Prop where
  of ::
  world : S w
  size : a.tmps.size = a0.tmps.size
  defers : a.defers = a0.defers
  rest : ∀ t, (t < base ∨ base + n ≤ t) → a.tmps[t]? = a0.tmps[t]?
  vals : ∀ i, i < n → L i = true → a.tmps[base + i]? = some (V i)
theorem VJ.put {base n : Nat} {V : Nat → Value} {S : World → Prop} {a0 : Act} {L : Nat → Bool} {a : Act} {w w' : World} (h : VJ base n V S a0 L a w) (hz : base + n ≤ a0.tmps.size) (i : Nat) (hi : i < n) (hS : S w') (v : Value) (hv : v = V i) :
    VJ base n V S a0 (fun j => j == i || L j) (a.put (some (base + i)) v) w' := by
  subst hv
  have hs := h.size
  refine ⟨hS, by rw [← hs]; simp [Act.put], h.defers, fun t ht => ?_, fun j hj hl => ?_⟩
  · show (a.tmps.setIfInBounds (base + i) _)[t]? = _
    rw [Array.getElem?_setIfInBounds_ne (by omega)]; exact h.rest t ht
  · show (a.tmps.setIfInBounds (base + i) _)[base + j]? = _
    by_cases hji : j = i
    · subst hji
      rw [Array.getElem?_setIfInBounds_self_of_lt (by omega)]
    · rw [Array.getElem?_setIfInBounds_ne (by omega)]
      exact h.vals j hj (by simpa [hji] using hl)

/-- A region that draws its order: each operation comes to its value (a skipped one to 'undef'), whatever was done ahead of it. -/
theorem wp_region_vals {P : Program} {ops : Array Oper} {Q : Exit → Act → World → Prop} {id : Nat} {a0 : Act} {w0 : World} (hm : P.follows .mixedOrders = true) (hac : ∀ (i : Nat) (o : Oper), ops[i]? = some o → ∀ e ∈ o.after.toList, e.on < i)
    (base n : Nat) (V : Nat → Value) (S : World → Prop) (hn : ops.size = n) (hz : base + n ≤ a0.tmps.size) (hdst : ∀ (i : Nat) (o : Oper), ops[i]? = some o → o.dst = some (base + i)) (hS : S w0.drew)
    (hstep : ∀ (i : Nat) (o : Oper), ops[i]? = some o → ∀ (a : Act) (w : World), S w → (∀ t, (t < base ∨ base + n ≤ t) → a.tmps[t]? = a0.tmps[t]?) → (∀ e ∈ o.after.toList, Region.binds .any e = true → a.tmps[base + e.on]? = some (V e.on)) →
      ∀ K : Act → World → Prop, (∀ w', S w' → K (a.put o.dst (V i)) w') → if Region.wanted o (yielded ops a.tmps) then o.wp P a w K Q else V i = undef)
    (hend : ∀ w, S w → Q .normal (fillB base a0 V n) w) : (Code.region id ops true).wp P Q a0 w0 := by
  refine wp_region_inv hm hac (VJ base n V S a0) ⟨hS, rfl, rfl, fun _ _ => rfl, fun _ _ h => by cases h⟩ ?_ ?_
  · intro i o ho L a w _ hJ _ hd
    have hi : i < n := by rw [← hn]; exact (Array.getElem?_eq_some_iff.1 ho).1
    have hdo := hdst i o ho
    have hs := hstep i o ho a w hJ.world hJ.rest (fun e he hb => hJ.vals e.on (by have := hac i o ho e he; omega) (hd e he hb)) (VJ base n V S a0 fun j => j == i || L j) (fun w' hS' => by rw [hdo]; exact hJ.put hz i hi hS' _ rfl)
    by_cases hw : Region.wanted o (yielded ops a.tmps) = true
    · rw [if_pos hw] at hs ⊢; exact hs
    · rw [if_neg hw] at hs ⊢
      rw [hdo]; exact hJ.put hz i hi hJ.world _ hs.symm
  · intro L a w hall hJ
    rw [fillB_eq base n a a0 V hJ.size hJ.defers hJ.rest (fun i hi => hJ.vals i hi (hall i (by omega)))]
    exact hend w hJ.world

end Go.Proofs.YtjkgmdnkejjppaaGreatDoor
/- A region that draws its order, of reads, calls and new rows, and one last operation behind them all: one step for each operation, whatever was done ahead of it. -/
namespace Go.Proofs.YtjkgmdnkejjppaaGreatDoor
open Go Go.RowKit

/-- Are these operations done once operation k is? Marks backwards. -/
def needs (md : Region.Mode) (ops : Array Oper) : Nat → (Nat → Bool) → Nat → Bool
  | 0, N => N
  | k + 1, N => needs md ops k (if N k then fun j => N j || (match ops[k]? with | some o => o.after.toList.any (fun e => Region.binds md e && e.on == j) | none => false) else N)
theorem needs_done {md : Region.Mode} {ops : Array Oper} {L : Nat → Bool} (hc : Cl md ops L) : ∀ (k : Nat) (N : Nat → Bool), (∀ j, N j = true → L j = true) → ∀ j, needs md ops k N j = true → L j = true
  | 0, _, h, j, hj => h j hj
  | k + 1, N, h, j, hj => by
    unfold needs at hj
    refine needs_done hc k _ (fun i hi => ?_) j hj
    cases hN : N k with
    | false => rw [hN] at hi; exact h i (by simpa using hi)
    | true =>
      rw [hN, if_pos rfl] at hi
      rcases Bool.or_eq_true_iff.1 hi with hi | hi
      · exact h i hi
      · cases ho : ops[k]? with
        | none => rw [ho] at hi; cases hi
        | some o =>
          rw [ho] at hi
          obtain ⟨e, he, h2⟩ := List.any_eq_true.1 hi
          rw [Bool.and_eq_true, beq_iff_eq] at h2
          rw [← h2.2]
          exact hc k o ho (h k hN) e he h2.1
/-- All n operations are done ahead of operation n. -/
def lastOf (md : Region.Mode) (ops : Array Oper) (n : Nat) : Bool :=
  (List.range n).all (needs md ops n (fun j => match ops[n]? with | some o => o.after.toList.any (fun e => Region.binds md e && e.on == j) | none => false))

/-- What is carried: each operation that is done has laid what is asked of its slot. -/
structure SJ (base n : Nat) (F : Nat → Value → World → Prop) (R : Value → World → Prop) (w0 : World) (a0 : Act) (L : Nat → Bool) (a : Act) (w : World) : Prop where
  of ::
  size : a.tmps.size = a0.tmps.size
  defers : a.defers = a0.defers
  rest : ∀ t, (t < base ∨ base + (n + 1) ≤ t) → a.tmps[t]? = a0.tmps[t]?
  vals : L n = false → ∀ i, i < n → L i = true → ∃ v, a.tmps[base + i]? = some v ∧ F i v w
  world : L n = false → Below w0.heap.size w0 w
  fin : L n = true → (∃ v, a.tmps[base + n]? = some v ∧ R v w) ∧ ∀ i, i < n → L i = true

section
variable {base n : Nat} {F : Nat → Value → World → Prop} {R : Value → World → Prop} {w0 : World} {a0 : Act} {L : Nat → Bool} {a : Act} {w w' : World}
theorem SJ.putLast (hJ : SJ base n F R w0 a0 L a w) (hz : base + (n + 1) ≤ a0.tmps.size) (hall : ∀ j, j < n → L j = true) (v : Value) (hR : R v w') : SJ base n F R w0 a0 (fun j => j == n || L j) (a.put (some (base + n)) v) w' := by
  have hs := hJ.size
  refine ⟨by rw [← hs]; simp [Act.put], hJ.defers, fun t ht => ?_, fun h => absurd (show (n == n || L n) = false from h) (by simp), fun h => absurd (show (n == n || L n) = false from h) (by simp), fun _ => ⟨⟨v, ?_, hR⟩, fun j hj => ?_⟩⟩
  · show (a.tmps.setIfInBounds (base + n) _)[t]? = _
    rw [Array.getElem?_setIfInBounds_ne (by omega)]; exact hJ.rest t ht
  · show (a.tmps.setIfInBounds (base + n) _)[base + n]? = _
    rw [Array.getElem?_setIfInBounds_self_of_lt (by omega)]
  · show (j == n || L j) = true
    rw [hall j hj, Bool.or_true]
theorem SJ.putOne (hJ : SJ base n F R w0 a0 L a w) (hz : base + (n + 1) ≤ a0.tmps.size) (hF : ∀ i v w w', F i v w → Below w.heap.size w w' → F i v w') (i : Nat) (hilt : i < n) (hLn : L n = false) (v : Value) (hb : Below w.heap.size w w') (hR : F i v w') : SJ base n F R w0 a0 (fun j => j == i || L j) (a.put (some (base + i)) v) w' := by
  have hs := hJ.size
  have hni : (n == i) = false := beq_eq_false_iff_ne.2 (by omega)
  refine ⟨by rw [← hs]; simp [Act.put], hJ.defers, fun t ht => ?_, fun _ j hj hl => ?_, fun _ => (hJ.world hLn).trans (hb.mono (hJ.world hLn).size), fun h => ?_⟩
  · show (a.tmps.setIfInBounds (base + i) _)[t]? = _
    rw [Array.getElem?_setIfInBounds_ne (by omega)]; exact hJ.rest t ht
  · by_cases hji : j = i
    · subst hji
      refine ⟨v, ?_, hR⟩
      show (a.tmps.setIfInBounds (base + j) _)[base + j]? = _
      rw [Array.getElem?_setIfInBounds_self_of_lt (by omega)]
    · obtain ⟨u, hu, hf⟩ := hJ.vals hLn j hj (by simpa [hji] using hl)
      refine ⟨u, ?_, hF j u w w' hf hb⟩
      show (a.tmps.setIfInBounds (base + i) _)[base + j]? = _
      rw [Array.getElem?_setIfInBounds_ne (by omega)]; exact hu
  · have h' : (n == i || L n) = true := h
    rw [hni, hLn] at h'; cases h'
theorem SJ.fill (hJ : SJ base n F R w0 a0 L a w) : a = fillB base a0 (fun i => a.tmps.getD (base + i) undef) (n + 1) ∨ ¬ base + (n + 1) ≤ a0.tmps.size := by
  by_cases hz : base + (n + 1) ≤ a0.tmps.size
  · refine .inl (fillB_eq base (n + 1) a a0 _ hJ.size hJ.defers hJ.rest fun i hi => ?_)
    have hs := hJ.size
    rw [Array.getD_eq_getD_getElem?, Array.getElem?_eq_getElem (by omega)]; rfl
  · exact .inr hz
end

theorem wp_region_slots {P : Program} {ops : Array Oper} {Q : Exit → Act → World → Prop} {id : Nat} {a0 : Act} {w0 : World} (hm : P.follows .mixedOrders = true) (hac : ∀ (i : Nat) (o : Oper), ops[i]? = some o → ∀ e ∈ o.after.toList, e.on < i)
    (base n : Nat) (F : Nat → Value → World → Prop) (R : Value → World → Prop) (hn : ops.size = n + 1) (hz : base + (n + 1) ≤ a0.tmps.size) (hdst : ∀ (i : Nat) (o : Oper), ops[i]? = some o → o.dst = some (base + i)) (hl : lastOf .any ops n = true)
    (hF : ∀ i v w w', F i v w → Below w.heap.size w w' → F i v w')
    (hstep : ∀ (i : Nat) (o : Oper), i < n → ops[i]? = some o → ∀ (a : Act) (w : World), Below w0.heap.size w0 w → (∀ t, (t < base ∨ base + (n + 1) ≤ t) → a.tmps[t]? = a0.tmps[t]?) → (∀ e ∈ o.after.toList, Region.binds .any e = true → ∃ v, a.tmps[base + e.on]? = some v ∧ F e.on v w) →
      ∀ (K : Act → World → Prop) (Q' : Exit → Act → World → Prop), (∀ v w', Below w.heap.size w w' → F i v w' → K (a.put o.dst v) w') → if Region.wanted o (yielded ops a.tmps) then o.wp P a w K Q' else F i undef w)
    (hlast : ∀ (o : Oper), ops[n]? = some o → ∀ (a : Act) (w : World), Below w0.heap.size w0 w → (∀ t, (t < base ∨ base + (n + 1) ≤ t) → a.tmps[t]? = a0.tmps[t]?) → (∀ i, i < n → ∃ v, a.tmps[base + i]? = some v ∧ F i v w) →
      ∀ (K : Act → World → Prop) (Q' : Exit → Act → World → Prop), (∀ v w', R v w' → K (a.put o.dst v) w') → if Region.wanted o (yielded ops a.tmps) then o.wp P a w K Q' else R undef w)
    (hend : ∀ (V : Nat → Value) (w : World), R (V n) w → Q .normal (fillB base a0 V (n + 1)) w) : (Code.region id ops true).wp P Q a0 w0 := by
  refine wp_region_inv hm hac (SJ base n F R w0 a0) ⟨rfl, rfl, fun _ _ => rfl, fun _ _ _ h => (by cases h), fun _ => ⟨rfl, rfl, rfl, Nat.le_refl _, fun _ _ => rfl⟩, fun h => by cases h⟩ ?_ ?_
  · intro i o ho L a w hc hJ hLi hd
    have hi : i < n + 1 := by rw [← hn]; exact (Array.getElem?_eq_some_iff.1 ho).1
    have hdo := hdst i o ho
    by_cases hin : i = n
    · subst hin
      have hall : ∀ j, j < i → L j = true := by
        intro j hj
        have h1 := List.all_eq_true.1 hl j (List.mem_range.2 hj)
        refine needs_done hc i _ (fun k hk => ?_) j h1
        rw [ho] at hk
        obtain ⟨e, he, h2⟩ := List.any_eq_true.1 hk
        rw [Bool.and_eq_true, beq_iff_eq] at h2
        rw [← h2.2]
        exact hd e he h2.1
      have hput : ∀ v w', R v w' → SJ base i F R w0 a0 (fun j => j == i || L j) (a.put o.dst v) w' := by
        intro v w' hR
        rw [hdo]
        have hs := hJ.size
        refine ⟨by rw [← hs]; simp [Act.put], hJ.defers, fun t ht => ?_, fun h => absurd (show (i == i || L i) = false from h) (by simp), fun h => absurd (show (i == i || L i) = false from h) (by simp), fun _ => ⟨⟨v, ?_, hR⟩, fun j hj => ?_⟩⟩
        · show (a.tmps.setIfInBounds (base + i) _)[t]? = _
          rw [Array.getElem?_setIfInBounds_ne (by omega)]; exact hJ.rest t ht
        · show (a.tmps.setIfInBounds (base + i) _)[base + i]? = _
          rw [Array.getElem?_setIfInBounds_self_of_lt (by omega)]
        · show (j == i || L j) = true
          rw [hall j hj, Bool.or_true]
      have hs := hlast o ho a w (hJ.world hLi) hJ.rest (fun j hj => hJ.vals hLi j hj (hall j hj)) _ Q hput
      by_cases hw : Region.wanted o (yielded ops a.tmps) = true
      · rw [if_pos hw] at hs ⊢; exact hs
      · rw [if_neg hw] at hs ⊢; exact hput _ _ hs
    · have hilt : i < n := by omega
      have hLn : L n = false := by
        cases h : L n with
        | false => rfl
        | true => have := (hJ.fin h).2 i hilt; rw [hLi] at this; cases this
      have hput : ∀ v w', Below w.heap.size w w' → F i v w' → SJ base n F R w0 a0 (fun j => j == i || L j) (a.put o.dst v) w' := by
        intro v w' hb hR
        rw [hdo]
        have hs := hJ.size
        have hni : (n == i) = false := beq_eq_false_iff_ne.2 (fun e => hin e.symm)
        refine ⟨by rw [← hs]; simp [Act.put], hJ.defers, fun t ht => ?_, fun _ j hj hl => ?_, fun _ => (hJ.world hLn).trans (hb.mono (hJ.world hLn).size), fun h => ?_⟩
        · show (a.tmps.setIfInBounds (base + i) _)[t]? = _
          rw [Array.getElem?_setIfInBounds_ne (by omega)]; exact hJ.rest t ht
        · by_cases hji : j = i
          · subst hji
            refine ⟨v, ?_, hR⟩
            show (a.tmps.setIfInBounds (base + j) _)[base + j]? = _
            rw [Array.getElem?_setIfInBounds_self_of_lt (by omega)]
          · obtain ⟨u, hu, hf⟩ := hJ.vals hLn j hj (by simpa [hji] using hl)
            refine ⟨u, ?_, hF j u w w' hf hb⟩
            show (a.tmps.setIfInBounds (base + i) _)[base + j]? = _
            rw [Array.getElem?_setIfInBounds_ne (by omega)]; exact hu
        · have h' : (n == i || L n) = true := h
          rw [hni, hLn] at h'; cases h'
      have hs := hstep i o hilt ho a w (hJ.world hLn) hJ.rest (fun e he hb => hJ.vals hLn e.on (by have := hac i o ho e he; omega) (hd e he hb)) _ Q hput
      by_cases hw : Region.wanted o (yielded ops a.tmps) = true
      · rw [if_pos hw] at hs ⊢; exact hs
      · rw [if_neg hw] at hs ⊢; exact hput _ _ (Below.refl _ _) hs
  · intro L a w hall hJ
    obtain ⟨⟨v, hv, hR⟩, _⟩ := hJ.fin (hall n (by omega))
    have he : a = fillB base a0 (fun i => a.tmps.getD (base + i) undef) (n + 1) := by
      refine fillB_eq base (n + 1) a a0 _ hJ.size hJ.defers hJ.rest fun i hi => ?_
      have hs := hJ.size
      rw [Array.getD_eq_getD_getElem?, Array.getElem?_eq_getElem (by omega)]; rfl
    have h := hend (fun i => a.tmps.getD (base + i) undef) w (by show R (a.tmps.getD (base + n) undef) w; rw [Array.getD_eq_getD_getElem?, hv]; exact hR)
    rw [← he] at h
    exact h

/-- What is carried where an assignment stands behind the last operation. -/
def SAJ (base n dA : Nat) (F : Nat → Value → World → Prop) (R : Value → World → Prop) (w0 : World) (a0 : Act) (L : Nat → Bool) (a : Act) (w : World) : Prop :=
  (L (n + 1) = false ∧ SJ base n F R w0 a0 L a w) ∨ (L (n + 1) = true ∧ (∀ j, j < n + 1 → L j = true) ∧ ∃ a1 v, a = a1.put (some dA) v ∧ SJ base n F R w0 a0 (fun _ => true) a1 w ∧ a1.tmps[base + n]? = some v ∧ R v w)
/-- .. and behind the last one an assignment of what it gave. -/
theorem wp_region_slotsA {P : Program} {ops : Array Oper} {Q : Exit → Act → World → Prop} {id : Nat} {a0 : Act} {w0 : World} (hm : P.follows .mixedOrders = true) (hac : ∀ (i : Nat) (o : Oper), ops[i]? = some o → ∀ e ∈ o.after.toList, e.on < i)
    (base n dA : Nat) (F : Nat → Value → World → Prop) (R : Value → World → Prop) (hn : ops.size = n + 2) (hz : base + (n + 1) ≤ a0.tmps.size) (hdst : ∀ (i : Nat) (o : Oper), i < n + 1 → ops[i]? = some o → o.dst = some (base + i)) (hl : lastOf .any ops n = true) (hl2 : lastOf .any ops (n + 1) = true)
    (hF : ∀ i v w w', F i v w → Below w.heap.size w w' → F i v w')
    (hstep : ∀ (i : Nat) (o : Oper), i < n → ops[i]? = some o → ∀ (a : Act) (w : World), Below w0.heap.size w0 w → (∀ t, (t < base ∨ base + (n + 1) ≤ t) → a.tmps[t]? = a0.tmps[t]?) → (∀ e ∈ o.after.toList, Region.binds .any e = true → ∃ v, a.tmps[base + e.on]? = some v ∧ F e.on v w) →
      ∀ (K : Act → World → Prop) (Q' : Exit → Act → World → Prop), (∀ v w', Below w.heap.size w w' → F i v w' → K (a.put o.dst v) w') → if Region.wanted o (yielded ops a.tmps) then o.wp P a w K Q' else F i undef w)
    (hlast : ∀ (o : Oper), ops[n]? = some o → ∀ (a : Act) (w : World), Below w0.heap.size w0 w → (∀ t, (t < base ∨ base + (n + 1) ≤ t) → a.tmps[t]? = a0.tmps[t]?) → (∀ i, i < n → ∃ v, a.tmps[base + i]? = some v ∧ F i v w) →
      ∀ (K : Act → World → Prop) (Q' : Exit → Act → World → Prop), (∀ v w', R v w' → K (a.put o.dst v) w') → if Region.wanted o (yielded ops a.tmps) then o.wp P a w K Q' else R undef w)
    (hset : ∀ (o : Oper), ops[n + 1]? = some o → ∀ (a : Act) (w : World) (v : Value), a.tmps[base + n]? = some v → ∀ (K : Act → World → Prop) (Q' : Exit → Act → World → Prop), K (a.put (some dA) v) w → if Region.wanted o (yielded ops a.tmps) then o.wp P a w K Q' else False)
    (hend : ∀ (V : Nat → Value) (w : World), R (V n) w → Q .normal ((fillB base a0 V (n + 1)).put (some dA) (V n)) w) : (Code.region id ops true).wp P Q a0 w0 := by
  refine wp_region_inv hm hac (SAJ base n dA F R w0 a0)
    (.inl ⟨rfl, rfl, rfl, fun _ _ => rfl, fun _ _ _ h => (by cases h), fun _ => ⟨rfl, rfl, rfl, Nat.le_refl _, fun _ _ => rfl⟩, fun h => by cases h⟩) ?_ ?_
  · intro i o ho L a w hc hJ hLi hd
    have hi : i < n + 2 := by rw [← hn]; exact (Array.getElem?_eq_some_iff.1 ho).1
    rcases hJ with ⟨hA, hJ⟩ | ⟨hA, hall, _⟩
    · by_cases hin : i = n + 1
      · subst hin
        have hall : ∀ j, j < n + 1 → L j = true := by
          intro j hj
          have h1 := List.all_eq_true.1 hl2 j (List.mem_range.2 hj)
          refine needs_done hc (n + 1) _ (fun k hk => ?_) j h1
          rw [ho] at hk
          obtain ⟨e, he, h2⟩ := List.any_eq_true.1 hk
          rw [Bool.and_eq_true, beq_iff_eq] at h2
          rw [← h2.2]
          exact hd e he h2.1
        obtain ⟨⟨v, hv, hR⟩, _⟩ := hJ.fin (hall n (by omega))
        have hs := hset o ho a w v hv (SAJ base n dA F R w0 a0 fun j => j == n + 1 || L j) Q
          (.inr ⟨by simp, fun j hj => by show (j == n + 1 || L j) = true; rw [hall j hj, Bool.or_true], a, v, rfl, ⟨hJ.size, hJ.defers, hJ.rest, fun h => (by cases h), fun h => (by cases h), fun _ => ⟨⟨v, hv, hR⟩, fun _ _ => rfl⟩⟩, hv, hR⟩)
        by_cases hw : Region.wanted o (yielded ops a.tmps) = true
        · rw [if_pos hw] at hs ⊢; exact hs
        · rw [if_neg hw] at hs; exact hs.elim
      · have hdo := hdst i o (by omega) ho
        have hA' : ((n + 1) == i || L (n + 1)) = false := by rw [hA, Bool.or_false, beq_eq_false_iff_ne]; omega
        by_cases hin2 : i = n
        · subst hin2
          have hall : ∀ j, j < i → L j = true := by
            intro j hj
            have h1 := List.all_eq_true.1 hl j (List.mem_range.2 hj)
            refine needs_done hc i _ (fun k hk => ?_) j h1
            rw [ho] at hk
            obtain ⟨e, he, h2⟩ := List.any_eq_true.1 hk
            rw [Bool.and_eq_true, beq_iff_eq] at h2
            rw [← h2.2]
            exact hd e he h2.1
          have hs := hlast o ho a w (hJ.world hLi) hJ.rest (fun j hj => hJ.vals hLi j hj (hall j hj)) (SAJ base i dA F R w0 a0 fun j => j == i || L j) Q (fun v w' hR => Or.inl ⟨hA', by rw [hdo]; exact hJ.putLast hz hall v hR⟩)
          by_cases hw : Region.wanted o (yielded ops a.tmps) = true
          · rw [if_pos hw] at hs ⊢; exact hs
          · rw [if_neg hw] at hs ⊢
            exact Or.inl ⟨hA', by rw [hdo]; exact hJ.putLast hz hall _ hs⟩
        · have hilt : i < n := by omega
          have hLn : L n = false := by
            cases h : L n with
            | false => rfl
            | true => have := (hJ.fin h).2 i hilt; rw [hLi] at this; cases this
          have hs := hstep i o hilt ho a w (hJ.world hLn) hJ.rest (fun e he hb => hJ.vals hLn e.on (by have := hac i o ho e he; omega) (hd e he hb)) (SAJ base n dA F R w0 a0 fun j => j == i || L j) Q (fun v w' hb hR => Or.inl ⟨hA', by rw [hdo]; exact hJ.putOne hz hF i hilt hLn v hb hR⟩)
          by_cases hw : Region.wanted o (yielded ops a.tmps) = true
          · rw [if_pos hw] at hs ⊢; exact hs
          · rw [if_neg hw] at hs ⊢
            exact Or.inl ⟨hA', by rw [hdo]; exact hJ.putOne hz hF i hilt hLn _ (Below.refl _ _) hs⟩
    · by_cases hin : i = n + 1
      · subst hin; rw [hA] at hLi; cases hLi
      · rw [hall i (by omega)] at hLi; cases hLi
  · intro L a w hall hJ
    rcases hJ with ⟨hA, _⟩ | ⟨_, _, a1, v, rfl, hJ, hv, hR⟩
    · rw [hall (n + 1) (by omega)] at hA; cases hA
    · rcases hJ.fill with he | hno
      · have hvn : a1.tmps.getD (base + n) undef = v := by rw [Array.getD_eq_getD_getElem?, hv]; rfl
        have h := hend (fun i => a1.tmps.getD (base + i) undef) w (by show R (a1.tmps.getD (base + n) undef) w; rw [hvn]; exact hR)
        rw [← he] at h
        have h' : Q .normal (a1.put (some dA) (a1.tmps.getD (base + n) undef)) w := h
        rw [hvn] at h'
        exact h'
      · exact absurd hz hno

end Go.Proofs.YtjkgmdnkejjppaaGreatDoor
