/- Joined texts: Ord. -/
import Derived.Orders
import Derived.Test.YtjkgmdnkejjppaaGreatDoorGa
/- A region that draws its order, by a relation that each operation keeps: one step for each operation, whatever was done ahead of it. -/
namespace Go.Proofs.YtjkgmdnkejjppaaGreatDoor
open Go

theorem filter_lt {α : Type} (p q : α → Bool) (h : ∀ x, q x = true → p x = true) (x : α) (hp : p x = true) (hq : q x = false) : ∀ l : List α, x ∈ l → (l.filter q).length < (l.filter p).length
  | [], hx => by cases hx
  | y :: l, hx => by
    have hle : (l.filter q).length ≤ (l.filter p).length := by
      clear hx
      induction l with
      | nil => simp
      | cons z l ih =>
        rw [List.filter_cons, List.filter_cons]
        by_cases hz : q z = true
        · rw [if_pos hz, if_pos (h z hz)]; simpa using ih
        · rw [if_neg hz]
          split
          · simp only [List.length_cons]; omega
          · exact ih
    rw [List.filter_cons, List.filter_cons]
    rcases List.mem_cons.1 hx with rfl | hx
    · rw [if_pos hp, if_neg (by rw [hq]; simp)]
      simp only [List.length_cons]; omega
    · have ih := filter_lt p q h x hp hq l hx
      by_cases hy : q y = true
      · rw [if_pos hy, if_pos (h y hy)]; simpa using ih
      · rw [if_neg hy]
        split
        · simp only [List.length_cons]; omega
        · exact ih

section
variable {P : Program} {ops : Array Oper} {Q : Exit → Act → World → Prop} {md : Region.Mode}

/-- What is done: operation j. -/
def dn (listed : Array Bool) (j : Nat) : Bool := listed.getD j false
theorem dn_set (listed : Array Bool) (i : Nat) (h : i < listed.size) : dn (listed.setIfInBounds i true) = fun j => j == i || dn listed j := by
  funext j
  unfold dn
  rw [Array.getD_eq_getD_getElem?, Array.getD_eq_getD_getElem?, Array.getElem?_setIfInBounds]
  by_cases hj : i = j
  · subst hj; simp [h]
  · have : (j == i) = false := beq_eq_false_iff_ne.2 (fun e => hj e.symm)
    rw [if_neg hj, this, Bool.false_or]
theorem getD_tf (listed : Array Bool) (i : Nat) (h : i < listed.size) : listed.getD i true = dn listed i := by
  unfold dn; simp [h]
/-- What was done was done behind all that it waits for. -/
def Cl (md : Region.Mode) (ops : Array Oper) (L : Nat → Bool) : Prop := ∀ (j : Nat) (o : Oper), ops[j]? = some o → L j = true → ∀ e ∈ o.after.toList, Region.binds md e = true → L e.on = true

theorem ready_iff (listed : Array Bool) (hz : listed.size = ops.size) (i : Nat) : i ∈ Region.ready md ops listed ↔ ∃ o, ops[i]? = some o ∧ dn listed i = false ∧ ∀ e ∈ o.after.toList, Region.binds md e = true → dn listed e.on = true := by
  unfold Region.ready
  rw [List.mem_filter, List.mem_range]
  constructor
  · rintro ⟨h1, h2⟩
    rw [Bool.and_eq_true] at h2
    obtain ⟨h2, h3⟩ := h2
    rw [getD_tf _ _ (by omega)] at h2
    rw [Array.getElem?_eq_getElem h1] at h3
    refine ⟨_, Array.getElem?_eq_getElem h1, by simpa using h2, fun e he hb => ?_⟩
    simp only [Option.map_some, Option.getD_some] at h3
    rw [← Array.all_toList, List.all_eq_true] at h3
    have := h3 e he
    rw [hb] at this
    simpa [dn] using this
  · rintro ⟨o, h1, h2, h3⟩
    have hi : i < ops.size := (Array.getElem?_eq_some_iff.1 h1).1
    refine ⟨hi, ?_⟩
    rw [getD_tf _ _ (by omega), h2, h1]
    simp only [Option.map_some, Option.getD_some, Bool.not_false, Bool.true_and]
    rw [← Array.all_toList, List.all_eq_true]
    intro e he
    cases hb : Region.binds md e with
    | false => rfl
    | true => simpa [dn] using h3 e he hb

theorem all_done (hac : ∀ (i : Nat) (o : Oper), ops[i]? = some o → ∀ e ∈ o.after.toList, e.on < i) (listed : Array Bool) (hz : listed.size = ops.size) (h : Region.ready md ops listed = []) : ∀ i, i < ops.size → dn listed i = true := by
  intro i
  induction i using Nat.strongRecOn with
  | _ i ih =>
    intro hi
    cases hd : dn listed i with
    | true => rfl
    | false =>
      have : i ∈ Region.ready md ops listed := (ready_iff listed hz i).2 ⟨_, Array.getElem?_eq_getElem hi, hd, fun e he _ => by
        have hlt := hac i _ (Array.getElem?_eq_getElem hi) e he
        exact ih _ hlt (by omega)⟩
      rw [h] at this; cases this

theorem wpAny_inv (hac : ∀ (i : Nat) (o : Oper), ops[i]? = some o → ∀ e ∈ o.after.toList, e.on < i) (J : (Nat → Bool) → Act → World → Prop)
    (hstep : ∀ (i : Nat) (o : Oper), ops[i]? = some o → ∀ (L : Nat → Bool) (a : Act) (w : World), Cl md ops L → J L a w → L i = false → (∀ e ∈ o.after.toList, Region.binds md e = true → L e.on = true) →
      if Region.wanted o (yielded ops a.tmps) then o.wp P a w (J fun j => j == i || L j) Q else J (fun j => j == i || L j) (a.put o.dst undef) w)
    (hend : ∀ (L : Nat → Bool) (a : Act) (w : World), (∀ i, i < ops.size → L i = true) → J L a w → Q .normal a w) :
    ∀ (fuel : Nat) (listed : Array Bool) (a : Act) (w : World), listed.size = ops.size → ((List.range ops.size).filter fun i => !dn listed i).length ≤ fuel → Cl md ops (dn listed) → J (dn listed) a w → wpAny P md ops Q fuel listed a w := by
  intro fuel
  induction fuel with
  | zero =>
    intro listed a w hz hf hc hj
    have hr : Region.ready md ops listed = [] := by
      apply List.eq_nil_iff_forall_not_mem.2
      intro i hi
      obtain ⟨o, h1, h2, _⟩ := (ready_iff listed hz i).1 hi
      have hlt : i < ops.size := (Array.getElem?_eq_some_iff.1 h1).1
      have : i ∈ (List.range ops.size).filter fun i => !dn listed i := List.mem_filter.2 ⟨List.mem_range.2 hlt, by rw [h2]; rfl⟩
      have hnil : ((List.range ops.size).filter fun i => !dn listed i) = [] := List.eq_nil_of_length_eq_zero (Nat.le_zero.1 hf)
      rw [hnil] at this
      cases this
    exact ⟨hr, hend _ _ _ (all_done hac listed hz hr) hj⟩
  | succ fuel ih =>
    intro listed a w hz hf hc hj
    refine ⟨fun hr => hend _ _ _ (all_done hac listed hz hr) hj, fun i hi => ?_⟩
    obtain ⟨o, h1, h2, h3⟩ := (ready_iff listed hz i).1 hi
    have hlt : i < ops.size := (Array.getElem?_eq_some_iff.1 h1).1
    have hs := hstep i o h1 (dn listed) a w hc hj h2 h3
    have hgo : ∀ a' w', J (fun j => j == i || dn listed j) a' w' → wpAny P md ops Q fuel (listed.setIfInBounds i true) a' w' := by
      intro a' w' hj'
      refine ih _ _ _ (by simpa using hz) ?_ ?_ (by rw [dn_set _ _ (by omega)]; exact hj')
      · rw [dn_set _ _ (by omega)]
        have := filter_lt (fun j => !dn listed j) (fun j => !(j == i || dn listed j)) (fun x hx => by simp at hx ⊢; exact hx.2) i (by rw [h2]; rfl) (by simp) (List.range ops.size) (List.mem_range.2 hlt)
        exact Nat.le_of_lt_succ (Nat.lt_of_lt_of_le this hf)
      · rw [dn_set _ _ (by omega)]
        intro j o' ho' hj' e he hb
        rcases Bool.or_eq_true_iff.1 hj' with hj' | hj'
        · have : j = i := by simpa using hj'
          subst this
          rw [h1] at ho'
          cases ho'
          show (e.on == j || dn listed e.on) = true
          rw [h3 e he hb, Bool.or_true]
        · show (e.on == i || dn listed e.on) = true
          rw [hc j o' ho' hj' e he hb, Bool.or_true]
    unfold wpOp
    rw [h1]
    show if Region.wanted o (yielded ops a.tmps) then _ else _
    split
    · rename_i hw
      rw [if_pos hw] at hs
      exact .inl (Oper.wp_mono hgo hs)
    · rename_i hw
      rw [if_neg hw] at hs
      exact hgo _ _ hs

/-- A region that draws its order: a relation that each operation keeps. -/
theorem wp_region_inv {id : Nat} {a : Act} {w : World} (hm : P.follows .mixedOrders = true) (hac : ∀ (i : Nat) (o : Oper), ops[i]? = some o → ∀ e ∈ o.after.toList, e.on < i) (J : (Nat → Bool) → Act → World → Prop)
    (h0 : J (fun _ => false) a w.drew)
    (hstep : ∀ (i : Nat) (o : Oper), ops[i]? = some o → ∀ (L : Nat → Bool) (a : Act) (w : World), Cl .any ops L → J L a w → L i = false → (∀ e ∈ o.after.toList, Region.binds .any e = true → L e.on = true) →
      if Region.wanted o (yielded ops a.tmps) then o.wp P a w (J fun j => j == i || L j) Q else J (fun j => j == i || L j) (a.put o.dst undef) w)
    (hend : ∀ (L : Nat → Bool) (a : Act) (w : World), (∀ i, i < ops.size → L i = true) → J L a w → Q .normal a w) : (Code.region id ops true).wp P Q a w := by
  have hd : dn (Array.replicate ops.size false) = fun _ => false := by
    funext j
    unfold dn
    by_cases h : j < ops.size <;> simp [h]
  refine wp_region_any hm (wpAny_inv hac J hstep hend _ _ _ _ (by simp) ?_ ?_ (by rw [hd]; exact h0))
  · exact Nat.le_trans (List.length_filter_le _ _) (by simp)
  · rw [hd]; intro j o _ h; cases h
end

end Go.Proofs.YtjkgmdnkejjppaaGreatDoor
