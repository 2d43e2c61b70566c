/- Joined texts: OrdP OrdI OrdD. -/
import Derived.Test.YtjkgmdnkejjppaaGreatDoorGu
import Derived.Test.YtjkgmdnkejjppaaGreatDoorGp
/- A region that draws its order, of reads, calls and new rows, an append behind them all, an address, and a store of what the append gave. -/
namespace Go.Proofs.YtjkgmdnkejjppaaGreatDoor
open Go Go.RowKit

structure PJ (base n : Nat) (F : Nat → Value → World → Prop) (pv : Value) (R : Value → World → Prop) (Rf : World → Prop) (w0 : World) (a0 : Act) (L : Nat → Bool) (a : Act) (w : World) : Prop where
  of ::
  size : a.tmps.size = a0.tmps.size
  defers : a.defers = a0.defers
  rest : ∀ t, (t < base ∨ base + (n + 2) ≤ t) → a.tmps[t]? = a0.tmps[t]?
  vals : L n = false → ∀ i, i < n → L i = true → ∃ v, a.tmps[base + i]? = some v ∧ F i v w
  world : L n = false → Below w0.heap.size w0 w
  addr : L (n + 1) = true → a.tmps[base + (n + 1)]? = some pv
  all : L n = true → ∀ i, i < n → L i = true
  mid : L n = true → L (n + 2) = false → ∃ v, a.tmps[base + n]? = some v ∧ R v w
  fin : L (n + 2) = true → Rf w ∧ L n = true ∧ L (n + 1) = true

theorem put_get_ne (a : Act) (d j : Nat) (v : Value) (h : d ≠ j) : (a.put (some d) v).tmps[j]? = a.tmps[j]? := Array.getElem?_setIfInBounds_ne h
theorem put_get_eq (a : Act) (d : Nat) (v : Value) (h : d < a.tmps.size) : (a.put (some d) v).tmps[d]? = some v := Array.getElem?_setIfInBounds_self_of_lt h

theorem wp_region_push {P : Program} {ops : Array Oper} {Q : Exit → Act → World → Prop} {id : Nat} {a0 : Act} {w0 : World} (hm : P.follows .mixedOrders = true) (hac : ∀ (i : Nat) (o : Oper), ops[i]? = some o → ∀ e ∈ o.after.toList, e.on < i)
    (base n : Nat) (F : Nat → Value → World → Prop) (pv : Value) (R : Value → World → Prop) (Rf : World → Prop) (hn : ops.size = n + 3) (hz : base + (n + 2) ≤ a0.tmps.size) (hdst : ∀ (i : Nat) (o : Oper), i < n + 2 → ops[i]? = some o → o.dst = some (base + i)) (hdst2 : ∀ o, ops[n + 2]? = some o → o.dst = none)
    (hl : lastOf .any ops n = true) (hl2 : lastOf .any ops (n + 2) = true) (hdep : ∀ (i : Nat) (o : Oper), i < n → ops[i]? = some o → ∀ e ∈ o.after.toList, e.on < n)
    (hF : ∀ i v w w', F i v w → Below w.heap.size w w' → F i v w')
    (hstep : ∀ (i : Nat) (o : Oper), i < n → ops[i]? = some o → ∀ (a : Act) (w : World), Below w0.heap.size w0 w → (∀ t, (t < base ∨ base + (n + 2) ≤ t) → a.tmps[t]? = a0.tmps[t]?) → (∀ e ∈ o.after.toList, Region.binds .any e = true → ∃ v, a.tmps[base + e.on]? = some v ∧ F e.on v w) →
      ∀ (K : Act → World → Prop) (Q' : Exit → Act → World → Prop), (∀ v w', Below w.heap.size w w' → F i v w' → K (a.put o.dst v) w') → if Region.wanted o (yielded ops a.tmps) then o.wp P a w K Q' else F i undef w)
    (hlast : ∀ (o : Oper), ops[n]? = some o → ∀ (a : Act) (w : World), Below w0.heap.size w0 w → (∀ i, i < n → ∃ v, a.tmps[base + i]? = some v ∧ F i v w) →
      ∀ (K : Act → World → Prop) (Q' : Exit → Act → World → Prop), (∀ v w', R v w' → K (a.put o.dst v) w') → if Region.wanted o (yielded ops a.tmps) then o.wp P a w K Q' else False)
    (haddr : ∀ (o : Oper), ops[n + 1]? = some o → ∀ (a : Act) (w : World), (∀ t, (t < base ∨ base + (n + 2) ≤ t) → a.tmps[t]? = a0.tmps[t]?) → ∀ (K : Act → World → Prop) (Q' : Exit → Act → World → Prop), K (a.put o.dst pv) w → if Region.wanted o (yielded ops a.tmps) then o.wp P a w K Q' else False)
    (hstore : ∀ (o : Oper), ops[n + 2]? = some o → ∀ (a : Act) (w : World) (v : Value), a.tmps[base + n]? = some v → a.tmps[base + (n + 1)]? = some pv → R v w → ∀ (K : Act → World → Prop) (Q' : Exit → Act → World → Prop), (∀ w', Rf w' → K (a.put none undef) w') → if Region.wanted o (yielded ops a.tmps) then o.wp P a w K Q' else False)
    (hend : ∀ (V : Nat → Value) (w : World), Rf w → Q .normal (fillB base a0 V (n + 2)) w) : (Code.region id ops true).wp P Q a0 w0 := by
  refine wp_region_inv hm hac (PJ base n F pv R Rf w0 a0) ⟨rfl, rfl, fun _ _ => rfl, fun _ _ _ h => (by cases h), fun _ => ⟨rfl, rfl, rfl, Nat.le_refl _, fun _ _ => rfl⟩, fun h => (by cases h), fun h => (by cases h), fun h => (by cases h), fun h => by cases h⟩ ?_ ?_
  · intro i o ho L a w hc hJ hLi hd
    have hi : i < n + 3 := by rw [← hn]; exact (Array.getElem?_eq_some_iff.1 ho).1
    have hs0 := hJ.size
    have alln : ∀ k, lastOf .any ops k = true → ops[k]? = some o → (∀ e ∈ o.after.toList, Region.binds .any e = true → L e.on = true) → ∀ j, j < k → L j = true := by
      intro k hk hok hdk j hj
      have h1 := List.all_eq_true.1 hk j (List.mem_range.2 hj)
      refine needs_done hc k _ (fun x hx => ?_) j h1
      rw [hok] at hx
      obtain ⟨e, he, h2⟩ := List.any_eq_true.1 hx
      rw [Bool.and_eq_true, beq_iff_eq] at h2
      rw [← h2.2]
      exact hdk e he h2.1
    have nofin : i ≠ n + 2 → L (n + 2) = false := by
      intro hne
      cases h : L (n + 2) with
      | false => rfl
      | true =>
        have h3 := hJ.fin h
        have h4 := hJ.all h3.2.1
        rcases Nat.lt_trichotomy i n with h5 | h5 | h5
        · rw [h4 i h5] at hLi; cases hLi
        · subst h5; rw [h3.2.1] at hLi; cases hLi
        · have : i = n + 1 := by omega
          subst this; rw [h3.2.2] at hLi; cases hLi
    rcases Nat.lt_trichotomy i n with hin | hin | hin
    · have hLn : L n = false := by
        cases h : L n with
        | false => rfl
        | true => rw [hJ.all h i hin] at hLi; cases hLi
      have hL2 := nofin (by omega)
      have hdo := hdst i o (by omega) ho
      have hput : ∀ v w', Below w.heap.size w w' → F i v w' → PJ base n F pv R Rf w0 a0 (fun j => j == i || L j) (a.put o.dst v) w' := by
        intro v w' hb hR
        rw [hdo]
        have e1 : (n == i) = false := beq_eq_false_iff_ne.2 (by omega)
        have e2 : (n + 1 == i) = false := beq_eq_false_iff_ne.2 (by omega)
        have e3 : (n + 2 == i) = false := beq_eq_false_iff_ne.2 (by omega)
        refine ⟨by rw [← hs0]; simp [Act.put], hJ.defers, fun t ht => by rw [put_get_ne _ _ _ _ (by omega)]; exact hJ.rest t ht, fun _ j hj hl => ?_, fun _ => (hJ.world hLn).trans (hb.mono (hJ.world hLn).size), fun h => ?_, fun h => ?_, fun h => ?_, fun h => ?_⟩
        · by_cases hji : j = i
          · subst hji
            exact ⟨v, put_get_eq _ _ _ (by omega), hR⟩
          · obtain ⟨u, hu, hf⟩ := hJ.vals hLn j hj (by simpa [hji] using hl)
            exact ⟨u, by rw [put_get_ne _ _ _ _ (by omega)]; exact hu, hF j u w w' hf hb⟩
        · have h' : (n + 1 == i || L (n + 1)) = true := h
          rw [e2, Bool.false_or] at h'
          rw [put_get_ne _ _ _ _ (by omega)]; exact hJ.addr h'
        · have h' : (n == i || L n) = true := h
          rw [e1, hLn] at h'; cases h'
        · have h' : (n == i || L n) = true := h
          rw [e1, hLn] at h'; cases h'
        · have h' : (n + 2 == i || L (n + 2)) = true := h
          rw [e3, hL2] at h'; cases h'
      have hs := hstep i o hin ho a w (hJ.world hLn) hJ.rest (fun e he hb => hJ.vals hLn e.on (hdep i o hin ho e he) (hd e he hb)) _ Q hput
      by_cases hw : Region.wanted o (yielded ops a.tmps) = true
      · rw [if_pos hw] at hs ⊢; exact hs
      · rw [if_neg hw] at hs ⊢; exact hput _ _ (Below.refl _ _) hs
    · subst hin
      have hall := alln i hl ho hd
      have hL2 := nofin (by omega)
      have hdo := hdst i o (by omega) ho
      have hs := hlast o ho a w (hJ.world hLi) (fun j hj => hJ.vals hLi j hj (hall j hj)) (PJ base i F pv R Rf w0 a0 fun j => j == i || L j) Q (fun v w' hR => by
        rw [hdo]
        have e2 : (i + 1 == i) = false := beq_eq_false_iff_ne.2 (by omega)
        have e3 : (i + 2 == i) = false := beq_eq_false_iff_ne.2 (by omega)
        refine ⟨by rw [← hs0]; simp [Act.put], hJ.defers, fun t ht => by rw [put_get_ne _ _ _ _ (by omega)]; exact hJ.rest t ht, fun h => absurd (show (i == i || L i) = false from h) (by simp), fun h => absurd (show (i == i || L i) = false from h) (by simp), fun h => ?_, fun _ j hj => by show (j == i || L j) = true; rw [hall j hj, Bool.or_true], fun _ _ => ⟨v, put_get_eq _ _ _ (by omega), hR⟩, fun h => ?_⟩
        · have h' : (i + 1 == i || L (i + 1)) = true := h
          rw [e2, Bool.false_or] at h'
          rw [put_get_ne _ _ _ _ (by omega)]; exact hJ.addr h'
        · have h' : (i + 2 == i || L (i + 2)) = true := h
          rw [e3, hL2] at h'; cases h')
      by_cases hw : Region.wanted o (yielded ops a.tmps) = true
      · rw [if_pos hw] at hs ⊢; exact hs
      · rw [if_neg hw] at hs; exact hs.elim
    · by_cases hi1 : i = n + 1
      · subst hi1
        have hL2 := nofin (by omega)
        have hdo := hdst (n + 1) o (by omega) ho
        have e1 : (n == n + 1) = false := beq_eq_false_iff_ne.2 (by omega)
        have e3 : (n + 2 == n + 1) = false := beq_eq_false_iff_ne.2 (by omega)
        have hs := haddr o ho a w hJ.rest (PJ base n F pv R Rf w0 a0 fun j => j == n + 1 || L j) Q (by
          rw [hdo]
          refine ⟨by rw [← hs0]; simp [Act.put], hJ.defers, fun t ht => by rw [put_get_ne _ _ _ _ (by omega)]; exact hJ.rest t ht, fun h j hj hl => ?_, fun h => ?_, fun _ => put_get_eq _ _ _ (by omega), fun h j hj => ?_, fun h _ => ?_, fun h => ?_⟩
          · have h' : (n == n + 1 || L n) = false := h
            rw [e1, Bool.false_or] at h'
            have ej : (j == n + 1) = false := beq_eq_false_iff_ne.2 (by omega)
            have hl' : (j == n + 1 || L j) = true := hl
            rw [ej, Bool.false_or] at hl'
            obtain ⟨u, hu, hf⟩ := hJ.vals h' j hj hl'
            exact ⟨u, by rw [put_get_ne _ _ _ _ (by omega)]; exact hu, hf⟩
          · have h' : (n == n + 1 || L n) = false := h
            rw [e1, Bool.false_or] at h'
            exact hJ.world h'
          · have h' : (n == n + 1 || L n) = true := h
            rw [e1, Bool.false_or] at h'
            show (j == n + 1 || L j) = true
            rw [hJ.all h' j hj, Bool.or_true]
          · have h' : (n == n + 1 || L n) = true := h
            rw [e1, Bool.false_or] at h'
            obtain ⟨v, hv, hR⟩ := hJ.mid h' hL2
            exact ⟨v, by rw [put_get_ne _ _ _ _ (by omega)]; exact hv, hR⟩
          · have h' : (n + 2 == n + 1 || L (n + 2)) = true := h
            rw [e3, hL2] at h'; cases h')
        by_cases hw : Region.wanted o (yielded ops a.tmps) = true
        · rw [if_pos hw] at hs ⊢; exact hs
        · rw [if_neg hw] at hs; exact hs.elim
      · have hi2 : i = n + 2 := by omega
        subst hi2
        have hall := alln (n + 2) hl2 ho hd
        obtain ⟨v, hv, hR⟩ := hJ.mid (hall n (by omega)) hLi
        have hs := hstore o ho a w v hv (hJ.addr (hall (n + 1) (by omega))) hR (PJ base n F pv R Rf w0 a0 fun j => j == n + 2 || L j) Q (fun w' hRf => by
          have hor : ∀ j, j < n + 2 → (j == n + 2 || L j) = true := fun j hj => by rw [hall j hj, Bool.or_true]
          refine ⟨hs0, hJ.defers, hJ.rest, fun h => absurd (show (n == n + 2 || L n) = false from h) (by rw [hor n (by omega)]; simp), fun h => absurd (show (n == n + 2 || L n) = false from h) (by rw [hor n (by omega)]; simp), fun _ => hJ.addr (hall (n + 1) (by omega)), fun _ j hj => hor j (by omega), fun _ h => absurd (show (n + 2 == n + 2 || L (n + 2)) = false from h) (by simp), fun _ => ⟨hRf, hor n (by omega), hor (n + 1) (by omega)⟩⟩)
        have hdo := hdst2 o ho
        by_cases hw : Region.wanted o (yielded ops a.tmps) = true
        · rw [if_pos hw] at hs ⊢; exact hs
        · rw [if_neg hw] at hs; exact hs.elim
  · intro L a w hall hJ
    obtain ⟨hRf, _, _⟩ := hJ.fin (hall (n + 2) (by omega))
    have he : a = fillB base a0 (fun i => a.tmps.getD (base + i) undef) (n + 2) := by
      refine fillB_eq base (n + 2) a a0 _ hJ.size hJ.defers hJ.rest fun i hi => ?_
      have hs := hJ.size
      rw [Array.getD_eq_getD_getElem?, Array.getElem?_eq_getElem (by omega)]; rfl
    have h := hend (fun i => a.tmps.getD (base + i) undef) w hRf
    rw [← he] at h
    exact h

end Go.Proofs.YtjkgmdnkejjppaaGreatDoor
/- The invariant of a region that draws its order, where an edge that does not bind may go forward. -/
namespace Go.Proofs.YtjkgmdnkejjppaaGreatDoor
open Go Go.RowKit

section
variable {P : Program} {ops : Array Oper} {Q : Exit → Act → World → Prop} {md : Region.Mode}
theorem all_doneB (hac : ∀ (i : Nat) (o : Oper), ops[i]? = some o → ∀ e ∈ o.after.toList, Region.binds md e = true → e.on < i) (listed : Array Bool) (hz : listed.size = ops.size) (h : Region.ready md ops listed = []) : ∀ i, i < ops.size → dn listed i = true := by
  intro i
  induction i using Nat.strongRecOn with
  | _ i ih =>
    intro hi
    cases hd : dn listed i with
    | true => rfl
    | false =>
      have : i ∈ Region.ready md ops listed := (ready_iff listed hz i).2 ⟨_, Array.getElem?_eq_getElem hi, hd, fun e he hb => by
        have hlt := hac i _ (Array.getElem?_eq_getElem hi) e he hb
        exact ih _ hlt (by omega)⟩
      rw [h] at this; cases this

theorem wpAny_invB (hac : ∀ (i : Nat) (o : Oper), ops[i]? = some o → ∀ e ∈ o.after.toList, Region.binds md e = true → e.on < i) (J : (Nat → Bool) → Act → World → Prop)
    (hstep : ∀ (i : Nat) (o : Oper), ops[i]? = some o → ∀ (L : Nat → Bool) (a : Act) (w : World), Cl md ops L → J L a w → L i = false → (∀ e ∈ o.after.toList, Region.binds md e = true → L e.on = true) →
      if Region.wanted o (yielded ops a.tmps) then o.wp P a w (J fun j => j == i || L j) Q else J (fun j => j == i || L j) (a.put o.dst undef) w)
    (hend : ∀ (L : Nat → Bool) (a : Act) (w : World), (∀ i, i < ops.size → L i = true) → J L a w → Q .normal a w) :
    ∀ (fuel : Nat) (listed : Array Bool) (a : Act) (w : World), listed.size = ops.size → ((List.range ops.size).filter fun i => !dn listed i).length ≤ fuel → Cl md ops (dn listed) → J (dn listed) a w → wpAny P md ops Q fuel listed a w := by
  intro fuel
  induction fuel with
  | zero =>
    intro listed a w hz hf hc hj
    have hr : Region.ready md ops listed = [] := by
      apply List.eq_nil_iff_forall_not_mem.2
      intro i hi
      obtain ⟨o, h1, h2, _⟩ := (ready_iff listed hz i).1 hi
      have hlt : i < ops.size := (Array.getElem?_eq_some_iff.1 h1).1
      have : i ∈ (List.range ops.size).filter fun i => !dn listed i := List.mem_filter.2 ⟨List.mem_range.2 hlt, by rw [h2]; rfl⟩
      have hnil : ((List.range ops.size).filter fun i => !dn listed i) = [] := List.eq_nil_of_length_eq_zero (Nat.le_zero.1 hf)
      rw [hnil] at this
      cases this
    exact ⟨hr, hend _ _ _ (all_doneB hac listed hz hr) hj⟩
  | succ fuel ih =>
    intro listed a w hz hf hc hj
    refine ⟨fun hr => hend _ _ _ (all_doneB hac listed hz hr) hj, fun i hi => ?_⟩
    obtain ⟨o, h1, h2, h3⟩ := (ready_iff listed hz i).1 hi
    have hlt : i < ops.size := (Array.getElem?_eq_some_iff.1 h1).1
    have hs := hstep i o h1 (dn listed) a w hc hj h2 h3
    have hgo : ∀ a' w', J (fun j => j == i || dn listed j) a' w' → wpAny P md ops Q fuel (listed.setIfInBounds i true) a' w' := by
      intro a' w' hj'
      refine ih _ _ _ (by simpa using hz) ?_ ?_ (by rw [dn_set _ _ (by omega)]; exact hj')
      · rw [dn_set _ _ (by omega)]
        have := filter_lt (fun j => !dn listed j) (fun j => !(j == i || dn listed j)) (fun x hx => by simp at hx ⊢; exact hx.2) i (by rw [h2]; rfl) (by simp) (List.range ops.size) (List.mem_range.2 hlt)
        exact Nat.le_of_lt_succ (Nat.lt_of_lt_of_le this hf)
      · rw [dn_set _ _ (by omega)]
        intro j o' ho' hj' e he hb
        rcases Bool.or_eq_true_iff.1 hj' with hj' | hj'
        · have : j = i := by simpa using hj'
          subst this
          rw [h1] at ho'
          cases ho'
          show (e.on == j || dn listed e.on) = true
          rw [h3 e he hb, Bool.or_true]
        · show (e.on == i || dn listed e.on) = true
          rw [hc j o' ho' hj' e he hb, Bool.or_true]
    unfold wpOp
    rw [h1]
    show if Region.wanted o (yielded ops a.tmps) then _ else _
    split
    · rename_i hw
      rw [if_pos hw] at hs
      exact .inl (Oper.wp_mono hgo hs)
    · rename_i hw
      rw [if_neg hw] at hs
      exact hgo _ _ hs

/-- A region that draws its order: a relation that each operation keeps. -/
theorem wp_region_invB {id : Nat} {a : Act} {w : World} (hm : P.follows .mixedOrders = true) (hac : ∀ (i : Nat) (o : Oper), ops[i]? = some o → ∀ e ∈ o.after.toList, Region.binds .any e = true → e.on < i) (J : (Nat → Bool) → Act → World → Prop)
    (h0 : J (fun _ => false) a w.drew)
    (hstep : ∀ (i : Nat) (o : Oper), ops[i]? = some o → ∀ (L : Nat → Bool) (a : Act) (w : World), Cl .any ops L → J L a w → L i = false → (∀ e ∈ o.after.toList, Region.binds .any e = true → L e.on = true) →
      if Region.wanted o (yielded ops a.tmps) then o.wp P a w (J fun j => j == i || L j) Q else J (fun j => j == i || L j) (a.put o.dst undef) w)
    (hend : ∀ (L : Nat → Bool) (a : Act) (w : World), (∀ i, i < ops.size → L i = true) → J L a w → Q .normal a w) : (Code.region id ops true).wp P Q a w := by
  have hd : dn (Array.replicate ops.size false) = fun _ => false := by
    funext j
    unfold dn
    by_cases h : j < ops.size <;> simp [h]
  refine wp_region_any hm (wpAny_invB hac J hstep hend _ _ _ _ (by simp) ?_ ?_ (by rw [hd]; exact h0))
  · exact Nat.le_trans (List.length_filter_le _ _) (by simp)
  · rw [hd]; intro j o _ h; cases h
end

end Go.Proofs.YtjkgmdnkejjppaaGreatDoor
/- A region that draws its order, whatever slots its operations write: each step keeps what the others have laid. -/
namespace Go.Proofs.YtjkgmdnkejjppaaGreatDoor
open Go Go.RowKit

def fillD (D : Nat → Nat) (b : Act) (V : Nat → Value) : Nat → Act
  | 0 => b
  | n + 1 => (fillD D b V n).put (some (D n)) (V n)
theorem fillD_size (D : Nat → Nat) (b : Act) (V : Nat → Value) : ∀ n, (fillD D b V n).tmps.size = b.tmps.size
  | 0 => rfl
  | n + 1 => by
    show ((fillD D b V n).tmps.setIfInBounds _ _).size = _
    rw [Array.size_setIfInBounds]; exact fillD_size D b V n
theorem fillD_defers (D : Nat → Nat) (b : Act) (V : Nat → Value) : ∀ n, (fillD D b V n).defers = b.defers
  | 0 => rfl
  | n + 1 => fillD_defers D b V n
theorem fillD_other (D : Nat → Nat) (b : Act) (V : Nat → Value) (t : Nat) : ∀ n, (∀ i, i < n → D i ≠ t) → (fillD D b V n).tmps[t]? = b.tmps[t]?
  | 0, _ => rfl
  | n + 1, h => by
    rw [fillD, put_get_ne _ _ _ _ (h n (by omega))]
    exact fillD_other D b V t n fun i hi => h i (by omega)
theorem fillD_at (D : Nat → Nat) (b : Act) (V : Nat → Value) : ∀ n, (∀ i j, i < n → j < n → D i = D j → i = j) → (∀ i, i < n → D i < b.tmps.size) → ∀ i, i < n → (fillD D b V n).tmps[D i]? = some (V i)
  | 0, _, _, i, h => by omega
  | n + 1, hD, hz, i, h => by
    rw [fillD]
    by_cases hi : i = n
    · subst hi
      exact put_get_eq _ _ _ (by rw [fillD_size]; exact hz i h)
    · rw [put_get_ne _ _ _ _ (fun e => hi (hD i n h (by omega) e.symm))]
      exact fillD_at D b V n (fun a c ha hc e => hD a c (by omega) (by omega) e) (fun a ha => hz a (by omega)) i (by omega)

structure DJ (D : Nat → Nat) (n : Nat) (F : (Nat → Bool) → Nat → Value → World → Prop) (w0 : World) (a0 : Act) (L : Nat → Bool) (a : Act) (w : World) : Prop where
  of ::
  size : a.tmps.size = a0.tmps.size
  defers : a.defers = a0.defers
  rest : ∀ t, (∀ i, i < n → D i ≠ t) → a.tmps[t]? = a0.tmps[t]?
  vals : ∀ i, i < n → L i = true → ∃ v, a.tmps[D i]? = some v ∧ F L i v w
  world : Below w0.heap.size w0 w

theorem wp_region_free {P : Program} {ops : Array Oper} {Q : Exit → Act → World → Prop} {id : Nat} {a0 : Act} {w0 : World} (hm : P.follows .mixedOrders = true) (hac : ∀ (i : Nat) (o : Oper), ops[i]? = some o → ∀ e ∈ o.after.toList, Region.binds .any e = true → e.on < i)
    (D : Nat → Nat) (n : Nat) (F : (Nat → Bool) → Nat → Value → World → Prop) (hn : ops.size = n) (hD : ∀ i j, i < n → j < n → D i = D j → i = j) (hz : ∀ i, i < n → D i < a0.tmps.size) (hdst : ∀ (i : Nat) (o : Oper), ops[i]? = some o → o.dst = some (D i))
    (hstep : ∀ (i : Nat) (o : Oper), i < n → ops[i]? = some o → ∀ (L : Nat → Bool) (a : Act) (w : World), Cl .any ops L → Below w0.heap.size w0 w → (∀ t, (∀ i, i < n → D i ≠ t) → a.tmps[t]? = a0.tmps[t]?) → L i = false → (∀ e ∈ o.after.toList, Region.binds .any e = true → L e.on = true) → (∀ j, j < n → L j = true → ∃ v, a.tmps[D j]? = some v ∧ F L j v w) →
      ∀ (K : Act → World → Prop) (Q' : Exit → Act → World → Prop), (∀ v w', Below w0.heap.size w w' → (∀ j u, j ≠ i → L j = true → F L j u w → F (fun j => j == i || L j) j u w') → F (fun j => j == i || L j) i v w' → K (a.put o.dst v) w') → if Region.wanted o (yielded ops a.tmps) then o.wp P a w K Q' else False)
    (hend : ∀ (V : Nat → Value) (L : Nat → Bool) (w : World), (∀ i, i < n → L i = true) → (∀ i, i < n → F L i (V i) w) → Below w0.heap.size w0 w → Q .normal (fillD D a0 V n) w) : (Code.region id ops true).wp P Q a0 w0 := by
  refine wp_region_invB hm hac (DJ D n F w0 a0) ⟨rfl, rfl, fun _ _ => rfl, fun _ _ h => (by cases h), (Below.refl _ _).drew⟩ ?_ ?_
  · intro i o ho L a w hc hJ hLi hd
    have hi : i < n := by rw [← hn]; exact (Array.getElem?_eq_some_iff.1 ho).1
    have hdo := hdst i o ho
    have hs0 := hJ.size
    have hs := hstep i o hi ho L a w hc hJ.world hJ.rest hLi hd hJ.vals (DJ D n F w0 a0 fun j => j == i || L j) Q (fun v w' hb hk hF => by
      rw [hdo]
      refine ⟨by rw [← hs0]; simp [Act.put], hJ.defers, fun t ht => by rw [put_get_ne _ _ _ _ (ht i hi)]; exact hJ.rest t ht, fun j hj hl => ?_, hJ.world.trans hb⟩
      by_cases hji : j = i
      · subst hji
        exact ⟨v, put_get_eq _ _ _ (by rw [hs0]; exact hz j hj), hF⟩
      · have hl' : L j = true := by simpa [hji] using hl
        obtain ⟨u, hu, hf⟩ := hJ.vals j hj hl'
        exact ⟨u, by rw [put_get_ne _ _ _ _ (fun e => hji (hD j i hj hi e.symm))]; exact hu, hk j u hji hl' hf⟩)
    by_cases hw : Region.wanted o (yielded ops a.tmps) = true
    · rw [if_pos hw] at hs ⊢; exact hs
    · rw [if_neg hw] at hs; exact hs.elim
  · intro L a w hall hJ
    rw [hn] at hall
    have hs := hJ.size
    have hval : ∀ i, i < n → a.tmps[D i]? = some (a.tmps.getD (D i) undef) := fun i hi => by
      rw [Array.getD_eq_getD_getElem?, Array.getElem?_eq_getElem (by rw [hs]; exact hz i hi)]; rfl
    have he : a = fillD D a0 (fun i => a.tmps.getD (D i) undef) n := by
      have ht : a.tmps = (fillD D a0 (fun i => a.tmps.getD (D i) undef) n).tmps := by
        apply Array.ext_getElem?
        intro t
        by_cases h : ∃ i, i < n ∧ D i = t
        · obtain ⟨i, hi, rfl⟩ := h
          rw [hval i hi, fillD_at D a0 _ n hD hz i hi]
        · have h' : ∀ i, i < n → D i ≠ t := fun i hi e => h ⟨i, hi, e⟩
          rw [hJ.rest t h', fillD_other D a0 _ t n h']
      have hd : a.defers = (fillD D a0 (fun i => a.tmps.getD (D i) undef) n).defers := by rw [fillD_defers]; exact hJ.defers
      cases a with
      | mk x y =>
        simp only at ht hd
        generalize fillD D a0 (fun i => x.getD (D i) undef) n = z at *
        cases z
        simp only at ht hd
        rw [ht, hd]
    have h := hend (fun i => a.tmps.getD (D i) undef) L w hall (fun i hi => by
      obtain ⟨v, hv, hF⟩ := hJ.vals i hi (hall i hi)
      rw [Array.getD_eq_getD_getElem?, hv]; exact hF) hJ.world
    rw [← he] at h
    exact h
end Go.Proofs.YtjkgmdnkejjppaaGreatDoor
