/- A region that draws its order, whatever slots its operations write: each step keeps what the others have laid. -/
import Derived.Test.YtjkgmdnkejjppaaGreatDoorJOrdP
import Derived.Test.YtjkgmdnkejjppaaGreatDoorJOrdI
namespace Go.Proofs.YtjkgmdnkejjppaaGreatDoor
open Go Go.RowKit

def fillD (D : Nat → Nat) (b : Act) (V : Nat → Value) : Nat → Act
  | 0 => b
  | n + 1 => (fillD D b V n).put (some (D n)) (V n)
theorem fillD_size (D : Nat → Nat) (b : Act) (V : Nat → Value) : ∀ n, (fillD D b V n).tmps.size = b.tmps.size
  | 0 => rfl
  | n + 1 => by
    show ((fillD D b V n).tmps.setIfInBounds _ _).size = _
    rw [Array.size_setIfInBounds]; exact fillD_size D b V n
theorem fillD_defers (D : Nat → Nat) (b : Act) (V : Nat → Value) : ∀ n, (fillD D b V n).defers = b.defers
  | 0 => rfl
  | n + 1 => fillD_defers D b V n
theorem fillD_other (D : Nat → Nat) (b : Act) (V : Nat → Value) (t : Nat) : ∀ n, (∀ i, i < n → D i ≠ t) → (fillD D b V n).tmps[t]? = b.tmps[t]?
  | 0, _ => rfl
  | n + 1, h => by
    rw [fillD, put_get_ne _ _ _ _ (h n (by omega))]
    exact fillD_other D b V t n fun i hi => h i (by omega)
theorem fillD_at (D : Nat → Nat) (b : Act) (V : Nat → Value) : ∀ n, (∀ i j, i < n → j < n → D i = D j → i = j) → (∀ i, i < n → D i < b.tmps.size) → ∀ i, i < n → (fillD D b V n).tmps[D i]? = some (V i)
  | 0, _, _, i, h => by omega
  | n + 1, hD, hz, i, h => by
    rw [fillD]
    by_cases hi : i = n
    · subst hi
      exact put_get_eq _ _ _ (by rw [fillD_size]; exact hz i h)
    · rw [put_get_ne _ _ _ _ (fun e => hi (hD i n h (by omega) e.symm))]
      exact fillD_at D b V n (fun a c ha hc e => hD a c (by omega) (by omega) e) (fun a ha => hz a (by omega)) i (by omega)

structure DJ (D : Nat → Nat) (n : Nat) (F : (Nat → Bool) → Nat → Value → World → Prop) (w0 : World) (a0 : Act) (L : Nat → Bool) (a : Act) (w : World) : Prop where
  of ::
  size : a.tmps.size = a0.tmps.size
  defers : a.defers = a0.defers
  rest : ∀ t, (∀ i, i < n → D i ≠ t) → a.tmps[t]? = a0.tmps[t]?
  vals : ∀ i, i < n → L i = true → ∃ v, a.tmps[D i]? = some v ∧ F L i v w
  world : Below w0.heap.size w0 w

theorem wp_region_free {P : Program} {ops : Array Oper} {Q : Exit → Act → World → Prop} {id : Nat} {a0 : Act} {w0 : World} (hm : P.follows .mixedOrders = true) (hac : ∀ (i : Nat) (o : Oper), ops[i]? = some o → ∀ e ∈ o.after.toList, Region.binds .any e = true → e.on < i)
    (D : Nat → Nat) (n : Nat) (F : (Nat → Bool) → Nat → Value → World → Prop) (hn : ops.size = n) (hD : ∀ i j, i < n → j < n → D i = D j → i = j) (hz : ∀ i, i < n → D i < a0.tmps.size) (hdst : ∀ (i : Nat) (o : Oper), ops[i]? = some o → o.dst = some (D i))
    (hstep : ∀ (i : Nat) (o : Oper), i < n → ops[i]? = some o → ∀ (L : Nat → Bool) (a : Act) (w : World), Cl .any ops L → Below w0.heap.size w0 w → (∀ t, (∀ i, i < n → D i ≠ t) → a.tmps[t]? = a0.tmps[t]?) → L i = false → (∀ e ∈ o.after.toList, Region.binds .any e = true → L e.on = true) → (∀ j, j < n → L j = true → ∃ v, a.tmps[D j]? = some v ∧ F L j v w) →
      ∀ (K : Act → World → Prop) (Q' : Exit → Act → World → Prop), (∀ v w', Below w0.heap.size w w' → (∀ j u, j ≠ i → L j = true → F L j u w → F (fun j => j == i || L j) j u w') → F (fun j => j == i || L j) i v w' → K (a.put o.dst v) w') → if Region.wanted o (yielded ops a.tmps) then o.wp P a w K Q' else False)
    (hend : ∀ (V : Nat → Value) (L : Nat → Bool) (w : World), (∀ i, i < n → L i = true) → (∀ i, i < n → F L i (V i) w) → Below w0.heap.size w0 w → Q .normal (fillD D a0 V n) w) : (Code.region id ops true).wp P Q a0 w0 := by
  refine wp_region_invB hm hac (DJ D n F w0 a0) ⟨rfl, rfl, fun _ _ => rfl, fun _ _ h => (by cases h), (Below.refl _ _).drew⟩ ?_ ?_
  · intro i o ho L a w hc hJ hLi hd
    have hi : i < n := by rw [← hn]; exact (Array.getElem?_eq_some_iff.1 ho).1
    have hdo := hdst i o ho
    have hs0 := hJ.size
    have hs := hstep i o hi ho L a w hc hJ.world hJ.rest hLi hd hJ.vals (DJ D n F w0 a0 fun j => j == i || L j) Q (fun v w' hb hk hF => by
      rw [hdo]
      refine ⟨by rw [← hs0]; simp [Act.put], hJ.defers, fun t ht => by rw [put_get_ne _ _ _ _ (ht i hi)]; exact hJ.rest t ht, fun j hj hl => ?_, hJ.world.trans hb⟩
      by_cases hji : j = i
      · subst hji
        exact ⟨v, put_get_eq _ _ _ (by rw [hs0]; exact hz j hj), hF⟩
      · have hl' : L j = true := by simpa [hji] using hl
        obtain ⟨u, hu, hf⟩ := hJ.vals j hj hl'
        exact ⟨u, by rw [put_get_ne _ _ _ _ (fun e => hji (hD j i hj hi e.symm))]; exact hu, hk j u hji hl' hf⟩)
    by_cases hw : Region.wanted o (yielded ops a.tmps) = true
    · rw [if_pos hw] at hs ⊢; exact hs
    · rw [if_neg hw] at hs; exact hs.elim
  · intro L a w hall hJ
    rw [hn] at hall
    have hs := hJ.size
    have hval : ∀ i, i < n → a.tmps[D i]? = some (a.tmps.getD (D i) undef) := fun i hi => by
      rw [Array.getD_eq_getD_getElem?, Array.getElem?_eq_getElem (by rw [hs]; exact hz i hi)]; rfl
    have he : a = fillD D a0 (fun i => a.tmps.getD (D i) undef) n := by
      have ht : a.tmps = (fillD D a0 (fun i => a.tmps.getD (D i) undef) n).tmps := by
        apply Array.ext_getElem?
        intro t
        by_cases h : ∃ i, i < n ∧ D i = t
        · obtain ⟨i, hi, rfl⟩ := h
          rw [hval i hi, fillD_at D a0 _ n hD hz i hi]
        · have h' : ∀ i, i < n → D i ≠ t := fun i hi e => h ⟨i, hi, e⟩
          rw [hJ.rest t h', fillD_other D a0 _ t n h']
      have hd : a.defers = (fillD D a0 (fun i => a.tmps.getD (D i) undef) n).defers := by rw [fillD_defers]; exact hJ.defers
      cases a with
      | mk x y =>
        simp only at ht hd
        generalize fillD D a0 (fun i => x.getD (D i) undef) n = z at *
        cases z
        simp only at ht hd
        rw [ht, hd]
    have h := hend (fun i => a.tmps.getD (D i) undef) L w hall (fun i hi => by
      obtain ⟨v, hv, hF⟩ := hJ.vals i hi (hall i hi)
      rw [Array.getD_eq_getD_getElem?, hv]; exact hF) hJ.world
    rw [← he] at h
    exact h
end Go.Proofs.YtjkgmdnkejjppaaGreatDoor
