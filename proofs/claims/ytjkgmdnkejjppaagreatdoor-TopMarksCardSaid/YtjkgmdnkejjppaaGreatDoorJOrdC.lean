/- A region that draws its order, of reads, one new cell and a store into it. -/
import Derived.Test.YtjkgmdnkejjppaaGreatDoorJOrdP
namespace Go.Proofs.YtjkgmdnkejjppaaGreatDoor
open Go Go.RowKit

structure CJ (base n dA : Nat) (F : Nat → Value → Prop) (w0 : World) (c0 : Obj) (w1 : World) (a0 : Act) (L : Nat → Bool) (a : Act) (w : World) : Prop where
  of ::
  size : a.tmps.size = a0.tmps.size
  defers : a.defers = a0.defers
  rest : ∀ t, (t < base ∨ base + n ≤ t) → t ≠ dA → a.tmps[t]? = a0.tmps[t]?
  vals : ∀ i, i < n → L i = true → ∃ v, a.tmps[base + i]? = some v ∧ F i v
  before : L n = false → w = w0.drew ∧ a.tmps[dA]? = a0.tmps[dA]?
  made : L n = true → a.tmps[dA]? = some (.pointer (some ⟨w0.heap.size, 0, none⟩)) ∧ (L (n + 1) = false → w = w0.drew.alloc c0)
  fin : L (n + 1) = true → w = w1 ∧ ∀ i, i < n + 1 → L i = true

theorem wp_region_cell {P : Program} {ops : Array Oper} {Q : Exit → Act → World → Prop} {id : Nat} {a0 : Act} {w0 : World} (hm : P.follows .mixedOrders = true) (hac : ∀ (i : Nat) (o : Oper), ops[i]? = some o → ∀ e ∈ o.after.toList, e.on < i)
    (base n dA : Nat) (F : Nat → Value → Prop) (c0 : Obj) (w1 : World) (hn : ops.size = n + 2) (hz : base + n ≤ a0.tmps.size) (hzA : dA < a0.tmps.size) (hA : dA < base ∨ base + n ≤ dA) (hdst : ∀ (i : Nat) (o : Oper), i < n → ops[i]? = some o → o.dst = some (base + i)) (hdstA : ∀ o, ops[n]? = some o → o.dst = some dA) (hdst2 : ∀ o, ops[n + 1]? = some o → o.dst = none)
    (hl : lastOf .any ops (n + 1) = true) (hdep : ∀ (i : Nat) (o : Oper), i < n → ops[i]? = some o → ∀ e ∈ o.after.toList, e.on < n)
    (hstep : ∀ (i : Nat) (o : Oper), i < n → ops[i]? = some o → ∀ (a : Act) (w : World), Below w0.heap.size w0 w → (∀ t, (t < base ∨ base + n ≤ t) → t ≠ dA → a.tmps[t]? = a0.tmps[t]?) → (∀ e ∈ o.after.toList, Region.binds .any e = true → ∃ v, a.tmps[base + e.on]? = some v ∧ F e.on v) →
      ∀ (K : Act → World → Prop) (Q' : Exit → Act → World → Prop), (∀ v, F i v → K (a.put o.dst v) w) → if Region.wanted o (yielded ops a.tmps) then o.wp P a w K Q' else F i undef)
    (halloc : ∀ (o : Oper), ops[n]? = some o → ∀ (a : Act) (K : Act → World → Prop) (Q' : Exit → Act → World → Prop), K (a.put o.dst (.pointer (some ⟨w0.heap.size, 0, none⟩))) (w0.drew.alloc c0) → if Region.wanted o (yielded ops a.tmps) then o.wp P a w0.drew K Q' else False)
    (hstore : ∀ (o : Oper), ops[n + 1]? = some o → ∀ (a : Act), a.tmps[dA]? = some (.pointer (some ⟨w0.heap.size, 0, none⟩)) → (∀ i, i < n → ∃ v, a.tmps[base + i]? = some v ∧ F i v) → ∀ (K : Act → World → Prop) (Q' : Exit → Act → World → Prop), K (a.put none undef) w1 → if Region.wanted o (yielded ops a.tmps) then o.wp P a (w0.drew.alloc c0) K Q' else False)
    (hend : ∀ (V : Nat → Value), Q .normal (fillB base (a0.put (some dA) (.pointer (some ⟨w0.heap.size, 0, none⟩))) V n) w1) : (Code.region id ops true).wp P Q a0 w0 := by
  refine wp_region_inv hm hac (CJ base n dA F w0 c0 w1 a0) ⟨rfl, rfl, fun _ _ _ => rfl, fun _ _ h => (by cases h), fun _ => ⟨rfl, rfl⟩, fun h => (by cases h), fun h => by cases h⟩ ?_ ?_
  · intro i o ho L a w hc hJ hLi hd
    have hi : i < n + 2 := by rw [← hn]; exact (Array.getElem?_eq_some_iff.1 ho).1
    have hs0 := hJ.size
    have nofin : i < n + 1 → L (n + 1) = false := by
      intro hlt
      cases h : L (n + 1) with
      | false => rfl
      | true => rw [(hJ.fin h).2 i hlt] at hLi; cases hLi
    rcases Nat.lt_trichotomy i n with hin | hin | hin
    · have hL2 := nofin (by omega)
      have hdo := hdst i o hin ho
      have e1 : (n == i) = false := beq_eq_false_iff_ne.2 (by omega)
      have e2 : (n + 1 == i) = false := beq_eq_false_iff_ne.2 (by omega)
      have hbw : Below w0.heap.size w0 w := by
        have hdr : Below w0.heap.size w0 w0.drew := (Below.refl _ _).drew
        cases hLn : L n with
        | false => rw [(hJ.before hLn).1]; exact hdr
        | true => rw [(hJ.made hLn).2 hL2]; exact hdr.alloc (Nat.le_refl _) _
      have hput : ∀ v, F i v → CJ base n dA F w0 c0 w1 a0 (fun j => j == i || L j) (a.put o.dst v) w := by
        intro v hF
        rw [hdo]
        have hgA : (a.put (some (base + i)) v).tmps[dA]? = a.tmps[dA]? := put_get_ne _ _ _ _ (by omega)
        refine ⟨by rw [← hs0]; simp [Act.put], hJ.defers, fun t ht hta => by rw [put_get_ne _ _ _ _ (by omega)]; exact hJ.rest t ht hta, fun j hj hl => ?_, fun h => ?_, fun h => ?_, fun h => ?_⟩
        · by_cases hji : j = i
          · subst hji
            exact ⟨v, put_get_eq _ _ _ (by omega), hF⟩
          · obtain ⟨u, hu, hf⟩ := hJ.vals j hj (by simpa [hji] using hl)
            exact ⟨u, by rw [put_get_ne _ _ _ _ (by omega)]; exact hu, hf⟩
        · have h' : (n == i || L n) = false := h
          rw [e1, Bool.false_or] at h'
          rw [hgA]; exact hJ.before h'
        · have h' : (n == i || L n) = true := h
          rw [e1, Bool.false_or] at h'
          rw [hgA]
          exact ⟨(hJ.made h').1, fun _ => (hJ.made h').2 hL2⟩
        · have h' : (n + 1 == i || L (n + 1)) = true := h
          rw [e2, hL2] at h'; cases h'
      have hs := hstep i o hin ho a w hbw hJ.rest (fun e he hb => hJ.vals e.on (hdep i o hin ho e he) (hd e he hb)) _ Q hput
      by_cases hw : Region.wanted o (yielded ops a.tmps) = true
      · rw [if_pos hw] at hs ⊢; exact hs
      · rw [if_neg hw] at hs ⊢; exact hput _ hs
    · subst hin
      have hL2 := nofin (by omega)
      have hdo := hdstA o ho
      have e2 : (i + 1 == i) = false := beq_eq_false_iff_ne.2 (by omega)
      obtain ⟨hww, hdA⟩ := hJ.before hLi
      subst hww
      have hs := halloc o ho a (CJ base i dA F w0 c0 w1 a0 fun j => j == i || L j) Q (by
        rw [hdo]
        refine ⟨by rw [← hs0]; simp [Act.put], hJ.defers, fun t ht hta => by rw [put_get_ne _ _ _ _ (fun e => hta e.symm)]; exact hJ.rest t ht hta, fun j hj hl => ?_, fun h => ?_, fun _ => ⟨put_get_eq _ _ _ (by omega), fun _ => rfl⟩, fun h => ?_⟩
        · have ej : (j == i) = false := beq_eq_false_iff_ne.2 (by omega)
          have hl' : (j == i || L j) = true := hl
          rw [ej, Bool.false_or] at hl'
          obtain ⟨u, hu, hf⟩ := hJ.vals j hj hl'
          exact ⟨u, by rw [put_get_ne _ _ _ _ (by omega)]; exact hu, hf⟩
        · have h' : (i == i || L i) = false := h
          simp at h'
        · have h' : (i + 1 == i || L (i + 1)) = true := h
          rw [e2, hL2] at h'; cases h')
      by_cases hw : Region.wanted o (yielded ops a.tmps) = true
      · rw [if_pos hw] at hs ⊢; exact hs
      · rw [if_neg hw] at hs; exact hs.elim
    · have hi2 : i = n + 1 := by omega
      subst hi2
      have hall : ∀ j, j < n + 1 → L j = true := by
        intro j hj
        have h1 := List.all_eq_true.1 hl j (List.mem_range.2 hj)
        refine needs_done hc (n + 1) _ (fun k hk => ?_) j h1
        rw [ho] at hk
        obtain ⟨e, he, h2⟩ := List.any_eq_true.1 hk
        rw [Bool.and_eq_true, beq_iff_eq] at h2
        rw [← h2.2]
        exact hd e he h2.1
      obtain ⟨hmd, hmw⟩ := hJ.made (hall n (by omega))
      have hww := hmw hLi
      subst hww
      have hs := hstore o ho a hmd (fun j hj => hJ.vals j hj (hall j (by omega))) (CJ base n dA F w0 c0 w1 a0 fun j => j == n + 1 || L j) Q (by
        have hor : ∀ j, j < n + 1 → (j == n + 1 || L j) = true := fun j hj => by rw [hall j hj, Bool.or_true]
        refine ⟨hs0, hJ.defers, hJ.rest, fun j hj _ => hJ.vals j hj (hall j (by omega)), fun h => absurd (show (n == n + 1 || L n) = false from h) (by rw [hor n (by omega)]; simp), fun _ => ⟨hmd, fun h => absurd (show (n + 1 == n + 1 || L (n + 1)) = false from h) (by simp)⟩, fun _ => ⟨rfl, hor⟩⟩)
      have hdo := hdst2 o ho
      by_cases hw : Region.wanted o (yielded ops a.tmps) = true
      · rw [if_pos hw] at hs ⊢; exact hs
      · rw [if_neg hw] at hs; exact hs.elim
  · intro L a w hall hJ
    obtain ⟨rfl, _⟩ := hJ.fin (hall (n + 1) (by omega))
    obtain ⟨hmd, _⟩ := hJ.made (hall n (by omega))
    have he : a = fillB base (a0.put (some dA) (.pointer (some ⟨w0.heap.size, 0, none⟩))) (fun i => a.tmps.getD (base + i) undef) n := by
      have hs := hJ.size
      refine fillB_eq base n a _ _ (by rw [hs]; simp [Act.put]) hJ.defers (fun t ht => ?_) fun i hi => ?_
      · by_cases hta : t = dA
        · subst hta
          rw [hmd]
          exact (put_get_eq _ _ _ (by omega)).symm
        · rw [hJ.rest t ht hta, put_get_ne _ _ _ _ (fun e => hta e.symm)]
      · rw [Array.getD_eq_getD_getElem?, Array.getElem?_eq_getElem (by omega)]; rfl
    have h := hend (fun i => a.tmps.getD (base + i) undef)
    rw [← he] at h
    exact h

end Go.Proofs.YtjkgmdnkejjppaaGreatDoor
