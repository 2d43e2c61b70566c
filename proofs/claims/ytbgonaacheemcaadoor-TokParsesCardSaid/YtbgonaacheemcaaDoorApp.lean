/- append(a, b...) of tokens. -/
import Derived.Test.YtbgonaacheemcaaDoorView
import Derived.Test.YtbgonaacheemcaaDoorTag
namespace Go.Proofs.YtbgonaacheemcaaDoor
open Go Go.RowKit

section
variable {P : Program} (w : World)
theorem run_append_of_nil (base : Nat) (t ty e : TypeId) (i : TypeInfo) (size : Nat) (ht : P.underlying t = some (.slice e)) (hi : P.info? e = some i)
    (v : Value) (n : Nat) (xs : List Value) (hown : w.ownsRow base e size v n xs) (c : Nat) : (Builtin.append_ #[t, t] ty #[v, .slice none 0 c]).run P w = .ok v w := by
  rcases hown.2 with ⟨rfl, rfl⟩ | ⟨g, cap, cur, rfl, _, _, hnc, _⟩
  · simp [Builtin.append_, run_underlying ht, sizeOf, typeInfo, hi, Builtin.lenOf, Builtin.firstCells]
  · simp [Builtin.append_, run_underlying ht, sizeOf, typeInfo, hi, Builtin.lenOf, Builtin.firstCells, hnc, storeCells]
end

theorem wpList_guarded {P : Program} {ops : Array Oper} {Q : Exit → Act → World → Prop} {a : Act} {w : World} {rest : List Oper} {o : Oper} (hw : Region.wanted o (yielded ops a.tmps) = true)
    (h : ∀ K : Act → World → Prop, (∀ a w, wpList P ops Q rest a w → K a w) → o.wp P a w K Q) : wpList P ops Q (o :: rest) a w :=
  wpList_step fun K hK => by rw [if_pos hw]; exact h K hK

theorem tokCell_one (p : TTok × Value) (hv : p.2.oneCell' = true) : ∀ u ∈ tokCell p, u.oneCell' = true := by
  intro u hu
  unfold tokCell at hu
  simp only [List.mem_cons, List.not_mem_nil, or_false] at hu
  rcases hu with rfl | rfl | rfl | rfl | rfl <;> first | rfl | exact hv

theorem tokCells_append (a b : List (TTok × Value)) : tokCells (a ++ b) = tokCells a ++ tokCells b := by simp [tokCells]

/-- append(tv, xv...) of tokens of the call's own and tokens that are seen. -/
theorem run_append_toks (B : Nat) (w : World) (tv xv : Value) (l m : List TTok) (ty : TypeId) (h1 : TokOwn B w tv l) (h2 : TokView w xv m) (hl : l.length ≤ 1000000) (hm : m.length ≤ 1000000) (hB : B ≤ w.heap.size) :
    ∃ v' w', (Builtin.append_ #[22, 22] ty #[tv, xv]).run Tryd.prog w = .ok v' w' ∧ TokOwn B w' v' (l ++ m) ∧ w.grownBy w' tv.ownBlock := by
  obtain ⟨ps, rfl, hown, hat⟩ := h1
  obtain ⟨qs, rfl, ⟨A, c, rfl⟩, hq⟩ := h2
  rw [List.length_map] at hl hm hq
  obtain ⟨i0, hi0, hz0, hz1, hz2⟩ := info_parts infoTok
  rw [show (qs.map Prod.fst).length = qs.length from List.length_map _]
  -- rows of attributes stay
  have stay : ∀ (w' : World), w.grownBy w' tv.ownBlock → ∀ va al, AttrView w va al → AttrView w' va al := by
    intro w' hg va al hv
    refine hv.stay fun g cs hgc => ?_
    refine hg.block g (lt_of_block hgc) ?_
    intro e
    rcases hown.2 with ⟨hv0, _⟩ | ⟨g0, cap0, cur0, hv0, _, hg0, _⟩
    · rw [hv0] at e; cases e
    · rw [hv0] at e
      have e' : g = g0 := by injection e
      rw [e', hg0] at hgc
      injection hgc with hgc; injection hgc with _ h2 _
      exact absurd h2 (by decide)
  cases qs with
  | nil =>
    cases A with
    | none => exact ⟨tv, w, run_append_of_nil w B 22 ty 31 i0 5 Tryd.underlying22 hi0 tv _ _ hown c, ⟨ps, by simp, hown, hat⟩, World.grownBy.refl w _⟩
    | some ad =>
      obtain ⟨v', w', hr, k2, k3, _⟩ := run_append_own (P := Tryd.prog) w B 22 ty 31 i0 _ 5 72 Tryd.underlying22 hi0 hz0 hz1 hz2 rfl (by decide) tv ps.length (tokCells ps) hown ad 0 c [] rfl (fun j u h => by simp at h) (fun u h => by cases h) (by unfold maxLen; omega) (by omega) hB
      exact ⟨v', w', hr, ⟨ps, by simp, by simpa using k2, fun p hp => stay w' k3 _ _ (hat p hp)⟩, k3⟩
  | cons q0 qs0 =>
    obtain ⟨g, cap, hv, hc, hmx, ⟨cs, hg⟩, _⟩ := hq 0 q0 rfl
    have hA : A = some ⟨g, 0, none⟩ := by simp at hv; exact hv.1
    subst hA
    generalize q0 :: qs0 = qs at *
    have hcells : ∀ j u, (tokCells qs)[j]? = some u → w.cell? ((⟨g, 0, none⟩ : Addr).add j) = some u := by
      intro j u hu
      have hadd : (⟨g, 0, none⟩ : Addr).add j = ⟨g, j, none⟩ := by unfold Addr.add; split <;> simp_all
      rw [hadd]
      have hj : j < qs.length * 5 := by rw [← tokCells_length]; exact (List.getElem?_eq_some_iff.1 hu).1
      have hi : j / 5 < qs.length := by omega
      obtain ⟨p, hp⟩ : ∃ p, qs[j / 5]? = some p := ⟨_, List.getElem?_eq_getElem hi⟩
      obtain ⟨g', cap', hv', _, _, _, ht, _⟩ := hq (j / 5) p hp
      obtain rfl : g = g' := by simp at hv'; exact hv'.1
      have hk := tokCells_get qs (j / 5) p (j % 5) (by omega) hp
      have hj5 : j / 5 * 5 + j % 5 = j := by omega
      rw [hj5] at hk
      rw [hk] at hu
      have hr : j % 5 = 0 ∨ j % 5 = 1 ∨ j % 5 = 2 ∨ j % 5 = 3 ∨ j % 5 = 4 := by omega
      rcases hr with hr | hr | hr | hr | hr
      · rw [hr] at hu; rw [← hj5, hr]; exact (ht.kind).trans hu
      · rw [hr] at hu; rw [← hj5, hr]; exact (ht.name).trans hu
      · rw [hr] at hu; rw [← hj5, hr]; exact (ht.attrs).trans hu
      · rw [hr] at hu; rw [← hj5, hr]; exact (ht.self).trans hu
      · rw [hr] at hu; rw [← hj5, hr]; exact (ht.text).trans hu
    have hat2 : ∀ p ∈ qs, AttrView w p.2 p.1.attrs := by
      intro p hp
      obtain ⟨i, hi, he⟩ := List.getElem_of_mem hp
      obtain ⟨_, _, _, _, _, _, _, ha⟩ := hq i p (by rw [List.getElem?_eq_getElem hi, he])
      exact ha
    have hone : ∀ u ∈ tokCells qs, u.oneCell' = true := by
      intro u hu
      obtain ⟨p, hp, hu⟩ := List.mem_flatMap.1 hu
      refine tokCell_one p ?_ u hu
      obtain ⟨⟨a, c, hf⟩, _⟩ := hat2 p hp
      rw [hf]; rfl
    obtain ⟨v', w', hr, k2, k3, _⟩ := run_append_own (P := Tryd.prog) w B 22 ty 31 i0 _ 5 72 Tryd.underlying22 hi0 hz0 hz1 hz2 rfl (by decide) tv ps.length (tokCells ps) hown ⟨g, 0, none⟩ qs.length c (tokCells qs) (tokCells_length qs) hcells hone (by unfold maxLen; omega) (by omega) hB
    refine ⟨v', w', hr, ⟨ps ++ qs, by simp, by rw [List.length_append, tokCells_append]; exact k2, fun p hp => ?_⟩, k3⟩
    rcases List.mem_append.1 hp with hp | hp
    · exact stay w' k3 _ _ (hat p hp)
    · exact stay w' k3 _ _ (hat2 p hp)

/-- .. at a plain region's list, the operation's guard decided. -/
theorem wpList_append_toks {ops : Array Oper} {rest : List Oper} {o : Oper} {a : Act} {Q : Exit → Act → World → Prop} {w : World} (hw : Region.wanted o (yielded ops a.tmps) = true) (s x : Operand)
    (ho : o.op = .call { callee := .builtin .append, args := #[s, x], argTypes := #[22, 22] })
    (B : Nat) (tv xv : Value) (l m : List TTok) (hs : a.eval s = tv) (hx : a.eval x = xv) (h1 : TokOwn B w tv l) (h2 : TokView w xv m) (hl : l.length ≤ 1000000) (hm : m.length ≤ 1000000) (hB : B ≤ w.heap.size)
    (h : ∀ v' w', TokOwn B w' v' (l ++ m) → w.grownBy w' tv.ownBlock → wpList Tryd.prog ops Q rest (a.put o.dst v') w') : wpList Tryd.prog ops Q (o :: rest) a w := by
  refine wpList_guarded hw fun K hK => ?_
  obtain ⟨v', w', hr, k1, k2⟩ := run_append_toks B w tv xv l m o.type h1 h2 hl hm hB
  unfold Oper.wp execOp
  simp only [ho, resolve, invoke, builtin, Sem.run_bind, Sem.run_pure, Result.andThen_ok, List.map_toArray, List.map_cons, List.map_nil, hs, hx, hr]
  exact hK _ _ (h v' w' k1 k2)

/-- What was appended to nothing is new; then so is what is appended to that. -/
theorem grown_below {B : Nat} {w w' : World} {tv : Value} {l : List TTok} (hg : w.grownBy w' tv.ownBlock) (h : TokOwn B w tv l) (hB : B ≤ w.heap.size) : Below B w w' :=
  ⟨hg.os, hg.tape, hg.output, hg.size, fun k hk => hg.block k (by omega) (by
    intro e
    obtain ⟨_, _, hown, _⟩ := h
    rcases hown.2 with ⟨hv0, _⟩ | ⟨g0, cap0, cur0, hv0, hB0, _⟩
    · rw [hv0] at e; cases e
    · rw [hv0] at e
      have e' : k = g0 := by injection e
      omega)⟩

end Go.Proofs.YtbgonaacheemcaaDoor
