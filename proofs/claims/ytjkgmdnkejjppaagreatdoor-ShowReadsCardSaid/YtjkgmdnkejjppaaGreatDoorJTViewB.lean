/- A node appended at a step of a region that draws its order; bases lowered. -/
import Derived.Test.YtjkgmdnkejjppaaGreatDoorGj
import Derived.Deep.AppendLies
namespace Go.Proofs.YtjkgmdnkejjppaaGreatDoor
open Go Go.RowKit

theorem NodeOwn.mono {d B B' : Nat} {w : World} {v : Value} {l : List TNode} (h : NodeOwn d B w v l) (hB : B' ≤ B) : NodeOwn d B' w v l := by
  obtain ⟨ps, h1, ⟨h2, h3⟩, h4⟩ := h
  refine ⟨ps, h1, ⟨h2, ?_⟩, fun p hp => ⟨(h4 p hp).1, (h4 p hp).2.stay (fun _ _ _ => rfl) fun _ _ hp _ => ⟨⟨Nat.le_trans hB hp.1, hp.2⟩, rfl⟩⟩⟩
  rcases h3 with h3 | ⟨g, cap, cur, h5, h6, h7⟩
  · exact .inl h3
  · exact .inr ⟨g, cap, cur, h5, Nat.le_trans hB h6, h7⟩

theorem step_pushNode {ops : Array Oper} {o : Oper} {a : Act} {K : Act → World → Prop} {Q : Exit → Act → World → Prop} {E : Prop} {w : World} (hgd : o.guard = none) (s x : Operand)
    (ho : o.op = .call { callee := .builtin .append, args := #[s, x], argTypes := #[22, 22] })
    (d B : Nat) (v : Value) (l : List TNode) (t : TNode) (av pv : Value) (hs : a.eval s = v) (hown : NodeOwn d B w v l)
    (hav : AttrView w av t.attrs) (hpv : NodeIn (fun g => B ≤ g ∧ v.ownBlock ≠ some g) d w pv t.parts)
    (N : Nat) (hN : w.heap[N]? = some (.cells #[.string (mk t.name), av, .string (mk t.text), pv] 44 (0, 0))) (hx : a.eval x = .slice (some ⟨N, 0, none⟩) 1 1) (hn : l.length ≤ 1000000) (hbase : B ≤ w.heap.size)
    (h : ∀ v' w', NodeOwn d B w' v' (l ++ [t]) → Below B w w' → (∃ A C, v' = .slice A (l.length + 1) C) → K (a.put o.dst v') w') :
    if Region.wanted o (yielded ops a.tmps) = true then Oper.wp Tryz.prog o a w K Q else E := by
  obtain ⟨ps, rfl, h1, h2⟩ := hown
  have hln : (ps.map Prod.fst).length = ps.length := List.length_map _
  obtain ⟨i0, hi0, hz0, hz1, hz2⟩ := info_parts infoNode
  obtain ⟨aa, ca, hav0⟩ := hav.1
  obtain ⟨ap, cp, hpv0⟩ := hpv.form
  refine step_append_lies w hgd _ _ _ ho B 44 i0 _ 4 80 Tryz.underlying22 hi0 hz0 hz1 hz2 rfl (by decide) v ps.length (nodeCells ps) hs h1 ⟨N, 0, none⟩ 1 1 [.string (mk t.name), av, .string (mk t.text), pv] hx rfl ?_ ?_ (by omega) (by unfold maxLen; omega) (by omega) hbase w.heap.size rfl ?_
  · exact World.news_of_block (cs := #[.string (mk t.name), av, .string (mk t.text), pv]) (t := 44) (fr := (0, 0)) hN
  · intro u hu
    subst hav0 hpv0
    simp only [List.mem_cons, List.not_mem_nil, or_false] at hu
    rcases hu with rfl | rfl | rfl | rfl <;> rfl
  · intro g cap w' k1 k2 k3 _
    have hbl : Below B w w' := ⟨k2.os, k2.tape, k2.output, k2.size, fun k hk => k2.block k (by omega) (fun e => by obtain ⟨_, _, h3⟩ := own_type h1 e.symm; omega)⟩
    have hkeep : ∀ (x : Nat) (cs : Array Value) (e : TypeId), w.heap[x]? = some (.cells cs e (0, 0)) → (e ≠ 44 ∨ v.ownBlock ≠ some x) → w'.heap[x]? = w.heap[x]? := fun x cs e hx he =>
      k2.block x (lt_of_block hx) (fun e' => by
        rcases he with he | he
        · obtain ⟨_, h3, _⟩ := own_type h1 e'.symm
          exact type_ne hx h3 he rfl
        · exact he e'.symm)
    have hg' : ∀ x cs, w.heap[x]? = some (.cells cs 44 (0, 0)) → v.ownBlock ≠ some x → (some g : Option Nat) ≠ some x := fun x cs hx hne e => by
      cases e
      rcases k3 with k3 | k3
      · exact hne k3
      · have := lt_of_block hx; omega
    have hview : ∀ pv' l', NodeIn (fun g => B ≤ g ∧ v.ownBlock ≠ some g) d w pv' l' → NodeIn (fun x => B ≤ x ∧ (some g : Option Nat) ≠ some x) d w' pv' l' := fun pv' l' hh =>
      hh.stay (fun x cs hx => hkeep x cs _ hx (.inl (by decide))) fun x cs hp hx => ⟨⟨hp.1, hg' x cs hx hp.2⟩, hkeep x cs _ hx (.inr hp.2)⟩
    have hattr : ∀ av' l', AttrView w av' l' → AttrView w' av' l' := fun av' l' hh => hh.stay fun x cs hx => hkeep x cs _ hx (.inl (by decide))
    refine h _ w' ⟨ps ++ [(t, av, pv)], by simp, ?_, fun p hp => ?_⟩ hbl ⟨_, _, by rw [hln]⟩
    · rw [nodeCells_append, List.length_append]
      exact k1
    · rcases List.mem_append.1 hp with hp | hp
      · exact ⟨hattr _ _ (h2 p hp).1, hview _ _ (h2 p hp).2⟩
      · cases List.mem_singleton.1 hp
        exact ⟨hattr _ _ hav, hview _ _ hpv⟩
end Go.Proofs.YtjkgmdnkejjppaaGreatDoor
