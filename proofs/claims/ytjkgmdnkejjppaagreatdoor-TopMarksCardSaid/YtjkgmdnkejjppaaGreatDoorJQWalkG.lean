/- Walks of marks: flat. -/
import Derived.Test.YtjkgmdnkejjppaaGreatDoorJQWalkD
import Derived.Test.YtjkgmdnkejjppaaGreatDoorJQLawC
import Derived.Test.YtjkgmdnkejjppaaGreatDoorJTViewB
import Derived.Test.YtjkgmdnkejjppaaGreatDoorJTabB
import Derived.Test.YtjkgmdnkejjppaaGreatDoorJOrdD
namespace Go.Proofs.YtjkgmdnkejjppaaGreatDoor
open Go Go.RowKit

theorem SView.row {w : World} {ad : Addr} {e : Nat} {l : List Bytes} (h : SView w (.slice (some ad) l.length (l.length + e)) l) : ∀ j u, (l.map fun p => Value.string (mk p))[j]? = some u → w.cell? (ad.add j) = some u := by
  intro j u hu
  rw [List.getElem?_map] at hu
  obtain ⟨p, hp, rfl⟩ := Option.map_eq_some_iff.1 hu
  obtain ⟨g, o, e', hv, _, hc⟩ := h.2 j p hp
  obtain rfl : ad = ⟨g, o, none⟩ := by simp at hv; exact hv.1
  have hadd : (⟨g, o, none⟩ : Addr).add j = ⟨g, o + j, none⟩ := by unfold Addr.add; split <;> simp_all
  rw [hadd]; exact hc
set_option maxHeartbeats 1000000 in
set_option maxRecDepth 100000 in
theorem cloneS_any (v : Value) (l : List Bytes) (hl : l.length ≤ 1000000) (w : World) (h : SView w v l) :
    Calls Tryz.prog 58 #[v] w fun e w' => ∃ v', e = .returned v' ∧ SRow w.heap.size w' v' l ∧ Below w.heap.size w w' := by
  obtain ⟨⟨x, e0, rfl⟩, hc⟩ := h
  cases x with
  | none =>
    have ha : l = [] := by
      cases l with
      | nil => rfl
      | cons t a => obtain ⟨g, o, e, hv, _⟩ := hc 0 t rfl; simp at hv
    subst ha
    clear hc
    have hq : (binOp .eql 29 (.slice none 0 e0) (.slice none 0 0)).run Tryz.prog w = .ok (.bool true) w := Lib.run_eql_slice_nil (P := Tryz.prog) w 29 9 none 0 e0 0 0 Tryz.underlying29
    rw [show (Value.slice none ([] : List Bytes).length (([] : List Bytes).length + e0)) = .slice none 0 e0 by simp]
    go_enter Tryz.func58, Tryz.ntmps58
    go_wp2_with fail
    go_ret
    exact ⟨_, rfl, SRow.nil _ _, Below.refl _ _⟩
  | some ad =>
    obtain ⟨i0, hi0, hz0, hz1, hz2⟩ := info_parts infoStr
    have hrow := (SView.older ⟨⟨_, _, rfl⟩, hc⟩ (Older.of_below ((Below.refl w.heap.size w).alloc (Nat.le_refl _) (.cells #[] 9))) : SView _ (.slice (some ad) l.length (l.length + e0)) l).row
    have HR := Lib.hid hrow
    have hown : (w.alloc (.cells #[] 9)).ownsRow w.heap.size 9 1 (.slice (some ⟨w.heap.size, 0, none⟩) 0 0) 0 [] := ⟨rfl, .inr ⟨w.heap.size, 0, #[], rfl, Nat.le_refl _, heap_alloc_new _ _, Nat.le_refl _, Nat.zero_le _, rfl, rfl⟩⟩
    have HO := Lib.hid hown
    have hq : (binOp .eql 29 (.slice (some ad) l.length (l.length + e0)) (.slice none 0 0)).run Tryz.prog w = .ok (.bool false) w := Lib.run_eql_slice_nil (P := Tryz.prog) w 29 9 (some ad) l.length (l.length + e0) 0 0 Tryz.underlying29
    clear hc hrow hown
    go_enter Tryz.func58, Tryz.ntmps58
    go_wp2_with (at_builtin; go_loud (refine wpList_append_own _ (by rfl) (.tmp 5) (.tmp 6) _ (by rfl) w.heap.size 9 i0 _ 1 16 Tryz.underlying29 hi0 hz0 hz1 hz2 rfl (by decide) (.slice (some ⟨w.heap.size, 0, none⟩) 0 0) 0 [] (by rfl) HO.out ad l.length (l.length + e0) (l.map fun p => .string (mk p)) (by rfl) (by rw [List.length_map, Nat.mul_one]) HR.out (by intro u hu; obtain ⟨p, _, rfl⟩ := List.mem_map.1 hu; rfl) (by unfold maxLen; omega) (by omega) (by simp) ?_); intro v' w' hown1 hgr _; have HOWN := Lib.hid hown1; have HG := Lib.hid hgr; clear hown1 hgr)
    go_ret
    refine ⟨_, rfl, ?_, ?_⟩
    · have h := HOWN.out
      rw [Nat.zero_add, List.nil_append] at h
      exact h
    · have h := HG.out
      refine ⟨h.os, h.tape, h.output, Nat.le_trans (by simp) h.size, fun k hk => ?_⟩
      rw [h.block k (by simp; omega) (fun e => by have h2 : w.heap.size = k := (Option.some.inj (show some k = some w.heap.size from e)).symm; omega)]
      exact Below.heap_alloc _ _ _ hk

/-- append(out, parts...) of runs in rows of the call's own. -/
theorem run_append_runs (B B2 : Nat) (w : World) (tv xv : Value) (l m : List TRun) (ty : TypeId) (h1 : RunOwn B w tv l) (h2 : RunOwn B2 w xv m) (hl : l.length ≤ 1000000) (hm : m.length ≤ 1000000) (hB : B ≤ w.heap.size) :
    ∃ v' w', (Builtin.append_ #[30, 30] ty #[tv, xv]).run Tryz.prog w = .ok v' w' ∧ RunOwn B w' v' (l ++ m) ∧ w.grownBy w' tv.ownBlock := by
  obtain ⟨ps, rfl, hown, hat⟩ := h1
  obtain ⟨qs, rfl, hown2, hat2⟩ := h2
  rw [List.length_map] at hl hm
  obtain ⟨i0, hi0, hz0, hz1, hz2⟩ := info_parts infoRun
  have stay : ∀ (w' : World), w.grownBy w' tv.ownBlock → ∀ va al, SView w va al → SView w' va al := fun w' hg va al hv => hv.stay fun g cs hgc => run_stay_str hown hg g cs hgc
  have one : ∀ u ∈ runCells qs, u.oneCell' = true := by
    intro u hu
    obtain ⟨q, hq, hu⟩ := List.mem_flatMap.1 hu
    obtain ⟨⟨a, e, hv⟩, _⟩ := hat2 q hq
    unfold runCell at hu
    rw [hv] at hu
    simp only [List.mem_cons, List.not_mem_nil, or_false] at hu
    rcases hu with rfl | rfl <;> rfl
  rcases id hown2.2 with ⟨hv, h0⟩ | ⟨g, cap, cur, hv, _, hg, hc, hmx, hcs, htk⟩
  · have hq : qs = [] := List.eq_nil_of_length_eq_zero h0
    subst hq
    subst hv
    exact ⟨tv, w, run_append_of_nil w B 30 ty 46 i0 2 Tryz.underlying30 hi0 tv _ _ hown 0, ⟨ps, by simp, hown, hat⟩, World.grownBy.refl w _⟩
  · subst hv
    have hb := Nat.mul_le_mul (show ps.length + qs.length ≤ 2000000 by omega) (show 40 ≤ 40 by omega)
    obtain ⟨v', w', hr, k2, k3, _⟩ := run_append_own (P := Tryz.prog) w B 30 ty 46 i0 _ 2 40 Tryz.underlying30 hi0 hz0 hz1 hz2 rfl (by decide) tv ps.length (runCells ps) hown ⟨g, 0, none⟩ qs.length cap (runCells qs) hown2.1 (fun j u hu => hown2.cells (g := g) rfl j u hu) one (by unfold maxLen; omega) (by omega) hB
    refine ⟨v', w', hr, ⟨ps ++ qs, by simp, by rw [runCells_append, List.length_append]; exact k2, fun p hp => ?_⟩, k3⟩
    rcases List.mem_append.1 hp with hp | hp
    · exact stay w' k3 _ _ (hat p hp)
    · exact stay w' k3 _ _ (hat2 p hp)
theorem wpList_runs {ops : Array Oper} {rest : List Oper} {o : Oper} {a : Act} {Q : Exit → Act → World → Prop} {w : World} (hw : Region.wanted o (yielded ops a.tmps) = true) (s x : Operand)
    (ho : o.op = .call { callee := .builtin .append, args := #[s, x], argTypes := #[30, 30] })
    (B B2 : Nat) (tv xv : Value) (l m : List TRun) (hs : a.eval s = tv) (hx : a.eval x = xv) (h1 : RunOwn B w tv l) (h2 : RunOwn B2 w xv m) (hl : l.length ≤ 1000000) (hm : m.length ≤ 1000000) (hB : B ≤ w.heap.size)
    (h : ∀ A C w', RunOwn B w' (.slice A (l ++ m).length C) (l ++ m) → Below B w w' → wpList Tryz.prog ops Q rest (a.put o.dst (.slice A (l ++ m).length C)) w') : wpList Tryz.prog ops Q (o :: rest) a w := by
  refine wpList_guarded hw fun K hK => ?_
  obtain ⟨v', w', hr, k1, k2⟩ := run_append_runs B B2 w tv xv l m o.type h1 h2 hl hm hB
  obtain ⟨A, e, hv⟩ := k1.view.1
  subst hv
  obtain ⟨ps, _, hown, _⟩ := h1
  unfold Oper.wp execOp
  simp only [ho, resolve, invoke, builtin, Sem.run_bind, Sem.run_pure, Result.andThen_ok, List.map_toArray, List.map_cons, List.map_nil, hs, hx, hr]
  exact hK _ _ (h A _ w' k1 (row_grown_below k2 hown hB))

theorem flatL_snoc (ws : List Bytes) : ∀ (l : List TNode) (t : TNode), flatL ws (l ++ [t]) = flatL ws l ++ flatN ws t
  | [], t => by simp [flatL]
  | x :: l, t => by rw [List.cons_append, flatL, flatL, flatL_snoc ws l t, List.append_assoc]
theorem flatL_take (ws : List Bytes) (l : List TNode) (k : Nat) (t : TNode) (h : l[k]? = some t) : flatL ws (l.take (k + 1)) = flatL ws (l.take k) ++ flatN ws t := by
  rw [List.take_add_one, h]; exact flatL_snoc ws _ t
mutual
theorem flatN_len : ∀ (t : TNode) (ws : List Bytes), (flatN ws t).length ≤ countN t
  | .mk n a x ps, ws => by
    rw [flatN, countN]
    by_cases h : n = []
    · rw [if_pos h]; simp
    · rw [if_neg h]
      have := flatL_len ps (ws ++ [n])
      omega
theorem flatL_len : ∀ (l : List TNode) (ws : List Bytes), (flatL ws l).length ≤ countL l
  | [], ws => by rw [flatL, countL]; simp
  | t :: l, ws => by
    rw [flatL, countL, List.length_append]
    have h1 := flatN_len t ws
    have h2 := flatL_len l ws
    omega
end
theorem countL_len : ∀ l : List TNode, l.length ≤ countL l
  | [] => by simp
  | .mk n a x ps :: l => by
    rw [countL, countN, List.length_cons]
    have := countL_len l
    omega
theorem countL_takeQ : ∀ (l : List TNode) (k : Nat), countL (l.take k) ≤ countL l
  | [], k => by simp
  | t :: l, 0 => by rw [List.take_zero, countL]; exact Nat.zero_le _
  | t :: l, k + 1 => by rw [List.take_succ_cons, countL, countL]; have := countL_takeQ l k; omega
theorem countN_le {l : List TNode} {t : TNode} (h : t ∈ l) : countN t ≤ countL l := by
  induction l with
  | nil => cases h
  | cons x l ih =>
    rw [countL]
    rcases List.mem_cons.1 h with rfl | h
    · omega
    · have := ih h; omega

/-- What the slots of the region of the parts hold. -/
structure FP where
  mv : Value
  nb : Nat
  pv : Value
  wv : Value
  B : Nat
  ws : List Bytes
  n : Bytes
  xs : List TRun
def FlatF (p : FP) (L : Nat → Bool) (i : Nat) (v : Value) (w : World) : Prop := match i with
  | 0 => v = p.mv
  | 1 => v = .pointer (some ⟨p.nb, 3, none⟩)
  | 2 => v = p.pv
  | 3 => v = p.wv
  | 4 => L 8 = true ∨ ∃ B4, p.B ≤ B4 ∧ SRow B4 w v p.ws
  | 5 => v = .pointer (some ⟨p.nb, 0, none⟩)
  | 6 => v = .string (mk p.n)
  | 7 => L 8 = true ∨ ∃ g, v = .slice (some ⟨g, 0, none⟩) 1 1 ∧ w.heap[g]? = some (.cells #[.string (mk p.n)] 9 (0, 0))
  | 8 => SView w v (p.ws ++ [p.n])
  | 9 | 10 => L 8 = true ∧ ∃ tv, v = .tuple #[tv, .int .i64 0] ∧ RunOwn p.B w tv p.xs
  | 11 | 13 => L 8 = true ∧ RunOwn p.B w v p.xs
  | 12 | 14 => v = .int .i64 0
  | _ => True
theorem FlatF.stay {p : FP} {L L' : Nat → Bool} {i : Nat} {v : Value} {w w' : World} (h : FlatF p L i v w) (hL : L 8 = true → L' 8 = true) (hb : Below w.heap.size w w') : FlatF p L' i v w' := by
  unfold FlatF at *
  split at h
  all_goals first | exact h | skip
  · rcases h with h | ⟨B4, h1, h2⟩
    · exact .inl (hL h)
    · exact .inr ⟨B4, h1, h2.below hb⟩
  · rcases h with h | ⟨g, h1, h2⟩
    · exact .inl (hL h)
    · exact .inr ⟨g, h1, (hb.block g (lt_of_block h2)).trans h2⟩
  · exact h.older (Older.of_below hb)
  · obtain ⟨h0, tv, h1, h2⟩ := h; exact ⟨hL h0, tv, h1, h2.below hb⟩
  · obtain ⟨h0, tv, h1, h2⟩ := h; exact ⟨hL h0, tv, h1, h2.below hb⟩
  · exact ⟨hL h.1, h.2.below hb⟩
  · exact ⟨hL h.1, h.2.below hb⟩
theorem FlatF.at8 {p : FP} {L : Nat → Bool} {i : Nat} {v : Value} {w w' : World} (h : FlatF p L i v w) (hi : i ≠ 8) (hL : L 8 = false) : FlatF p (fun j => j == 8 || L j) i v w' := by
  unfold FlatF at *
  split at h
  all_goals first | exact h | exact absurd rfl hi | skip
  · exact .inl rfl
  · exact .inl rfl
  · rw [hL] at h; cases h.1
  · rw [hL] at h; cases h.1
  · rw [hL] at h; cases h.1
  · rw [hL] at h; cases h.1
theorem srow_mono {B B' : Nat} {w : World} {v : Value} {l : List Bytes} (h : SRow B w v l) (hB : B' ≤ B) : SRow B' w v l := by
  refine ⟨h.1, ?_⟩
  rcases h.2 with h3 | ⟨g, cap, cur, h5, h6, h7⟩
  · exact .inl h3
  · exact .inr ⟨g, cap, cur, h5, Nat.le_trans hB h6, h7⟩
set_option maxHeartbeats 4000000 in
set_option maxRecDepth 100000 in
theorem flat_any : ∀ (k d : Nat) (mv v wv : Value) (l : List TNode) (within : List Bytes) (w : World), GoodM k l → countL l ≤ 1000 → within.length + k ≤ 1000 → SView w mv rMarks → SView w wv within → NodeView d w v l →
    Calls Tryz.prog 32 #[mv, v, wv] w fun e w' => ∃ tv, e = .returned (.tuple #[tv, .int .i64 0]) ∧ RunOwn w.heap.size w' tv (flatL within l) ∧ Below w.heap.size w w' := by
  intro k
  induction k with
  | zero =>
    intro d mv v wv l within w hg _ _ _ _ hv
    cases (show l = [] from hg)
    obtain ⟨ad, cap, hf⟩ := hv.form
    subst hf
    simp only [List.length_nil]
    go_enter Tryz.func32, Tryz.ntmps32
    go_wp2_with fail
    go_loop [8, 15] (fun v8 v15 => v8 = .slice none 0 0 ∧ v15 = .int .i64 0) (fun _ _ => 0)
    case atStart => exact ⟨rfl, rfl⟩
    case round =>
      obtain ⟨rfl, rfl⟩ := hrel
      go_wp2_with fail
      exact bodyPost_ret (v := .tuple #[.slice none 0 0, .int .i64 0]) (by simp [results, Tryz.results32, go_sem]) rfl ⟨_, rfl, by rw [flatL]; exact RunOwn.nil _ _, Below.refl _ _⟩
  | succ k ih =>
    intro d mv v wv l within w hg hl hw hmv hwv hv
    obtain ⟨ad, cap, hf⟩ := hv.form
    subst hf
    obtain ⟨⟨wa, we, rfl⟩, -⟩ := id hwv
    obtain ⟨⟨ma, me, rfl⟩, -⟩ := id hmv
    have HV := Lib.hid hv
    have HWV := Lib.hid hwv
    have HMV := Lib.hid hmv
    have HG := Lib.hid hg
    have IH := Lib.hid ih
    clear hv hwv hmv hg ih
    have hll := countL_len l
    go_enter Tryz.func32, Tryz.ntmps32
    go_wp2_with fail
    go_loopw [8, 15] (fun v8 v15 wr => ∃ (Wr : World) (j : Nat) (outs : List TRun) (A : Option Addr) (C : Nat), Wr = wr ∧ v8 = .slice A outs.length C ∧ v15 = .int .i64 j ∧ j ≤ l.length ∧ Hid (outs = flatL within (l.take j)) ∧ Hid (RunOwn w.heap.size Wr (.slice A outs.length C) outs) ∧ Hid (Below w.heap.size w Wr)) (fun _ v15 _ => l.length - (intOf v15).toNat)
    case atStart => exact ⟨_, 0, [], none, 0, rfl, rfl, rfl, by omega, Lib.hid (by rw [List.take_zero, flatL]), Lib.hid (RunOwn.nil _ _), Lib.hid (Below.refl _ _)⟩
    case round =>
      obtain ⟨Wr, j, outs, A, C, rfl, rfl, rfl, hj, HOUT, HO, HB⟩ := hrel
      by_cases hlt : j < l.length
      · obtain ⟨t, ht⟩ : ∃ x, l[j]? = some x := ⟨_, List.getElem?_eq_getElem hlt⟩
        obtain ⟨d', rfl, g, cap', av, pv, hv, hlc, hcm, hg, hat, hav, hpv⟩ := (NodeIn.older HV.out (Older.of_below HB.out)).get j t ht
        obtain ⟨rfl, rfl⟩ : ad = some ⟨g, 0, none⟩ ∧ cap = cap' := by simp at hv; exact hv
        obtain ⟨b0, a1, b2, a3⟩ := hat
        have j0 : (0 : Int) ≤ j := by omega
        have j1 : (j : Int) < l.length := by omega
        have hmem := List.mem_of_getElem? ht
        have hol : outs.length ≤ 1000 := by
          have h1 := flatL_len (l.take j) within
          have h2 := countL_takeQ l j
          rw [← HOUT.out] at h1
          omega
        have HFT := Lib.hid (flatL_take within l j t ht)
        clear hv ht
        rcases HG.out t hmem with ⟨x, hx, rfl⟩ | ⟨n, ps, hn, hps, rfl⟩
        · obtain ⟨aa, ac, rfl⟩ : ∃ aa ac, av = .slice aa 0 ac := hav.1
          obtain ⟨pa, pc, rfl⟩ : ∃ pa pc, pv = .slice pa 0 pc := hpv.form
          have a0 : Wr.cell? ⟨g, j * 4, none⟩ = some (.string ⟨#[]⟩) := b0
          have a2 : Wr.cell? ⟨g, j * 4 + 2, none⟩ = some (.string (mk x)) := b2
          clear hav hpv hmem b0 b2
          obtain ⟨W4, hW4⟩ : ∃ W4, W4 = Wr.alloc (.cells #[.string ⟨#[]⟩, .slice aa 0 ac, .string (mk x), .slice pa 0 pc] 44) := ⟨_, rfl⟩
          have hb4 : Below Wr.heap.size Wr W4 := by rw [hW4]; exact (Below.refl _ _).alloc (Nat.le_refl _) _
          have hN4 : W4.heap[Wr.heap.size]? = some (.cells #[.string ⟨#[]⟩, .slice aa 0 ac, .string (mk x), .slice pa 0 pc] 44 (0, 0)) := by rw [hW4]; exact heap_alloc_new _ _
          have c42 : W4.cell? ⟨Wr.heap.size, 2, none⟩ = some (.string (mk x)) := by rw [Lib.cell_of_heap hN4]; rfl
          have HB4 := Lib.hid (HB.out.trans (hb4.mono HB.out.size))
          have hO4 := (HO.out.older (Older.of_below hb4)).older (Older.of_below ((Below.refl W4.heap.size W4).alloc (Nat.le_refl _) (.cells #[.string (mk x), .slice wa within.length (within.length + we)] 46)))
          obtain ⟨cells, hown0, hpush⟩ := hO4.row
          have HOWN := Lib.hid hown0
          have HPUSH := Lib.hid (hpush ⟨x, within⟩ (.slice wa within.length (within.length + we)))
          have HSX := Lib.hid (HWV.out.older (Older.of_below (HB4.out.trans (((Below.refl W4.heap.size W4).alloc (Nat.le_refl _) (.cells #[.string (mk x), .slice wa within.length (within.length + we)] 46)).mono HB4.out.size))))
          have HNX := Lib.hid (heap_alloc_new W4 (.cells #[.string (mk x), .slice wa within.length (within.length + we)] 46))
          have hzX : w.heap.size ≤ (W4.alloc (.cells #[.string (mk x), .slice wa within.length (within.length + we)] 46)).heap.size := by have := HB4.out.size; simp; omega
          have HBX := Lib.hid (HB4.out.trans (((Below.refl W4.heap.size W4).alloc (Nat.le_refl _) (.cells #[.string (mk x), .slice wa within.length (within.length + we)] 46)).mono HB4.out.size))
          have HW4 := Lib.hid hW4
          have hol2 : outs.length ≤ 1000000 := by omega
          have hft : flatN within (tText x) = [⟨x, within⟩] := by unfold tText; rw [flatN, if_pos rfl]
          rw [hft] at HFT
          clear hb4 hN4 hO4 hown0 hpush hW4 hft
          go_upto_region 8 with fail
          rw [← HW4.out]
          clear HW4
          go_wp2_with (at_builtin; refine wpList_row1 Tryz.underlying30 infoRun rfl (by decide) (by decide) (by rfl) (.tmp 32) (.tmp 37) (by rfl) w.heap.size _ outs.length _ W4.heap.size #[.string (mk x), .slice wa within.length (within.length + we)] (by rfl) (by rfl) HOWN.out HNX.out rfl (by simp [Value.oneCell']) hol2 hzX ?_; intro A2 C2 w9 hown hgr; have HB9 := Lib.hid (HBX.out.trans (row_grown_below hgr HOWN.out hzX)); have HO9 := Lib.hid (HPUSH.out _ w9 HSX.out hgr hown); clear hown hgr)
          refine ⟨⟨_, j + 1, outs ++ [⟨x, within⟩], A2, C2, rfl, by simp, by go_num, by omega, ?_, ?_, HB9⟩, by simp [intOf]; omega⟩
          · rw [HOUT.out, HFT.out]; exact Lib.hid rfl
          · have h := HO9.out
            rw [List.length_append]
            exact Lib.hid h
        · obtain ⟨aa, ac, rfl⟩ : ∃ aa ac, av = .slice aa 0 ac := hav.1
          obtain ⟨pa, pc, rfl⟩ : ∃ pa pc, pv = .slice pa ps.length pc := hpv.form
          have a0 : Wr.cell? ⟨g, j * 4, none⟩ = some (.string (mk n)) := b0
          have a2 : Wr.cell? ⟨g, j * 4 + 2, none⟩ = some (.string ⟨#[]⟩) := b2
          have hpv : NodeView d' Wr (.slice pa ps.length pc) ps := hpv
          have hne := (rMarks_facts n hn).1
          have t1 : (mk n).toList.isEmpty = false := by rw [toList_mk]; simpa using hne
          have t2 : ¬ (mk n).toList = [] := by rw [toList_mk]; exact hne
          have t3 : ((mk n).toList == []) = false := beq_eq_false_iff_ne.2 t2
          obtain ⟨W4, hW4⟩ : ∃ W4, W4 = Wr.alloc (.cells #[.string (mk n), .slice aa 0 ac, .string ⟨#[]⟩, .slice pa ps.length pc] 44) := ⟨_, rfl⟩
          have hb4 : Below Wr.heap.size Wr W4 := by rw [hW4]; exact (Below.refl _ _).alloc (Nat.le_refl _) _
          have hN4 : W4.heap[Wr.heap.size]? = some (.cells #[.string (mk n), .slice aa 0 ac, .string ⟨#[]⟩, .slice pa ps.length pc] 44 (0, 0)) := by rw [hW4]; exact heap_alloc_new _ _
          clear hav b0 b2
          have HCV := Lib.hid (fun W (hb : Below w.heap.size w W) => containsV_any _ rMarks n (by decide) W (HMV.out.older (Older.of_below hb)))
          rw [show rMarks.contains n = true from List.contains_iff_mem.2 hn] at HCV
          have HN4 := Lib.hid hN4
          have HB4 := Lib.hid hb4
          have HW4 := Lib.hid hW4
          have HPV := Lib.hid hpv
          clear hN4 hb4 hW4 hpv
          have c40 : W4.cell? ⟨Wr.heap.size, 0, none⟩ = some (.string (mk n)) := by rw [Lib.cell_of_heap HN4.out]; rfl
          have c43 : W4.cell? ⟨Wr.heap.size, 3, none⟩ = some (.slice pa ps.length pc) := by rw [Lib.cell_of_heap HN4.out]; rfl
          have HBW4 := Lib.hid (HB.out.trans (HB4.out.mono HB.out.size))
          have HCV4 := Lib.hid (HCV.out W4 HBW4.out)
          have hcps : countL ps ≤ 1000 := by
            have h1 := countN_le hmem
            unfold tElem at h1
            rw [countN] at h1
            omega
          clear HCV hmem
          go_upto_region 11 with fail
          rw [← HW4.out]
          go_wp2_with fail
          refine HCV4.out.mono ?_
          rintro e w' ⟨rfl, hw5⟩
          obtain ⟨w5, hw5e⟩ : ∃ w5, w5 = W4 := ⟨_, rfl⟩
          rw [← hw5, ← hw5e]
          rw [← hw5e] at c40 c43
          clear hw5
          have HMV4 := Lib.hid (show SView w5 (.slice ma rMarks.length (rMarks.length + me)) rMarks by rw [hw5e]; exact HMV.out.older (Older.of_below HBW4.out))
          have HWV4 := Lib.hid (show SView w5 (.slice wa within.length (within.length + we)) within by rw [hw5e]; exact HWV.out.older (Older.of_below HBW4.out))
          have HPV4 := Lib.hid (show NodeView d' w5 (.slice pa ps.length pc) ps by rw [hw5e]; exact NodeIn.older HPV.out (Older.of_below HB4.out))
          have HO5 := Lib.hid (show RunOwn w.heap.size w5 (.slice A outs.length C) outs by rw [hw5e]; exact HO.out.older (Older.of_below HB4.out))
          have HB5 := Lib.hid (show Below w.heap.size w w5 by rw [hw5e]; exact HBW4.out)
          have HFN := Lib.hid (show flatN within (tElem n [] ps) = flatL (within ++ [n]) ps by unfold tElem; rw [flatN, if_neg hne])
          clear hw5e HW4 HN4 HCV4 HB4 HO t1 t2 t3
          go_upto_region 13 with fail
          refine wp_region_free (by kernel_rfl) (fun i o hi => ?hac) (fun i => ([54, 55, 56, 57, 58, 59, 60, 61, 62, 63, 53, 64, 65, 11, 12] : List Nat).getD i 0) 15 (FlatF ⟨.slice ma rMarks.length (rMarks.length + me), Wr.heap.size, .slice pa ps.length pc, .slice wa within.length (within.length + we), w5.heap.size, within, n, flatL (within ++ [n]) ps⟩) ?hn ?hD ?hz (fun i o hi => ?hdst) (fun i o hi15 hi => ?hstep) (fun V L wx hL hV hb => ?hend)
          case hn => rfl
          case hD => as_aux_lemma =>
            have h : ∀ i, i < 15 → ∀ j, j < 15 → ([54, 55, 56, 57, 58, 59, 60, 61, 62, 63, 53, 64, 65, 11, 12] : List Nat).getD i 0 = ([54, 55, 56, 57, 58, 59, 60, 61, 62, 63, 53, 64, 65, 11, 12] : List Nat).getD j 0 → i = j := by decide
            exact fun i j hi hj => h i hi j hj
          case hz => as_aux_lemma =>
            have h : ∀ i, i < 15 → ([54, 55, 56, 57, 58, 59, 60, 61, 62, 63, 53, 64, 65, 11, 12] : List Nat).getD i 0 < 66 := by decide
            intro i hi
            exact Nat.lt_of_lt_of_le (h i hi) (Nat.le_of_ble_eq_true rfl)
          case hac => as_aux_lemma =>
            have hlt : i < 15 := (Array.getElem?_eq_some_iff.1 hi).1
            have hw : i = 0 ∨ i = 1 ∨ i = 2 ∨ i = 3 ∨ i = 4 ∨ i = 5 ∨ i = 6 ∨ i = 7 ∨ i = 8 ∨ i = 9 ∨ i = 10 ∨ i = 11 ∨ i = 12 ∨ i = 13 ∨ i = 14 := by omega
            rcases hw with rfl | rfl | rfl | rfl | rfl | rfl | rfl | rfl | rfl | rfl | rfl | rfl | rfl | rfl | rfl <;> (change some _ = some o at hi; cases hi; first | (simp; done) | decide)
          case hdst => as_aux_lemma =>
            have hlt : i < 15 := (Array.getElem?_eq_some_iff.1 hi).1
            have hw : i = 0 ∨ i = 1 ∨ i = 2 ∨ i = 3 ∨ i = 4 ∨ i = 5 ∨ i = 6 ∨ i = 7 ∨ i = 8 ∨ i = 9 ∨ i = 10 ∨ i = 11 ∨ i = 12 ∨ i = 13 ∨ i = 14 := by omega
            rcases hw with rfl | rfl | rfl | rfl | rfl | rfl | rfl | rfl | rfl | rfl | rfl | rfl | rfl | rfl | rfl <;> (change some _ = some o at hi; cases hi; rfl)
          case hend =>
            have h13 : L 8 = true ∧ RunOwn w5.heap.size wx (V 13) (flatL (within ++ [n]) ps) := hV 13 (by omega)
            have h14 : V 14 = .int .i64 0 := hV 14 (by omega)
            obtain ⟨-, h13⟩ := h13
            simp only [fillD, Act.put, List.setIfInBounds_toArray, List.set_cons_zero, List.set_cons_succ, List.getD_cons_zero, List.getD_cons_succ]
            rw [h14]
            obtain ⟨xa, xe, hx13⟩ := h13.view.1
            rw [hx13] at h13 ⊢
            have H13 := Lib.hid h13
            have HBX := Lib.hid (HB5.out.trans (hb.mono HB5.out.size))
            have HOX := Lib.hid (HO5.out.older (Older.of_below hb))
            have hzX : w.heap.size ≤ wx.heap.size := HBX.out.size
            have hol2 : outs.length ≤ 1000000 := by omega
            have hml : (flatL (within ++ [n]) ps).length ≤ 1000000 := by have := flatL_len ps (within ++ [n]); omega
            clear h13 h14 hV hL hb hx13
            go_wp2_with (at_builtin; refine wpList_runs (by rfl) (.tmp 69) (.tmp 70) (by rfl) w.heap.size w5.heap.size _ _ outs (flatL (within ++ [n]) ps) (by rfl) (by rfl) HOX.out H13.out hol2 hml hzX ?_; intro A2 C2 w9 hown hb9; have HB9 := Lib.hid (HBX.out.trans hb9); have HO9 := Lib.hid hown; clear hown hb9)
            go_roundw
            case rel => exact ⟨_, j + 1, outs ++ flatL (within ++ [n]) ps, A2, C2, rfl, by simp, by go_num, by omega, Lib.hid (by rw [HOUT.out, HFT.out, HFN.out]), HO9, HB9⟩
            case measure => simp [intOf]; omega
          case hstep => as_aux_lemma =>
            intro L ax X hCl hbx hrest hLi hdep hall K Q' hK
            have e0 : ax.tmps[0]? = some (.slice ma rMarks.length (rMarks.length + me)) := (hrest 0 (by decide)).trans rfl
            have e2 : ax.tmps[2]? = some (.slice wa within.length (within.length + we)) := (hrest 2 (by decide)).trans rfl
            have e10 : ax.tmps[10]? = some (.pointer (some ⟨Wr.heap.size, 0, none⟩)) := (hrest 10 (by decide)).trans rfl
            clear hrest
            have hw : i = 0 ∨ i = 1 ∨ i = 2 ∨ i = 3 ∨ i = 4 ∨ i = 5 ∨ i = 6 ∨ i = 7 ∨ i = 8 ∨ i = 9 ∨ i = 10 ∨ i = 11 ∨ i = 12 ∨ i = 13 ∨ i = 14 := by omega
            rcases hw with rfl | rfl | rfl | rfl | rfl | rfl | rfl | rfl | rfl | rfl | rfl | rfl | rfl | rfl | rfl
            · change some _ = some o at hi
              cases hi
              have HK := Lib.hid hK
              clear hK hall hdep hCl
              go_simp
              exact HK.out _ _ (Below.refl _ _) (fun j u _ _ hF => hF.stay (fun h => by simp [h]) (Below.refl _ _)) rfl
            · change some _ = some o at hi
              cases hi
              have HK := Lib.hid hK
              clear hK hall hdep hCl
              go_simp
              exact HK.out _ _ (Below.refl _ _) (fun j u _ _ hF => hF.stay (fun h => by simp [h]) (Below.refl _ _)) rfl
            · change some _ = some o at hi
              cases hi
              obtain ⟨va, qa, ha⟩ := hall 1 (by omega) (hdep ⟨1, .data⟩ (by simp) rfl)
              have qa : ax.tmps[55]? = some va := qa
              obtain rfl : va = .pointer (some ⟨Wr.heap.size, 3, none⟩) := ha
              have cx := (hbx.cell (p := ⟨Wr.heap.size, 3, none⟩) (block_lt_of_cell c43)).trans c43
              have HK := Lib.hid hK
              clear hK hall hdep hCl
              go_simp
              exact HK.out _ _ (Below.refl _ _) (fun j u _ _ hF => hF.stay (fun h => by simp [h]) (Below.refl _ _)) rfl
            · change some _ = some o at hi
              cases hi
              have HK := Lib.hid hK
              clear hK hall hdep hCl
              go_simp
              exact HK.out _ _ (Below.refl _ _) (fun j u _ _ hF => hF.stay (fun h => by simp [h]) (Below.refl _ _)) rfl
            · change some _ = some o at hi
              cases hi
              obtain ⟨va, qa, ha⟩ := hall 3 (by omega) (hdep ⟨3, .data⟩ (by simp) rfl)
              have qa : ax.tmps[57]? = some va := qa
              obtain rfl : va = .slice wa within.length (within.length + we) := ha
              have HCL := Lib.hid (cloneS_any (.slice wa within.length (within.length + we)) within (by omega) X (HWV4.out.older (Older.of_below hbx)))
              have hzX := hbx.size
              have HBX := Lib.hid hbx
              have HK := Lib.hid hK
              clear hK hall hdep hCl
              go_simp
              refine HCL.out.mono ?_
              rintro e X' ⟨v', rfl, hrow, hbX⟩
              exact HK.out _ _ (hbX.mono hzX) (fun j u _ _ hF => hF.stay (fun h => by simp [h]) hbX) (.inr ⟨X.heap.size, hzX, hrow⟩)
            · change some _ = some o at hi
              cases hi
              have HK := Lib.hid hK
              clear hK hall hdep hCl
              go_simp
              exact HK.out _ _ (Below.refl _ _) (fun j u _ _ hF => hF.stay (fun h => by simp [h]) (Below.refl _ _)) rfl
            · change some _ = some o at hi
              cases hi
              obtain ⟨va, qa, ha⟩ := hall 5 (by omega) (hdep ⟨5, .data⟩ (by simp) rfl)
              have qa : ax.tmps[59]? = some va := qa
              obtain rfl : va = .pointer (some ⟨Wr.heap.size, 0, none⟩) := ha
              have cx := (hbx.cell (p := ⟨Wr.heap.size, 0, none⟩) (block_lt_of_cell c40)).trans c40
              have HK := Lib.hid hK
              clear hK hall hdep hCl
              go_simp
              exact HK.out _ _ (Below.refl _ _) (fun j u _ _ hF => hF.stay (fun h => by simp [h]) (Below.refl _ _)) rfl
            · change some _ = some o at hi
              cases hi
              obtain ⟨va, qa, ha⟩ := hall 6 (by omega) (hdep ⟨6, .data⟩ (by simp) rfl)
              have qa : ax.tmps[60]? = some va := qa
              obtain rfl : va = .string (mk n) := ha
              have hzX := hbx.size
              have HK := Lib.hid hK
              clear hK hall hdep hCl
              go_simp
              have hba := (Below.refl X.heap.size X).alloc (Nat.le_refl _) (.cells #[.string (mk n)] 9)
              exact HK.out _ _ (hba.mono hzX) (fun j u _ _ hF => hF.stay (fun h => by simp [h]) hba) (.inr ⟨X.heap.size, rfl, heap_alloc_new X _⟩)
            · change some _ = some o at hi
              cases hi
              obtain ⟨v4, q4, h4⟩ := hall 4 (by omega) (hdep ⟨4, .data⟩ (by simp) rfl)
              obtain ⟨v7, q7, h7⟩ := hall 7 (by omega) (hdep ⟨7, .data⟩ (by simp) rfl)
              have q4 : ax.tmps[58]? = some v4 := q4
              have q7 : ax.tmps[61]? = some v7 := q7
              have hL8 : L 8 = false := hLi
              rcases h4 with h4 | ⟨B4, hB4, hrow⟩
              · rw [hL8] at h4; cases h4
              rcases h7 with h7 | ⟨g7, rfl, hg7⟩
              · rw [hL8] at h7; cases h7
              obtain ⟨A4, C4, hf4⟩ := ownsRow_slice hrow
              subst hf4
              have hzX := hbx.size
              have hB4 : w5.heap.size ≤ B4 := hB4
              have hBX4 : w5.heap.size ≤ X.heap.size := hzX
              have hrow' : SRow w5.heap.size X (.slice A4 within.length C4) within := srow_mono hrow hB4
              refine step_row1 Tryz.underlying29 infoStr rfl (by decide) (by decide) rfl (.tmp 58) (.tmp 61) rfl w5.heap.size (.slice A4 within.length C4) within.length _ g7 #[.string (mk n)] (by simp [Act.eval, q4]) (by simp [Act.eval, q7]) hrow' hg7 rfl (by simp [Value.oneCell']) (by omega) hBX4 ?_
              intro A2 C2 X' hown hgr
              have hbX : Below w5.heap.size X X' := row_grown_below hgr hrow' hBX4
              refine hK _ _ hbX (fun j u hji _ hF => hF.at8 hji hL8) ?_
              have hr : SRow w5.heap.size X' (.slice A2 (within.length + 1) C2) (within ++ [n]) := by
                unfold SRow
                rw [List.map_append, List.length_append]
                exact hown
              exact hr.sview
            · change some _ = some o at hi
              cases hi
              obtain ⟨va, qa, ha⟩ := hall 0 (by omega) (hdep ⟨0, .data⟩ (by simp) rfl)
              have qa : ax.tmps[54]? = some va := qa
              obtain rfl : va = .slice ma rMarks.length (rMarks.length + me) := ha
              obtain ⟨vb, qb, hb⟩ := hall 2 (by omega) (hdep ⟨2, .data⟩ (by simp) rfl)
              have qb : ax.tmps[56]? = some vb := qb
              obtain rfl : vb = .slice pa ps.length pc := hb
              obtain ⟨vc, qc, hc⟩ := hall 8 (by omega) (hdep ⟨8, .data⟩ (by simp) rfl)
              have qc : ax.tmps[62]? = some vc := qc
              have hc : SView X vc (within ++ [n]) := hc
              obtain ⟨ca, ce, hvc⟩ := hc.1
              rw [show (within ++ [n]).length = within.length + 1 by simp] at hvc
              subst hvc
              have hzX := hbx.size
              have hL8 : L 8 = true := hdep ⟨8, .data⟩ (by simp) rfl
              have HCALL := Lib.hid (IH.out d' _ _ _ ps (within ++ [n]) X hps hcps (by rw [List.length_append]; simp; omega) (HMV4.out.older (Older.of_below hbx)) hc (NodeIn.older HPV4.out (Older.of_below hbx)))
              have HK := Lib.hid hK
              clear hK hall hdep hCl
              go_simp
              refine HCALL.out.mono ?_
              rintro e X' ⟨tv, rfl, hown, hbX⟩
              exact HK.out _ _ (hbX.mono hzX) (fun j u _ _ hF => hF.stay (fun h => by simp [h]) hbX) ⟨by simp [hL8], tv, rfl, hown.mono hzX⟩
            · change some _ = some o at hi
              cases hi
              obtain ⟨va, qa, ha⟩ := hall 9 (by omega) (hdep ⟨9, .data⟩ (by simp) rfl)
              have qa : ax.tmps[63]? = some va := qa
              obtain ⟨hL8, tv, rfl, hown⟩ := ha
              have HOWN := Lib.hid hown
              clear hown
              have HK := Lib.hid hK
              clear hK hall hdep hCl
              go_simp
              exact HK.out _ _ (Below.refl _ _) (fun j u _ _ hF => hF.stay (fun h => by simp [h]) (Below.refl _ _)) ⟨by simp [hL8], tv, rfl, HOWN.out⟩
            · change some _ = some o at hi
              cases hi
              obtain ⟨va, qa, ha⟩ := hall 10 (by omega) (hdep ⟨10, .data⟩ (by simp) rfl)
              have qa : ax.tmps[53]? = some va := qa
              obtain ⟨hL8, tv, rfl, hown⟩ := ha
              have HOWN := Lib.hid hown
              clear hown
              have HK := Lib.hid hK
              clear hK hall hdep hCl
              go_simp
              exact HK.out _ _ (Below.refl _ _) (fun j u _ _ hF => hF.stay (fun h => by simp [h]) (Below.refl _ _)) ⟨by simp [hL8], HOWN.out⟩
            · change some _ = some o at hi
              cases hi
              obtain ⟨va, qa, ha⟩ := hall 10 (by omega) (hdep ⟨10, .data⟩ (by simp) rfl)
              have qa : ax.tmps[53]? = some va := qa
              obtain ⟨hL8, tv, rfl, hown⟩ := ha
              have HOWN := Lib.hid hown
              clear hown
              have HK := Lib.hid hK
              clear hK hall hdep hCl
              go_simp
              exact HK.out _ _ (Below.refl _ _) (fun j u _ _ hF => hF.stay (fun h => by simp [h]) (Below.refl _ _)) rfl
            · change some _ = some o at hi
              cases hi
              obtain ⟨va, qa, ha⟩ := hall 11 (by omega) (hdep ⟨11, .data⟩ (by simp) rfl)
              have qa : ax.tmps[64]? = some va := qa
              obtain ⟨hL8, hown⟩ := ha
              have HOWN := Lib.hid hown
              clear hown
              have HK := Lib.hid hK
              clear hK hall hdep hCl
              go_simp
              exact HK.out _ _ (Below.refl _ _) (fun j u _ _ hF => hF.stay (fun h => by simp [h]) (Below.refl _ _)) ⟨by simp [hL8], HOWN.out⟩
            · change some _ = some o at hi
              cases hi
              obtain ⟨va, qa, ha⟩ := hall 12 (by omega) (hdep ⟨12, .data⟩ (by simp) rfl)
              have qa : ax.tmps[65]? = some va := qa
              obtain rfl : va = .int .i64 0 := ha
              have HK := Lib.hid hK
              clear hK hall hdep hCl
              go_simp
              exact HK.out _ _ (Below.refl _ _) (fun j u _ _ hF => hF.stay (fun h => by simp [h]) (Below.refl _ _)) rfl
      · obtain rfl : j = l.length := by omega
        rw [List.take_length] at HOUT
        go_wp2_with fail
        exact bodyPost_ret (v := .tuple #[.slice A outs.length C, .int .i64 0]) (by simp [results, Tryz.results32, go_sem]) rfl ⟨_, rfl, by rw [← HOUT.out]; exact HO.out, HB.out⟩
end Go.Proofs.YtjkgmdnkejjppaaGreatDoor
