/- Joined texts: TWalkA TWalkB TWalkC. -/
import Derived.Test.YtjkgmdnkejjppaaGreatDoorGh
import Derived.Test.YtjkgmdnkejjppaaGreatDoorGb
import Derived.Test.YtjkgmdnkejjppaaGreatDoorGa
/- Walks of the tree's helpers: slices.Index and Contains on texts, slices.Clone of attributes; last, find, closeAt of the builder. -/
namespace Go.Proofs.YtjkgmdnkejjppaaGreatDoor
open Go Go.RowKit

/-- A row of texts at a block. -/
def StrAt (w : World) (g : Nat) (l : List Bytes) : Prop := ∀ i s, l[i]? = some s → w.cell? ⟨g, i, none⟩ = some (.string (mk s))
def idxS (s : Bytes) (l : List Bytes) : Int := match l.findIdx? (fun x => x == s) with
  | some i => i
  | none => -1

set_option maxHeartbeats 1000000 in
theorem strIndex_any (g cap : Nat) (l : List Bytes) (s : Bytes) (hl : l.length ≤ 1000000) (w : World) (h : StrAt w g l) :
    Calls Tryz.prog 71 #[.slice (some ⟨g, 0, none⟩) l.length cap, .string (mk s)] w fun e w' => ∃ i : Int, e = .returned (.int .i64 i) ∧ (0 ≤ i ↔ s ∈ l) ∧ w = w' := by
  have HS := Lib.hid h
  clear h
  go_enter Tryz.func71, Tryz.ntmps71
  go_wp2_with fail
  go_loop [8] (fun i => ∃ k : Nat, k ≤ l.length ∧ i = .int .i64 k ∧ Hid (∀ j, j < k → l[j]? ≠ some s)) (fun i => l.length - (intOf i).toNat)
  case atStart => exact ⟨0, by omega, rfl, Lib.hid (fun j hj => by omega)⟩
  case round =>
    obtain ⟨k, hk, rfl, hno⟩ := hrel
    by_cases hlt : k < l.length
    · obtain ⟨x, hx⟩ : ∃ x, l[k]? = some x := ⟨_, List.getElem?_eq_getElem hlt⟩
      have hc := HS.out k x hx
      have HX := Lib.hid hx
      clear hx
      have k0 : (0 : Int) ≤ k := by omega
      have k1 : (k : Int) < l.length := by omega
      by_cases he : s = x
      · have he1 : ((mk s).toList == (mk x).toList) = true := by rw [he]; exact beq_self_eq_true _
        have he2 : (mk s).toList = (mk x).toList := by rw [he]
        have HE := Lib.hid he
        clear he he2
        have HE2 := he1
        go_wp2_with fail
        all_goals first
          | (go_ret; exact ⟨_, rfl, ⟨fun _ => by rw [HE.out]; exact List.mem_of_getElem? HX.out, fun _ => k0⟩, rfl⟩)
          | (exfalso; rename_i hh; exact hh (by rw [HE.out]))
      · have he1 : ((mk s).toList == (mk x).toList) = false := beq_eq_false_iff_ne.2 (by rw [toList_mk, toList_mk]; exact he)
        have he2 : ¬ (mk s).toList = (mk x).toList := by rw [toList_mk, toList_mk]; exact he
        have HN := Lib.hid (show ∀ j, j < k + 1 → l[j]? ≠ some s from fun j hj => by
          by_cases hjk : j = k
          · subst hjk; rw [HX.out]; intro h; exact he (Option.some.inj h).symm
          · exact hno.out j (by omega))
        clear he
        go_wp2_with fail
        go_round
        case rel => exact ⟨k + 1, by omega, by go_num, HN⟩
        case measure => simp [intOf]; omega
    · obtain rfl : k = l.length := by omega
      go_wp2_with fail
      go_ret
      refine ⟨-1, rfl, ⟨fun h => by omega, fun hm => ?_⟩, rfl⟩
      obtain ⟨j, hj⟩ := List.getElem?_of_mem hm
      exact absurd hj (hno.out j (List.getElem?_eq_some_iff.1 hj).1)

theorem strContains_any (g cap : Nat) (l : List Bytes) (s : Bytes) (hl : l.length ≤ 1000000) (w : World) (h : StrAt w g l) :
    Calls Tryz.prog 46 #[.slice (some ⟨g, 0, none⟩) l.length cap, .string (mk s)] w fun e w' => e = .returned (.bool (l.contains s)) ∧ w = w' := by
  have HI := Lib.hid (strIndex_any g cap l s hl w h)
  clear h
  go_enter Tryz.func46, Tryz.ntmps46
  go_wp2_with fail
  refine HI.out.mono ?_
  rintro e w' ⟨i, rfl, hi, rfl⟩
  have hb : l.contains s = decide (0 ≤ i) := by rw [Bool.eq_iff_iff]; simp [hi]
  have HB := Lib.hid hb
  clear hi hb
  go_wp2_with fail
  go_ret
  exact ⟨by rw [HB.out]; rfl, rfl⟩

theorem attrCells_one (l : List TAttr) : ∀ u ∈ attrCells l, u.oneCell' = true := by
  intro u hu
  obtain ⟨a, _, hu⟩ := List.mem_flatMap.1 hu
  simp only [List.mem_cons, List.not_mem_nil, or_false] at hu
  rcases hu with rfl | rfl <;> rfl
/-- The cells of attributes that are seen, where there is one. -/
theorem AttrView.row {w : World} {ad : Addr} {cap : Nat} {a : List TAttr} (h : AttrView w (.slice (some ad) a.length cap) a) : ∀ j u, (attrCells a)[j]? = some u → w.cell? (ad.add j) = some u := by
  intro j u hu
  have hj : j < a.length * 2 := by rw [← attrCells_length]; exact (List.getElem?_eq_some_iff.1 hu).1
  obtain ⟨t, ht⟩ : ∃ t, a[j / 2]? = some t := ⟨_, List.getElem?_eq_getElem (by omega)⟩
  obtain ⟨g, c, hv, _, _, h1, h2⟩ := h.2 (j / 2) t ht
  obtain ⟨k1, k2⟩ := attrCells_get a (j / 2) t ht
  obtain ⟨rfl, _⟩ : ad = ⟨g, 0, none⟩ ∧ cap = c := by simpa using hv
  have hadd : (⟨g, 0, none⟩ : Addr).add j = ⟨g, j, none⟩ := by unfold Addr.add; split <;> simp_all
  rw [hadd]
  rcases (show j = j / 2 * 2 ∨ j = j / 2 * 2 + 1 by omega) with e | e
  · rw [e] at hu ⊢; rw [k1] at hu; cases hu; exact h1
  · rw [e] at hu ⊢; rw [k2] at hu; cases hu; exact h2

set_option maxHeartbeats 1000000 in
set_option maxRecDepth 100000 in
theorem clone_any (av : Value) (a : List TAttr) (w : World) (h : AttrView w av a) (hl : a.length ≤ 1000000) :
    Calls Tryz.prog 53 #[av] w fun e w' => ∃ v', e = .returned v' ∧ AttrView w' v' a ∧ Below w.heap.size w w' := by
  obtain ⟨⟨x, cap, rfl⟩, hc⟩ := h
  cases x with
  | none =>
    have ha : a = [] := by
      cases a with
      | nil => rfl
      | cons t a => obtain ⟨g, c, hv, _⟩ := hc 0 t rfl; simp at hv
    subst ha
    clear hc
    have hq : (binOp .eql 42 (.slice none 0 cap) (.slice none 0 0)).run Tryz.prog w = .ok (.bool true) w := Lib.run_eql_slice_nil (P := Tryz.prog) w 42 85 none 0 cap 0 0 Tryz.underlying42
    rw [show (Value.slice none ([] : List TAttr).length cap) = .slice none 0 cap from rfl]
    go_enter Tryz.func53, Tryz.ntmps53
    go_wp2_with fail
    go_ret
    exact ⟨_, rfl, ⟨⟨_, _, rfl⟩, fun i t hi => by simp at hi⟩, Below.refl _ _⟩
  | some ad =>
    obtain ⟨i0, hi0, hz0, hz1, hz2⟩ := info_parts infoAttr
    have hrow := (AttrView.older ⟨⟨_, _, rfl⟩, hc⟩ (Older.of_below ((Below.refl w.heap.size w).alloc (Nat.le_refl _) (.cells #[] 85))) : AttrView _ (.slice (some ad) a.length cap) a).row
    have HR := Lib.hid hrow
    have hown : (w.alloc (.cells #[] 85)).ownsRow w.heap.size 85 2 (.slice (some ⟨w.heap.size, 0, none⟩) 0 0) 0 [] := ⟨rfl, .inr ⟨w.heap.size, 0, #[], rfl, Nat.le_refl _, heap_alloc_new _ _, Nat.le_refl _, Nat.zero_le _, rfl, rfl⟩⟩
    have HO := Lib.hid hown
    have hq : (binOp .eql 42 (.slice (some ad) a.length cap) (.slice none 0 0)).run Tryz.prog w = .ok (.bool false) w := Lib.run_eql_slice_nil (P := Tryz.prog) w 42 85 (some ad) a.length cap 0 0 Tryz.underlying42
    clear hc hrow hown
    go_enter Tryz.func53, Tryz.ntmps53
    go_wp2_with (at_builtin; go_loud (refine wpList_append_own _ (by rfl) (.tmp 5) (.tmp 6) _ (by rfl) w.heap.size 85 i0 _ 2 32 Tryz.underlying42 hi0 hz0 hz1 hz2 rfl (by decide) (.slice (some ⟨w.heap.size, 0, none⟩) 0 0) 0 [] (by rfl) HO.out ad a.length cap (attrCells a) (by rfl) (attrCells_length a) HR.out (attrCells_one a) (by unfold maxLen; omega) (by omega) (by simp) ?_); intro v' w' hown1 hgr _; have HOWN := Lib.hid hown1; have HG := Lib.hid hgr; clear hown1 hgr)
    go_ret
    refine ⟨_, rfl, ?_, ?_⟩
    · have h := HOWN.out
      rw [Nat.zero_add, List.nil_append] at h
      exact AttrRow.view h
    · have h := HG.out
      refine ⟨h.os, h.tape, h.output, Nat.le_trans (by simp) h.size, fun k hk => ?_⟩
      rw [h.block k (by simp; omega) (fun e => by have h2 : w.heap.size = k := (Option.some.inj (show some k = some w.heap.size from e)).symm; omega)]
      exact Below.heap_alloc _ _ _ hk

section
variable {B : Nat} {w : World} {bb root : Nat} {H : OMap} {pv : Nat → Value} {bs : List Nat} {sv : Value} {c : Nat} {m : Bytes}

set_option maxHeartbeats 1000000 in
theorem last_any {b : Nat} (h : BW B w bb root H pv (b :: bs) sv c m) (hl : bs.length ≤ 1000000) :
    Calls Tryz.prog 54 #[ptr bb] w fun e w' => e = .returned (ptr b) ∧ ∃ n, w' = w.drewN n := by
  obtain ⟨-, c1, -, -, -, -⟩ := h.cells
  have hi : ((b :: bs).reverse)[bs.length]? = some b := by rw [List.reverse_cons, List.getElem?_append_right (by simp)]; simp
  have hown : w.ownsRow B 62 1 sv (b :: bs).reverse.length (ptrs (b :: bs).reverse) := by rw [List.length_reverse]; exact h.own
  obtain ⟨g, cap, hv, hc, hcell⟩ := own_ptrs hown hi
  have hlen : (b :: bs).reverse.length = bs.length + 1 := by simp
  rw [hlen] at hv hc
  subst hv
  clear h hown hi hlen
  unfold ptr at *
  have z0 : ((bs.length + 1 : Nat) : Int) - 1 = bs.length := by omega
  have z1 : IntKind.i64.wrap ((bs.length : Int) + 1 - 1) = bs.length := by rw [show (bs.length : Int) + 1 - 1 = bs.length by omega]; exact IntWalk.i64_in _ (by omega)
  have z2 : IntKind.i64.wrap (bs.length : Int) = bs.length := IntWalk.i64_in _ (by omega)
  go_enter Tryz.func54, Tryz.ntmps54
  go_wp2_with fail
  go_quiet (fail)
  go_wp2_with fail
  go_ret
  exact ⟨rfl, _, rfl⟩

/-- A frame of the stack, by its place from the root. -/
theorem stk_at {H : OMap} {c : Option Nat} {hi : Nat} {bs : List Nat} {fs : List Fr} (h : Stk H c hi bs fs) : ∀ i, 0 < i → i < fs.length → ∃ b nb f r, bs.reverse[i]? = some b ∧ fs.reverse[i]? = some f ∧ H b = some r ∧ r.nb = some nb ∧ r.name = f.name := by
  induction h with
  | root => intro i h0 h1; simp at h1; omega
  | cons b nb f ks c hi bs fs h hn hk hr ih =>
    intro i h0 h1
    have hl := hr.len
    simp only [List.length_cons] at h1
    by_cases he : i = fs.length
    · subst he
      refine ⟨b, nb, f, _, ?_, ?_, h, rfl, rfl⟩
      · rw [List.reverse_cons, List.getElem?_append_right (by rw [List.length_reverse]; omega), List.length_reverse, hl]; simp
      · rw [List.reverse_cons, List.getElem?_append_right (by rw [List.length_reverse]; omega), List.length_reverse]; simp
    · obtain ⟨b', nb', f', r', h2, h3, h4⟩ := ih i h0 (by omega)
      refine ⟨b', nb', f', r', ?_, ?_, h4⟩
      · rw [List.reverse_cons, List.getElem?_append_left (by rw [List.length_reverse]; omega)]; exact h2
      · rw [List.reverse_cons, List.getElem?_append_left (by rw [List.length_reverse]; omega)]; exact h3
/-- The last open element of a name, from place i + 1 down. -/
theorem findM_from (n : Bytes) : ∀ (fs : List Fr) (i : Nat), i < fs.length → (∀ j f, i < j → fs.reverse[j]? = some f → f.name ≠ n) → (i = 0 → findM n fs = 0) ∧ ∀ f, 0 < i → fs.reverse[i]? = some f → f.name = n → findM n fs = i
  | [], i, h, _ => by simp at h
  | [f], i, h, _ => ⟨fun _ => rfl, fun _ h0 => by simp at h; omega⟩
  | f :: g :: r, i, h, hno => by
    have e : (f :: g :: r).reverse = (g :: r).reverse ++ [f] := by rw [List.reverse_cons]
    have hl : (g :: r).reverse.length = (g :: r).length := List.length_reverse
    by_cases hi : i = (g :: r).length
    · refine ⟨fun h0 => by rw [h0] at hi; simp at hi, fun f' _ hf hn => ?_⟩
      rw [e, List.getElem?_append_right (by rw [hl]; omega), hl, hi] at hf
      simp at hf
      subst hf
      unfold findM
      rw [if_pos hn, hi]
    · have hlt : i < (g :: r).length := by simp at h hi ⊢; omega
      have hf : f.name ≠ n := hno (g :: r).length f hlt (by rw [e, List.getElem?_append_right (by rw [hl]; omega), hl]; simp)
      have ih := findM_from n (g :: r) i hlt (fun j f' hj hf' => by
        have hjl : j < (g :: r).length := by rw [← hl]; exact (List.getElem?_eq_some_iff.1 hf').1
        exact hno j f' hj (by rw [e, List.getElem?_append_left (by rw [hl]; exact hjl)]; exact hf'))
      unfold findM
      rw [if_neg hf]
      refine ⟨ih.1, fun f' h0 hf' hn => ih.2 f' h0 ?_ hn⟩
      rw [e, List.getElem?_append_left (by rw [hl]; exact hlt)] at hf'
      exact hf'

set_option maxHeartbeats 1000000 in
set_option maxRecDepth 100000 in
theorem find_any {fs : List Fr} {hi : Nat} (n : Bytes) (h : BW B w bb root H pv bs sv c m) (hs : Stk H none hi bs fs) (hl : bs.length ≤ 1000000) :
    Calls Tryz.prog 28 #[ptr bb, .string (mk n)] w fun e w' => e = .returned (.int .i64 (findM n fs)) ∧ w = w' := by
  obtain ⟨-, c1, -, -, -, -⟩ := h.cells
  have hlen := hs.len
  have hpos : 0 < bs.length := by cases hs <;> simp
  have hown : w.ownsRow B 62 1 sv bs.reverse.length (ptrs bs.reverse) := by rw [List.length_reverse]; exact h.own
  obtain ⟨g, cap, hv, hc, -⟩ := own_ptrs hown (List.getElem?_eq_getElem (i := 0) (by rw [List.length_reverse]; exact hpos))
  rw [List.length_reverse] at hv hc
  subst hv
  have hat := stk_at hs
  have hfr := findM_from n fs
  have hget := fun i b nb r (h1 : bs.reverse[i]? = some b) (h2 : H b = some r) (h3 : r.nb = some nb) => (show w.cell? ⟨g, i, none⟩ = some (ptr b) ∧ w.cell? ⟨b, 0, none⟩ = some (ptr nb) ∧ w.cell? ⟨nb, 0, none⟩ = some (.string (mk r.name)) from by
    obtain ⟨g', cap', hv', _, hcell⟩ := own_ptrs hown h1
    obtain rfl : g = g' := by simp at hv'; exact hv'.1
    have hr := h.recs b r h2
    exact ⟨hcell, by have := hr.cells.1; rw [h3] at this; exact this, (hr.node nb h3).cell.1⟩)
  have HFL := Lib.hid hlen
  rw [← hlen] at hat hfr
  have HAT := Lib.hid hat
  have HFR := Lib.hid hfr
  have HGET := Lib.hid hget
  have hcap : bs.length ≤ cap := hc
  clear h hs hown hat hfr hget hlen
  unfold ptr
  obtain ⟨N, hN⟩ : ∃ N, bs.length = N + 1 := ⟨bs.length - 1, by omega⟩
  rw [hN] at c1 hcap hl HAT HFR HFL
  clear hpos hc hN
  go_enter Tryz.func28, Tryz.ntmps28
  go_wp2_with fail
  go_loop [5] (fun i => ∃ k : Nat, k ≤ N ∧ i = .int .i64 k ∧ Hid (∀ j f, k < j → fs.reverse[j]? = some f → f.name ≠ n)) (fun i => (intOf i).toNat)
  case atStart =>
    refine ⟨N, Nat.le_refl _, rfl, Lib.hid (fun j f hj hf => ?_)⟩
    exfalso
    have h1 := (List.getElem?_eq_some_iff.1 hf).1
    rw [List.length_reverse, ← HFL.out] at h1
    omega
  case round =>
    obtain ⟨k, hk, rfl, hno⟩ := hrel
    by_cases h0 : 0 < k
    · obtain ⟨b, nb, f, r, h1, h2, h3, h4, h5⟩ := HAT.out k h0 (by omega)
      obtain ⟨d1, d2, d3⟩ := HGET.out k b nb r h1 h3 h4
      have hfin := (HFR.out k (by omega) hno.out).2 f h0 h2
      have H2 := Lib.hid h2
      rw [h5] at d3
      clear h1 h2 h3 h4 h5
      unfold ptr at d1 d2
      have k0 : (0 : Int) < k := by omega
      have k1 : (k : Int) < (N : Int) + 1 := by omega
      have k2 : (0 : Int) ≤ k := by omega
      by_cases he : f.name = n
      · have HF := Lib.hid (hfin he)
        have he1 : ((mk f.name).toList == (mk n).toList) = true := by rw [he]; exact beq_self_eq_true _
        have he2 : (mk f.name).toList = (mk n).toList := by rw [he]
        clear hfin he he2
        go_wp2_with fail
        all_goals
          go_ret
          exact ⟨by rw [HF.out]; rfl, rfl⟩
      · have he1 : ((mk f.name).toList == (mk n).toList) = false := beq_eq_false_iff_ne.2 (by rw [toList_mk, toList_mk]; exact he)
        have he2 : ¬ (mk f.name).toList = (mk n).toList := by rw [toList_mk, toList_mk]; exact he
        have HN := Lib.hid (show ∀ j f', k - 1 < j → fs.reverse[j]? = some f' → f'.name ≠ n from fun j f' hj hf' => by
          by_cases hjk : j = k
          · subst hjk; rw [H2.out] at hf'; cases hf'; exact he
          · exact hno.out j f' (by omega) hf')
        clear he hfin
        go_wp2_with fail
        go_round
        case rel => exact ⟨k - 1, by omega, by go_num, HN⟩
        case measure => simp [intOf]; omega
    · obtain rfl : k = 0 := by omega
      have hfin := (HFR.out 0 (by omega) hno.out).1 rfl
      have HF := Lib.hid hfin
      clear hfin
      go_wp2_with fail
      go_ret
      exact ⟨by rw [HF.out]; rfl, rfl⟩
end

end Go.Proofs.YtjkgmdnkejjppaaGreatDoor
/- Walks of the tree's builder: closeAt. -/
namespace Go.Proofs.YtjkgmdnkejjppaaGreatDoor
open Go Go.RowKit

section
variable {B : Nat} {w : World} {bb root : Nat} {H : OMap} {pv : Nat → Value} {bs : List Nat} {sv : Value} {c : Nat} {m : Bytes}

/-- The builder's block after a store. -/
theorem BW.blk_set1 (h : BW B w bb root H pv bs sv c m) (v : Value) : (w.setCell ⟨bb, 1, none⟩ v).heap[bb]? = some (.cells #[ptr root, v, .int .i64 c, .string (mk m)] 68 (0, 0)) := by
  simp [World.setCell, Array.getElem?_modify, h.blk]
theorem BW.blk_set2 (h : BW B w bb root H pv bs sv c m) (n : Nat) : (w.setCell ⟨bb, 2, none⟩ (.int .i64 n)).heap[bb]? = some (.cells #[ptr root, sv, .int .i64 n, .string (mk m)] 68 (0, 0)) := by
  simp [World.setCell, Array.getElem?_modify, h.blk]
theorem BW.blk_set3 (h : BW B w bb root H pv bs sv c m) (s : Bytes) : (w.setCell ⟨bb, 3, none⟩ (.string (mk s))).heap[bb]? = some (.cells #[ptr root, sv, .int .i64 c, .string (mk s)] 68 (0, 0)) := by
  simp [World.setCell, Array.getElem?_modify, h.blk]
theorem BW.own_set (h : BW B w bb root H pv bs sv c m) (o : Nat) (u : Value) {v : Value} {n : Nat} {xs : List Value} (hv : w.ownsRow B 62 1 v n xs) : (w.setCell ⟨bb, o, none⟩ u).ownsRow B 62 1 v n xs :=
  ownsRow_kept hv fun g _ _ hg => by rw [Below.heap_setCell _ _ _ _ (type_ne hg h.blk (by decide))]; exact hg
theorem BW.set2 (h : BW B w bb root H pv bs sv c m) (n : Nat) : BW B (w.setCell ⟨bb, 2, none⟩ (.int .i64 n)) bb root H pv bs sv n m :=
  h.builder (fun _ _ hk _ => Below.heap_setCell _ _ _ _ hk) (h.blk_set2 n) (h.own_set _ _ h.own) (fun _ hg => .inl hg)
theorem BW.set3 (h : BW B w bb root H pv bs sv c m) (s : Bytes) : BW B (w.setCell ⟨bb, 3, none⟩ (.string (mk s))) bb root H pv bs sv c s :=
  h.builder (fun _ _ hk _ => Below.heap_setCell _ _ _ _ hk) (h.blk_set3 s) (h.own_set _ _ h.own) (fun _ hg => .inl hg)

/-- The stack cut to its first i. -/
def cutBs (i : Nat) (bs : List Nat) : List Nat := if i = 0 then bs else bs.drop (bs.length - i)
theorem BW.cut {g cap : Nat} (h : BW B w bb root H pv bs (.slice (some ⟨g, 0, none⟩) bs.length cap) c m) {i : Nat} (h0 : 0 < i) (hi : i ≤ bs.length) :
    BW B (w.setCell ⟨bb, 1, none⟩ (.slice (some ⟨g, 0, none⟩) i cap)) bb root H pv (cutBs i bs) (.slice (some ⟨g, 0, none⟩) i cap) c m := by
  refine h.builder (fun _ _ hk _ => Below.heap_setCell _ _ _ _ hk) (h.blk_set1 _) ?_ (fun _ hg => .inl hg)
  have h1 := own_shrink (B := B) (l := bs.reverse) (by exact h.own) hi
  have e : (cutBs i bs).reverse = bs.reverse.take i := by
    unfold cutBs
    rw [if_neg (by omega), List.reverse_drop]
    congr 1; omega
  have e2 : (cutBs i bs).length = i := by rw [← List.length_reverse, e, List.length_take, List.length_reverse]; omega
  rw [e, e2]
  exact h.own_set _ _ h1

set_option maxHeartbeats 1000000 in
theorem closeAt_any {i : Nat} (h : BW B w bb root H pv bs sv c m) (hi : i ≤ bs.length) (hp : 0 < bs.length) :
    Calls Tryz.prog 27 #[ptr bb, .int .i64 i] w fun e w' => e = .returned (.tuple #[]) ∧ ∃ sv', BW B w' bb root H pv (cutBs i bs) sv' c m ∧ Below B w w' ∧ w'.heap.size = w.heap.size ∧ ∀ k, k ≠ bb → w'.heap[k]? = w.heap[k]? := by
  have HB := Lib.hid h
  by_cases h0 : 0 < i
  · have hown : w.ownsRow B 62 1 sv bs.reverse.length (ptrs bs.reverse) := by rw [List.length_reverse]; exact h.own
    obtain ⟨g, cap, hv, hc, -⟩ := own_ptrs hown (List.getElem?_eq_getElem (i := 0) (by rw [List.length_reverse]; exact hp))
    rw [List.length_reverse] at hv hc
    subst hv
    obtain ⟨-, c1, -, -, hf, -⟩ := h.cells
    have f1 := hf 1
    have HC := Lib.hid (h.cut h0 hi)
    have k0 : (0 : Int) < i := by omega
    have k1 : (0 : Int) ≤ i := by omega
    have k2 : (i : Int) ≤ cap := by omega
    clear h hown hf
    unfold ptr
    go_enter Tryz.func27, Tryz.ntmps27
    go_wp2_with fail
    go_end0
    exact ⟨rfl, _, HC.out, (Below.refl _ _).setCell HB.out.ge _, by simp [World.setCell], fun k hk => Below.heap_setCell _ _ _ _ hk⟩
  · obtain rfl : i = 0 := by omega
    clear h
    go_enter Tryz.func27, Tryz.ntmps27
    go_wp2_with fail
    go_end0
    exact ⟨rfl, _, HB.out, Below.refl _ _, rfl, fun _ _ => rfl⟩
end

end Go.Proofs.YtjkgmdnkejjppaaGreatDoor
/- Appends of the tree's builder; walk of chars. -/
namespace Go.Proofs.YtjkgmdnkejjppaaGreatDoor
open Go Go.RowKit

theorem wpList_pushPtr {ops : Array Oper} {rest : List Oper} {o : Oper} {a : Act} {Q : Exit → Act → World → Prop} (hgd : o.guard = none) (s x : Operand)
    (ho : o.op = .call { callee := .builtin .append, args := #[s, x], argTypes := #[64, 64] })
    (B : Nat) (v : Value) (l : List Nat) (k : Nat) (w2 w : World) (hw : w = w2.alloc (.cells #[ptr k] 62 (0, 0))) (hs : a.eval s = v) (hown : w2.ownsRow B 62 1 v l.length (ptrs l))
    (N : Nat) (hN : w2.heap.size = N) (hx : a.eval x = .slice (some ⟨N, 0, none⟩) 1 1) (hn : l.length ≤ 1000000) (hbase : B ≤ w2.heap.size)
    (h : ∀ g cap w', w'.ownsRow B 62 1 (.slice (some ⟨g, 0, none⟩) (l.length + 1) cap) (l.length + 1) (ptrs (l ++ [k])) → w.grownBy w' v.ownBlock → (v.ownBlock = some g ∨ w.heap.size ≤ g) →
      wpList Tryz.prog ops Q rest (a.put o.dst (.slice (some ⟨g, 0, none⟩) (l.length + 1) cap)) w') :
    wpList Tryz.prog ops Q (o :: rest) a w := by
  subst hw
  subst hN
  obtain ⟨i0, hi0, hz0, hz1, hz2⟩ := info_parts infoPtr
  refine wpList_append_lies _ hgd _ _ _ ho B 62 i0 _ 1 8 Tryz.underlying64 hi0 hz0 hz1 hz2 rfl (by decide) v l.length (ptrs l) hs (hown.alloc _) ⟨w2.heap.size, 0, none⟩ 1 1 [ptr k] hx rfl ?_ (fun u hu => by cases List.mem_singleton.1 hu; rfl) (by omega) (by unfold maxLen; omega) (by omega) (by simp; omega) _ rfl ?_
  · exact World.news_of_block (cs := #[ptr k]) (t := 62) (fr := (0, 0)) (heap_alloc_new w2 _)
  · intro g cap w' k1 k2 k3 _
    refine h g cap w' ?_ k2 (k3.imp id (fun e => by rw [e]; exact Nat.le_refl _))
    unfold ptrs at *
    rw [List.map_append]
    exact k1

section
variable {B : Nat} {w w' : World} {bb root : Nat} {H : OMap} {pv : Nat → Value} {bs : List Nat} {sv : Value} {c : Nat} {m : Bytes}

theorem setCell_parts {b : Nat} {x0 x1 x2 x3 : Value} {e : TypeId} (h : w.heap[b]? = some (.cells #[x0, x1, x2, x3] e (0, 0))) (v : Value) : (w.setCell ⟨b, 1, none⟩ v).heap[b]? = some (.cells #[x0, v, x2, x3] e (0, 0)) := by
  simp [World.setCell, Array.getElem?_modify, h]
theorem setCell_text {b : Nat} {x0 x1 x2 x3 : Value} {e : TypeId} (h : w.heap[b]? = some (.cells #[x0, x1, x2, x3] e (0, 0))) (v : Value) : (w.setCell ⟨b, 2, none⟩ v).heap[b]? = some (.cells #[x0, x1, v, x3] e (0, 0)) := by
  simp [World.setCell, Array.getElem?_modify, h]

/-- A part was appended, and the parts stored. -/
theorem BW.addKid {b k g cap : Nat} {r : ORec} {v : Value} (h : BW B w bb root H pv bs sv c m) (hr : H b = some r) (hpv : pv b = v) (hgr : w.grownBy w' v.ownBlock)
    (hown : w'.ownsRow B 62 1 (.slice (some ⟨g, 0, none⟩) (r.kids.length + 1) cap) (r.kids.length + 1) (ptrs (r.kids ++ [k]))) (hg : v.ownBlock = some g ∨ w.heap.size ≤ g) :
    BW B (w'.setCell ⟨b, 1, none⟩ (.slice (some ⟨g, 0, none⟩) (r.kids.length + 1) cap)) bb root (H.put b { r with kids := r.kids ++ [k] }) (fun x => if x = b then .slice (some ⟨g, 0, none⟩) (r.kids.length + 1) cap else pv x) bs sv c m := by
  subst hpv
  have hrec := h.recs b r hr
  have hblt := h.lt hr
  -- the object's own block was not the row's
  have hbne : (pv b).ownBlock ≠ some b := by
    intro e
    obtain ⟨cs, h1, _⟩ := own_type hrec.own e
    exact type_ne hrec.blk h1 (by decide) rfl
  have hb' : w'.heap[b]? = w.heap[b]? := hgr.block b hblt (fun e => hbne e.symm)
  refine h.modify hr (fun x hx hxb hxr => ?_) ?_ (fun g' hg' => ?_)
  · rw [Below.heap_setCell _ _ _ _ hxb]
    exact hgr.block x hx (fun e => hxr e.symm)
  · refine ⟨setCell_parts (hb'.trans hrec.blk) _, ?_, fun nb hn => ?_, hrec.ge⟩
    · show World.ownsRow _ _ _ _ _ (r.kids ++ [k]).length _
      rw [List.length_append]
      refine ownsRow_kept hown fun g' cs _ hg' => ?_
      rw [Below.heap_setCell _ _ _ _ (type_ne hg' (hb'.trans hrec.blk) (by decide))]
      exact hg'
    · refine (hrec.node nb hn).keep fun x cs hx => ?_
      have hx' : x < w.heap.size := hx.elim lt_of_block lt_of_block
      have hxb : x ≠ b := hx.elim (fun h => type_ne h hrec.blk (by decide)) (fun h => type_ne h hrec.blk (by decide))
      rw [Below.heap_setCell _ _ _ _ hxb]
      refine hgr.block x hx' ?_
      intro e
      obtain ⟨cs', h1, _⟩ := own_type hrec.own e.symm
      exact hx.elim (fun h => type_ne h h1 (by decide) rfl) (fun h => type_ne h h1 (by decide) rfl)
  · cases hg'
    exact hg
/-- .. what the store finds. -/
theorem BW.kid_cells {b : Nat} {r : ORec} {v : Value} (h : BW B w bb root H pv bs sv c m) (hr : H b = some r) (hpv : pv b = v) (hgr : w.grownBy w' v.ownBlock) : w'.cell? ⟨b, 1, none⟩ = some v ∧ w'.frozen? ⟨b, 1, none⟩ = false := by
  subst hpv
  have hrec := h.recs b r hr
  have hb' : w'.heap[b]? = w.heap[b]? := hgr.block b (h.lt hr) (fun e => by
    obtain ⟨cs, h1, _⟩ := own_type hrec.own e.symm
    exact type_ne hrec.blk h1 (by decide) rfl)
  have hb2 := hb'.trans hrec.blk
  exact ⟨by rw [Lib.cell_of_heap hb2]; rfl, Lib.frozen_of_heap hb2 1⟩
/-- The append of a part as the walk needs it: the row laid, the parts stored. -/
theorem BW.kid_step {b k g cap : Nat} {nb : Option Nat} {n : Bytes} {a : List TAttr} {t : Bytes} {ks : List Nat} {v : Value} (h : BW B w bb root H pv bs sv c m) (hr : H b = some ⟨nb, n, a, t, ks⟩) (hpv : pv b = v)
    (hgr : (w.alloc (.cells #[ptr k] 62 (0, 0))).grownBy w' v.ownBlock) (hown : w'.ownsRow B 62 1 (.slice (some ⟨g, 0, none⟩) (ks.length + 1) cap) (ks.length + 1) (ptrs (ks ++ [k])))
    (hg : v.ownBlock = some g ∨ (w.alloc (.cells #[ptr k] 62 (0, 0))).heap.size ≤ g) :
    w'.cell? ⟨b, 1, none⟩ = some v ∧ w'.frozen? ⟨b, 1, none⟩ = false ∧
    BW B (w'.setCell ⟨b, 1, none⟩ (.slice (some ⟨g, 0, none⟩) (ks.length + 1) cap)) bb root (H.put b ⟨nb, n, a, t, ks ++ [k]⟩) (fun x => if x = b then .slice (some ⟨g, 0, none⟩) (ks.length + 1) cap else pv x) bs sv c m ∧
    w.heap.size < w'.heap.size := by
  have h2 := h.older (Older.of_below ((Below.refl w.heap.size w).alloc (Nat.le_refl _) (.cells #[ptr k] 62 (0, 0))))
  obtain ⟨k1, k2⟩ := h2.kid_cells hr hpv hgr
  exact ⟨k1, k2, h2.addKid hr hpv hgr hown hg, by have := hgr.size; simp at this; omega⟩
/-- What grew a row of the call's own grew nothing else. -/
theorem grown_row {B size n : Nat} {w w' : World} {e : TypeId} {v : Value} {xs : List Value} (hown : w.ownsRow B e size v n xs) (hg : w.grownBy w' v.ownBlock) (hB : B ≤ w.heap.size) : Below B w w' :=
  ⟨hg.os, hg.tape, hg.output, hg.size, fun k hk => hg.block k (by omega) (fun e => by obtain ⟨_, _, h2⟩ := own_type hown e.symm; omega)⟩
theorem grown_le {a b : World} {o : Option Nat} (h : a.grownBy b o) : a.heap.size ≤ b.heap.size := h.size

/-- A text's letters are other ones now. -/
theorem BW.setText {b : Nat} {t s : Bytes} {ks : List Nat} (h : BW B w bb root H pv bs sv c m) (hr : H b = some ⟨none, [], [], t, ks⟩) :
    BW B (w.setCell ⟨b, 2, none⟩ (.string (mk s))) bb root (H.put b ⟨none, [], [], s, ks⟩) (fun x => if x = b then pv b else pv x) bs sv c m := by
  have hrec := h.recs b _ hr
  refine h.modify hr (fun x _ hxb _ => Below.heap_setCell _ _ _ _ hxb) ?_ (fun _ hg => .inl hg)
  refine ⟨setCell_text hrec.blk _, ownsRow_kept hrec.own fun g cs _ hg => ?_, fun nb hn => (by cases hn), hrec.ge⟩
  rw [Below.heap_setCell _ _ _ _ (type_ne hg hrec.blk (by decide))]
  exact hg

/-- What a closed part is: a text, or not. -/
theorem TreeIn.kind {H : OMap} {b hi : Nat} {t : TNode} (h : TreeIn H b t hi) : ∃ r, H b = some r ∧ ((r.nb = none ∧ t = tText r.text ∧ r = ⟨none, [], [], r.text, []⟩ ∧ b < hi) ∨ (r.nb.isSome = true ∧ t.name ≠ [])) := by
  cases h with
  | text _ t _ h hb => exact ⟨_, h, .inl ⟨rfl, rfl, rfl, hb⟩⟩
  | elem _ nb n a ks ps _ h hn hk => exact ⟨_, h, .inr ⟨rfl, hn⟩⟩

/- Tests on texts, in the walk's spellings. -/
theorem sBeqT {a l : Bytes} (h : a = l) : ((mk a).toList == l) = true := by rw [toList_mk, h]; exact beq_self_eq_true _
theorem sBeqF {a l : Bytes} (h : a ≠ l) : ((mk a).toList == l) = false := by rw [toList_mk]; exact beq_eq_false_iff_ne.2 h
theorem sEqT {a l : Bytes} (h : a = l) : (mk a).toList = l := by rw [toList_mk, h]
theorem sEqF {a l : Bytes} (h : a ≠ l) : ¬ (mk a).toList = l := by rw [toList_mk]; exact h
theorem sEmpF {a : Bytes} (h : a ≠ []) : (mk a).toList.isEmpty = false := by rw [toList_mk]; exact List.isEmpty_eq_false_iff.2 h
theorem sEmpT {a : Bytes} (h : a = []) : (mk a).toList.isEmpty = true := by rw [toList_mk, h]; rfl

/-- What chars comes to. -/
def CharsPost (B : Nat) (w : World) (bb root : Nat) (bs : List Nat) (sv : Value) (st : BSt) (e : Ending) (w' : World) : Prop :=
  e = .returned (.tuple #[]) ∧ ∃ H' pv', BW B w' bb root H' pv' bs sv st.count st.mute ∧ Stk H' none w'.heap.size bs st.stack ∧ Below B w w'

set_option maxHeartbeats 2000000 in
set_option maxRecDepth 100000 in
theorem chars_any {f : Fr} {fs : List Fr} {b : Nat} (s : Bytes) (h : BW B w bb root H pv (b :: bs) sv c m) (hs : Stk H none w.heap.size (b :: bs) (f :: fs)) (hl : bs.length ≤ 1000000) (hk : f.done.length ≤ 1000000) (hc : c ≤ 1000000)
    (hsz : s.length ≤ 1000000) (hz : (wordsS (f :: fs)).length ≤ 1000000) (hB : B ≤ w.heap.size) :
    Calls Tryz.prog 29 #[ptr bb, .string (mk s)] w (CharsPost B w bb root (b :: bs) sv (charsM ⟨f :: fs, c, m⟩ s)) := by
  obtain ⟨nb, ks, hr, hkids, hbhi, hroot, hname⟩ := hs.top
  have hrec := h.recs b _ hr
  have HLA := Lib.hid (last_any h hl)
  have HB := Lib.hid h
  have HS := Lib.hid hs
  have HR := Lib.hid hr
  have HK := Lib.hid hkids
  have HKL := Lib.hid hkids.len
  have hk1 : ks.length ≤ 1000000 := by rw [hkids.len]; exact hk
  obtain ⟨d0, d1, -, d3, df, hbz⟩ := hrec.cells
  obtain ⟨-, -, e2, e3, ef, hbbz⟩ := h.cells
  have df1 := df 1
  have ef2 := ef 2
  have HREC := Lib.hid hrec
  clear h hs hr hkids df ef
  obtain ⟨SK, hSK⟩ : ∃ SK : Bool, SK = decide (f.name = sScript ∨ f.name = sStyle ∨ s = [] ∨ m ≠ []) := ⟨_, rfl⟩
  have HSK := Lib.hid hSK
  clear hSK
  go_enter Tryz.func29, Tryz.ntmps29
  unfold ptr at HLA
  unfold ptr
  go_wp2_with fail
  refine HLA.out.mono ?_
  rintro e w1 ⟨rfl, n1, rfl⟩
  go_upto_region 1 with fail
  go_cut [42] (fun v wx => v = .bool SK ∧ wx = w.drewN n1)
  case first =>
    have hsk1 : s = [] → SK = true := fun h => by rw [HSK.out]; simp [h]
    have hsk2 : m ≠ [] → SK = true := fun h => by rw [HSK.out]; simp [h]
    have hsk3 : f.name = sScript → SK = true := fun h => by rw [HSK.out]; simp [h]
    have hsk4 : f.name = sStyle → SK = true := fun h => by rw [HSK.out]; simp [h]
    have hsk5 : f.name ≠ sScript → f.name ≠ sStyle → s ≠ [] → m = [] → SK = false := fun h1 h2 h3 h4 => by rw [HSK.out]; simp [h1, h2, h3, h4]
    have K1 := Lib.hid hsk1
    have K2 := Lib.hid hsk2
    have K3 := Lib.hid hsk3
    have K4 := Lib.hid hsk4
    have K5 := Lib.hid hsk5
    clear hsk1 hsk2 hsk3 hsk4 hsk5
    cases nb with
    | none =>
      have hn0 : f.name = [] := hname.2 rfl
      have HN1 := Lib.hid (show f.name ≠ sScript by rw [hn0]; decide)
      have HN2 := Lib.hid (show f.name ≠ sStyle by rw [hn0]; decide)
      have d3' : w.cell? ⟨b, 3, none⟩ = some (.bool false) := d3
      clear d0 d3 d1 hn0 hname hroot
      by_cases hs0 : s = []
      · have s1 := sBeqT hs0
        have s2 := sEqT hs0
        have HK1 := Lib.hid (K1.out hs0)
        clear hs0
        go_wp2_with fail
        go_meet
        exact ⟨by rw [HK1.out], rfl⟩
      · have s1 := sBeqF hs0
        have s2 := sEqF hs0
        by_cases hm0 : m = []
        · have m1 := sEmpT hm0
          have m2 := sBeqT hm0
          have HK1 := Lib.hid (K5.out HN1.out HN2.out hs0 hm0)
          clear hs0 hm0
          go_wp2_with fail
          go_meet
          exact ⟨by rw [HK1.out], rfl⟩
        · have m1 := sEmpF hm0
          have m2 := sBeqF hm0
          have HK1 := Lib.hid (K2.out hm0)
          clear hs0 hm0
          go_wp2_with fail
          go_meet
          exact ⟨by rw [HK1.out], rfl⟩
    | some nb =>
      have d3' : w.cell? ⟨b, 3, none⟩ = some (.bool true) := d3
      have d0' : w.cell? ⟨b, 0, none⟩ = some (.pointer (some ⟨nb, 0, none⟩)) := d0
      have dn : w.cell? ⟨nb, 0, none⟩ = some (.string (mk f.name)) := (HREC.out.node nb rfl).cell.1
      clear d0 d3 d1 hname hroot
      by_cases hn1 : f.name = sScript
      · have s1 := sBeqT hn1
        have s2 := sEqT hn1
        unfold sScript at s1 s2
        have HK1 := Lib.hid (K3.out hn1)
        clear hn1
        go_wp2_with fail
        go_meet
        exact ⟨by rw [HK1.out], rfl⟩
      · have a1 := sBeqF hn1
        have a2 := sEqF hn1
        unfold sScript at a1 a2
        by_cases hn2 : f.name = sStyle
        · have s1 := sBeqT hn2
          have s2 := sEqT hn2
          unfold sStyle at s1 s2
          have HK1 := Lib.hid (K4.out hn2)
          clear hn1 hn2
          go_wp2_with fail
          go_meet
          exact ⟨by rw [HK1.out], rfl⟩
        · have b1 := sBeqF hn2
          have b2 := sEqF hn2
          unfold sStyle at b1 b2
          by_cases hs0 : s = []
          · have s1 := sBeqT hs0
            have s2 := sEqT hs0
            have HK1 := Lib.hid (K1.out hs0)
            clear hs0 hn1 hn2
            go_wp2_with fail
            go_meet
            exact ⟨by rw [HK1.out], rfl⟩
          · have s1 := sBeqF hs0
            have s2 := sEqF hs0
            by_cases hm0 : m = []
            · have m1 := sEmpT hm0
              have m2 := sBeqT hm0
              have HK1 := Lib.hid (K5.out hn1 hn2 hs0 hm0)
              clear hs0 hm0 hn1 hn2
              go_wp2_with fail
              go_meet
              exact ⟨by rw [HK1.out], rfl⟩
            · have m1 := sEmpF hm0
              have m2 := sBeqF hm0
              have HK1 := Lib.hid (K2.out hm0)
              clear hs0 hm0 hn1 hn2
              go_wp2_with fail
              go_meet
              exact ⟨by rw [HK1.out], rfl⟩
  case rest =>
    obtain ⟨rfl, hwc⟩ := hcut
    have hO : Older w wc := by rw [hwc]; exact ⟨Nat.le_refl _, fun _ _ => rfl⟩
    have HBL := Lib.hid (show Below B w wc by rw [hwc]; exact ⟨rfl, rfl, rfl, Nat.le_refl _, fun _ _ => rfl⟩)
    have HB1 := Lib.hid (HB.out.older hO)
    have HS1 := Lib.hid (show Stk H none wc.heap.size (b :: bs) (f :: fs) by rw [hwc]; exact HS.out)
    have HK1 := Lib.hid (show KidsIn H (b + 1) ks f.done wc.heap.size by rw [hwc]; exact HK.out)
    have hBc : B ≤ wc.heap.size := by rw [hwc]; exact hB
    have hbc : b < wc.heap.size := by rw [hwc]; exact hbz
    clear hwc hO d0 d1 d3 df1 e2 e3 ef2 hbz hbbz HB HS HK HLA hB hbhi
    have hrec1 := HB1.out.recs b _ HR.out
    obtain ⟨-, d1, -, -, df, -⟩ := hrec1.cells
    obtain ⟨-, -, e2, -, ef, -⟩ := HB1.out.cells
    obtain ⟨a0, cap0, hpv⟩ := ownsRow_slice hrec1.own
    rw [hpv] at d1
    have HPV := Lib.hid hpv
    have HREC1 := Lib.hid hrec1
    have df1 := df 1
    have ef2 := ef 2
    clear hpv hrec1 df ef HREC
    cases hsk : SK with
    | true =>
      have hfin : charsM ⟨f :: fs, c, m⟩ s = ⟨f :: fs, c, m⟩ := by
        have := HSK.out
        rw [hsk] at this
        unfold charsM
        exact if_pos (of_decide_eq_true this.symm)
      have HF := Lib.hid hfin
      clear hfin hsk
      go_wp2_with fail
      go_end0
      exact ⟨rfl, H, pv, by rw [HF.out]; exact HB1.out, by rw [HF.out]; exact HS1.out, HBL.out⟩
    | false =>
      have hfin : charsM ⟨f :: fs, c, m⟩ s = ⟨{ f with done := addText f.done s } :: fs, if lastText f.done then c else c + 1, m⟩ := by
        have := HSK.out
        rw [hsk] at this
        unfold charsM
        exact if_neg (of_decide_eq_false this.symm)
      have HF := Lib.hid hfin
      clear hfin hsk HSK
      go_upto_region 3 with fail
      go_cut [63] (fun v wx => v = .bool (lastText f.done) ∧ wx = wc)
      case first =>
        rcases List.eq_nil_or_concat f.done with hd | ⟨d', x, hd⟩
        · have hks : ks = [] := by have hkl := HKL.out; rw [hd] at hkl; exact List.eq_nil_of_length_eq_zero (by simpa using hkl)
          have HL := Lib.hid (show lastText f.done = false by rw [hd]; rfl)
          subst hks
          clear hd
          go_wp2_with fail
          go_meet
          exact ⟨by rw [HL.out], rfl⟩
        · rw [List.concat_eq_append] at hd
          have hkk := HK1.out
          rw [hd] at hkk
          obtain ⟨ks', k, mid, hks, h1, h2, h3⟩ := hkk.unsnoc
          obtain ⟨r, hr, hkind⟩ := h3.kind
          have hcell := (HB1.out.recs k r hr).cells.2.2.2.1
          have hlast : lastText f.done = !r.nb.isSome := by
            rw [hd]
            unfold lastText
            rw [List.getLast?_append]
            show (x.name == []) = _
            rcases hkind with ⟨e1, e2, _⟩ | ⟨e1, e2⟩
            · rw [e1, e2]; rfl
            · rw [e1]; exact beq_eq_false_iff_ne.2 e2
          have HL := Lib.hid hlast
          have hown := HREC1.out.own
          rw [hks] at hown
          obtain ⟨g, cap, hv, hcp, hgc⟩ := own_ptrs hown (show (ks' ++ [k])[ks'.length]? = some k by simp)
          have HV := Lib.hid hv
          have hlen : ks.length = ks'.length + 1 := by rw [hks]; simp
          rw [HPV.out, hlen] at HV
          obtain ⟨rfl, rfl⟩ : a0 = some ⟨g, 0, none⟩ ∧ cap0 = cap := by have := HV.out; simpa using this
          unfold ptr at hgc
          have z0 : (ks.length : Int) ≤ cap0 := by simp at hcp; omega
          have z1 : (0 : Int) < ks.length := by omega
          have z2 : (1 : Int) ≤ ks.length := by omega
          have z3 : ((ks.length : Int) - 1).toNat = ks'.length := by omega
          have z4 : IntKind.i64.wrap ((ks.length : Int) - 1) = (ks.length : Int) - 1 := IntWalk.i64_in _ (by omega)
          have z5 : (0 : Int) ≤ (ks.length : Int) - 1 := by omega
          have z6 : 0 < ks.length := by omega
          clear hd hkk h1 h2 h3 hr hkind hlast hown hv HV hcp hlen hks e2 ef2 df1
          cases hnb : r.nb.isSome
          · rw [hnb] at hcell HL
            go_wp2_with fail
            go_meet
            exact ⟨by rw [HL.out]; rfl, rfl⟩
          · rw [hnb] at hcell HL
            go_wp2_with fail
            go_meet
            exact ⟨by rw [HL.out]; rfl, rfl⟩
      case rest =>
        obtain ⟨rfl, hwc2⟩ := hcut
        subst hwc2
        cases hlt : lastText f.done with
        | true =>
          rw [hlt] at HF
          have hdone : ∃ d' t, f.done = d' ++ [t] := by
            rcases List.eq_nil_or_concat f.done with hd | ⟨d', x, hd⟩
            · rw [hd] at hlt; cases hlt
            · exact ⟨d', x, by rw [hd, List.concat_eq_append]⟩
          obtain ⟨d', x, hd⟩ := hdone
          have hkk := HK1.out
          rw [hd] at hkk
          obtain ⟨ks', k, mid, hks, h1, h2, h3⟩ := hkk.unsnoc
          obtain ⟨r, hr, hkind⟩ := h3.kind
          have hx : x.name = [] := by
            rw [hd] at hlt
            unfold lastText at hlt
            rw [List.getLast?_append] at hlt
            have : (x.name == []) = true := hlt
            simpa using this
          obtain ⟨q1, q2, q3, q4⟩ : r.nb = none ∧ x = tText r.text ∧ r = ⟨none, [], [], r.text, []⟩ ∧ k < wc.heap.size := by
            rcases hkind with h | ⟨_, h⟩
            · exact h
            · exact absurd hx h
          generalize r.text = t at *
          subst q2 q3
          have hown := HREC1.out.own
          rw [hks] at hown
          obtain ⟨g, cap, hv, hcp, hgc⟩ := own_ptrs hown (show (ks' ++ [k])[ks'.length]? = some k by simp)
          have HV := Lib.hid hv
          have hlen : ks.length = ks'.length + 1 := by rw [hks]; simp
          rw [HPV.out, hlen] at HV
          obtain ⟨rfl, rfl⟩ : a0 = some ⟨g, 0, none⟩ ∧ cap0 = cap := by have := HV.out; simpa using this
          obtain ⟨-, -, t1, -, tf, -⟩ := (HB1.out.recs k _ hr).cells
          have tf2 := tf 2
          have t1' : wc.cell? ⟨k, 2, none⟩ = some (.string (mk t)) := t1
          unfold ptr at hgc
          have z0 : (ks.length : Int) ≤ cap0 := by simp at hcp; omega
          have z1 : (0 : Int) < ks.length := by omega
          have z2 : (1 : Int) ≤ ks.length := by omega
          have z3 : ((ks.length : Int) - 1).toNat = ks'.length := by omega
          have z4 : IntKind.i64.wrap ((ks.length : Int) - 1) = (ks.length : Int) - 1 := IntWalk.i64_in _ (by omega)
          have z5 : (0 : Int) ≤ (ks.length : Int) - 1 := by omega
          have z6 : 0 < ks.length := by omega
          have htz : (mk t).size ≤ 1000000 := by
            rw [mk_size]
            have : wordsS (f :: fs) = wordsS fs ++ wordsL f.done := rfl
            rw [this, hd, List.length_append, wordsL_append, List.length_append] at hz
            have e : wordsL [tText t] = t := by show (t ++ []) ++ [] = t; simp
            rw [e] at hz
            omega
          have hsz' : (mk s).size ≤ 1000000 := by rw [mk_size]; exact hsz
          have hadd : addText f.done s = d' ++ [tText (t ++ s)] := by
            rw [hd]
            unfold addText
            rw [List.getLast?_append]
            show (d' ++ [tText t]).dropLast ++ [TNode.mk [] [] (t ++ s) []] = _
            rw [List.dropLast_concat]; rfl
          have hbw := HB1.out.setText (s := t ++ s) hr
          have hkb : b < k := by have := h1.le; omega
          have hput : (H.put k ⟨none, [], [], t ++ s, []⟩) b = some ⟨nb, f.name, if nb.isSome = true then f.attrs else [], [], ks⟩ := by rw [OMap.put_other _ _ (by omega)]; exact HR.out
          have hkn : KidsIn (H.put k ⟨none, [], [], t ++ s, []⟩) (b + 1) ks (d' ++ [tText (t ++ s)]) wc.heap.size := by
            rw [hks]
            exact (h1.same fun x _ hx => OMap.put_other _ _ (by omega)).snoc h2 (.text _ k _ _ (OMap.put_same _ _ _) q4)
          have hst : Stk (H.put k ⟨none, [], [], t ++ s, []⟩) none wc.heap.size (b :: bs) ({ f with done := addText f.done s } :: fs) := by
            rw [hadd]
            exact HS1.out.retop _ _ HR.out hput rfl rfl rfl rfl rfl rfl hkn fun x hx => OMap.put_other _ _ (by omega)
          have HBW := Lib.hid hbw
          have HST := Lib.hid hst
          have hkB := (HB1.out.recs k _ hr).ge
          clear hlt hd hkk h1 h2 h3 hr hkind hx hown hv HV hcp hlen hks tf hadd hbw hput hkn hst e2 ef2 df1 hz
          go_wp2_with fail
          go_end0
          refine ⟨rfl, H.put k ⟨none, [], [], t ++ s, []⟩, fun x => if x = k then pv k else pv x, ?_, ?_, HBL.out.setCell (p := ⟨k, 2, none⟩) hkB _⟩
          · rw [HF.out]
            have := HBW.out
            rw [← cat_mk] at this
            exact this
          · rw [HF.out, show (wc.setCell ⟨k, 2, none⟩ (.string (mk t ++ mk s))).heap.size = wc.heap.size by simp [World.setCell]]
            exact HST.out
        | false =>
          rw [hlt] at HF
          -- the new text's block
          have hO1 : Older wc (wc.alloc (.cells #[.pointer none, .slice none 0 0, .string (mk s), .bool false] 66)) := Older.of_below ((Below.refl _ _).alloc (Nat.le_refl _) _)
          have hb1 := HB1.out.add (r := ⟨none, [], [], s, []⟩) (v := .slice none 0 0) hO1 (Nat.le_refl _) ⟨heap_alloc_new _ _, World.ownsRow_nil _ _ _ _, fun nb hn => (by cases hn), hBc⟩ (fun g hg => by cases hg)
          have hbk : b ≠ wc.heap.size := by omega
          obtain ⟨pv1, hpv1⟩ : ∃ pv1 : Nat → Value, pv1 = fun x => if x = wc.heap.size then .slice none 0 0 else pv x := ⟨_, rfl⟩
          rw [← hpv1] at hb1
          have hpb : pv1 b = .slice a0 ks.length cap0 := by rw [hpv1]; show (if b = wc.heap.size then _ else pv b) = _; rw [if_neg hbk]; exact HPV.out
          have hr1 : (H.put wc.heap.size ⟨none, [], [], s, []⟩) b = some ⟨nb, f.name, if nb.isSome = true then f.attrs else [], [], ks⟩ := by rw [OMap.put_other _ _ hbk]; exact HR.out
          have hadd : addText f.done s = f.done ++ [tText s] := by
            unfold addText
            split
            · rename_i a t ps he
              unfold lastText at hlt
              rw [he] at hlt
              cases hlt
            · rfl
          have hst : ∀ hi', wc.heap.size < hi' → Stk ((H.put wc.heap.size ⟨none, [], [], s, []⟩).put b { (⟨nb, f.name, if nb.isSome = true then f.attrs else [], [], ks⟩ : ORec) with kids := ks ++ [wc.heap.size] }) none hi' (b :: bs) ({ f with done := addText f.done s } :: fs) := by
            intro hi' hh
            rw [hadd]
            refine HS1.out.retop _ _ HR.out (OMap.put_same _ _ _) rfl rfl rfl rfl rfl rfl ?_ (fun x hx => ?_)
            · refine (HK1.out.same fun x hx1 hx2 => ?_).snoc (Nat.le_refl _) (.text _ wc.heap.size _ _ ?_ hh)
              · rw [OMap.put_other _ _ (by omega), OMap.put_other _ _ (by omega)]
              · rw [OMap.put_other _ _ (by omega)]; exact OMap.put_same _ _ _
            · rw [OMap.put_other _ _ (by omega), OMap.put_other _ _ (by omega)]
          have HST := Lib.hid hst
          have HBA := Lib.hid hb1
          have HR1 := Lib.hid hr1
          have HPB := Lib.hid hpb
          have hown1 := HBA.out.recs b _ HR1.out
          have hown2 := hown1.own
          rw [HPB.out] at hown2
          have HOWN := Lib.hid hown2
          have hcz : (c : Int) ≤ 1000000 := by omega
          have hBw : B ≤ (wc.alloc (.cells #[.pointer none, .slice none 0 0, .string (mk s), .bool false] 66)).heap.size := Nat.le_trans hBc hO1.1
          have hBbb := HB1.out.ge
          have hrB := (HB1.out.recs b _ HR.out).ge
          clear hO1 hb1 hr1 hadd hst hown1 hown2 hlt e2 ef2 df1 hz hpv1 hpb
          have d1' : wc.cell? ⟨b, 1, none⟩ = some (.slice a0 ks.length cap0) := d1
          clear d1
          go_wp2_with (at_builtin; go_must (refine wpList_pushPtr (by rfl) (.tmp 83) (.tmp 87) (by rfl) B (.slice a0 ks.length cap0) ks wc.heap.size (wc.alloc (.cells #[.pointer none, .slice none 0 0, .string (mk s), .bool false] 66)) _ (by rfl) (by rfl) HOWN.out (wc.heap.size + 1) (by simp) (by rfl) hk1 hBw ?_); intro g cap w3 hown3 hgr3 hg3; obtain ⟨x1, x2, x3, x4⟩ := HBA.out.kid_step HR1.out HPB.out hgr3 hown3 hg3; obtain ⟨-, -, y1, -, yf, -⟩ := x3.cells; have y2 := yf 2; have HX3 := Lib.hid x3; have HG3 := Lib.hid hgr3; clear hown3 hgr3 hg3 x3 yf)
          go_end0
          refine ⟨rfl, (H.put wc.heap.size ⟨none, [], [], s, []⟩).put b ⟨nb, f.name, if nb.isSome = true then f.attrs else [], [], ks ++ [wc.heap.size]⟩, fun x => if x = b then .slice (some ⟨g, 0, none⟩) (ks.length + 1) cap else pv1 x, ?_, ?_, ?_⟩
          · rw [HF.out]
            exact HX3.out.set2 (c + 1)
          · rw [HF.out]
            exact HST.out _ (by simp [World.setCell] at x4 ⊢; omega)
          · have h1 := ((HBL.out.alloc hBc (.cells #[.pointer none, .slice none 0 0, .string (mk s), .bool false] 66)).alloc hBw (.cells #[ptr wc.heap.size] 62 (0, 0)))
            have h2 := grown_row (HOWN.out.alloc _) HG3.out (by simp; omega)
            exact ((h1.trans h2).setCell (p := ⟨b, 1, none⟩) hrB _).setCell (p := ⟨bb, 2, none⟩) hBbb _
end

end Go.Proofs.YtjkgmdnkejjppaaGreatDoor
