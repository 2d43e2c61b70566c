/- Walks of the tree's helpers: slices.Index and Contains on texts, slices.Clone of attributes; last, find, closeAt of the builder. -/
import Derived.Test.YtemomhanchiipaaGreatDoorTRec
import Derived.Test.YtemomhanchiipaaGreatDoorApp
namespace Go.Proofs.YtemomhanchiipaaGreatDoor
open Go Go.RowKit

/-- A row of texts at a block. -/
def StrAt (w : World) (g : Nat) (l : List Bytes) : Prop := ∀ i s, l[i]? = some s → w.cell? ⟨g, i, none⟩ = some (.string (mk s))
def idxS (s : Bytes) (l : List Bytes) : Int := match l.findIdx? (fun x => x == s) with
  | some i => i
  | none => -1

set_option maxHeartbeats 1000000 in
theorem strIndex_any (g cap : Nat) (l : List Bytes) (s : Bytes) (hl : l.length ≤ 1000000) (w : World) (h : StrAt w g l) :
    Calls Tryz.prog 85 #[.slice (some ⟨g, 0, none⟩) l.length cap, .string (mk s)] w fun e w' => ∃ i : Int, e = .returned (.int .i64 i) ∧ (0 ≤ i ↔ s ∈ l) ∧ w = w' := by
  have HS := Lib.hid h
  clear h
  go_enter Tryz.func85, Tryz.ntmps85
  go_wp2_with fail
  go_loop [8] (fun i => ∃ k : Nat, k ≤ l.length ∧ i = .int .i64 k ∧ Hid (∀ j, j < k → l[j]? ≠ some s)) (fun i => l.length - (intOf i).toNat)
  case atStart => exact ⟨0, by omega, rfl, Lib.hid (fun j hj => by omega)⟩
  case round =>
    obtain ⟨k, hk, rfl, hno⟩ := hrel
    by_cases hlt : k < l.length
    · obtain ⟨x, hx⟩ : ∃ x, l[k]? = some x := ⟨_, List.getElem?_eq_getElem hlt⟩
      have hc := HS.out k x hx
      have HX := Lib.hid hx
      clear hx
      have k0 : (0 : Int) ≤ k := by omega
      have k1 : (k : Int) < l.length := by omega
      by_cases he : s = x
      · have he1 : ((mk s).toList == (mk x).toList) = true := by rw [he]; exact beq_self_eq_true _
        have he2 : (mk s).toList = (mk x).toList := by rw [he]
        have HE := Lib.hid he
        clear he he2
        have HE2 := he1
        go_wp2_with fail
        all_goals first
          | (go_ret; exact ⟨_, rfl, ⟨fun _ => by rw [HE.out]; exact List.mem_of_getElem? HX.out, fun _ => k0⟩, rfl⟩)
          | (exfalso; rename_i hh; exact hh (by rw [HE.out]))
      · have he1 : ((mk s).toList == (mk x).toList) = false := beq_eq_false_iff_ne.2 (by rw [toList_mk, toList_mk]; exact he)
        have he2 : ¬ (mk s).toList = (mk x).toList := by rw [toList_mk, toList_mk]; exact he
        have HN := Lib.hid (show ∀ j, j < k + 1 → l[j]? ≠ some s from fun j hj => by
          by_cases hjk : j = k
          · subst hjk; rw [HX.out]; intro h; exact he (Option.some.inj h).symm
          · exact hno.out j (by omega))
        clear he
        go_wp2_with fail
        go_round
        case rel => exact ⟨k + 1, by omega, by go_num, HN⟩
        case measure => simp [intOf]; omega
    · obtain rfl : k = l.length := by omega
      go_wp2_with fail
      go_ret
      refine ⟨-1, rfl, ⟨fun h => by omega, fun hm => ?_⟩, rfl⟩
      obtain ⟨j, hj⟩ := List.getElem?_of_mem hm
      exact absurd hj (hno.out j (List.getElem?_eq_some_iff.1 hj).1)

theorem strContains_any (g cap : Nat) (l : List Bytes) (s : Bytes) (hl : l.length ≤ 1000000) (w : World) (h : StrAt w g l) :
    Calls Tryz.prog 61 #[.slice (some ⟨g, 0, none⟩) l.length cap, .string (mk s)] w fun e w' => e = .returned (.bool (l.contains s)) ∧ w = w' := by
  have HI := Lib.hid (strIndex_any g cap l s hl w h)
  clear h
  go_enter Tryz.func61, Tryz.ntmps61
  go_wp2_with fail
  refine HI.out.mono ?_
  rintro e w' ⟨i, rfl, hi, rfl⟩
  have hb : l.contains s = decide (0 ≤ i) := by rw [Bool.eq_iff_iff]; simp [hi]
  have HB := Lib.hid hb
  clear hi hb
  go_wp2_with fail
  go_ret
  exact ⟨by rw [HB.out]; rfl, rfl⟩

theorem attrCells_one (l : List TAttr) : ∀ u ∈ attrCells l, u.oneCell' = true := by
  intro u hu
  obtain ⟨a, _, hu⟩ := List.mem_flatMap.1 hu
  simp only [List.mem_cons, List.not_mem_nil, or_false] at hu
  rcases hu with rfl | rfl <;> rfl
/-- The cells of attributes that are seen, where there is one. -/
theorem AttrView.row {w : World} {ad : Addr} {cap : Nat} {a : List TAttr} (h : AttrView w (.slice (some ad) a.length cap) a) : ∀ j u, (attrCells a)[j]? = some u → w.cell? (ad.add j) = some u := by
  intro j u hu
  have hj : j < a.length * 2 := by rw [← attrCells_length]; exact (List.getElem?_eq_some_iff.1 hu).1
  obtain ⟨t, ht⟩ : ∃ t, a[j / 2]? = some t := ⟨_, List.getElem?_eq_getElem (by omega)⟩
  obtain ⟨g, c, hv, _, _, h1, h2⟩ := h.2 (j / 2) t ht
  obtain ⟨k1, k2⟩ := attrCells_get a (j / 2) t ht
  obtain ⟨rfl, _⟩ : ad = ⟨g, 0, none⟩ ∧ cap = c := by simpa using hv
  have hadd : (⟨g, 0, none⟩ : Addr).add j = ⟨g, j, none⟩ := by unfold Addr.add; split <;> simp_all
  rw [hadd]
  rcases (show j = j / 2 * 2 ∨ j = j / 2 * 2 + 1 by omega) with e | e
  · rw [e] at hu ⊢; rw [k1] at hu; cases hu; exact h1
  · rw [e] at hu ⊢; rw [k2] at hu; cases hu; exact h2

set_option maxHeartbeats 1000000 in
set_option maxRecDepth 100000 in
theorem clone_any (av : Value) (a : List TAttr) (w : World) (h : AttrView w av a) (hl : a.length ≤ 1000000) :
    Calls Tryz.prog 62 #[av] w fun e w' => ∃ v', e = .returned v' ∧ AttrView w' v' a ∧ Below w.heap.size w w' := by
  obtain ⟨⟨x, cap, rfl⟩, hc⟩ := h
  cases x with
  | none =>
    have ha : a = [] := by
      cases a with
      | nil => rfl
      | cons t a => obtain ⟨g, c, hv, _⟩ := hc 0 t rfl; simp at hv
    subst ha
    clear hc
    have hq : (binOp .eql 33 (.slice none 0 cap) (.slice none 0 0)).run Tryz.prog w = .ok (.bool true) w := Lib.run_eql_slice_nil (P := Tryz.prog) w 33 89 none 0 cap 0 0 Tryz.underlying33
    rw [show (Value.slice none ([] : List TAttr).length cap) = .slice none 0 cap from rfl]
    go_enter Tryz.func62, Tryz.ntmps62
    go_wp2_with fail
    go_ret
    exact ⟨_, rfl, ⟨⟨_, _, rfl⟩, fun i t hi => by simp at hi⟩, Below.refl _ _⟩
  | some ad =>
    obtain ⟨i0, hi0, hz0, hz1, hz2⟩ := info_parts infoAttr
    have hrow := (AttrView.older ⟨⟨_, _, rfl⟩, hc⟩ (Older.of_below ((Below.refl w.heap.size w).alloc (Nat.le_refl _) (.cells #[] 89))) : AttrView _ (.slice (some ad) a.length cap) a).row
    have HR := Lib.hid hrow
    have hown : (w.alloc (.cells #[] 89)).ownsRow w.heap.size 89 2 (.slice (some ⟨w.heap.size, 0, none⟩) 0 0) 0 [] := ⟨rfl, .inr ⟨w.heap.size, 0, #[], rfl, Nat.le_refl _, heap_alloc_new _ _, Nat.le_refl _, Nat.zero_le _, rfl, rfl⟩⟩
    have HO := Lib.hid hown
    have hq : (binOp .eql 33 (.slice (some ad) a.length cap) (.slice none 0 0)).run Tryz.prog w = .ok (.bool false) w := Lib.run_eql_slice_nil (P := Tryz.prog) w 33 89 (some ad) a.length cap 0 0 Tryz.underlying33
    clear hc hrow hown
    go_enter Tryz.func62, Tryz.ntmps62
    go_wp2_with (at_builtin; go_loud (refine wpList_append_own _ (by rfl) (.tmp 5) (.tmp 6) _ (by rfl) w.heap.size 89 i0 _ 2 32 Tryz.underlying33 hi0 hz0 hz1 hz2 rfl (by decide) (.slice (some ⟨w.heap.size, 0, none⟩) 0 0) 0 [] (by rfl) HO.out ad a.length cap (attrCells a) (by rfl) (attrCells_length a) HR.out (attrCells_one a) (by unfold maxLen; omega) (by omega) (by simp) ?_); intro v' w' hown1 hgr _; have HOWN := Lib.hid hown1; have HG := Lib.hid hgr; clear hown1 hgr)
    go_ret
    refine ⟨_, rfl, ?_, ?_⟩
    · have h := HOWN.out
      rw [Nat.zero_add, List.nil_append] at h
      exact AttrRow.view h
    · have h := HG.out
      refine ⟨h.os, h.tape, h.output, Nat.le_trans (by simp) h.size, fun k hk => ?_⟩
      rw [h.block k (by simp; omega) (fun e => by have h2 : w.heap.size = k := (Option.some.inj (show some k = some w.heap.size from e)).symm; omega)]
      exact Below.heap_alloc _ _ _ hk

section
variable {B : Nat} {w : World} {bb root : Nat} {H : OMap} {pv : Nat → Value} {bs : List Nat} {sv : Value} {c : Nat} {m : Bytes}

set_option maxHeartbeats 1000000 in
theorem last_any {b : Nat} (h : BW B w bb root H pv (b :: bs) sv c m) (hl : bs.length ≤ 1000000) :
    Calls Tryz.prog 63 #[ptr bb] w fun e w' => e = .returned (ptr b) ∧ ∃ n, w' = w.drewN n := by
  obtain ⟨-, c1, -, -, -, -⟩ := h.cells
  have hi : ((b :: bs).reverse)[bs.length]? = some b := by rw [List.reverse_cons, List.getElem?_append_right (by simp)]; simp
  have hown : w.ownsRow B 74 1 sv (b :: bs).reverse.length (ptrs (b :: bs).reverse) := by rw [List.length_reverse]; exact h.own
  obtain ⟨g, cap, hv, hc, hcell⟩ := own_ptrs hown hi
  have hlen : (b :: bs).reverse.length = bs.length + 1 := by simp
  rw [hlen] at hv hc
  subst hv
  clear h hown hi hlen
  unfold ptr at *
  have z0 : ((bs.length + 1 : Nat) : Int) - 1 = bs.length := by omega
  have z1 : IntKind.i64.wrap ((bs.length : Int) + 1 - 1) = bs.length := by rw [show (bs.length : Int) + 1 - 1 = bs.length by omega]; exact IntWalk.i64_in _ (by omega)
  have z2 : IntKind.i64.wrap (bs.length : Int) = bs.length := IntWalk.i64_in _ (by omega)
  go_enter Tryz.func63, Tryz.ntmps63
  go_wp2_with fail
  go_quiet (fail)
  go_wp2_with fail
  go_ret
  exact ⟨rfl, _, rfl⟩

/-- A frame of the stack, by its place from the root. -/
theorem stk_at {H : OMap} {c : Option Nat} {hi : Nat} {bs : List Nat} {fs : List Fr} (h : Stk H c hi bs fs) : ∀ i, 0 < i → i < fs.length → ∃ b nb f r, bs.reverse[i]? = some b ∧ fs.reverse[i]? = some f ∧ H b = some r ∧ r.nb = some nb ∧ r.name = f.name := by
  induction h with
  | root => intro i h0 h1; simp at h1; omega
  | cons b nb f ks c hi bs fs h hn hk hr ih =>
    intro i h0 h1
    have hl := hr.len
    simp only [List.length_cons] at h1
    by_cases he : i = fs.length
    · subst he
      refine ⟨b, nb, f, _, ?_, ?_, h, rfl, rfl⟩
      · rw [List.reverse_cons, List.getElem?_append_right (by rw [List.length_reverse]; omega), List.length_reverse, hl]; simp
      · rw [List.reverse_cons, List.getElem?_append_right (by rw [List.length_reverse]; omega), List.length_reverse]; simp
    · obtain ⟨b', nb', f', r', h2, h3, h4⟩ := ih i h0 (by omega)
      refine ⟨b', nb', f', r', ?_, ?_, h4⟩
      · rw [List.reverse_cons, List.getElem?_append_left (by rw [List.length_reverse]; omega)]; exact h2
      · rw [List.reverse_cons, List.getElem?_append_left (by rw [List.length_reverse]; omega)]; exact h3
/-- The last open element of a name, from place i + 1 down. -/
theorem findM_from (n : Bytes) : ∀ (fs : List Fr) (i : Nat), i < fs.length → (∀ j f, i < j → fs.reverse[j]? = some f → f.name ≠ n) → (i = 0 → findM n fs = 0) ∧ ∀ f, 0 < i → fs.reverse[i]? = some f → f.name = n → findM n fs = i
  | [], i, h, _ => by simp at h
  | [f], i, h, _ => ⟨fun _ => rfl, fun _ h0 => by simp at h; omega⟩
  | f :: g :: r, i, h, hno => by
    have e : (f :: g :: r).reverse = (g :: r).reverse ++ [f] := by rw [List.reverse_cons]
    have hl : (g :: r).reverse.length = (g :: r).length := List.length_reverse
    by_cases hi : i = (g :: r).length
    · refine ⟨fun h0 => by rw [h0] at hi; simp at hi, fun f' _ hf hn => ?_⟩
      rw [e, List.getElem?_append_right (by rw [hl]; omega), hl, hi] at hf
      simp at hf
      subst hf
      unfold findM
      rw [if_pos hn, hi]
    · have hlt : i < (g :: r).length := by simp at h hi ⊢; omega
      have hf : f.name ≠ n := hno (g :: r).length f hlt (by rw [e, List.getElem?_append_right (by rw [hl]; omega), hl]; simp)
      have ih := findM_from n (g :: r) i hlt (fun j f' hj hf' => by
        have hjl : j < (g :: r).length := by rw [← hl]; exact (List.getElem?_eq_some_iff.1 hf').1
        exact hno j f' hj (by rw [e, List.getElem?_append_left (by rw [hl]; exact hjl)]; exact hf'))
      unfold findM
      rw [if_neg hf]
      refine ⟨ih.1, fun f' h0 hf' hn => ih.2 f' h0 ?_ hn⟩
      rw [e, List.getElem?_append_left (by rw [hl]; exact hlt)] at hf'
      exact hf'

set_option maxHeartbeats 1000000 in
set_option maxRecDepth 100000 in
theorem find_any {fs : List Fr} {hi : Nat} (n : Bytes) (h : BW B w bb root H pv bs sv c m) (hs : Stk H none hi bs fs) (hl : bs.length ≤ 1000000) :
    Calls Tryz.prog 41 #[ptr bb, .string (mk n)] w fun e w' => e = .returned (.int .i64 (findM n fs)) ∧ w = w' := by
  obtain ⟨-, c1, -, -, -, -⟩ := h.cells
  have hlen := hs.len
  have hpos : 0 < bs.length := by cases hs <;> simp
  have hown : w.ownsRow B 74 1 sv bs.reverse.length (ptrs bs.reverse) := by rw [List.length_reverse]; exact h.own
  obtain ⟨g, cap, hv, hc, -⟩ := own_ptrs hown (List.getElem?_eq_getElem (i := 0) (by rw [List.length_reverse]; exact hpos))
  rw [List.length_reverse] at hv hc
  subst hv
  have hat := stk_at hs
  have hfr := findM_from n fs
  have hget := fun i b nb r (h1 : bs.reverse[i]? = some b) (h2 : H b = some r) (h3 : r.nb = some nb) => (show w.cell? ⟨g, i, none⟩ = some (ptr b) ∧ w.cell? ⟨b, 0, none⟩ = some (ptr nb) ∧ w.cell? ⟨nb, 0, none⟩ = some (.string (mk r.name)) from by
    obtain ⟨g', cap', hv', _, hcell⟩ := own_ptrs hown h1
    obtain rfl : g = g' := by simp at hv'; exact hv'.1
    have hr := h.recs b r h2
    exact ⟨hcell, by have := hr.cells.1; rw [h3] at this; exact this, (hr.node nb h3).cell.1⟩)
  have HFL := Lib.hid hlen
  rw [← hlen] at hat hfr
  have HAT := Lib.hid hat
  have HFR := Lib.hid hfr
  have HGET := Lib.hid hget
  have hcap : bs.length ≤ cap := hc
  clear h hs hown hat hfr hget hlen
  unfold ptr
  obtain ⟨N, hN⟩ : ∃ N, bs.length = N + 1 := ⟨bs.length - 1, by omega⟩
  rw [hN] at c1 hcap hl HAT HFR HFL
  clear hpos hc hN
  go_enter Tryz.func41, Tryz.ntmps41
  go_wp2_with fail
  go_loop [5] (fun i => ∃ k : Nat, k ≤ N ∧ i = .int .i64 k ∧ Hid (∀ j f, k < j → fs.reverse[j]? = some f → f.name ≠ n)) (fun i => (intOf i).toNat)
  case atStart =>
    refine ⟨N, Nat.le_refl _, rfl, Lib.hid (fun j f hj hf => ?_)⟩
    exfalso
    have h1 := (List.getElem?_eq_some_iff.1 hf).1
    rw [List.length_reverse, ← HFL.out] at h1
    omega
  case round =>
    obtain ⟨k, hk, rfl, hno⟩ := hrel
    by_cases h0 : 0 < k
    · obtain ⟨b, nb, f, r, h1, h2, h3, h4, h5⟩ := HAT.out k h0 (by omega)
      obtain ⟨d1, d2, d3⟩ := HGET.out k b nb r h1 h3 h4
      have hfin := (HFR.out k (by omega) hno.out).2 f h0 h2
      have H2 := Lib.hid h2
      rw [h5] at d3
      clear h1 h2 h3 h4 h5
      unfold ptr at d1 d2
      have k0 : (0 : Int) < k := by omega
      have k1 : (k : Int) < (N : Int) + 1 := by omega
      have k2 : (0 : Int) ≤ k := by omega
      by_cases he : f.name = n
      · have HF := Lib.hid (hfin he)
        have he1 : ((mk f.name).toList == (mk n).toList) = true := by rw [he]; exact beq_self_eq_true _
        have he2 : (mk f.name).toList = (mk n).toList := by rw [he]
        clear hfin he he2
        go_wp2_with fail
        all_goals
          go_ret
          exact ⟨by rw [HF.out]; rfl, rfl⟩
      · have he1 : ((mk f.name).toList == (mk n).toList) = false := beq_eq_false_iff_ne.2 (by rw [toList_mk, toList_mk]; exact he)
        have he2 : ¬ (mk f.name).toList = (mk n).toList := by rw [toList_mk, toList_mk]; exact he
        have HN := Lib.hid (show ∀ j f', k - 1 < j → fs.reverse[j]? = some f' → f'.name ≠ n from fun j f' hj hf' => by
          by_cases hjk : j = k
          · subst hjk; rw [H2.out] at hf'; cases hf'; exact he
          · exact hno.out j f' (by omega) hf')
        clear he hfin
        go_wp2_with fail
        go_round
        case rel => exact ⟨k - 1, by omega, by go_num, HN⟩
        case measure => simp [intOf]; omega
    · obtain rfl : k = 0 := by omega
      have hfin := (HFR.out 0 (by omega) hno.out).1 rfl
      have HF := Lib.hid hfin
      clear hfin
      go_wp2_with fail
      go_ret
      exact ⟨by rw [HF.out]; rfl, rfl⟩
end

end Go.Proofs.YtemomhanchiipaaGreatDoor
