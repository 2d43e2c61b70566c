/- Walk of the keep's helper: Runs. -/
import Derived.Test.YtjkgmdnkejjppaaGreatDoorJQWalkA
import Derived.Test.YtjkgmdnkejjppaaGreatDoorJQLawB
import Derived.Test.YtjkgmdnkejjppaaGreatDoorJQViewB
import Derived.Test.YtjkgmdnkejjppaaGreatDoorJTabB
import Derived.Test.YtjkgmdnkejjppaaGreatDoorJOrdP
import Derived.Test.YtjkgmdnkejjppaaGreatDoorGh
namespace Go.Proofs.YtjkgmdnkejjppaaGreatDoor
open Go Go.RowKit

abbrev rMarksV : Array Value := #[.string ⟨#[98]⟩, .string ⟨#[101, 109]⟩, .string ⟨#[105]⟩]
theorem rMarksV_v : rMarksV.toList = rMarks.map (fun p => .string (mk p)) := rfl
abbrev rTextsV : Array Value := #[.string ⟨#[]⟩, .string ⟨#[120]⟩, .string ⟨#[121, 122]⟩, .string ⟨#[32]⟩]
theorem rTextsV_v : rTextsV.toList = rTexts.map (fun p => .string (mk p)) := rfl
theorem cell_of_rowQ {w : World} {g i : Nat} {V : Array Value} {T : TypeId} {l : List Bytes} {x : Bytes} (hh : w.heap[g]? = some (.cells V T (0, 0))) (hV : V.toList = l.map fun p => .string (mk p)) (hx : l[i]? = some x) : w.cell? ⟨g, i, none⟩ = some (.string (mk x)) := by
  rw [Lib.cell_of_heap hh, ← Array.getElem?_toList, hV, List.getElem?_map, hx]; rfl
theorem picked_exact (a : Int) (N : Nat) (w : World) (h0 : 0 < N) (h1 : N ≤ 1000000) :
    Calls Tryz.prog 21 #[.int .i64 a, .int .i64 N] w fun e w' => ∃ p : Nat, (a % N).toNat = p ∧ p < N ∧ e = .returned (.int .i64 p) ∧ w = w' := by
  refine (picked_any a N w (by omega) (by omega)).mono fun e w' ⟨he, hw⟩ => ?_
  have h2 := Int.emod_nonneg a (show (N : Int) ≠ 0 by omega)
  have h3 := Int.emod_lt_of_pos a (show (0 : Int) < N by omega)
  exact ⟨_, rfl, by omega, by rw [he, Int.toNat_of_nonneg h2], hw⟩

theorem wrap_quo {x d : Int} (h : -9223372036854775808 ≤ x ∧ x ≤ 9223372036854775807) (hd : 2 ≤ d) : IntKind.i64.wrap (x.tdiv d) = x.tdiv d := by
  have h1 : (x.tdiv d).natAbs = x.natAbs / d.natAbs := Int.natAbs_tdiv x d
  have h2 : x.natAbs / d.natAbs ≤ x.natAbs / 2 := Nat.div_le_div_left (by omega) (by omega)
  exact IntWalk.i64_in _ (by omega)
/-- What the slots of the marks' region hold. -/
structure RP where
  g0 : Nat
  tv : Value
  lv : Value
  k : Nat
  ip : Value
  x : Int
  j : Nat
def RunF (p : RP) (i : Nat) (v : Value) (w : World) : Prop := match i with
  | 0 => v = .pointer (some ⟨p.g0, 1, none⟩)
  | 1 => v = p.tv
  | 2 => ∃ g, v = .slice (some ⟨g, 0, none⟩) 3 3 ∧ w.heap[g]? = some (.cells rMarksV 9 (0, 0))
  | 3 => v = p.lv
  | 4 => v = .int .i64 p.k
  | 5 => v = p.ip
  | 6 => v = .int .i64 p.x
  | 7 => v = .int .i64 p.j
  | 8 => v = .int .i64 (16 + p.j)
  | 9 => v = .int .i64 (p.x.tdiv (16 + p.j))
  | 10 => ∃ r : Nat, (p.x.tdiv (16 + p.j) % (3 : Nat)).toNat = r ∧ r < 3 ∧ v = .int .i64 r
  | 11 => ∃ g r : Nat, (p.x.tdiv (16 + p.j) % (3 : Nat)).toNat = r ∧ r < 3 ∧ v = .pointer (some ⟨g, r, none⟩) ∧ w.heap[g]? = some (.cells rMarksV 9 (0, 0))
  | 12 => v = .string (mk (pickI rMarks (p.x.tdiv (16 + p.j))))
  | 13 => ∃ g, v = .slice (some ⟨g, 0, none⟩) 1 1 ∧ w.heap[g]? = some (.cells #[.string (mk (pickI rMarks (p.x.tdiv (16 + p.j))))] 9 (0, 0))
  | _ => True
theorem RunF.stay {p : RP} (i : Nat) (v : Value) (w w' : World) (h : RunF p i v w) (hb : Below w.heap.size w w') : RunF p i v w' := by
  unfold RunF at *
  split at h
  all_goals first | exact h | skip
  · obtain ⟨g, h2, h3⟩ := h; exact ⟨g, h2, (hb.block g (lt_of_block h3)).trans h3⟩
  · obtain ⟨g, r, hr0, hr, h2, h3⟩ := h; exact ⟨g, r, hr0, hr, h2, (hb.block g (lt_of_block h3)).trans h3⟩
  · obtain ⟨g, h2, h3⟩ := h; exact ⟨g, h2, (hb.block g (lt_of_block h3)).trans h3⟩

set_option maxHeartbeats 4000000 in
set_option maxRecDepth 100000 in
theorem runs_any (v : Value) (l : List Int) (n : Nat) (hn : n ≤ 60) (w : World) (h : IntRow w v l) :
    Calls Tryz.prog 8 #[v, .int .i64 n] w fun e w' => ∃ tv, e = .returned tv ∧ RunOwn w.heap.size w' tv (runsM l n) ∧ Below w.heap.size w w' := by
  obtain ⟨⟨a, cap, rfl⟩, hl, hc⟩ := h
  unfold maxLen at hl
  have HC := Lib.hid hc
  clear hc
  go_enter Tryz.func8, Tryz.ntmps8
  go_wp2_with fail
  go_loopw [5, 6] (fun vo vk wr => ∃ (W : World) (k : Nat) (A : Option Addr) (C : Nat), W = wr ∧ vo = .slice A k C ∧ vk = .int .i64 k ∧ k ≤ l.length ∧ k ≤ n ∧ Hid (RunOwn w.heap.size wr (.slice A k C) (runsM l k)) ∧ Hid (Below w.heap.size w wr)) (fun _ vk _ => l.length - (intOf vk).toNat)
  case atStart => exact ⟨_, 0, _, _, rfl, rfl, rfl, by omega, by omega, Lib.hid (RunOwn.nil _ _), Lib.hid (Below.refl _ _)⟩
  case round =>
    obtain ⟨W, k, A, C, rfl, rfl, rfl, hkl, hkn, HO, HB⟩ := hrel
    by_cases hlt : k < l.length ∧ k < n
    · obtain ⟨h1, h2⟩ := hlt
      obtain ⟨x, hx⟩ : ∃ x, l[k]? = some x := ⟨_, List.getElem?_eq_getElem h1⟩
      obtain ⟨hxr, b, off, c, hv, hbl, hcell⟩ := HC.out k x hx
      obtain rfl : a = some ⟨b, off, none⟩ := by simp at hv; exact hv.1
      have hcell2 : W.cell? ⟨b, off + k, none⟩ = some (.int .i64 x) := by rw [HB.out.cell (p := ⟨b, off + k, none⟩) hbl]; exact hcell
      have k0 : (0 : Int) ≤ k := by omega
      have k1 : (k : Int) < l.length := by omega
      have k2 : (k : Int) < n := by omega
      have HX := Lib.hid hx
      clear hv hcell hx
      have hbW : b < W.heap.size := by have := HB.out.size; omega
      have hzW : w.heap.size ≤ W.heap.size := HB.out.size
      clear h1 h2
      go_upto_region 5 with fail
      refine wp_region_lit ?_
      refine wpList_table (by rfl) 29 Tryz.underlying29 rTexts (by decide) (by decide) 4 rfl rTextsV rfl _ rfl (by rw [Array.toList_map]; rfl) ?_
      generalize hW1 : W.alloc (.cells rTextsV 9) = W1
      have hb1 : Below W.heap.size W W1 := by rw [← hW1]; exact (Below.refl _ _).alloc (Nat.le_refl _) _
      have hT : W1.heap[W.heap.size]? = some (.cells rTextsV 9 (0, 0)) := by rw [← hW1]; exact heap_alloc_new W _
      have hcell3 : W1.cell? ⟨b, off + k, none⟩ = some (.int .i64 x) := (hb1.cell (p := ⟨b, off + k, none⟩) hbW).trans hcell2
      have HT := Lib.hid hT
      have HB1 := Lib.hid hb1
      have HW1 := Lib.hid hW1
      have HC2 := Lib.hid hcell2
      clear hcell2 hW1 hT hb1
      go_wp2_with fail
      refine (picked_exact x 4 _ (by decide) (by decide)).mono ?_
      rintro e w' ⟨p, hp, hp4, rfl, hw⟩
      rw [← hw]
      clear hw
      have hpi : rTexts[p]? = some (pickI rTexts x) := by rw [← hp]; exact pickI_get (by decide) x
      have hct := cell_of_rowQ HT.out rTextsV_v hpi
      have p0 : (0 : Int) ≤ p := by omega
      have p1 : (p : Int) < 4 := by omega
      clear hp hpi
      go_wp2_with fail
      obtain ⟨w3, hw3⟩ : ∃ w3, w3 = W1.alloc (.cells #[.string (mk (pickI rTexts x)), .slice none 0 0] 46) := ⟨_, rfl⟩
      rw [← hw3]
      have hb3 : Below W.heap.size W w3 := by rw [hw3]; exact HB1.out.alloc HB1.out.size _
      have hN3 : w3.heap[W1.heap.size]? = some (.cells #[.string (mk (pickI rTexts x)), .slice none 0 0] 46 (0, 0)) := by rw [hw3]; exact heap_alloc_new _ _
      have hzN : W.heap.size ≤ W1.heap.size := HB1.out.size
      have HN3 := Lib.hid hN3
      have HB3 := Lib.hid hb3
      have HJ : Hid ((x.tdiv 4 % 4).toNat < 4) := Lib.hid (by have h2 := Int.emod_lt_of_pos (x.tdiv 4) (show (0 : Int) < 4 by omega); omega)
      clear hw3 hb3 hN3 hct p0 p1 hp4 HT HW1 HB1
      obtain ⟨J, hJ⟩ : ∃ J, (x.tdiv 4 % 4).toNat = J := ⟨_, rfl⟩
      rw [hJ] at HJ
      have HJE := Lib.hid hJ
      clear hJ
      go_loopw [8] (fun vj wr => ∃ (Wr : World) (j : Nat) (ma : Option Addr) (mc : Nat), Wr = wr ∧ vj = .int .i64 j ∧ j ≤ J ∧ Hid (Wr.heap[W1.heap.size]? = some (.cells #[.string (mk (pickI rTexts x)), .slice ma j mc] 46 (0, 0))) ∧ Hid (SRow W.heap.size Wr (.slice ma j mc) ((List.range j).map fun (k : Nat) => pickI rMarks (x.tdiv (16 + (k : Int))))) ∧ Hid (Below W.heap.size W Wr)) (fun vj _ => J - (intOf vj).toNat)
      case atStart => exact ⟨_, 0, _, _, rfl, rfl, by omega, HN3, Lib.hid (SRow.nil _ _), HB3⟩
      case round =>
        obtain ⟨Wr, j, ma, mc, rfl, rfl, hjJ, HNr, HR, HBr⟩ := hrel
        have hcr : Wr.cell? ⟨b, off + k, none⟩ = some (.int .i64 x) := (HBr.out.cell (p := ⟨b, off + k, none⟩) hbW).trans HC2.out
        go_wp2_with fail
        refine (picked_exact (x.tdiv 4) 4 _ (by decide) (by decide)).mono ?_
        rintro e w' ⟨p, hp, hp4, rfl, hw⟩
        rw [← hw]
        clear hw
        obtain rfl : J = p := by rw [← HJE.out]; exact hp
        clear hp
        by_cases hjl : j < J
        · have hji : (j : Int) < J := by omega
          have j0 : (0 : Int) ≤ j := by omega
          have j1 : (j : Int) < 4 := by omega
          go_upto_region 9 with fail
          refine wp_region_push (by kernel_rfl) (fun i o hi => ?hac) 39 14 (RunF ⟨W1.heap.size, .slice ma j mc, .slice (some ⟨b, off, none⟩) l.length cap, k, .pointer (some ⟨b, off + k, none⟩), x, j⟩) (.pointer (some ⟨W1.heap.size, 1, none⟩)) (fun v wx => ∃ A2 C2, v = .slice A2 (j + 1) C2 ∧ wx.heap[W1.heap.size]? = some (.cells #[.string (mk (pickI rTexts x)), .slice ma j mc] 46 (0, 0)) ∧ SRow W.heap.size wx v ((List.range (j + 1)).map fun (k : Nat) => pickI rMarks (x.tdiv (16 + (k : Int)))) ∧ Below W.heap.size W wx)
            (fun wx => ∃ A2 C2, wx.heap[W1.heap.size]? = some (.cells #[.string (mk (pickI rTexts x)), .slice A2 (j + 1) C2] 46 (0, 0)) ∧ SRow W.heap.size wx (.slice A2 (j + 1) C2) ((List.range (j + 1)).map fun (k : Nat) => pickI rMarks (x.tdiv (16 + (k : Int)))) ∧ Below W.heap.size W wx)
            ?hn ?hz (fun i o hi2 hi => ?hdst) (fun o hi => ?hdst2) (by kernel_rfl) (by kernel_rfl) (fun i o hi2 hi => ?hdep) RunF.stay (fun i o hi5 hi => ?hstep) (fun o hi => ?hlast) (fun o hi => ?haddr) (fun o hi => ?hstore) (fun V wx hR => ?hend)
          case hn => rfl
          case hz => exact Nat.le_of_ble_eq_true rfl
          case hac => as_aux_lemma =>
            have hlt : i < 17 := (Array.getElem?_eq_some_iff.1 hi).1
            have hw : i = 0 ∨ i = 1 ∨ i = 2 ∨ i = 3 ∨ i = 4 ∨ i = 5 ∨ i = 6 ∨ i = 7 ∨ i = 8 ∨ i = 9 ∨ i = 10 ∨ i = 11 ∨ i = 12 ∨ i = 13 ∨ i = 14 ∨ i = 15 ∨ i = 16 := by omega
            rcases hw with rfl | rfl | rfl | rfl | rfl | rfl | rfl | rfl | rfl | rfl | rfl | rfl | rfl | rfl | rfl | rfl | rfl <;> (change some _ = some o at hi; cases hi; simp)
          case hdst => as_aux_lemma =>
            have hw : i = 0 ∨ i = 1 ∨ i = 2 ∨ i = 3 ∨ i = 4 ∨ i = 5 ∨ i = 6 ∨ i = 7 ∨ i = 8 ∨ i = 9 ∨ i = 10 ∨ i = 11 ∨ i = 12 ∨ i = 13 ∨ i = 14 ∨ i = 15 := by omega
            rcases hw with rfl | rfl | rfl | rfl | rfl | rfl | rfl | rfl | rfl | rfl | rfl | rfl | rfl | rfl | rfl | rfl <;> (change some _ = some o at hi; cases hi; rfl)
          case hdep => as_aux_lemma =>
            have hw : i = 0 ∨ i = 1 ∨ i = 2 ∨ i = 3 ∨ i = 4 ∨ i = 5 ∨ i = 6 ∨ i = 7 ∨ i = 8 ∨ i = 9 ∨ i = 10 ∨ i = 11 ∨ i = 12 ∨ i = 13 := by omega
            rcases hw with rfl | rfl | rfl | rfl | rfl | rfl | rfl | rfl | rfl | rfl | rfl | rfl | rfl | rfl <;> (change some _ = some o at hi; cases hi; simp)
          case hdst2 => change some _ = some o at hi; cases hi; rfl
          case hend =>
            obtain ⟨A2, C2, h1, h2, h3⟩ := hR
            simp only [fillB, Act.put, Nat.reduceAdd, List.setIfInBounds_toArray, List.set_cons_zero, List.set_cons_succ]
            have H1 := Lib.hid h1
            have H2 := Lib.hid h2
            have H3 := Lib.hid h3
            clear h1 h2 h3
            go_wp2_with fail
            go_roundw
            case rel => exact ⟨_, j + 1, A2, C2, rfl, by go_num, by omega, H1, H2, H3⟩
            case measure => simp [intOf]; omega
          case haddr => as_aux_lemma =>
            intro ax X hrest K Q' hK
            change some _ = some o at hi
            cases hi
            have e7 : ax.tmps[7]? = some (.pointer (some ⟨W1.heap.size, 0, none⟩)) := (hrest 7 (by omega)).trans rfl
            have HK := Lib.hid hK
            clear hK hrest
            go_simp
            exact HK.out
          case hstore =>
            intro ax X v hv hp hR K Q' hK
            change some _ = some o at hi
            cases hi
            have q14 : ax.tmps[53]? = some v := hv
            have q15 : ax.tmps[54]? = some (.pointer (some ⟨W1.heap.size, 1, none⟩)) := hp
            obtain ⟨A2, C2, rfl, h1, h2, h3⟩ := hR
            have HK := Lib.hid hK
            clear hK hv hp
            have c1 : X.cell? ⟨W1.heap.size, 1, none⟩ = some (.slice ma j mc) := by rw [Lib.cell_of_heap h1]; rfl
            have f1 : X.frozen? ⟨W1.heap.size, 1, none⟩ = false := Lib.frozen_of_heap h1 1
            have H1 := Lib.hid h1
            have H2 := Lib.hid h2
            have H3 := Lib.hid h3
            clear h1 h2 h3
            go_simp
            refine HK.out _ ⟨A2, C2, ?_, ?_, ?_⟩
            · have h := H1.out
              simp [World.setCell, Array.getElem?_modify, h]
            · refine ownsRow_kept H2.out fun g c _ hg => ?_
              have hne : g ≠ W1.heap.size := fun e => by
                rw [e, H1.out] at hg
                injection hg with hg; injection hg with _ hg _
                exact absurd hg (by decide)
              rw [Below.heap_setCell _ _ _ _ hne]; exact hg
            · exact H3.out.setCell (p := ⟨W1.heap.size, 1, none⟩) hzN _
          case hlast => as_aux_lemma =>
            intro ax X hbx hdeps K Q' hK
            change some _ = some o at hi
            cases hi
            obtain ⟨v1, q1, h1⟩ := hdeps 1 (by omega)
            obtain rfl : v1 = .slice ma j mc := h1
            obtain ⟨v13, q13, g, rfl, hg⟩ := hdeps 13 (by omega)
            have q1 : ax.tmps[40]? = some (.slice ma j mc) := q1
            have q13 : ax.tmps[52]? = some (.slice (some ⟨g, 0, none⟩) 1 1) := q13
            have hRX := HR.out.below hbx
            have hzW2 : W.heap.size ≤ Wr.heap.size := HBr.out.size
            have hzX : W.heap.size ≤ X.heap.size := Nat.le_trans hzW2 hbx.size
            have hlen : ((List.range j).map fun (k : Nat) => pickI rMarks (x.tdiv (16 + (k : Int)))).length = j := by rw [List.length_map, List.length_range]
            have hNX : X.heap[W1.heap.size]? = some (.cells #[.string (mk (pickI rTexts x)), .slice ma j mc] 46 (0, 0)) := (hbx.block _ (lt_of_block HNr.out)).trans HNr.out
            unfold SRow at hRX
            rw [hlen] at hRX
            refine step_row1 Tryz.underlying29 infoStr rfl (by decide) (by decide) rfl (.tmp 40) (.tmp 52) rfl W.heap.size (.slice ma j mc) j _ g #[.string (mk (pickI rMarks (x.tdiv (16 + j))))] (by simp [Act.eval, q1]) (by simp [Act.eval, q13]) hRX hg rfl (by simp [Value.oneCell']) (by omega) hzX ?_
            intro A2 C2 w' hown hgr
            refine hK _ _ ⟨A2, C2, rfl, ?_, ?_, ?_⟩
            · refine (hgr.block _ (lt_of_block hNX) fun e => ?_).trans hNX
              obtain ⟨cs, hcs, _⟩ := own_type hRX e.symm
              exact type_ne hNX hcs (by decide) rfl
            · unfold SRow
              rw [List.range_succ, List.map_append, List.length_append, hlen, List.map_append]
              exact hown
            · exact (HBr.out.trans (hbx.mono hzW2)).trans (row_grown_below hgr hRX hzX)
          case hstep => as_aux_lemma =>
            intro ax X hbx hrest hdeps K Q' hK
            have e0 : ax.tmps[0]? = some (.slice (some ⟨b, off, none⟩) l.length cap) := (hrest 0 (by omega)).trans rfl
            have e6 : ax.tmps[6]? = some (.int .i64 k) := (hrest 6 (by omega)).trans rfl
            have e7 : ax.tmps[7]? = some (.pointer (some ⟨W1.heap.size, 0, none⟩)) := (hrest 7 (by omega)).trans rfl
            have e8 : ax.tmps[8]? = some (.int .i64 j) := (hrest 8 (by omega)).trans rfl
            clear hrest
            have hw : i = 0 ∨ i = 1 ∨ i = 2 ∨ i = 3 ∨ i = 4 ∨ i = 5 ∨ i = 6 ∨ i = 7 ∨ i = 8 ∨ i = 9 ∨ i = 10 ∨ i = 11 ∨ i = 12 ∨ i = 13 := by omega
            rcases hw with rfl | rfl | rfl | rfl | rfl | rfl | rfl | rfl | rfl | rfl | rfl | rfl | rfl | rfl
            · change some _ = some o at hi
              cases hi
              have HK := Lib.hid hK
              clear hK hdeps
              go_simp
              exact HK.out _ _ (Below.refl _ _) rfl
            · change some _ = some o at hi
              cases hi
              obtain ⟨va, qa, ha⟩ := hdeps ⟨0, .data⟩ (by simp) rfl
              have qa : ax.tmps[39]? = some va := qa
              obtain rfl : va = .pointer (some ⟨W1.heap.size, 1, none⟩) := ha
              have cx : X.cell? ⟨W1.heap.size, 1, none⟩ = some (.slice ma j mc) := by rw [hbx.cell (p := ⟨W1.heap.size, 1, none⟩) (lt_of_block HNr.out), Lib.cell_of_heap HNr.out]; rfl
              have HK := Lib.hid hK
              clear hK hdeps
              go_simp
              exact HK.out _ _ (Below.refl _ _) rfl
            · change some _ = some o at hi
              cases hi
              refine step_table rfl 29 Tryz.underlying29 rMarks (by decide) (by decide) 3 rfl rMarksV rfl _ rfl (by rw [Array.toList_map]; rfl) (hK _ _ ((Below.refl _ _).alloc (Nat.le_refl _) _) ⟨X.heap.size, rfl, heap_alloc_new X _⟩)
            · change some _ = some o at hi
              cases hi
              have HK := Lib.hid hK
              clear hK hdeps
              go_simp
              exact HK.out _ _ (Below.refl _ _) rfl
            · change some _ = some o at hi
              cases hi
              have HK := Lib.hid hK
              clear hK hdeps
              go_simp
              exact HK.out _ _ (Below.refl _ _) rfl
            · change some _ = some o at hi
              cases hi
              obtain ⟨va, qa, ha⟩ := hdeps ⟨3, .data⟩ (by simp) rfl
              have qa : ax.tmps[42]? = some va := qa
              obtain rfl : va = .slice (some ⟨b, off, none⟩) l.length cap := ha
              obtain ⟨vb, qb, hb⟩ := hdeps ⟨4, .data⟩ (by simp) rfl
              have qb : ax.tmps[43]? = some vb := qb
              obtain rfl : vb = .int .i64 k := hb
              have HK := Lib.hid hK
              clear hK hdeps
              go_simp
              exact HK.out _ _ (Below.refl _ _) rfl
            · change some _ = some o at hi
              cases hi
              obtain ⟨va, qa, ha⟩ := hdeps ⟨5, .data⟩ (by simp) rfl
              have qa : ax.tmps[44]? = some va := qa
              obtain rfl : va = .pointer (some ⟨b, off + k, none⟩) := ha
              have cx : X.cell? ⟨b, off + k, none⟩ = some (.int .i64 x) := (hbx.cell (p := ⟨b, off + k, none⟩) (by show b < Wr.heap.size; have := HBr.out.size; omega)).trans hcr
              have HK := Lib.hid hK
              clear hK hdeps
              go_simp
              exact HK.out _ _ (Below.refl _ _) rfl
            · change some _ = some o at hi
              cases hi
              have HK := Lib.hid hK
              clear hK hdeps
              go_simp
              exact HK.out _ _ (Below.refl _ _) rfl
            · change some _ = some o at hi
              cases hi
              obtain ⟨va, qa, ha⟩ := hdeps ⟨7, .data⟩ (by simp) rfl
              have qa : ax.tmps[46]? = some va := qa
              obtain rfl : va = .int .i64 j := ha
              have hw8 : IntKind.i64.wrap (16 + (j : Int)) = 16 + (j : Int) := IntWalk.i64_in _ (by omega)
              have HK := Lib.hid hK
              clear hK hdeps
              go_simp
              exact HK.out _ _ (Below.refl _ _) rfl
            · change some _ = some o at hi
              cases hi
              obtain ⟨va, qa, ha⟩ := hdeps ⟨6, .data⟩ (by simp) rfl
              have qa : ax.tmps[45]? = some va := qa
              obtain rfl : va = .int .i64 x := ha
              obtain ⟨vb, qb, hb⟩ := hdeps ⟨8, .data⟩ (by simp) rfl
              have qb : ax.tmps[47]? = some vb := qb
              obtain rfl : vb = .int .i64 (16 + j) := hb
              have hz0 : ¬ (16 + (j : Int)) = 0 := by omega
              have hz1 : ((16 + (j : Int)) == 0) = false := beq_eq_false_iff_ne.2 hz0
              have hw9 : IntKind.i64.wrap (x.tdiv (16 + (j : Int))) = x.tdiv (16 + (j : Int)) := wrap_quo hxr (by omega)
              have HK := Lib.hid hK
              clear hK hdeps
              go_simp
              exact HK.out _ _ (Below.refl _ _) rfl
            · change some _ = some o at hi
              cases hi
              obtain ⟨va, qa, ha⟩ := hdeps ⟨9, .data⟩ (by simp) rfl
              have qa : ax.tmps[48]? = some va := qa
              obtain rfl : va = .int .i64 (x.tdiv (16 + j)) := ha
              have HK := Lib.hid hK
              clear hK hdeps
              go_simp
              refine (picked_exact _ 3 _ (by decide) (by decide)).mono ?_
              rintro e X' ⟨r, hr0, hr, rfl, hX⟩
              rw [← hX]
              exact HK.out _ _ (Below.refl _ _) ⟨r, hr0, hr, rfl⟩
            · change some _ = some o at hi
              cases hi
              obtain ⟨va, qa, ha⟩ := hdeps ⟨2, .data⟩ (by simp) rfl
              have qa : ax.tmps[41]? = some va := qa
              obtain ⟨g9, rfl, hg9⟩ := ha
              obtain ⟨vb, qb, hb⟩ := hdeps ⟨10, .data⟩ (by simp) rfl
              have qb : ax.tmps[49]? = some vb := qb
              obtain ⟨r9, hr0, hr9, rfl⟩ := hb
              have HG9 := Lib.hid hg9
              have HR0 := Lib.hid hr0
              have i0 : (0 : Int) ≤ r9 := by omega
              have i1 : (r9 : Int) < 3 := by omega
              clear hg9 hr0
              have HK := Lib.hid hK
              clear hK hdeps
              go_simp
              exact HK.out _ _ (Below.refl _ _) ⟨g9, r9, HR0.out, hr9, rfl, HG9.out⟩
            · change some _ = some o at hi
              cases hi
              obtain ⟨va, qa, ha⟩ := hdeps ⟨11, .data⟩ (by simp) rfl
              have qa : ax.tmps[50]? = some va := qa
              obtain ⟨g9, r9, hr0, hr9, rfl, hg9⟩ := ha
              have hnm : rMarks[r9]? = some (pickI rMarks (x.tdiv (16 + j))) := by rw [← hr0]; exact pickI_get (by decide) _
              have cx := cell_of_rowQ hg9 rMarksV_v hnm
              clear hg9 hnm hr0
              have HK := Lib.hid hK
              clear hK hdeps
              go_simp
              exact HK.out _ _ (Below.refl _ _) rfl
            · change some _ = some o at hi
              cases hi
              obtain ⟨va, qa, ha⟩ := hdeps ⟨12, .data⟩ (by simp) rfl
              have qa : ax.tmps[51]? = some va := qa
              obtain rfl : va = .string (mk (pickI rMarks (x.tdiv (16 + j)))) := ha
              have HK := Lib.hid hK
              clear hK hdeps
              go_simp
              exact HK.out _ _ ((Below.refl _ _).alloc (Nat.le_refl _) _) ⟨X.heap.size, rfl, heap_alloc_new X _⟩
        · obtain rfl : j = J := by omega
          have c0 : Wr.cell? ⟨W1.heap.size, 0, none⟩ = some (.string (mk (pickI rTexts x))) := by rw [Lib.cell_of_heap HNr.out]; rfl
          have c1 : Wr.cell? ⟨W1.heap.size, 1, none⟩ = some (.slice ma j mc) := by rw [Lib.cell_of_heap HNr.out]; rfl
          have hro : runOf x = ⟨pickI rTexts x, (List.range j).map fun (k : Nat) => pickI rMarks (x.tdiv (16 + (k : Int)))⟩ := by unfold runOf; rw [HJE.out]
          have hmv : SView Wr (.slice ma j mc) (runOf x).marks := by rw [hro]; exact HR.out.sview
          have hW : Older Wr (Wr.alloc (.cells #[.string (mk (pickI rTexts x)), .slice ma j mc] 46)) := Older.of_below ((Below.refl _ _).alloc (Nat.le_refl _) _)
          have hOx := (HO.out.older (Older.of_below HBr.out)).older hW
          have hzX : w.heap.size ≤ (Wr.alloc (.cells #[.string (mk (pickI rTexts x)), .slice ma j mc] 46)).heap.size := by have := HBr.out.size; simp; omega
          have hlr : (runsM l k).length = k := by unfold runsM; rw [List.length_map, List.length_take]; omega
          have hsn : runsM l (k + 1) = runsM l k ++ [runOf x] := by unfold runsM; rw [List.take_add_one, HX.out]; simp
          obtain ⟨cells, hown0, hpush⟩ := hOx.row
          rw [hlr] at hown0 hpush
          have HOWN := Lib.hid hown0
          have HPUSH := Lib.hid (hpush (runOf x) (.slice ma j mc))
          have HMV := Lib.hid (hmv.older hW)
          have HNX := Lib.hid (heap_alloc_new Wr (.cells #[.string (mk (pickI rTexts x)), .slice ma j mc] 46))
          have HBX := Lib.hid (HB.out.trans (((HBr.out.mono (Nat.le_refl _)).alloc HBr.out.size (.cells #[.string (mk (pickI rTexts x)), .slice ma j mc] 46)).mono hzW))
          have HRO := Lib.hid hro
          have HSN := Lib.hid hsn
          clear hOx hown0 hpush hmv hW hro hsn
          go_wp2_with (at_builtin; refine wpList_row1 Tryz.underlying30 infoRun rfl (by decide) (by decide) (by rfl) (.tmp 55) (.tmp 57) (by rfl) w.heap.size _ k _ Wr.heap.size #[.string (mk (pickI rTexts x)), .slice ma j mc] (by rfl) (by rfl) HOWN.out HNX.out rfl (by simp [Value.oneCell']) (by omega) hzX ?_; intro A2 C2 w2 hown hgr; have HB3 := Lib.hid (HBX.out.trans (row_grown_below hgr HOWN.out hzX)); have HO3 := Lib.hid (HPUSH.out _ w2 HMV.out hgr (by rw [HRO.out]; exact hown)); clear hown hgr)
          go_roundw
          case rel => exact ⟨_, k + 1, A2, C2, rfl, rfl, by go_num, by omega, by omega, Lib.hid (by rw [HSN.out]; exact HO3.out), HB3⟩
          case measure => simp [intOf]; omega
    · have hkk : k = min l.length n := by omega
      have hfin : runsM l k = runsM l n := by
        unfold runsM
        by_cases hx : l.length ≤ n
        · rw [List.take_of_length_le (by omega), List.take_of_length_le hx]
        · rw [show k = n by omega]
      have HF := Lib.hid hfin
      clear hfin hkk
      have hk2 : k = l.length ∨ (k < l.length ∧ k = n) := by omega
      rcases hk2 with rfl | ⟨hk2, rfl⟩
      · go_wp2_with fail
        go_ret
        exact ⟨_, rfl, by rw [← HF.out]; exact HO.out, HB.out⟩
      · go_wp2_with fail
        go_ret
        exact ⟨_, rfl, HO.out, HB.out⟩
end Go.Proofs.YtjkgmdnkejjppaaGreatDoor
