/- Walk of the keep's helper: Decls. -/
import Derived.Test.YtpbcalbolnlojaaGreatDoorJYWalkE
import Derived.Test.YtpbcalbolnlojaaGreatDoorGh
import Derived.Test.YtpbcalbolnlojaaGreatDoorJTab
namespace Go.Proofs.YtpbcalbolnlojaaGreatDoor
open Go Go.RowKit

theorem picked_natY (a : Int) (N : Nat) (w : World) (h0 : 0 < N) (h1 : N ≤ 1000000) :
    Calls Tryz.prog 20 #[.int .i64 a, .int .i64 N] w fun e w' => ∃ r : Nat, r < N ∧ e = .returned (.int .i64 r) ∧ w = w' := by
  refine (picked_any a N w (by omega) (by omega)).mono fun e w' ⟨he, hw⟩ => ?_
  have h2 := Int.emod_nonneg a (show (N : Int) ≠ 0 by omega)
  have h3 := Int.emod_lt_of_pos a (show (0 : Int) < N by omega)
  exact ⟨(a % N).toNat, by omega, by rw [he, Int.toNat_of_nonneg h2], hw⟩

theorem cell_of_rowY {w : World} {g i : Nat} {V : Array Value} {T : TypeId} {l : List Bytes} {x : Bytes} (hh : w.heap[g]? = some (.cells V T (0, 0))) (hV : V.toList = l.map fun p => .string (mk p)) (hx : l[i]? = some x) : w.cell? ⟨g, i, none⟩ = some (.string (mk x)) := by
  rw [Lib.cell_of_heap hh, ← Array.getElem?_toList, hV, List.getElem?_map, hx]; rfl
abbrev namesV : Array Value := #[.string ⟨#[99, 111, 108, 111, 114]⟩, .string ⟨#[119, 105, 100, 116, 104]⟩, .string ⟨#[97, 45, 98]⟩, .string ⟨#[120, 49]⟩]
theorem namesV_v : namesV.toList = declNames.map (fun p => .string (mk p)) := rfl
abbrev valuesV : Array Value := #[.string ⟨#[114, 101, 100]⟩, .string ⟨#[49, 112, 120, 32, 50, 112, 120]⟩, .string ⟨#[117, 114, 108, 40, 97, 59, 98, 41]⟩, .string ⟨#[34, 59, 58, 34]⟩, .string ⟨#[97, 58, 98]⟩, .string ⟨#[102, 40, 103, 40, 59, 41, 41]⟩, .string ⟨#[39, 120, 39]⟩]
theorem valuesV_v : valuesV.toList = declValues.map (fun p => .string (mk p)) := rfl
/-- What the slots of the region of Decls hold. -/
structure DP where
  tv : Value
  lv : Value
  k : Nat
  ip : Value
  x : Int
def DeclF (p : DP) (i : Nat) (v : Value) (w : World) : Prop := match i with
  | 0 => v = p.tv
  | 1 => ∃ g, v = .slice (some ⟨g, 0, none⟩) 4 4 ∧ w.heap[g]? = some (.cells namesV 9 (0, 0))
  | 2 | 10 => v = p.lv
  | 3 | 11 => v = .int .i64 p.k
  | 4 | 12 => v = p.ip
  | 5 | 13 => v = .int .i64 p.x
  | 6 => ∃ r : Nat, r < 4 ∧ v = .int .i64 r
  | 7 => ∃ g r : Nat, r < 4 ∧ v = .pointer (some ⟨g, r, none⟩) ∧ w.heap[g]? = some (.cells namesV 9 (0, 0))
  | 8 => ∃ nm ∈ declNames, v = .string (mk nm)
  | 9 => ∃ g, v = .slice (some ⟨g, 0, none⟩) 7 7 ∧ w.heap[g]? = some (.cells valuesV 9 (0, 0))
  | 14 => ∃ z, v = .int .i64 z
  | 15 => ∃ r : Nat, r < 7 ∧ v = .int .i64 r
  | 16 => ∃ g r : Nat, r < 7 ∧ v = .pointer (some ⟨g, r, none⟩) ∧ w.heap[g]? = some (.cells valuesV 9 (0, 0))
  | 17 => ∃ vl ∈ declValues, v = .string (mk vl)
  | 18 => ∃ d, DeclIn d ∧ v = .agg #[.string (mk d.name), .string (mk d.value)]
  | 19 => ∃ d, DeclIn d ∧ ∃ g, v = .slice (some ⟨g, 0, none⟩) 1 1 ∧ w.heap[g]? = some (.cells #[.string (mk d.name), .string (mk d.value)] 39 (0, 0))
  | _ => True
theorem DeclF.stay {p : DP} (i : Nat) (v : Value) (w w' : World) (h : DeclF p i v w) (hb : Below w.heap.size w w') : DeclF p i v w' := by
  unfold DeclF at *
  split at h
  all_goals first | exact h | skip
  · obtain ⟨g, h2, h3⟩ := h; exact ⟨g, h2, (hb.block g (lt_of_block h3)).trans h3⟩
  · obtain ⟨g, r, hr, h2, h3⟩ := h; exact ⟨g, r, hr, h2, (hb.block g (lt_of_block h3)).trans h3⟩
  · obtain ⟨g, h2, h3⟩ := h; exact ⟨g, h2, (hb.block g (lt_of_block h3)).trans h3⟩
  · obtain ⟨g, r, hr, h2, h3⟩ := h; exact ⟨g, r, hr, h2, (hb.block g (lt_of_block h3)).trans h3⟩
  · obtain ⟨d, hd, g, h2, h3⟩ := h; exact ⟨d, hd, g, h2, (hb.block g (lt_of_block h3)).trans h3⟩

set_option maxHeartbeats 4000000 in
set_option maxRecDepth 100000 in
theorem decls_any (v : Value) (l : List Int) (n : Nat) (hn : n ≤ 100) (w : World) (h : IntRow w v l) :
    Calls Tryz.prog 6 #[v, .int .i64 n] w fun e w' => ∃ tv L, e = .returned tv ∧ DRow w.heap.size w' tv L ∧ (∀ d ∈ L, DeclIn d) ∧ L.length ≤ n ∧ Below w.heap.size w w' := by
  obtain ⟨⟨a, cap, rfl⟩, hl, hc⟩ := h
  unfold maxLen at hl
  have HC := Lib.hid hc
  clear hc
  go_enter Tryz.func6, Tryz.ntmps6
  go_wp2_with fail
  go_loopw [5, 6] (fun vo vk wr => ∃ (W : World) (k : Nat) (L : List TDecl) (A : Option Addr) (C : Nat), W = wr ∧ vo = .slice A k C ∧ vk = .int .i64 k ∧ L.length = k ∧ k ≤ l.length ∧ k ≤ n ∧ Hid (DRow w.heap.size wr (.slice A k C) L) ∧ Hid (∀ d ∈ L, DeclIn d) ∧ Hid (Below w.heap.size w wr)) (fun _ vk _ => l.length - (intOf vk).toNat)
  case atStart => exact ⟨_, 0, [], _, _, rfl, rfl, rfl, rfl, by omega, by omega, Lib.hid (DRow.nil _ _), Lib.hid (fun d hd => by cases hd), Lib.hid (Below.refl _ _)⟩
  case round =>
    obtain ⟨W, k, L, A, C, rfl, rfl, rfl, hLk, hkl, hkn, HO, HI, HB⟩ := hrel
    by_cases hlt : k < l.length ∧ k < n
    · obtain ⟨h1, h2⟩ := hlt
      obtain ⟨x, hx⟩ : ∃ x, l[k]? = some x := ⟨_, List.getElem?_eq_getElem h1⟩
      obtain ⟨_, b, off, c, hv, hbl, hcell⟩ := HC.out k x hx
      obtain rfl : a = some ⟨b, off, none⟩ := by simp at hv; exact hv.1
      have hcell2 : W.cell? ⟨b, off + k, none⟩ = some (.int .i64 x) := by rw [HB.out.cell (p := ⟨b, off + k, none⟩) hbl]; exact hcell
      have k0 : (0 : Int) ≤ k := by omega
      have k1 : (k : Int) < l.length := by omega
      have k2 : (k : Int) < n := by omega
      clear hv hcell hx
      have hbW : b < W.heap.size := by have := HB.out.size; omega
      have hzW : w.heap.size ≤ W.heap.size := HB.out.size
      have HCC := Lib.hid hcell2
      clear h1 h2
      go_upto_region 5 with fail
      refine wp_region_slotsA (by kernel_rfl) (fun i o hi => ?hac) 18 20 5 (DeclF ⟨.slice A k C, .slice (some ⟨b, off, none⟩) l.length cap, k, .pointer (some ⟨b, off + k, none⟩), x⟩) (fun v wx => ∃ d A2 C2, DeclIn d ∧ v = .slice A2 (k + 1) C2 ∧ DRow w.heap.size wx v (L ++ [d]) ∧ Below w.heap.size W wx) ?hn ?hz (fun i o hi2 hi => ?hdst) (by kernel_rfl) (by kernel_rfl) DeclF.stay (fun i o hi5 hi => ?hstep) (fun o hi => ?hlast) (fun o hi => ?hset) (fun V wx hR => ?hend)
      case hn => rfl
      case hz => exact Nat.le_of_ble_eq_true rfl
      case hac => as_aux_lemma =>
        have hlt : i < 22 := (Array.getElem?_eq_some_iff.1 hi).1
        have hw : i = 0 ∨ i = 1 ∨ i = 2 ∨ i = 3 ∨ i = 4 ∨ i = 5 ∨ i = 6 ∨ i = 7 ∨ i = 8 ∨ i = 9 ∨ i = 10 ∨ i = 11 ∨ i = 12 ∨ i = 13 ∨ i = 14 ∨ i = 15 ∨ i = 16 ∨ i = 17 ∨ i = 18 ∨ i = 19 ∨ i = 20 ∨ i = 21 := by omega
        rcases hw with rfl | rfl | rfl | rfl | rfl | rfl | rfl | rfl | rfl | rfl | rfl | rfl | rfl | rfl | rfl | rfl | rfl | rfl | rfl | rfl | rfl | rfl <;> (change some _ = some o at hi; cases hi; simp)
      case hdst => as_aux_lemma =>
        have hw : i = 0 ∨ i = 1 ∨ i = 2 ∨ i = 3 ∨ i = 4 ∨ i = 5 ∨ i = 6 ∨ i = 7 ∨ i = 8 ∨ i = 9 ∨ i = 10 ∨ i = 11 ∨ i = 12 ∨ i = 13 ∨ i = 14 ∨ i = 15 ∨ i = 16 ∨ i = 17 ∨ i = 18 ∨ i = 19 ∨ i = 20 := by omega
        rcases hw with rfl | rfl | rfl | rfl | rfl | rfl | rfl | rfl | rfl | rfl | rfl | rfl | rfl | rfl | rfl | rfl | rfl | rfl | rfl | rfl | rfl <;> (change some _ = some o at hi; cases hi; rfl)
      case hend =>
        obtain ⟨d, A2, C2, hd, hv5, hdr, hbx⟩ := hR
        simp only [fillB, Act.put, Nat.reduceAdd, List.setIfInBounds_toArray, List.set_cons_zero, List.set_cons_succ]
        rw [hv5] at hdr ⊢
        have HDR := Lib.hid hdr
        have HBX := Lib.hid (HB.out.trans hbx)
        have HI2 := Lib.hid (show ∀ e ∈ L ++ [d], DeclIn e from fun e he => by
          rcases List.mem_append.1 he with he | he
          · exact HI.out e he
          · cases List.mem_singleton.1 he; exact hd)
        clear hv5 hdr hbx hd
        go_wp2_with fail
        go_roundw
        case rel => exact ⟨_, k + 1, L ++ [d], A2, C2, rfl, rfl, by go_num, by rw [List.length_append, hLk]; rfl, by omega, by omega, HDR, HI2, HBX⟩
        case measure => simp [intOf]; omega
      case hset => as_aux_lemma =>
        intro ax X v hv K Q' hK
        change some _ = some o at hi
        cases hi
        have hv : ax.tmps[38]? = some v := hv
        have HK := Lib.hid hK
        clear hK
        go_simp
        exact HK.out
      case hlast => as_aux_lemma =>
        intro ax X hbx hrest hdeps K Q' hK
        change some _ = some o at hi
        cases hi
        obtain ⟨v0, q0, h0⟩ := hdeps 0 (by omega)
        obtain rfl : v0 = .slice A k C := h0
        obtain ⟨v19, q19, d, hd, g, rfl, hg⟩ := hdeps 19 (by omega)
        have q0 : ax.tmps[18]? = some (.slice A k C) := q0
        have q19 : ax.tmps[37]? = some (.slice (some ⟨g, 0, none⟩) 1 1) := q19
        have hOX := HO.out.below hbx
        have hzX : w.heap.size ≤ X.heap.size := Nat.le_trans hzW hbx.size
        refine step_row1 Tryz.underlying23 infoDecl rfl (by decide) (by decide) rfl (.tmp 18) (.tmp 37) rfl w.heap.size (.slice A k C) k (declCells L) g #[.string (mk d.name), .string (mk d.value)] (by simp [Act.eval, q0]) (by simp [Act.eval, q19]) (by have h9 := hOX; unfold DRow at h9; rw [hLk] at h9; exact h9) hg rfl (by simp [Value.oneCell']) (by omega) hzX ?_
        intro A2 C2 w' hown hgr
        refine hK _ _ ⟨d, A2, C2, hd, rfl, ?_, ?_⟩
        · unfold DRow
          rw [List.length_append, hLk, show declCells (L ++ [d]) = declCells L ++ [.string (mk d.name), .string (mk d.value)] by simp [declCells]]
          exact hown
        · exact (hbx.mono hzW).trans (row_grown_below hgr (by have h9 := hOX; unfold DRow at h9; exact h9) hzX)
      case hstep => as_aux_lemma =>
        intro ax X hbx hrest hdeps K Q' hK
        have e5 : ax.tmps[5]? = some (.slice A k C) := (hrest 5 (by omega)).trans rfl
        have e0 : ax.tmps[0]? = some (.slice (some ⟨b, off, none⟩) l.length cap) := (hrest 0 (by omega)).trans rfl
        have e6 : ax.tmps[6]? = some (.int .i64 k) := (hrest 6 (by omega)).trans rfl
        clear hrest
        have hw : i = 0 ∨ i = 1 ∨ i = 2 ∨ i = 3 ∨ i = 4 ∨ i = 5 ∨ i = 6 ∨ i = 7 ∨ i = 8 ∨ i = 9 ∨ i = 10 ∨ i = 11 ∨ i = 12 ∨ i = 13 ∨ i = 14 ∨ i = 15 ∨ i = 16 ∨ i = 17 ∨ i = 18 ∨ i = 19 := by omega
        rcases hw with rfl | rfl | rfl | rfl | rfl | rfl | rfl | rfl | rfl | rfl | rfl | rfl | rfl | rfl | rfl | rfl | rfl | rfl | rfl | rfl
        · change some _ = some o at hi
          cases hi
          have HK := Lib.hid hK
          clear hK hdeps
          go_simp
          exact HK.out _ _ (Below.refl _ _) rfl
        · change some _ = some o at hi
          cases hi
          refine step_table rfl 46 Tryz.underlying46 declNames (by decide) (by decide) 4 rfl namesV rfl _ rfl (by rw [Array.toList_map]; rfl) (hK _ _ ((Below.refl _ _).alloc (Nat.le_refl _) _) ⟨X.heap.size, rfl, heap_alloc_new X _⟩)
        · change some _ = some o at hi
          cases hi
          have HK := Lib.hid hK
          clear hK hdeps
          go_simp
          exact HK.out _ _ (Below.refl _ _) rfl
        · change some _ = some o at hi
          cases hi
          have HK := Lib.hid hK
          clear hK hdeps
          go_simp
          exact HK.out _ _ (Below.refl _ _) rfl
        · change some _ = some o at hi
          cases hi
          obtain ⟨va, qa, ha⟩ := hdeps ⟨2, .data⟩ (by simp) rfl
          have qa : ax.tmps[20]? = some va := qa
          obtain rfl : va = .slice (some ⟨b, off, none⟩) l.length cap := ha
          obtain ⟨vb, qb, hb⟩ := hdeps ⟨3, .data⟩ (by simp) rfl
          have qb : ax.tmps[21]? = some vb := qb
          obtain rfl : vb = .int .i64 k := hb
          have HK := Lib.hid hK
          clear hK hdeps
          go_simp
          exact HK.out _ _ (Below.refl _ _) rfl
        · change some _ = some o at hi
          cases hi
          obtain ⟨va, qa, ha⟩ := hdeps ⟨4, .data⟩ (by simp) rfl
          have qa : ax.tmps[22]? = some va := qa
          obtain rfl : va = .pointer (some ⟨b, off + k, none⟩) := ha
          have cx : X.cell? ⟨b, off + k, none⟩ = some (.int .i64 x) := (hbx.cell (p := ⟨b, off + k, none⟩) hbW).trans hcell2
          have HK := Lib.hid hK
          clear hK hdeps
          go_simp
          exact HK.out _ _ (Below.refl _ _) rfl
        · change some _ = some o at hi
          cases hi
          obtain ⟨va, qa, ha⟩ := hdeps ⟨5, .data⟩ (by simp) rfl
          have qa : ax.tmps[23]? = some va := qa
          obtain rfl : va = .int .i64 x := ha
          have HK := Lib.hid hK
          clear hK hdeps
          go_simp
          refine (picked_natY _ 4 _ (by decide) (by decide)).mono ?_
          rintro e X' ⟨r, hr, rfl, hX⟩
          rw [← hX]
          exact HK.out _ _ (Below.refl _ _) ⟨r, hr, rfl⟩
        · change some _ = some o at hi
          cases hi
          obtain ⟨va, qa, ha⟩ := hdeps ⟨1, .data⟩ (by simp) rfl
          have qa : ax.tmps[19]? = some va := qa
          obtain ⟨g9, rfl, hg9⟩ := ha
          obtain ⟨vb, qb, hb⟩ := hdeps ⟨6, .data⟩ (by simp) rfl
          have qb : ax.tmps[24]? = some vb := qb
          obtain ⟨r9, hr9, rfl⟩ := hb
          have HG9 := Lib.hid hg9
          have i0 : (0 : Int) ≤ r9 := by omega
          have i1 : (r9 : Int) < 4 := by omega
          clear hg9
          have HK := Lib.hid hK
          clear hK hdeps
          go_simp
          exact HK.out _ _ (Below.refl _ _) ⟨g9, r9, hr9, rfl, HG9.out⟩
        · change some _ = some o at hi
          cases hi
          obtain ⟨va, qa, ha⟩ := hdeps ⟨7, .data⟩ (by simp) rfl
          have qa : ax.tmps[25]? = some va := qa
          obtain ⟨g9, r9, hr9, rfl, hg9⟩ := ha
          obtain ⟨nm, hnm⟩ : ∃ nm, declNames[r9]? = some nm := ⟨_, List.getElem?_eq_getElem (show r9 < declNames.length from hr9)⟩
          have cx := cell_of_rowY hg9 namesV_v hnm
          have HM := Lib.hid (List.mem_of_getElem? hnm)
          clear hg9 hnm
          have HK := Lib.hid hK
          clear hK hdeps
          go_simp
          exact HK.out _ _ (Below.refl _ _) ⟨nm, HM.out, rfl⟩
        · change some _ = some o at hi
          cases hi
          refine step_table rfl 46 Tryz.underlying46 declValues (by decide) (by decide) 7 rfl valuesV rfl _ rfl (by rw [Array.toList_map]; rfl) (hK _ _ ((Below.refl _ _).alloc (Nat.le_refl _) _) ⟨X.heap.size, rfl, heap_alloc_new X _⟩)
        · change some _ = some o at hi
          cases hi
          have HK := Lib.hid hK
          clear hK hdeps
          go_simp
          exact HK.out _ _ (Below.refl _ _) rfl
        · change some _ = some o at hi
          cases hi
          have HK := Lib.hid hK
          clear hK hdeps
          go_simp
          exact HK.out _ _ (Below.refl _ _) rfl
        · change some _ = some o at hi
          cases hi
          obtain ⟨va, qa, ha⟩ := hdeps ⟨10, .data⟩ (by simp) rfl
          have qa : ax.tmps[28]? = some va := qa
          obtain rfl : va = .slice (some ⟨b, off, none⟩) l.length cap := ha
          obtain ⟨vb, qb, hb⟩ := hdeps ⟨11, .data⟩ (by simp) rfl
          have qb : ax.tmps[29]? = some vb := qb
          obtain rfl : vb = .int .i64 k := hb
          have HK := Lib.hid hK
          clear hK hdeps
          go_simp
          exact HK.out _ _ (Below.refl _ _) rfl
        · change some _ = some o at hi
          cases hi
          obtain ⟨va, qa, ha⟩ := hdeps ⟨12, .data⟩ (by simp) rfl
          have qa : ax.tmps[30]? = some va := qa
          obtain rfl : va = .pointer (some ⟨b, off + k, none⟩) := ha
          have cx : X.cell? ⟨b, off + k, none⟩ = some (.int .i64 x) := (hbx.cell (p := ⟨b, off + k, none⟩) hbW).trans hcell2
          have HK := Lib.hid hK
          clear hK hdeps
          go_simp
          exact HK.out _ _ (Below.refl _ _) rfl
        · change some _ = some o at hi
          cases hi
          obtain ⟨va, qa, ha⟩ := hdeps ⟨13, .data⟩ (by simp) rfl
          have qa : ax.tmps[31]? = some va := qa
          obtain rfl : va = .int .i64 x := ha
          have HK := Lib.hid hK
          clear hK hdeps
          go_simp
          exact HK.out _ _ (Below.refl _ _) ⟨_, rfl⟩
        · change some _ = some o at hi
          cases hi
          obtain ⟨va, qa, ha⟩ := hdeps ⟨14, .data⟩ (by simp) rfl
          have qa : ax.tmps[32]? = some va := qa
          obtain ⟨z, rfl⟩ : ∃ z, va = .int .i64 z := ha
          have HK := Lib.hid hK
          clear hK hdeps
          go_simp
          refine (picked_natY _ 7 _ (by decide) (by decide)).mono ?_
          rintro e X' ⟨r, hr, rfl, hX⟩
          rw [← hX]
          exact HK.out _ _ (Below.refl _ _) ⟨r, hr, rfl⟩
        · change some _ = some o at hi
          cases hi
          obtain ⟨va, qa, ha⟩ := hdeps ⟨9, .data⟩ (by simp) rfl
          have qa : ax.tmps[27]? = some va := qa
          obtain ⟨g9, rfl, hg9⟩ := ha
          obtain ⟨vb, qb, hb⟩ := hdeps ⟨15, .data⟩ (by simp) rfl
          have qb : ax.tmps[33]? = some vb := qb
          obtain ⟨r9, hr9, rfl⟩ := hb
          have HG9 := Lib.hid hg9
          have i0 : (0 : Int) ≤ r9 := by omega
          have i1 : (r9 : Int) < 7 := by omega
          clear hg9
          have HK := Lib.hid hK
          clear hK hdeps
          go_simp
          exact HK.out _ _ (Below.refl _ _) ⟨g9, r9, hr9, rfl, HG9.out⟩
        · change some _ = some o at hi
          cases hi
          obtain ⟨va, qa, ha⟩ := hdeps ⟨16, .data⟩ (by simp) rfl
          have qa : ax.tmps[34]? = some va := qa
          obtain ⟨g9, r9, hr9, rfl, hg9⟩ := ha
          obtain ⟨nm, hnm⟩ : ∃ nm, declValues[r9]? = some nm := ⟨_, List.getElem?_eq_getElem (show r9 < declValues.length from hr9)⟩
          have cx := cell_of_rowY hg9 valuesV_v hnm
          have HM := Lib.hid (List.mem_of_getElem? hnm)
          clear hg9 hnm
          have HK := Lib.hid hK
          clear hK hdeps
          go_simp
          exact HK.out _ _ (Below.refl _ _) ⟨nm, HM.out, rfl⟩
        · change some _ = some o at hi
          cases hi
          obtain ⟨va, qa, ha⟩ := hdeps ⟨8, .data⟩ (by simp) rfl
          have qa : ax.tmps[26]? = some va := qa
          obtain ⟨nm, hnm, rfl⟩ := ha
          obtain ⟨vb, qb, hb⟩ := hdeps ⟨17, .data⟩ (by simp) rfl
          have qb : ax.tmps[35]? = some vb := qb
          obtain ⟨vl, hvl, rfl⟩ := hb
          have HM := Lib.hid (show DeclIn ⟨nm, vl⟩ from ⟨hnm, hvl⟩)
          clear hnm hvl
          have HK := Lib.hid hK
          clear hK hdeps
          go_simp
          exact HK.out _ _ (Below.refl _ _) ⟨⟨nm, vl⟩, HM.out, rfl⟩
        · change some _ = some o at hi
          cases hi
          obtain ⟨va, qa, ha⟩ := hdeps ⟨18, .data⟩ (by simp) rfl
          have qa : ax.tmps[36]? = some va := qa
          obtain ⟨d9, hd9, rfl⟩ := ha
          have HM := Lib.hid hd9
          clear hd9
          have HK := Lib.hid hK
          clear hK hdeps
          go_simp
          exact HK.out _ _ ((Below.refl _ _).alloc (Nat.le_refl _) _) ⟨d9, HM.out, X.heap.size, rfl, heap_alloc_new X _⟩
    · have k1 : ¬ ((k : Int) < l.length ∧ (k : Int) < n) := by omega
      by_cases h1 : k < l.length
      · have k2 : (k : Int) < l.length := by omega
        have k3 : ¬ (k : Int) < n := by omega
        clear hlt h1
        go_wp2_with fail
        go_ret
        exact ⟨_, rfl, L, by unfold DRow; rw [hLk]; have h9 := HO.out; unfold DRow at h9; rw [hLk] at h9; exact h9, HI.out, by omega, HB.out⟩
      · have k2 : ¬ (k : Int) < l.length := by omega
        clear hlt h1
        go_wp2_with fail
        go_ret
        exact ⟨_, rfl, L, by unfold DRow; rw [hLk]; have h9 := HO.out; unfold DRow at h9; rw [hLk] at h9; exact h9, HI.out, by omega, HB.out⟩
end Go.Proofs.YtpbcalbolnlojaaGreatDoor
