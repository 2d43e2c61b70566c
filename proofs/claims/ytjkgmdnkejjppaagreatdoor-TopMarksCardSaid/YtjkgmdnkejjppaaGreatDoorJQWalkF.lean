/- Walks of marks: nest. -/
import Derived.Test.YtjkgmdnkejjppaaGreatDoorJQLawC
import Derived.Test.YtjkgmdnkejjppaaGreatDoorJTViewB
import Derived.Test.YtjkgmdnkejjppaaGreatDoorJOrdC
import Derived.Test.YtjkgmdnkejjppaaGreatDoorJQWalkD
import Derived.Test.YtjkgmdnkejjppaaGreatDoorGj
namespace Go.Proofs.YtjkgmdnkejjppaaGreatDoor
open Go Go.RowKit

def lenV : Value → Nat
  | .slice _ n _ => n
  | _ => 0
/-- Do the runs' marks differ there? -/
theorem nest1_any (r : TRun) (mv : Value) (d : Nat) (m : Bytes) (nd nm : Nat) (hd : d ≤ r.marks.length) (w : World) (hv : SView w mv r.marks) (h1 : w.cell? ⟨nd, 0, none⟩ = some (.int .i64 d)) (h2 : w.cell? ⟨nm, 0, none⟩ = some (.string (mk m))) :
    Calls Tryz.prog 49 (#[RunArg r mv] ++ #[.pointer (some ⟨nd, 0, none⟩), .pointer (some ⟨nm, 0, none⟩)]) w fun e w' => e = .returned (.bool (!sameAt d m r)) ∧ Below w.heap.size w w' := by
  obtain ⟨⟨a, e0, rfl⟩, hc⟩ := hv
  unfold RunArg
  obtain ⟨w1, hw1⟩ : ∃ w1, w1 = w.alloc (.cells #[.string (mk r.text), .slice a r.marks.length (r.marks.length + e0)] 46) := ⟨_, rfl⟩
  have hb1 : Below w.heap.size w w1 := by rw [hw1]; exact (Below.refl _ _).alloc (Nat.le_refl _) _
  have hN : w1.heap[w.heap.size]? = some (.cells #[.string (mk r.text), .slice a r.marks.length (r.marks.length + e0)] 46 (0, 0)) := by rw [hw1]; exact heap_alloc_new _ _
  have c1 : w1.cell? ⟨w.heap.size, 1, none⟩ = some (.slice a r.marks.length (r.marks.length + e0)) := by rw [Lib.cell_of_heap hN]; rfl
  have k1 : w1.cell? ⟨nd, 0, none⟩ = some (.int .i64 d) := (hb1.cell (p := ⟨nd, 0, none⟩) (block_lt_of_cell h1)).trans h1
  have k2 : w1.cell? ⟨nm, 0, none⟩ = some (.string (mk m)) := (hb1.cell (p := ⟨nm, 0, none⟩) (block_lt_of_cell h2)).trans h2
  have HB1 := Lib.hid hb1
  have HW1 := Lib.hid hw1
  have HC := Lib.hid hc
  clear hb1 hN hw1 h1 h2 hc
  change Calls Tryz.prog _ #[.agg #[.string (mk r.text), .slice a r.marks.length (r.marks.length + e0)], .pointer (some ⟨nd, 0, none⟩), .pointer (some ⟨nm, 0, none⟩)] w _
  by_cases hl : r.marks.length = d
  · subst hl
    have hs : sameAt r.marks.length m r = false := by unfold sameAt; rw [beq_self_eq_true]; rfl
    rw [hs]
    clear hs
    go_enter Tryz.func49, Tryz.ntmps49
    go_upto_region 1 with fail
    rw [← HW1.out]
    go_quiet (fail)
    go_wp2_with fail
    go_ret
    exact ⟨rfl, ⟨HB1.out.os, HB1.out.tape, HB1.out.output, HB1.out.size, HB1.out.block⟩⟩
  · have f1 : ((r.marks.length : Int) == (d : Int)) = false := beq_eq_false_iff_ne.2 (by omega)
    obtain ⟨x, hx⟩ : ∃ x, r.marks[d]? = some x := ⟨_, List.getElem?_eq_getElem (by omega)⟩
    obtain ⟨g, o, e1, hv, ⟨cs, hg⟩, hcell⟩ := HC.out d x hx
    obtain rfl : a = some ⟨g, o, none⟩ := by simp at hv; exact hv.1
    have k3 : w1.cell? ⟨g, o + d, none⟩ = some (.string (mk x)) := (HB1.out.cell (p := ⟨g, o + d, none⟩) (lt_of_block hg)).trans hcell
    have d0 : (0 : Int) ≤ d := by omega
    have d1 : (d : Int) < r.marks.length := by omega
    have hs : sameAt d m r = (x == m) := by
      unfold sameAt
      rw [beq_eq_false_iff_ne.2 hl, List.getD_eq_getElem?_getD, hx]; rfl
    rw [hs]
    clear hv hcell hg hx hs
    by_cases he : x = m
    · have s1 : ((mk x).toList == (mk m).toList) = true := by rw [he]; exact beq_self_eq_true _
      have s2 : (mk x).toList = (mk m).toList := by rw [he]
      have HE := Lib.hid (show (x == m) = true from beq_iff_eq.2 he)
      clear he
      rw [HE.out]
      go_enter Tryz.func49, Tryz.ntmps49
      go_upto_region 1 with fail
      rw [← HW1.out]
      go_quiet (fail)
      go_wp2_with fail
      go_ret
      exact ⟨by simp, ⟨HB1.out.os, HB1.out.tape, HB1.out.output, HB1.out.size, HB1.out.block⟩⟩
    · have s1 : ((mk x).toList == (mk m).toList) = false := beq_eq_false_iff_ne.2 (by rw [toList_mk, toList_mk]; exact he)
      have s2 : ¬ (mk x).toList = (mk m).toList := by rw [toList_mk, toList_mk]; exact he
      have HE := Lib.hid (show (x == m) = false from beq_eq_false_iff_ne.2 he)
      clear he
      rw [HE.out]
      go_enter Tryz.func49, Tryz.ntmps49
      go_upto_region 1 with fail
      rw [← HW1.out]
      go_quiet (fail)
      go_wp2_with fail
      go_ret
      exact ⟨by simp, ⟨HB1.out.os, HB1.out.tape, HB1.out.output, HB1.out.size, HB1.out.block⟩⟩

/-- What the slots of the region of the mark hold. -/
structure MP where
  lv : Value
  p0 : Value
  p1 : Value
  mv : Value
  d : Nat
  p2 : Value
  x : Bytes
def MarkF (p : MP) (i : Nat) (v : Value) : Prop := match i with
  | 0 => v = p.lv
  | 1 => v = p.p0
  | 2 => v = p.p1
  | 3 => v = p.mv
  | 4 => v = .int .i64 p.d
  | 5 => v = p.p2
  | 6 => v = .string (mk p.x)
  | _ => True
/-- What the slots of the region of the node hold. -/
structure NP where
  ov : Value
  x : Bytes
  lv : Value
  tn : Nat
  sv : Value
  d : Nat
  k : Nat
  ps : List TNode
  B : Nat
def NestF (p : NP) (i : Nat) (v : Value) (w : World) : Prop := match i with
  | 0 => v = p.ov
  | 1 => v = .string (mk p.x)
  | 2 => v = p.lv
  | 3 => v = .int .i64 p.tn
  | 4 => v = p.sv
  | 5 => v = .int .i64 p.d
  | 6 => v = .int .i64 (p.d + 1)
  | 7 => ∃ B7, p.B ≤ B7 ∧ NodeOwn p.k B7 w v p.ps
  | 8 => ∃ B7 pv, p.B ≤ B7 ∧ v = .agg #[.string (mk p.x), .slice none 0 0, .string ⟨#[]⟩, pv] ∧ NodeOwn p.k B7 w pv p.ps
  | 9 => ∃ g B7 pv, p.B ≤ B7 ∧ v = .slice (some ⟨g, 0, none⟩) 1 1 ∧ w.heap[g]? = some (.cells #[.string (mk p.x), .slice none 0 0, .string ⟨#[]⟩, pv] 44 (0, 0)) ∧ NodeOwn p.k B7 w pv p.ps
  | _ => True
theorem NestF.stay {p : NP} (i : Nat) (v : Value) (w w' : World) (h : NestF p i v w) (hb : Below w.heap.size w w') : NestF p i v w' := by
  unfold NestF at *
  split at h
  all_goals first | exact h | skip
  · obtain ⟨B7, h1, h2⟩ := h; exact ⟨B7, h1, h2.older (Older.of_below hb)⟩
  · obtain ⟨B7, pv, h1, h2, h3⟩ := h; exact ⟨B7, pv, h1, h2, h3.older (Older.of_below hb)⟩
  · obtain ⟨g, B7, pv, h1, h2, h3, h4⟩ := h; exact ⟨g, B7, pv, h1, h2, (hb.block g (lt_of_block h3)).trans h3, h4.older (Older.of_below hb)⟩
theorem drop_tw {α : Type} (p : α → Bool) : ∀ l : List α, l.drop (l.takeWhile p).length = l.dropWhile p
  | [] => rfl
  | a :: l => by
    rw [List.takeWhile_cons, List.dropWhile_cons]
    by_cases h : p a = true
    · rw [if_pos h, if_pos h]; exact drop_tw p l
    · rw [if_neg h, if_neg h]; rfl
set_option maxHeartbeats 4000000 in
set_option maxRecDepth 100000 in
theorem nest_any : ∀ (k d : Nat) (v : Value) (l : List TRun) (w : World), (∀ r ∈ l, RunIn d k r) → l.length ≤ 1000 → d + k ≤ 1000 → RView w v l →
    Calls Tryz.prog 24 #[v, .int .i64 d] w fun e w' => ∃ tv, e = .returned tv ∧ NodeOwn k w.heap.size w' tv (nestD k l d) ∧ Below w.heap.size w w' := by
  intro k
  induction k with
  | zero =>
    intro d v l w hin _ _ hv
    have hl0 : l = [] := by
      cases l with
      | nil => rfl
      | cons r l => obtain ⟨_, _, h3, h4⟩ := hin r (by simp); omega
    subst hl0
    obtain ⟨⟨a, e0, rfl⟩, -⟩ := hv
    simp only [List.length_nil]
    have HB := Lib.hid ((Below.refl w.heap.size w).alloc (Nat.le_refl _) (.cells #[.int .i64 d] 3))
    go_enter Tryz.func24, Tryz.ntmps24
    go_wp2_with fail
    go_loop [0, 5] (fun v v5 => v = .slice a 0 (0 + e0) ∧ v5 = .slice none 0 0) (fun _ _ => 0)
    case atStart => exact ⟨rfl, rfl⟩
    case round =>
      obtain ⟨rfl, rfl⟩ := hrel
      go_wp2_with fail
      go_ret
      exact ⟨_, rfl, by rw [nestD]; exact NodeOwn.nil 0 w.heap.size _, HB.out⟩
  | succ k ih =>
    intro d v l w hin hl hd hv
    obtain ⟨⟨a, e0, rfl⟩, -⟩ := id hv
    have HV := Lib.hid hv
    have HIN := Lib.hid hin
    have IH := Lib.hid ih
    clear hv hin ih
    obtain ⟨w1, hw1⟩ : ∃ w1, w1 = w.alloc (.cells #[.int .i64 d] 3) := ⟨_, rfl⟩
    have hb1 : Below w.heap.size w w1 := by rw [hw1]; exact (Below.refl _ _).alloc (Nat.le_refl _) _
    have hN : w1.heap[w.heap.size]? = some (.cells #[.int .i64 d] 3 (0, 0)) := by rw [hw1]; exact heap_alloc_new _ _
    have k1 : w1.cell? ⟨w.heap.size, 0, none⟩ = some (.int .i64 d) := by rw [Lib.cell_of_heap hN]; rfl
    have hlt1 : w.heap.size < w1.heap.size := lt_of_block hN
    have HB1 := Lib.hid hb1
    have HW1 := Lib.hid hw1
    have K1 := Lib.hid k1
    have HV1 := Lib.hid (HV.out.older (Older.of_below hb1))
    clear hb1 hw1 hN k1
    go_enter Tryz.func24, Tryz.ntmps24
    go_wp2_with fail
    rw [← HW1.out]
    go_loopw [0, 5] (fun v0 v5 wr => ∃ (Wr : World) (rest : List TRun) (T : List TNode) (ra : Option Addr) (re : Nat) (A : Option Addr) (C : Nat), Wr = wr ∧ v0 = .slice ra rest.length (rest.length + re) ∧ v5 = .slice A T.length C ∧ T.length + rest.length ≤ l.length ∧ Hid (RView w1 (.slice ra rest.length (rest.length + re)) rest) ∧ Hid (∀ r ∈ rest, RunIn d (k + 1) r) ∧ Hid (NodeOwn (k + 1) w1.heap.size Wr (.slice A T.length C) T) ∧ Hid (Below w1.heap.size w1 Wr) ∧ Hid (T ++ nestS k rest d = nestS k l d)) (fun v0 _ _ => lenV v0)
    case atStart => exact ⟨_, l, [], a, e0, none, 0, rfl, rfl, rfl, by simp, HV1, HIN, Lib.hid (NodeOwn.nil _ _ _), Lib.hid (Below.refl _ _), Lib.hid rfl⟩
    case round =>
      obtain ⟨Wr, rest, T, ra, re, A, C, rfl, rfl, rfl, hlen, HR, HI, HO, HB, HT⟩ := hrel
      cases rest with
      | nil =>
        simp only [List.length_nil]
        have hT := HT.out
        rw [nestS_nil, List.append_nil, ← nestD_S] at hT
        have HTN := Lib.hid hT
        clear hT
        go_wp2_with fail
        go_ret
        exact ⟨_, rfl, by rw [← HTN.out]; exact HO.out.mono HB1.out.size, HB1.out.trans (HB.out.mono HB1.out.size)⟩
      | cons r rest =>
        obtain ⟨g, ofs, e1, mv, hv, hg, c0, c1, hmv⟩ := (HR.out.older (Older.of_below HB.out)).head
        obtain ⟨rfl, rfl⟩ : ra = some ⟨g, ofs, none⟩ ∧ re = e1 := by simp at hv; exact ⟨hv.1, by omega⟩
        have k1 : Wr.cell? ⟨w.heap.size, 0, none⟩ = some (.int .i64 d) := (HB.out.cell (p := ⟨w.heap.size, 0, none⟩) hlt1).trans K1.out
        obtain ⟨⟨ma, me, rfl⟩, hmc⟩ := id hmv
        have HMV := Lib.hid hmv
        have hRI := HI.out r (by simp)
        have HTAIL := Lib.hid HR.out.tail
        have HI2 : Hid (∀ q ∈ rest, RunIn d (k + 1) q) := Lib.hid fun q hq => HI.out q (by simp [hq])
        have hTl : T.length + (rest.length + 1) ≤ l.length := hlen
        have n0 : (0 : Int) < (rest.length : Int) + 1 := by omega
        have n1 : (1 : Int) ≤ (rest.length : Int) + 1 := by omega
        clear hv hmv
        simp only [List.length_cons]
        by_cases hd : r.marks.length = d
        · subst hd
          go_wp2_with fail
          go_quiet (fail)
          obtain ⟨W2, hW2⟩ : ∃ W2, W2 = Wr.drewN nq := ⟨_, rfl⟩
          rw [← hW2]
          have c0' : W2.cell? ⟨g, ofs, none⟩ = some (.string (mk r.text)) := by rw [hW2]; exact c0
          have hb2 : Below Wr.heap.size Wr W2 := by rw [hW2]; exact ⟨rfl, rfl, rfl, Nat.le_refl _, fun _ _ => rfl⟩
          have HO2 := Lib.hid (HO.out.older (Older.of_below hb2))
          have HB2 := Lib.hid (HB.out.trans (hb2.mono HB.out.size))
          have hz2 : w1.heap.size ≤ W2.heap.size := HB2.out.size
          have hTl2 : T.length ≤ 1000000 := by omega
          clear hW2 hb2 c0 c1
          go_wp2_with (at_builtin; go_must (refine wpList_pushNode (by rfl) (.tmp 18) (.tmp 24) (by rfl) (k + 1) w1.heap.size _ T (tText r.text) (.slice none 0 0) (.slice none 0 0) W2 _ (by rfl) (by rfl) HO2.out (attrView_nil _) (NodeIn.nil _ _ _) W2.heap.size rfl (by rfl) hTl2 hz2 ?_); intro v' w' hown' hbl'; obtain ⟨A2, C2, hf⟩ := hown'.form; subst hf; have HOW := Lib.hid hown'; have HBL := Lib.hid (HB2.out.trans hbl'); clear hown' hbl')
          refine ⟨⟨_, rest, T ++ [tText r.text], _, re, A2, C2, rfl, rfl, by simp, by simp; omega, HTAIL, HI2, HOW, HBL, Lib.hid ?_⟩, ?_⟩
          · have h := HT.out
            rw [nestS_text _ _ _ _ rfl] at h
            rw [← h, List.append_assoc]; rfl
          · show rest.length < rest.length + 1
            omega
        · have f1 : ((r.marks.length : Int) == (d : Int)) = false := beq_eq_false_iff_ne.2 (by omega)
          have f2 : ¬ (r.marks.length : Int) = (d : Int) := by omega
          obtain ⟨x, hx⟩ : ∃ x, r.marks[d]? = some x := ⟨_, List.getElem?_eq_getElem (by have := hRI.2.2.1; omega)⟩
          obtain ⟨g2, o2, e2, hv2, ⟨cs2, hg2⟩, hcell2⟩ := hmc d x hx
          obtain ⟨rfl, rfl⟩ : ma = some ⟨g2, o2, none⟩ ∧ me = e2 := by simp at hv2; exact hv2
          have d0 : (0 : Int) ≤ d := by omega
          have d1 : (d : Int) < r.marks.length := by have := hRI.2.2.1; omega
          go_wp2_with fail
          go_quiet (fail)
          obtain ⟨W2, hW2⟩ : ∃ W2, W2 = Wr.drewN nq := ⟨_, rfl⟩
          rw [← hW2]
          have c1' : W2.cell? ⟨g, ofs + 1, none⟩ = some (.slice (some ⟨g2, o2, none⟩) r.marks.length (r.marks.length + me)) := by rw [hW2]; exact c1
          have c2' : W2.cell? ⟨g2, o2 + d, none⟩ = some (.string (mk x)) := by rw [hW2]; exact hcell2
          have k1' : W2.cell? ⟨w.heap.size, 0, none⟩ = some (.int .i64 d) := by rw [hW2]; exact k1
          have hb2 : Below Wr.heap.size Wr W2 := by rw [hW2]; exact ⟨rfl, rfl, rfl, Nat.le_refl _, fun _ _ => rfl⟩
          have hzz : W2.heap.size = Wr.heap.size := by rw [hW2]; rfl
          have HZZ := Lib.hid hzz
          have HB2 := Lib.hid hb2
          clear hW2 hb2 hzz
          go_upto_region 6 with fail
          refine wp_region_cell (by kernel_rfl) (fun i o hi => ?hac) 28 7 6 (MarkF ⟨.slice (some ⟨g, ofs, none⟩) (rest.length + 1) (rest.length + 1 + re), .pointer (some ⟨g, ofs, none⟩), .pointer (some ⟨g, ofs + 1, none⟩), .slice (some ⟨g2, o2, none⟩) r.marks.length (r.marks.length + me), d, .pointer (some ⟨g2, o2 + d, none⟩), x⟩) (.cells #[.string ⟨#[]⟩] 9) ((W2.drew.alloc (.cells #[.string ⟨#[]⟩] 9)).setCell ⟨W2.heap.size, 0, none⟩ (.string (mk x))) ?hn ?hz ?hzA (.inl (by omega)) (fun i o hi2 hi => ?hdst) (fun o hi => ?hdstA) (fun o hi => ?hdst2) (by kernel_rfl) (fun i o hi2 hi => ?hdep) (fun i o hi5 hi => ?hstep) (fun o hi => ?halloc) (fun o hi => ?hstore) (fun V => ?hend)
          case hn => rfl
          case hz => exact Nat.le_of_ble_eq_true rfl
          case hzA => exact Nat.le_of_ble_eq_true rfl
          case hac => as_aux_lemma =>
            have hlt : i < 9 := (Array.getElem?_eq_some_iff.1 hi).1
            have hw : i = 0 ∨ i = 1 ∨ i = 2 ∨ i = 3 ∨ i = 4 ∨ i = 5 ∨ i = 6 ∨ i = 7 ∨ i = 8 := by omega
            rcases hw with rfl | rfl | rfl | rfl | rfl | rfl | rfl | rfl | rfl <;> (change some _ = some o at hi; cases hi; simp)
          case hdst => as_aux_lemma =>
            have hw : i = 0 ∨ i = 1 ∨ i = 2 ∨ i = 3 ∨ i = 4 ∨ i = 5 ∨ i = 6 := by omega
            rcases hw with rfl | rfl | rfl | rfl | rfl | rfl | rfl <;> (change some _ = some o at hi; cases hi; rfl)
          case hdep => as_aux_lemma =>
            have hw : i = 0 ∨ i = 1 ∨ i = 2 ∨ i = 3 ∨ i = 4 ∨ i = 5 ∨ i = 6 := by omega
            rcases hw with rfl | rfl | rfl | rfl | rfl | rfl | rfl <;> (change some _ = some o at hi; cases hi; simp)
          case hdstA => change some _ = some o at hi; cases hi; rfl
          case hdst2 => change some _ = some o at hi; cases hi; rfl
          case halloc => as_aux_lemma =>
            intro ax K Q' hK
            change some _ = some o at hi
            cases hi
            have HK := Lib.hid hK
            clear hK
            go_simp
            exact HK.out
          case hstore => as_aux_lemma =>
            intro ax hp hdeps K Q' hK
            change some _ = some o at hi
            cases hi
            obtain ⟨v6, q6, h6⟩ := hdeps 6 (by omega)
            obtain rfl : v6 = .string (mk x) := h6
            have q6 : ax.tmps[34]? = some (.string (mk x)) := q6
            have hN := heap_alloc_new W2.drew (.cells #[.string ⟨#[]⟩] 9)
            have hNs : W2.drew.heap.size = W2.heap.size := rfl
            rw [hNs] at hN
            have cx : (W2.drew.alloc (.cells #[.string ⟨#[]⟩] 9)).cell? ⟨W2.heap.size, 0, none⟩ = some (.string ⟨#[]⟩) := by rw [Lib.cell_of_heap hN]; rfl
            have fx : (W2.drew.alloc (.cells #[.string ⟨#[]⟩] 9)).frozen? ⟨W2.heap.size, 0, none⟩ = false := Lib.frozen_of_heap hN 0
            have HK := Lib.hid hK
            clear hK hdeps hN
            generalize (W2.drew.alloc (.cells #[.string ⟨#[]⟩] 9)) = WX at *
            go_simp
            exact HK.out
          case hend =>
            simp only [fillB, Act.put, Nat.reduceAdd, List.setIfInBounds_toArray, List.set_cons_zero, List.set_cons_succ]
            obtain ⟨W3, hW3⟩ : ∃ W3, W3 = (W2.drew.alloc (.cells #[.string ⟨#[]⟩] 9)).setCell ⟨W2.heap.size, 0, none⟩ (.string (mk x)) := ⟨_, rfl⟩
            rw [← hW3]
            have hbA : Below W2.heap.size W2 (W2.drew.alloc (.cells #[.string ⟨#[]⟩] 9)) := (Below.refl _ _).drew.alloc (Nat.le_refl _) _
            have hb3 : Below W2.heap.size W2 W3 := by rw [hW3]; exact hbA.setCell (p := ⟨W2.heap.size, 0, none⟩) (Nat.le_refl _) _
            have hN3 : W3.heap[W2.heap.size]? = some (.cells #[.string (mk x)] 9 (0, 0)) := by
              have hN := heap_alloc_new W2.drew (.cells #[.string ⟨#[]⟩] 9)
              have hNs : W2.drew.heap.size = W2.heap.size := rfl
              rw [hNs] at hN
              rw [hW3]
              exact heap_setCell_at _ hN
            have n3 : W3.cell? ⟨W2.heap.size, 0, none⟩ = some (.string (mk x)) := by rw [Lib.cell_of_heap hN3]; rfl
            have k3 : W3.cell? ⟨w.heap.size, 0, none⟩ = some (.int .i64 d) := (hb3.cell (p := ⟨w.heap.size, 0, none⟩) (block_lt_of_cell k1')).trans k1'
            have HB3 := Lib.hid (HB2.out.trans (hb3.mono (by rw [HZZ.out]; exact Nat.le_refl _)))
            have HV3 := Lib.hid (HR.out.older (Older.of_below (HB.out.trans (HB3.out.mono HB.out.size))))
            have hlt3 : W2.heap.size < W3.heap.size := lt_of_block hN3
            have hcl : ∀ W q qv, q ∈ r :: rest → SView W qv q.marks → Below W3.heap.size W3 W → Calls Tryz.prog 49 (#[RunArg q qv] ++ #[.pointer (some ⟨w.heap.size, 0, none⟩), .pointer (some ⟨W2.heap.size, 0, none⟩)]) W fun e w' => e = .returned (.bool (!sameAt d x q)) ∧ Below W.heap.size W w' := fun W q qv hq hsv hb =>
              nest1_any q qv d x _ _ (HI.out q hq).2.2.1 W hsv ((hb.cell (p := ⟨w.heap.size, 0, none⟩) (block_lt_of_cell k3)).trans k3) ((hb.cell (p := ⟨W2.heap.size, 0, none⟩) (block_lt_of_cell n3)).trans n3)
            have HIF := Lib.hid (indexFuncR_any 49 #[.pointer (some ⟨w.heap.size, 0, none⟩), .pointer (some ⟨W2.heap.size, 0, none⟩)] enter_nest1 (fun q => !sameAt d x q) _ (r :: rest) (by simp; omega) W3 HV3.out hcl)
            have hxd : r.marks.getD d [] = x := by rw [List.getD_eq_getElem?_getD, hx]; rfl
            obtain ⟨tn, htn⟩ : ∃ tn, ((r :: rest).takeWhile (sameAt d x)).length = tn := ⟨_, rfl⟩
            have hidx := idxG_while (fun q => !sameAt d x q) (r :: rest)
            have hnn : (fun q => !!sameAt d x q) = sameAt d x := by funext q; simp
            simp only [hnn, htn] at hidx
            have hsr : sameAt d x r = true := by unfold sameAt; rw [beq_eq_false_iff_ne.2 hd, hxd]; simp
            have htn1 : 1 ≤ tn := by rw [← htn]; exact take_pos hsr
            have htn2 : tn ≤ rest.length + 1 := by rw [← htn]; exact (List.takeWhile_prefix (sameAt d x) (l := r :: rest)).length_le
            have hnone : (r :: rest).any (fun q => !sameAt d x q) = false → tn = rest.length + 1 := by
              intro h
              rw [List.any_eq_false] at h
              have hall : (r :: rest).takeWhile (sameAt d x) = r :: rest := by
                refine tw_all fun q hq => ?_
                simpa using h q hq
              rw [← htn, hall]; rfl
            have HN3 := Lib.hid hN3
            have HXD := Lib.hid hxd
            have HTN := Lib.hid htn
            have HTAKE : Hid ((r :: rest).take tn = (r :: rest).takeWhile (sameAt d x)) := Lib.hid (by rw [← htn]; exact (List.prefix_iff_eq_take.1 (List.takeWhile_prefix (sameAt d x))).symm)
            have HDROP : Hid ((r :: rest).drop tn = (r :: rest).dropWhile (sameAt d x)) := Lib.hid (by rw [← htn]; exact drop_tw _ _)
            have HNONE := Lib.hid hnone
            have HSR := Lib.hid hsr
            clear hW3 hb3 hN3 hcl hxd htn hnn hsr hnone hbA c1' c2' k1' c0 c1 k1 hcell2 hx hg2
            generalize hAny : (r :: rest).any (fun q => !sameAt d x q) = an at *
            generalize idxG (fun q => !sameAt d x q) (r :: rest) = ix at *
            go_wp2_with fail
            refine HIF.out.mono ?_
            rintro e w4 ⟨rfl, hb4⟩
            have HB4 := Lib.hid (HB3.out.trans (hb4.mono (by have := HB3.out.size; omega)))
            have n4 : w4.cell? ⟨W2.heap.size, 0, none⟩ = some (.string (mk x)) := (hb4.cell (p := ⟨W2.heap.size, 0, none⟩) hlt3).trans n3
            have k4 : w4.cell? ⟨w.heap.size, 0, none⟩ = some (.int .i64 d) := (hb4.cell (p := ⟨w.heap.size, 0, none⟩) (block_lt_of_cell k3)).trans k3
            have HB4W3 := Lib.hid hb4
            clear hb4 n3 k3
            go_upto_if 39 with (fail)
            go_cut [7, 38, 39] (fun v _ _ wx => v = .int .i64 tn ∧ wx = w4)
            case first =>
              clear HIF HB HB1 HB2 HB3 HB4 HO HR HV HIN IH HI HT HTAIL HI2 HMV HV3
              cases an with
              | true =>
                rw [if_pos rfl] at hidx
                subst hidx
                have t0 : ¬ (tn : Int) < 0 := by omega
                go_wp2_with fail
                go_meet
                case rel => exact ⟨rfl, rfl⟩
              | false =>
                rw [if_neg (by simp)] at hidx
                subst hidx
                have t0 := HNONE.out rfl
                subst t0
                go_wp2_with fail
                go_meet
                case rel => exact ⟨by go_num, rfl⟩
            case rest =>
              obtain ⟨rfl, hwc⟩ := hcut
              rw [hwc]
              clear hwc
              go_upto_region 10 with fail
              refine wp_region_slotsA (by kernel_rfl) (fun i o hi => ?hac2) 42 10 5 (NestF ⟨.slice A T.length C, x, .slice (some ⟨g, ofs, none⟩) (rest.length + 1) (rest.length + 1 + re), tn, .slice (some ⟨g, ofs, none⟩) tn (rest.length + 1 + re), d, k, nestD k ((r :: rest).takeWhile (sameAt d x)) (d + 1), w4.heap.size⟩) (fun v wx => ∃ A2 C2, v = .slice A2 (T.length + 1) C2 ∧ NodeOwn (k + 1) w1.heap.size wx v (T ++ [tElem x [] (nestD k ((r :: rest).takeWhile (sameAt d x)) (d + 1))]) ∧ Below w1.heap.size w1 wx) ?hn2 ?hz2 (fun i o hi2 hi => ?hdst2) (by kernel_rfl) (by kernel_rfl) NestF.stay (fun i o hi5 hi => ?hstep2) (fun o hi => ?hlast2) (fun o hi => ?hset2) (fun V wx hR => ?hend2)
              case hn2 => rfl
              case hz2 => exact Nat.le_of_ble_eq_true rfl
              case hac2 => as_aux_lemma =>
                have hlt : i < 12 := (Array.getElem?_eq_some_iff.1 hi).1
                have hw : i = 0 ∨ i = 1 ∨ i = 2 ∨ i = 3 ∨ i = 4 ∨ i = 5 ∨ i = 6 ∨ i = 7 ∨ i = 8 ∨ i = 9 ∨ i = 10 ∨ i = 11 := by omega
                rcases hw with rfl | rfl | rfl | rfl | rfl | rfl | rfl | rfl | rfl | rfl | rfl | rfl <;> (change some _ = some o at hi; cases hi; simp)
              case hdst2 => as_aux_lemma =>
                have hw : i = 0 ∨ i = 1 ∨ i = 2 ∨ i = 3 ∨ i = 4 ∨ i = 5 ∨ i = 6 ∨ i = 7 ∨ i = 8 ∨ i = 9 ∨ i = 10 := by omega
                rcases hw with rfl | rfl | rfl | rfl | rfl | rfl | rfl | rfl | rfl | rfl | rfl <;> (change some _ = some o at hi; cases hi; rfl)
              case hset2 => as_aux_lemma =>
                intro ax X v hv K Q' hK
                change some _ = some o at hi
                cases hi
                have hv : ax.tmps[52]? = some v := hv
                have HK := Lib.hid hK
                clear hK
                go_simp
                exact HK.out
              case hend2 =>
                obtain ⟨A2, C2, hv5, hown, hbx⟩ := hR
                simp only [fillB, Act.put, Nat.reduceAdd, List.setIfInBounds_toArray, List.set_cons_zero, List.set_cons_succ]
                rw [hv5] at hown ⊢
                have HOW := Lib.hid hown
                have HBX := Lib.hid hbx
                have t0 : (0 : Int) ≤ tn := by omega
                have t1 : (tn : Int) ≤ (rest.length : Int) + 1 := by omega
                clear hv5 hown hbx
                go_wp2_with fail
                have hdl : ((r :: rest).dropWhile (sameAt d x)).length = rest.length + 1 - tn := by rw [← HDROP.out, List.length_drop]; rfl
                refine ⟨⟨_, (r :: rest).dropWhile (sameAt d x), T ++ [tElem x [] (nestD k ((r :: rest).takeWhile (sameAt d x)) (d + 1))], (if rest.length + 1 + re = tn then some ⟨g, ofs, none⟩ else some ⟨g, ofs + tn * 2, none⟩), re, A2, C2, rfl, ?_, by simp, ?_, ?_, ?_, ?_, HBX, ?_⟩, ?_⟩
                · rw [hdl]
                  congr 1
                  omega
                · rw [hdl]; simp; omega
                · have h := RView.cut (l := r :: rest) HR.out tn htn2
                  rw [HDROP.out] at h
                  rw [hdl, show rest.length + 1 - tn + re = rest.length + 1 + re - tn by omega]
                  exact Lib.hid h
                · exact Lib.hid fun q hq => HI.out q ((List.dropWhile_suffix _).subset hq)
                · have h := HOW.out
                  rw [List.length_append]
                  exact Lib.hid h
                · have h := HT.out
                  rw [nestS_elem k d r rest hd (fun q hq => (HI.out q hq).2.2.1), HXD.out] at h
                  exact Lib.hid (by rw [← h, List.append_assoc]; rfl)
                · show rest.length + 1 - tn < rest.length + 1
                  omega
              case hlast2 => as_aux_lemma =>
                intro ax X hbx hrest hdeps K Q' hK
                change some _ = some o at hi
                cases hi
                obtain ⟨v0, q0, h0⟩ := hdeps 0 (by omega)
                obtain rfl : v0 = .slice A T.length C := h0
                obtain ⟨v9, q9, g9, B7, pv, hB7, rfl, hg9, hown9⟩ := hdeps 9 (by omega)
                have q0 : ax.tmps[42]? = some (.slice A T.length C) := q0
                have q9 : ax.tmps[51]? = some (.slice (some ⟨g9, 0, none⟩) 1 1) := q9
                have hBX := HB4.out.trans (hbx.mono HB4.out.size)
                have hOX := HO.out.older (Older.of_below hBX)
                have hzX : w1.heap.size ≤ X.heap.size := Nat.le_trans HB.out.size hBX.size
                refine step_pushNode rfl (.tmp 42) (.tmp 51) rfl (k + 1) w1.heap.size (.slice A T.length C) T (tElem x [] (nestD k ((r :: rest).takeWhile (sameAt d x)) (d + 1))) (.slice none 0 0) pv (by simp [Act.eval, q0]) hOX (attrView_nil _) ?_ g9 hg9 (by simp [Act.eval, q9]) (by omega) hzX ?_
                · have hB7 : w4.heap.size ≤ B7 := hB7
                  refine hown9.view.stay (fun _ _ _ => rfl) fun gx cs hp _ => ⟨⟨?_, fun e => ?_⟩, rfl⟩
                  · have hp : B7 ≤ gx := hp
                    have h1 := HB4.out.size
                    have h2 := HB.out.size
                    omega
                  · have hp : B7 ≤ gx := hp
                    have h1 := HO.out.block e
                    have h2 := HB4.out.size
                    omega
                · intro v' w' hown hb ⟨A2, C2, hv'⟩
                  exact hK _ _ ⟨A2, C2, hv', hown, (HB.out.trans (hBX.mono HB.out.size)).trans hb⟩
              case hstep2 => as_aux_lemma =>
                intro ax X hbx hrest hdeps K Q' hK
                have e0 : ax.tmps[0]? = some (.slice (some ⟨g, ofs, none⟩) (rest.length + 1) (rest.length + 1 + re)) := (hrest 0 (by omega)).trans rfl
                have e3 : ax.tmps[3]? = some (.pointer (some ⟨w.heap.size, 0, none⟩)) := (hrest 3 (by omega)).trans rfl
                have e5 : ax.tmps[5]? = some (.slice A T.length C) := (hrest 5 (by omega)).trans rfl
                have e6 : ax.tmps[6]? = some (.pointer (some ⟨W2.heap.size, 0, none⟩)) := (hrest 6 (by omega)).trans rfl
                have e7 : ax.tmps[7]? = some (.int .i64 tn) := (hrest 7 (by omega)).trans rfl
                clear hrest
                have hw : i = 0 ∨ i = 1 ∨ i = 2 ∨ i = 3 ∨ i = 4 ∨ i = 5 ∨ i = 6 ∨ i = 7 ∨ i = 8 ∨ i = 9 := by omega
                rcases hw with rfl | rfl | rfl | rfl | rfl | rfl | rfl | rfl | rfl | rfl
                · change some _ = some o at hi
                  cases hi
                  have HK := Lib.hid hK
                  clear hK hdeps
                  go_simp
                  exact HK.out _ _ (Below.refl _ _) rfl
                · change some _ = some o at hi
                  cases hi
                  have cx := (hbx.cell (p := ⟨W2.heap.size, 0, none⟩) (block_lt_of_cell n4)).trans n4
                  have HK := Lib.hid hK
                  clear hK hdeps
                  go_simp
                  exact HK.out _ _ (Below.refl _ _) rfl
                · change some _ = some o at hi
                  cases hi
                  have HK := Lib.hid hK
                  clear hK hdeps
                  go_simp
                  exact HK.out _ _ (Below.refl _ _) rfl
                · change some _ = some o at hi
                  cases hi
                  have HK := Lib.hid hK
                  clear hK hdeps
                  go_simp
                  exact HK.out _ _ (Below.refl _ _) rfl
                · change some _ = some o at hi
                  cases hi
                  obtain ⟨va, qa, ha⟩ := hdeps ⟨2, .data⟩ (by simp) rfl
                  have qa : ax.tmps[44]? = some va := qa
                  obtain rfl : va = .slice (some ⟨g, ofs, none⟩) (rest.length + 1) (rest.length + 1 + re) := ha
                  obtain ⟨vb, qb, hb⟩ := hdeps ⟨3, .data⟩ (by simp) rfl
                  have qb : ax.tmps[45]? = some vb := qb
                  obtain rfl : vb = .int .i64 tn := hb
                  have t0 : (0 : Int) ≤ tn := by omega
                  have t1 : (tn : Int) ≤ (rest.length : Int) + 1 + re := by omega
                  have HK := Lib.hid hK
                  clear hK hdeps
                  go_simp
                  exact HK.out _ _ (Below.refl _ _) rfl
                · change some _ = some o at hi
                  cases hi
                  have cx := (hbx.cell (p := ⟨w.heap.size, 0, none⟩) (block_lt_of_cell k4)).trans k4
                  have HK := Lib.hid hK
                  clear hK hdeps
                  go_simp
                  exact HK.out _ _ (Below.refl _ _) rfl
                · change some _ = some o at hi
                  cases hi
                  obtain ⟨va, qa, ha⟩ := hdeps ⟨5, .data⟩ (by simp) rfl
                  have qa : ax.tmps[47]? = some va := qa
                  obtain rfl : va = .int .i64 d := ha
                  have hw8 : IntKind.i64.wrap ((d : Int) + 1) = (d : Int) + 1 := IntWalk.i64_in _ (by omega)
                  have HK := Lib.hid hK
                  clear hK hdeps
                  go_simp
                  exact HK.out _ _ (Below.refl _ _) rfl
                · change some _ = some o at hi
                  cases hi
                  obtain ⟨va, qa, ha⟩ := hdeps ⟨4, .data⟩ (by simp) rfl
                  have qa : ax.tmps[46]? = some va := qa
                  obtain rfl : va = .slice (some ⟨g, ofs, none⟩) tn (rest.length + 1 + re) := ha
                  obtain ⟨vb, qb, hb⟩ := hdeps ⟨6, .data⟩ (by simp) rfl
                  have qb : ax.tmps[48]? = some vb := qb
                  obtain rfl : vb = .int .i64 (d + 1) := hb
                  have hvX := HV3.out.older (Older.of_below (HB4W3.out.trans (hbx.mono HB4W3.out.size)))
                  have htk := RView.take (l := r :: rest) hvX tn htn2
                  rw [HTAKE.out] at htk
                  have hcall := IH.out (d + 1) _ _ X (runIn_group (m := x) HI.out) (by rw [HTN.out]; omega) (by omega) htk
                  have HCALL := Lib.hid hcall
                  have hzX := hbx.size
                  clear hcall htk hvX
                  have HK := Lib.hid hK
                  clear hK hdeps
                  go_simp
                  refine HCALL.out.mono ?_
                  rintro e X' ⟨pv, rfl, hown, hbX⟩
                  exact HK.out _ _ hbX ⟨X.heap.size, hzX, hown⟩
                · change some _ = some o at hi
                  cases hi
                  obtain ⟨va, qa, ha⟩ := hdeps ⟨1, .data⟩ (by simp) rfl
                  have qa : ax.tmps[43]? = some va := qa
                  obtain rfl : va = .string (mk x) := ha
                  obtain ⟨vb, qb, hb⟩ := hdeps ⟨7, .data⟩ (by simp) rfl
                  have qb : ax.tmps[49]? = some vb := qb
                  obtain ⟨B7, hB7, hown⟩ := hb
                  obtain ⟨pa, pc, rfl⟩ := hown.form
                  have HOWN := Lib.hid hown
                  clear hown
                  have HK := Lib.hid hK
                  clear hK hdeps
                  go_simp
                  exact HK.out _ _ (Below.refl _ _) ⟨B7, _, hB7, rfl, HOWN.out⟩
                · change some _ = some o at hi
                  cases hi
                  obtain ⟨va, qa, ha⟩ := hdeps ⟨8, .data⟩ (by simp) rfl
                  have qa : ax.tmps[50]? = some va := qa
                  obtain ⟨B7, pv, hB7, rfl, hown⟩ := ha
                  obtain ⟨pa, pc, rfl⟩ := hown.form
                  have HOWN := Lib.hid hown
                  clear hown
                  have HK := Lib.hid hK
                  clear hK hdeps
                  go_simp
                  exact HK.out _ _ ((Below.refl _ _).alloc (Nat.le_refl _) _) ⟨X.heap.size, B7, _, hB7, rfl, heap_alloc_new X _, HOWN.out.older (Older.of_below ((Below.refl _ _).alloc (Nat.le_refl _) _))⟩
          case hstep => as_aux_lemma =>
            intro ax X hbx hrest hdeps K Q' hK
            have e0 : ax.tmps[0]? = some (.slice (some ⟨g, ofs, none⟩) (rest.length + 1) (rest.length + 1 + re)) := (hrest 0 (by omega) (by omega)).trans rfl
            have e3 : ax.tmps[3]? = some (.pointer (some ⟨w.heap.size, 0, none⟩)) := (hrest 3 (by omega) (by omega)).trans rfl
            clear hrest
            have hw : i = 0 ∨ i = 1 ∨ i = 2 ∨ i = 3 ∨ i = 4 ∨ i = 5 ∨ i = 6 := by omega
            rcases hw with rfl | rfl | rfl | rfl | rfl | rfl | rfl
            · change some _ = some o at hi
              cases hi
              have HK := Lib.hid hK
              clear hK hdeps
              go_simp
              exact HK.out _ rfl
            · change some _ = some o at hi
              cases hi
              obtain ⟨va, qa, ha⟩ := hdeps ⟨0, .data⟩ (by simp) rfl
              have qa : ax.tmps[28]? = some va := qa
              obtain rfl : va = .slice (some ⟨g, ofs, none⟩) (rest.length + 1) (rest.length + 1 + re) := ha
              have HK := Lib.hid hK
              clear hK hdeps
              go_simp
              exact HK.out _ rfl
            · change some _ = some o at hi
              cases hi
              obtain ⟨va, qa, ha⟩ := hdeps ⟨1, .data⟩ (by simp) rfl
              have qa : ax.tmps[29]? = some va := qa
              obtain rfl : va = .pointer (some ⟨g, ofs, none⟩) := ha
              have HK := Lib.hid hK
              clear hK hdeps
              go_simp
              exact HK.out _ rfl
            · change some _ = some o at hi
              cases hi
              obtain ⟨va, qa, ha⟩ := hdeps ⟨2, .data⟩ (by simp) rfl
              have qa : ax.tmps[30]? = some va := qa
              obtain rfl : va = .pointer (some ⟨g, ofs + 1, none⟩) := ha
              have cx := (hbx.cell (p := ⟨g, ofs + 1, none⟩) (block_lt_of_cell c1')).trans c1'
              have HK := Lib.hid hK
              clear hK hdeps
              go_simp
              exact HK.out _ rfl
            · change some _ = some o at hi
              cases hi
              have cx := (hbx.cell (p := ⟨w.heap.size, 0, none⟩) (block_lt_of_cell k1')).trans k1'
              have HK := Lib.hid hK
              clear hK hdeps
              go_simp
              exact HK.out _ rfl
            · change some _ = some o at hi
              cases hi
              obtain ⟨va, qa, ha⟩ := hdeps ⟨3, .data⟩ (by simp) rfl
              have qa : ax.tmps[31]? = some va := qa
              obtain rfl : va = .slice (some ⟨g2, o2, none⟩) r.marks.length (r.marks.length + me) := ha
              obtain ⟨vb, qb, hb⟩ := hdeps ⟨4, .data⟩ (by simp) rfl
              have qb : ax.tmps[32]? = some vb := qb
              obtain rfl : vb = .int .i64 d := hb
              have HK := Lib.hid hK
              clear hK hdeps
              go_simp
              exact HK.out _ rfl
            · change some _ = some o at hi
              cases hi
              obtain ⟨va, qa, ha⟩ := hdeps ⟨5, .data⟩ (by simp) rfl
              have qa : ax.tmps[33]? = some va := qa
              obtain rfl : va = .pointer (some ⟨g2, o2 + d, none⟩) := ha
              have cx := (hbx.cell (p := ⟨g2, o2 + d, none⟩) (block_lt_of_cell c2')).trans c2'
              have HK := Lib.hid hK
              clear hK hdeps
              go_simp
              exact HK.out _ rfl
end Go.Proofs.YtjkgmdnkejjppaaGreatDoor
