/- Walk of the reference's SameNodes, at equal lists. -/
import Derived.Test.YtjkgmdnkejjppaaGreatDoorJRSameA
import Derived.Test.YtjkgmdnkejjppaaGreatDoorGj
import Derived.Test.YtjkgmdnkejjppaaGreatDoorGy
import Derived.Test.YtjkgmdnkejjppaaGreatDoorGn
namespace Go.Proofs.YtjkgmdnkejjppaaGreatDoor
open Go Go.RowKit

theorem countLenV : ∀ l : List TNode, l.length ≤ countL l
  | [] => by simp
  | .mk n a x ps :: l => by
    rw [countL, countN, List.length_cons]
    have := countLenV l
    omega
set_option maxHeartbeats 8000000 in
set_option maxRecDepth 100000 in
theorem refNodes_any : ∀ (d d2 : Nat) (v1 v2 : Value) (L : List TNode) (w : World), countL L ≤ 100000 → SzL L → NodeView d w v1 L → NodeView d2 w v2 L →
    Calls Tryz.prog 7 #[v1, v2] w fun e w' => e = .returned (.bool true) ∧ Below w.heap.size w w' := by
  intro d
  induction d with
  | zero =>
    intro d2 v1 v2 L w _ _ h1 h2
    obtain ⟨h0, a, cap, rfl⟩ := h1
    subst h0
    obtain ⟨b, cap2, rfl⟩ := NodeIn.form h2
    simp only [List.length_nil]
    go_enter Tryz.func7, Tryz.ntmps7
    go_wp2_with fail
    go_loop [13] (fun v => v = .int .i64 0) (fun _ => 0)
    case atStart => rfl
    case round =>
      subst hrel
      go_wp2_with fail
      go_ret
      exact ⟨rfl, Below.refl _ _⟩
  | succ d ih =>
    intro d2 v1 v2 L w hc hA h1 h2
    obtain ⟨a, cap, hf1⟩ := h1.form
    obtain ⟨b, cap2, hf2⟩ := h2.form
    subst hf1 hf2
    have H1 := Lib.hid h1
    have H2 := Lib.hid h2
    have IH := Lib.hid ih
    have HA := Lib.hid hA
    have hLl : L.length ≤ 100000 := Nat.le_trans (countLenV L) hc
    clear h1 h2 ih hA
    go_enter Tryz.func7, Tryz.ntmps7
    go_wp2_with fail
    go_loopw [13] (fun i wr => ∃ (W : World) (k : Nat), W = wr ∧ k ≤ L.length ∧ i = .int .i64 k ∧ Hid (Below w.heap.size w W)) (fun i _ => L.length - (intOf i).toNat)
    case atStart => exact ⟨_, 0, rfl, by omega, rfl, Lib.hid (Below.refl _ _)⟩
    case round =>
      obtain ⟨W, k, rfl, hk, rfl, hW⟩ := hrel
      by_cases hlt : k < L.length
      · obtain ⟨t, ht⟩ : ∃ t, L[k]? = some t := ⟨_, List.getElem?_eq_getElem hlt⟩
        obtain ⟨e, he, g, c1, av, pv, hv, _, _, _, ⟨a0, a1, a2, a3⟩, hav, hpv⟩ := (NodeIn.older H1.out (Older.of_below hW.out)).get k t ht
        obtain ⟨e2, he2, g', c2, av', pv', hv', _, _, _, ⟨b0, b1, b2, b3⟩, hav', hpv'⟩ := (NodeIn.older H2.out (Older.of_below hW.out)).get k t ht
        obtain rfl : d = e := by omega
        obtain ⟨rfl, rfl⟩ : a = some ⟨g, 0, none⟩ ∧ cap = c1 := by simp at hv; exact hv
        obtain ⟨rfl, rfl⟩ : b = some ⟨g', 0, none⟩ ∧ cap2 = c2 := by simp at hv'; exact hv'
        have hmem := List.mem_of_getElem? ht
        have haz : t.attrs.length ≤ 1000000 := by have := ((HA.out.mem t hmem).all).1.2.2.1; omega
        have hcp : countL t.parts ≤ 100000 := by
          have h9 : ∀ (l : List TNode), t ∈ l → countN t ≤ countL l := by
            intro l
            induction l with
            | nil => intro h; cases h
            | cons x l ih =>
              intro h
              rw [countL]
              rcases List.mem_cons.1 h with rfl | h
              · omega
              · have := ih h; omega
          have h8 := h9 L hmem
          obtain ⟨n, a, s, ps⟩ := t
          rw [countN] at h8
          show countL ps ≤ _
          omega
        have HSA := Lib.hid (fun X (hb : Below W.heap.size W X) => refAttrs_any av av' t.attrs haz X (hav.older (Older.of_below hb)) (hav'.older (Older.of_below hb)))
        have hpp : SzL t.parts := (HA.out.mem t hmem).all.2
        have HSN := Lib.hid (fun X (hb : Below W.heap.size W X) => IH.out e2 pv pv' t.parts X hcp hpp (NodeIn.older hpv (Older.of_below hb)) (NodeIn.older hpv' (Older.of_below hb)))
        have k0 : (0 : Int) ≤ k := by omega
        have k1 : (k : Int) < L.length := by omega
        have HLT := Lib.hid hlt
        clear hv hv' hav hav' hpv hpv' ht hmem he he2
        go_upto_region 6 with fail
        refine wp_region_free (by kernel_rfl) (fun i o hi => ?hac) (fun i => 16 + i) 52 (fun _ i v _ => v = ([.slice (some ⟨g, 0, none⟩) L.length cap, .int .i64 k, .pointer (some ⟨g, k * 4, none⟩), .pointer (some ⟨g, k * 4, none⟩), .string (mk t.name), .slice (some ⟨g', 0, none⟩) L.length cap2, .int .i64 k, .pointer (some ⟨g', k * 4, none⟩), .pointer (some ⟨g', k * 4, none⟩), .string (mk t.name), .bool false, .bool false, .slice (some ⟨g, 0, none⟩) L.length cap, .int .i64 k, .pointer (some ⟨g, k * 4, none⟩), .pointer (some ⟨g, k * 4 + 2, none⟩), .string (mk t.text), .slice (some ⟨g', 0, none⟩) L.length cap2, .int .i64 k, .pointer (some ⟨g', k * 4, none⟩), .pointer (some ⟨g', k * 4 + 2, none⟩), .string (mk t.text), .bool false, .bool false, .bool false, .slice (some ⟨g, 0, none⟩) L.length cap, .int .i64 k, .pointer (some ⟨g, k * 4, none⟩), .pointer (some ⟨g, k * 4 + 1, none⟩), av, .slice (some ⟨g', 0, none⟩) L.length cap2, .int .i64 k, .pointer (some ⟨g', k * 4, none⟩), .pointer (some ⟨g', k * 4 + 1, none⟩), av', .bool true, .bool false, .bool false, .bool false, .slice (some ⟨g, 0, none⟩) L.length cap, .int .i64 k, .pointer (some ⟨g, k * 4, none⟩), .pointer (some ⟨g, k * 4 + 3, none⟩), pv, .slice (some ⟨g', 0, none⟩) L.length cap2, .int .i64 k, .pointer (some ⟨g', k * 4, none⟩), .pointer (some ⟨g', k * 4 + 3, none⟩), pv', .bool true, .bool false, .bool false] : List Value).getD i undef) ?hn (fun i j _ _ h => by simpa using h) ?hz (fun i o hi => ?hdst) (fun i o hi52 hi => ?hstep) (fun V LL wx hL hV hb => ?hend)
        case hn => rfl
        case hz => as_aux_lemma =>
          intro i hi
          have h68 : 16 + i < 68 := by omega
          exact Nat.lt_of_lt_of_le h68 (Nat.le_of_ble_eq_true rfl)
        case hac => as_aux_lemma =>
          have hlt : i < 52 := (Array.getElem?_eq_some_iff.1 hi).1
          have hw : i = 0 ∨ i = 1 ∨ i = 2 ∨ i = 3 ∨ i = 4 ∨ i = 5 ∨ i = 6 ∨ i = 7 ∨ i = 8 ∨ i = 9 ∨ i = 10 ∨ i = 11 ∨ i = 12 ∨ i = 13 ∨ i = 14 ∨ i = 15 ∨ i = 16 ∨ i = 17 ∨ i = 18 ∨ i = 19 ∨ i = 20 ∨ i = 21 ∨ i = 22 ∨ i = 23 ∨ i = 24 ∨ i = 25 ∨ i = 26 ∨ i = 27 ∨ i = 28 ∨ i = 29 ∨ i = 30 ∨ i = 31 ∨ i = 32 ∨ i = 33 ∨ i = 34 ∨ i = 35 ∨ i = 36 ∨ i = 37 ∨ i = 38 ∨ i = 39 ∨ i = 40 ∨ i = 41 ∨ i = 42 ∨ i = 43 ∨ i = 44 ∨ i = 45 ∨ i = 46 ∨ i = 47 ∨ i = 48 ∨ i = 49 ∨ i = 50 ∨ i = 51 := by omega
          rcases hw with rfl | rfl | rfl | rfl | rfl | rfl | rfl | rfl | rfl | rfl | rfl | rfl | rfl | rfl | rfl | rfl | rfl | rfl | rfl | rfl | rfl | rfl | rfl | rfl | rfl | rfl | rfl | rfl | rfl | rfl | rfl | rfl | rfl | rfl | rfl | rfl | rfl | rfl | rfl | rfl | rfl | rfl | rfl | rfl | rfl | rfl | rfl | rfl | rfl | rfl | rfl | rfl <;> (change some _ = some o at hi; cases hi; first | (simp; done) | decide)
        case hdst => as_aux_lemma =>
          have hlt : i < 52 := (Array.getElem?_eq_some_iff.1 hi).1
          have hw : i = 0 ∨ i = 1 ∨ i = 2 ∨ i = 3 ∨ i = 4 ∨ i = 5 ∨ i = 6 ∨ i = 7 ∨ i = 8 ∨ i = 9 ∨ i = 10 ∨ i = 11 ∨ i = 12 ∨ i = 13 ∨ i = 14 ∨ i = 15 ∨ i = 16 ∨ i = 17 ∨ i = 18 ∨ i = 19 ∨ i = 20 ∨ i = 21 ∨ i = 22 ∨ i = 23 ∨ i = 24 ∨ i = 25 ∨ i = 26 ∨ i = 27 ∨ i = 28 ∨ i = 29 ∨ i = 30 ∨ i = 31 ∨ i = 32 ∨ i = 33 ∨ i = 34 ∨ i = 35 ∨ i = 36 ∨ i = 37 ∨ i = 38 ∨ i = 39 ∨ i = 40 ∨ i = 41 ∨ i = 42 ∨ i = 43 ∨ i = 44 ∨ i = 45 ∨ i = 46 ∨ i = 47 ∨ i = 48 ∨ i = 49 ∨ i = 50 ∨ i = 51 := by omega
          rcases hw with rfl | rfl | rfl | rfl | rfl | rfl | rfl | rfl | rfl | rfl | rfl | rfl | rfl | rfl | rfl | rfl | rfl | rfl | rfl | rfl | rfl | rfl | rfl | rfl | rfl | rfl | rfl | rfl | rfl | rfl | rfl | rfl | rfl | rfl | rfl | rfl | rfl | rfl | rfl | rfl | rfl | rfl | rfl | rfl | rfl | rfl | rfl | rfl | rfl | rfl | rfl | rfl <;> (change some _ = some o at hi; cases hi; rfl)
        case hend =>
          have h51 : V 51 = .bool false := hV 51 (by omega)
          simp only [fillD, Act.put, Nat.reduceAdd, List.setIfInBounds_toArray, List.set_cons_zero, List.set_cons_succ]
          rw [h51]
          have HBX := Lib.hid (hW.out.trans (hb.mono hW.out.size))
          clear h51 hV hL hb
          go_wp2_with fail
          go_roundw
          case rel => exact ⟨_, k + 1, rfl, by have := HLT.out; omega, by go_num, HBX⟩
          case measure => have := HLT.out; simp [intOf]; omega
        case hstep => as_aux_lemma =>
          intro LL ax X hCl hbx hrest hLi hdep hall K Q' hK
          have e0 : ax.tmps[0]? = some (.slice (some ⟨g, 0, none⟩) L.length cap) := (hrest 0 (fun i _ => by show 16 + i ≠ 0; omega)).trans rfl
          have e1 : ax.tmps[1]? = some (.slice (some ⟨g', 0, none⟩) L.length cap2) := (hrest 1 (fun i _ => by show 16 + i ≠ 1; omega)).trans rfl
          have e5 : ax.tmps[5]? = some (.int .i64 k) := (hrest 5 (fun i _ => by show 16 + i ≠ 5; omega)).trans rfl
          have hget : ∀ j, j < 52 → LL j = true → ax.tmps[16 + j]? = some (([.slice (some ⟨g, 0, none⟩) L.length cap, .int .i64 k, .pointer (some ⟨g, k * 4, none⟩), .pointer (some ⟨g, k * 4, none⟩), .string (mk t.name), .slice (some ⟨g', 0, none⟩) L.length cap2, .int .i64 k, .pointer (some ⟨g', k * 4, none⟩), .pointer (some ⟨g', k * 4, none⟩), .string (mk t.name), .bool false, .bool false, .slice (some ⟨g, 0, none⟩) L.length cap, .int .i64 k, .pointer (some ⟨g, k * 4, none⟩), .pointer (some ⟨g, k * 4 + 2, none⟩), .string (mk t.text), .slice (some ⟨g', 0, none⟩) L.length cap2, .int .i64 k, .pointer (some ⟨g', k * 4, none⟩), .pointer (some ⟨g', k * 4 + 2, none⟩), .string (mk t.text), .bool false, .bool false, .bool false, .slice (some ⟨g, 0, none⟩) L.length cap, .int .i64 k, .pointer (some ⟨g, k * 4, none⟩), .pointer (some ⟨g, k * 4 + 1, none⟩), av, .slice (some ⟨g', 0, none⟩) L.length cap2, .int .i64 k, .pointer (some ⟨g', k * 4, none⟩), .pointer (some ⟨g', k * 4 + 1, none⟩), av', .bool true, .bool false, .bool false, .bool false, .slice (some ⟨g, 0, none⟩) L.length cap, .int .i64 k, .pointer (some ⟨g, k * 4, none⟩), .pointer (some ⟨g, k * 4 + 3, none⟩), pv, .slice (some ⟨g', 0, none⟩) L.length cap2, .int .i64 k, .pointer (some ⟨g', k * 4, none⟩), .pointer (some ⟨g', k * 4 + 3, none⟩), pv', .bool true, .bool false, .bool false] : List Value).getD j undef) := fun j hj hl => by
            obtain ⟨u, q, hu⟩ := hall j hj hl
            rw [← hu]; exact q
          clear hrest
          have hw : i = 0 ∨ i = 1 ∨ i = 2 ∨ i = 3 ∨ i = 4 ∨ i = 5 ∨ i = 6 ∨ i = 7 ∨ i = 8 ∨ i = 9 ∨ i = 10 ∨ i = 11 ∨ i = 12 ∨ i = 13 ∨ i = 14 ∨ i = 15 ∨ i = 16 ∨ i = 17 ∨ i = 18 ∨ i = 19 ∨ i = 20 ∨ i = 21 ∨ i = 22 ∨ i = 23 ∨ i = 24 ∨ i = 25 ∨ i = 26 ∨ i = 27 ∨ i = 28 ∨ i = 29 ∨ i = 30 ∨ i = 31 ∨ i = 32 ∨ i = 33 ∨ i = 34 ∨ i = 35 ∨ i = 36 ∨ i = 37 ∨ i = 38 ∨ i = 39 ∨ i = 40 ∨ i = 41 ∨ i = 42 ∨ i = 43 ∨ i = 44 ∨ i = 45 ∨ i = 46 ∨ i = 47 ∨ i = 48 ∨ i = 49 ∨ i = 50 ∨ i = 51 := by omega
          rcases hw with rfl | rfl | rfl | rfl | rfl | rfl | rfl | rfl | rfl | rfl | rfl | rfl | rfl | rfl | rfl | rfl | rfl | rfl | rfl | rfl | rfl | rfl | rfl | rfl | rfl | rfl | rfl | rfl | rfl | rfl | rfl | rfl | rfl | rfl | rfl | rfl | rfl | rfl | rfl | rfl | rfl | rfl | rfl | rfl | rfl | rfl | rfl | rfl | rfl | rfl | rfl | rfl
          · change some _ = some o at hi
            cases hi
            have HK := Lib.hid hK
            have hzX := hbx.size
            clear hK hget hdep hCl hall a0 a1 a2 a3 b0 b1 b2 b3
            go_simp
            exact HK.out _ _ (Below.refl _ _) (fun _ _ _ _ h => h) rfl
          · change some _ = some o at hi
            cases hi
            have HK := Lib.hid hK
            have hzX := hbx.size
            clear hK hget hdep hCl hall a0 a1 a2 a3 b0 b1 b2 b3
            go_simp
            exact HK.out _ _ (Below.refl _ _) (fun _ _ _ _ h => h) rfl
          · change some _ = some o at hi
            cases hi
            have q0 : ax.tmps[16]? = some (.slice (some ⟨g, 0, none⟩) L.length cap) := hget 0 (by omega) (hdep ⟨0, .data⟩ (by simp) rfl)
            have q1 : ax.tmps[17]? = some (.int .i64 k) := hget 1 (by omega) (hdep ⟨1, .data⟩ (by simp) rfl)
            have HK := Lib.hid hK
            have hzX := hbx.size
            clear hK hget hdep hCl hall a0 a1 a2 a3 b0 b1 b2 b3
            go_simp
            exact HK.out _ _ (Below.refl _ _) (fun _ _ _ _ h => h) rfl
          · change some _ = some o at hi
            cases hi
            have q2 : ax.tmps[18]? = some (.pointer (some ⟨g, k * 4, none⟩)) := hget 2 (by omega) (hdep ⟨2, .data⟩ (by simp) rfl)
            have HK := Lib.hid hK
            have hzX := hbx.size
            clear hK hget hdep hCl hall a0 a1 a2 a3 b0 b1 b2 b3
            go_simp
            exact HK.out _ _ (Below.refl _ _) (fun _ _ _ _ h => h) rfl
          · change some _ = some o at hi
            cases hi
            have q3 : ax.tmps[19]? = some (.pointer (some ⟨g, k * 4, none⟩)) := hget 3 (by omega) (hdep ⟨3, .data⟩ (by simp) rfl)
            have cx := (hbx.cell (p := ⟨g, k * 4, none⟩) (block_lt_of_cell a0)).trans a0
            have HK := Lib.hid hK
            have hzX := hbx.size
            clear hK hget hdep hCl hall a0 a1 a2 a3 b0 b1 b2 b3
            go_simp
            exact HK.out _ _ (Below.refl _ _) (fun _ _ _ _ h => h) rfl
          · change some _ = some o at hi
            cases hi
            have HK := Lib.hid hK
            have hzX := hbx.size
            clear hK hget hdep hCl hall a0 a1 a2 a3 b0 b1 b2 b3
            go_simp
            exact HK.out _ _ (Below.refl _ _) (fun _ _ _ _ h => h) rfl
          · change some _ = some o at hi
            cases hi
            have HK := Lib.hid hK
            have hzX := hbx.size
            clear hK hget hdep hCl hall a0 a1 a2 a3 b0 b1 b2 b3
            go_simp
            exact HK.out _ _ (Below.refl _ _) (fun _ _ _ _ h => h) rfl
          · change some _ = some o at hi
            cases hi
            have q5 : ax.tmps[21]? = some (.slice (some ⟨g', 0, none⟩) L.length cap2) := hget 5 (by omega) (hdep ⟨5, .data⟩ (by simp) rfl)
            have q6 : ax.tmps[22]? = some (.int .i64 k) := hget 6 (by omega) (hdep ⟨6, .data⟩ (by simp) rfl)
            have HK := Lib.hid hK
            have hzX := hbx.size
            clear hK hget hdep hCl hall a0 a1 a2 a3 b0 b1 b2 b3
            go_simp
            exact HK.out _ _ (Below.refl _ _) (fun _ _ _ _ h => h) rfl
          · change some _ = some o at hi
            cases hi
            have q7 : ax.tmps[23]? = some (.pointer (some ⟨g', k * 4, none⟩)) := hget 7 (by omega) (hdep ⟨7, .data⟩ (by simp) rfl)
            have HK := Lib.hid hK
            have hzX := hbx.size
            clear hK hget hdep hCl hall a0 a1 a2 a3 b0 b1 b2 b3
            go_simp
            exact HK.out _ _ (Below.refl _ _) (fun _ _ _ _ h => h) rfl
          · change some _ = some o at hi
            cases hi
            have q8 : ax.tmps[24]? = some (.pointer (some ⟨g', k * 4, none⟩)) := hget 8 (by omega) (hdep ⟨8, .data⟩ (by simp) rfl)
            have cx := (hbx.cell (p := ⟨g', k * 4, none⟩) (block_lt_of_cell b0)).trans b0
            have HK := Lib.hid hK
            have hzX := hbx.size
            clear hK hget hdep hCl hall a0 a1 a2 a3 b0 b1 b2 b3
            go_simp
            exact HK.out _ _ (Below.refl _ _) (fun _ _ _ _ h => h) rfl
          · change some _ = some o at hi
            cases hi
            have q4 : ax.tmps[20]? = some (.string (mk t.name)) := hget 4 (by omega) (hdep ⟨4, .data⟩ (by simp) rfl)
            have q9 : ax.tmps[25]? = some (.string (mk t.name)) := hget 9 (by omega) (hdep ⟨9, .data⟩ (by simp) rfl)
            have HK := Lib.hid hK
            have hzX := hbx.size
            clear hK hget hdep hCl hall a0 a1 a2 a3 b0 b1 b2 b3
            go_simp
            exact HK.out _ _ (Below.refl _ _) (fun _ _ _ _ h => h) rfl
          · change some _ = some o at hi
            cases hi
            have q10 : ax.tmps[26]? = some (.bool false) := hget 10 (by omega) (hdep ⟨10, .data⟩ (by simp) rfl)
            have HK := Lib.hid hK
            have hzX := hbx.size
            clear hK hget hdep hCl hall a0 a1 a2 a3 b0 b1 b2 b3
            go_simp
            exact HK.out _ _ (Below.refl _ _) (fun _ _ _ _ h => h) rfl
          · change some _ = some o at hi
            cases hi
            have q11 : ax.tmps[27]? = some (.bool false) := hget 11 (by omega) (hdep ⟨11, .guard⟩ (by simp) rfl)
            have HK := Lib.hid hK
            have hzX := hbx.size
            clear hK hget hdep hCl hall a0 a1 a2 a3 b0 b1 b2 b3
            go_simp
            exact HK.out _ _ (Below.refl _ _) (fun _ _ _ _ h => h) rfl
          · change some _ = some o at hi
            cases hi
            have q11 : ax.tmps[27]? = some (.bool false) := hget 11 (by omega) (hdep ⟨11, .guard⟩ (by simp) rfl)
            have HK := Lib.hid hK
            have hzX := hbx.size
            clear hK hget hdep hCl hall a0 a1 a2 a3 b0 b1 b2 b3
            go_simp
            exact HK.out _ _ (Below.refl _ _) (fun _ _ _ _ h => h) rfl
          · change some _ = some o at hi
            cases hi
            have q12 : ax.tmps[28]? = some (.slice (some ⟨g, 0, none⟩) L.length cap) := hget 12 (by omega) (hdep ⟨12, .data⟩ (by simp) rfl)
            have q13 : ax.tmps[29]? = some (.int .i64 k) := hget 13 (by omega) (hdep ⟨13, .data⟩ (by simp) rfl)
            have q11 : ax.tmps[27]? = some (.bool false) := hget 11 (by omega) (hdep ⟨11, .guard⟩ (by simp) rfl)
            have HK := Lib.hid hK
            have hzX := hbx.size
            clear hK hget hdep hCl hall a0 a1 a2 a3 b0 b1 b2 b3
            go_simp
            exact HK.out _ _ (Below.refl _ _) (fun _ _ _ _ h => h) rfl
          · change some _ = some o at hi
            cases hi
            have q14 : ax.tmps[30]? = some (.pointer (some ⟨g, k * 4, none⟩)) := hget 14 (by omega) (hdep ⟨14, .data⟩ (by simp) rfl)
            have q11 : ax.tmps[27]? = some (.bool false) := hget 11 (by omega) (hdep ⟨11, .guard⟩ (by simp) rfl)
            have HK := Lib.hid hK
            have hzX := hbx.size
            clear hK hget hdep hCl hall a0 a1 a2 a3 b0 b1 b2 b3
            go_simp
            exact HK.out _ _ (Below.refl _ _) (fun _ _ _ _ h => h) rfl
          · change some _ = some o at hi
            cases hi
            have q15 : ax.tmps[31]? = some (.pointer (some ⟨g, k * 4 + 2, none⟩)) := hget 15 (by omega) (hdep ⟨15, .data⟩ (by simp) rfl)
            have q11 : ax.tmps[27]? = some (.bool false) := hget 11 (by omega) (hdep ⟨11, .guard⟩ (by simp) rfl)
            have cx := (hbx.cell (p := ⟨g, k * 4 + 2, none⟩) (block_lt_of_cell a2)).trans a2
            have HK := Lib.hid hK
            have hzX := hbx.size
            clear hK hget hdep hCl hall a0 a1 a2 a3 b0 b1 b2 b3
            go_simp
            exact HK.out _ _ (Below.refl _ _) (fun _ _ _ _ h => h) rfl
          · change some _ = some o at hi
            cases hi
            have q11 : ax.tmps[27]? = some (.bool false) := hget 11 (by omega) (hdep ⟨11, .guard⟩ (by simp) rfl)
            have HK := Lib.hid hK
            have hzX := hbx.size
            clear hK hget hdep hCl hall a0 a1 a2 a3 b0 b1 b2 b3
            go_simp
            exact HK.out _ _ (Below.refl _ _) (fun _ _ _ _ h => h) rfl
          · change some _ = some o at hi
            cases hi
            have q11 : ax.tmps[27]? = some (.bool false) := hget 11 (by omega) (hdep ⟨11, .guard⟩ (by simp) rfl)
            have HK := Lib.hid hK
            have hzX := hbx.size
            clear hK hget hdep hCl hall a0 a1 a2 a3 b0 b1 b2 b3
            go_simp
            exact HK.out _ _ (Below.refl _ _) (fun _ _ _ _ h => h) rfl
          · change some _ = some o at hi
            cases hi
            have q17 : ax.tmps[33]? = some (.slice (some ⟨g', 0, none⟩) L.length cap2) := hget 17 (by omega) (hdep ⟨17, .data⟩ (by simp) rfl)
            have q18 : ax.tmps[34]? = some (.int .i64 k) := hget 18 (by omega) (hdep ⟨18, .data⟩ (by simp) rfl)
            have q11 : ax.tmps[27]? = some (.bool false) := hget 11 (by omega) (hdep ⟨11, .guard⟩ (by simp) rfl)
            have HK := Lib.hid hK
            have hzX := hbx.size
            clear hK hget hdep hCl hall a0 a1 a2 a3 b0 b1 b2 b3
            go_simp
            exact HK.out _ _ (Below.refl _ _) (fun _ _ _ _ h => h) rfl
          · change some _ = some o at hi
            cases hi
            have q19 : ax.tmps[35]? = some (.pointer (some ⟨g', k * 4, none⟩)) := hget 19 (by omega) (hdep ⟨19, .data⟩ (by simp) rfl)
            have q11 : ax.tmps[27]? = some (.bool false) := hget 11 (by omega) (hdep ⟨11, .guard⟩ (by simp) rfl)
            have HK := Lib.hid hK
            have hzX := hbx.size
            clear hK hget hdep hCl hall a0 a1 a2 a3 b0 b1 b2 b3
            go_simp
            exact HK.out _ _ (Below.refl _ _) (fun _ _ _ _ h => h) rfl
          · change some _ = some o at hi
            cases hi
            have q20 : ax.tmps[36]? = some (.pointer (some ⟨g', k * 4 + 2, none⟩)) := hget 20 (by omega) (hdep ⟨20, .data⟩ (by simp) rfl)
            have q11 : ax.tmps[27]? = some (.bool false) := hget 11 (by omega) (hdep ⟨11, .guard⟩ (by simp) rfl)
            have cx := (hbx.cell (p := ⟨g', k * 4 + 2, none⟩) (block_lt_of_cell b2)).trans b2
            have HK := Lib.hid hK
            have hzX := hbx.size
            clear hK hget hdep hCl hall a0 a1 a2 a3 b0 b1 b2 b3
            go_simp
            exact HK.out _ _ (Below.refl _ _) (fun _ _ _ _ h => h) rfl
          · change some _ = some o at hi
            cases hi
            have q16 : ax.tmps[32]? = some (.string (mk t.text)) := hget 16 (by omega) (hdep ⟨16, .data⟩ (by simp) rfl)
            have q21 : ax.tmps[37]? = some (.string (mk t.text)) := hget 21 (by omega) (hdep ⟨21, .data⟩ (by simp) rfl)
            have q11 : ax.tmps[27]? = some (.bool false) := hget 11 (by omega) (hdep ⟨11, .guard⟩ (by simp) rfl)
            have HK := Lib.hid hK
            have hzX := hbx.size
            clear hK hget hdep hCl hall a0 a1 a2 a3 b0 b1 b2 b3
            go_simp
            exact HK.out _ _ (Below.refl _ _) (fun _ _ _ _ h => h) rfl
          · change some _ = some o at hi
            cases hi
            have q11 : ax.tmps[27]? = some (.bool false) := hget 11 (by omega) (hdep ⟨11, .data⟩ (by simp) rfl)
            have q22 : ax.tmps[38]? = some (.bool false) := hget 22 (by omega) (hdep ⟨22, .data⟩ (by simp) rfl)
            have HK := Lib.hid hK
            have hzX := hbx.size
            clear hK hget hdep hCl hall a0 a1 a2 a3 b0 b1 b2 b3
            go_simp
            exact HK.out _ _ (Below.refl _ _) (fun _ _ _ _ h => h) rfl
          · change some _ = some o at hi
            cases hi
            have q23 : ax.tmps[39]? = some (.bool false) := hget 23 (by omega) (hdep ⟨23, .data⟩ (by simp) rfl)
            have HK := Lib.hid hK
            have hzX := hbx.size
            clear hK hget hdep hCl hall a0 a1 a2 a3 b0 b1 b2 b3
            go_simp
            exact HK.out _ _ (Below.refl _ _) (fun _ _ _ _ h => h) rfl
          · change some _ = some o at hi
            cases hi
            have q24 : ax.tmps[40]? = some (.bool false) := hget 24 (by omega) (hdep ⟨24, .guard⟩ (by simp) rfl)
            have HK := Lib.hid hK
            have hzX := hbx.size
            clear hK hget hdep hCl hall a0 a1 a2 a3 b0 b1 b2 b3
            go_simp
            exact HK.out _ _ (Below.refl _ _) (fun _ _ _ _ h => h) rfl
          · change some _ = some o at hi
            cases hi
            have q24 : ax.tmps[40]? = some (.bool false) := hget 24 (by omega) (hdep ⟨24, .guard⟩ (by simp) rfl)
            have HK := Lib.hid hK
            have hzX := hbx.size
            clear hK hget hdep hCl hall a0 a1 a2 a3 b0 b1 b2 b3
            go_simp
            exact HK.out _ _ (Below.refl _ _) (fun _ _ _ _ h => h) rfl
          · change some _ = some o at hi
            cases hi
            have q25 : ax.tmps[41]? = some (.slice (some ⟨g, 0, none⟩) L.length cap) := hget 25 (by omega) (hdep ⟨25, .data⟩ (by simp) rfl)
            have q26 : ax.tmps[42]? = some (.int .i64 k) := hget 26 (by omega) (hdep ⟨26, .data⟩ (by simp) rfl)
            have q24 : ax.tmps[40]? = some (.bool false) := hget 24 (by omega) (hdep ⟨24, .guard⟩ (by simp) rfl)
            have HK := Lib.hid hK
            have hzX := hbx.size
            clear hK hget hdep hCl hall a0 a1 a2 a3 b0 b1 b2 b3
            go_simp
            exact HK.out _ _ (Below.refl _ _) (fun _ _ _ _ h => h) rfl
          · change some _ = some o at hi
            cases hi
            have q27 : ax.tmps[43]? = some (.pointer (some ⟨g, k * 4, none⟩)) := hget 27 (by omega) (hdep ⟨27, .data⟩ (by simp) rfl)
            have q24 : ax.tmps[40]? = some (.bool false) := hget 24 (by omega) (hdep ⟨24, .guard⟩ (by simp) rfl)
            have HK := Lib.hid hK
            have hzX := hbx.size
            clear hK hget hdep hCl hall a0 a1 a2 a3 b0 b1 b2 b3
            go_simp
            exact HK.out _ _ (Below.refl _ _) (fun _ _ _ _ h => h) rfl
          · change some _ = some o at hi
            cases hi
            have q28 : ax.tmps[44]? = some (.pointer (some ⟨g, k * 4 + 1, none⟩)) := hget 28 (by omega) (hdep ⟨28, .data⟩ (by simp) rfl)
            have q24 : ax.tmps[40]? = some (.bool false) := hget 24 (by omega) (hdep ⟨24, .guard⟩ (by simp) rfl)
            have cx := (hbx.cell (p := ⟨g, k * 4 + 1, none⟩) (block_lt_of_cell a1)).trans a1
            have HK := Lib.hid hK
            have hzX := hbx.size
            clear hK hget hdep hCl hall a0 a1 a2 a3 b0 b1 b2 b3
            go_simp
            exact HK.out _ _ (Below.refl _ _) (fun _ _ _ _ h => h) rfl
          · change some _ = some o at hi
            cases hi
            have q24 : ax.tmps[40]? = some (.bool false) := hget 24 (by omega) (hdep ⟨24, .guard⟩ (by simp) rfl)
            have HK := Lib.hid hK
            have hzX := hbx.size
            clear hK hget hdep hCl hall a0 a1 a2 a3 b0 b1 b2 b3
            go_simp
            exact HK.out _ _ (Below.refl _ _) (fun _ _ _ _ h => h) rfl
          · change some _ = some o at hi
            cases hi
            have q24 : ax.tmps[40]? = some (.bool false) := hget 24 (by omega) (hdep ⟨24, .guard⟩ (by simp) rfl)
            have HK := Lib.hid hK
            have hzX := hbx.size
            clear hK hget hdep hCl hall a0 a1 a2 a3 b0 b1 b2 b3
            go_simp
            exact HK.out _ _ (Below.refl _ _) (fun _ _ _ _ h => h) rfl
          · change some _ = some o at hi
            cases hi
            have q30 : ax.tmps[46]? = some (.slice (some ⟨g', 0, none⟩) L.length cap2) := hget 30 (by omega) (hdep ⟨30, .data⟩ (by simp) rfl)
            have q31 : ax.tmps[47]? = some (.int .i64 k) := hget 31 (by omega) (hdep ⟨31, .data⟩ (by simp) rfl)
            have q24 : ax.tmps[40]? = some (.bool false) := hget 24 (by omega) (hdep ⟨24, .guard⟩ (by simp) rfl)
            have HK := Lib.hid hK
            have hzX := hbx.size
            clear hK hget hdep hCl hall a0 a1 a2 a3 b0 b1 b2 b3
            go_simp
            exact HK.out _ _ (Below.refl _ _) (fun _ _ _ _ h => h) rfl
          · change some _ = some o at hi
            cases hi
            have q32 : ax.tmps[48]? = some (.pointer (some ⟨g', k * 4, none⟩)) := hget 32 (by omega) (hdep ⟨32, .data⟩ (by simp) rfl)
            have q24 : ax.tmps[40]? = some (.bool false) := hget 24 (by omega) (hdep ⟨24, .guard⟩ (by simp) rfl)
            have HK := Lib.hid hK
            have hzX := hbx.size
            clear hK hget hdep hCl hall a0 a1 a2 a3 b0 b1 b2 b3
            go_simp
            exact HK.out _ _ (Below.refl _ _) (fun _ _ _ _ h => h) rfl
          · change some _ = some o at hi
            cases hi
            have q33 : ax.tmps[49]? = some (.pointer (some ⟨g', k * 4 + 1, none⟩)) := hget 33 (by omega) (hdep ⟨33, .data⟩ (by simp) rfl)
            have q24 : ax.tmps[40]? = some (.bool false) := hget 24 (by omega) (hdep ⟨24, .guard⟩ (by simp) rfl)
            have cx := (hbx.cell (p := ⟨g', k * 4 + 1, none⟩) (block_lt_of_cell b1)).trans b1
            have HK := Lib.hid hK
            have hzX := hbx.size
            clear hK hget hdep hCl hall a0 a1 a2 a3 b0 b1 b2 b3
            go_simp
            exact HK.out _ _ (Below.refl _ _) (fun _ _ _ _ h => h) rfl
          · change some _ = some o at hi
            cases hi
            have q29 : ax.tmps[45]? = some (av) := hget 29 (by omega) (hdep ⟨29, .data⟩ (by simp) rfl)
            have q34 : ax.tmps[50]? = some (av') := hget 34 (by omega) (hdep ⟨34, .data⟩ (by simp) rfl)
            have q24 : ax.tmps[40]? = some (.bool false) := hget 24 (by omega) (hdep ⟨24, .guard⟩ (by simp) rfl)
            have HC := Lib.hid (HSA.out X hbx)
            have HK := Lib.hid hK
            have hzX := hbx.size
            clear hK hget hdep hCl hall a0 a1 a2 a3 b0 b1 b2 b3
            go_simp
            refine HC.out.mono ?_
            rintro e X' ⟨rfl, q, hX'⟩
            have hbX : Below X.heap.size X X' := by rw [hX']; exact ⟨rfl, rfl, rfl, Nat.le_refl _, fun _ _ => rfl⟩
            exact HK.out _ _ (hbX.mono hzX) (fun _ _ _ _ h => h) rfl
          · change some _ = some o at hi
            cases hi
            have q35 : ax.tmps[51]? = some (.bool true) := hget 35 (by omega) (hdep ⟨35, .data⟩ (by simp) rfl)
            have q24 : ax.tmps[40]? = some (.bool false) := hget 24 (by omega) (hdep ⟨24, .guard⟩ (by simp) rfl)
            have HK := Lib.hid hK
            have hzX := hbx.size
            clear hK hget hdep hCl hall a0 a1 a2 a3 b0 b1 b2 b3
            go_simp
            exact HK.out _ _ (Below.refl _ _) (fun _ _ _ _ h => h) rfl
          · change some _ = some o at hi
            cases hi
            have q24 : ax.tmps[40]? = some (.bool false) := hget 24 (by omega) (hdep ⟨24, .data⟩ (by simp) rfl)
            have q36 : ax.tmps[52]? = some (.bool false) := hget 36 (by omega) (hdep ⟨36, .data⟩ (by simp) rfl)
            have HK := Lib.hid hK
            have hzX := hbx.size
            clear hK hget hdep hCl hall a0 a1 a2 a3 b0 b1 b2 b3
            go_simp
            exact HK.out _ _ (Below.refl _ _) (fun _ _ _ _ h => h) rfl
          · change some _ = some o at hi
            cases hi
            have q37 : ax.tmps[53]? = some (.bool false) := hget 37 (by omega) (hdep ⟨37, .data⟩ (by simp) rfl)
            have HK := Lib.hid hK
            have hzX := hbx.size
            clear hK hget hdep hCl hall a0 a1 a2 a3 b0 b1 b2 b3
            go_simp
            exact HK.out _ _ (Below.refl _ _) (fun _ _ _ _ h => h) rfl
          · change some _ = some o at hi
            cases hi
            have q38 : ax.tmps[54]? = some (.bool false) := hget 38 (by omega) (hdep ⟨38, .guard⟩ (by simp) rfl)
            have HK := Lib.hid hK
            have hzX := hbx.size
            clear hK hget hdep hCl hall a0 a1 a2 a3 b0 b1 b2 b3
            go_simp
            exact HK.out _ _ (Below.refl _ _) (fun _ _ _ _ h => h) rfl
          · change some _ = some o at hi
            cases hi
            have q38 : ax.tmps[54]? = some (.bool false) := hget 38 (by omega) (hdep ⟨38, .guard⟩ (by simp) rfl)
            have HK := Lib.hid hK
            have hzX := hbx.size
            clear hK hget hdep hCl hall a0 a1 a2 a3 b0 b1 b2 b3
            go_simp
            exact HK.out _ _ (Below.refl _ _) (fun _ _ _ _ h => h) rfl
          · change some _ = some o at hi
            cases hi
            have q39 : ax.tmps[55]? = some (.slice (some ⟨g, 0, none⟩) L.length cap) := hget 39 (by omega) (hdep ⟨39, .data⟩ (by simp) rfl)
            have q40 : ax.tmps[56]? = some (.int .i64 k) := hget 40 (by omega) (hdep ⟨40, .data⟩ (by simp) rfl)
            have q38 : ax.tmps[54]? = some (.bool false) := hget 38 (by omega) (hdep ⟨38, .guard⟩ (by simp) rfl)
            have HK := Lib.hid hK
            have hzX := hbx.size
            clear hK hget hdep hCl hall a0 a1 a2 a3 b0 b1 b2 b3
            go_simp
            exact HK.out _ _ (Below.refl _ _) (fun _ _ _ _ h => h) rfl
          · change some _ = some o at hi
            cases hi
            have q41 : ax.tmps[57]? = some (.pointer (some ⟨g, k * 4, none⟩)) := hget 41 (by omega) (hdep ⟨41, .data⟩ (by simp) rfl)
            have q38 : ax.tmps[54]? = some (.bool false) := hget 38 (by omega) (hdep ⟨38, .guard⟩ (by simp) rfl)
            have HK := Lib.hid hK
            have hzX := hbx.size
            clear hK hget hdep hCl hall a0 a1 a2 a3 b0 b1 b2 b3
            go_simp
            exact HK.out _ _ (Below.refl _ _) (fun _ _ _ _ h => h) rfl
          · change some _ = some o at hi
            cases hi
            have q42 : ax.tmps[58]? = some (.pointer (some ⟨g, k * 4 + 3, none⟩)) := hget 42 (by omega) (hdep ⟨42, .data⟩ (by simp) rfl)
            have q38 : ax.tmps[54]? = some (.bool false) := hget 38 (by omega) (hdep ⟨38, .guard⟩ (by simp) rfl)
            have cx := (hbx.cell (p := ⟨g, k * 4 + 3, none⟩) (block_lt_of_cell a3)).trans a3
            have HK := Lib.hid hK
            have hzX := hbx.size
            clear hK hget hdep hCl hall a0 a1 a2 a3 b0 b1 b2 b3
            go_simp
            exact HK.out _ _ (Below.refl _ _) (fun _ _ _ _ h => h) rfl
          · change some _ = some o at hi
            cases hi
            have q38 : ax.tmps[54]? = some (.bool false) := hget 38 (by omega) (hdep ⟨38, .guard⟩ (by simp) rfl)
            have HK := Lib.hid hK
            have hzX := hbx.size
            clear hK hget hdep hCl hall a0 a1 a2 a3 b0 b1 b2 b3
            go_simp
            exact HK.out _ _ (Below.refl _ _) (fun _ _ _ _ h => h) rfl
          · change some _ = some o at hi
            cases hi
            have q38 : ax.tmps[54]? = some (.bool false) := hget 38 (by omega) (hdep ⟨38, .guard⟩ (by simp) rfl)
            have HK := Lib.hid hK
            have hzX := hbx.size
            clear hK hget hdep hCl hall a0 a1 a2 a3 b0 b1 b2 b3
            go_simp
            exact HK.out _ _ (Below.refl _ _) (fun _ _ _ _ h => h) rfl
          · change some _ = some o at hi
            cases hi
            have q44 : ax.tmps[60]? = some (.slice (some ⟨g', 0, none⟩) L.length cap2) := hget 44 (by omega) (hdep ⟨44, .data⟩ (by simp) rfl)
            have q45 : ax.tmps[61]? = some (.int .i64 k) := hget 45 (by omega) (hdep ⟨45, .data⟩ (by simp) rfl)
            have q38 : ax.tmps[54]? = some (.bool false) := hget 38 (by omega) (hdep ⟨38, .guard⟩ (by simp) rfl)
            have HK := Lib.hid hK
            have hzX := hbx.size
            clear hK hget hdep hCl hall a0 a1 a2 a3 b0 b1 b2 b3
            go_simp
            exact HK.out _ _ (Below.refl _ _) (fun _ _ _ _ h => h) rfl
          · change some _ = some o at hi
            cases hi
            have q46 : ax.tmps[62]? = some (.pointer (some ⟨g', k * 4, none⟩)) := hget 46 (by omega) (hdep ⟨46, .data⟩ (by simp) rfl)
            have q38 : ax.tmps[54]? = some (.bool false) := hget 38 (by omega) (hdep ⟨38, .guard⟩ (by simp) rfl)
            have HK := Lib.hid hK
            have hzX := hbx.size
            clear hK hget hdep hCl hall a0 a1 a2 a3 b0 b1 b2 b3
            go_simp
            exact HK.out _ _ (Below.refl _ _) (fun _ _ _ _ h => h) rfl
          · change some _ = some o at hi
            cases hi
            have q47 : ax.tmps[63]? = some (.pointer (some ⟨g', k * 4 + 3, none⟩)) := hget 47 (by omega) (hdep ⟨47, .data⟩ (by simp) rfl)
            have q38 : ax.tmps[54]? = some (.bool false) := hget 38 (by omega) (hdep ⟨38, .guard⟩ (by simp) rfl)
            have cx := (hbx.cell (p := ⟨g', k * 4 + 3, none⟩) (block_lt_of_cell b3)).trans b3
            have HK := Lib.hid hK
            have hzX := hbx.size
            clear hK hget hdep hCl hall a0 a1 a2 a3 b0 b1 b2 b3
            go_simp
            exact HK.out _ _ (Below.refl _ _) (fun _ _ _ _ h => h) rfl
          · change some _ = some o at hi
            cases hi
            have q43 : ax.tmps[59]? = some (pv) := hget 43 (by omega) (hdep ⟨43, .data⟩ (by simp) rfl)
            have q48 : ax.tmps[64]? = some (pv') := hget 48 (by omega) (hdep ⟨48, .data⟩ (by simp) rfl)
            have q38 : ax.tmps[54]? = some (.bool false) := hget 38 (by omega) (hdep ⟨38, .guard⟩ (by simp) rfl)
            have HC := Lib.hid (HSN.out X hbx)
            have HK := Lib.hid hK
            have hzX := hbx.size
            clear hK hget hdep hCl hall a0 a1 a2 a3 b0 b1 b2 b3
            go_simp
            refine HC.out.mono ?_
            rintro e X' ⟨rfl, hbX⟩
            exact HK.out _ _ (hbX.mono hzX) (fun _ _ _ _ h => h) rfl
          · change some _ = some o at hi
            cases hi
            have q49 : ax.tmps[65]? = some (.bool true) := hget 49 (by omega) (hdep ⟨49, .data⟩ (by simp) rfl)
            have q38 : ax.tmps[54]? = some (.bool false) := hget 38 (by omega) (hdep ⟨38, .guard⟩ (by simp) rfl)
            have HK := Lib.hid hK
            have hzX := hbx.size
            clear hK hget hdep hCl hall a0 a1 a2 a3 b0 b1 b2 b3
            go_simp
            exact HK.out _ _ (Below.refl _ _) (fun _ _ _ _ h => h) rfl
          · change some _ = some o at hi
            cases hi
            have q38 : ax.tmps[54]? = some (.bool false) := hget 38 (by omega) (hdep ⟨38, .data⟩ (by simp) rfl)
            have q50 : ax.tmps[66]? = some (.bool false) := hget 50 (by omega) (hdep ⟨50, .data⟩ (by simp) rfl)
            have HK := Lib.hid hK
            have hzX := hbx.size
            clear hK hget hdep hCl hall a0 a1 a2 a3 b0 b1 b2 b3
            go_simp
            exact HK.out _ _ (Below.refl _ _) (fun _ _ _ _ h => h) rfl
      · obtain rfl : k = L.length := by omega
        go_wp2_with fail
        go_ret
        exact ⟨rfl, hW.out⟩
end Go.Proofs.YtjkgmdnkejjppaaGreatDoor
