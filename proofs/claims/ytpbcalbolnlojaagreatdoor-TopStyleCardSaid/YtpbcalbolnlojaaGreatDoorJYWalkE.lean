/- Walk of style.Text, of declarations as they are drawn. -/
import Derived.Test.YtpbcalbolnlojaaGreatDoorJYWalkD
namespace Go.Proofs.YtpbcalbolnlojaaGreatDoor
open Go Go.RowKit

/-- A declaration in a block of its own, as a row. -/
theorem declOne (w : World) (d : TDecl) : DRow w.heap.size (w.alloc (.cells #[.string (mk d.name), .string (mk d.value)] 39)) (.slice (some ⟨w.heap.size, 0, none⟩) 1 1) [d] :=
  ⟨rfl, .inr ⟨w.heap.size, 1, _, rfl, Nat.le_refl _, heap_alloc_new _ _, Nat.le_refl 1, by decide, rfl, rfl⟩⟩
/-- What the slots of Text's test hold. -/
def TextF (t : Bytes) (d : TDecl) (i : Nat) (v : Value) (w : World) : Prop := match i with
  | 0 => v = .string (mk t)
  | 1 => ∃ B, DRow B w v [d]
  | 2 => v = .agg #[.string (mk d.name), .string (mk d.value)]
  | 3 => ∃ B, DRow B w v [d]
  | _ => v = .bool true
theorem TextF.stay {t : Bytes} {d : TDecl} (i : Nat) (v : Value) (w w' : World) (h : TextF t d i v w) (hb : Below w.heap.size w w') : TextF t d i v w' := by
  unfold TextF at *
  split at h
  all_goals first | exact h | skip
  · obtain ⟨B, h⟩ := h; exact ⟨B, h.below hb⟩
  · obtain ⟨B, h⟩ := h; exact ⟨B, h.below hb⟩

set_option maxHeartbeats 4000000 in
set_option maxRecDepth 100000 in
theorem styleText_any (B : Nat) (v : Value) (l : List TDecl) (w : World) (hg : Glob w) (h : DRow B w v l) (hin : ∀ d ∈ l, DeclIn d) (hl : l.length ≤ 8) :
    Calls Tryz.prog 7 #[v] w fun e w' => e = .returned (.tuple #[.string (mk (declsText l)), .int .i64 0]) ∧ Below w.heap.size w w' := by
  obtain ⟨A, C, hv⟩ := ownsRow_slice h
  subst hv
  have HG := Lib.hid hg
  have HV := Lib.hid h
  have HIN := Lib.hid hin
  have hlen := declsText_len l hin
  clear hg h hin
  go_enter Tryz.func7, Tryz.ntmps7
  go_wp2_with fail
  go_loopw [4, 11] (fun vo vk wr => ∃ (W : World) (k : Nat) (A' : Option Addr) (C' : Nat), W = wr ∧ vo = .slice A' k C' ∧ vk = .int .i64 k ∧ k ≤ l.length ∧ Hid (SRow w.heap.size wr (.slice A' k C') ((l.take k).map declText)) ∧ Hid (Below w.heap.size w wr)) (fun _ vk _ => l.length - (intOf vk).toNat)
  case atStart => exact ⟨_, 0, _, _, rfl, rfl, rfl, by omega, Lib.hid (SRow.nil _ _), Lib.hid (Below.refl _ _)⟩
  case round =>
    obtain ⟨W, k, A', C', rfl, rfl, rfl, hk, HO, HB⟩ := hrel
    by_cases hlt : k < l.length
    · obtain ⟨d, hd⟩ : ∃ d, l[k]? = some d := ⟨_, List.getElem?_eq_getElem hlt⟩
      obtain ⟨g, cap, hv, _, hgl, c0, c1⟩ := HV.out.get k d hd
      obtain ⟨rfl, rfl⟩ : A = some ⟨g, 0, none⟩ ∧ C = cap := by simp at hv; exact hv
      have b0 : W.cell? ⟨g, k * 2, none⟩ = some (.string (mk d.name)) := (HB.out.cell (p := ⟨g, k * 2, none⟩) hgl).trans c0
      have b1 : W.cell? ⟨g, k * 2 + 1, none⟩ = some (.string (mk d.value)) := (HB.out.cell (p := ⟨g, k * 2 + 1, none⟩) hgl).trans c1
      have HD := Lib.hid (HIN.out d (List.mem_of_getElem? hd))
      have hltI : (k : Int) < l.length := by omega
      have k0 : (0 : Int) ≤ k := by omega
      clear hv c0 c1
      obtain ⟨W1, hW1⟩ : ∃ W1, W1 = W.alloc (.cells #[.string (mk d.name), .string (mk d.value)] 39) := ⟨_, rfl⟩
      have hb1 : Below W.heap.size W W1 := by rw [hW1]; exact (Below.refl _ _).alloc (Nat.le_refl _) _
      have hn1 : W1.heap[W.heap.size]? = some (.cells #[.string (mk d.name), .string (mk d.value)] 39 (0, 0)) := by rw [hW1]; exact heap_alloc_new _ _
      have HB1 := Lib.hid (HB.out.trans (hb1.mono HB.out.size))
      have HO1 := Lib.hid (HO.out.below hb1)
      have HW1 := Lib.hid hW1.symm
      have HNM := Lib.hid (name_any (mk d.name) W1)
      rw [lst_mk, HD.out.nm] at HNM
      have hbz := lt_of_block hn1
      have HN1 := Lib.hid hn1
      clear hW1 hb1
      go_upto_region 5 with fail
      rw [HW1.out]
      have d0 : W1.cell? ⟨W.heap.size, 0, none⟩ = some (.string (mk d.name)) := by rw [Lib.cell_of_heap hn1]; rfl
      clear hn1
      go_wp2_with fail
      refine HNM.out.mono ?_
      rintro e w2 ⟨rfl, hb2⟩
      have HB2 := Lib.hid (HB1.out.trans (hb2.mono HB1.out.size))
      have HO2 := Lib.hid (HO1.out.below hb2)
      have hn2 : w2.heap[W.heap.size]? = some (.cells #[.string (mk d.name), .string (mk d.value)] 39 (0, 0)) := (hb2.block _ hbz).trans HN1.out
      have e0 : w2.cell? ⟨W.heap.size, 0, none⟩ = some (.string (mk d.name)) := by rw [Lib.cell_of_heap hn2]; rfl
      have e1 : w2.cell? ⟨W.heap.size, 1, none⟩ = some (.string (mk d.value)) := by rw [Lib.cell_of_heap hn2]; rfl
      have HN2 := Lib.hid hn2
      have hdl := HD.out.len
      have HT := Lib.hid (show mk d.name ++ ⟨#[58, 32]⟩ ++ mk d.value = mk (declText d) by rw [show (⟨#[58, 32]⟩ : ByteArray) = mk [58, 32] from rfl, mk_append, mk_append]; unfold declText; simp)
      have hz1 : ¬ 9223372036854775807 < (mk d.name).size + 2 := by rw [mk_size]; unfold declText at hdl; simp at hdl; omega
      have hz2 : ¬ 9223372036854775807 < (mk d.name).size + 2 + (mk d.value).size := by rw [mk_size, mk_size]; unfold declText at hdl; simp at hdl; omega
      have HP := Lib.hid HD.out.parse
      have HS := Lib.hid HD.out.slash
      have HG2 := Lib.hid (fun (X : World) (h : Below w2.heap.size w2 X) => HG.out.below (HB2.out.trans (h.mono HB2.out.size)) HG.out.size)
      have hbz2 := lt_of_block hn2
      clear hb2 hn2 d0
      go_upto_region 8 with fail
      rw [HT.out]
      clear HT
      obtain ⟨t, ht⟩ : ∃ t, declText d = t := ⟨_, rfl⟩
      rw [ht] at hdl HP HS
      rw [ht]
      clear e0 e1 hz1 hz2
      refine wp_region_slots (by kernel_rfl) (fun i o hi => ?hac) 25 5 (TextF t d) (fun v wx => v = .bool false ∧ Hid (Below w2.heap.size w2 wx)) ?hn ?hz (fun i o hi => ?hdst) (by kernel_rfl) TextF.stay (fun i o hi5 hi => ?hstep) (fun o hi => ?hlast) (fun V wx hR => ?hend)
      case hn => rfl
      case hz => exact Nat.le_of_ble_eq_true rfl
      case hac =>
        have hlt : i < 6 := (Array.getElem?_eq_some_iff.1 hi).1
        have hw : i = 0 ∨ i = 1 ∨ i = 2 ∨ i = 3 ∨ i = 4 ∨ i = 5 := by omega
        rcases hw with rfl | rfl | rfl | rfl | rfl | rfl <;> (change some _ = some o at hi; cases hi; simp)
      case hdst =>
        have hlt : i < 6 := (Array.getElem?_eq_some_iff.1 hi).1
        have hw : i = 0 ∨ i = 1 ∨ i = 2 ∨ i = 3 ∨ i = 4 ∨ i = 5 := by omega
        rcases hw with rfl | rfl | rfl | rfl | rfl | rfl <;> (change some _ = some o at hi; cases hi; rfl)
      case hend =>
        obtain ⟨hv5, hbx⟩ := hR
        simp only [fillB, Act.put, Nat.reduceAdd, List.setIfInBounds_toArray, List.set_cons_zero, List.set_cons_succ]
        rw [hv5]
        clear hv5
        have HBX := Lib.hid (HB2.out.trans (hbx.out.mono HB2.out.size))
        have HOX := Lib.hid ((HO2.out.below hbx.out).below ((Below.refl _ _).alloc (Nat.le_refl _) (.cells #[.string (mk t)] 9)))
        have HBY := Lib.hid (HBX.out.alloc HBX.out.size (.cells #[.string (mk t)] 9))
        have HNX := Lib.hid (heap_alloc_new wx (.cells #[.string (mk t)] 9))
        have hzX : w.heap.size ≤ (wx.alloc (.cells #[.string (mk t)] 9)).heap.size := HBY.out.size
        have hlk : ((l.take k).map declText).length = k := by rw [List.length_map, List.length_take]; omega
        have HSN := Lib.hid (show (l.take (k + 1)).map declText = (l.take k).map declText ++ [t] by rw [List.take_add_one, hd]; simp [ht])
        go_wp2_with (at_builtin; refine wpList_row1 Tryz.underlying46 infoStr rfl (by decide) (by decide) (by rfl) (.tmp 31) (.tmp 33) (by rfl) w.heap.size _ k _ wx.heap.size #[.string (mk t)] (by rfl) (by rfl) (by have h9 := HOX.out; unfold SRow at h9; rw [hlk] at h9; exact h9) HNX.out rfl (by simp [Value.oneCell']) (by omega) hzX ?_; intro A2 C2 w10 hown hgr; have HB10 := Lib.hid (HBY.out.trans (row_grown_below hgr (by have h9 := HOX.out; unfold SRow at h9; exact h9) hzX)); have HO10 := Lib.hid hown; clear hown hgr)
        go_roundw
        case rel => exact ⟨_, k + 1, A2, C2, rfl, rfl, by go_num, by omega, Lib.hid (by unfold SRow; rw [HSN.out, List.length_append, hlk, List.map_append]; exact HO10.out), HB10⟩
        case measure => simp [intOf]; omega
      case hlast =>
        intro ax X hbx hrest hdeps K Q' hK
        change some _ = some o at hi
        cases hi
        obtain ⟨v4, q4, hv4⟩ := hdeps 4 (by omega)
        have q4 : ax.tmps[29]? = some v4 := q4
        obtain rfl : v4 = .bool true := hv4
        have HK := Lib.hid hK
        have HBX := Lib.hid hbx
        clear hK hdeps hbx
        go_simp
        exact HK.out _ _ ⟨rfl, HBX⟩
      case hstep =>
        intro ax X hbx hrest hdeps K Q' hK
        have e6 : ax.tmps[6]? = some (.pointer (some ⟨W.heap.size, 0, none⟩)) := (hrest 6 (by omega)).trans rfl
        have e7 : ax.tmps[7]? = some (.string (mk t)) := (hrest 7 (by omega)).trans rfl
        have hw : i = 0 ∨ i = 1 ∨ i = 2 ∨ i = 3 ∨ i = 4 := by omega
        rcases hw with rfl | rfl | rfl | rfl | rfl
        · change some _ = some o at hi
          cases hi
          have HK := Lib.hid hK
          clear hK hdeps
          go_simp
          exact HK.out _ _ (Below.refl _ _) rfl
        · change some _ = some o at hi
          cases hi
          obtain ⟨v0, q0, hv0⟩ := hdeps ⟨0, .data⟩ (by simp) rfl
          have q0 : ax.tmps[25]? = some v0 := q0
          obtain rfl : v0 = .string (mk t) := hv0
          have HK := Lib.hid hK
          have HC := Lib.hid (parse_style (mk t) X (HG2.out X hbx) (by rw [mk_size]; omega) (by rw [lst_mk]; exact HS.out))
          rw [lst_mk, HP.out] at HC
          clear hK hdeps
          go_simp
          refine HC.out.mono ?_
          rintro e X' ⟨v, rfl, hd, hb⟩
          exact HK.out _ _ hb ⟨_, hd⟩
        · change some _ = some o at hi
          cases hi
          have hnX : X.heap[W.heap.size]? = some (.cells #[.string (mk d.name), .string (mk d.value)] 39 (0, 0)) := (hbx.block _ hbz2).trans HN2.out
          have f0 : X.cell? ⟨W.heap.size, 0, none⟩ = some (.string (mk d.name)) := by rw [Lib.cell_of_heap hnX]; rfl
          have f1 : X.cell? ⟨W.heap.size, 1, none⟩ = some (.string (mk d.value)) := by rw [Lib.cell_of_heap hnX]; rfl
          have HK := Lib.hid hK
          clear hK hdeps hnX
          go_simp
          exact HK.out _ _ (Below.refl _ _) rfl
        · change some _ = some o at hi
          cases hi
          obtain ⟨v0, q0, hv0⟩ := hdeps ⟨2, .data⟩ (by simp) rfl
          have q0 : ax.tmps[27]? = some v0 := q0
          obtain rfl : v0 = .agg #[.string (mk d.name), .string (mk d.value)] := hv0
          have HK := Lib.hid hK
          clear hK hdeps
          go_simp
          exact HK.out _ _ ((Below.refl _ _).alloc (Nat.le_refl _) _) ⟨_, declOne X d⟩
        · change some _ = some o at hi
          cases hi
          obtain ⟨v1, q1, B1, hd1⟩ := hdeps ⟨1, .data⟩ (by simp) rfl
          obtain ⟨v3, q3, B3, hd3⟩ := hdeps ⟨3, .data⟩ (by simp) rfl
          have q1 : ax.tmps[26]? = some v1 := q1
          have q3 : ax.tmps[28]? = some v3 := q3
          have HK := Lib.hid hK
          have HC := Lib.hid (equal_one B1 B3 v1 v3 d X hd1 hd3)
          clear hK hdeps hd1 hd3
          go_simp
          refine HC.out.mono ?_
          rintro e X' ⟨rfl, hb⟩
          exact HK.out _ _ hb rfl
    · obtain rfl : k = l.length := by omega
      have hlk : ((l.take l.length).map declText).length = l.length := by rw [List.take_length, List.length_map]
      have HJ := Lib.hid (join_any w.heap.size (.slice A' l.length C') ((l.take l.length).map declText) W HO.out (by rw [hlk]; omega) (fun p hp => by
        rw [List.take_length] at hp
        obtain ⟨d, hd, rfl⟩ := List.mem_map.1 hp
        have := (HIN.out d hd).len; omega))
      have HE := Lib.hid (show Lib.join ((l.take l.length).map declText) [59, 32] = declsText l by rw [List.take_length]; rfl)
      have hz6 : (mk (declsText l)).size ≤ 600 := by rw [mk_size]; omega
      have hz7 : ¬ 600 < (mk (declsText l)).size := by omega
      go_wp2_with fail
      refine HJ.out.mono ?_
      rintro e w5 ⟨rfl, hb5⟩
      rw [HE.out]
      have HB5 := Lib.hid (HB.out.trans (hb5.mono HB.out.size))
      clear hb5
      go_wp2_with fail
      exact bodyPost_ret (v := .tuple #[.string (mk (declsText l)), .int .i64 0]) (by simp [results, Tryz.results7, go_sem]) rfl ⟨rfl, HB5.out⟩
end Go.Proofs.YtpbcalbolnlojaaGreatDoor
