/- Walks of emit: slices.ContainsFunc over attributes that are seen; Attrs; odd. -/
import Derived.Test.YtemomhanchiipaaGreatDoorEWalkB
import Derived.Test.YtemomhanchiipaaGreatDoorELaw
namespace Go.Proofs.YtemomhanchiipaaGreatDoor
open Go Go.RowKit

set_option maxHeartbeats 1000000 in
set_option maxRecDepth 100000 in
theorem indexFunc_view (k : FuncId) (caps : Array Value) (he : ∀ args w, (callFunc k args).run Tryz.prog w = .ok (.enter k args) w) (pb : TAttr → Bool) (v : Value) (l : List TAttr) (hl : l.length ≤ 1000000000) (w : World) (hr : AttrView w v l)
    (hcl : ∀ W a, a ∈ l → Below w.heap.size w W → Calls Tryz.prog k (#[AttrArg a] ++ caps) W fun e w' => e = .returned (.bool (pb a)) ∧ Below W.heap.size W w') :
    Calls Tryz.prog 87 #[v, .func (.func k) #[] caps] w fun e w' => e = .returned (.int .i64 (idxI pb l)) ∧ Below w.heap.size w w' := by
  obtain ⟨a0, cap0, hv⟩ := hr.1
  have HR := Lib.hid hr
  have HCL := Lib.hid hcl
  clear hr hcl
  subst hv
  go_enter Tryz.func87, Tryz.ntmps87
  go_wp2_with fail
  go_loopg [5, 8] l.length (fun g _ v8 wx => ∃ (W : World) (i : Nat), W = wx ∧ i + g = l.length ∧ v8 = .int .i64 i ∧ Below w.heap.size w wx ∧ Hid (∀ a, a ∈ l.take i → pb a = false))
  case atStart => exact ⟨_, 0, rfl, by omega, rfl, Below.refl _ _, (by simp : ∀ a, a ∈ l.take 0 → pb a = false)⟩
  case round =>
    obtain ⟨wr, i, rfl, hg, rfl, hb, hh⟩ := hrel
    have HB := Lib.hid hb
    clear hb
    by_cases hi : i < l.length
    · obtain ⟨a, ha⟩ : ∃ a, l[i]? = some a := ⟨l[i], List.getElem?_eq_getElem hi⟩
      obtain ⟨g, cap, hv, hcap, ⟨cs, hgb⟩, hc0, hc1⟩ := HR.out.2 i a ha
      obtain ⟨rfl, rfl⟩ : a0 = some ⟨g, 0, none⟩ ∧ cap0 = cap := by injection hv with h1 h2 h3; exact ⟨h1, h3⟩
      have hglt := lt_of_block hgb
      have k0 : wr.cell? ⟨g, i * 2, none⟩ = some (.string (mk a.name)) := by rw [HB.out.cell (p := ⟨g, i * 2, none⟩) hglt]; exact hc0
      have k1 : wr.cell? ⟨g, i * 2 + 1, none⟩ = some (.string (mk a.value)) := by rw [HB.out.cell (p := ⟨g, i * 2 + 1, none⟩) hglt]; exact hc1
      have hCa := HCL.out wr a (List.mem_of_getElem? ha) HB.out
      have HA := Lib.hid ha
      clear hv hc0 hc1 ha hgb
      have HCa := Lib.hid hCa
      clear hCa
      go_wp2_with fail
      refine HCa.out.mono ?_
      rintro e w2 ⟨rfl, hb2⟩
      have HB2 := Lib.hid (HB.out.trans (hb2.mono HB.out.size))
      clear hb2
      cases hp : pb a with
      | true =>
        have hfin : idxI pb l = (i : Int) := by
          unfold idxI
          have : l.findIdx? pb = some i := by
            obtain ⟨hi', hia⟩ := List.getElem?_eq_some_iff.1 HA.out
            refine List.findIdx?_eq_some_iff_getElem.2 ⟨hi', by rw [hia]; exact hp, fun j hj => ?_⟩
            have := hh.out (l[j]'(by omega)) (by rw [List.mem_take_iff_getElem]; exact ⟨j, by omega, rfl⟩)
            simpa using this
          rw [this]
        have HF := Lib.hid hfin
        clear hfin hp
        go_wp2_with fail
        go_ret
        exact ⟨by rw [HF.out]; rfl, HB2.out⟩
      | false =>
        have HH : Hid (∀ x, x ∈ l.take (i + 1) → pb x = false) := by
          have h : ∀ x, x ∈ l.take (i + 1) → pb x = false := by
            intro x hx
            rw [List.take_add_one, HA.out] at hx
            rcases List.mem_append.1 hx with hx | hx
            · exact hh.out x hx
            · simp at hx; subst hx; exact hp
          exact h
        clear hp
        go_wp2_with fail
        go_roundg (l.length - (i + 1))
        case measure => omega
        case rel => exact ⟨_, i + 1, rfl, by omega, by go_num, HB2.out, HH⟩
    · have hfin : idxI pb l = -1 := by
        unfold idxI
        have : l.findIdx? pb = none := List.findIdx?_eq_none_iff.2 (fun x hx => hh.out x (by rw [List.take_of_length_le (by omega)]; exact hx))
        rw [this]
      have HF := Lib.hid hfin
      clear hfin
      go_wp2_with fail
      go_ret
      exact ⟨by rw [HF.out]; rfl, HB.out⟩

set_option maxHeartbeats 1000000 in
theorem containsFunc_view (k : FuncId) (caps : Array Value) (he : ∀ args w, (callFunc k args).run Tryz.prog w = .ok (.enter k args) w) (pb : TAttr → Bool) (v : Value) (l : List TAttr) (hl : l.length ≤ 1000000000) (w : World) (hr : AttrView w v l)
    (hcl : ∀ W a, a ∈ l → Below w.heap.size w W → Calls Tryz.prog k (#[AttrArg a] ++ caps) W fun e w' => e = .returned (.bool (pb a)) ∧ Below W.heap.size W w') :
    Calls Tryz.prog 67 #[v, .func (.func k) #[] caps] w fun e w' => e = .returned (.bool (l.any pb)) ∧ Below w.heap.size w w' := by
  have HI := Lib.hid (indexFunc_view k caps he pb v l hl w hr hcl)
  have HD := Lib.hid (idxI_any pb l)
  clear hr hcl he
  go_enter Tryz.func67, Tryz.ntmps67
  go_wp2_with fail
  refine HI.out.mono ?_
  rintro e w1 ⟨rfl, hb⟩
  have HB := Lib.hid hb
  clear hb
  go_wp2_with fail
  go_ret
  exact ⟨by rw [← HD.out]; rfl, HB.out⟩


/-- The first of them. -/
theorem AttrView.take {w : World} {a : Option Addr} {cap : Nat} {l : List TAttr} (h : AttrView w (.slice a l.length cap) l) {n : Nat} (hn : n ≤ l.length) : AttrView w (.slice a n cap) (l.take n) := by
  refine ⟨⟨a, cap, by rw [List.length_take, Nat.min_eq_left hn]⟩, fun i t hi => ?_⟩
  have hlt : i < n := by have := (List.getElem?_eq_some_iff.1 hi).1; rw [List.length_take] at this; omega
  rw [List.getElem?_take_of_lt hlt] at hi
  obtain ⟨g, c, hv, hc, hb, h1, h2⟩ := h.2 i t hi
  obtain ⟨rfl, rfl⟩ : a = some ⟨g, 0, none⟩ ∧ cap = c := by simpa using hv
  rw [List.length_take, Nat.min_eq_left hn]
  exact ⟨g, cap, rfl, by omega, hb, h1, h2⟩
theorem AttrView.cap_le {w : World} {a : Option Addr} {cap : Nat} {l : List TAttr} (h : AttrView w (.slice a l.length cap) l) {n : Nat} (hn : n ≤ l.length) : n ≤ cap := by
  rcases Nat.eq_zero_or_pos n with h0 | h0
  · omega
  · obtain ⟨g, c, hv, hc, _⟩ := h.2 0 _ (List.getElem?_eq_getElem (by omega))
    obtain ⟨_, rfl⟩ : a = some ⟨g, 0, none⟩ ∧ cap = c := by simpa using hv
    omega

theorem enter_attrs1 : ∀ args w, (callFunc 68 args).run Tryz.prog w = .ok (.enter 68 args) w := enters_of Tryz.func68 (by kernel_rfl) rfl
theorem enter_attrs2 : ∀ args w, (callFunc 69 args).run Tryz.prog w = .ok (.enter 69 args) w := enters_of Tryz.func69 (by kernel_rfl) rfl

theorem attrs1_any (W : World) (a : TAttr) : Calls Tryz.prog 68 (#[AttrArg a] ++ #[]) W fun e w' => e = .returned (.bool (!nameM a.name)) ∧ Below W.heap.size W w' := by
  obtain ⟨w1, hw1⟩ : ∃ w1, w1 = W.alloc (.cells #[.string (mk a.name), .string (mk a.value)] 89) := ⟨_, rfl⟩
  have hb1 : Below W.heap.size W w1 := by rw [hw1]; exact (Below.refl _ _).alloc (Nat.le_refl _) _
  have hN : w1.heap[W.heap.size]? = some (.cells #[.string (mk a.name), .string (mk a.value)] 89 (0, 0)) := by rw [hw1]; exact heap_alloc_new _ _
  have c0 : w1.cell? ⟨W.heap.size, 0, none⟩ = some (.string (mk a.name)) := by rw [Lib.cell_of_heap hN]; rfl
  have HC := Lib.hid (name_any (mk a.name) w1)
  rw [lst_mk] at HC
  have HB1 := Lib.hid hb1
  have HW1 := Lib.hid hw1
  clear hb1 hN hw1
  unfold AttrArg
  change Calls Tryz.prog _ #[.agg #[.string (mk a.name), .string (mk a.value)]] W _
  go_enter Tryz.func68, Tryz.ntmps68
  go_upto_region 1 with fail
  rw [← HW1.out]
  go_wp2_with fail
  refine HC.out.mono ?_
  rintro e w2 ⟨rfl, hb⟩
  have HB2 := Lib.hid (HB1.out.trans (hb.mono HB1.out.size))
  clear hb
  go_wp2_with fail
  go_ret
  exact ⟨rfl, HB2.out⟩

theorem attrs2_any (W : World) (a b : TAttr) (n : Nat) (hn : W.cell? ⟨n, 0, none⟩ = some (.string (mk a.name))) : Calls Tryz.prog 69 (#[AttrArg b] ++ #[.pointer (some ⟨n, 0, none⟩)]) W fun e w' => e = .returned (.bool (a.name == b.name)) ∧ Below W.heap.size W w' := by
  obtain ⟨w1, hw1⟩ : ∃ w1, w1 = W.alloc (.cells #[.string (mk b.name), .string (mk b.value)] 89) := ⟨_, rfl⟩
  have hb1 : Below W.heap.size W w1 := by rw [hw1]; exact (Below.refl _ _).alloc (Nat.le_refl _) _
  have hN : w1.heap[W.heap.size]? = some (.cells #[.string (mk b.name), .string (mk b.value)] 89 (0, 0)) := by rw [hw1]; exact heap_alloc_new _ _
  have c0 : w1.cell? ⟨W.heap.size, 0, none⟩ = some (.string (mk b.name)) := by rw [Lib.cell_of_heap hN]; rfl
  have c1 : w1.cell? ⟨n, 0, none⟩ = some (.string (mk a.name)) := (hb1.cell (p := ⟨n, 0, none⟩) (block_lt_of_cell hn)).trans hn
  have HB1 := Lib.hid hb1
  have HW1 := Lib.hid hw1
  clear hb1 hN hw1 hn
  unfold AttrArg
  change Calls Tryz.prog _ #[.agg #[.string (mk b.name), .string (mk b.value)], .pointer (some ⟨n, 0, none⟩)] W _
  by_cases he : a.name = b.name
  · have s1 : ((mk a.name).toList == (mk b.name).toList) = true := by rw [he]; exact beq_self_eq_true _
    have s2 : (mk a.name).toList = (mk b.name).toList := by rw [he]
    have HE := Lib.hid (show (a.name == b.name) = true by rw [he]; exact beq_self_eq_true _)
    clear he
    go_enter Tryz.func69, Tryz.ntmps69
    go_upto_region 1 with fail
    rw [← HW1.out]
    go_wp2_with fail
    go_ret
    exact ⟨by rw [HE.out]; rfl, HB1.out⟩
  · have s1 : ((mk a.name).toList == (mk b.name).toList) = false := beq_eq_false_iff_ne.2 (by rw [toList_mk, toList_mk]; exact he)
    have s2 : ¬ (mk a.name).toList = (mk b.name).toList := by rw [toList_mk, toList_mk]; exact he
    have HE := Lib.hid (show (a.name == b.name) = false from beq_eq_false_iff_ne.2 he)
    clear he
    go_enter Tryz.func69, Tryz.ntmps69
    go_upto_region 1 with fail
    rw [← HW1.out]
    go_wp2_with fail
    go_ret
    exact ⟨by rw [HE.out]; rfl, HB1.out⟩

set_option maxHeartbeats 2000000 in
set_option maxRecDepth 100000 in
theorem attrs_any (v : Value) (l : List TAttr) (hl : l.length ≤ 1000000) (w : World) (hv : AttrView w v l) :
    Calls Tryz.prog 49 #[v] w fun e w' => e = .returned (.int .i64 (attrsM l)) ∧ Below w.heap.size w w' := by
  have H1 := Lib.hid (containsFunc_view 68 #[] enter_attrs1 (fun a => !nameM a.name) v l (by omega) w hv (fun W a _ _ => attrs1_any W a))
  obtain ⟨ad, cap, hf⟩ := hv.1
  subst hf
  have HV := Lib.hid hv
  have HA := Lib.hid (show attrsM l = if l.any (fun a => !nameM a.name) then 5 else if 4 < l.length then 1 else if twiceM l then 8 else 0 from rfl)
  have hcap := hv.cap_le (Nat.le_refl l.length)
  clear hv
  go_enter Tryz.func49, Tryz.ntmps49
  go_wp2_with fail
  refine H1.out.mono ?_
  rintro e w1 ⟨rfl, hb⟩
  have HB1 := Lib.hid hb
  clear hb
  cases h1 : l.any (fun a => !nameM a.name) with
  | true =>
    have HR := Lib.hid (show attrsM l = 5 by rw [HA.out, h1]; rfl)
    clear h1
    go_wp2_with fail
    go_ret
    exact ⟨by rw [HR.out]; rfl, HB1.out⟩
  | false =>
    have HA2 := Lib.hid (show attrsM l = if 4 < l.length then 1 else if twiceM l then 8 else 0 by rw [HA.out, h1]; rfl)
    clear h1
    by_cases h2 : 4 < l.length
    · have b2 : (4 : Int) < l.length := by omega
      have HR := Lib.hid (show attrsM l = 1 by rw [HA2.out, if_pos h2])
      go_wp2_with fail
      go_ret
      exact ⟨by rw [HR.out]; rfl, HB1.out⟩
    · have b2 : ¬ (4 : Int) < l.length := by omega
      have HA3 := Lib.hid (show attrsM l = if twiceM l then 8 else 0 by rw [HA2.out, if_neg h2])
      go_wp2_with fail
      go_loopg [12] l.length (fun g i wx => ∃ (W : World) (k : Nat), W = wx ∧ k + g = l.length ∧ i = .int .i64 k ∧ Hid (Below w.heap.size w wx) ∧ Hid (∀ i a, i < k → l[i]? = some a → (l.take i).any (fun b => a.name == b.name) = false))
      case atStart => exact ⟨_, 0, rfl, by omega, rfl, HB1, Lib.hid (fun i a h => by omega)⟩
      case round =>
        obtain ⟨wr, k, rfl, hk, rfl, hB, hno⟩ := hrel
        by_cases hlt : k < l.length
        · obtain ⟨n, rfl⟩ : ∃ n, gk = n + 1 := ⟨gk - 1, by omega⟩
          obtain ⟨a, ha⟩ : ∃ a, l[k]? = some a := ⟨_, List.getElem?_eq_getElem hlt⟩
          have hvr := HV.out.older (.of_below hB.out)
          obtain ⟨g, c, hf, hc1, ⟨cs, hgb⟩, a1, a2⟩ := hvr.2 k a ha
          obtain ⟨rfl, rfl⟩ : ad = some ⟨g, 0, none⟩ ∧ cap = c := by simpa using hf
          obtain ⟨w2, hw2⟩ : ∃ w2, w2 = wr.alloc (.cells #[.string (mk a.name), .string (mk a.value)] 89) := ⟨_, rfl⟩
          have hb2 : Below wr.heap.size wr w2 := by rw [hw2]; exact (Below.refl _ _).alloc (Nat.le_refl _) _
          have hN : w2.heap[wr.heap.size]? = some (.cells #[.string (mk a.name), .string (mk a.value)] 89 (0, 0)) := by rw [hw2]; exact heap_alloc_new _ _
          have c0 : w2.cell? ⟨wr.heap.size, 0, none⟩ = some (.string (mk a.name)) := by rw [Lib.cell_of_heap hN]; rfl
          have hz2 : wr.heap.size < w2.heap.size := lt_of_block hN
          have HC := Lib.hid (containsFunc_view 69 #[.pointer (some ⟨wr.heap.size, 0, none⟩)] enter_attrs2 (fun b => a.name == b.name) (.slice (some ⟨g, 0, none⟩) k cap) (l.take k) (by rw [List.length_take]; omega) w2 ((hvr.older (.of_below hb2)).take (by omega))
            (fun W b _ hW => attrs2_any W a b _ ((hW.cell (p := ⟨wr.heap.size, 0, none⟩) hz2).trans c0)))
          have HB2 := Lib.hid (hB.out.trans (hb2.mono hB.out.size))
          have HW2 := Lib.hid hw2
          have HAK := Lib.hid ha
          have k0 : (0 : Int) ≤ k := by omega
          have k1 : (k : Int) < l.length := by omega
          have k2 : (k : Int) ≤ cap := by omega
          clear hf hvr hgb ha hb2 hN hw2 c0
          go_upto_region 8 with fail
          rw [← HW2.out]
          go_wp2_with fail
          refine HC.out.mono ?_
          rintro e w3 ⟨rfl, hb3⟩
          have HB3 := Lib.hid (HB2.out.trans (hb3.mono HB2.out.size))
          clear hb3
          cases hx : (l.take k).any (fun b => a.name == b.name) with
          | true =>
            have HR := Lib.hid (show attrsM l = 8 by rw [HA3.out, (twice_iff l).2 ⟨k, a, HAK.out, hx⟩]; rfl)
            clear hx
            go_wp2_with fail
            go_ret
            exact ⟨by rw [HR.out]; rfl, HB3.out⟩
          | false =>
            have HNO := Lib.hid (show ∀ i b, i < k + 1 → l[i]? = some b → (l.take i).any (fun c => b.name == c.name) = false from fun i b hi hb => by
              by_cases hik : i = k
              · subst hik; rw [HAK.out] at hb; cases hb; exact hx
              · exact hno.out i b (by omega) hb)
            clear hx
            go_wp2_with fail
            go_roundg n
            case measure => omega
            case rel => exact ⟨_, k + 1, rfl, by omega, by go_num, HB3, HNO⟩
        · obtain rfl : k = l.length := by omega
          have HR := Lib.hid (show attrsM l = 0 by
            rw [HA3.out, twice_none l (fun i a h => hno.out i a (List.getElem?_eq_some_iff.1 h).1 h)]; rfl)
          go_wp2_with fail
          go_ret
          exact ⟨by rw [HR.out]; rfl, hB.out⟩

end Go.Proofs.YtemomhanchiipaaGreatDoor
