/- Walk of the keep's helper: Tokens. -/
import Derived.Test.YtalijabcedajaaaGreatDoorGp
import Derived.Test.YtalijabcedajaaaGreatDoorGh
import Derived.Test.YtalijabcedajaaaGreatDoorJTWalkD
namespace Go.Proofs.YtalijabcedajaaaGreatDoor
open Go Go.RowKit

theorem tokOneB (B : Nat) (w : World) (t : TTok) (av : Value) (hav : AttrView w av t.attrs) (hB : B ≤ w.heap.size) :
    TokOwn B (w.alloc (.cells #[.int .i64 t.kind, .string (mk t.name), av, .bool t.self, .string (mk t.text)] 33)) (.slice (some ⟨w.heap.size, 0, none⟩) 1 1) [t] := by
  have h := heap_alloc_new w (.cells #[.int .i64 t.kind, .string (mk t.name), av, .bool t.self, .string (mk t.text)] 33)
  have hb := (Below.refl w.heap.size w).alloc (Nat.le_refl _) (.cells #[.int .i64 t.kind, .string (mk t.name), av, .bool t.self, .string (mk t.text)] 33)
  refine ⟨[(t, av)], rfl, ⟨rfl, .inr ⟨w.heap.size, 1, _, rfl, hB, h, Nat.le_refl 1, by decide, rfl, rfl⟩⟩, fun p hp => ?_⟩
  cases List.mem_singleton.1 hp
  exact hav.older (.of_below hb)
theorem attrNoneB (w : World) : AttrView w (.slice none 0 0) [] := ⟨⟨_, _, rfl⟩, fun i t hi => by simp at hi⟩

theorem picked_nat (a : Int) (N : Nat) (w : World) (h0 : 0 < N) (h1 : N ≤ 1000000) :
    Calls Tryz.prog 24 #[.int .i64 a, .int .i64 N] w fun e w' => ∃ r : Nat, r < N ∧ e = .returned (.int .i64 r) ∧ w = w' := by
  refine (picked_any a N w (by omega) (by omega)).mono fun e w' ⟨he, hw⟩ => ?_
  have h2 := Int.emod_nonneg a (show (N : Int) ≠ 0 by omega)
  have h3 := Int.emod_lt_of_pos a (show (0 : Int) < N by omega)
  exact ⟨(a % N).toNat, by omega, by rw [he, Int.toNat_of_nonneg h2], hw⟩

set_option maxHeartbeats 8000000 in
set_option maxRecDepth 100000 in
theorem tokens_any (v : Value) (l : List Int) (n : Nat) (hn : n ≤ 100) (w : World) (h : IntRow w v l) :
    Calls Tryz.prog 7 #[v, .int .i64 n] w fun e w' => ∃ tv L, e = .returned tv ∧ TokOwn w.heap.size w' tv L ∧ GoodToks L ∧ L.length ≤ n ∧ Below w.heap.size w w' := by
  obtain ⟨⟨a, cap, rfl⟩, hl, hc⟩ := h
  unfold maxLen at hl
  have HC := Lib.hid hc
  clear hc
  go_enter Tryz.func7, Tryz.ntmps7
  go_wp2_with fail
  go_loopg [5, 6] l.length (fun g o i wx => ∃ (W : World) (k : Nat) (L : List TTok), W = wx ∧ k + g = l.length ∧ i = .int .i64 k ∧ Hid (TokOwn w.heap.size wx o L) ∧ Hid (GoodToks L) ∧ L.length ≤ n ∧ Hid (Below w.heap.size w wx))
  case atStart => exact ⟨_, 0, [], rfl, by omega, rfl, Lib.hid (TokOwn.nil _ _), Lib.hid GoodToks.nil, by simp, Lib.hid (Below.refl _ _)⟩
  case round =>
    obtain ⟨W, k, L, rfl, hk, rfl, hO, hG, hLn, hB⟩ := hrel
    obtain ⟨oa, oc, hof⟩ := hO.out.view.form
    subst hof
    have hLz : L.length ≤ 1000000 := by omega
    by_cases hlt : k < l.length ∧ L.length < n
    · obtain ⟨m, rfl⟩ : ∃ m, gk = m + 1 := ⟨gk - 1, by omega⟩
      obtain ⟨h1, h2⟩ := hlt
      obtain ⟨x, hx⟩ : ∃ x, l[k]? = some x := ⟨_, List.getElem?_eq_getElem h1⟩
      obtain ⟨_, b, off, c, hv, hbl, hcell⟩ := HC.out k x hx
      obtain rfl : a = some ⟨b, off, none⟩ := by simp at hv; exact hv.1
      have hcell2 : W.cell? ⟨b, off + k, none⟩ = some (.int .i64 x) := by rw [hB.out.cell (p := ⟨b, off + k, none⟩) hbl]; exact hcell
      have k0 : (0 : Int) ≤ k := by omega
      have k1 : (k : Int) < l.length := by omega
      have k2 : (L.length : Int) < n := by omega
      clear hv hcell hx
      go_upto_region 6 with fail
      have htb := fun r p (hp : names5[r]? = some p) => table_cell names5_v W 9 hp
      have hall := (Below.refl W.heap.size W).alloc (Nat.le_refl _) (.cells names5V 9)
      go_wp2_with (go_at_call 24; refine (picked_nat _ 5 _ (by decide) (by decide)).mono ?_)
      rintro e w2 ⟨r, hr, rfl, hw⟩
      rw [hw] at htb hall
      obtain ⟨nm, hnm⟩ : ∃ nm, names5[r]? = some nm := ⟨_, List.getElem?_eq_getElem (show r < names5.length from hr)⟩
      have ht0 := htb r nm hnm
      have HNM := Lib.hid (List.mem_of_getElem? hnm)
      have r0 : (0 : Int) ≤ r := by omega
      have r1 : (r : Int) < 5 := by omega
      have HW2 := Lib.hid hall
      clear hw htb hall hnm hcell2
      obtain ⟨w3, hw3⟩ : ∃ w3, w3 = w2.alloc (.cells #[.int .i64 1, .string (mk nm), .slice none 0 0, .bool false, .string ⟨#[]⟩] 33) := ⟨_, rfl⟩
      have hb3 : Below w2.heap.size w2 w3 := by rw [hw3]; exact (Below.refl _ _).alloc (Nat.le_refl _) _
      have hbox3 : TokBox w3 w2.heap.size ⟨1, nm, [], false, []⟩ (.slice none 0 0) := by rw [hw3]; exact heap_alloc_new _ _
      have HB3 := Lib.hid (HW2.out.trans (hb3.mono HW2.out.size))
      have HBOX3 := Lib.hid hbox3
      have hz2 : W.heap.size ≤ w2.heap.size := HW2.out.size
      have HW3 := Lib.hid hw3
      clear hw3 hb3 hbox3
      go_upto_region 7 with fail
      rw [← HW3.out]
      go_wp2_with (go_at_call 24; refine (picked_nat _ 4 _ (by decide) (by decide)).mono ?_)
      rintro e w3' ⟨q, hq, rfl, hw⟩
      rw [← hw]
      clear hw w3'
      obtain ⟨t0, t1, t2, t3, t4, tz⟩ := HBOX3.out.cells
      have tf := fun o => Lib.frozen_of_heap HBOX3.out o
      have hq4 : q = 0 ∨ q = 1 ∨ q = 2 ∨ q = 3 := by omega
      rcases hq4 with rfl | rfl | rfl | rfl
      · -- an end
        have tf0 := tf 0
        clear tf
        obtain ⟨w4, hw4⟩ : ∃ w4, w4 = w3.setCell ⟨w2.heap.size, 0, none⟩ (.int .i64 2) := ⟨_, rfl⟩
        have hb4 : Below W.heap.size W w4 := by rw [hw4]; exact HB3.out.setCell (p := ⟨w2.heap.size, 0, none⟩) hz2 _
        have hbox4 : TokBox w4 w2.heap.size ⟨2, nm, [], false, []⟩ (.slice none 0 0) := by
          unfold TokBox
          have hx := HBOX3.out
          unfold TokBox at hx
          rw [hw4]
          simp [World.setCell, Array.getElem?_modify, hx]
        have HBOX4 := Lib.hid hbox4
        have HB4 := Lib.hid hb4
        have HW4 := Lib.hid hw4
        clear hw4 hbox4 hb4
        go_upto_region 20 with fail
        rw [← HW4.out]
        clear t0 t1 t2 t3 t4 tz tf0
        obtain ⟨t0, t1, t2, t3, t4, tz⟩ := HBOX4.out.cells
        have hOA := hO.out.older (.of_below HB4.out)
        have hbaA := (Below.refl w4.heap.size w4).alloc (Nat.le_refl _) (.cells #[.int .i64 2, .string (mk nm), .slice none 0 0, .bool false, .string ⟨#[]⟩] 33)
        have HOAA := Lib.hid (hOA.older (.of_below hbaA))
        have HVAA := Lib.hid (tokOneB w4.heap.size w4 ⟨2, nm, [], false, []⟩ (.slice none 0 0) (attrNoneB _) (Nat.le_refl _)).view
        have HBAA := Lib.hid (hB.out.trans ((HB4.out).mono hB.out.size |>.trans (hbaA.mono (Nat.le_trans hB.out.size HB4.out.size))))
        have hzAA := HBAA.out.size
        have HGA := Lib.hid (hG.out.snoc (.stop nm HNM.out) (fun h => by cases h))
        clear hOA hbaA
        go_wp2_with (at_builtin; refine wpList_append_toks (by rfl) (.tmp 93) (.tmp 95) (by rfl) w.heap.size _ _ L [⟨2, nm, [], false, []⟩] (by rfl) (by rfl) HOAA.out HVAA.out hLz (by simp) hzAA ?_; intro v6 w6 hown6 hgr6; have HO6 := Lib.hid hown6; have HB6 := Lib.hid (HBAA.out.trans (grown_below hgr6 HOAA.out hzAA)); clear hown6 hgr6)
        go_roundg m
        case measure => omega
        case rel => exact ⟨_, k + 1, L ++ [⟨2, nm, [], false, []⟩], rfl, by omega, by go_num, HO6, HGA, by rw [List.length_append]; simp; omega, HB6⟩
      · -- a text
        rcases Nat.eq_zero_or_pos L.length with hL0 | hL0
        · have hLe : L = [] := List.eq_nil_of_length_eq_zero hL0
          subst hLe
          clear hL0
          go_upto_region 13 with fail
          have htb := fun r p (hp : texts7[r]? = some p) => table_cell texts7_v w3 9 hp
          have hall := (Below.refl w3.heap.size w3).alloc (Nat.le_refl _) (.cells texts7V 9)
          go_wp2_with (go_at_call 24; refine (picked_nat _ 7 _ (by decide) (by decide)).mono ?_)
          rintro e w4 ⟨r', hr', rfl, hw⟩
          rw [hw] at htb hall
          obtain ⟨tx, htx⟩ : ∃ tx, texts7[r']? = some tx := ⟨_, List.getElem?_eq_getElem (show r' < texts7.length from hr')⟩
          have ht1 := htb r' tx htx
          have HTX := Lib.hid (List.mem_of_getElem? htx)
          have r2 : (0 : Int) ≤ r' := by omega
          have r3 : (r' : Int) < 7 := by omega
          have HB4 := Lib.hid (HB3.out.trans (hall.mono HB3.out.size))
          have HBOX4 := Lib.hid (HBOX3.out.keep (hall.block _ tz))
          clear hw htb hall htx t0 t1 t2 t3 t4 tz tf
          obtain ⟨t0, t1, t2, t3, t4, tz⟩ := HBOX4.out.cells
          have tf := fun o => Lib.frozen_of_heap HBOX4.out o
          have tf0 := tf 0
          have tf1 := tf 1
          have tf2 := tf 2
          have tf3 := tf 3
          have tf4 := tf 4
          go_upto_region 20 with fail
          obtain ⟨w5, hw5⟩ : ∃ w5, w5 = ((((w4.setCell ⟨w2.heap.size, 0, none⟩ (.int .i64 3)).setCell ⟨w2.heap.size, 1, none⟩ (.string ⟨#[]⟩)).setCell ⟨w2.heap.size, 2, none⟩ (.slice none 0 0)).setCell ⟨w2.heap.size, 3, none⟩ (.bool false)).setCell ⟨w2.heap.size, 4, none⟩ (.string (mk tx)) := ⟨_, rfl⟩
          rw [← hw5]
          have hb5 : Below W.heap.size W w5 := by rw [hw5]; exact ((((HB4.out.setCell (p := ⟨w2.heap.size, 0, none⟩) hz2 _).setCell (p := ⟨w2.heap.size, 1, none⟩) hz2 _).setCell (p := ⟨w2.heap.size, 2, none⟩) hz2 _).setCell (p := ⟨w2.heap.size, 3, none⟩) hz2 _).setCell (p := ⟨w2.heap.size, 4, none⟩) hz2 _
          have hbox5 : TokBox w5 w2.heap.size ⟨3, [], [], false, tx⟩ (.slice none 0 0) := by
            unfold TokBox
            have hx := HBOX4.out
            unfold TokBox at hx
            rw [hw5]
            simp [World.setCell, Array.getElem?_modify, hx]
            rfl
          have HBOX5 := Lib.hid hbox5
          have HB5 := Lib.hid hb5
          clear hw5 hbox5 hb5 t0 t1 t2 t3 t4 tz tf tf0 tf1 tf2 tf3 tf4
          obtain ⟨t0, t1, t2, t3, t4, tz⟩ := HBOX5.out.cells
          have hOA := hO.out.older (.of_below HB5.out)
          have hbaA := (Below.refl w5.heap.size w5).alloc (Nat.le_refl _) (.cells #[.int .i64 3, .string ⟨#[]⟩, .slice none 0 0, .bool false, .string (mk tx)] 33)
          have HOAA := Lib.hid (hOA.older (.of_below hbaA))
          have HVAA := Lib.hid (tokOneB w5.heap.size w5 ⟨3, [], [], false, tx⟩ (.slice none 0 0) (attrNoneB _) (Nat.le_refl _)).view
          have HBAA := Lib.hid (hB.out.trans ((HB5.out).mono hB.out.size |>.trans (hbaA.mono (Nat.le_trans hB.out.size HB5.out.size))))
          have hzAA := HBAA.out.size
          have HGA := Lib.hid (hG.out.snoc (.chars tx HTX.out) (fun _ y hy => by cases hy))
          clear hOA hbaA
          go_wp2_with (at_builtin; refine wpList_append_toks (by rfl) (.tmp 93) (.tmp 95) (by rfl) w.heap.size _ _ [] [⟨3, [], [], false, tx⟩] (by rfl) (by rfl) HOAA.out HVAA.out hLz (by simp) hzAA ?_; intro v6 w6 hown6 hgr6; have HO6 := Lib.hid hown6; have HB6 := Lib.hid (HBAA.out.trans (grown_below hgr6 HOAA.out hzAA)); clear hown6 hgr6)
          go_roundg m
          case measure => omega
          case rel => exact ⟨_, k + 1, [] ++ [⟨3, [], [], false, tx⟩], rfl, by omega, by go_num, HO6, HGA, by rw [List.length_append]; simp; omega, HB6⟩
        · obtain ⟨p, hp⟩ : ∃ p, L.length = p + 1 := ⟨L.length - 1, by omega⟩
          obtain ⟨u, hu⟩ : ∃ u, L[p]? = some u := ⟨_, List.getElem?_eq_getElem (by omega)⟩
          obtain ⟨g, c', va, hf, _, _, hg, hat, _⟩ := hO.out.view.get p u hu
          obtain rfl : oa = some ⟨g, 0, none⟩ := by simp at hf; exact hf.1
          have u0 : w3.cell? ⟨g, p * 5, none⟩ = some (.int .i64 u.kind) := (HB3.out.cell (p := ⟨g, p * 5, none⟩) hg).trans hat.kind
          have HLU := Lib.hid (show L.getLast? = some u by rw [List.getLast?_eq_getElem?, hp]; exact hu)
          have j0 : (0 : Int) < (L.length : Int) := by omega
          have j1 : IntKind.i64.wrap ((L.length : Int) - 1) = (p : Int) := by rw [IntWalk.i64_in _ (by omega)]; omega
          have j2 : (p : Int) < L.length := by omega
          have j3 : (0 : Int) ≤ p := by omega
          have j4 : (1 : Int) ≤ L.length := by omega
          have j5 : ((L.length : Int) - 1).toNat = p := by omega
          have j6 : (L.length : Int) - 1 < L.length := by omega
          have j7 : (0 : Int) ≤ (L.length : Int) - 1 := by omega
          clear hf hat hu hp
          by_cases hk3 : u.kind = 3
          · rw [hk3] at u0
            go_wp2_with fail
            go_roundg m
            case measure => omega
            case rel => exact ⟨_, k + 1, L, rfl, by omega, by go_num, Lib.hid (hO.out.older (.of_below HB3.out)), hG, hLn, Lib.hid (hB.out.trans (HB3.out.mono hB.out.size))⟩
          · have e3 : (u.kind == 3) = false := beq_eq_false_iff_ne.2 hk3
            have HK3 := Lib.hid hk3
            clear hk3
            go_upto_region 13 with fail
            have htb := fun r p (hp : texts7[r]? = some p) => table_cell texts7_v w3 9 hp
            have hall := (Below.refl w3.heap.size w3).alloc (Nat.le_refl _) (.cells texts7V 9)
            go_wp2_with (go_at_call 24; refine (picked_nat _ 7 _ (by decide) (by decide)).mono ?_)
            rintro e w4 ⟨r', hr', rfl, hw⟩
            rw [hw] at htb hall
            obtain ⟨tx, htx⟩ : ∃ tx, texts7[r']? = some tx := ⟨_, List.getElem?_eq_getElem (show r' < texts7.length from hr')⟩
            have ht1 := htb r' tx htx
            have HTX := Lib.hid (List.mem_of_getElem? htx)
            have r2 : (0 : Int) ≤ r' := by omega
            have r3 : (r' : Int) < 7 := by omega
            have HB4 := Lib.hid (HB3.out.trans (hall.mono HB3.out.size))
            have HBOX4 := Lib.hid (HBOX3.out.keep (hall.block _ tz))
            clear hw htb hall htx t0 t1 t2 t3 t4 tz tf
            obtain ⟨t0, t1, t2, t3, t4, tz⟩ := HBOX4.out.cells
            have tf := fun o => Lib.frozen_of_heap HBOX4.out o
            have tf0 := tf 0
            have tf1 := tf 1
            have tf2 := tf 2
            have tf3 := tf 3
            have tf4 := tf 4
            go_upto_region 20 with fail
            obtain ⟨w5, hw5⟩ : ∃ w5, w5 = ((((w4.setCell ⟨w2.heap.size, 0, none⟩ (.int .i64 3)).setCell ⟨w2.heap.size, 1, none⟩ (.string ⟨#[]⟩)).setCell ⟨w2.heap.size, 2, none⟩ (.slice none 0 0)).setCell ⟨w2.heap.size, 3, none⟩ (.bool false)).setCell ⟨w2.heap.size, 4, none⟩ (.string (mk tx)) := ⟨_, rfl⟩
            rw [← hw5]
            have hb5 : Below W.heap.size W w5 := by rw [hw5]; exact ((((HB4.out.setCell (p := ⟨w2.heap.size, 0, none⟩) hz2 _).setCell (p := ⟨w2.heap.size, 1, none⟩) hz2 _).setCell (p := ⟨w2.heap.size, 2, none⟩) hz2 _).setCell (p := ⟨w2.heap.size, 3, none⟩) hz2 _).setCell (p := ⟨w2.heap.size, 4, none⟩) hz2 _
            have hbox5 : TokBox w5 w2.heap.size ⟨3, [], [], false, tx⟩ (.slice none 0 0) := by
              unfold TokBox
              have hx := HBOX4.out
              unfold TokBox at hx
              rw [hw5]
              simp [World.setCell, Array.getElem?_modify, hx]
              rfl
            have HBOX5 := Lib.hid hbox5
            have HB5 := Lib.hid hb5
            clear hw5 hbox5 hb5 t0 t1 t2 t3 t4 tz tf tf0 tf1 tf2 tf3 tf4
            obtain ⟨t0, t1, t2, t3, t4, tz⟩ := HBOX5.out.cells
            have hOA := hO.out.older (.of_below HB5.out)
            have hbaA := (Below.refl w5.heap.size w5).alloc (Nat.le_refl _) (.cells #[.int .i64 3, .string ⟨#[]⟩, .slice none 0 0, .bool false, .string (mk tx)] 33)
            have HOAA := Lib.hid (hOA.older (.of_below hbaA))
            have HVAA := Lib.hid (tokOneB w5.heap.size w5 ⟨3, [], [], false, tx⟩ (.slice none 0 0) (attrNoneB _) (Nat.le_refl _)).view
            have HBAA := Lib.hid (hB.out.trans ((HB5.out).mono hB.out.size |>.trans (hbaA.mono (Nat.le_trans hB.out.size HB5.out.size))))
            have hzAA := HBAA.out.size
            have HGA := Lib.hid (hG.out.snoc (.chars tx HTX.out) (fun _ y hy => by rw [HLU.out] at hy; cases hy; exact HK3.out))
            clear hOA hbaA
            go_wp2_with (at_builtin; refine wpList_append_toks (by rfl) (.tmp 93) (.tmp 95) (by rfl) w.heap.size _ _ L [⟨3, [], [], false, tx⟩] (by rfl) (by rfl) HOAA.out HVAA.out hLz (by simp) hzAA ?_; intro v6 w6 hown6 hgr6; have HO6 := Lib.hid hown6; have HB6 := Lib.hid (HBAA.out.trans (grown_below hgr6 HOAA.out hzAA)); clear hown6 hgr6)
            go_roundg m
            case measure => omega
            case rel => exact ⟨_, k + 1, L ++ [⟨3, [], [], false, tx⟩], rfl, by omega, by go_num, HO6, HGA, by rw [List.length_append]; simp; omega, HB6⟩
      · -- a start tag with attributes
        have tf3 := tf 3
        clear tf
        go_wp2_with (go_at_call 24; refine (picked_nat _ 2 _ (by decide) (by decide)).mono ?_)
        rintro e w3' ⟨q2, hq2, rfl, hw⟩
        rw [← hw]
        clear hw w3'
        obtain ⟨sf, hsf⟩ : ∃ sf, ((q2 : Int) == 0) = sf := ⟨_, rfl⟩
        obtain ⟨w4, hw4⟩ : ∃ w4, w4 = w3.setCell ⟨w2.heap.size, 3, none⟩ (.bool sf) := ⟨_, rfl⟩
        have hb4 : Below W.heap.size W w4 := by rw [hw4]; exact HB3.out.setCell (p := ⟨w2.heap.size, 3, none⟩) hz2 _
        have hbox4 : TokBox w4 w2.heap.size ⟨1, nm, [], sf, []⟩ (.slice none 0 0) := by
          unfold TokBox
          have hx := HBOX3.out
          unfold TokBox at hx
          rw [hw4]
          simp [World.setCell, Array.getElem?_modify, hx]
        have HBOX4 := Lib.hid hbox4
        have HB4 := Lib.hid hb4
        have HW4 := Lib.hid hw4
        clear hw4 hbox4 hb4 hq2
        go_upto_region 16 with fail
        rw [← HW4.out]
        clear hsf t0 t1 t2 t3 t4 tz tf3
        go_wp2_with fail
        go_loopg [10] 3 (fun g i wx => ∃ (Wc : World) (al : List TAttr) (av : Value), Wc = wx ∧ i = .int .i64 al.length ∧ al.length + g = 3 ∧ al.length ≤ 2 ∧ Hid (GoodAttrs al) ∧ Hid (TokBox wx w2.heap.size ⟨1, nm, al, sf, []⟩ av) ∧ Hid (AttrRow W.heap.size wx av al) ∧ Hid (Below W.heap.size W wx) ∧ Hid (av.ownBlock ≠ some w2.heap.size))
        case atStart => exact ⟨_, [], _, rfl, rfl, rfl, by simp, Lib.hid .nil, HBOX4, Lib.hid (AttrRow.nil _ _), HB4, Lib.hid (by intro h; cases h)⟩
        case round =>
          obtain ⟨Wc, al, av, rfl, rfl, hg3, hal2, hGA, hBX, hAR, hBC, hNB⟩ := hrel
          have hl0 : (0 : Int) ≤ (al.length : Int) := by omega
          go_wp2_with (go_at_call 24; refine (picked_nat _ 3 _ (by decide) (by decide)).mono ?_)
          rintro e w3' ⟨q3, hq3, rfl, hw⟩
          rw [← hw]
          clear hw w3'
          obtain ⟨t0, t1, t2, t3, t4, tz⟩ := hBX.out.cells
          by_cases hlq : al.length < q3
          · obtain ⟨pg, rfl⟩ : ∃ pg, gk = pg + 1 := ⟨gk - 1, by omega⟩
            have c1 : (al.length : Int) < q3 := by omega
            have hj2 : al.length < 2 := by omega
            obtain ⟨va0, vc0, hvf⟩ := ownsRow_slice hAR.out
            subst hvf
            obtain ⟨ky, hky⟩ : ∃ ky, keys2[al.length]? = some ky := ⟨_, List.getElem?_eq_getElem (show al.length < keys2.length from hj2)⟩
            have HKY := Lib.hid hky
            have hkget : ∀ h, ([.string ⟨#[99, 108, 97, 115, 115]⟩, .string ⟨#[104, 114, 101, 102]⟩] : List Value)[al.length]'h = Value.string (mk ky) := fun h => by
              have h1 : (keys2.map fun p => Value.string (mk p))[al.length]? = some (Value.string (mk ky)) := by rw [List.getElem?_map, hky]; rfl
              exact (List.getElem?_eq_some_iff.1 h1).2
            have HVG := Lib.hid (show ∀ (r : Nat) (vl : Bytes), vals6[r]? = some vl → ∀ h, ([.string ⟨#[]⟩, .string ⟨#[120]⟩, .string ⟨#[97, 34, 98]⟩, .string ⟨#[60, 38, 62]⟩, .string ⟨#[97, 32, 98]⟩, .string ⟨#[38, 108, 116, 59]⟩] : List Value)[r]'h = Value.string (mk vl) from fun r vl hr h => by
              have h1 : (vals6.map fun p => Value.string (mk p))[r]? = some (Value.string (mk vl)) := by rw [List.getElem?_map, hr]; rfl
              exact (List.getElem?_eq_some_iff.1 h1).2)
            clear hky
            have d1 : IntKind.i64.wrap (80 + (al.length : Int)) = 80 + (al.length : Int) := IntWalk.i64_in _ (by omega)
            have d2 : ¬ (80 + (al.length : Int)) = 0 := by omega
            have d3 : ((80 + (al.length : Int)) == 0) = false := beq_eq_false_iff_ne.2 d2
            have d4 : (al.length : Int) < 2 := by omega
            have bA := fun (X : World) => (Below.refl X.heap.size X).alloc (Nat.le_refl _) (.cells keys2V 9)
            have bV := fun (X : World) => (Below.refl X.heap.size X).alloc (Nat.le_refl _) (.cells vals6V 9)
            have zA := fun (X : World) => (show (X.alloc (.cells keys2V 9)).heap.size = X.heap.size + 1 by simp)
            have zV := fun (X : World) => (show (X.alloc (.cells vals6V 9)).heap.size = X.heap.size + 1 by simp)
            have bx1 := (bA Wc).cell (p := ⟨w2.heap.size, 2, none⟩) tz |>.trans t2
            have bx2 := (bV Wc).cell (p := ⟨w2.heap.size, 2, none⟩) tz |>.trans t2
            have bx12 := (bV (Wc.alloc (.cells keys2V 9))).cell (p := ⟨w2.heap.size, 2, none⟩) (by rw [zA]; exact Nat.lt_succ_of_lt tz) |>.trans bx1
            have bx21 := (bA (Wc.alloc (.cells vals6V 9))).cell (p := ⟨w2.heap.size, 2, none⟩) (by rw [zV]; exact Nat.lt_succ_of_lt tz) |>.trans bx2
            have BC12 := Lib.hid (show ∀ o : Obj, (((Wc.alloc (.cells keys2V 9)).alloc (.cells vals6V 9)).alloc o).cell? ⟨w2.heap.size, 2, none⟩ = some (.slice va0 al.length vc0) from fun o => ((Below.refl _ _).alloc (Nat.le_refl _) o).cell (p := ⟨w2.heap.size, 2, none⟩) (by rw [zV, zA]; exact Nat.lt_succ_of_lt (Nat.lt_succ_of_lt tz)) |>.trans bx12)
            have BC21 := Lib.hid (show ∀ o : Obj, (((Wc.alloc (.cells vals6V 9)).alloc (.cells keys2V 9)).alloc o).cell? ⟨w2.heap.size, 2, none⟩ = some (.slice va0 al.length vc0) from fun o => ((Below.refl _ _).alloc (Nat.le_refl _) o).cell (p := ⟨w2.heap.size, 2, none⟩) (by rw [zA, zV]; exact Nat.lt_succ_of_lt (Nat.lt_succ_of_lt tz)) |>.trans bx21)
            clear bA bV zA zV
            have HAR := Lib.hid hAR.out
            have HBX := Lib.hid hBX.out
            have HNB := Lib.hid hNB.out
            have HGA := Lib.hid hGA.out
            have hal3 : al.length ≤ 1000 := by omega
            have hBz : W.heap.size ≤ Wc.heap.size := hBC.out.size
            have HJ2 := Lib.hid hj2
            clear t0 t1 t3 t4 hAR hBX hNB hGA k0 k1 k2 r0 r1 hl hn hLn hLz h1 h2 hk
            go_upto_region 19 with fail
            refine region_cut (fun wx => ∃ (g8 cap8 : Nat) (vl : Bytes), vl ∈ vals6 ∧ AttrRow W.heap.size wx (.slice (some ⟨g8, 0, none⟩) (al.length + 1) cap8) (al ++ [⟨ky, vl⟩]) ∧ TokBox wx w2.heap.size ⟨1, nm, al ++ [⟨ky, vl⟩], sf, []⟩ (.slice (some ⟨g8, 0, none⟩) (al.length + 1) cap8) ∧ Below W.heap.size Wc wx ∧ g8 ≠ w2.heap.size) ?rest ?later
            case rest =>
              intro v75 v76 v77 v78 v79 v80 v81 v82 v83 v84 v85 v86 v87 v88 v89 v90 v91 v92 wx ⟨g8, cap8, vl, hv8, har8, hbx8, hb8, hne8⟩
              simp only [puts18, Act.put, List.setIfInBounds_toArray, List.set_cons_zero, List.set_cons_succ]
              have HV8 := Lib.hid hv8
              have HAR8 := Lib.hid har8
              have HBX8 := Lib.hid hbx8
              have HB8 := Lib.hid (hBC.out.trans hb8)
              have HNE8 := Lib.hid hne8
              clear hv8 har8 hbx8 hb8 hne8 bx1 bx2 bx12 bx21
              go_wp2_with fail
              go_roundg pg
              case measure => omega
              case rel => exact ⟨_, al ++ [⟨ky, vl⟩], .slice (some ⟨g8, 0, none⟩) (al.length + 1) cap8, rfl, by rw [List.length_append, List.length_singleton]; go_num, by rw [List.length_append, List.length_singleton]; omega, by rw [List.length_append, List.length_singleton]; have := HJ2.out; omega, Lib.hid (HGA.out.snoc HJ2.out HKY.out HV8.out), HBX8, HAR8, HB8, Lib.hid (fun e => HNE8.out (by injection e))⟩
            case later =>
              clear bx1 bx2 bx12 bx21 BC12 BC21
              refine region_by W.heap.size w2.heap.size (.slice va0 al.length vc0) al ⟨1, nm, al, sf, []⟩ ky x ?hn (fun i o hi => ?hac) ?hstep
              case hn => rfl
              case hac =>
                have hall : ∀ i, i < 19 → i = 0 ∨ i = 1 ∨ i = 2 ∨ i = 3 ∨ i = 4 ∨ i = 5 ∨ i = 6 ∨ i = 7 ∨ i = 8 ∨ i = 9 ∨ i = 10 ∨ i = 11 ∨ i = 12 ∨ i = 13 ∨ i = 14 ∨ i = 15 ∨ i = 16 ∨ i = 17 ∨ i = 18 := fun i h => by omega
                have hlt : i < 19 := (Array.getElem?_eq_some_iff.1 hi).1
                rcases hall i hlt with rfl | rfl | rfl | rfl | rfl | rfl | rfl | rfl | rfl | rfl | rfl | rfl | rfl | rfl | rfl | rfl | rfl | rfl | rfl <;> (change some _ = some o at hi; cases hi; simp)
              case hstep =>
                intro i o hi L a' w' hc hJ hL hd
                have hlt : i < 19 := (Array.getElem?_eq_some_iff.1 hi).1
                have hz0 := JJ.frame hJ (Nat.le_of_ble_eq_true rfl)
                have hz : 92 < a'.tmps.size := by rw [hJ.size]; exact hz0
                have all16 : L 16 = true → ∀ j, j < 16 → L j = true := by
                  intro h16 j hj
                  have h15 : L 15 = true := hc 16 _ rfl h16 ⟨15, .data⟩ (by simp) rfl
                  have h1 : L 1 = true := hc 16 _ rfl h16 ⟨1, .data⟩ (by simp) rfl
                  have h14 : L 14 = true := hc 15 _ rfl h15 ⟨14, .data⟩ (by simp) rfl
                  have h5 : L 5 = true := hc 14 _ rfl h14 ⟨5, .data⟩ (by simp) rfl
                  have h13 : L 13 = true := hc 14 _ rfl h14 ⟨13, .data⟩ (by simp) rfl
                  have h12 : L 12 = true := hc 13 _ rfl h13 ⟨12, .data⟩ (by simp) rfl
                  have h6 : L 6 = true := hc 12 _ rfl h12 ⟨6, .data⟩ (by simp) rfl
                  have h11 : L 11 = true := hc 12 _ rfl h12 ⟨11, .data⟩ (by simp) rfl
                  have h10 : L 10 = true := hc 11 _ rfl h11 ⟨10, .data⟩ (by simp) rfl
                  have h7 : L 7 = true := hc 10 _ rfl h10 ⟨7, .data⟩ (by simp) rfl
                  have h9 : L 9 = true := hc 10 _ rfl h10 ⟨9, .data⟩ (by simp) rfl
                  have h8 : L 8 = true := hc 9 _ rfl h9 ⟨8, .data⟩ (by simp) rfl
                  have h4 : L 4 = true := hc 5 _ rfl h5 ⟨4, .data⟩ (by simp) rfl
                  have h2 : L 2 = true := hc 4 _ rfl h4 ⟨2, .data⟩ (by simp) rfl
                  have h3 : L 3 = true := hc 4 _ rfl h4 ⟨3, .data⟩ (by simp) rfl
                  have h0 : L 0 = true := hc 1 _ rfl h1 ⟨0, .data⟩ (by simp) rfl
                  have hw : j = 0 ∨ j = 1 ∨ j = 2 ∨ j = 3 ∨ j = 4 ∨ j = 5 ∨ j = 6 ∨ j = 7 ∨ j = 8 ∨ j = 9 ∨ j = 10 ∨ j = 11 ∨ j = 12 ∨ j = 13 ∨ j = 14 ∨ j = 15 := by omega
                  rcases hw with rfl | rfl | rfl | rfl | rfl | rfl | rfl | rfl | rfl | rfl | rfl | rfl | rfl | rfl | rfl | rfl <;> assumption
                have no16 : i < 16 → L 16 = false := fun h => by
                  cases hx : L 16 with
                  | false => rfl
                  | true => exact absurd (all16 hx i h) (by rw [hL]; simp)
                have no18 : L 16 = false → L 18 = false := fun h => by
                  cases hx : L 18 with
                  | false => rfl
                  | true => rw [hc 18 _ rfl hx ⟨16, .data⟩ (by simp) rfl] at h; cases h
                have no18b : L 17 = false → L 18 = false := fun h => by
                  cases hx : L 18 with
                  | false => rfl
                  | true => rw [hc 18 _ rfl hx ⟨17, .data⟩ (by simp) rfl] at h; cases h
                have e7 : a'.tmps[7]? = some (.int .i64 x) := (hJ.rest 7 (by omega)).trans rfl
                have e8 : a'.tmps[8]? = some (.pointer (some ⟨w2.heap.size, 0, none⟩)) := (hJ.rest 8 (by omega)).trans rfl
                have e10 : a'.tmps[10]? = some (.int .i64 al.length) := (hJ.rest 10 (by omega)).trans rfl
                have HJ := Lib.hid hJ
                have hw19 : i = 0 ∨ i = 1 ∨ i = 2 ∨ i = 3 ∨ i = 4 ∨ i = 5 ∨ i = 6 ∨ i = 7 ∨ i = 8 ∨ i = 9 ∨ i = 10 ∨ i = 11 ∨ i = 12 ∨ i = 13 ∨ i = 14 ∨ i = 15 ∨ i = 16 ∨ i = 17 ∨ i = 18 := by omega
                clear hc all16 hlt hJ
                rcases hw19 with rfl | rfl | rfl | rfl | rfl | rfl | rfl | rfl | rfl | rfl | rfl | rfl | rfl | rfl | rfl | rfl | rfl | rfl | rfl
                · change some _ = some o at hi
                  cases hi
                  have h16 := no16 (by omega)
                  have h18 := no18 h16
                  clear hd hL no16 no18 no18b
                  refine step_k fun K Q' hK => ?_
                  have HK := Lib.hid hK
                  clear hK
                  go_simp
                  exact HK.out _ _ (HJ.out.step hz0 0 (by omega) h16 h18 rfl (Below.refl _ _))
                · change some _ = some o at hi
                  cases hi
                  have d0 : L 0 = true := hd ⟨0, .data⟩ (by simp) rfl
                  have h16 := no16 (by omega)
                  have h18 := no18 h16
                  clear hd hL no16 no18 no18b
                  have q75 := get_of_getD (by omega) (show a'.tmps.getD 75 undef = .pointer (some ⟨w2.heap.size, 2, none⟩) from HJ.out.vals 0 (by omega) d0)
                  have cb : w'.cell? ⟨w2.heap.size, 2, none⟩ = some (.slice va0 al.length vc0) := by rw [(HJ.out.before h16).cell (p := ⟨w2.heap.size, 2, none⟩) tz]; exact t2
                  refine step_k fun K Q' hK => ?_
                  have HK := Lib.hid hK
                  clear hK
                  go_simp
                  exact HK.out _ _ (HJ.out.step hz0 1 (by omega) h16 h18 rfl (Below.refl _ _))
                · change some _ = some o at hi
                  cases hi
                  have h16 := no16 (by omega)
                  have h18 := no18 h16
                  clear hd hL no16 no18 no18b
                  refine step_k fun K Q' hK => ?_
                  have HK := Lib.hid hK
                  clear hK
                  go_simp
                  exact HK.out _ _ (HJ.out.step hz0 2 (by omega) h16 h18 ⟨w'.heap.size, (HJ.out.before h16).size, rfl, heap_alloc_new w' _⟩ ((Below.refl _ _).alloc (Nat.le_refl _) _))
                · change some _ = some o at hi
                  cases hi
                  have h16 := no16 (by omega)
                  have h18 := no18 h16
                  clear hd hL no16 no18 no18b
                  refine step_k fun K Q' hK => ?_
                  have HK := Lib.hid hK
                  clear hK
                  go_simp
                  exact HK.out _ _ (HJ.out.step hz0 3 (by omega) h16 h18 rfl (Below.refl _ _))
                · change some _ = some o at hi
                  cases hi
                  have d2 : L 2 = true := hd ⟨2, .data⟩ (by simp) rfl
                  have d3 : L 3 = true := hd ⟨3, .data⟩ (by simp) rfl
                  have h16 := no16 (by omega)
                  have h18 := no18 h16
                  clear hd hL no16 no18 no18b
                  obtain ⟨g, hg, e77, hh⟩ := HJ.out.vals 2 (by omega) d2
                  have q77 := get_of_getD (by omega) (show a'.tmps.getD 77 undef = .slice (some ⟨g, 0, none⟩) 2 2 from e77)
                  have q78 := get_of_getD (by omega) (show a'.tmps.getD 78 undef = .int .i64 al.length from HJ.out.vals 3 (by omega) d3)
                  have HH := Lib.hid hh
                  have HG := Lib.hid hg
                  clear e77 hh hg
                  refine step_k fun K Q' hK => ?_
                  have HK := Lib.hid hK
                  clear hK
                  go_simp
                  exact HK.out _ _ (HJ.out.step hz0 4 (by omega) h16 h18 ⟨g, HG.out, rfl, HH.out⟩ (Below.refl _ _))
                · change some _ = some o at hi
                  cases hi
                  have d4 : L 4 = true := hd ⟨4, .data⟩ (by simp) rfl
                  have h16 := no16 (by omega)
                  have h18 := no18 h16
                  clear hd hL no16 no18 no18b
                  obtain ⟨g, hg, e79, hh⟩ := HJ.out.vals 4 (by omega) d4
                  have q79 := get_of_getD (by omega) (show a'.tmps.getD 79 undef = .pointer (some ⟨g, al.length, none⟩) from e79)
                  have ck := cell_of_row2 hh keys2_v HKY.out
                  clear e79 hh hg
                  refine step_k fun K Q' hK => ?_
                  have HK := Lib.hid hK
                  clear hK
                  go_simp
                  exact HK.out _ _ (HJ.out.step hz0 5 (by omega) h16 h18 rfl (Below.refl _ _))
                · change some _ = some o at hi
                  cases hi
                  have h16 := no16 (by omega)
                  have h18 := no18 h16
                  clear hd hL no16 no18 no18b
                  refine step_k fun K Q' hK => ?_
                  have HK := Lib.hid hK
                  clear hK
                  go_simp
                  exact HK.out _ _ (HJ.out.step hz0 6 (by omega) h16 h18 ⟨w'.heap.size, (HJ.out.before h16).size, rfl, heap_alloc_new w' _⟩ ((Below.refl _ _).alloc (Nat.le_refl _) _))
                · change some _ = some o at hi
                  cases hi
                  have h16 := no16 (by omega)
                  have h18 := no18 h16
                  clear hd hL no16 no18 no18b
                  refine step_k fun K Q' hK => ?_
                  have HK := Lib.hid hK
                  clear hK
                  go_simp
                  exact HK.out _ _ (HJ.out.step hz0 7 (by omega) h16 h18 rfl (Below.refl _ _))
                · change some _ = some o at hi
                  cases hi
                  have h16 := no16 (by omega)
                  have h18 := no18 h16
                  clear hd hL no16 no18 no18b
                  refine step_k fun K Q' hK => ?_
                  have HK := Lib.hid hK
                  clear hK
                  go_simp
                  exact HK.out _ _ (HJ.out.step hz0 8 (by omega) h16 h18 rfl (Below.refl _ _))
                · change some _ = some o at hi
                  cases hi
                  have d8 : L 8 = true := hd ⟨8, .data⟩ (by simp) rfl
                  have h16 := no16 (by omega)
                  have h18 := no18 h16
                  clear hd hL no16 no18 no18b
                  have q83 := get_of_getD (by omega) (show a'.tmps.getD 83 undef = .int .i64 al.length from HJ.out.vals 8 (by omega) d8)
                  refine step_k fun K Q' hK => ?_
                  have HK := Lib.hid hK
                  clear hK
                  go_simp
                  exact HK.out _ _ (HJ.out.step hz0 9 (by omega) h16 h18 rfl (Below.refl _ _))
                · change some _ = some o at hi
                  cases hi
                  have d7 : L 7 = true := hd ⟨7, .data⟩ (by simp) rfl
                  have d9 : L 9 = true := hd ⟨9, .data⟩ (by simp) rfl
                  have h16 := no16 (by omega)
                  have h18 := no18 h16
                  clear hd hL no16 no18 no18b
                  have q82 := get_of_getD (by omega) (show a'.tmps.getD 82 undef = .int .i64 x from HJ.out.vals 7 (by omega) d7)
                  have q84 := get_of_getD (by omega) (show a'.tmps.getD 84 undef = .int .i64 (80 + al.length) from HJ.out.vals 9 (by omega) d9)
                  refine step_k fun K Q' hK => ?_
                  have HK := Lib.hid hK
                  clear hK
                  go_simp
                  exact HK.out _ _ (HJ.out.step hz0 10 (by omega) h16 h18 ⟨_, rfl⟩ (Below.refl _ _))
                · change some _ = some o at hi
                  cases hi
                  have d10 : L 10 = true := hd ⟨10, .data⟩ (by simp) rfl
                  have h16 := no16 (by omega)
                  have h18 := no18 h16
                  clear hd hL no16 no18 no18b
                  obtain ⟨z, e85⟩ := HJ.out.vals 10 (by omega) d10
                  have q85 := get_of_getD (by omega) (show a'.tmps.getD 85 undef = .int .i64 z from e85)
                  clear e85
                  refine step_k fun K Q' hK => ?_
                  have HK := Lib.hid hK
                  clear hK
                  go_simp
                  refine (picked_nat _ 6 _ (by decide) (by decide)).mono ?_
                  rintro e wq ⟨r6, hr6, rfl, hwq⟩
                  rw [← hwq]
                  exact HK.out _ _ (HJ.out.step hz0 11 (by omega) h16 h18 ⟨r6, hr6, rfl⟩ (Below.refl _ _))
                · change some _ = some o at hi
                  cases hi
                  have d6 : L 6 = true := hd ⟨6, .data⟩ (by simp) rfl
                  have d11 : L 11 = true := hd ⟨11, .data⟩ (by simp) rfl
                  have h16 := no16 (by omega)
                  have h18 := no18 h16
                  clear hd hL no16 no18 no18b
                  obtain ⟨g, hg, e81, hh⟩ := HJ.out.vals 6 (by omega) d6
                  have q81 := get_of_getD (by omega) (show a'.tmps.getD 81 undef = .slice (some ⟨g, 0, none⟩) 6 6 from e81)
                  obtain ⟨r6, hr6, e86⟩ := HJ.out.vals 11 (by omega) d11
                  have q86 := get_of_getD (by omega) (show a'.tmps.getD 86 undef = .int .i64 r6 from e86)
                  have p0 : (0 : Int) ≤ r6 := by omega
                  have p1 : (r6 : Int) < 6 := by omega
                  have HH := Lib.hid hh
                  have HG := Lib.hid hg
                  clear e81 e86 hh hg
                  refine step_k fun K Q' hK => ?_
                  have HK := Lib.hid hK
                  clear hK
                  go_simp
                  exact HK.out _ _ (HJ.out.step hz0 12 (by omega) h16 h18 ⟨g, r6, HG.out, hr6, rfl, HH.out⟩ (Below.refl _ _))
                · change some _ = some o at hi
                  cases hi
                  have d12 : L 12 = true := hd ⟨12, .data⟩ (by simp) rfl
                  have h16 := no16 (by omega)
                  have h18 := no18 h16
                  clear hd hL no16 no18 no18b
                  obtain ⟨g, r6, hg, hr6, e87, hh⟩ := HJ.out.vals 12 (by omega) d12
                  have q87 := get_of_getD (by omega) (show a'.tmps.getD 87 undef = .pointer (some ⟨g, r6, none⟩) from e87)
                  obtain ⟨vl, hvl⟩ : ∃ vl, vals6[r6]? = some vl := ⟨_, List.getElem?_eq_getElem (show r6 < vals6.length from hr6)⟩
                  have cv := cell_of_row2 hh vals6_v hvl
                  have HVL := Lib.hid (List.mem_of_getElem? hvl)
                  clear e87 hh hg hvl
                  refine step_k fun K Q' hK => ?_
                  have HK := Lib.hid hK
                  clear hK
                  go_simp
                  exact HK.out _ _ (HJ.out.step hz0 13 (by omega) h16 h18 ⟨vl, HVL.out, rfl⟩ (Below.refl _ _))
                · change some _ = some o at hi
                  cases hi
                  have d5 : L 5 = true := hd ⟨5, .data⟩ (by simp) rfl
                  have d13 : L 13 = true := hd ⟨13, .data⟩ (by simp) rfl
                  have h16 := no16 (by omega)
                  have h18 := no18 h16
                  clear hd hL no16 no18 no18b
                  obtain ⟨vl, hvl, e88⟩ := HJ.out.vals 13 (by omega) d13
                  have q88 := get_of_getD (by omega) (show a'.tmps.getD 88 undef = .string (mk vl) from e88)
                  have q80 := get_of_getD (by omega) (show a'.tmps.getD 80 undef = .string (mk ky) from HJ.out.vals 5 (by omega) d5)
                  have HVL := Lib.hid hvl
                  clear e88 hvl
                  refine step_k fun K Q' hK => ?_
                  have HK := Lib.hid hK
                  clear hK
                  go_simp
                  exact HK.out _ _ (HJ.out.step hz0 14 (by omega) h16 h18 ⟨vl, HVL.out, rfl⟩ (Below.refl _ _))
                · change some _ = some o at hi
                  cases hi
                  have d14 : L 14 = true := hd ⟨14, .data⟩ (by simp) rfl
                  have h16 := no16 (by omega)
                  have h18 := no18 h16
                  clear hd hL no16 no18 no18b
                  obtain ⟨vl, hvl, e89⟩ := HJ.out.vals 14 (by omega) d14
                  have q89 := get_of_getD (by omega) (show a'.tmps.getD 89 undef = .agg #[.string (mk ky), .string (mk vl)] from e89)
                  have HVL := Lib.hid hvl
                  clear e89 hvl
                  refine step_k fun K Q' hK => ?_
                  have HK := Lib.hid hK
                  clear hK
                  go_simp
                  exact HK.out _ _ (HJ.out.step hz0 15 (by omega) h16 h18 ⟨vl, HVL.out, w'.heap.size, (HJ.out.before h16).size, rfl, heap_alloc_new w' _⟩ ((Below.refl _ _).alloc (Nat.le_refl _) _))
                · change some _ = some o at hi
                  cases hi
                  have d1 : L 1 = true := hd ⟨1, .data⟩ (by simp) rfl
                  have d15 : L 15 = true := hd ⟨15, .data⟩ (by simp) rfl
                  exact JJ.op16 rfl rfl rfl HJ.out hz0 d1 d15 hL (no18 hL) HAR.out hal3 hBz HBX.out HNB.out
                · change some _ = some o at hi
                  cases hi
                  have d16 : L 16 = true := hd ⟨16, .phase⟩ (by simp) rfl
                  have h18 := no18b hL
                  clear hd hL no16 no18 no18b
                  refine step_k fun K Q' hK => ?_
                  have HK := Lib.hid hK
                  clear hK
                  go_simp
                  exact HK.out _ _ (HJ.out.step17 hz0 d16 h18)
                · change some _ = some o at hi
                  cases hi
                  have d16 : L 16 = true := hd ⟨16, .data⟩ (by simp) rfl
                  have d17 : L 17 = true := hd ⟨17, .data⟩ (by simp) rfl
                  have HL := Lib.hid hL
                  have q92 := get_of_getD (by omega) (show a'.tmps.getD 92 undef = .pointer (some ⟨w2.heap.size, 2, none⟩) from HJ.out.vals 17 (by omega) d17)
                  obtain ⟨g8, cap8, vl, _, e91, _, hbx8, _, _⟩ := HJ.out.mid d16 hL
                  have q91 := get_of_getD (by omega) (show a'.tmps.getD 91 undef = .slice (some ⟨g8, 0, none⟩) (al.length + 1) cap8 from e91)
                  have HE91 := Lib.hid e91
                  have cb : w'.cell? ⟨w2.heap.size, 2, none⟩ = some (.slice va0 al.length vc0) := hbx8.cells.2.2.1
                  have cf : w'.frozen? ⟨w2.heap.size, 2, none⟩ = false := Lib.frozen_of_heap hbx8 2
                  clear hd hL no16 no18 no18b e91 hbx8 hz hz0
                  refine step_k fun K Q' hK => ?_
                  have HK := Lib.hid hK
                  clear hK
                  go_simp
                  exact HK.out _ _ (HJ.out.step18 d16 HL.out _ HE91.out hz2 tz)
          · have c1 : ¬ (al.length : Int) < q3 := by omega
            obtain ⟨va0, vc0, hvf⟩ := ownsRow_slice hAR.out
            subst hvf
            have hAV := hAR.out.view
            clear hg3 hq3 hlq hAR
            have hOA := hO.out.older (.of_below hBC.out)
            have hbaA := (Below.refl Wc.heap.size Wc).alloc (Nat.le_refl _) (.cells #[.int .i64 1, .string (mk nm), .slice va0 al.length vc0, .bool sf, .string ⟨#[]⟩] 33)
            have HOAA := Lib.hid (hOA.older (.of_below hbaA))
            have HVAA := Lib.hid (tokOneB Wc.heap.size Wc ⟨1, nm, al, sf, []⟩ (.slice va0 al.length vc0) hAV (Nat.le_refl _)).view
            have HBAA := Lib.hid (hB.out.trans ((hBC.out).mono hB.out.size |>.trans (hbaA.mono (Nat.le_trans hB.out.size hBC.out.size))))
            have hzAA := HBAA.out.size
            have HGA := Lib.hid (hG.out.snoc (.start nm al sf HNM.out hGA.out) (fun h => by cases h))
            clear hOA hbaA
            go_wp2_with (at_builtin; refine wpList_append_toks (by rfl) (.tmp 93) (.tmp 95) (by rfl) w.heap.size _ _ L [⟨1, nm, al, sf, []⟩] (by rfl) (by rfl) HOAA.out HVAA.out hLz (by simp) hzAA ?_; intro v6 w6 hown6 hgr6; have HO6 := Lib.hid hown6; have HB6 := Lib.hid (HBAA.out.trans (grown_below hgr6 HOAA.out hzAA)); clear hown6 hgr6)
            go_roundg m
            case measure => omega
            case rel => exact ⟨_, k + 1, L ++ [⟨1, nm, al, sf, []⟩], rfl, by omega, by go_num, HO6, HGA, by rw [List.length_append]; simp; omega, HB6⟩
      · -- a start tag without attributes
        clear tf
        have hOA := hO.out.older (.of_below HB3.out)
        have hbaA := (Below.refl w3.heap.size w3).alloc (Nat.le_refl _) (.cells #[.int .i64 1, .string (mk nm), .slice none 0 0, .bool false, .string ⟨#[]⟩] 33)
        have HOAA := Lib.hid (hOA.older (.of_below hbaA))
        have HVAA := Lib.hid (tokOneB w3.heap.size w3 ⟨1, nm, [], false, []⟩ (.slice none 0 0) (attrNoneB _) (Nat.le_refl _)).view
        have HBAA := Lib.hid (hB.out.trans ((HB3.out).mono hB.out.size |>.trans (hbaA.mono (Nat.le_trans hB.out.size HB3.out.size))))
        have hzAA := HBAA.out.size
        have HGA := Lib.hid (hG.out.snoc (.start nm [] false HNM.out .nil) (fun h => by cases h))
        clear hOA hbaA
        go_wp2_with (at_builtin; refine wpList_append_toks (by rfl) (.tmp 93) (.tmp 95) (by rfl) w.heap.size _ _ L [⟨1, nm, [], false, []⟩] (by rfl) (by rfl) HOAA.out HVAA.out hLz (by simp) hzAA ?_; intro v6 w6 hown6 hgr6; have HO6 := Lib.hid hown6; have HB6 := Lib.hid (HBAA.out.trans (grown_below hgr6 HOAA.out hzAA)); clear hown6 hgr6)
        go_roundg m
        case measure => omega
        case rel => exact ⟨_, k + 1, L ++ [⟨1, nm, [], false, []⟩], rfl, by omega, by go_num, HO6, HGA, by rw [List.length_append]; simp; omega, HB6⟩
    · have hx : ((k : Int) < l.length → ¬ (L.length : Int) < n) := by omega
      clear hlt
      by_cases hks : (k : Int) < l.length
      · have hx2 := hx hks
        clear hx
        go_wp2_with fail
        go_ret
        exact ⟨_, rfl, L, hO.out, hG.out, hLn, hB.out⟩
      · clear hx
        go_wp2_with fail
        go_ret
        exact ⟨_, rfl, L, hO.out, hG.out, hLn, hB.out⟩

end Go.Proofs.YtalijabcedajaaaGreatDoor
