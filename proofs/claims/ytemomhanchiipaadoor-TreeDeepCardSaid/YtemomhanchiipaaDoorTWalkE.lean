/- Walk of the tree's nodes. -/
import Derived.Test.YtemomhanchiipaaDoorTView
namespace Go.Proofs.YtemomhanchiipaaDoor
open Go Go.RowKit

theorem deepN_mem : ∀ {l : List TNode} {t : TNode}, t ∈ l → deepN t ≤ deepL l
  | [], _, h => by cases h
  | x :: l, t, h => by
    have e : deepL (x :: l) = max (deepN x) (deepL l) := by rw [deepL]
    rcases List.mem_cons.1 h with rfl | h
    · omega
    · have := deepN_mem h; omega
theorem deepN_eq (n : Bytes) (a : List TAttr) (t : Bytes) (ps : List TNode) : deepN (.mk n a t ps) = deepL ps + 1 := by rw [deepN]
theorem countN_mem : ∀ {l : List TNode} {t : TNode}, t ∈ l → countN t ≤ countL l
  | [], _, h => by cases h
  | x :: l, t, h => by
    have e : countL (x :: l) = countN x + countL l := by rw [countL]
    rcases List.mem_cons.1 h with rfl | h
    · omega
    · have := countN_mem h; omega
theorem countN_eq (n : Bytes) (a : List TAttr) (t : Bytes) (ps : List TNode) : countN (.mk n a t ps) = countL ps + 1 := by rw [countN]
theorem len_countL : ∀ l : List TNode, l.length ≤ countL l
  | [] => Nat.zero_le _
  | t :: l => by
    have e : countL (t :: l) = countN t + countL l := by rw [countL]
    have h1 := len_countL l
    have h2 : 1 ≤ countN t := by cases t; rw [countN_eq]; omega
    simp only [List.length_cons]; omega
/-- A closed part: a text, or an element. -/
theorem TreeIn.inv {H : OMap} {b hi : Nat} {t : TNode} (h : TreeIn H b t hi) : (∃ s, t = tText s ∧ H b = some ⟨none, [], [], s, []⟩) ∨
    ∃ nb n a ks ps, t = tElem n a ps ∧ H b = some ⟨some nb, n, a, [], ks⟩ ∧ KidsIn H (b + 1) ks ps hi := by
  cases h with
  | text _ t _ h hb => exact .inl ⟨_, rfl, h⟩
  | elem _ nb n a ks ps _ h hn hk => exact .inr ⟨nb, n, a, ks, ps, rfl, h, hk⟩
theorem NodeIn.nil (P : Nat → Prop) (w : World) : ∀ d : Nat, NodeIn P d w (.slice none 0 0) []
  | 0 => ⟨rfl, _, _, rfl⟩
  | d + 1 => ⟨⟨_, _, rfl⟩, fun i t hi => by simp at hi⟩
theorem attrView_nil (w : World) : AttrView w (.slice none 0 0) [] := ⟨⟨_, _, rfl⟩, fun i t hi => by simp at hi⟩

section
variable {B : Nat} {bb root : Nat} {H : OMap} {pv : Nat → Value} {bs : List Nat} {sv : Value} {c : Nat} {m : Bytes}

set_option maxHeartbeats 4000000 in
set_option maxRecDepth 100000 in
theorem nodes_any : ∀ (d : Nat) (w : World), BW B w bb root H pv bs sv c m → ∀ (b : Nat) (r : ORec) (ps : List TNode) (hi : Nat), H b = some r → KidsIn H (b + 1) r.kids ps hi → deepL ps ≤ d → countL ps ≤ 1000000 →
    Calls Tryd.prog 30 #[ptr b] w fun e w' => ∃ v, e = .returned v ∧ NodeIn (fun g => w.heap.size ≤ g) (d + 1) w' v ps ∧ Below w.heap.size w w' := by
  intro d
  induction d using Nat.strongRecOn with
  | _ d ih =>
  intro w hbw b r ps hi hr hk hd hct
  have HIH := Lib.hid ih
  have HB := Lib.hid hbw
  have HK := Lib.hid hk
  have HD := Lib.hid hd
  have hrec := hbw.recs b r hr
  obtain ⟨-, d1, -, -, -, -⟩ := hrec.cells
  obtain ⟨a0, cap0, hpv⟩ := ownsRow_slice hrec.own
  rw [hpv] at d1
  have hown := hrec.own
  rw [hpv] at hown
  have HOWN := Lib.hid hown
  have hn : r.kids.length ≤ 1000000 := by rw [hk.len]; exact Nat.le_trans (len_countL ps) hct
  have HCT := Lib.hid hct
  have hln := hk.len
  clear ih hbw hk hd hrec hpv hown hct hr
  generalize r.kids = ks at *
  unfold ptr
  go_enter Tryd.func30, Tryd.ntmps30
  go_wp2_with fail
  go_loopg [3, 12] ks.length (fun g u i wx => ∃ (W : World) (j : Nat) (v : Value), W = wx ∧ i = .int .i64 j ∧ v = u ∧ j + g = ks.length ∧ Hid (NodeOwn d w.heap.size wx v (ps.take j)) ∧ Hid (Below w.heap.size w wx))
  case atStart => exact ⟨_, 0, _, rfl, rfl, rfl, by omega, Lib.hid (NodeOwn.nil _ _ _), Lib.hid (Below.refl _ _)⟩
  case round =>
    obtain ⟨wr, j, v, rfl, rfl, rfl, hj, hno, hbl⟩ := hrel
    by_cases hlt : j < ks.length
    · obtain ⟨n, rfl⟩ : ∃ n, gk = n + 1 := ⟨gk - 1, by omega⟩
      obtain ⟨t, ht⟩ : ∃ t, ps[j]? = some t := ⟨_, List.getElem?_eq_getElem (by omega)⟩
      obtain ⟨k, mid, hkj, htr, -, -⟩ := HK.out.get j t ht
      have HT := Lib.hid ht
      have hHr := HB.out.older (.of_below hbl.out)
      have HBr := Lib.hid hHr
      obtain ⟨g0, capx, hv0, hc0, hcell0⟩ := own_ptrs HOWN.out hkj
      have hcell := (hbl.out.cell (p := ⟨g0, j, none⟩) (by have h1 := HOWN.out; rw [hv0] at h1; obtain ⟨_, h2, _⟩ := own_type h1 (g := g0) rfl; exact lt_of_block h2)).trans hcell0
      cases hv0
      unfold ptr at hcell
      clear hcell0
      have hz1 : (j : Int) < ks.length := by omega
      have hz0 : (0 : Int) ≤ j := by omega
      have htake : ps.take (j + 1) = ps.take j ++ [t] := by rw [List.take_add_one, HT.out]; rfl
      have HTK := Lib.hid htake
      have hNl : (ps.take j).length ≤ 1000000 := by rw [List.length_take]; omega
      clear hkj htake
      rcases htr.inv with ⟨s, rfl, hHk⟩ | ⟨nb, nm, at', ks', ps', rfl, hHk, hkk⟩
      · obtain ⟨-, -, e2, e3, -, -⟩ := (HBr.out.recs k _ hHk).cells
        have e2' : wr.cell? ⟨k, 2, none⟩ = some (.string (mk s)) := e2
        have e3' : wr.cell? ⟨k, 3, none⟩ = some (.bool false) := e3
        clear e2 e3 hHk htr
        go_wp2_with (at_builtin; go_must (refine wpList_pushNode (by rfl) (.tmp 21) (.tmp 27) (by rfl) d w.heap.size _ (ps.take j) (tText s) (.slice none 0 0) (.slice none 0 0) wr _ (by rfl) (by rfl) hno.out (attrView_nil _) (NodeIn.nil _ _ _) wr.heap.size rfl (by rfl) hNl hbl.out.size ?_); intro v' w' hown' hbl'; have HOW := Lib.hid hown'; have HBL := Lib.hid (hbl.out.trans hbl'); clear hown' hbl')
        go_roundg n
        case measure => omega
        case rel => exact ⟨_, j + 1, _, rfl, by go_num, rfl, by omega, by rw [HTK.out]; exact HOW, HBL⟩
      · obtain ⟨d', rfl⟩ : ∃ d', d = d' + 1 := ⟨d - 1, by have h1 := deepN_mem (List.mem_of_getElem? HT.out); have h2 := HD.out; rw [tElem, deepN_eq] at h1; omega⟩
        have hd' : deepL ps' ≤ d' := by have h1 := deepN_mem (List.mem_of_getElem? HT.out); have h2 := HD.out; rw [tElem, deepN_eq] at h1; omega
        have hct' : countL ps' ≤ 1000000 := by have h1 := countN_mem (List.mem_of_getElem? HT.out); have h2 := HCT.out; rw [tElem, countN_eq] at h1; omega
        have hrec := HBr.out.recs k _ hHk
        obtain ⟨e0, -, -, e3, -, -⟩ := hrec.cells
        have e0' : wr.cell? ⟨k, 0, none⟩ = some (.pointer (some ⟨nb, 0, none⟩)) := e0
        have e3' : wr.cell? ⟨k, 3, none⟩ = some (.bool true) := e3
        obtain ⟨av0, hnb, hat⟩ := hrec.node nb rfl
        obtain ⟨⟨a1, c1, hform⟩, -⟩ := id hat
        subst hform
        have n0 : wr.cell? ⟨nb, 0, none⟩ = some (.string (mk nm)) := by rw [Lib.cell_of_heap hnb]; rfl
        have n1 : wr.cell? ⟨nb, 1, none⟩ = some (.slice a1 at'.length c1) := by rw [Lib.cell_of_heap hnb]; rfl
        have n2 : wr.cell? ⟨nb, 2, none⟩ = some (.string ⟨#[]⟩) := by rw [Lib.cell_of_heap hnb]; rfl
        have n3 : wr.cell? ⟨nb, 3, none⟩ = some (.slice none 0 0) := by rw [Lib.cell_of_heap hnb]; rfl
        have HAT := Lib.hid hat
        have HKK := Lib.hid hkk
        have HHK := Lib.hid hHk
        clear e0 e3 hHk hrec hnb hat hkk htr
        go_upto_region 8 with fail
        obtain ⟨w1, hw1⟩ : ∃ w1, w1 = wr.alloc (.cells #[.string (mk nm), .slice a1 at'.length c1, .string ⟨#[]⟩, .slice none 0 0] 41) := ⟨_, rfl⟩
        rw [← hw1]
        have hb1 : Below wr.heap.size wr w1 := by rw [hw1]; exact (Below.refl _ _).alloc (Nat.le_refl _) _
        have hN1 : w1.heap[wr.heap.size]? = some (.cells #[.string (mk nm), .slice a1 at'.length c1, .string ⟨#[]⟩, .slice none 0 0] 41 (0, 0)) := by rw [hw1]; exact heap_alloc_new _ _
        have hz1' : w1.heap.size = wr.heap.size + 1 := by rw [hw1]; simp
        have HW1 := Lib.hid hb1
        have HN1 := Lib.hid hN1
        have HCALL := Lib.hid (HIH.out d' (by omega) w1 (HBr.out.older (.of_below hb1)) k _ ps' mid HHK.out HKK.out hd' hct')
        clear hw1 hb1 hN1 e0' e3' n0 n1 n2 n3 hcell
        unfold ptr at HCALL
        go_wp2_with fail
        refine HCALL.out.mono ?_
        rintro e w2 ⟨v2, rfl, hv2, hb2⟩
        obtain ⟨a2, c2, hform⟩ := hv2.form
        subst hform
        generalize hL2 : ps'.length = L2 at *
        clear hL2
        have HV2 := Lib.hid hv2
        have HB2 := Lib.hid hb2
        have hN2 := (hb2.block wr.heap.size (by omega)).trans HN1.out
        have y1 : w2.cell? ⟨wr.heap.size, 3, none⟩ = some (.slice none 0 0) := by rw [Lib.cell_of_heap hN2]; rfl
        have y2 : w2.frozen? ⟨wr.heap.size, 3, none⟩ = false := Lib.frozen_of_heap hN2 3
        have HN2 := Lib.hid hN2
        clear hv2 hb2 hN2
        go_upto_region 9 with fail
        obtain ⟨w3, hw3⟩ : ∃ w3, w3 = w2.setCell ⟨wr.heap.size, 3, none⟩ (.slice a2 L2 c2) := ⟨_, rfl⟩
        rw [← hw3]
        have hN3 : w3.heap[wr.heap.size]? = some (.cells #[.string (mk nm), .slice a1 at'.length c1, .string ⟨#[]⟩, .slice a2 L2 c2] 41 (0, 0)) := by rw [hw3]; simp [World.setCell, Array.getElem?_modify, HN2.out]
        have hb3 : Below wr.heap.size wr w3 := by rw [hw3]; exact (HW1.out.trans (HB2.out.mono (by omega))).setCell (p := ⟨wr.heap.size, 3, none⟩) (Nat.le_refl _) _
        have hv3 : NodeIn (fun g => w.heap.size ≤ g ∧ v.ownBlock ≠ some g) (d' + 1) w3 (.slice a2 L2 c2) ps' := by
          rw [hw3]
          refine HV2.out.stay (fun g cs hg => Below.heap_setCell _ _ _ _ (type_ne hg HN2.out (by decide))) fun g cs hp hg => ⟨⟨?_, fun e => ?_⟩, Below.heap_setCell _ _ _ _ (by have hp' : w1.heap.size ≤ g := hp; show g ≠ wr.heap.size; omega)⟩
          · have := hbl.out.size; omega
          · have := hno.out.block e; omega
        have HV3 := Lib.hid hv3
        have HB3 := Lib.hid hb3
        have m0 : w3.cell? ⟨wr.heap.size, 0, none⟩ = some (.string (mk nm)) := by rw [Lib.cell_of_heap hN3]; rfl
        have m1 : w3.cell? ⟨wr.heap.size, 1, none⟩ = some (.slice a1 at'.length c1) := by rw [Lib.cell_of_heap hN3]; rfl
        have m2 : w3.cell? ⟨wr.heap.size, 2, none⟩ = some (.string ⟨#[]⟩) := by rw [Lib.cell_of_heap hN3]; rfl
        have m3 : w3.cell? ⟨wr.heap.size, 3, none⟩ = some (.slice a2 L2 c2) := by rw [Lib.cell_of_heap hN3]; rfl
        clear hw3 hN3 hb3 hv3 y1 y2 HCALL
        have hBw3 : w.heap.size ≤ w3.heap.size := Nat.le_trans hbl.out.size HB3.out.size
        go_wp2_with (at_builtin; go_must (refine wpList_pushNode (by rfl) (.tmp 38) (.tmp 40) (by rfl) (d' + 1) w.heap.size _ (ps.take j) (tElem nm at' ps') (.slice a1 at'.length c1) (.slice a2 L2 c2) w3 _ (by rfl) (by rfl) (hno.out.older (.of_below HB3.out)) (HAT.out.older (.of_below HB3.out)) HV3.out w3.heap.size rfl (by rfl) hNl hBw3 ?_); intro v' w' hown' hbl'; have HOW := Lib.hid hown'; have HBL := Lib.hid ((hbl.out.trans (HB3.out.mono hbl.out.size)).trans hbl'); clear hown' hbl')
        go_roundg n
        case measure => omega
        case rel => exact ⟨_, j + 1, _, rfl, by go_num, rfl, by omega, by rw [HTK.out]; exact HOW, HBL⟩
    · obtain rfl : j = ks.length := by omega
      go_wp2_with fail
      go_ret
      refine ⟨_, rfl, ?_, hbl.out⟩
      have h1 := hno.out.view
      rw [show ps.take ks.length = ps by rw [hln]; exact List.take_length] at h1
      exact h1
end

end Go.Proofs.YtemomhanchiipaaDoor
