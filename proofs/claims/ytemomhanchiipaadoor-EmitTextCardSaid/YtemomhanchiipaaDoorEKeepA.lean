/- Walk of the row's function: EmitText. -/
import Derived.Test.YtemomhanchiipaaDoorEWalkF
import Derived.Test.YtemomhanchiipaaDoorSame
namespace Go.Proofs.YtemomhanchiipaaDoor
open Go Go.RowKit

theorem attrNone (w : World) : AttrView w (.slice none 0 0) [] := ⟨⟨_, _, rfl⟩, fun i t hi => by simp at hi⟩
/-- A token laid in a row of its own. -/
theorem tokOne (B : Nat) (w : World) (t : TTok) (av : Value) (hav : AttrView w av t.attrs) (hB : B ≤ w.heap.size) :
    TokOwn B (w.alloc (.cells #[.int .i64 t.kind, .string (mk t.name), av, .bool t.self, .string (mk t.text)] 33)) (.slice (some ⟨w.heap.size, 0, none⟩) 1 1) [t] := by
  have h := heap_alloc_new w (.cells #[.int .i64 t.kind, .string (mk t.name), av, .bool t.self, .string (mk t.text)] 33)
  have hb := (Below.refl w.heap.size w).alloc (Nat.le_refl _) (.cells #[.int .i64 t.kind, .string (mk t.name), av, .bool t.self, .string (mk t.text)] 33)
  refine ⟨[(t, av)], rfl, ⟨rfl, .inr ⟨w.heap.size, 1, _, rfl, hB, h, Nat.le_refl 1, by decide, rfl, rfl⟩⟩, fun p hp => ?_⟩
  cases List.mem_singleton.1 hp
  exact hav.older (.of_below hb)
/-- An attribute laid in a row of its own. -/
theorem attrOne (w : World) (a : TAttr) : AttrView (w.alloc (.cells #[.string (mk a.name), .string (mk a.value)] 44)) (.slice (some ⟨w.heap.size, 0, none⟩) 1 1) [a] := by
  have h := heap_alloc_new w (.cells #[.string (mk a.name), .string (mk a.value)] 44)
  refine ⟨⟨_, _, rfl⟩, fun i t hi => ?_⟩
  cases i with
  | succ i => simp at hi
  | zero =>
    cases hi
    exact ⟨_, _, rfl, Nat.le_refl _, ⟨_, h⟩, by rw [Lib.cell_of_heap h]; rfl, by rw [Lib.cell_of_heap h]; rfl⟩

def tHref (B : Bytes) : TTok := ⟨1, [97], [⟨[104, 114, 101, 102], B⟩], false, []⟩
def tChars (A : Bytes) : TTok := ⟨3, [], [], false, A⟩
def tEndA : TTok := ⟨2, [97], [], false, []⟩
def textToksE (A B : Bytes) : List TTok := tHref B :: ((if A = [] then [] else [tChars A]) ++ [tEndA])

theorem check_textToks (A B : Bytes) : checkM (textToksE A B) = 0 := by
  unfold textToksE
  by_cases h : A = []
  · rw [if_pos h]; rfl
  · rw [if_neg h]
    have h0 : (A == []) = false := beq_eq_false_iff_ne.2 h
    have h1 : checkFrom 1 [tChars A, tEndA] = 0 := by
      show (if oddM (tChars A) 1 [tEndA] = true then (4 : Int) else checkFrom 3 [tEndA]) = 0
      have h2 : oddM (tChars A) 1 [tEndA] = false := by
        show ((A == []) || !(([] : Bytes) == []) || !([] : List TAttr).isEmpty || false || ((1 : Int) == 3)) = false
        rw [h0]; rfl
      rw [h2]; rfl
    exact h1
theorem texts_textToks (A B : Bytes) : (tokTexts (textToksE A B)).length = 15 + (escM true B).length + (escM false A).length := by
  have h1 : ∀ r, tokTexts (tHref B :: r) = tagText [97] [⟨[104, 114, 101, 102], B⟩] false ++ tokTexts r := fun r => rfl
  have h2 : tokTexts [tEndA] = [60, 47, 97, 62] := rfl
  have h3 : (tagText [97] [⟨[104, 114, 101, 102], B⟩] false).length = 11 + (escM true B).length := by
    unfold tagText tagTail attrTexts attrTexts attrText
    simp only [List.length_append, List.length_cons, List.length_nil, if_neg Bool.false_ne_true]; omega
  unfold textToksE
  rw [h1, List.length_append, h3]
  by_cases h : A = []
  · rw [if_pos h, h]
    show 11 + (escM true B).length + (tokTexts [tEndA]).length = 15 + (escM true B).length + 0
    rw [h2]; simp only [List.length_cons, List.length_nil]; omega
  · rw [if_neg h]
    show 11 + (escM true B).length + (escM false A ++ tokTexts [tEndA]).length = _
    rw [h2, List.length_append]; simp only [List.length_cons, List.length_nil]; omega
theorem sz_textToks (A B : Bytes) (hA : A.length ≤ 1000) (hB : B.length ≤ 1000) : ∀ t ∈ textToksE A B, TokSz 1000 t := by
  intro t ht
  unfold textToksE at ht
  rcases List.mem_cons.1 ht with rfl | ht
  · exact ⟨by show ([97] : Bytes).length ≤ 1000; decide, by show ([] : Bytes).length ≤ 1000; decide, by show 1 ≤ 1000; omega, fun a ha => by cases List.mem_singleton.1 ha; exact ⟨by show ([104, 114, 101, 102] : Bytes).length ≤ 1000; decide, hB⟩⟩
  · rcases List.mem_append.1 ht with ht | ht
    · by_cases h : A = []
      · rw [if_pos h] at ht; cases ht
      · rw [if_neg h] at ht
        cases List.mem_singleton.1 ht
        exact ⟨by show ([] : Bytes).length ≤ 1000; decide, hA, by show 0 ≤ 1000; omega, fun a ha => by cases ha⟩
    · cases List.mem_singleton.1 ht
      exact ⟨by decide, by decide, by decide, fun a ha => by cases ha⟩
theorem len_textToks (A B : Bytes) : (textToksE A B).length ≤ 3 := by
  unfold textToksE
  split <;> simp

/-- Behind the making of the tokens. -/
theorem emitText_end (A B : Bytes) : emitM (textToksE A B) = (if 600 < (tokTexts (textToksE A B)).length then ([], 1) else (tokTexts (textToksE A B), 0)) := by
  unfold emitM
  rw [if_neg (by rw [check_textToks]; simp)]

set_option maxHeartbeats 4000000 in
set_option maxRecDepth 100000 in
theorem emitText_any (s v : ByteArray) (w : World) (hg : Glob w) :
    Calls Tryd.prog 6 #[.string s, .string v] w fun e w' => e = .returned (.bool true) ∧ Below w.heap.size w w' := by
  have HG := Lib.hid hg
  clear hg
  obtain ⟨m, hm⟩ : ∃ m : Nat, min (s.size : Int) 60 = m := ⟨min s.size 60, by omega⟩
  obtain ⟨n, hn⟩ : ∃ n : Nat, min (v.size : Int) 60 = n := ⟨min v.size 60, by omega⟩
  have m1 : (m : Int) ≤ s.size := by omega
  have n1 : (n : Int) ≤ v.size := by omega
  have m0 : (0 : Int) ≤ m := by omega
  have n0 : (0 : Int) ≤ n := by omega
  have hAz : (s.extract 0 m).size ≤ 60 := by rw [ByteArray.size_extract]; omega
  have hBz : (v.extract 0 n).size ≤ 60 := by rw [ByteArray.size_extract]; omega
  obtain ⟨A, hA⟩ : ∃ A, s.extract 0 m = mk A := ⟨lst _, (mk_lst _).symm⟩
  obtain ⟨B, hB⟩ : ∃ B, v.extract 0 n = mk B := ⟨lst _, (mk_lst _).symm⟩
  rw [hA, mk_size] at hAz
  rw [hB, mk_size] at hBz
  have HA := Lib.hid hA
  have HB := Lib.hid hB
  clear hA hB
  obtain ⟨w1, hw1⟩ : ∃ w1, w1 = w.alloc (.cells #[.string ⟨#[104, 114, 101, 102]⟩, .string (mk B)] 44) := ⟨_, rfl⟩
  have hb1 : Below w.heap.size w w1 := by rw [hw1]; exact (Below.refl _ _).alloc (Nat.le_refl _) _
  have hat : AttrView w1 (.slice (some ⟨w.heap.size, 0, none⟩) 1 1) [⟨[104, 114, 101, 102], B⟩] := by rw [hw1]; exact attrOne w ⟨[104, 114, 101, 102], B⟩
  obtain ⟨w2, hw2⟩ : ∃ w2, w2 = w1.alloc (.cells #[.int .i64 1, .string ⟨#[97]⟩, .slice (some ⟨w.heap.size, 0, none⟩) 1 1, .bool false, .string ⟨#[]⟩] 33) := ⟨_, rfl⟩
  have hb2 : Below w1.heap.size w1 w2 := by rw [hw2]; exact (Below.refl _ _).alloc (Nat.le_refl _) _
  have ho2 : TokOwn w.heap.size w2 (.slice (some ⟨w1.heap.size, 0, none⟩) 1 1) [tHref B] := by rw [hw2]; exact tokOne w.heap.size w1 (tHref B) _ hat hb1.size
  have z1 : w1.heap.size = w.heap.size + 1 := by rw [hw1]; simp
  rw [z1] at ho2
  have hb12 := hb1.trans (hb2.mono hb1.size)
  have HB12 := Lib.hid hb12
  have HO2 := Lib.hid ho2
  have HW1 := Lib.hid hw1
  have HW2 := Lib.hid hw2
  clear hw1 hw2 hat hb1 hb2 ho2 hb12 z1
  go_enter Tryd.func6, Tryd.ntmps6
  go_upto_region 3 with fail
  rw [HA.out, HB.out]
  go_upto_if 28 with (fail)
  rw [← HW1.out, ← HW2.out]
  go_cut [7] (fun v wx => TokOwn w.heap.size wx v (tHref B :: (if A = [] then [] else [tChars A])) ∧ Hid (Below w.heap.size w wx))
  case first =>
    by_cases hA : A = []
    · have f3 := sEmpT hA
      have HAE := Lib.hid hA
      clear hA
      rw [f3, Bool.not_true]
      clear f3
      go_wp2_with fail
      go_meet
      exact ⟨by rw [if_pos HAE.out]; exact HO2.out, HB12⟩
    · have f3 := sEmpF hA
      have HAE := Lib.hid hA
      clear hA
      rw [f3, Bool.not_false]
      clear f3
      have hba := (Below.refl w2.heap.size w2).alloc (Nat.le_refl _) (.cells #[.int .i64 3, .string ⟨#[]⟩, .slice none 0 0, .bool false, .string (mk A)] 33)
      have HOA := Lib.hid (HO2.out.older (.of_below hba))
      have HVA := Lib.hid (show TokView (w2.alloc (.cells #[.int .i64 3, .string ⟨#[]⟩, .slice none 0 0, .bool false, .string (mk A)] 33)) (.slice (some ⟨w2.heap.size, 0, none⟩) 1 1) [tChars A] from (tokOne w2.heap.size w2 (tChars A) (.slice none 0 0) (attrNone _) (Nat.le_refl _)).view)
      have HBA := Lib.hid (HB12.out.trans (hba.mono HB12.out.size))
      have hzA := HBA.out.size
      clear hba
      go_wp2_with (at_builtin; refine wpList_append_toks (by rfl) (.tmp 29) (.tmp 32) (by rfl) w.heap.size _ _ [tHref B] [tChars A] (by rfl) (by rfl) HOA.out HVA.out (by simp) (by simp) hzA ?_; intro v6 w6 hown6 hgr6; have HO6 := Lib.hid hown6; have HB6 := Lib.hid (HBA.out.trans (grown_below hgr6 HOA.out hzA)); clear hown6 hgr6)
      go_meet
      exact ⟨by rw [if_neg HAE.out]; exact HO6.out, HB6⟩
  case rest =>
    obtain ⟨ho, hb⟩ := hcut
    have hl2 : (tHref B :: (if A = [] then [] else [tChars A])).length ≤ 1000000 := by split <;> simp
    have hba := (Below.refl wc.heap.size wc).alloc (Nat.le_refl _) (.cells #[.int .i64 2, .string ⟨#[97]⟩, .slice none 0 0, .bool false, .string ⟨#[]⟩] 33)
    have HOA := Lib.hid (ho.older (.of_below hba))
    have HVA := Lib.hid (show TokView (wc.alloc (.cells #[.int .i64 2, .string ⟨#[97]⟩, .slice none 0 0, .bool false, .string ⟨#[]⟩] 33)) (.slice (some ⟨wc.heap.size, 0, none⟩) 1 1) [tEndA] from (tokOne wc.heap.size wc tEndA (.slice none 0 0) (attrNone _) (Nat.le_refl _)).view)
    have HBA := Lib.hid (hb.out.trans (hba.mono hb.out.size))
    have hzA := HBA.out.size
    obtain ⟨va, vc, hvf⟩ := ho.view.form
    subst hvf
    have HL := Lib.hid (show (tHref B :: (if A = [] then [] else [tChars A])) ++ [tEndA] = textToksE A B from rfl)
    generalize hT : (tHref B :: (if A = [] then [] else [tChars A])) = T at *
    have HT := Lib.hid hT
    clear hT hba ho
    go_upto_region 7 with (at_builtin; refine wpList_append_toks (by rfl) (.tmp 34) (.tmp 36) (by rfl) w.heap.size _ _ T [tEndA] (by rfl) (by rfl) HOA.out HVA.out hl2 (by simp) hzA ?_; intro v7 w7 hown7 hgr7; rw [HL.out] at hown7; have HO7 := Lib.hid hown7.view; have HB7 := Lib.hid (HBA.out.trans (grown_below hgr7 HOA.out hzA)); clear hown7 hgr7)
    have HE := Lib.hid (emitText_fn v7 (textToksE A B) w7 HO7.out (Nat.le_trans (len_textToks A B) (by omega)) (sz_textToks A B (by omega) (by omega)))
    rw [emitText_end A B] at HE
    have hbk := emit_back (textToksE A B) (check_textToks A B)
    have hlen := texts_textToks A B
    have hA1 := escM_len false A
    have hB1 := escM_len true B
    have hA2 := hA1.2.2 rfl
    have hSM := fun W v2 h1 h2 => sameTokens_any v7 v2 (textToksE A B) (Nat.le_trans (len_textToks A B) (by omega)) (fun t ht => Nat.le_trans (sz_textToks A B (by omega) (by omega) t ht).count (by omega)) W h1 h2
    have HSM := Lib.hid hSM
    have HBK := Lib.hid hbk
    obtain ⟨xa, xc, hxf⟩ := HO7.out.form
    have hlt := len_textToks A B
    clear hbk hSM HL
    generalize tokTexts (textToksE A B) = X at *
    generalize textToksE A B = TT at *
    subst hxf
    by_cases h6 : 600 < X.length
    · rw [if_pos h6] at HE
      have b9 : (90 : Int) < (A.length : Int) + B.length := by omega
      have hAs : (mk A).size = A.length := mk_size A
      have hBs : (mk B).size = B.length := mk_size B
      have b9' : (90 : Int) < ((mk A).size : Int) + (mk B).size := by rw [hAs, hBs]; exact b9
      have b10 : 90 < (mk A).size + (mk B).size := by omega
      have b11 : IntKind.i64.wrap (((mk A).size : Int) + (mk B).size) = ((mk A).size : Int) + (mk B).size := IntWalk.i64_in _ (by omega)
      clear hAs hBs b9
      go_wp2_with fail
      refine HE.out.mono ?_
      rintro e w8 ⟨rfl, hb8⟩
      have HB8 := Lib.hid (HB7.out.trans (hb8.mono HB7.out.size))
      clear hb8
      go_wp2_with fail
      go_ret
      exact ⟨rfl, HB8.out⟩
    · rw [if_neg h6] at HE
      have hXs : (mk X).size = X.length := mk_size X
      have b15 : (15 : Int) ≤ ((mk X).size : Int) := by omega
      have b15' : 15 ≤ (mk X).size := by omega
      have hX6 : (mk X).size ≤ 600 := by omega
      clear hXs h6
      go_wp2_with fail
      refine HE.out.mono ?_
      rintro e w8 ⟨rfl, hb8⟩
      have HB8 := Lib.hid (HB7.out.trans (hb8.mono HB7.out.size))
      have HO8 := Lib.hid (HO7.out.older (.of_below hb8))
      have HP := Lib.hid (parse_any (mk X) w8 (HG.out.below HB8.out HG.out.size) hX6)
      rw [lst_mk, HBK.out] at HP
      clear hb8
      go_wp2_with fail
      refine HP.out.mono ?_
      rintro e w9 ⟨tv, rfl, htr, hb9⟩
      have HB9 := Lib.hid (HB8.out.trans (hb9.mono HB8.out.size))
      have HC := Lib.hid (HSM.out w9 tv (HO8.out.older (.of_below hb9)) htr.view)
      clear htr hb9
      go_wp2_with fail
      refine HC.out.mono ?_
      rintro e w10 ⟨rfl, q, rfl⟩
      go_wp2_with fail
      go_ret
      exact ⟨rfl, ⟨HB9.out.os, HB9.out.tape, HB9.out.output, HB9.out.size, HB9.out.block⟩⟩

end Go.Proofs.YtemomhanchiipaaDoor
