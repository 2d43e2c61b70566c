/- Walk of the row's function: TopStyle. -/
import Derived.Test.YtpbcalbolnlojaaGreatDoorJYKeepA
import Derived.Test.YtpbcalbolnlojaaGreatDoorGm
namespace Go.Proofs.YtpbcalbolnlojaaGreatDoor
open Go Go.RowKit

theorem tokOneY (B : Nat) (w : World) (t : TTok) (av : Value) (hav : AttrView w av t.attrs) (hB : B ≤ w.heap.size) :
    TokOwn B (w.alloc (.cells #[.int .i64 t.kind, .string (mk t.name), av, .bool t.self, .string (mk t.text)] 33)) (.slice (some ⟨w.heap.size, 0, none⟩) 1 1) [t] := by
  have h := heap_alloc_new w (.cells #[.int .i64 t.kind, .string (mk t.name), av, .bool t.self, .string (mk t.text)] 33)
  have hb := (Below.refl w.heap.size w).alloc (Nat.le_refl _) (.cells #[.int .i64 t.kind, .string (mk t.name), av, .bool t.self, .string (mk t.text)] 33)
  refine ⟨[(t, av)], rfl, ⟨rfl, .inr ⟨w.heap.size, 1, _, rfl, hB, h, Nat.le_refl 1, by decide, rfl, rfl⟩⟩, fun p hp => ?_⟩
  cases List.mem_singleton.1 hp
  exact hav.older (.of_below hb)
theorem attrOneY (w : World) (a : TAttr) : AttrView (w.alloc (.cells #[.string (mk a.name), .string (mk a.value)] 30)) (.slice (some ⟨w.heap.size, 0, none⟩) 1 1) [a] := by
  have h := heap_alloc_new w (.cells #[.string (mk a.name), .string (mk a.value)] 30)
  refine ⟨⟨_, _, rfl⟩, fun i t hi => ?_⟩
  cases i with
  | succ i => simp at hi
  | zero =>
    cases hi
    exact ⟨_, _, rfl, Nat.le_refl _, ⟨_, h⟩, by rw [Lib.cell_of_heap h]; rfl, by rw [Lib.cell_of_heap h]; rfl⟩

theorem declCells_length (l : List TDecl) : (declCells l).length = l.length * 2 := by
  induction l with
  | nil => rfl
  | cons d l ih =>
    have e : declCells (d :: l) = .string (mk d.name) :: .string (mk d.value) :: declCells l := by simp [declCells]
    rw [e, List.length_cons, List.length_cons, ih, List.length_cons]; omega
/-- A copy of a row of declarations: append([]Decl(nil), l...). -/
theorem run_copy_decls (B : Nat) (w : World) (tv : Value) (l : List TDecl) (ty : TypeId) (h : DRow B w tv l) (hl : l.length ≤ 1000) :
    ∃ v' w', (Builtin.append_ #[23, 23] ty #[.slice none 0 0, tv]).run Tryz.prog w = .ok v' w' ∧ DRow w.heap.size w' v' l ∧ Below w.heap.size w w' := by
  obtain ⟨i0, hi0, hz0, hz1, hz2⟩ := info_parts infoDecl
  rcases Nat.eq_zero_or_pos l.length with h0 | h0
  · have hl0 : l = [] := List.eq_nil_of_length_eq_zero h0
    subst hl0
    obtain ⟨A, C, hv⟩ := ownsRow_slice h
    subst hv
    cases A with
    | none => exact ⟨_, w, run_append_of_nil w w.heap.size 23 ty 39 i0 2 Tryz.underlying23 hi0 (.slice none 0 0) 0 [] (World.ownsRow_nil w _ _ _) C, DRow.nil _ _, Below.refl _ _⟩
    | some ad =>
      obtain ⟨v', w', hr, k2, k3, _⟩ := run_append_own (P := Tryz.prog) w w.heap.size 23 ty 39 i0 _ 2 32 Tryz.underlying23 hi0 hz0 hz1 hz2 rfl (by decide) (.slice none 0 0) 0 [] (World.ownsRow_nil w _ _ _) ad 0 C [] rfl (fun j u h => by simp at h) (fun u h => by cases h) (by unfold maxLen; omega) (by omega) (Nat.le_refl _)
      exact ⟨v', w', hr, by unfold DRow; simpa [declCells] using k2, row_grown_below (tv := .slice none 0 0) k3 (World.ownsRow_nil w w.heap.size 39 2) (Nat.le_refl _)⟩
  · obtain ⟨g, cap, rfl, _, _, _, _, h5, _⟩ := ownsRow_cells h h0
    have hcells : ∀ j u, (declCells l)[j]? = some u → w.cell? ((⟨g, 0, none⟩ : Addr).add j) = some u := by
      intro j u hu
      have hadd : (⟨g, 0, none⟩ : Addr).add j = ⟨g, j, none⟩ := by unfold Addr.add; split <;> simp_all
      rw [hadd]
      exact h5 j u hu
    have hone : ∀ u ∈ declCells l, u.oneCell' = true := by
      intro u hu
      obtain ⟨d, _, hu⟩ := List.mem_flatMap.1 hu
      simp only [List.mem_cons, List.not_mem_nil, or_false] at hu
      rcases hu with rfl | rfl <;> rfl
    obtain ⟨v', w', hr, k2, k3, _⟩ := run_append_own (P := Tryz.prog) w w.heap.size 23 ty 39 i0 _ 2 32 Tryz.underlying23 hi0 hz0 hz1 hz2 rfl (by decide) (.slice none 0 0) 0 [] (World.ownsRow_nil w _ _ _) ⟨g, 0, none⟩ l.length cap (declCells l) (declCells_length l) hcells hone (by unfold maxLen; omega) (by omega) (Nat.le_refl _)
    exact ⟨v', w', hr, by unfold DRow; simpa using k2, row_grown_below (tv := .slice none 0 0) k3 (World.ownsRow_nil w w.heap.size 39 2) (Nat.le_refl _)⟩
theorem wpList_copy_decls {ops : Array Oper} {rest : List Oper} {o : Oper} {a : Act} {Q : Exit → Act → World → Prop} {w : World} (hw : Region.wanted o (yielded ops a.tmps) = true) (s x : Operand)
    (ho : o.op = .call { callee := .builtin .append, args := #[s, x], argTypes := #[23, 23] })
    (B : Nat) (tv : Value) (l : List TDecl) (hs : a.eval s = .slice none 0 0) (hx : a.eval x = tv) (h1 : DRow B w tv l) (hl : l.length ≤ 1000)
    (h : ∀ v' w', DRow w.heap.size w' v' l → Below w.heap.size w w' → wpList Tryz.prog ops Q rest (a.put o.dst v') w') : wpList Tryz.prog ops Q (o :: rest) a w := by
  refine wpList_guarded hw fun K hK => ?_
  obtain ⟨v', w', hr, k1, k2⟩ := run_copy_decls B w tv l o.type h1 hl
  unfold Oper.wp execOp
  simp only [ho, resolve, invoke, builtin, Sem.run_bind, Sem.run_pure, Result.andThen_ok, List.map_toArray, List.map_cons, List.map_nil, hs, hx, hr]
  exact hK _ _ (h v' w' k1 k2)

set_option maxHeartbeats 4000000 in
set_option maxRecDepth 100000 in
theorem topStyle_any (v : Value) (l : List Int) (w : World) (hg : Glob w) (h : IntRow w v l) :
    Calls Tryz.prog 3 #[v] w fun e w' => e = .returned (.bool true) ∧ Below w.heap.size w w' := by
  have HG := Lib.hid hg
  have HD := Lib.hid (decls_any v l 8 (by decide) w h)
  clear hg h
  go_enter Tryz.func3, Tryz.ntmps3
  go_wp2_with fail
  refine HD.out.mono ?_
  rintro e w1 ⟨tv, L, rfl, hd, hin, hl8, hb1⟩
  have HIN := Lib.hid hin
  have HDR := Lib.hid hd
  have HB1 := Lib.hid hb1
  obtain ⟨A, C, hv⟩ := ownsRow_slice hd
  subst hv
  clear hd hin hb1
  have hl1000 : L.length ≤ 1000 := by omega
  go_wp2_with (at_builtin; refine wpList_copy_decls (by rfl) (.const (.slice none 0 0)) (.tmp 16) (by rfl) w.heap.size _ L (by rfl) (by rfl) HDR.out hl1000 ?_; intro v2 w2 hd2 hb2; have HD2 := Lib.hid hd2; have HB2 := Lib.hid (HB1.out.trans (hb2.mono HB1.out.size)); have HDR2 := Lib.hid (HDR.out.below hb2); clear hd2 hb2)
  have HT := Lib.hid (styleText_any w1.heap.size v2 L w2 (HG.out.below HB2.out HG.out.size) HD2.out HIN.out hl8)
  refine HT.out.mono ?_
  rintro e w3 ⟨rfl, hb3⟩
  have HB3 := Lib.hid (HB2.out.trans (hb3.mono HB2.out.size))
  have HDR3 := Lib.hid (HDR2.out.below hb3)
  have hpt := declsText_parse L HIN.out
  have hsl := declsText_slash L HIN.out
  have hsn := declsText_len L HIN.out
  clear hb3
  generalize declsText L = S at *
  have HPT := Lib.hid hpt
  have HSL := Lib.hid hsl
  obtain ⟨w4, hw4⟩ : ∃ w4, w4 = w3.alloc (.cells #[.string ⟨#[115, 116, 121, 108, 101]⟩, .string (mk S)] 30) := ⟨_, rfl⟩
  have hb4 : Below w3.heap.size w3 w4 := by rw [hw4]; exact (Below.refl _ _).alloc (Nat.le_refl _) _
  have hat : AttrView w4 (.slice (some ⟨w3.heap.size, 0, none⟩) 1 1) [⟨[115, 116, 121, 108, 101], S⟩] := by rw [hw4]; exact attrOneY w3 ⟨[115, 116, 121, 108, 101], S⟩
  obtain ⟨w5, hw5⟩ : ∃ w5, w5 = w4.alloc (.cells #[.int .i64 1, .string ⟨#[112]⟩, .slice (some ⟨w3.heap.size, 0, none⟩) 1 1, .bool false, .string ⟨#[]⟩] 33) := ⟨_, rfl⟩
  have hb5 : Below w4.heap.size w4 w5 := by rw [hw5]; exact (Below.refl _ _).alloc (Nat.le_refl _) _
  have ho5 : TokOwn w4.heap.size w5 (.slice (some ⟨w4.heap.size, 0, none⟩) 1 1) [styleTok S] := by rw [hw5]; exact tokOneY w4.heap.size w4 (styleTok S) _ hat (Nat.le_refl _)
  have z4 : w4.heap.size = w3.heap.size + 1 := by rw [hw4]; simp
  rw [z4] at ho5
  have hb35 := hb4.trans (hb5.mono hb4.size)
  have HB5 := Lib.hid (HB3.out.trans (hb35.mono HB3.out.size))
  have HDR5 := Lib.hid (HDR3.out.below hb35)
  have HE := Lib.hid (emitText_fn _ [styleTok S] w5 ho5.view (by simp) (fun t ht => by
    cases List.mem_singleton.1 ht
    exact ⟨by show ([112] : Bytes).length ≤ 1000; decide, by show ([] : Bytes).length ≤ 1000; decide, by show 1 ≤ 1000; omega, fun a ha => by cases List.mem_singleton.1 ha; exact ⟨by show ([115, 116, 121, 108, 101] : Bytes).length ≤ 1000; decide, by show S.length ≤ 1000; omega⟩⟩))
  have HW4 := Lib.hid hw4
  have HW5 := Lib.hid hw5
  have hem : emitM [styleTok S] = (if 600 < (tokTexts [styleTok S]).length then ([], 1) else (tokTexts [styleTok S], 0)) := by
    unfold emitM
    rw [if_neg (by rw [style_check]; simp)]
  have htl := style_text S
  have hbk := style_back S
  have hes := (escM_len true S).2.1
  rw [hem] at HE
  have HBK := Lib.hid hbk
  clear hpt hsl hw4 hb4 hat hw5 hb5 ho5 z4 hb35 hem hbk
  generalize tokTexts [styleTok S] = X at *
  by_cases h6 : 600 < X.length
  · rw [if_pos h6] at HE
    have h4 : (4 : Int) < L.length := by omega
    have h4' : 4 < L.length := by omega
    clear h6 hes htl
    go_wp2_with fail
    rw [← HW4.out, ← HW5.out]
    refine HE.out.mono ?_
    rintro e w6 ⟨rfl, hb6⟩
    have HB6 := Lib.hid (HB5.out.trans (hb6.mono HB5.out.size))
    clear hb6
    go_wp2_with fail
    go_ret
    exact ⟨rfl, HB6.out⟩
  · rw [if_neg h6] at HE
    have hXs : (mk X).size ≤ 600 := by rw [mk_size]; omega
    clear h6 hes htl
    go_wp2_with fail
    rw [← HW4.out, ← HW5.out]
    refine HE.out.mono ?_
    rintro e w6 ⟨rfl, hb6⟩
    have HB6 := Lib.hid (HB5.out.trans (hb6.mono HB5.out.size))
    have HDR6 := Lib.hid (HDR5.out.below hb6)
    have HP := Lib.hid (parse_any (mk X) w6 (HG.out.below HB6.out HG.out.size) hXs)
    rw [lst_mk, HBK.out] at HP
    clear hb6
    go_wp2_with fail
    refine HP.out.mono ?_
    rintro e w7 ⟨tv7, rfl, htr, hb7⟩
    have HB7 := Lib.hid (HB6.out.trans (hb7.mono HB6.out.size))
    have HDR7 := Lib.hid (HDR6.out.below hb7)
    obtain ⟨g7, c7, va7, hf7, _, _, hg7, hat7, hav7⟩ := htr.view.get 0 (styleTok S) rfl
    obtain ⟨ta, tc, htf⟩ := htr.view.form
    subst htf
    obtain rfl : ta = some ⟨g7, 0, none⟩ := by simp at hf7; exact hf7.1
    obtain ⟨⟨Aa, ca, rfl⟩, hva⟩ := hav7
    obtain ⟨ga, _, hvf, _, ⟨cs, hga⟩, a0, a1⟩ := hva 0 ⟨[115, 116, 121, 108, 101], S⟩ rfl
    obtain rfl : Aa = some ⟨ga, 0, none⟩ := by simp at hvf; exact hvf.1
    have t2 : w7.cell? ⟨g7, 2, none⟩ = some (.slice (some ⟨ga, 0, none⟩) 1 ca) := hat7.attrs
    have b1 : w7.cell? ⟨ga, 1, none⟩ = some (.string (mk S)) := a1
    have HSP := Lib.hid (fun (X : World) (h : Below w7.heap.size w7 X) => styleParse_any (mk S) X (HG.out.below (HB7.out.trans (h.mono HB7.out.size)) HG.out.size) (by rw [mk_size]; omega) (by rw [lst_mk]; exact HSL.out))
    rw [show [styleTok S].length = 1 from rfl]
    have hl1 : (styleTok S).attrs.length = 1 := rfl
    clear hf7 htr hb7 hva hvf a0 a1 hat7 cs hga
    go_wp2_with fail
    refine (HSP.out w7 (Below.refl _ _)).mono ?_
    rintro e w8 ⟨v8, rfl, hd8, hb8⟩
    rw [lst_mk, HPT.out] at hd8
    have HB8 := Lib.hid (HB7.out.trans (hb8.mono HB7.out.size))
    have HDR8 := Lib.hid (HDR7.out.below hb8)
    have HBK8 := Lib.hid hd8
    obtain ⟨A8, C8, hv8⟩ := ownsRow_slice hd8
    subst hv8
    clear hd8 hb8 t2 b1
    go_wp2_with fail
    go_loopw [12] (fun vk wr => ∃ (k : Nat) (W : World), W = wr ∧ vk = .int .i64 k ∧ k ≤ L.length ∧ Hid (∃ n, W = w8.drewN n)) (fun vk _ => L.length - (intOf vk).toNat)
    case atStart => exact ⟨0, _, rfl, rfl, by omega, Lib.hid ⟨0, rfl⟩⟩
    case round =>
      obtain ⟨k, W, rfl, rfl, hk, hW⟩ := hrel
      by_cases hlt : k < L.length
      · obtain ⟨d, hd⟩ : ∃ d, L[k]? = some d := ⟨_, List.getElem?_eq_getElem hlt⟩
        obtain ⟨gb, cb, hvb, _, _, b0, b1⟩ := HBK8.out.get k d hd
        obtain ⟨gd, cd, hvd, _, _, d0, d1⟩ := HDR8.out.get k d hd
        obtain rfl : A8 = some ⟨gb, 0, none⟩ := by simp at hvb; exact hvb.1
        obtain rfl : A = some ⟨gd, 0, none⟩ := by simp at hvd; exact hvd.1
        have hcl : ∀ p, W.cell? p = w8.cell? p := by obtain ⟨n, hn⟩ := hW.out; rw [hn]; exact fun _ => rfl
        rw [← hcl] at b0 b1 d0 d1
        have k0 : (0 : Int) ≤ k := by omega
        have k1 : (k : Int) < L.length := by omega
        clear hvb hvd hd hcl
        go_wp2_with fail
        go_quiet (fail)
        have hW3 := Lib.hid (show ∃ n, W.drewN nq = w8.drewN n by obtain ⟨n, hn⟩ := hW.out; exact ⟨n + nq, by rw [hn, World.drewN_drewN]⟩)
        go_wp2_with fail
        go_roundw
        case rel => exact ⟨k + 1, _, rfl, by go_num, by omega, hW3⟩
        case measure => simp [intOf]; omega
      · obtain rfl : k = L.length := by omega
        go_wp2_with fail
        go_ret
        refine ⟨rfl, ?_⟩
        obtain ⟨n, hn⟩ := hW.out
        rw [hn]
        exact ⟨HB8.out.os, HB8.out.tape, HB8.out.output, HB8.out.size, HB8.out.block⟩
end Go.Proofs.YtpbcalbolnlojaaGreatDoor
