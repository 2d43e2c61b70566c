/- Walks of the scanner's methods: attr. -/
import Derived.Test.YtbgonaacheemcaaDoorTokC
import Derived.Laws.ResultCell
namespace Go.Proofs.YtbgonaacheemcaaDoor
open Go Go.RowKit

theorem mk_append (a b : Bytes) : mk a ++ mk b = mk (a ++ b) := by
  apply ext_lst
  rw [lst_mk]
  simp [lst, mk, ByteArray.data_append]

/-- An attribute in a block of its own. -/
def Cel (w : World) (n : Nat) (x y : ByteArray) : Prop := w.heap[n]? = some (.cells #[.string x, .string y] 45 (0, 0))
section
variable {w w' : World} {n : Nat} {x y : ByteArray}
theorem Cel.all (h : Cel w n x y) : w.cell? ⟨n, 0, none⟩ = some (.string x) ∧ w.cell? ⟨n, 1, none⟩ = some (.string y) ∧ w.frozen? ⟨n, 0, none⟩ = false ∧ w.frozen? ⟨n, 1, none⟩ = false ∧ n < w.heap.size :=
  ⟨by rw [Lib.cell_of_heap h]; rfl, by rw [Lib.cell_of_heap h]; rfl, Lib.frozen_of_heap h 0, Lib.frozen_of_heap h 1, lt_of_block h⟩
theorem Cel.set0 (h : Cel w n x y) (z : ByteArray) : Cel (w.setCell ⟨n, 0, none⟩ (.string z)) n z y := by
  unfold Cel at *; simp [World.setCell, Array.getElem?_modify, h]
theorem Cel.set1 (h : Cel w n x y) (z : ByteArray) : Cel (w.setCell ⟨n, 1, none⟩ (.string z)) n x z := by
  unfold Cel at *; simp [World.setCell, Array.getElem?_modify, h]
theorem Cel.kept {S : Nat → Prop} {B : Nat} (h : Cel w n x y) (hk : Kept S B w w') (hb : n < B) (hs : ¬ S n) : Cel w' n x y := by
  unfold Cel at *; rw [hk.block n hb hs]; exact h
theorem Cel.only {b : Nat} (h : Cel w n x y) (hk : Only b w w') (hne : n ≠ b) : Cel w' n x y := h.kept hk (lt_of_block h) hne
theorem Cel.drewN (h : Cel w n x y) (k : Nat) : Cel (w.drewN k) n x y := h
theorem Cel.other (h : Cel w n x y) {p : Addr} (hp : p.block ≠ n) (v : Value) : Cel (w.setCell p v) n x y := by
  unfold Cel at *; rw [Below.heap_setCell _ _ _ _ (fun e => hp e.symm)]; exact h
end
theorem Sc.other {w : World} {b : Nat} {text : ByteArray} {at_ : Nat} {tv : Value} (h : Sc w b text at_ tv) {p : Addr} (hp : p.block ≠ b) (v : Value) : Sc (w.setCell p v) b text at_ tv := by
  unfold Sc at *; rw [Below.heap_setCell _ _ _ _ (fun e => hp e.symm)]; exact h

def AttrV (v : TAttr × Bool × Bytes) : Value := .tuple #[.agg #[.string (mk v.1.name), .string (mk v.1.value)], .bool v.2.1]

theorem attrM_cons (c : UInt8) (r1 : Bytes) : attrM (c :: r1) = (match skp spaces (brkR attrEnd r1) with
    | [] => (⟨small (c :: brk attrEnd r1), []⟩, true, brkR attrEnd r1)
    | e :: r4 =>
      if e = 61 then (⟨small (c :: brk attrEnd r1), (valueM r4).1⟩, (valueM r4).2.1, (valueM r4).2.2)
      else (⟨small (c :: brk attrEnd r1), []⟩, true, brkR attrEnd r1)) := rfl

theorem attrM_le (c : UInt8) (r1 : Bytes) : (attrM (c :: r1)).2.2.length ≤ r1.length := by
  have h1 := congrArg List.length (brk_split attrEnd r1)
  have h2 := congrArg List.length (skd_split spaces (brkR attrEnd r1))
  simp only [List.length_append] at h1 h2
  rw [attrM_cons]
  split
  · show (brkR attrEnd r1).length ≤ _; omega
  · rename_i e r4 hs
    rw [hs] at h2
    simp only [List.length_cons] at h2
    have := valueM_le r4
    split
    · show (valueM r4).2.2.length ≤ _; omega
    · show (brkR attrEnd r1).length ≤ _; omega

set_option maxHeartbeats 2000000 in
set_option maxRecDepth 100000 in
theorem attr_any (b : Nat) (text : ByteArray) (at_ : Nat) (tv : Value) (w : World) (hg : Glob w) (hb10 : 10 ≤ b) (hsc : Sc w b text at_ tv) (hat : at_ < text.size) (h3 : text.size ≤ 1000000000) :
    Calls Tryd.prog 46 #[.pointer (some ⟨b, 0, none⟩)] w fun e w' =>
      e = .returned (AttrV (attrM ((lst text).drop at_))) ∧ Sc w' b text (text.size - (attrM ((lst text).drop at_)).2.2.length) tv ∧ Only b w w' := by
  have HS0 := Lib.hid hsc
  have HG := Lib.hid hg
  have hbw := lt_of_block hsc
  clear hsc hg
  have hl : at_ < (lst text).length := by rw [lst_length]; exact hat
  have hr := List.drop_eq_getElem_cons hl
  have hlen0 : ((lst text).drop (at_ + 1)).length = text.size - (at_ + 1) := by rw [List.length_drop, lst_length]
  generalize (lst text)[at_]'hl = c at *
  have hfirst : text.extract at_ (at_ + 1) = mk [c] := by rw [ext_take, hr]; rfl
  have HF := Lib.hid hfirst
  have hAe : lst ⟨#[32, 9, 10, 12, 47, 62, 61]⟩ = attrEnd := rfl
  have hUn := fun W h => until_any b text ⟨#[32, 9, 10, 12, 47, 62, 61]⟩ (at_ + 1) tv W h (by omega) h3 (okSet_of (by decide) (by decide) (by decide))
  rw [hAe] at hUn
  have hle2 : at_ + 1 + (brk attrEnd ((lst text).drop (at_ + 1))).length ≤ text.size := by
    have := brk_le attrEnd ((lst text).drop (at_ + 1))
    omega
  have hr2 : (lst text).drop (at_ + 1 + (brk attrEnd ((lst text).drop (at_ + 1))).length) = brkR attrEnd ((lst text).drop (at_ + 1)) := by rw [← List.drop_drop, brk_drop]
  have hsp : lst ⟨#[32, 9, 10, 12]⟩ = spaces := rfl
  have hSk := fun W h => skip_any b text ⟨#[32, 9, 10, 12]⟩ (at_ + 1 + (brk attrEnd ((lst text).drop (at_ + 1))).length) tv W h hle2 h3
  rw [hsp, hr2] at hSk
  have hle3 : at_ + 1 + (brk attrEnd ((lst text).drop (at_ + 1))).length + (skd spaces (brkR attrEnd ((lst text).drop (at_ + 1)))).length ≤ text.size := by
    have := skd_le spaces (brkR attrEnd ((lst text).drop (at_ + 1)))
    rw [← hr2, List.length_drop, lst_length] at this
    rw [← hr2]; omega
  have hr3 : (lst text).drop (at_ + 1 + (brk attrEnd ((lst text).drop (at_ + 1))).length + (skd spaces (brkR attrEnd ((lst text).drop (at_ + 1)))).length) = skp spaces (brkR attrEnd ((lst text).drop (at_ + 1))) := by
    rw [← List.drop_drop, hr2, skd_drop]
  have hl3 : (skp spaces (brkR attrEnd ((lst text).drop (at_ + 1)))).length = text.size - (at_ + 1 + (brk attrEnd ((lst text).drop (at_ + 1))).length + (skd spaces (brkR attrEnd ((lst text).drop (at_ + 1)))).length) := by
    rw [← hr3, List.length_drop, lst_length]
  have hl2 : (brkR attrEnd ((lst text).drop (at_ + 1))).length = text.size - (at_ + 1 + (brk attrEnd ((lst text).drop (at_ + 1))).length) := by
    rw [← hr2, List.length_drop, lst_length]
  have hM := attrM_cons c ((lst text).drop (at_ + 1))
  rw [← hr] at hM
  have hNx := fun W h => next_any b text ⟨#[61]⟩ (at_ + 1 + (brk attrEnd ((lst text).drop (at_ + 1))).length + (skd spaces (brkR attrEnd ((lst text).drop (at_ + 1)))).length) tv W h hle3 h3
  rw [hr3] at hNx
  have hbz : (brk attrEnd ((lst text).drop (at_ + 1))).length ≤ text.size := by omega
  generalize hbq : brk attrEnd ((lst text).drop (at_ + 1)) = bq at *
  generalize hbr : brkR attrEnd ((lst text).drop (at_ + 1)) = br at *
  generalize hk3 : (skd spaces br).length = k3 at *
  have HSk := Lib.hid hSk
  have HUn := Lib.hid hUn
  have hname : mk [c] ++ mk bq = mk (c :: bq) := by rw [mk_append]; rfl
  have HNa := Lib.hid hname
  have hSm := fun W => small_any (mk (c :: bq)) W (by rw [mk_size]; simp; omega)
  rw [lst_mk] at hSm
  have HSm := Lib.hid hSm
  have HL2 := Lib.hid hl2
  by_cases hh : hd [61] (skp spaces br) = true
  · obtain ⟨e, r4, hr4, hec⟩ := hd_true hh
    have he : e = 61 := by
      rw [List.contains_iff_mem] at hec
      simpa using hec
    subst he
    have hl4 : at_ + 1 + bq.length + k3 < text.size := by rw [hr4] at hl3; simp at hl3; omega
    have hr5 : (lst text).drop (at_ + 1 + bq.length + k3 + 1) = r4 := by rw [← List.drop_drop, hr3, hr4]; rfl
    have hVa := fun W h1 h2 => value_any b text (at_ + 1 + bq.length + k3 + 1) tv W h1 hb10 h2 (by omega) h3
    rw [hr5] at hVa
    have HVa := Lib.hid hVa
    rw [show lst ⟨#[61]⟩ = [61] from rfl, hh] at hNx
    rw [hr4] at hM
    have hM2 : attrM ((lst text).drop at_) = (⟨small (c :: bq), (valueM r4).1⟩, (valueM r4).2.1, (valueM r4).2.2) := hM
    have HM := Lib.hid hM2
    have HNx := Lib.hid hNx
    clear hM hM2 hNx hSm hname hUn hSk hl2 hl3 hr3 hr2 hbq hbr hk3 hr4 hAe hsp hfirst hr hl hlen0 hVa hr5 hec hh
    go_enter Tryd.func46, Tryd.ntmps46
    go_wp2_with fail
    have HC1 := Lib.hid (show Cel (w.alloc (.cells #[.string ⟨#[]⟩, .string ⟨#[]⟩] 45)) w.heap.size ⟨#[]⟩ ⟨#[]⟩ from heap_alloc_new w _)
    have hA1 := (Below.refl w.heap.size w).alloc (Nat.le_refl _) (.cells #[.string ⟨#[]⟩, .string ⟨#[]⟩] 45)
    have hz1 : w.heap.size + 1 = (w.alloc (.cells #[.string ⟨#[]⟩, .string ⟨#[]⟩] 45)).heap.size := by simp
    have HS1 := Lib.hid (HS0.out.below hA1 hbw)
    have HA1 := Lib.hid hA1
    have hz1' : w.heap.size < (w.alloc (.cells #[.string ⟨#[]⟩, .string ⟨#[]⟩] 45)).heap.size := by omega
    clear hz1 hA1
    generalize w.alloc (.cells #[.string ⟨#[]⟩, .string ⟨#[]⟩] 45) = w1 at *
    have hne : w.heap.size ≠ b := by omega
    have HNE := Lib.hid hne
    clear hne
    have hp := pass_any b text at_ 1 tv w1 HS1.out (by omega) (by omega) h3
    rw [show text.extract at_ (at_ + (1 : Int).toNat) = mk [c] from HF.out] at hp
    have hmz : (mk bq).size ≤ 1000000000 := by rw [mk_size]; omega
    have hmc : (mk [c]).size ≤ 1 := by rw [mk_size]; simp
    refine hp.mono ?_
    clear hp
    rintro e w2 ⟨rfl, hs2, ho2⟩
    have HS2 := Lib.hid hs2
    have HC2 := Lib.hid (HC1.out.only ho2 HNE.out)
    have HO2 := Lib.hid (Only.trans (Only.of_below HA1.out) ho2)
    clear hs2 ho2 HS1 HC1 HA1
    go_wp2_with fail
    refine (HUn.out w2 HS2.out).mono ?_
    rintro e w3 ⟨rfl, hs3, ho3⟩
    have HS3 := Lib.hid hs3
    have HC3 := Lib.hid (HC2.out.only ho3 HNE.out)
    have HO3 := Lib.hid (Only.trans HO2.out ho3)
    clear hs3 ho3 HS2 HC2 HO2
    go_wp2_with fail
    rw [HNa.out]
    refine (HSm.out w3).mono ?_
    rintro e w4 ⟨rfl, hb4⟩
    have hb4' := lt_of_block HS3.out
    have HS4 := Lib.hid (HS3.out.below hb4 hb4')
    have HC4 := Lib.hid (HC3.out.only (Only.of_below (b := b) hb4) HNE.out)
    have HO4 := Lib.hid (Only.below HO3.out hb4)
    clear hb4 HS3 HC3 HO3 hb4'
    obtain ⟨n0, n1, fn0, fn1, hN4⟩ := HC4.out.all
    obtain ⟨c0, c1, _, f1, _, hb4⟩ := HS4.out.all
    go_wp2_with fail
    have HC5 := Lib.hid (HC4.out.set0 (mk (small (c :: bq))))
    have HS5 := Lib.hid (HS4.out.other (p := ⟨w.heap.size, 0, none⟩) HNE.out (.string (mk (small (c :: bq)))))
    have HO5 := Lib.hid (Kept.setCell HO4.out (p := ⟨w.heap.size, 0, none⟩) (.inr (Nat.le_refl _)) (.string (mk (small (c :: bq)))))
    clear n0 n1 fn0 fn1 hN4 c0 c1 f1 hb4 HS4 HC4 HO4
    generalize w4.setCell ⟨w.heap.size, 0, none⟩ (.string (mk (small (c :: bq)))) = w5 at *
    refine (HSk.out w5 HS5.out).mono ?_
    rintro e w6 ⟨rfl, hs6, ho6⟩
    have HS6 := Lib.hid hs6
    have HC6 := Lib.hid (HC5.out.only ho6 HNE.out)
    have HO6 := Lib.hid (Only.trans HO5.out ho6)
    clear hs6 ho6 HS5 HC5 HO5
    go_wp2_with fail
    refine (HNx.out w6 HS6.out).mono ?_
    rintro e w7 ⟨rfl, n7, rfl⟩
    go_wp2_with fail
    refine (pass_any b text _ 1 tv _ (HS6.out.drewN n7) (by omega) (by omega) h3).mono ?_
    rintro e w8 ⟨rfl, hs8, ho8⟩
    have HS8 := Lib.hid hs8
    have HC8 := Lib.hid ((HC6.out.drewN n7).only ho8 HNE.out)
    have HO8 := Lib.hid (Only.trans (HO6.out.drewN n7) ho8)
    clear hs8 ho8 HS6 HC6 HO6
    go_wp2_with fail
    refine (HVa.out w8 (HG.out.kept HO8.out HG.out.size (by intro k hk e; omega)) HS8.out).mono ?_
    rintro e w9 ⟨rfl, hs9, ho9⟩
    have HS9 := Lib.hid hs9
    have HC9 := Lib.hid (HC8.out.only ho9 HNE.out)
    have HO9 := Lib.hid (Only.trans HO8.out ho9)
    clear hs9 ho9 HS8 HC8 HO8
    generalize valueM r4 = V at *
    obtain ⟨v1, v2, v3⟩ := V
    simp only [StrB]
    obtain ⟨n0, n1, fn0, fn1, hN9⟩ := HC9.out.all
    go_wp2_with fail
    refine bodyPost_ret (v := .tuple #[.agg #[.string (mk (small (c :: bq))), .string (mk v1)], .bool v2]) (by simp [results, Tryd.results46, go_sem, n0, n1]) rfl ⟨by rw [HM.out]; rfl, ?_, ?_⟩
    · rw [HM.out]
      repeat (refine Sc.other (p := ⟨w.heap.size, _, none⟩) ?_ HNE.out _)
      exact HS9.out.at_eq rfl
    · repeat (refine Kept.setCell (S := fun k => k = b) (B := w.heap.size) (p := ⟨w.heap.size, _, none⟩) ?_ (.inr (Nat.le_refl _)) _)
      exact HO9.out
  · have hh' : hd [61] (skp spaces br) = false := by simpa using hh
    have hM2 : attrM ((lst text).drop at_) = (⟨small (c :: bq), []⟩, true, br) := by
      rw [hM]
      split
      · rfl
      · rename_i e r4 hr4
        rw [hr4] at hh'
        rw [if_neg]
        intro e61
        subst e61
        exact absurd hh' (by simp [hd])
    rw [show lst ⟨#[61]⟩ = [61] from rfl, hh'] at hNx
    have HM := Lib.hid hM2
    have HNx := Lib.hid hNx
    clear hM hM2 hNx hSm hname hUn hSk hl2 hl3 hr3 hr2 hbq hbr hk3 hAe hsp hfirst hr hl hlen0 hh hh'
    go_enter Tryd.func46, Tryd.ntmps46
    go_wp2_with fail
    have HC1 := Lib.hid (show Cel (w.alloc (.cells #[.string ⟨#[]⟩, .string ⟨#[]⟩] 45)) w.heap.size ⟨#[]⟩ ⟨#[]⟩ from heap_alloc_new w _)
    have hA1 := (Below.refl w.heap.size w).alloc (Nat.le_refl _) (.cells #[.string ⟨#[]⟩, .string ⟨#[]⟩] 45)
    have hz1 : w.heap.size + 1 = (w.alloc (.cells #[.string ⟨#[]⟩, .string ⟨#[]⟩] 45)).heap.size := by simp
    have HS1 := Lib.hid (HS0.out.below hA1 hbw)
    have HA1 := Lib.hid hA1
    have hz1' : w.heap.size < (w.alloc (.cells #[.string ⟨#[]⟩, .string ⟨#[]⟩] 45)).heap.size := by omega
    clear hz1 hA1
    generalize w.alloc (.cells #[.string ⟨#[]⟩, .string ⟨#[]⟩] 45) = w1 at *
    have hne : w.heap.size ≠ b := by omega
    have HNE := Lib.hid hne
    clear hne
    have hp := pass_any b text at_ 1 tv w1 HS1.out (by omega) (by omega) h3
    rw [show text.extract at_ (at_ + (1 : Int).toNat) = mk [c] from HF.out] at hp
    have hmz : (mk bq).size ≤ 1000000000 := by rw [mk_size]; omega
    have hmc : (mk [c]).size ≤ 1 := by rw [mk_size]; simp
    refine hp.mono ?_
    clear hp
    rintro e w2 ⟨rfl, hs2, ho2⟩
    have HS2 := Lib.hid hs2
    have HC2 := Lib.hid (HC1.out.only ho2 HNE.out)
    have HO2 := Lib.hid (Only.trans (Only.of_below HA1.out) ho2)
    clear hs2 ho2 HS1 HC1 HA1
    go_wp2_with fail
    refine (HUn.out w2 HS2.out).mono ?_
    rintro e w3 ⟨rfl, hs3, ho3⟩
    have HS3 := Lib.hid hs3
    have HC3 := Lib.hid (HC2.out.only ho3 HNE.out)
    have HO3 := Lib.hid (Only.trans HO2.out ho3)
    clear hs3 ho3 HS2 HC2 HO2
    go_wp2_with fail
    rw [HNa.out]
    refine (HSm.out w3).mono ?_
    rintro e w4 ⟨rfl, hb4⟩
    have hb4' := lt_of_block HS3.out
    have HS4 := Lib.hid (HS3.out.below hb4 hb4')
    have HC4 := Lib.hid (HC3.out.only (Only.of_below (b := b) hb4) HNE.out)
    have HO4 := Lib.hid (Only.below HO3.out hb4)
    clear hb4 HS3 HC3 HO3 hb4'
    obtain ⟨n0, n1, fn0, fn1, hN4⟩ := HC4.out.all
    obtain ⟨c0, c1, _, f1, _, hb4⟩ := HS4.out.all
    go_wp2_with fail
    have HC5 := Lib.hid (HC4.out.set0 (mk (small (c :: bq))))
    have HS5 := Lib.hid (HS4.out.other (p := ⟨w.heap.size, 0, none⟩) HNE.out (.string (mk (small (c :: bq)))))
    have HO5 := Lib.hid (Kept.setCell HO4.out (p := ⟨w.heap.size, 0, none⟩) (.inr (Nat.le_refl _)) (.string (mk (small (c :: bq)))))
    clear n0 n1 fn0 fn1 hN4 c0 c1 f1 hb4 HS4 HC4 HO4
    generalize w4.setCell ⟨w.heap.size, 0, none⟩ (.string (mk (small (c :: bq)))) = w5 at *
    refine (HSk.out w5 HS5.out).mono ?_
    rintro e w6 ⟨rfl, hs6, ho6⟩
    have HS6 := Lib.hid hs6
    have HC6 := Lib.hid (HC5.out.only ho6 HNE.out)
    have HO6 := Lib.hid (Only.trans HO5.out ho6)
    clear hs6 ho6 HS5 HC5 HO5
    go_wp2_with fail
    refine (HNx.out w6 HS6.out).mono ?_
    rintro e w7 ⟨rfl, n7, rfl⟩
    obtain ⟨n0, n1, fn0, fn1, hN9⟩ := HC6.out.all
    obtain ⟨c0, c1, _, f1, _, hb6⟩ := HS6.out.all
    go_wp2_with fail
    refine bodyPost_ret (v := .tuple #[.agg #[.string (mk (small (c :: bq))), .string ⟨#[]⟩], .bool true]) (by simp [results, Tryd.results46, go_sem, n0, n1]) rfl ⟨by rw [HM.out]; rfl, ?_, ?_⟩
    · rw [HM.out]
      repeat (refine Sc.other (p := ⟨w.heap.size, _, none⟩) ?_ HNE.out _)
      have h := ((HS6.out.drewN n7).setAt (at_ + 1 + bq.length)).at_eq (m := text.size - br.length) (by have := HL2.out; omega)
      simpa using h
    · repeat (refine Kept.setCell (S := fun k => k = b) (B := w.heap.size) (p := ⟨w.heap.size, _, none⟩) ?_ (.inr (Nat.le_refl _)) _)
      have h := Kept.setCell (Kept.drewN HO6.out n7) (p := ⟨b, 1, none⟩) (.inl rfl) (.int .i64 ((at_ : Int) + 1 + bq.length))
      simpa using h

end Go.Proofs.YtbgonaacheemcaaDoor
