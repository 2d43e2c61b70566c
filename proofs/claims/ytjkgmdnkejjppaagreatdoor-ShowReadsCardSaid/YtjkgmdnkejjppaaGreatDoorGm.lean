/- Joined texts: EWalkE. -/
import Derived.Test.YtjkgmdnkejjppaaGreatDoorGl
import Derived.Test.YtjkgmdnkejjppaaGreatDoorJTWalkD
import Derived.Test.YtjkgmdnkejjppaaGreatDoorGg
import Derived.Test.YtjkgmdnkejjppaaGreatDoorGa
/- Walks of emit: Tag, Check, Text. -/
namespace Go.Proofs.YtjkgmdnkejjppaaGreatDoor
open Go Go.RowKit

theorem attr_cat (D nm E : Bytes) : mk D ++ ((((⟨#[32]⟩ ++ mk nm) ++ ⟨#[61, 34]⟩) ++ mk E) ++ ⟨#[34]⟩) = mk (D ++ (32 :: nm ++ 61 :: 34 :: E ++ [34])) := by
  rw [show (⟨#[32]⟩ : ByteArray) = mk [32] from rfl, show (⟨#[61, 34]⟩ : ByteArray) = mk [61, 34] from rfl, show (⟨#[34]⟩ : ByteArray) = mk [34] from rfl, cat_mk, cat_mk, cat_mk, cat_mk, cat_mk]
  congr 1
  simp

set_option maxHeartbeats 2000000 in
set_option maxRecDepth 100000 in
theorem etag_any (n : Bytes) (av : Value) (l : List TAttr) (self : Bool) (w : World) (hv : AttrView w av l) (hn : n.length ≤ 1000) (hl : l.length ≤ 1000) (ha : ∀ a ∈ l, a.name.length ≤ 1000 ∧ a.value.length ≤ 1000) :
    Calls Tryz.prog 37 #[.string (mk n), av, .bool self] w fun e w' => e = .returned (.string (mk (tagText n l self))) ∧ Below w.heap.size w w' := by
  obtain ⟨ad, cap, hf⟩ := hv.1
  subst hf
  have HV := Lib.hid hv
  have HAL := Lib.hid ha
  have hnz : (mk n).size ≤ 1000 := by rw [mk_size]; exact hn
  have h0 : (⟨#[60]⟩ : ByteArray) ++ mk n = mk (60 :: n ++ attrTexts (l.take 0)) := by
    rw [show (⟨#[60]⟩ : ByteArray) = mk [60] from rfl, cat_mk, List.take_zero, attrTexts, List.append_nil]; rfl
  have H0 := Lib.hid h0
  clear hv ha h0
  go_enter Tryz.func37, Tryz.ntmps37
  go_upto_region 2 with fail
  rw [H0.out]
  go_wp2_with fail
  go_loopg [7, 14] l.length (fun g s i wx => ∃ (W : World) (k : Nat), W = wx ∧ k + g = l.length ∧ i = .int .i64 k ∧ s = .string (mk (60 :: n ++ attrTexts (l.take k))) ∧ Hid (Below w.heap.size w wx))
  case atStart => exact ⟨_, 0, rfl, by omega, rfl, rfl, Lib.hid (Below.refl _ _)⟩
  case round =>
    obtain ⟨wr, k, rfl, hk, rfl, rfl, hB⟩ := hrel
    by_cases hlt : k < l.length
    · obtain ⟨m, rfl⟩ : ∃ m, gk = m + 1 := ⟨gk - 1, by omega⟩
      obtain ⟨a, ha⟩ : ∃ a, l[k]? = some a := ⟨_, List.getElem?_eq_getElem hlt⟩
      have hvr := HV.out.older (.of_below hB.out)
      obtain ⟨g, c, hf, hc1, ⟨cs, hgb⟩, a1, a2⟩ := hvr.2 k a ha
      obtain rfl : ad = some ⟨g, 0, none⟩ := by simp at hf; exact hf.1
      obtain ⟨w2, hw2⟩ : ∃ w2, w2 = wr.alloc (.cells #[.string (mk a.name), .string (mk a.value)] 85) := ⟨_, rfl⟩
      have hb2 : Below wr.heap.size wr w2 := by rw [hw2]; exact (Below.refl _ _).alloc (Nat.le_refl _) _
      have hN : w2.heap[wr.heap.size]? = some (.cells #[.string (mk a.name), .string (mk a.value)] 85 (0, 0)) := by rw [hw2]; exact heap_alloc_new _ _
      have c0 : w2.cell? ⟨wr.heap.size, 0, none⟩ = some (.string (mk a.name)) := by rw [Lib.cell_of_heap hN]; rfl
      have c1 : w2.cell? ⟨wr.heap.size, 1, none⟩ = some (.string (mk a.value)) := by rw [Lib.cell_of_heap hN]; rfl
      have hmem := HAL.out a (List.mem_of_getElem? ha)
      have HC := Lib.hid (escape_any (mk a.value) true (by rw [mk_size]; omega) w2.drew)
      rw [lst_mk] at HC
      have hez := (escM_len true a.value).2.1
      have hdz := attrTexts_len 1000 (l.take k) (fun b hb => HAL.out b (List.mem_of_mem_take hb))
      have htk : (l.take k).length ≤ 1000 := by rw [List.length_take]; omega
      have hst : 60 :: n ++ attrTexts (l.take (k + 1)) = (60 :: n ++ attrTexts (l.take k)) ++ (32 :: a.name ++ 61 :: 34 :: escM true a.value ++ [34]) := by
        rw [attrTexts_take l k a ha]; unfold attrText; simp
      have hcat := attr_cat (60 :: n ++ attrTexts (l.take k)) a.name (escM true a.value)
      rw [← hst] at hcat
      have HCAT := Lib.hid hcat
      have hDz : (mk (60 :: n ++ attrTexts (l.take k))).size ≤ 100000000 := by rw [mk_size]; simp only [List.length_append, List.length_cons]; omega
      have hEz : (mk (escM true a.value)).size ≤ 100000 := by rw [mk_size]; omega
      have hNz : (mk a.name).size ≤ 1000 := by rw [mk_size]; exact hmem.1
      generalize 60 :: n ++ attrTexts (l.take k) = D at *
      generalize escM true a.value = E at *
      have HB2 := Lib.hid (hB.out.trans (hb2.mono hB.out.size))
      have HW2 := Lib.hid hw2
      have hN2 := lt_of_block hN
      have k0 : (0 : Int) ≤ k := by omega
      have k1 : (k : Int) < l.length := by omega
      clear hf hvr hgb ha hb2 hN hw2 hst hcat hez hdz hmem
      have x1 : ¬ 9223372036854775807 < 1 + (mk a.name).size := by omega
      have x2 : ¬ 9223372036854775807 < 1 + (mk a.name).size + 2 := by omega
      have x3 : ¬ 9223372036854775807 < 1 + (mk a.name).size + 2 + (mk E).size := by omega
      have x4 : ¬ 9223372036854775807 < 1 + (mk a.name).size + 2 + (mk E).size + 1 := by omega
      have x5 : ¬ 9223372036854775807 < (mk D).size + (1 + (mk a.name).size + 2 + (mk E).size + 1) := by omega
      go_upto_region 5 with fail
      rw [← HW2.out]
      go_region_law ((refine step_at 36 (by rfl) ?_; go_simp; go_loud (refine HC.out.mono ?_; rintro e w3 ⟨rfl, hb3⟩; have HB3 := Lib.hid (HB2.out.trans ((show Below w2.heap.size w2 w3 from ⟨hb3.os, hb3.tape, hb3.output, hb3.size, hb3.block⟩).mono HB2.out.size)); have y0 := ((Older.of_below (show Below w2.heap.size w2 w3 from ⟨hb3.os, hb3.tape, hb3.output, hb3.size, hb3.block⟩)).cell wr.heap.size 0 hN2).trans c0; clear hb3)))
      all_goals
        go_wp2_with fail
        go_roundg m
        case measure => omega
        case rel => exact ⟨_, k + 1, rfl, by omega, by go_num, by rw [HCAT.out], HB3⟩
    · obtain rfl : k = l.length := by omega
      rw [List.take_length]
      have hdz := attrTexts_len 1000 l HAL.out
      have hDz : (mk (60 :: n ++ attrTexts l)).size ≤ 100000000 := by rw [mk_size]; simp only [List.length_append, List.length_cons]; omega
      cases self with
      | true =>
        have HE := Lib.hid (show (mk (60 :: n ++ attrTexts l) ++ ⟨#[47]⟩) ++ ⟨#[62]⟩ = mk (tagText n l true) by
          rw [show (⟨#[47]⟩ : ByteArray) = mk [47] from rfl, show (⟨#[62]⟩ : ByteArray) = mk [62] from rfl, cat_mk, cat_mk]
          congr 1
          unfold tagText tagTail
          simp)
        generalize 60 :: n ++ attrTexts l = D at *
        go_wp2_with fail
        go_ret
        exact ⟨by rw [← HE.out]; rfl, hB.out⟩
      | false =>
        have HE := Lib.hid (show mk (60 :: n ++ attrTexts l) ++ ⟨#[62]⟩ = mk (tagText n l false) by
          rw [show (⟨#[62]⟩ : ByteArray) = mk [62] from rfl, cat_mk]
          congr 1
          unfold tagText tagTail
          simp)
        generalize 60 :: n ++ attrTexts l = D at *
        go_wp2_with fail
        go_ret
        exact ⟨by rw [← HE.out]; rfl, hB.out⟩

end Go.Proofs.YtjkgmdnkejjppaaGreatDoor
