/- Walks of the reference: placeOf, refAt. -/
import Derived.Test.YtjkgmdnkejjppaaGreatDoorGz
namespace Go.Proofs.YtjkgmdnkejjppaaGreatDoor
open Go Go.RowKit

theorem num_of (l : Bytes) (h3 : 2 < l.length) (h2 : l.take 2 = [38, 35]) : numR l = if l[2] = 120 ∨ l[2] = 88 then endR 6 3 (scanR 16 6 0 0 (l.drop 3)) else endR 7 2 (scanR 10 7 0 0 (l.drop 2)) := by
  match l, h3 with
  | a :: b :: c :: r, _ =>
    simp only [List.take_succ_cons, List.take_zero, List.cons.injEq, and_true] at h2
    obtain ⟨rfl, rfl⟩ := h2
    rfl
theorem num_not (l : Bytes) (h : l.length < 3 ∨ l.take 2 ≠ [38, 35]) : numR l = (0, 0) := by
  unfold numR
  split
  · rename_i x r
    rcases h with h | h
    · simp at h; omega
    · exact absurd rfl h
  · rfl
theorem scan_step (base most m j : Nat) (c : UInt8) (r : Bytes) (h : digR c < base) : scanR base most m j (c :: r) = scanR base most (if j ≤ most then m * base + digR c else m) (j + 1) r := by rw [scanR, if_pos h]
theorem scan_nil (base most m j : Nat) : scanR base most m j [] = (m, j, []) := by rw [scanR]
theorem scan_stop (base most m j : Nat) (c : UInt8) (r : Bytes) (h : ¬ digR c < base) : scanR base most m j (c :: r) = (m, j, c :: r) := by rw [scanR, if_neg h]
theorem scan_bound (base m j d : Nat) (h : m < base ^ j) (hd : d < base) : m * base + d < base ^ (j + 1) := by
  rw [Nat.pow_succ]
  have := Nat.mul_le_mul_right base (Nat.succ_le_of_lt h)
  rw [Nat.succ_mul] at this
  omega
theorem endR_bad (most at0 m j : Nat) (r : Bytes) (h : j = 0 ∨ most < j ∨ r.head? ≠ some 59) : endR most at0 (m, j, r) = (0, 0) := by unfold endR; rw [if_pos h]
theorem endR_ok (most at0 m j : Nat) (r : Bytes) (h1 : j ≠ 0) (h2 : ¬ most < j) : endR most at0 (m, j, 59 :: r) = (if m = 0 ∨ isLetR m = false then 65533 else m, at0 + j + 1) := by
  unfold endR
  rw [if_neg (by rintro (h | h | h) <;> first | exact h1 h | exact h2 h | exact h rfl)]
/-- The names and their letters, as the two tables hold them. -/
theorem names_find (l : Bytes) (k : Nat) (h : ∀ p ∈ namesR.take k, p.1.isPrefixOf l = false) (p : Bytes × Nat) (hk : namesR[k]? = some p) (hp : p.1.isPrefixOf l = true) : refAtM l = (p.2, p.1.length) := by
  unfold refAtM
  have hd : namesR = namesR.take k ++ p :: namesR.drop (k + 1) := by
    obtain ⟨hlt, he⟩ := List.getElem?_eq_some_iff.1 hk
    conv => lhs; rw [← List.take_append_drop k namesR, List.drop_eq_getElem_cons hlt, he]
  rw [hd, List.find?_append, List.find?_eq_none.2 (fun x hx => by rw [h x hx]; simp), Option.none_or, List.find?_cons_of_pos (by exact hp)]
theorem names_none (l : Bytes) (h : ∀ p ∈ namesR.take 6, p.1.isPrefixOf l = false) : refAtM l = numR l := by
  unfold refAtM
  rw [List.find?_eq_none.2 (fun x hx => by rw [h x (by exact hx)]; simp)]

def namesV : Array Value := #[.string ⟨#[38, 97, 109, 112, 59]⟩, .string ⟨#[38, 108, 116, 59]⟩, .string ⟨#[38, 103, 116, 59]⟩, .string ⟨#[38, 113, 117, 111, 116, 59]⟩, .string ⟨#[38, 110, 98, 115, 112, 59]⟩, .string ⟨#[38, 99, 111, 112, 121, 59]⟩]
def lettersV : Array Value := #[.int .i64 38, .int .i64 60, .int .i64 62, .int .i64 34, .int .i64 160, .int .i64 169]
def RefTabs (w W : World) : Prop := W = (w.alloc (.cells namesV 9)).alloc (.cells lettersV 3)
theorem names_cell {w W : World} (hW : RefTabs w W) (k : Nat) (p : Bytes × Nat) (hk : namesR[k]? = some p) : W.cell? ⟨w.heap.size, k, none⟩ = some (.string (mk p.1)) ∧ W.cell? ⟨w.heap.size + 1, k, none⟩ = some (.int .i64 p.2) := by
  have hlt : k < 6 := (List.getElem?_eq_some_iff.1 hk).1
  have hA : W.heap[w.heap.size]? = some (.cells namesV 9) := by
    rw [hW, (MapKept.heap_alloc _ _).2 _ (by simp)]
    exact heap_alloc_new w _
  have hB : W.heap[w.heap.size + 1]? = some (.cells lettersV 3) := by
    rw [hW]
    have := heap_alloc_new (w.alloc (.cells namesV 9)) (.cells lettersV 3)
    simpa using this
  rw [Lib.cell_of_heap hA, Lib.cell_of_heap hB]
  have : k = 0 ∨ k = 1 ∨ k = 2 ∨ k = 3 ∨ k = 4 ∨ k = 5 := by omega
  rcases this with rfl | rfl | rfl | rfl | rfl | rfl <;> cases hk <;> exact ⟨rfl, rfl⟩
theorem names_len : ∀ p ∈ namesR, p.1.length ≤ 6 := by decide

set_option maxHeartbeats 4000000 in
set_option maxRecDepth 100000 in
theorem refAt_any (s : ByteArray) (w : World) (hs : s.size ≤ 1000000) :
    Calls Tryz.prog 89 #[.string s] w fun x w' => x = .returned (.tuple #[.int .i64 (refAtM (lst s)).1, .int .i64 (refAtM (lst s)).2]) ∧ Below w.heap.size w w' := by
  obtain ⟨W, hW⟩ : ∃ W, RefTabs w W := ⟨_, rfl⟩
  have hbw : Below w.heap.size w W := by
    rw [hW]; exact ((Below.refl _ w).alloc (Nat.le_refl _) _).alloc (by simp) _
  have HBW := Lib.hid hbw
  have HN := Lib.hid (names_cell hW)
  have HW := Lib.hid (show (w.alloc (.cells namesV 9)).alloc (.cells lettersV 3) = W from hW.symm)
  unfold namesV lettersV at HW
  clear hW hbw
  go_enter Tryz.func89, Tryz.ntmps89
  go_wp2_with fail
  rw [HW.out]
  go_loop [17] (fun i => ∃ k : Nat, k ≤ 6 ∧ i = .int .i64 k ∧ Hid (∀ p ∈ namesR.take k, p.1.isPrefixOf (lst s) = false)) (fun i => 6 - (intOf i).toNat)
  case atStart => exact ⟨0, by omega, rfl, Lib.hid (by intro p hp; cases hp)⟩
  case round =>
    obtain ⟨k, hk, rfl, hF⟩ := hrel
    by_cases hlt : k < 6
    · obtain ⟨p, hp⟩ : ∃ p, namesR[k]? = some p := ⟨_, List.getElem?_eq_getElem (show k < namesR.length from hlt)⟩
      obtain ⟨m1, m2⟩ := HN.out k p hp
      have hpl := names_len p (List.mem_of_getElem? hp)
      have k0 : (0 : Int) ≤ k := by omega
      have k1 : (k : Int) < 6 := by omega
      have HF := Lib.hid (fun h => names_find (lst s) k hF.out p hp h)
      have HF2 := Lib.hid (show p.1.isPrefixOf (lst s) = false → ∀ q ∈ namesR.take (k + 1), q.1.isPrefixOf (lst s) = false from fun h q hq => by
        rw [List.take_add_one, hp] at hq
        rcases List.mem_append.1 hq with hq | hq
        · exact hF.out q hq
        · cases List.mem_singleton.1 hq; exact h)
      obtain ⟨nm, lt⟩ := p
      have hpre : nm.isPrefixOf (lst s) = decide ((lst s).take nm.length = nm) := by
        rw [Bool.eq_iff_iff, List.isPrefixOf_iff_prefix, decide_eq_true_eq, List.prefix_iff_eq_take]
        exact ⟨fun h => h.symm, fun h => h.symm⟩
      have hsz : (mk nm).size = nm.length := mk_size nm
      have hx : ((s.extract 0 (mk nm).size).toList == (mk nm).toList) = nm.isPrefixOf (lst s) := by
        rw [Lib.toList_data, Lib.toList_data]
        show (lst (s.extract 0 (mk nm).size) == lst (mk nm)) = _
        rw [lst_extract, lst_mk, hsz, hpre, List.drop_zero, Nat.sub_zero, Bool.eq_iff_iff, beq_iff_eq, decide_eq_true_eq]
      dsimp only at m1 m2 HF HF2 hpl
      clear hp hpre
      rw [← hsz] at hpl
      have Hsz := Lib.hid hsz
      clear hsz
      generalize hZ : mk nm = nmz at *
      by_cases hle : (nmz.size : Int) ≤ s.size
      · cases hy : nm.isPrefixOf (lst s) with
        | true =>
          have HR := Lib.hid (HF.out hy)
          rw [hy] at hx
          clear hy HF HF2 hZ
          go_wp2
          exact bodyPost_ret (v := .tuple #[.int .i64 lt, .int .i64 nmz.size]) (by simp [results, Tryz.results89, go_sem]) rfl ⟨by rw [HR.out, Hsz.out], HBW.out⟩
        | false =>
          have HR := Lib.hid (HF2.out hy)
          rw [hy] at hx
          clear hy HF HF2 hZ
          go_wp2
          go_round
          case rel => exact ⟨k + 1, by omega, by go_num, HR⟩
          case measure => simp [intOf]; omega
      · have hy : nm.isPrefixOf (lst s) = false := by
          rw [Bool.eq_false_iff]
          intro h
          have := (List.isPrefixOf_iff_prefix.1 h).length_le
          rw [lst_length] at this
          have := Hsz.out
          omega
        have HR := Lib.hid (HF2.out hy)
        clear hy HF HF2 hZ hx
        go_wp2
        go_round
        case rel => exact ⟨k + 1, by omega, by go_num, HR⟩
        case measure => simp [intOf]; omega
    · obtain rfl : k = 6 := by omega
      have HR := Lib.hid (names_none (lst s) hF.out)
      clear hF hk hlt HN
      by_cases h3 : (s.size : Int) < 3
      · have HQ := Lib.hid (show refAtM (lst s) = (0, 0) by rw [HR.out, num_not _ (.inl (by rw [lst_length]; omega))])
        go_wp2
        exact bodyPost_ret (v := .tuple #[.int .i64 0, .int .i64 0]) (by simp [results, Tryz.results89, go_sem]) rfl ⟨by rw [HQ.out]; rfl, HBW.out⟩
      · have h3' : 2 < s.size := by omega
        have hx2 : lst (s.extract 0 2) = (lst s).take 2 := by rw [lst_extract, List.drop_zero]
        by_cases h2 : (lst s).take 2 = [38, 35]
        · have HQ := num_of (lst s) (by rw [lst_length]; exact h3') h2
          rw [← HR.out, show (lst s)[2]'(by rw [lst_length]; exact h3') = s[2]'h3' from rfl] at HQ
          have ht : ((s.extract 0 2).toList == [38, 35]) = true := by
            rw [Lib.toList_data]
            show (lst (s.extract 0 2) == _) = true
            rw [hx2, h2]; rfl
          have ht' : (s.extract 0 2).toList = [38, 35] := beq_iff_eq.1 ht
          clear hx2 h2 HR
          by_cases hx : s[2]'h3' = 120
          · rw [if_pos (.inl hx)] at HQ
            have hxi : (((s[2]'h3').toNat : Int) == 120) = true := by rw [hx]; rfl
            clear hx
            have HQ2 := Lib.hid (show refAtM (lst s) = endR 6 3 (scanR 16 6 0 0 ((lst s).drop 3)) from HQ)
            clear HQ
            go_wp2
            go_loop [8, 11, 12] (fun a n k => ∃ m j : Nat, a = .int .i64 (3 + j : Nat) ∧ n = .int .i64 m ∧ k = .int .i64 j ∧ 3 + j ≤ s.size ∧ m ≤ 4294967295 ∧ Hid (j ≤ 6 → m < 16 ^ j) ∧ Hid (refAtM (lst s) = endR 6 3 (scanR 16 6 m j ((lst s).drop (3 + j))))) (fun a _ _ => s.size - (intOf a).toNat)
            case atStart => exact ⟨0, 0, rfl, rfl, rfl, by omega, by omega, Lib.hid (fun _ => by decide), HQ2⟩
            case round =>
              clear HQ2
              obtain ⟨m, j, rfl, rfl, rfl, hjs, hm, hmb, hS'⟩ := hrel
              have hS := hS'.out
              clear hS'
              obtain ⟨A, hA⟩ : ∃ A, 3 + j = A := ⟨_, rfl⟩
              rw [hA] at hjs hS ⊢
              by_cases hlt : A < s.size
              · have hdr : (lst s).drop A = s[A]'hlt :: (lst s).drop (A + 1) := List.drop_eq_getElem_cons (by rw [lst_length]; exact hlt)
                rw [hdr] at hS
                clear hdr
                by_cases hdg : digR (s[A]'hlt) < 16
                · rw [scan_step _ _ _ _ _ _ hdg] at hS
                  have hdI : ((digR (s[A]'hlt) : Nat) : Int) < 16 := by omega
                  have HJ := Lib.hid (show 3 + (j + 1) ≤ s.size by omega)
                  have HJ2 := Lib.hid (show 3 + (j + 1) = A + 1 by omega)
                  by_cases hjm : j ≤ 6
                  · rw [if_pos hjm] at hS
                    have hmj := hmb.out hjm
                    have hb2 := scan_bound 16 m j (digR (s[A]'hlt)) hmj hdg
                    have hb3 : 16 ^ (j + 1) ≤ 16 ^ (6 + 1) := Nat.pow_le_pow_right (by decide) (by omega)
                    have hb4 : m * 16 + digR (s[A]'hlt) ≤ 4294967295 := by
                      have : 16 ^ (6 + 1) ≤ 4294967295 := by decide
                      omega
                    have HB2 := Lib.hid (fun _ : j + 1 ≤ 6 => hb2)
                    have hjmI : (j : Int) ≤ 6 := by omega
                    have e1 : IntKind.i64.wrap ((m : Int) * 16) = m * 16 := IntWalk.i64_in _ (by omega)
                    have e2 : IntKind.i64.wrap ((m : Int) * 16 + (digR (s[A]'hlt) : Nat)) = m * 16 + (digR (s[A]'hlt) : Nat) := IntWalk.i64_in _ (by omega)
                    have HS := Lib.hid hS
                    clear hS hmj hb2 hb3 hA
                    go_wp2_with fail
                    refine (digitOf_any (s[A]'hlt) W).mono ?_
                    rintro e w' ⟨rfl, hw⟩
                    rw [← hw]
                    clear hw w'
                    go_wp2_with fail
                    refine (digitOf_any (s[A]'hlt) W).mono ?_
                    rintro e w' ⟨rfl, hw⟩
                    rw [← hw]
                    clear hw w'
                    go_wp2
                    go_round
                    case rel =>
                      refine ⟨m * 16 + digR (s[A]'hlt), j + 1, ?_, by go_num, by go_num, HJ.out, hb4, HB2, Lib.hid ?_⟩
                      · rw [HJ2.out]; go_num
                      · rw [HJ2.out]; exact HS.out
                    case measure => simp [intOf]; omega
                  · rw [if_neg hjm] at hS
                    have HB2 := Lib.hid (fun h : j + 1 ≤ 6 => (show m < 16 ^ (j + 1) from absurd h (by omega)))
                    have hjmI : ¬ (j : Int) ≤ 6 := by omega
                    have hjb : j ≤ 1000000 := by omega
                    have HS := Lib.hid hS
                    clear hS hA
                    go_wp2_with fail
                    refine (digitOf_any (s[A]'hlt) W).mono ?_
                    rintro e w' ⟨rfl, hw⟩
                    rw [← hw]
                    clear hw w'
                    go_wp2
                    go_round
                    case rel =>
                      refine ⟨m, j + 1, ?_, by go_num, by go_num, HJ.out, hm, HB2, Lib.hid ?_⟩
                      · rw [HJ2.out]; go_num
                      · rw [HJ2.out]; exact HS.out
                    case measure => simp [intOf]; omega
                · rw [scan_stop _ _ _ _ _ _ hdg] at hS
                  have hdI : ¬ ((digR (s[A]'hlt) : Nat) : Int) < 16 := by omega
                  clear hdg hmb
                  by_cases hj0 : j = 0
                  · have hj0b : ((j : Int) == 0) = true := by simp [hj0]
                    have HZ := Lib.hid (show refAtM (lst s) = (0, 0) by rw [hS, endR_bad _ _ _ _ _ (.inl hj0)])
                    clear hS
                    go_wp2_with fail
                    refine (digitOf_any (s[A]'hlt) W).mono ?_
                    rintro e w' ⟨rfl, hw⟩
                    rw [← hw]
                    clear hw w'
                    go_wp2
                    exact bodyPost_ret (v := .tuple #[.int .i64 0, .int .i64 0]) (by simp [results, Tryz.results89, go_sem]) rfl ⟨by rw [HZ.out]; rfl, HBW.out⟩
                  have hj0b : ((j : Int) == 0) = false := by simp [hj0]
                  by_cases hjm : 6 < j
                  · have hjmI : (6 : Int) < j := by omega
                    have HZ := Lib.hid (show refAtM (lst s) = (0, 0) by rw [hS, endR_bad _ _ _ _ _ (.inr (.inl hjm))])
                    clear hS
                    go_wp2_with fail
                    refine (digitOf_any (s[A]'hlt) W).mono ?_
                    rintro e w' ⟨rfl, hw⟩
                    rw [← hw]
                    clear hw w'
                    go_wp2
                    exact bodyPost_ret (v := .tuple #[.int .i64 0, .int .i64 0]) (by simp [results, Tryz.results89, go_sem]) rfl ⟨by rw [HZ.out]; rfl, HBW.out⟩
                  have hjmI : ¬ (6 : Int) < j := by omega
                  by_cases h59 : s[A]'hlt = 59
                  · have h59b : (((s[A]'hlt).toNat : Int) == 59) = true := by rw [h59]; rfl
                    have h59c : (((s[A]'hlt).toNat : Int) != 59) = false := by rw [h59]; rfl
                    have hltA : ¬ s.size ≤ A := by omega
                    rw [h59, endR_ok _ _ _ _ _ hj0 hjm] at hS
                    clear h59
                    by_cases hm0 : m = 0
                    · subst hm0
                      have HS := Lib.hid (show refAtM (lst s) = (65533, A + 1) by rw [hS, if_pos (.inl rfl), hA])
                      clear hS hA
                      go_wp2_with fail
                      refine (digitOf_any (s[A]'hlt) W).mono ?_
                      rintro e w' ⟨rfl, hw⟩
                      rw [← hw]
                      clear hw w'
                      go_wp2
                      exact bodyPost_ret (v := .tuple #[.int .i64 65533, .int .i64 ((A : Int) + 1)]) (by simp [results, Tryz.results89, go_sem]) rfl ⟨by rw [HS.out]; rfl, HBW.out⟩
                    · have hm0b : ((m : Int) == 0) = false := by simp [hm0]
                      cases hl : isLetR m with
                      | true =>
                        have HS := Lib.hid (show refAtM (lst s) = (m, A + 1) by rw [hS, if_neg (by rw [hl]; simp [hm0]), hA])
                        have HL := Lib.hid (isLetter_any m W)
                        rw [hl] at HL
                        clear hS hA hl hm0
                        go_wp2_with fail
                        refine (digitOf_any (s[A]'hlt) W).mono ?_
                        rintro e w' ⟨rfl, hw⟩
                        rw [← hw]
                        clear hw w'
                        go_wp2_with fail
                        refine HL.out.mono ?_
                        rintro e w' ⟨rfl, hw⟩
                        rw [← hw]
                        clear hw w'
                        go_wp2
                        exact bodyPost_ret (v := .tuple #[.int .i64 m, .int .i64 ((A : Int) + 1)]) (by simp [results, Tryz.results89, go_sem]) rfl ⟨by rw [HS.out]; rfl, HBW.out⟩
                      | false =>
                        have HS := Lib.hid (show refAtM (lst s) = (65533, A + 1) by rw [hS, if_pos (.inr hl), hA])
                        have HL := Lib.hid (isLetter_any m W)
                        rw [hl] at HL
                        clear hS hA hl hm0
                        go_wp2_with fail
                        refine (digitOf_any (s[A]'hlt) W).mono ?_
                        rintro e w' ⟨rfl, hw⟩
                        rw [← hw]
                        clear hw w'
                        go_wp2_with fail
                        refine HL.out.mono ?_
                        rintro e w' ⟨rfl, hw⟩
                        rw [← hw]
                        clear hw w'
                        go_wp2
                        exact bodyPost_ret (v := .tuple #[.int .i64 65533, .int .i64 ((A : Int) + 1)]) (by simp [results, Tryz.results89, go_sem]) rfl ⟨by rw [HS.out]; rfl, HBW.out⟩
                  · have h59b : (((s[A]'hlt).toNat : Int) == 59) = false := by
                      rw [beq_eq_false_iff_ne]; intro h; apply h59; apply UInt8.toNat_inj.1; have : (59 : UInt8).toNat = 59 := rfl; omega
                    have h59c : (((s[A]'hlt).toNat : Int) != 59) = true := by rw [bne, h59b]; rfl
                    have hltA : ¬ s.size ≤ A := by omega
                    have HZ := Lib.hid (show refAtM (lst s) = (0, 0) by rw [hS, endR_bad _ _ _ _ _ (.inr (.inr (by simp [h59])))])
                    clear hS
                    go_wp2_with fail
                    refine (digitOf_any (s[A]'hlt) W).mono ?_
                    rintro e w' ⟨rfl, hw⟩
                    rw [← hw]
                    clear hw w'
                    go_wp2
                    exact bodyPost_ret (v := .tuple #[.int .i64 0, .int .i64 0]) (by simp [results, Tryz.results89, go_sem]) rfl ⟨by rw [HZ.out]; rfl, HBW.out⟩
              · have hdr : (lst s).drop A = [] := List.drop_eq_nil_of_le (by rw [lst_length]; omega)
                rw [hdr, scan_nil] at hS
                clear hdr hmb
                by_cases hj0 : j = 0
                · have hj0b : ((j : Int) == 0) = true := by simp [hj0]
                  have HZ := Lib.hid (show refAtM (lst s) = (0, 0) by rw [hS, endR_bad _ _ _ _ _ (.inl hj0)])
                  clear hS
                  go_wp2
                  exact bodyPost_ret (v := .tuple #[.int .i64 0, .int .i64 0]) (by simp [results, Tryz.results89, go_sem]) rfl ⟨by rw [HZ.out]; rfl, HBW.out⟩
                have hj0b : ((j : Int) == 0) = false := by simp [hj0]
                by_cases hjm : 6 < j
                · have hjmI : (6 : Int) < j := by omega
                  have HZ := Lib.hid (show refAtM (lst s) = (0, 0) by rw [hS, endR_bad _ _ _ _ _ (.inr (.inl hjm))])
                  clear hS
                  go_wp2
                  exact bodyPost_ret (v := .tuple #[.int .i64 0, .int .i64 0]) (by simp [results, Tryz.results89, go_sem]) rfl ⟨by rw [HZ.out]; rfl, HBW.out⟩
                have hjmI : ¬ (6 : Int) < j := by omega
                have HZ := Lib.hid (show refAtM (lst s) = (0, 0) by rw [hS, endR_bad _ _ _ _ _ (.inr (.inr (by simp)))])
                clear hS
                go_wp2
                exact bodyPost_ret (v := .tuple #[.int .i64 0, .int .i64 0]) (by simp [results, Tryz.results89, go_sem]) rfl ⟨by rw [HZ.out]; rfl, HBW.out⟩
          · by_cases hx8 : s[2]'h3' = 88
            · rw [if_pos (.inr hx8)] at HQ
              have hxi0 : (((s[2]'h3').toNat : Int) == 120) = false := by rw [hx8]; rfl
              have hxi : (((s[2]'h3').toNat : Int) == 88) = true := by rw [hx8]; rfl
              clear hx hx8
              have HQ2 := Lib.hid (show refAtM (lst s) = endR 6 3 (scanR 16 6 0 0 ((lst s).drop 3)) from HQ)
              clear HQ
              go_wp2
              go_loop [8, 11, 12] (fun a n k => ∃ m j : Nat, a = .int .i64 (3 + j : Nat) ∧ n = .int .i64 m ∧ k = .int .i64 j ∧ 3 + j ≤ s.size ∧ m ≤ 4294967295 ∧ Hid (j ≤ 6 → m < 16 ^ j) ∧ Hid (refAtM (lst s) = endR 6 3 (scanR 16 6 m j ((lst s).drop (3 + j))))) (fun a _ _ => s.size - (intOf a).toNat)
              case atStart => exact ⟨0, 0, rfl, rfl, rfl, by omega, by omega, Lib.hid (fun _ => by decide), HQ2⟩
              case round =>
                clear HQ2
                obtain ⟨m, j, rfl, rfl, rfl, hjs, hm, hmb, hS'⟩ := hrel
                have hS := hS'.out
                clear hS'
                obtain ⟨A, hA⟩ : ∃ A, 3 + j = A := ⟨_, rfl⟩
                rw [hA] at hjs hS ⊢
                by_cases hlt : A < s.size
                · have hdr : (lst s).drop A = s[A]'hlt :: (lst s).drop (A + 1) := List.drop_eq_getElem_cons (by rw [lst_length]; exact hlt)
                  rw [hdr] at hS
                  clear hdr
                  by_cases hdg : digR (s[A]'hlt) < 16
                  · rw [scan_step _ _ _ _ _ _ hdg] at hS
                    have hdI : ((digR (s[A]'hlt) : Nat) : Int) < 16 := by omega
                    have HJ := Lib.hid (show 3 + (j + 1) ≤ s.size by omega)
                    have HJ2 := Lib.hid (show 3 + (j + 1) = A + 1 by omega)
                    by_cases hjm : j ≤ 6
                    · rw [if_pos hjm] at hS
                      have hmj := hmb.out hjm
                      have hb2 := scan_bound 16 m j (digR (s[A]'hlt)) hmj hdg
                      have hb3 : 16 ^ (j + 1) ≤ 16 ^ (6 + 1) := Nat.pow_le_pow_right (by decide) (by omega)
                      have hb4 : m * 16 + digR (s[A]'hlt) ≤ 4294967295 := by
                        have : 16 ^ (6 + 1) ≤ 4294967295 := by decide
                        omega
                      have HB2 := Lib.hid (fun _ : j + 1 ≤ 6 => hb2)
                      have hjmI : (j : Int) ≤ 6 := by omega
                      have e1 : IntKind.i64.wrap ((m : Int) * 16) = m * 16 := IntWalk.i64_in _ (by omega)
                      have e2 : IntKind.i64.wrap ((m : Int) * 16 + (digR (s[A]'hlt) : Nat)) = m * 16 + (digR (s[A]'hlt) : Nat) := IntWalk.i64_in _ (by omega)
                      have HS := Lib.hid hS
                      clear hS hmj hb2 hb3 hA
                      go_wp2_with fail
                      refine (digitOf_any (s[A]'hlt) W).mono ?_
                      rintro e w' ⟨rfl, hw⟩
                      rw [← hw]
                      clear hw w'
                      go_wp2_with fail
                      refine (digitOf_any (s[A]'hlt) W).mono ?_
                      rintro e w' ⟨rfl, hw⟩
                      rw [← hw]
                      clear hw w'
                      go_wp2
                      go_round
                      case rel =>
                        refine ⟨m * 16 + digR (s[A]'hlt), j + 1, ?_, by go_num, by go_num, HJ.out, hb4, HB2, Lib.hid ?_⟩
                        · rw [HJ2.out]; go_num
                        · rw [HJ2.out]; exact HS.out
                      case measure => simp [intOf]; omega
                    · rw [if_neg hjm] at hS
                      have HB2 := Lib.hid (fun h : j + 1 ≤ 6 => (show m < 16 ^ (j + 1) from absurd h (by omega)))
                      have hjmI : ¬ (j : Int) ≤ 6 := by omega
                      have hjb : j ≤ 1000000 := by omega
                      have HS := Lib.hid hS
                      clear hS hA
                      go_wp2_with fail
                      refine (digitOf_any (s[A]'hlt) W).mono ?_
                      rintro e w' ⟨rfl, hw⟩
                      rw [← hw]
                      clear hw w'
                      go_wp2
                      go_round
                      case rel =>
                        refine ⟨m, j + 1, ?_, by go_num, by go_num, HJ.out, hm, HB2, Lib.hid ?_⟩
                        · rw [HJ2.out]; go_num
                        · rw [HJ2.out]; exact HS.out
                      case measure => simp [intOf]; omega
                  · rw [scan_stop _ _ _ _ _ _ hdg] at hS
                    have hdI : ¬ ((digR (s[A]'hlt) : Nat) : Int) < 16 := by omega
                    clear hdg hmb
                    by_cases hj0 : j = 0
                    · have hj0b : ((j : Int) == 0) = true := by simp [hj0]
                      have HZ := Lib.hid (show refAtM (lst s) = (0, 0) by rw [hS, endR_bad _ _ _ _ _ (.inl hj0)])
                      clear hS
                      go_wp2_with fail
                      refine (digitOf_any (s[A]'hlt) W).mono ?_
                      rintro e w' ⟨rfl, hw⟩
                      rw [← hw]
                      clear hw w'
                      go_wp2
                      exact bodyPost_ret (v := .tuple #[.int .i64 0, .int .i64 0]) (by simp [results, Tryz.results89, go_sem]) rfl ⟨by rw [HZ.out]; rfl, HBW.out⟩
                    have hj0b : ((j : Int) == 0) = false := by simp [hj0]
                    by_cases hjm : 6 < j
                    · have hjmI : (6 : Int) < j := by omega
                      have HZ := Lib.hid (show refAtM (lst s) = (0, 0) by rw [hS, endR_bad _ _ _ _ _ (.inr (.inl hjm))])
                      clear hS
                      go_wp2_with fail
                      refine (digitOf_any (s[A]'hlt) W).mono ?_
                      rintro e w' ⟨rfl, hw⟩
                      rw [← hw]
                      clear hw w'
                      go_wp2
                      exact bodyPost_ret (v := .tuple #[.int .i64 0, .int .i64 0]) (by simp [results, Tryz.results89, go_sem]) rfl ⟨by rw [HZ.out]; rfl, HBW.out⟩
                    have hjmI : ¬ (6 : Int) < j := by omega
                    by_cases h59 : s[A]'hlt = 59
                    · have h59b : (((s[A]'hlt).toNat : Int) == 59) = true := by rw [h59]; rfl
                      have h59c : (((s[A]'hlt).toNat : Int) != 59) = false := by rw [h59]; rfl
                      have hltA : ¬ s.size ≤ A := by omega
                      rw [h59, endR_ok _ _ _ _ _ hj0 hjm] at hS
                      clear h59
                      by_cases hm0 : m = 0
                      · subst hm0
                        have HS := Lib.hid (show refAtM (lst s) = (65533, A + 1) by rw [hS, if_pos (.inl rfl), hA])
                        clear hS hA
                        go_wp2_with fail
                        refine (digitOf_any (s[A]'hlt) W).mono ?_
                        rintro e w' ⟨rfl, hw⟩
                        rw [← hw]
                        clear hw w'
                        go_wp2
                        exact bodyPost_ret (v := .tuple #[.int .i64 65533, .int .i64 ((A : Int) + 1)]) (by simp [results, Tryz.results89, go_sem]) rfl ⟨by rw [HS.out]; rfl, HBW.out⟩
                      · have hm0b : ((m : Int) == 0) = false := by simp [hm0]
                        cases hl : isLetR m with
                        | true =>
                          have HS := Lib.hid (show refAtM (lst s) = (m, A + 1) by rw [hS, if_neg (by rw [hl]; simp [hm0]), hA])
                          have HL := Lib.hid (isLetter_any m W)
                          rw [hl] at HL
                          clear hS hA hl hm0
                          go_wp2_with fail
                          refine (digitOf_any (s[A]'hlt) W).mono ?_
                          rintro e w' ⟨rfl, hw⟩
                          rw [← hw]
                          clear hw w'
                          go_wp2_with fail
                          refine HL.out.mono ?_
                          rintro e w' ⟨rfl, hw⟩
                          rw [← hw]
                          clear hw w'
                          go_wp2
                          exact bodyPost_ret (v := .tuple #[.int .i64 m, .int .i64 ((A : Int) + 1)]) (by simp [results, Tryz.results89, go_sem]) rfl ⟨by rw [HS.out]; rfl, HBW.out⟩
                        | false =>
                          have HS := Lib.hid (show refAtM (lst s) = (65533, A + 1) by rw [hS, if_pos (.inr hl), hA])
                          have HL := Lib.hid (isLetter_any m W)
                          rw [hl] at HL
                          clear hS hA hl hm0
                          go_wp2_with fail
                          refine (digitOf_any (s[A]'hlt) W).mono ?_
                          rintro e w' ⟨rfl, hw⟩
                          rw [← hw]
                          clear hw w'
                          go_wp2_with fail
                          refine HL.out.mono ?_
                          rintro e w' ⟨rfl, hw⟩
                          rw [← hw]
                          clear hw w'
                          go_wp2
                          exact bodyPost_ret (v := .tuple #[.int .i64 65533, .int .i64 ((A : Int) + 1)]) (by simp [results, Tryz.results89, go_sem]) rfl ⟨by rw [HS.out]; rfl, HBW.out⟩
                    · have h59b : (((s[A]'hlt).toNat : Int) == 59) = false := by
                        rw [beq_eq_false_iff_ne]; intro h; apply h59; apply UInt8.toNat_inj.1; have : (59 : UInt8).toNat = 59 := rfl; omega
                      have h59c : (((s[A]'hlt).toNat : Int) != 59) = true := by rw [bne, h59b]; rfl
                      have hltA : ¬ s.size ≤ A := by omega
                      have HZ := Lib.hid (show refAtM (lst s) = (0, 0) by rw [hS, endR_bad _ _ _ _ _ (.inr (.inr (by simp [h59])))])
                      clear hS
                      go_wp2_with fail
                      refine (digitOf_any (s[A]'hlt) W).mono ?_
                      rintro e w' ⟨rfl, hw⟩
                      rw [← hw]
                      clear hw w'
                      go_wp2
                      exact bodyPost_ret (v := .tuple #[.int .i64 0, .int .i64 0]) (by simp [results, Tryz.results89, go_sem]) rfl ⟨by rw [HZ.out]; rfl, HBW.out⟩
                · have hdr : (lst s).drop A = [] := List.drop_eq_nil_of_le (by rw [lst_length]; omega)
                  rw [hdr, scan_nil] at hS
                  clear hdr hmb
                  by_cases hj0 : j = 0
                  · have hj0b : ((j : Int) == 0) = true := by simp [hj0]
                    have HZ := Lib.hid (show refAtM (lst s) = (0, 0) by rw [hS, endR_bad _ _ _ _ _ (.inl hj0)])
                    clear hS
                    go_wp2
                    exact bodyPost_ret (v := .tuple #[.int .i64 0, .int .i64 0]) (by simp [results, Tryz.results89, go_sem]) rfl ⟨by rw [HZ.out]; rfl, HBW.out⟩
                  have hj0b : ((j : Int) == 0) = false := by simp [hj0]
                  by_cases hjm : 6 < j
                  · have hjmI : (6 : Int) < j := by omega
                    have HZ := Lib.hid (show refAtM (lst s) = (0, 0) by rw [hS, endR_bad _ _ _ _ _ (.inr (.inl hjm))])
                    clear hS
                    go_wp2
                    exact bodyPost_ret (v := .tuple #[.int .i64 0, .int .i64 0]) (by simp [results, Tryz.results89, go_sem]) rfl ⟨by rw [HZ.out]; rfl, HBW.out⟩
                  have hjmI : ¬ (6 : Int) < j := by omega
                  have HZ := Lib.hid (show refAtM (lst s) = (0, 0) by rw [hS, endR_bad _ _ _ _ _ (.inr (.inr (by simp)))])
                  clear hS
                  go_wp2
                  exact bodyPost_ret (v := .tuple #[.int .i64 0, .int .i64 0]) (by simp [results, Tryz.results89, go_sem]) rfl ⟨by rw [HZ.out]; rfl, HBW.out⟩
            · rw [if_neg (by rintro (h | h) <;> first | exact hx h | exact hx8 h)] at HQ
              have hxi0 : (((s[2]'h3').toNat : Int) == 120) = false := by
                rw [beq_eq_false_iff_ne]; intro h; apply hx; apply UInt8.toNat_inj.1; have : (120 : UInt8).toNat = 120 := rfl; omega
              have hxi : (((s[2]'h3').toNat : Int) == 88) = false := by
                rw [beq_eq_false_iff_ne]; intro h; apply hx8; apply UInt8.toNat_inj.1; have : (88 : UInt8).toNat = 88 := rfl; omega
              clear hx hx8
              have HQ2 := Lib.hid (show refAtM (lst s) = endR 7 2 (scanR 10 7 0 0 ((lst s).drop 2)) from HQ)
              clear HQ
              go_wp2
              go_loop [8, 11, 12] (fun a n k => ∃ m j : Nat, a = .int .i64 (2 + j : Nat) ∧ n = .int .i64 m ∧ k = .int .i64 j ∧ 2 + j ≤ s.size ∧ m ≤ 4294967295 ∧ Hid (j ≤ 7 → m < 10 ^ j) ∧ Hid (refAtM (lst s) = endR 7 2 (scanR 10 7 m j ((lst s).drop (2 + j))))) (fun a _ _ => s.size - (intOf a).toNat)
              case atStart => exact ⟨0, 0, rfl, rfl, rfl, by omega, by omega, Lib.hid (fun _ => by decide), HQ2⟩
              case round =>
                clear HQ2
                obtain ⟨m, j, rfl, rfl, rfl, hjs, hm, hmb, hS'⟩ := hrel
                have hS := hS'.out
                clear hS'
                obtain ⟨A, hA⟩ : ∃ A, 2 + j = A := ⟨_, rfl⟩
                rw [hA] at hjs hS ⊢
                by_cases hlt : A < s.size
                · have hdr : (lst s).drop A = s[A]'hlt :: (lst s).drop (A + 1) := List.drop_eq_getElem_cons (by rw [lst_length]; exact hlt)
                  rw [hdr] at hS
                  clear hdr
                  by_cases hdg : digR (s[A]'hlt) < 10
                  · rw [scan_step _ _ _ _ _ _ hdg] at hS
                    have hdI : ((digR (s[A]'hlt) : Nat) : Int) < 10 := by omega
                    have HJ := Lib.hid (show 2 + (j + 1) ≤ s.size by omega)
                    have HJ2 := Lib.hid (show 2 + (j + 1) = A + 1 by omega)
                    by_cases hjm : j ≤ 7
                    · rw [if_pos hjm] at hS
                      have hmj := hmb.out hjm
                      have hb2 := scan_bound 10 m j (digR (s[A]'hlt)) hmj hdg
                      have hb3 : 10 ^ (j + 1) ≤ 10 ^ (7 + 1) := Nat.pow_le_pow_right (by decide) (by omega)
                      have hb4 : m * 10 + digR (s[A]'hlt) ≤ 4294967295 := by
                        have : 10 ^ (7 + 1) ≤ 4294967295 := by decide
                        omega
                      have HB2 := Lib.hid (fun _ : j + 1 ≤ 7 => hb2)
                      have hjmI : (j : Int) ≤ 7 := by omega
                      have e1 : IntKind.i64.wrap ((m : Int) * 10) = m * 10 := IntWalk.i64_in _ (by omega)
                      have e2 : IntKind.i64.wrap ((m : Int) * 10 + (digR (s[A]'hlt) : Nat)) = m * 10 + (digR (s[A]'hlt) : Nat) := IntWalk.i64_in _ (by omega)
                      have HS := Lib.hid hS
                      clear hS hmj hb2 hb3 hA
                      go_wp2_with fail
                      refine (digitOf_any (s[A]'hlt) W).mono ?_
                      rintro e w' ⟨rfl, hw⟩
                      rw [← hw]
                      clear hw w'
                      go_wp2_with fail
                      refine (digitOf_any (s[A]'hlt) W).mono ?_
                      rintro e w' ⟨rfl, hw⟩
                      rw [← hw]
                      clear hw w'
                      go_wp2
                      go_round
                      case rel =>
                        refine ⟨m * 10 + digR (s[A]'hlt), j + 1, ?_, by go_num, by go_num, HJ.out, hb4, HB2, Lib.hid ?_⟩
                        · rw [HJ2.out]; go_num
                        · rw [HJ2.out]; exact HS.out
                      case measure => simp [intOf]; omega
                    · rw [if_neg hjm] at hS
                      have HB2 := Lib.hid (fun h : j + 1 ≤ 7 => (show m < 10 ^ (j + 1) from absurd h (by omega)))
                      have hjmI : ¬ (j : Int) ≤ 7 := by omega
                      have hjb : j ≤ 1000000 := by omega
                      have HS := Lib.hid hS
                      clear hS hA
                      go_wp2_with fail
                      refine (digitOf_any (s[A]'hlt) W).mono ?_
                      rintro e w' ⟨rfl, hw⟩
                      rw [← hw]
                      clear hw w'
                      go_wp2
                      go_round
                      case rel =>
                        refine ⟨m, j + 1, ?_, by go_num, by go_num, HJ.out, hm, HB2, Lib.hid ?_⟩
                        · rw [HJ2.out]; go_num
                        · rw [HJ2.out]; exact HS.out
                      case measure => simp [intOf]; omega
                  · rw [scan_stop _ _ _ _ _ _ hdg] at hS
                    have hdI : ¬ ((digR (s[A]'hlt) : Nat) : Int) < 10 := by omega
                    clear hdg hmb
                    by_cases hj0 : j = 0
                    · have hj0b : ((j : Int) == 0) = true := by simp [hj0]
                      have HZ := Lib.hid (show refAtM (lst s) = (0, 0) by rw [hS, endR_bad _ _ _ _ _ (.inl hj0)])
                      clear hS
                      go_wp2_with fail
                      refine (digitOf_any (s[A]'hlt) W).mono ?_
                      rintro e w' ⟨rfl, hw⟩
                      rw [← hw]
                      clear hw w'
                      go_wp2
                      exact bodyPost_ret (v := .tuple #[.int .i64 0, .int .i64 0]) (by simp [results, Tryz.results89, go_sem]) rfl ⟨by rw [HZ.out]; rfl, HBW.out⟩
                    have hj0b : ((j : Int) == 0) = false := by simp [hj0]
                    by_cases hjm : 7 < j
                    · have hjmI : (7 : Int) < j := by omega
                      have HZ := Lib.hid (show refAtM (lst s) = (0, 0) by rw [hS, endR_bad _ _ _ _ _ (.inr (.inl hjm))])
                      clear hS
                      go_wp2_with fail
                      refine (digitOf_any (s[A]'hlt) W).mono ?_
                      rintro e w' ⟨rfl, hw⟩
                      rw [← hw]
                      clear hw w'
                      go_wp2
                      exact bodyPost_ret (v := .tuple #[.int .i64 0, .int .i64 0]) (by simp [results, Tryz.results89, go_sem]) rfl ⟨by rw [HZ.out]; rfl, HBW.out⟩
                    have hjmI : ¬ (7 : Int) < j := by omega
                    by_cases h59 : s[A]'hlt = 59
                    · have h59b : (((s[A]'hlt).toNat : Int) == 59) = true := by rw [h59]; rfl
                      have h59c : (((s[A]'hlt).toNat : Int) != 59) = false := by rw [h59]; rfl
                      have hltA : ¬ s.size ≤ A := by omega
                      rw [h59, endR_ok _ _ _ _ _ hj0 hjm] at hS
                      clear h59
                      by_cases hm0 : m = 0
                      · subst hm0
                        have HS := Lib.hid (show refAtM (lst s) = (65533, A + 1) by rw [hS, if_pos (.inl rfl), hA])
                        clear hS hA
                        go_wp2_with fail
                        refine (digitOf_any (s[A]'hlt) W).mono ?_
                        rintro e w' ⟨rfl, hw⟩
                        rw [← hw]
                        clear hw w'
                        go_wp2
                        exact bodyPost_ret (v := .tuple #[.int .i64 65533, .int .i64 ((A : Int) + 1)]) (by simp [results, Tryz.results89, go_sem]) rfl ⟨by rw [HS.out]; rfl, HBW.out⟩
                      · have hm0b : ((m : Int) == 0) = false := by simp [hm0]
                        cases hl : isLetR m with
                        | true =>
                          have HS := Lib.hid (show refAtM (lst s) = (m, A + 1) by rw [hS, if_neg (by rw [hl]; simp [hm0]), hA])
                          have HL := Lib.hid (isLetter_any m W)
                          rw [hl] at HL
                          clear hS hA hl hm0
                          go_wp2_with fail
                          refine (digitOf_any (s[A]'hlt) W).mono ?_
                          rintro e w' ⟨rfl, hw⟩
                          rw [← hw]
                          clear hw w'
                          go_wp2_with fail
                          refine HL.out.mono ?_
                          rintro e w' ⟨rfl, hw⟩
                          rw [← hw]
                          clear hw w'
                          go_wp2
                          exact bodyPost_ret (v := .tuple #[.int .i64 m, .int .i64 ((A : Int) + 1)]) (by simp [results, Tryz.results89, go_sem]) rfl ⟨by rw [HS.out]; rfl, HBW.out⟩
                        | false =>
                          have HS := Lib.hid (show refAtM (lst s) = (65533, A + 1) by rw [hS, if_pos (.inr hl), hA])
                          have HL := Lib.hid (isLetter_any m W)
                          rw [hl] at HL
                          clear hS hA hl hm0
                          go_wp2_with fail
                          refine (digitOf_any (s[A]'hlt) W).mono ?_
                          rintro e w' ⟨rfl, hw⟩
                          rw [← hw]
                          clear hw w'
                          go_wp2_with fail
                          refine HL.out.mono ?_
                          rintro e w' ⟨rfl, hw⟩
                          rw [← hw]
                          clear hw w'
                          go_wp2
                          exact bodyPost_ret (v := .tuple #[.int .i64 65533, .int .i64 ((A : Int) + 1)]) (by simp [results, Tryz.results89, go_sem]) rfl ⟨by rw [HS.out]; rfl, HBW.out⟩
                    · have h59b : (((s[A]'hlt).toNat : Int) == 59) = false := by
                        rw [beq_eq_false_iff_ne]; intro h; apply h59; apply UInt8.toNat_inj.1; have : (59 : UInt8).toNat = 59 := rfl; omega
                      have h59c : (((s[A]'hlt).toNat : Int) != 59) = true := by rw [bne, h59b]; rfl
                      have hltA : ¬ s.size ≤ A := by omega
                      have HZ := Lib.hid (show refAtM (lst s) = (0, 0) by rw [hS, endR_bad _ _ _ _ _ (.inr (.inr (by simp [h59])))])
                      clear hS
                      go_wp2_with fail
                      refine (digitOf_any (s[A]'hlt) W).mono ?_
                      rintro e w' ⟨rfl, hw⟩
                      rw [← hw]
                      clear hw w'
                      go_wp2
                      exact bodyPost_ret (v := .tuple #[.int .i64 0, .int .i64 0]) (by simp [results, Tryz.results89, go_sem]) rfl ⟨by rw [HZ.out]; rfl, HBW.out⟩
                · have hdr : (lst s).drop A = [] := List.drop_eq_nil_of_le (by rw [lst_length]; omega)
                  rw [hdr, scan_nil] at hS
                  clear hdr hmb
                  by_cases hj0 : j = 0
                  · have hj0b : ((j : Int) == 0) = true := by simp [hj0]
                    have HZ := Lib.hid (show refAtM (lst s) = (0, 0) by rw [hS, endR_bad _ _ _ _ _ (.inl hj0)])
                    clear hS
                    go_wp2
                    exact bodyPost_ret (v := .tuple #[.int .i64 0, .int .i64 0]) (by simp [results, Tryz.results89, go_sem]) rfl ⟨by rw [HZ.out]; rfl, HBW.out⟩
                  have hj0b : ((j : Int) == 0) = false := by simp [hj0]
                  by_cases hjm : 7 < j
                  · have hjmI : (7 : Int) < j := by omega
                    have HZ := Lib.hid (show refAtM (lst s) = (0, 0) by rw [hS, endR_bad _ _ _ _ _ (.inr (.inl hjm))])
                    clear hS
                    go_wp2
                    exact bodyPost_ret (v := .tuple #[.int .i64 0, .int .i64 0]) (by simp [results, Tryz.results89, go_sem]) rfl ⟨by rw [HZ.out]; rfl, HBW.out⟩
                  have hjmI : ¬ (7 : Int) < j := by omega
                  have HZ := Lib.hid (show refAtM (lst s) = (0, 0) by rw [hS, endR_bad _ _ _ _ _ (.inr (.inr (by simp)))])
                  clear hS
                  go_wp2
                  exact bodyPost_ret (v := .tuple #[.int .i64 0, .int .i64 0]) (by simp [results, Tryz.results89, go_sem]) rfl ⟨by rw [HZ.out]; rfl, HBW.out⟩
        · have ht : ((s.extract 0 2).toList == [38, 35]) = false := by
            rw [Lib.toList_data]
            show (lst (s.extract 0 2) == _) = false
            rw [hx2]; exact beq_eq_false_iff_ne.2 h2
          have ht' : ¬ (s.extract 0 2).toList = [38, 35] := beq_eq_false_iff_ne.1 ht
          have HQ := Lib.hid (show refAtM (lst s) = (0, 0) by rw [HR.out, num_not _ (.inr h2)])
          clear hx2 h2
          go_wp2
          exact bodyPost_ret (v := .tuple #[.int .i64 0, .int .i64 0]) (by simp [results, Tryz.results89, go_sem]) rfl ⟨by rw [HQ.out]; rfl, HBW.out⟩

end Go.Proofs.YtjkgmdnkejjppaaGreatDoor
