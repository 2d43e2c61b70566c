/- Walks of the reference's strict reader: name. -/
import Derived.Test.YtjkgmdnkejjppaaGreatDoorJVWalkA
import Derived.BigQuiet
namespace Go.Proofs.YtjkgmdnkejjppaaGreatDoor
open Go Go.RowKit

theorem nameC_int (c : UInt8) : nameC c = true ↔ (c.toNat = 45 ∨ (97 ≤ c.toNat ∧ c.toNat ≤ 122) ∨ (48 ≤ c.toNat ∧ c.toNat ≤ 57)) := by
  unfold nameC
  simp only [Bool.or_eq_true, Bool.and_eq_true, decide_eq_true_eq, beq_iff_eq, UInt8.le_iff_toNat_le, ← UInt8.toNat_inj]
  have e1 : (97 : UInt8).toNat = 97 := rfl
  have e2 : (122 : UInt8).toNat = 122 := rfl
  have e3 : (48 : UInt8).toNat = 48 := rfl
  have e4 : (57 : UInt8).toNat = 57 := rfl
  have e5 : (45 : UInt8).toNat = 45 := rfl
  rw [e1, e2, e3, e4, e5]
  omega
/-- What was passed, and what is left, where a scan stops. -/
theorem while_split {p : UInt8 → Bool} {r : Bytes} {k : Nat} (h : ∀ c ∈ r.take k, p c = true) (hs : ∀ c, r[k]? = some c → p c = false) : r.takeWhile p = r.take k ∧ r.dropWhile p = r.drop k := by
  have e := List.take_append_drop k r
  have hd : (r.drop k) = [] ∨ ∃ c t, r.drop k = c :: t ∧ p c = false := by
    cases hh : r.drop k with
    | nil => exact .inl rfl
    | cons c t =>
      refine .inr ⟨c, t, rfl, hs c ?_⟩
      have : (r.drop k)[0]? = some c := by rw [hh]; rfl
      rw [List.getElem?_drop] at this
      simpa using this
  have h1 : (r.take k ++ r.drop k).takeWhile p = r.take k := by
    rw [List.takeWhile_append_of_pos h]
    rcases hd with hd | ⟨c, t, hd, hc⟩ <;> rw [hd] <;> simp [*]
  have h2 : (r.take k ++ r.drop k).dropWhile p = r.drop k := by
    rw [List.dropWhile_append_of_pos h]
    rcases hd with hd | ⟨c, t, hd, hc⟩ <;> rw [hd] <;> simp [*]
  rw [e] at h1 h2
  exact ⟨h1, h2⟩

set_option maxHeartbeats 40000000 in
set_option maxRecDepth 100000 in
theorem sname_any (b : Nat) (s : ByteArray) (r : Bytes) (bad : Bool) (hs : s.size ≤ 1000000) (w : World) (h : RdR w b s r bad) :
    Calls Tryz.prog 40 #[.pointer (some ⟨b, 0, none⟩)] w fun e w' => e = .returned (.string (mk (nmT r))) ∧ RdR w' b s (nmR r) bad ∧ Only b w w' := by
  obtain ⟨at0, hr, hle, hrest⟩ := h
  obtain ⟨c0, c1, -, -, -, hb⟩ := hr.all
  have hrl : r.length = s.size - at0 := by rw [← hrest, List.length_drop, lst_length]
  have HR := Lib.hid hr
  have HREST := Lib.hid hrest
  clear hr hrest
  go_enter Tryz.func40, Tryz.ntmps40
  go_wp2_with fail
  clear c0 c1
  go_loopg [] (s.size - at0) (fun g wx => ∃ (W : World) (a : Nat), W = wx ∧ at0 ≤ a ∧ a + g = s.size ∧ Hid (Rd W b s a bad) ∧ Hid (∀ c ∈ r.take (a - at0), nameC c = true) ∧ Hid (Only b w W))
  case atStart => exact ⟨_, at0, rfl, Nat.le_refl _, by omega, HR, Lib.hid (by simp), Lib.hid (Kept.refl _ _ _)⟩
  case round =>
    obtain ⟨W, a, rfl, ha, hg, hR, hA, hO⟩ := hrel
    obtain ⟨c0, c1, -, f1, -, -⟩ := hR.out.all
    have a0 : (0 : Int) ≤ a := by omega
    have hcat : at0 + (a - at0) = a := by omega
    have i0 : (at0 : Int) ≤ a := by omega
    have i1 : (a : Int) ≤ s.size := by omega
    have i2 : (0 : Int) ≤ at0 := by omega
    by_cases hlt : a < s.size
    · have l1 : (a : Int) < s.size := by omega
      obtain ⟨c, hc⟩ : ∃ c, c = s[a]'hlt := ⟨_, rfl⟩
      have hget : r[a - at0]? = some c := by
        rw [← HREST.out, List.getElem?_drop, hcat, hc]
        exact List.getElem?_eq_getElem (by rw [lst_length]; exact hlt)
      have hci := nameC_int c
      cases hn : nameC c with
      | true =>
        have HN1 : Hid (∀ c ∈ r.take (a + 1 - at0), nameC c = true) := Lib.hid fun x hx => by
          rw [show a + 1 - at0 = a - at0 + 1 by omega, List.take_add_one, hget] at hx
          rcases List.mem_append.1 hx with hx | hx
          · exact hA.out x hx
          · simp at hx; subst hx; exact hn
        have hw := hci.1 hn
        rw [hc] at hw
        clear hn hci hget hA
        rcases hw with hw | ⟨hw1, hw2⟩ | ⟨hw1, hw2⟩
        · have e1 : ((s[a]'hlt).toNat : Int) = 45 := by omega
          have eb : (((s[a]'hlt).toNat : Int) == 45) = true := beq_iff_eq.2 e1
          clear e1
          clear hw hc
          go_upto_region 2 with fail
          simp only [List.append_eq, List.cons_append, List.nil_append]
          go_big_quiet (fail)
          go_wp2_with fail
          go_roundg (s.size - (a + 1))
          case measure => omega
          case rel =>
            refine ⟨_, a + 1, rfl, by omega, by omega, ?_, ?_, ?_⟩
            · have h2 : Rd ((W.drewN nq).setCell ⟨b, 1, none⟩ (.int .i64 ((a + 1 : Nat) : Int))) b s (a + 1) bad := (show Rd (W.drewN nq) b s a bad from hR.out).setAt (a + 1)
              exact Lib.hid h2
            · exact HN1
            · exact Lib.hid ((hO.out.drewN _).setCell (p := ⟨b, 1, none⟩) (.inl rfl) _)
        · have e1 : ¬ ((s[a]'hlt).toNat : Int) = 45 := by omega
          have eb : (((s[a]'hlt).toNat : Int) == 45) = false := beq_eq_false_iff_ne.2 e1
          have e2 : (97 : Int) ≤ ((s[a]'hlt).toNat : Int) := by omega
          have e3 : ((s[a]'hlt).toNat : Int) ≤ 122 := by omega
          clear hw1 hw2 hc
          go_upto_region 2 with fail
          simp only [List.append_eq, List.cons_append, List.nil_append]
          go_big_quiet (fail)
          go_wp2_with fail
          go_roundg (s.size - (a + 1))
          case measure => omega
          case rel =>
            refine ⟨_, a + 1, rfl, by omega, by omega, ?_, ?_, ?_⟩
            · have h2 : Rd ((W.drewN nq).setCell ⟨b, 1, none⟩ (.int .i64 ((a + 1 : Nat) : Int))) b s (a + 1) bad := (show Rd (W.drewN nq) b s a bad from hR.out).setAt (a + 1)
              exact Lib.hid h2
            · exact HN1
            · exact Lib.hid ((hO.out.drewN _).setCell (p := ⟨b, 1, none⟩) (.inl rfl) _)
        · have e1 : ¬ ((s[a]'hlt).toNat : Int) = 45 := by omega
          have eb : (((s[a]'hlt).toNat : Int) == 45) = false := beq_eq_false_iff_ne.2 e1
          have e2 : ¬ (97 : Int) ≤ ((s[a]'hlt).toNat : Int) := by omega
          have e2d : decide ((97 : Int) ≤ ((s[a]'hlt).toNat : Int)) = false := decide_eq_false e2
          have e3 : (48 : Int) ≤ ((s[a]'hlt).toNat : Int) := by omega
          have e4 : ((s[a]'hlt).toNat : Int) ≤ 57 := by omega
          clear hw1 hw2 hc
          go_upto_region 2 with fail
          simp only [List.append_eq, List.cons_append, List.nil_append]
          go_big_quiet (fail)
          go_wp2_with fail
          go_roundg (s.size - (a + 1))
          case measure => omega
          case rel =>
            refine ⟨_, a + 1, rfl, by omega, by omega, ?_, ?_, ?_⟩
            · have h2 : Rd ((W.drewN nq).setCell ⟨b, 1, none⟩ (.int .i64 ((a + 1 : Nat) : Int))) b s (a + 1) bad := (show Rd (W.drewN nq) b s a bad from hR.out).setAt (a + 1)
              exact Lib.hid h2
            · exact HN1
            · exact Lib.hid ((hO.out.drewN _).setCell (p := ⟨b, 1, none⟩) (.inl rfl) _)
      | false =>
        have hsp := while_split (p := nameC) (k := a - at0) hA.out (fun x hx => by rw [hget] at hx; cases hx; exact hn)
        have HT : Hid (s.extract at0 a = mk (nmT r)) := Lib.hid (by
          have := ext_take s at0 (a - at0)
          rw [hcat, HREST.out] at this
          rw [this, ← hsp.1]; rfl)
        have HD : Hid ((lst s).drop a = nmR r) := Lib.hid (by
          show _ = r.dropWhile nameC
          rw [hsp.2, ← HREST.out, List.drop_drop, hcat])
        have hw : ¬ (c.toNat = 45 ∨ (97 ≤ c.toNat ∧ c.toNat ≤ 122) ∨ (48 ≤ c.toNat ∧ c.toNat ≤ 57)) := fun h => by rw [hci.2 h] at hn; cases hn
        rw [hc] at hw
        clear hn hci hget hA hsp
        have e1 : ¬ ((s[a]'hlt).toNat : Int) = 45 := by omega
        have eb : (((s[a]'hlt).toNat : Int) == 45) = false := beq_eq_false_iff_ne.2 e1
        by_cases g1 : 122 < (s[a]'hlt).toNat
        · have e2 : (97 : Int) ≤ ((s[a]'hlt).toNat : Int) := by omega
          have e3 : ¬ ((s[a]'hlt).toNat : Int) ≤ 122 := by omega
          have e3d : decide (((s[a]'hlt).toNat : Int) ≤ 122) = false := decide_eq_false e3
          have e4 : (48 : Int) ≤ ((s[a]'hlt).toNat : Int) := by omega
          have e5 : ¬ ((s[a]'hlt).toNat : Int) ≤ 57 := by omega
          have e5d : decide (((s[a]'hlt).toNat : Int) ≤ 57) = false := decide_eq_false e5
          clear hw g1 hc
          go_upto_region 2 with fail
          simp only [List.append_eq, List.cons_append, List.nil_append]
          go_big_quiet (fail)
          obtain ⟨W2, hW2⟩ : ∃ W2, W2 = W.drewN nq := ⟨_, rfl⟩
          rw [← hW2]
          have hR2 := Lib.hid (show Rd W2 b s a bad by rw [hW2]; exact hR.out)
          have hO2 := Lib.hid (show Only b w W2 by rw [hW2]; exact hO.out.drewN nq)
          have c0' : W2.cell? ⟨b, 0, none⟩ = some (.string s) := by rw [hW2]; exact c0
          have c1' : W2.cell? ⟨b, 1, none⟩ = some (.int .i64 a) := by rw [hW2]; exact c1
          clear hW2 hR hO c0 c1 f1
          go_upto_region 4 with fail
          go_big_quiet (fail)
          go_wp2_with fail
          go_ret
          exact ⟨by rw [HT.out]; rfl, ⟨a, hR2.out, by omega, HD.out⟩, hO2.out.drewN _⟩
        · by_cases g2 : 57 < (s[a]'hlt).toNat
          · have e2 : ¬ (97 : Int) ≤ ((s[a]'hlt).toNat : Int) := by omega
            have e2d : decide ((97 : Int) ≤ ((s[a]'hlt).toNat : Int)) = false := decide_eq_false e2
            have e4 : (48 : Int) ≤ ((s[a]'hlt).toNat : Int) := by omega
            have e5 : ¬ ((s[a]'hlt).toNat : Int) ≤ 57 := by omega
            have e5d : decide (((s[a]'hlt).toNat : Int) ≤ 57) = false := decide_eq_false e5
            clear hw g1 g2 hc
            go_upto_region 2 with fail
            simp only [List.append_eq, List.cons_append, List.nil_append]
            go_big_quiet (fail)
            obtain ⟨W2, hW2⟩ : ∃ W2, W2 = W.drewN nq := ⟨_, rfl⟩
            rw [← hW2]
            have hR2 := Lib.hid (show Rd W2 b s a bad by rw [hW2]; exact hR.out)
            have hO2 := Lib.hid (show Only b w W2 by rw [hW2]; exact hO.out.drewN nq)
            have c0' : W2.cell? ⟨b, 0, none⟩ = some (.string s) := by rw [hW2]; exact c0
            have c1' : W2.cell? ⟨b, 1, none⟩ = some (.int .i64 a) := by rw [hW2]; exact c1
            clear hW2 hR hO c0 c1 f1
            go_upto_region 4 with fail
            go_big_quiet (fail)
            go_wp2_with fail
            go_ret
            exact ⟨by rw [HT.out]; rfl, ⟨a, hR2.out, by omega, HD.out⟩, hO2.out.drewN _⟩
          · have e2 : ¬ (97 : Int) ≤ ((s[a]'hlt).toNat : Int) := by omega
            have e2d : decide ((97 : Int) ≤ ((s[a]'hlt).toNat : Int)) = false := decide_eq_false e2
            have e4 : ¬ (48 : Int) ≤ ((s[a]'hlt).toNat : Int) := by omega
            have e4d : decide ((48 : Int) ≤ ((s[a]'hlt).toNat : Int)) = false := decide_eq_false e4
            clear hw g1 g2 hc
            go_upto_region 2 with fail
            simp only [List.append_eq, List.cons_append, List.nil_append]
            go_big_quiet (fail)
            obtain ⟨W2, hW2⟩ : ∃ W2, W2 = W.drewN nq := ⟨_, rfl⟩
            rw [← hW2]
            have hR2 := Lib.hid (show Rd W2 b s a bad by rw [hW2]; exact hR.out)
            have hO2 := Lib.hid (show Only b w W2 by rw [hW2]; exact hO.out.drewN nq)
            have c0' : W2.cell? ⟨b, 0, none⟩ = some (.string s) := by rw [hW2]; exact c0
            have c1' : W2.cell? ⟨b, 1, none⟩ = some (.int .i64 a) := by rw [hW2]; exact c1
            clear hW2 hR hO c0 c1 f1
            go_upto_region 4 with fail
            go_big_quiet (fail)
            go_wp2_with fail
            go_ret
            exact ⟨by rw [HT.out]; rfl, ⟨a, hR2.out, by omega, HD.out⟩, hO2.out.drewN _⟩
    · obtain rfl : a = s.size := by omega
      have hsp := while_split (p := nameC) (k := s.size - at0) hA.out (fun x hx => by
        have := (List.getElem?_eq_some_iff.1 hx).1
        omega)
      have HT : Hid (s.extract at0 s.size = mk (nmT r)) := Lib.hid (by
        have := ext_take s at0 (s.size - at0)
        rw [hcat, HREST.out] at this
        rw [this, ← hsp.1]; rfl)
      have HD : Hid ((lst s).drop s.size = nmR r) := Lib.hid (by
        show _ = r.dropWhile nameC
        rw [hsp.2, ← HREST.out, List.drop_drop, hcat])
      have l1 : ¬ (s.size : Int) < s.size := by omega
      clear hsp hA
      go_upto_region 2 with fail
      simp only [List.append_eq, List.cons_append, List.nil_append]
      go_big_quiet (fail)
      obtain ⟨W2, hW2⟩ : ∃ W2, W2 = W.drewN nq := ⟨_, rfl⟩
      rw [← hW2]
      have hR2 := Lib.hid (show Rd W2 b s s.size bad by rw [hW2]; exact hR.out)
      have hO2 := Lib.hid (show Only b w W2 by rw [hW2]; exact hO.out.drewN nq)
      have c0' : W2.cell? ⟨b, 0, none⟩ = some (.string s) := by rw [hW2]; exact c0
      have c1' : W2.cell? ⟨b, 1, none⟩ = some (.int .i64 s.size) := by rw [hW2]; exact c1
      clear hW2 hR hO c0 c1 f1
      go_upto_region 4 with fail
      go_big_quiet (fail)
      go_wp2_with fail
      go_ret
      exact ⟨by rw [HT.out]; rfl, ⟨s.size, hR2.out, by omega, HD.out⟩, hO2.out.drewN _⟩
end Go.Proofs.YtjkgmdnkejjppaaGreatDoor
