/- Walk of the reference's strict reader: upto. -/
import Derived.Test.YtjkgmdnkejjppaaGreatDoorJVWalkA
import Derived.Test.YtjkgmdnkejjppaaGreatDoorJRWalkD
namespace Go.Proofs.YtjkgmdnkejjppaaGreatDoor
open Go Go.RowKit

/-- What was passed, and what is left, where a scan stops. -/
theorem while_splitU {p : UInt8 → Bool} {r : Bytes} {k : Nat} (h : ∀ c ∈ r.take k, p c = true) (hs : ∀ c, r[k]? = some c → p c = false) : r.takeWhile p = r.take k ∧ r.dropWhile p = r.drop k := by
  have e := List.take_append_drop k r
  have hd : (r.drop k) = [] ∨ ∃ c t, r.drop k = c :: t ∧ p c = false := by
    cases hh : r.drop k with
    | nil => exact .inl rfl
    | cons c t =>
      refine .inr ⟨c, t, rfl, hs c ?_⟩
      have : (r.drop k)[0]? = some c := by rw [hh]; rfl
      rw [List.getElem?_drop] at this
      simpa using this
  have h1 : (r.take k ++ r.drop k).takeWhile p = r.take k := by
    rw [List.takeWhile_append_of_pos h]
    rcases hd with hd | ⟨c, t, hd, hc⟩ <;> rw [hd] <;> simp [*]
  have h2 : (r.take k ++ r.drop k).dropWhile p = r.drop k := by
    rw [List.dropWhile_append_of_pos h]
    rcases hd with hd | ⟨c, t, hd, hc⟩ <;> rw [hd] <;> simp [*]
  rw [e] at h1 h2
  exact ⟨h1, h2⟩

set_option maxHeartbeats 4000000 in
set_option maxRecDepth 100000 in
theorem upto_any (b : Nat) (s : ByteArray) (r : Bytes) (x : UInt8) (bad : Bool) (hs : s.size ≤ 1000000) (w : World) (h : RdR w b s r bad) :
    Calls Tryz.prog 39 #[.pointer (some ⟨b, 0, none⟩), .int .u8 x.toNat] w fun e w' => e = .returned (.string (mk (unesc (upT x r)))) ∧ RdR w' b s (upR x r) bad ∧ Only b w w' := by
  obtain ⟨at0, hr, hle, hrest⟩ := h
  obtain ⟨c0, c1, -, -, -, hb⟩ := hr.all
  have hrl : r.length = s.size - at0 := by rw [← hrest, List.length_drop, lst_length]
  have HR := Lib.hid hr
  have HREST := Lib.hid hrest
  clear hr hrest
  go_enter Tryz.func39, Tryz.ntmps39
  go_wp2_with fail
  clear c0 c1
  go_loopg [] (s.size - at0) (fun g wx => ∃ (W : World) (a : Nat), W = wx ∧ at0 ≤ a ∧ a + g = s.size ∧ Hid (Rd W b s a bad) ∧ Hid (∀ c ∈ r.take (a - at0), (!(c == x)) = true) ∧ Hid (Only b w W))
  case atStart => exact ⟨_, at0, rfl, Nat.le_refl _, by omega, HR, Lib.hid (by simp), Lib.hid (Kept.refl _ _ _)⟩
  case round =>
    obtain ⟨W, a, rfl, ha, hg, hR, hA, hO⟩ := hrel
    obtain ⟨c0, c1, -, f1, -, -⟩ := hR.out.all
    have a0 : (0 : Int) ≤ a := by omega
    have hcat : at0 + (a - at0) = a := by omega
    have i0 : (at0 : Int) ≤ a := by omega
    have i1 : (a : Int) ≤ s.size := by omega
    have i2 : (0 : Int) ≤ at0 := by omega
    have fin : (∀ c, r[a - at0]? = some c → (!(c == x)) = false) → s.extract at0 a = mk (upT x r) ∧ (lst s).drop a = upR x r := by
      intro hst
      have hsp := while_splitU (p := fun c => !(c == x)) (k := a - at0) hA.out hst
      constructor
      · have := ext_take s at0 (a - at0)
        rw [hcat, HREST.out] at this
        rw [this, ← hsp.1]; rfl
      · show _ = r.dropWhile _
        rw [hsp.2, ← HREST.out, List.drop_drop, hcat]
    have HFIN := Lib.hid fin
    clear fin
    by_cases hlt : a < s.size
    · have l1 : (a : Int) < s.size := by omega
      obtain ⟨c, hc⟩ : ∃ c, c = s[a]'hlt := ⟨_, rfl⟩
      have hget : r[a - at0]? = some c := by
        rw [← HREST.out, List.getElem?_drop, hcat, hc]
        exact List.getElem?_eq_getElem (by rw [lst_length]; exact hlt)
      have hcn : c.toNat = (s[a]'hlt).toNat := by rw [hc]
      by_cases hx : c = x
      · obtain ⟨hT, hD⟩ := HFIN.out (fun y hy => by rw [hget] at hy; cases hy; simp [hx])
        have HT := Lib.hid hT
        have HD := Lib.hid hD
        have HU := Lib.hid (fun W => refUnescape_any (mk (upT x r)) W (by
          rw [mk_size]
          have : (upT x r).length ≤ r.length := (List.takeWhile_prefix _).length_le
          omega))
        have e1 : (((s[a]'hlt).toNat : Int) == (x.toNat : Int)) = true := by rw [← hcn, hx]; exact beq_self_eq_true _
        have e2 : ((s[a]'hlt).toNat : Int) = (x.toNat : Int) := by rw [← hcn, hx]
        clear hT hD hc hget hcn hx HFIN hA
        go_wp2_with fail
        go_quiet (fail)
        obtain ⟨W2, hW2⟩ : ∃ W2, W2 = W.drewN nq := ⟨_, rfl⟩
        rw [← hW2]
        have hR2 := Lib.hid (show Rd W2.drew b s a bad by rw [hW2]; exact hR.out)
        have hO2 := Lib.hid (show Only b w W2.drew by rw [hW2]; exact (hO.out.drewN nq).drewN 1)
        have c0' : W2.cell? ⟨b, 0, none⟩ = some (.string s) := by rw [hW2]; exact c0
        have c1' : W2.cell? ⟨b, 1, none⟩ = some (.int .i64 a) := by rw [hW2]; exact c1
        clear hW2
        go_upto_region 4 with fail
        go_still_tail 10, (by kernel_rfl)
        change wpList _ _ _ _ _ W2.drew
        go_wp2_with fail
        rw [HT.out]
        refine (HU.out _).mono ?_
        rintro e w3 ⟨rfl, hb3⟩
        rw [lst_mk]
        have HO3 := Lib.hid (hO2.out.below hb3)
        have hR3 := Lib.hid (hR2.out.below hb3 (lt_of_block hR2.out))
        clear hb3
        go_wp2_with fail
        go_ret
        exact ⟨rfl, ⟨a, hR3.out, by omega, HD.out⟩, HO3.out⟩
      · have HN1 : Hid (∀ c ∈ r.take (a + 1 - at0), (!(c == x)) = true) := Lib.hid fun y hy => by
          rw [show a + 1 - at0 = a - at0 + 1 by omega, List.take_add_one, hget] at hy
          rcases List.mem_append.1 hy with hy | hy
          · exact hA.out y hy
          · simp at hy; subst hy; simp [hx]
        have hne : c.toNat ≠ x.toNat := fun e => hx (UInt8.toNat_inj.1 e)
        have e2 : ¬ ((s[a]'hlt).toNat : Int) = (x.toNat : Int) := by omega
        have e1 : (((s[a]'hlt).toNat : Int) == (x.toNat : Int)) = false := beq_eq_false_iff_ne.2 e2
        clear hc hget hcn hx HFIN hA hne
        go_wp2_with fail
        go_quiet (fail)
        go_wp2_with fail
        go_roundg (s.size - (a + 1))
        case measure => omega
        case rel =>
          refine ⟨_, a + 1, rfl, by omega, by omega, ?_, ?_, ?_⟩
          · have h2 : Rd ((W.drewN nq).setCell ⟨b, 1, none⟩ (.int .i64 ((a + 1 : Nat) : Int))) b s (a + 1) bad := (show Rd (W.drewN nq) b s a bad from hR.out).setAt (a + 1)
            exact Lib.hid h2
          · exact HN1
          · exact Lib.hid ((hO.out.drewN _).setCell (p := ⟨b, 1, none⟩) (.inl rfl) _)
    · obtain rfl : a = s.size := by omega
      have l1 : ¬ (s.size : Int) < s.size := by omega
      obtain ⟨hT, hD⟩ := HFIN.out (fun y hy => by
        have := (List.getElem?_eq_some_iff.1 hy).1
        omega)
      have HT := Lib.hid hT
      have HD := Lib.hid hD
      have HU := Lib.hid (fun W => refUnescape_any (mk (upT x r)) W (by
        rw [mk_size]
        have : (upT x r).length ≤ r.length := (List.takeWhile_prefix _).length_le
        omega))
      clear hT hD HFIN hA
      go_wp2_with fail
      go_quiet (fail)
      obtain ⟨W2, hW2⟩ : ∃ W2, W2 = W.drewN nq := ⟨_, rfl⟩
      rw [← hW2]
      have hR2 := Lib.hid (show Rd W2.drew b s s.size bad by rw [hW2]; exact hR.out)
      have hO2 := Lib.hid (show Only b w W2.drew by rw [hW2]; exact (hO.out.drewN nq).drewN 1)
      have c0' : W2.cell? ⟨b, 0, none⟩ = some (.string s) := by rw [hW2]; exact c0
      have c1' : W2.cell? ⟨b, 1, none⟩ = some (.int .i64 s.size) := by rw [hW2]; exact c1
      clear hW2
      go_upto_region 4 with fail
      go_still_tail 10, (by kernel_rfl)
      change wpList _ _ _ _ _ W2.drew
      go_wp2_with fail
      rw [HT.out]
      refine (HU.out _).mono ?_
      rintro e w3 ⟨rfl, hb3⟩
      rw [lst_mk]
      have HO3 := Lib.hid (hO2.out.below hb3)
      have hR3 := Lib.hid (hR2.out.below hb3 (lt_of_block hR2.out))
      clear hb3
      go_wp2_with fail
      go_ret
      exact ⟨rfl, ⟨s.size, hR3.out, by omega, HD.out⟩, HO3.out⟩
end Go.Proofs.YtjkgmdnkejjppaaGreatDoor
