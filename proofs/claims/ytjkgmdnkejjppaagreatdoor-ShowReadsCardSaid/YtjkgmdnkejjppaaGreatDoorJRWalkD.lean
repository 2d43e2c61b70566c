/- Walk of the reference's RefUnescape: it is what ref.Unescape gives. -/
import Derived.Test.YtjkgmdnkejjppaaGreatDoorJRWalkB
import Derived.Test.YtjkgmdnkejjppaaGreatDoorJRWalkC
import Derived.Test.YtjkgmdnkejjppaaGreatDoorGa
namespace Go.Proofs.YtjkgmdnkejjppaaGreatDoor
open Go Go.RowKit

theorem numberedM_ok (d : Bytes) (b m : Nat) (x : Int) (h : numberedM d b m = some x) : ∃ n : Nat, x = n ∧ 0 < n ∧ isLetR n = true ∧ n ≤ 1114111 := by
  unfold numberedM at h
  split at h
  · cases h
  · split at h
    · cases h
    · rename_i n _
      split at h
      · cases h; exact ⟨65533, rfl, by decide, by decide, by decide⟩
      · rename_i hn
        cases h
        rw [valid_eq] at hn
        have h1 : n ≠ 0 := fun e => hn (.inl e)
        have h2 : isLetR n = true := by
          cases hx : isLetR n with
          | true => rfl
          | false => exact absurd (.inr hx) hn
        refine ⟨n, rfl, by omega, h2, ?_⟩
        unfold isLetR at h2
        simp only [decide_eq_true_eq] at h2
        exact h2.1
theorem letterM_ok (s : Bytes) (x : Int) (h : letterM s = some x) : ∃ n : Nat, x = n ∧ 0 < n ∧ isLetR n = true ∧ n ≤ 1114111 := by
  unfold letterM at h
  split at h
  · split at h
    · exact numberedM_ok _ _ _ _ h
    · split at h
      · exact numberedM_ok _ _ _ _ h
      · exact numberedM_ok _ _ _ _ h
  · unfold namedM at h
    repeat' split at h
    all_goals first | (cases h; done) | (cases h; first | exact ⟨38, rfl, by decide, by decide, by decide⟩ | exact ⟨60, rfl, by decide, by decide, by decide⟩ | exact ⟨62, rfl, by decide, by decide, by decide⟩ | exact ⟨34, rfl, by decide, by decide, by decide⟩ | exact ⟨160, rfl, by decide, by decide, by decide⟩ | exact ⟨169, rfl, by decide, by decide, by decide⟩)
/-- What refAt says of a place, and what unesc does there. -/
theorem refAt_ways (c : UInt8) (r : Bytes) : (refAtM (c :: r) = (0, 0) ∧ unesc (c :: r) = c :: unesc r) ∨
    ∃ n k : Nat, refAtM (c :: r) = (n, k) ∧ 0 < k ∧ k ≤ r.length + 1 ∧ isLetR n = true ∧ n ≤ 1114111 ∧ unesc (c :: r) = Lib.encodeRune n ++ unesc ((c :: r).drop k) := by
  rw [refAt_law, unesc_cons]
  unfold letAt
  dsimp only
  by_cases h : c = 38 ∧ (brk [59] r).length < r.length
  · rw [if_pos h, if_pos h]
    cases hl : letterM (brk [59] r) with
    | none => exact .inl ⟨rfl, rfl⟩
    | some x =>
      obtain ⟨n, rfl, h1, h2, h3⟩ := letterM_ok _ _ hl
      exact .inr ⟨n, (brk [59] r).length + 2, by simp [pairOf], by omega, by omega, h2, h3, rfl⟩
  · rw [if_neg h, if_neg h]
    exact .inl ⟨rfl, rfl⟩

set_option maxHeartbeats 4000000 in
set_option maxRecDepth 100000 in
theorem refUnescape_any (s : ByteArray) (w : World) (hs : s.size ≤ 1000000) :
    Calls Tryz.prog 64 #[.string s] w fun e w' => e = .returned (.string (mk (unesc (lst s)))) ∧ Below w.heap.size w w' := by
  go_enter Tryz.func64, Tryz.ntmps64
  go_wp2
  go_loopw [0, 3] (fun v o wr => ∃ (r : ByteArray) (out : Bytes), v = .string r ∧ o = .string (mk out) ∧ r.size ≤ 1000000 ∧ out.length + 4 * r.size ≤ 4000000 ∧ Hid (out ++ unesc (lst r) = unesc (lst s)) ∧ Hid (Below w.heap.size w wr)) (fun v _ _ => match v with | .string r => r.size | _ => 0)
  case atStart => exact ⟨s, [], rfl, rfl, hs, by simp; omega, Lib.hid rfl, Lib.hid (Below.refl _ w)⟩
  case round =>
    obtain ⟨r, out, rfl, rfl, hr, ho, hU, hB⟩ := hrel
    by_cases hz : r.size = 0
    · have hn : lst r = [] := List.eq_nil_of_length_eq_zero (by rw [lst_length]; exact hz)
      have HU := Lib.hid (show out = unesc (lst s) by have := hU.out; rw [hn] at this; simpa [unesc, unescN] using this)
      have hzI : ¬ (0 : Int) < r.size := by omega
      clear hn
      go_wp2
      go_ret
      exact ⟨by rw [← HU.out]; rfl, hB.out⟩
    · have hzI : (0 : Int) < r.size := by omega
      have hz0 : 0 < r.size := by omega
      have hcons : lst r = r[0]'hz0 :: (lst r).drop 1 := by
        have := List.drop_eq_getElem_cons (l := lst r) (i := 0) (by rw [lst_length]; exact hz0)
        rw [List.drop_zero] at this
        exact this
      have HRA := Lib.hid (refAt_any r wr hr)
      have hways := refAt_ways (r[0]'hz0) ((lst r).drop 1)
      rw [← hcons] at hways
      rcases hways with ⟨h0, hu⟩ | ⟨n, k, hnk, hk0, hkl, hl, hn, hu⟩
      · have HRA2 := Lib.hid (show Calls Tryz.prog 89 #[.string r] wr fun x w' => x = .returned (.tuple #[.int .i64 0, .int .i64 0]) ∧ Below wr.heap.size wr w' from by have h := HRA.out; rw [h0] at h; exact h)
        have hx1 : r.extract 0 1 = mk [r[0]'hz0] := by
          rw [show (1 : Nat) = 0 + 1 from rfl, ext_take, List.drop_zero, hcons]; rfl
        have hx2 : lst (r.extract 1 r.size) = (lst r).drop 1 := lst_rest r 1
        have HX := Lib.hid (show mk out ++ r.extract 0 1 = mk (out ++ [r[0]'hz0]) by rw [hx1, mk_append])
        have hcat : ¬ 9223372036854775807 < (mk out).size + (r.extract 0 1).size := by rw [hx1, mk_size, mk_size]; simp only [List.length_cons, List.length_nil]; omega
        have HU := Lib.hid (show (out ++ [r[0]'hz0]) ++ unesc (lst (r.extract 1 r.size)) = unesc (lst s) by rw [hx2, ← hU.out, hu, List.append_assoc]; rfl)
        have HZ := Lib.hid (show (r.extract 1 r.size).size = r.size - 1 by rw [← lst_length, hx2, List.length_drop, lst_length])
        have h1I : (1 : Int) ≤ r.size := by omega
        clear hcons h0 hu hx1 hx2 HRA
        go_wp2_with fail
        refine HRA2.out.mono ?_
        rintro e w1 ⟨rfl, hb1⟩
        have HB1 := Lib.hid (hB.out.trans (hb1.mono hB.out.size))
        clear hb1
        go_wp2
        go_roundw
        case rel =>
          have := HZ.out
          exact ⟨r.extract 1 r.size, out ++ [r[0]'hz0], rfl, by rw [HX.out], by omega, by simp only [List.length_append, List.length_cons, List.length_nil]; omega, HU, HB1⟩
        case measure =>
          have := HZ.out
          show (r.extract 1 r.size).size < r.size
          omega
      · have HRA2 := Lib.hid (show Calls Tryz.prog 89 #[.string r] wr fun x w' => x = .returned (.tuple #[.int .i64 n, .int .i64 k]) ∧ Below wr.heap.size wr w' from by have h := HRA.out; rw [hnk] at h; exact h)
        have hkr : k ≤ r.size := by rw [List.length_drop, lst_length] at hkl; omega
        have hx2 : lst (r.extract k r.size) = (lst r).drop k := lst_rest r k
        have hE4 := encodeRune_le (n : Int)
        have HUB := Lib.hid (fun W => utfBytes_any n W hl hn)
        have HU := Lib.hid (show (out ++ Lib.encodeRune n) ++ unesc (lst (r.extract k r.size)) = unesc (lst s) by rw [hx2, ← hU.out, hu, List.append_assoc])
        have HZ := Lib.hid (show (r.extract k r.size).size = r.size - k by rw [← lst_length, hx2, List.length_drop, lst_length])
        have hk0b : ((k : Int) == 0) = false := by simp; omega
        have hk1 : (k : Int) ≤ r.size := by omega
        have hcat : ¬ 9223372036854775807 < (mk out).size + (mk (Lib.encodeRune n)).size := by rw [mk_size, mk_size]; omega
        clear hcons hnk hu hx2 HRA hl hkl
        generalize Lib.encodeRune (n : Int) = E at *
        go_wp2_with fail
        refine HRA2.out.mono ?_
        rintro e w1 ⟨rfl, hb1⟩
        have HB1 := Lib.hid (hB.out.trans (hb1.mono hB.out.size))
        clear hb1
        go_wp2_with fail
        refine (HUB.out w1).mono ?_
        rintro e w2 ⟨g, rfl, hcl, hb2⟩
        have HB2 := Lib.hid (HB1.out.trans (hb2.mono HB1.out.size))
        have hcv := conv_bytes (P := Tryz.prog) w2 105 9 5 ⟨g, 0, none⟩ E.length E.length E Tryz.underlying105 Tryz.underlying5 Tryz.underlying9 rfl (fun j hj => by
          have hadd : (⟨g, 0, none⟩ : Addr).add j = ⟨g, j, none⟩ := by unfold Addr.add; split <;> simp_all
          rw [hadd]; exact hcl j hj)
        clear hb2 hcl
        go_wp2
        go_roundw
        case rel =>
          have := HZ.out
          exact ⟨r.extract k r.size, out ++ E, rfl, by rw [mk_append], by omega, by simp only [List.length_append]; omega, HU, HB2⟩
        case measure =>
          have := HZ.out
          show (r.extract k r.size).size < r.size
          omega

end Go.Proofs.YtjkgmdnkejjppaaGreatDoor
