/- Walks of the scanner's methods: until, skip, value, attr. -/
import Derived.Test.YtbgonaacheemcaaDoorTokA
import Derived.Test.YtbgonaacheemcaaDoorLibA
import Derived.Test.YtbgonaacheemcaaDoorUnescB
import Derived.StillTailTactics
import Derived.Deep.RegionHeld3
namespace Go.Proofs.YtbgonaacheemcaaDoor
open Go Go.RowKit

theorem brk_hit {c : Bytes} {b : UInt8} (l : Bytes) (h : c.contains b = true) : brk c (b :: l) = [] := by
  unfold brk; rw [List.takeWhile_cons, h]; rfl
theorem brk_miss {c : Bytes} {b : UInt8} (l : Bytes) (h : c.contains b = false) : brk c (b :: l) = b :: brk c l := by
  unfold brk; rw [List.takeWhile_cons, h]; rfl

theorem indexAny_brk (c : Bytes) : ∀ l : Bytes, Lib.indexAny l c = if (brk c l).length < l.length then ((brk c l).length : Int) else -1
  | [] => by simp [Lib.indexAny, brk]
  | b :: l => by
    have ih := indexAny_brk c l
    unfold Lib.indexAny
    cases hb : c.contains b with
    | true => rw [brk_hit l hb]; simp
    | false =>
      rw [brk_miss l hb, if_neg (by decide), ih]
      have hle := brk_le c l
      by_cases hlt : (brk c l).length < l.length
      · simp only [if_pos hlt, List.length_cons]
        rw [if_neg (by simp), if_pos (by omega)]
        simp
      · simp only [if_neg hlt, List.length_cons]
        rw [if_pos (by rfl), if_neg (by omega)]

/-- A set of bytes that 'until' may be handed. -/
structure OkSet (c : ByteArray) : Prop where
  pos : 1 ≤ c.size
  small : c.size ≤ 100
  ascii : AsciiL (lst c)

theorem lst_rest (text : ByteArray) (i : Nat) : lst (text.extract i text.size) = (lst text).drop i := by
  rw [lst_extract, List.take_of_length_le (by rw [List.length_drop, lst_length]; omega)]
theorem ext_take (text : ByteArray) (i k : Nat) : text.extract i (i + k) = mk (((lst text).drop i).take k) := by
  apply ext_lst; rw [lst_extract, lst_mk, show i + k - i = k by omega]

set_option maxHeartbeats 1000000 in
set_option maxRecDepth 100000 in
theorem until_any (b : Nat) (text c : ByteArray) (at_ : Nat) (tv : Value) (w : World) (hsc : Sc w b text at_ tv) (hat : at_ ≤ text.size) (h3 : text.size ≤ 1000000000) (hc : OkSet c) :
    Calls Tryd.prog 43 #[.pointer (some ⟨b, 0, none⟩), .string c] w fun e w' =>
      e = .returned (.string (mk (brk (lst c) ((lst text).drop at_)))) ∧ Sc w' b text (at_ + (brk (lst c) ((lst text).drop at_)).length) tv ∧ Only b w w' := by
  obtain ⟨c0, c1, c2, f1, f2, hlt⟩ := hsc.all
  have HS := Lib.hid hsc
  have HC := Lib.hid hc
  clear hsc c2 f1 f2 hc
  have hati : (0 : Int) ≤ (at_ : Int) := by omega
  have hati2 : (at_ : Int) ≤ (text.size : Int) := by omega
  have hez : (text.extract at_ text.size).size ≤ 1000000000 := by rw [← lst_length, lst_rest, List.length_drop, lst_length]; omega
  have hIx := indexAny_any (text.extract at_ text.size) c w.drew hez HC.out.pos HC.out.small HC.out.ascii
  rw [lst_rest, indexAny_brk] at hIx
  have hle := brk_le (lst c) ((lst text).drop at_)
  have hrl : ((lst text).drop at_).length = text.size - at_ := by rw [List.length_drop, lst_length]
  have hfull : ¬ (brk (lst c) ((lst text).drop at_)).length < ((lst text).drop at_).length → (brk (lst c) ((lst text).drop at_)).length = text.size - at_ := by intro h; omega
  have hext := ext_take text at_ (brk (lst c) ((lst text).drop at_)).length
  rw [brk_take] at hext
  have HX := Lib.hid hext
  clear hext
  generalize brk (lst c) ((lst text).drop at_) = B at *
  have hB : (B.length : Int) ≤ (text.size : Int) - at_ := by omega
  by_cases hk : B.length < ((lst text).drop at_).length
  · rw [if_pos hk] at hIx
    have HIx := Lib.hid hIx
    clear hIx hfull hk hrl hle
    go_enter Tryd.func43, Tryd.ntmps43
    go_wp2
    go_still_tail 10, (by kernel_rfl)
    change wpList _ _ _ _ _ w.drew
    go_wp2_with fail
    refine HIx.out.mono ?_
    rintro e w1 ⟨rfl, hb⟩
    have HO1 := Lib.hid (Only.below ((Kept.refl (fun k => k = b) _ w).drew) hb)
    have HS1 := Lib.hid (Sc.below (HS.out.drewN 1) hb hlt)
    clear hb
    go_wp2_with fail
    refine (pass_any b text at_ B.length tv w1 HS1.out (by omega) (by omega) h3).mono ?_
    rintro e w2 ⟨rfl, hs2, ho2⟩
    have HS2 := Lib.hid hs2
    have HO2 := Lib.hid (HO1.out.trans ho2)
    clear hs2 ho2
    go_wp2_with fail
    go_ret
    refine ⟨?_, HS2.out, HO2.out⟩
    rw [← HX.out]
    rfl
  · rw [if_neg hk] at hIx
    have hfl := hfull hk
    have HF := Lib.hid hfl
    have HIx := Lib.hid hIx
    clear hIx hfull hk hrl hle hfl
    go_enter Tryd.func43, Tryd.ntmps43
    go_wp2
    go_still_tail 10, (by kernel_rfl)
    change wpList _ _ _ _ _ w.drew
    go_wp2_with fail
    refine HIx.out.mono ?_
    rintro e w1 ⟨rfl, hb⟩
    have HO1 := Lib.hid (Only.below ((Kept.refl (fun k => k = b) _ w).drew) hb)
    have HS1 := Lib.hid (Sc.below (HS.out.drewN 1) hb hlt)
    clear hb c0 c1
    obtain ⟨c0, c1, _, _, _, hlt1⟩ := HS1.out.all
    go_wp2_with fail
    go_quiet (fail)
    generalize hwq : w1.drewN _ = wq
    have HS2 := Lib.hid (show Sc wq b text at_ tv by rw [← hwq]; exact HS1.out.drewN _)
    have HO2 := Lib.hid (show Only b w wq by rw [← hwq]; exact HO1.out.drewN _)
    clear hwq
    go_wp2_with fail
    refine (pass_any b text at_ ((text.size : Int) - at_) tv wq HS2.out (by omega) (by omega) h3).mono ?_
    rintro e w2 ⟨rfl, hs3, ho3⟩
    have e1 : ((text.size : Int) - at_).toNat = B.length := by have := HF.out; omega
    rw [e1] at hs3
    have HS3 := Lib.hid hs3
    have HO3 := Lib.hid (HO2.out.trans ho3)
    clear hs3 ho3
    go_wp2_with fail
    go_ret
    refine ⟨?_, HS3.out, HO3.out⟩
    rw [← HX.out, ← e1]
    rfl

end Go.Proofs.YtbgonaacheemcaaDoor
