/- ref.numbered, named, letter. -/
import Derived.Test.YtbgonaacheemcaaDoorParse
import Derived.Laws.IdiomStrings
import Derived.Lib.IfaceNeq
namespace Go.Proofs.YtbgonaacheemcaaDoor
open Go Go.RowKit

/-- What the package-level variables hold that the tokenizer's road reads. -/
structure Glob (w : World) : Prop where
  maxLen : ∃ m, w.cell? ⟨0, 0, none⟩ = some (.int .i64 m)
  errSyntax : ∃ te pe, w.cell? ⟨1, 0, none⟩ = some (.iface te pe)
  size : 10 ≤ w.heap.size
theorem Glob.kept {S : Nat → Prop} {B : Nat} {w w' : World} (h : Glob w) (hk : Kept S B w w') (hB : 10 ≤ B) (hS : ∀ k, k < 10 → ¬ S k) : Glob w' where
  maxLen := by obtain ⟨m, hm⟩ := h.maxLen; exact ⟨m, by rw [hk.cell (by show 0 < B; omega) (hS _ (by decide))]; exact hm⟩
  errSyntax := by obtain ⟨te, pe, hm⟩ := h.errSyntax; exact ⟨te, pe, by rw [hk.cell (by show 1 < B; omega) (hS _ (by decide))]; exact hm⟩
  size := Nat.le_trans h.size hk.size
theorem Glob.below {B : Nat} {w w' : World} (h : Glob w) (hk : Below B w w') (hB : 10 ≤ B) : Glob w' := h.kept (S := fun _ => False) (Kept.of_below hk) hB (fun _ _ => id)

/-- What the inner ParseInt gives for such a text. -/
def IntPost (o : Option Nat) (e : Ending) : Prop := match o with
  | some n => e = .returned (.tuple #[.int .i64 n, .nilIface])
  | none => e = .returned (.tuple #[.int .i64 0, .iface 96 (.int .i64 2)])
theorem IntPost.some {n : Nat} : IntPost (some n) (.returned (.tuple #[.int .i64 n, .nilIface])) := rfl
theorem IntPost.none : IntPost none (.returned (.tuple #[.int .i64 0, .iface 96 (.int .i64 2)])) := rfl
/-- What strconv.ParseInt gives. -/
def IntPost2 (o : Option Nat) (e : Ending) : Prop := match o with
  | some n => e = .returned (.tuple #[.int .i64 n, .nilIface])
  | none => ∃ t v, e = .returned (.tuple #[.int .i64 0, .iface t v])
theorem IntPost2.some {n : Nat} : IntPost2 (some n) (.returned (.tuple #[.int .i64 n, .nilIface])) := rfl
theorem IntPost2.none {t : TypeId} {v : Value} : IntPost2 none (.returned (.tuple #[.int .i64 0, .iface t v])) := ⟨t, v, rfl⟩

def noSign (l : Bytes) : Prop := ∀ c, l.head? = some c → c ≠ 43 ∧ c ≠ 45


set_option maxHeartbeats 1000000 in
set_option maxRecDepth 100000 in
theorem iparseInt_10 (t : ByteArray) (hne : 1 ≤ t.size) (hmax : t.size ≤ 7) (hs : noSign (lst t)) (w : World) :
    Calls Tryd.prog 63 #[.string t, .int .i64 10, .int .i64 64] w fun e w' => IntPost (digitsFrom 10 0 (lst t)) e ∧ Below w.heap.size w w' := by
  have hemp : t.toList.isEmpty = false := by
    rw [← decide_eq_emptyBytes]
    exact decide_eq_false (fun h => by rw [h] at hne; exact absurd hne (by decide))
  have hh : (lst t).head? = some (t[0]'(by omega)) := by rw [List.head?_eq_getElem?]; exact lst_get t 0 (by omega)
  obtain ⟨s1, s2⟩ := hs _ hh
  have e1 : (((t[0]'(by omega)).toNat : Int) == 43) = false := beq_eq_false_iff_ne.2 (fun e => s1 (UInt8.toNat_inj.1 (by show _ = 43; omega)))
  have e2 : (((t[0]'(by omega)).toNat : Int) == 45) = false := beq_eq_false_iff_ne.2 (fun e => s2 (UInt8.toNat_inj.1 (by show _ = 45; omega)))
  clear hh hs s1 s2
  have hd := fun n (h : digitsFrom 10 0 (lst t) = some n) => digitsFrom_bound 10 (lst t) 0 0 n (by simp) h
  have HD := Lib.hid hd
  clear hd
  go_enter Tryd.func63, Tryd.ntmps63
  go_wp2_with fail
  refine (parseUint_10 t hne hmax w).mono ?_
  rintro e w1 ⟨hp, hb⟩
  have HB := Lib.hid hb
  clear hb
  cases hd : digitsFrom 10 0 (lst t) with
  | some n =>
    rw [hd] at hp
    obtain rfl : e = _ := hp
    have hn : n < 268435456 := by
      have h1 := HD.out n hd
      rw [lst_length] at h1
      exact Nat.lt_of_lt_of_le h1 (Nat.le_trans (Nat.pow_le_pow_right (by decide) (by omega : 0 + t.size ≤ 7)) (by decide))
    have HD2 := Lib.hid hd
    clear hd
    obtain ⟨a, ha⟩ : ∃ a : Int, a = n := ⟨_, rfl⟩
    have a0 : 0 ≤ a := by omega
    have a1 : a < 268435456 := by omega
    rw [← ha]
    have HA := Lib.hid ha
    clear ha hn
    go_wp2
    go_ret2
    exact ⟨by rw [HD2.out, show a = (n : Int) from HA.out]; exact IntPost.some, HB.out⟩
  | none =>
    rw [hd] at hp
    obtain rfl : e = _ := hp
    have HD2 := Lib.hid hd
    clear hd
    have hq2 : ∀ W, (binOp .neq 54 (.iface 96 (.int .i64 2)) (.iface 96 (.int .i64 1))).run Tryd.prog W = .ok (.bool true) W := fun W => Lib.run_neq_iface_int W 2 1 Tryd.underlying54 (by kernel_rfl) Tryd.underlying96
    go_wp2
    go_ret2
    exact ⟨by rw [HD2.out]; exact IntPost.none, HB.out⟩

set_option maxHeartbeats 1000000 in
set_option maxRecDepth 100000 in
theorem parseInt_10 (t : ByteArray) (hne : 1 ≤ t.size) (hmax : t.size ≤ 7) (hs : noSign (lst t)) (w : World) (hg : Glob w) :
    Calls Tryd.prog 55 #[.string t, .int .i64 10, .int .i64 64] w fun e w' => IntPost2 (digitsFrom 10 0 (lst t)) e ∧ Below w.heap.size w w' := by
  go_enter Tryd.func55, Tryd.ntmps55
  go_wp2_with fail
  refine (iparseInt_10 t hne hmax hs w).mono ?_
  rintro e w1 ⟨hp, hb⟩
  have HB := Lib.hid hb
  clear hb
  cases hd : digitsFrom 10 0 (lst t) with
  | some n =>
    rw [hd] at hp
    obtain rfl : e = _ := hp
    have HD2 := Lib.hid hd
    clear hd
    go_wp2
    go_ret2
    exact ⟨by rw [HD2.out]; exact IntPost2.some, HB.out⟩
  | none =>
    rw [hd] at hp
    obtain rfl : e = _ := hp
    have HD2 := Lib.hid hd
    clear hd
    obtain ⟨te, pe, he⟩ := (hg.below HB.out hg.size).errSyntax
    go_wp2_with fail
    refine (Tryd.strconv_toError_syntax _ t 10 64 _ w1 (by omega) he (.inr ⟨te, pe, rfl⟩)).mono ?_
    rintro e w2 ⟨N, rfl, h1, h2, h3⟩
    go_wp2
    go_ret2
    exact ⟨by rw [HD2.out]; exact IntPost2.none, HB.out.trans (h3.mono HB.out.size)⟩

set_option maxHeartbeats 1000000 in
set_option maxRecDepth 100000 in
theorem iparseInt_16 (t : ByteArray) (hne : 1 ≤ t.size) (hmax : t.size ≤ 7) (hs : noSign (lst t)) (w : World) :
    Calls Tryd.prog 63 #[.string t, .int .i64 16, .int .i64 64] w fun e w' => IntPost (digitsFrom 16 0 (lst t)) e ∧ Below w.heap.size w w' := by
  have hemp : t.toList.isEmpty = false := by
    rw [← decide_eq_emptyBytes]
    exact decide_eq_false (fun h => by rw [h] at hne; exact absurd hne (by decide))
  have hh : (lst t).head? = some (t[0]'(by omega)) := by rw [List.head?_eq_getElem?]; exact lst_get t 0 (by omega)
  obtain ⟨s1, s2⟩ := hs _ hh
  have e1 : (((t[0]'(by omega)).toNat : Int) == 43) = false := beq_eq_false_iff_ne.2 (fun e => s1 (UInt8.toNat_inj.1 (by show _ = 43; omega)))
  have e2 : (((t[0]'(by omega)).toNat : Int) == 45) = false := beq_eq_false_iff_ne.2 (fun e => s2 (UInt8.toNat_inj.1 (by show _ = 45; omega)))
  clear hh hs s1 s2
  have hd := fun n (h : digitsFrom 16 0 (lst t) = some n) => digitsFrom_bound 16 (lst t) 0 0 n (by simp) h
  have HD := Lib.hid hd
  clear hd
  go_enter Tryd.func63, Tryd.ntmps63
  go_wp2_with fail
  refine (parseUint_16 t hne hmax w).mono ?_
  rintro e w1 ⟨hp, hb⟩
  have HB := Lib.hid hb
  clear hb
  cases hd : digitsFrom 16 0 (lst t) with
  | some n =>
    rw [hd] at hp
    obtain rfl : e = _ := hp
    have hn : n < 268435456 := by
      have h1 := HD.out n hd
      rw [lst_length] at h1
      exact Nat.lt_of_lt_of_le h1 (Nat.le_trans (Nat.pow_le_pow_right (by decide) (by omega : 0 + t.size ≤ 7)) (by decide))
    have HD2 := Lib.hid hd
    clear hd
    obtain ⟨a, ha⟩ : ∃ a : Int, a = n := ⟨_, rfl⟩
    have a0 : 0 ≤ a := by omega
    have a1 : a < 268435456 := by omega
    rw [← ha]
    have HA := Lib.hid ha
    clear ha hn
    go_wp2
    go_ret2
    exact ⟨by rw [HD2.out, show a = (n : Int) from HA.out]; exact IntPost.some, HB.out⟩
  | none =>
    rw [hd] at hp
    obtain rfl : e = _ := hp
    have HD2 := Lib.hid hd
    clear hd
    have hq2 : ∀ W, (binOp .neq 54 (.iface 96 (.int .i64 2)) (.iface 96 (.int .i64 1))).run Tryd.prog W = .ok (.bool true) W := fun W => Lib.run_neq_iface_int W 2 1 Tryd.underlying54 (by kernel_rfl) Tryd.underlying96
    go_wp2
    go_ret2
    exact ⟨by rw [HD2.out]; exact IntPost.none, HB.out⟩

set_option maxHeartbeats 1000000 in
set_option maxRecDepth 100000 in
theorem parseInt_16 (t : ByteArray) (hne : 1 ≤ t.size) (hmax : t.size ≤ 7) (hs : noSign (lst t)) (w : World) (hg : Glob w) :
    Calls Tryd.prog 55 #[.string t, .int .i64 16, .int .i64 64] w fun e w' => IntPost2 (digitsFrom 16 0 (lst t)) e ∧ Below w.heap.size w w' := by
  go_enter Tryd.func55, Tryd.ntmps55
  go_wp2_with fail
  refine (iparseInt_16 t hne hmax hs w).mono ?_
  rintro e w1 ⟨hp, hb⟩
  have HB := Lib.hid hb
  clear hb
  cases hd : digitsFrom 16 0 (lst t) with
  | some n =>
    rw [hd] at hp
    obtain rfl : e = _ := hp
    have HD2 := Lib.hid hd
    clear hd
    go_wp2
    go_ret2
    exact ⟨by rw [HD2.out]; exact IntPost2.some, HB.out⟩
  | none =>
    rw [hd] at hp
    obtain rfl : e = _ := hp
    have HD2 := Lib.hid hd
    clear hd
    obtain ⟨te, pe, he⟩ := (hg.below HB.out hg.size).errSyntax
    go_wp2_with fail
    refine (Tryd.strconv_toError_syntax _ t 16 64 _ w1 (by omega) he (.inr ⟨te, pe, rfl⟩)).mono ?_
    rintro e w2 ⟨N, rfl, h1, h2, h3⟩
    go_wp2
    go_ret2
    exact ⟨by rw [HD2.out]; exact IntPost2.none, HB.out.trans (h3.mono HB.out.size)⟩

end Go.Proofs.YtbgonaacheemcaaDoor
