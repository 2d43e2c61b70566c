/- Words on worlds that all walks share: which blocks a call may change. -/
import Derived.Test.YtbgonaacheemcaaDoorProg
import Derived.WalkKit
import Derived.WalkSpells
import Derived.WalkLawsBesides
import Derived.Deep.QuietTactic
import Derived.BigQuiet
import Derived.Lib.Hide
import Derived.Lib.ConvBytes
import Derived.Laws.BytesString
import Derived.Laws.Cells
import Derived.IntWalk
import Derived.Deep.DeepFit
namespace Go.Proofs.YtbgonaacheemcaaDoor
open Go Go.RowKit

/-- Below block number B every block outside S is as it was. -/
structure Kept (S : Nat → Prop) (B : Nat) (w w' : World) : Prop where
  os : w'.os = w.os
  tape : w'.tape = w.tape
  output : w'.output = w.output
  size : w.heap.size ≤ w'.heap.size
  block : ∀ k, k < B → ¬ S k → w'.heap[k]? = w.heap[k]?

namespace Kept
variable {S T : Nat → Prop} {B C : Nat} {a b c w w' : World}
theorem refl (S : Nat → Prop) (B : Nat) (w : World) : Kept S B w w := ⟨rfl, rfl, rfl, Nat.le_refl _, fun _ _ _ => rfl⟩
theorem trans (h : Kept S B a b) (k : Kept S B b c) : Kept S B a c :=
  ⟨k.os.trans h.os, k.tape.trans h.tape, k.output.trans h.output, Nat.le_trans h.size k.size, fun i hi hs => (k.block i hi hs).trans (h.block i hi hs)⟩
theorem mono (h : Kept S B w w') (hB : C ≤ B) (hS : ∀ k, k < C → S k → T k) : Kept T C w w' :=
  ⟨h.os, h.tape, h.output, h.size, fun k hk hs => h.block k (Nat.lt_of_lt_of_le hk hB) (fun e => hs (hS k hk e))⟩
theorem drewN (h : Kept S B a w) (n : Nat) : Kept S B a (w.drewN n) := ⟨h.os, h.tape, h.output, h.size, h.block⟩
theorem drew (h : Kept S B a w) : Kept S B a w.drew := ⟨h.os, h.tape, h.output, h.size, h.block⟩
theorem alloc (h : Kept S B a w) (hB : B ≤ w.heap.size) (o : Obj) : Kept S B a (w.alloc o) :=
  h.trans ⟨rfl, rfl, rfl, by simp, fun k hk _ => Below.heap_alloc _ _ _ (by omega)⟩
theorem setCell (h : Kept S B a w) {p : Addr} (hp : S p.block ∨ B ≤ p.block) (u : Value) : Kept S B a (w.setCell p u) :=
  h.trans ⟨rfl, rfl, rfl, by simp [World.setCell], fun k hk hs => Below.heap_setCell _ _ _ _ (by rintro rfl; rcases hp with hp | hp; exact hs hp; omega)⟩
theorem cell (h : Kept S B w w') {p : Addr} (hp : p.block < B) (hs : ¬ S p.block) : w'.cell? p = w.cell? p := World.cell?_of_block (w := w) (h.block p.block hp hs)
theorem frozen (h : Kept S B w w') {p : Addr} (hp : p.block < B) (hs : ¬ S p.block) : w'.frozen? p = w.frozen? p := World.frozen?_of_block (w := w) (h.block p.block hp hs)
theorem of_below (h : Below B w w') : Kept S B w w' := ⟨h.os, h.tape, h.output, h.size, fun k hk _ => h.block k hk⟩
theorem below (h : Kept S B w w') (hS : ∀ k, k < C → ¬ S k) (hC : C ≤ B) : Below C w w' := ⟨h.os, h.tape, h.output, h.size, fun k hk => h.block k (by omega) (hS k hk)⟩
end Kept


/-- The bytes of a list as a string. -/
def mk (l : List UInt8) : ByteArray := ⟨l.toArray⟩
/-- The list of a string's bytes. -/
def lst (s : ByteArray) : List UInt8 := s.data.toList
theorem mk_lst (s : ByteArray) : mk (lst s) = s := by simp [mk, lst]
theorem lst_mk (l : List UInt8) : lst (mk l) = l := by simp [mk, lst]
theorem lst_length (s : ByteArray) : (lst s).length = s.size := Array.length_toList
theorem mk_size (l : List UInt8) : (mk l).size = l.length := by simp [mk, ByteArray.size]
theorem lst_extract (s : ByteArray) (a b : Nat) : lst (s.extract a b) = ((lst s).drop a).take (b - a) := by
  unfold lst; rw [ByteArray.data_extract, Array.toList_extract]
theorem ext_lst {s t : ByteArray} (h : lst s = lst t) : s = t := by rw [← mk_lst s, ← mk_lst t, h]
theorem mk_inj {a b : List UInt8} (h : mk a = mk b) : a = b := by rw [← lst_mk a, ← lst_mk b, h]

theorem foldl_push (l : List UInt8) : ∀ s : ByteArray, (l.map (fun b : UInt8 => (b.toNat : Int))).foldl (fun r n => r.push (UInt8.ofNat n.toNat)) s = ⟨s.data ++ l.toArray⟩ := by
  induction l with
  | nil => intro s; simp
  | cons c l ih =>
    intro s
    simp only [List.map_cons, List.foldl_cons, ih]
    simp [ByteArray.push]

/-- 'string(b)' of a row of bytes. -/
theorem conv_bytes {P : Program} (w : World) (src dst e : TypeId) (a : Addr) (n c : Nat) (l : List UInt8)
    (hs : P.underlying src = some (.slice e)) (he : P.underlying e = some (.int .u8)) (hd : P.underlying dst = some .string) (hl : l.length = n)
    (h : ∀ j, j < n → w.cell? (a.add j) = some (.int .u8 (l.getD j 0).toNat)) :
    (convert src dst (.slice (some a) n c)).run P w = .ok (.string (mk l)) w := by
  rw [run_convert_bytes_string w src dst e (some a) n c hs he hd]
  have hc := run_loadCells (P := P) (w := w) a n (fun j => Value.int .u8 (l.getD j 0).toNat) h
  rw [run_bytesToString w a n c (l.map fun b => (b.toNat : Int))]
  · rw [foldl_push]
    simp [mk, ByteArray.empty, ByteArray.emptyWithCapacity]; rfl
  · rw [hc]
    congr 1
    apply Array.ext'
    simp
    apply List.ext_getElem
    · simp [hl]
    · intro i h1 h2
      simp at h1 h2 ⊢
      simp [h2]


/- A call inside a region that only reads: the contract's world in the region's words. -/
section
variable {P : Program} {f : FuncId} {args : Array Value} {w : World} {a n : Nat} {v : Value}
theorem qs (h : Calls P f args (w.drewN n) fun e w' => e = .returned v ∧ w' = w.drewN n) :
    Calls P f args (w.drewN n) fun e w'' => e = .returned v ∧ ∃ m, w'' = w.drewN m := h.mono fun _ _ ⟨he, hm⟩ => ⟨he, n, hm⟩
theorem qs' (h : Calls P f args (w.drewN n) fun e w' => e = .returned v ∧ w.drewN n = w') :
    Calls P f args (w.drewN n) fun e w'' => e = .returned v ∧ ∃ m, w'' = w.drewN m := h.mono fun _ _ ⟨he, hm⟩ => ⟨he, n, hm.symm⟩
theorem qd (h : Calls P f args (w.drewN n) fun e w' => e = .returned v ∧ ∃ k, w' = (w.drewN n).drewN k) :
    Calls P f args (w.drewN n) fun e w'' => e = .returned v ∧ ∃ m, w'' = w.drewN m :=
  h.mono fun _ _ ⟨he, k, hm⟩ => ⟨he, n + k, by rw [hm, World.drewN_drewN]⟩
theorem q2s (h : Calls P f args (w.drewN (a + n)) fun e w' => e = .returned v ∧ w' = w.drewN (a + n)) :
    Calls P f args (w.drewN (a + n)) fun e w'' => e = .returned v ∧ ∃ m, w'' = w.drewN (a + m) := h.mono fun _ _ ⟨he, hm⟩ => ⟨he, n, hm⟩
theorem q2s' (h : Calls P f args (w.drewN (a + n)) fun e w' => e = .returned v ∧ w.drewN (a + n) = w') :
    Calls P f args (w.drewN (a + n)) fun e w'' => e = .returned v ∧ ∃ m, w'' = w.drewN (a + m) := h.mono fun _ _ ⟨he, hm⟩ => ⟨he, n, hm.symm⟩
theorem q2d (h : Calls P f args (w.drewN (a + n)) fun e w' => e = .returned v ∧ ∃ k, w' = (w.drewN (a + n)).drewN k) :
    Calls P f args (w.drewN (a + n)) fun e w'' => e = .returned v ∧ ∃ m, w'' = w.drewN (a + m) :=
  h.mono fun _ _ ⟨he, k, hm⟩ => ⟨he, n + k, by rw [hm, World.drewN_drewN, Nat.add_assoc]⟩
end

end Go.Proofs.YtbgonaacheemcaaDoor
