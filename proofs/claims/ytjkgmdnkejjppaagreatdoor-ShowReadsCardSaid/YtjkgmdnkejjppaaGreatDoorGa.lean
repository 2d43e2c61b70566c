/- Joined texts: Base Model Pieces LawB LawC LawA LawD LawX ELaw. -/
import Derived.Test.YtjkgmdnkejjppaaGreatDoorProg
import Derived.WalkKit
import Derived.WalkSpells
import Derived.WalkLawsBesides
import Derived.Deep.QuietTactic
import Derived.BigQuiet
import Derived.Lib.Hide
import Derived.Lib.ConvBytes
import Derived.Laws.BytesString
import Derived.Laws.Cells
import Derived.IntWalk
import Derived.Deep.DeepFit
import Derived.Lib.RuneBytes
import Derived.Lib.Small
import Derived.Laws.Rows
import Derived.Lib.DecodeN
import Derived.Shelf.GgClosure.StringsIndexFunc
/- Words on worlds that all walks share: which blocks a call may change. -/
namespace Go.Proofs.YtjkgmdnkejjppaaGreatDoor
open Go Go.RowKit

/-- Below block number B every block outside S is as it was. -/
structure Kept (S : Nat → Prop) (B : Nat) (w w' : World) : Prop where
  os : w'.os = w.os
  tape : w'.tape = w.tape
  output : w'.output = w.output
  size : w.heap.size ≤ w'.heap.size
  block : ∀ k, k < B → ¬ S k → w'.heap[k]? = w.heap[k]?

namespace Kept
variable {S T : Nat → Prop} {B C : Nat} {a b c w w' : World}
theorem refl (S : Nat → Prop) (B : Nat) (w : World) : Kept S B w w := ⟨rfl, rfl, rfl, Nat.le_refl _, fun _ _ _ => rfl⟩
theorem trans (h : Kept S B a b) (k : Kept S B b c) : Kept S B a c :=
  ⟨k.os.trans h.os, k.tape.trans h.tape, k.output.trans h.output, Nat.le_trans h.size k.size, fun i hi hs => (k.block i hi hs).trans (h.block i hi hs)⟩
theorem mono (h : Kept S B w w') (hB : C ≤ B) (hS : ∀ k, k < C → S k → T k) : Kept T C w w' :=
  ⟨h.os, h.tape, h.output, h.size, fun k hk hs => h.block k (Nat.lt_of_lt_of_le hk hB) (fun e => hs (hS k hk e))⟩
theorem drewN (h : Kept S B a w) (n : Nat) : Kept S B a (w.drewN n) := ⟨h.os, h.tape, h.output, h.size, h.block⟩
theorem drew (h : Kept S B a w) : Kept S B a w.drew := ⟨h.os, h.tape, h.output, h.size, h.block⟩
theorem alloc (h : Kept S B a w) (hB : B ≤ w.heap.size) (o : Obj) : Kept S B a (w.alloc o) :=
  h.trans ⟨rfl, rfl, rfl, by simp, fun k hk _ => Below.heap_alloc _ _ _ (by omega)⟩
theorem setCell (h : Kept S B a w) {p : Addr} (hp : S p.block ∨ B ≤ p.block) (u : Value) : Kept S B a (w.setCell p u) :=
  h.trans ⟨rfl, rfl, rfl, by simp [World.setCell], fun k hk hs => Below.heap_setCell _ _ _ _ (by rintro rfl; rcases hp with hp | hp; exact hs hp; omega)⟩
theorem cell (h : Kept S B w w') {p : Addr} (hp : p.block < B) (hs : ¬ S p.block) : w'.cell? p = w.cell? p := World.cell?_of_block (w := w) (h.block p.block hp hs)
theorem frozen (h : Kept S B w w') {p : Addr} (hp : p.block < B) (hs : ¬ S p.block) : w'.frozen? p = w.frozen? p := World.frozen?_of_block (w := w) (h.block p.block hp hs)
theorem of_below (h : Below B w w') : Kept S B w w' := ⟨h.os, h.tape, h.output, h.size, fun k hk _ => h.block k hk⟩
theorem below (h : Kept S B w w') (hS : ∀ k, k < C → ¬ S k) (hC : C ≤ B) : Below C w w' := ⟨h.os, h.tape, h.output, h.size, fun k hk => h.block k (by omega) (hS k hk)⟩
end Kept


/-- The bytes of a list as a string. -/
def mk (l : List UInt8) : ByteArray := ⟨l.toArray⟩
/-- The list of a string's bytes. -/
def lst (s : ByteArray) : List UInt8 := s.data.toList
theorem mk_lst (s : ByteArray) : mk (lst s) = s := by simp [mk, lst]
theorem lst_mk (l : List UInt8) : lst (mk l) = l := by simp [mk, lst]
theorem lst_length (s : ByteArray) : (lst s).length = s.size := Array.length_toList
theorem mk_size (l : List UInt8) : (mk l).size = l.length := by simp [mk, ByteArray.size]
theorem lst_extract (s : ByteArray) (a b : Nat) : lst (s.extract a b) = ((lst s).drop a).take (b - a) := by
  unfold lst; rw [ByteArray.data_extract, Array.toList_extract]
theorem ext_lst {s t : ByteArray} (h : lst s = lst t) : s = t := by rw [← mk_lst s, ← mk_lst t, h]
theorem mk_inj {a b : List UInt8} (h : mk a = mk b) : a = b := by rw [← lst_mk a, ← lst_mk b, h]

theorem foldl_push (l : List UInt8) : ∀ s : ByteArray, (l.map (fun b : UInt8 => (b.toNat : Int))).foldl (fun r n => r.push (UInt8.ofNat n.toNat)) s = ⟨s.data ++ l.toArray⟩ := by
  induction l with
  | nil => intro s; simp
  | cons c l ih =>
    intro s
    simp only [List.map_cons, List.foldl_cons, ih]
    simp [ByteArray.push]

/-- 'string(b)' of a row of bytes. -/
theorem conv_bytes {P : Program} (w : World) (src dst e : TypeId) (a : Addr) (n c : Nat) (l : List UInt8)
    (hs : P.underlying src = some (.slice e)) (he : P.underlying e = some (.int .u8)) (hd : P.underlying dst = some .string) (hl : l.length = n)
    (h : ∀ j, j < n → w.cell? (a.add j) = some (.int .u8 (l.getD j 0).toNat)) :
    (convert src dst (.slice (some a) n c)).run P w = .ok (.string (mk l)) w := by
  rw [run_convert_bytes_string w src dst e (some a) n c hs he hd]
  have hc := run_loadCells (P := P) (w := w) a n (fun j => Value.int .u8 (l.getD j 0).toNat) h
  rw [run_bytesToString w a n c (l.map fun b => (b.toNat : Int))]
  · rw [foldl_push]
    simp [mk, ByteArray.empty, ByteArray.emptyWithCapacity]; rfl
  · rw [hc]
    congr 1
    apply Array.ext'
    simp
    apply List.ext_getElem
    · simp [hl]
    · intro i h1 h2
      simp at h1 h2 ⊢
      simp [h2]


/- A call inside a region that only reads: the contract's world in the region's words. -/
section
variable {P : Program} {f : FuncId} {args : Array Value} {w : World} {a n : Nat} {v : Value}
theorem qs (h : Calls P f args (w.drewN n) fun e w' => e = .returned v ∧ w' = w.drewN n) :
    Calls P f args (w.drewN n) fun e w'' => e = .returned v ∧ ∃ m, w'' = w.drewN m := h.mono fun _ _ ⟨he, hm⟩ => ⟨he, n, hm⟩
theorem qs' (h : Calls P f args (w.drewN n) fun e w' => e = .returned v ∧ w.drewN n = w') :
    Calls P f args (w.drewN n) fun e w'' => e = .returned v ∧ ∃ m, w'' = w.drewN m := h.mono fun _ _ ⟨he, hm⟩ => ⟨he, n, hm.symm⟩
theorem qd (h : Calls P f args (w.drewN n) fun e w' => e = .returned v ∧ ∃ k, w' = (w.drewN n).drewN k) :
    Calls P f args (w.drewN n) fun e w'' => e = .returned v ∧ ∃ m, w'' = w.drewN m :=
  h.mono fun _ _ ⟨he, k, hm⟩ => ⟨he, n + k, by rw [hm, World.drewN_drewN]⟩
theorem q2s (h : Calls P f args (w.drewN (a + n)) fun e w' => e = .returned v ∧ w' = w.drewN (a + n)) :
    Calls P f args (w.drewN (a + n)) fun e w'' => e = .returned v ∧ ∃ m, w'' = w.drewN (a + m) := h.mono fun _ _ ⟨he, hm⟩ => ⟨he, n, hm⟩
theorem q2s' (h : Calls P f args (w.drewN (a + n)) fun e w' => e = .returned v ∧ w.drewN (a + n) = w') :
    Calls P f args (w.drewN (a + n)) fun e w'' => e = .returned v ∧ ∃ m, w'' = w.drewN (a + m) := h.mono fun _ _ ⟨he, hm⟩ => ⟨he, n, hm.symm⟩
theorem q2d (h : Calls P f args (w.drewN (a + n)) fun e w' => e = .returned v ∧ ∃ k, w' = (w.drewN (a + n)).drewN k) :
    Calls P f args (w.drewN (a + n)) fun e w'' => e = .returned v ∧ ∃ m, w'' = w.drewN (a + m) :=
  h.mono fun _ _ ⟨he, k, hm⟩ => ⟨he, n + k, by rw [hm, World.drewN_drewN, Nat.add_assoc]⟩
end

end Go.Proofs.YtjkgmdnkejjppaaGreatDoor
/- Plain functions: what the tokenizer and the letters' names compute. Nothing of the program here. -/
namespace Go.Proofs.YtjkgmdnkejjppaaGreatDoor

abbrev Bytes := List UInt8

/-- The small letter of a letter. -/
def low (c : UInt8) : UInt8 := if 65 ≤ c ∧ c ≤ 90 then c + 32 else c
def small (l : Bytes) : Bytes := l.map low

/-- The value of a digit of a base (of at most 36). -/
def digitOf (base : Nat) (c : UInt8) : Option Nat :=
  if 48 ≤ c ∧ c ≤ 57 then (if c.toNat - 48 < base then some (c.toNat - 48) else none)
  else if 97 ≤ c ∧ c ≤ 122 then (if c.toNat - 87 < base then some (c.toNat - 87) else none)
  else if 65 ≤ c ∧ c ≤ 90 then (if c.toNat - 55 < base then some (c.toNat - 55) else none)
  else none
/-- The number that digits make, behind what was read. -/
def digitsFrom (base : Nat) : Nat → Bytes → Option Nat
  | n, [] => some n
  | n, c :: l => match digitOf base c with
    | some d => digitsFrom base (n * base + d) l
    | none => none

/-- A numbered letter. -/
def numberedM (digits : Bytes) (base most : Nat) : Option Int :=
  if digits = [] ∨ most < digits.length then none
  else match digitsFrom base 0 digits with
    | none => none
    | some n => if n = 0 ∨ 1114111 < n ∨ Lib.validRune n = false then some 65533 else some n

def namedM (s : Bytes) : Option Int :=
  if s = [97, 109, 112] then some 38
  else if s = [108, 116] then some 60
  else if s = [103, 116] then some 62
  else if s = [113, 117, 111, 116] then some 34
  else if s = [110, 98, 115, 112] then some 160
  else if s = [99, 111, 112, 121] then some 169
  else none

/-- The letter of what stands between & and ;. -/
def letterM : Bytes → Option Int
  | 35 :: d => match d with
    | [] => numberedM [] 10 7
    | x :: d' => if x = 120 ∨ x = 88 then numberedM d' 16 6 else numberedM (x :: d') 10 7
  | s => namedM s

/-- What stands ahead of the first byte of a set; what is from there on. -/
def brk (c : Bytes) (l : Bytes) : Bytes := l.takeWhile (fun b => !c.contains b)
def brkR (c : Bytes) (l : Bytes) : Bytes := l.dropWhile (fun b => !c.contains b)
/-- Is the next byte one of a set? -/
def hd (c : Bytes) : Bytes → Bool
  | [] => false
  | b :: _ => c.contains b
def skp (c : Bytes) (l : Bytes) : Bytes := l.dropWhile (fun b => c.contains b)
def skd (c : Bytes) (l : Bytes) : Bytes := l.takeWhile (fun b => c.contains b)

def unescN : Nat → Bytes → Bytes
  | 0, _ => []
  | _ + 1, [] => []
  | n + 1, c :: r =>
    if c = 38 ∧ (brk [59] r).length < r.length then
      match letterM (brk [59] r) with
      | some x => Lib.encodeRune x ++ unescN n (r.drop ((brk [59] r).length + 1))
      | none => c :: unescN n r
    else c :: unescN n r
def unesc (l : Bytes) : Bytes := unescN l.length l

structure TAttr where
  name : Bytes
  value : Bytes
  deriving DecidableEq

structure TTok where
  kind : Int
  name : Bytes
  attrs : List TAttr
  self : Bool
  text : Bytes
  deriving DecidableEq

def spaces : Bytes := [32, 9, 10, 12]

def valueT : Bytes → Bytes × Bool × Bytes
  | [] => (unesc [], true, [])
  | q :: r2 =>
    if q = 34 ∨ q = 39 then
      match brkR [q] r2 with
      | [] => ([], false, [])
      | _ :: r3 => (unesc (brk [q] r2), true, r3)
    else (unesc (brk (spaces ++ [62]) (q :: r2)), true, brkR (spaces ++ [62]) (q :: r2))
def valueM (r : Bytes) : Bytes × Bool × Bytes := valueT (skp spaces r)

def attrEnd : Bytes := spaces ++ [47, 62, 61]
def attrM : Bytes → TAttr × Bool × Bytes
  | [] => (⟨[], []⟩, false, [])
  | c :: r1 =>
    match skp spaces (brkR attrEnd r1) with
    | [] => (⟨small (c :: brk attrEnd r1), []⟩, true, brkR attrEnd r1)
    | e :: r4 =>
      if e = 61 then (⟨small (c :: brk attrEnd r1), (valueM r4).1⟩, (valueM r4).2.1, (valueM r4).2.2)
      else (⟨small (c :: brk attrEnd r1), []⟩, true, brkR attrEnd r1)

def tagGap : Bytes := spaces ++ [47]
def addAttr (l : List TAttr) (a : TAttr) : List TAttr := if l.any (fun b => b.name == a.name) then l else l ++ [a]

def tagLoop : Nat → Bytes → List TAttr → Option (List TAttr × Bool × Bytes)
  | 0, _, _ => none
  | n + 1, r, l =>
    match skp tagGap r with
    | [] => none
    | c :: r2 =>
      if c = 62 then some (l, (skd tagGap r).getLast? == some 47, r2)
      else if (attrM (c :: r2)).2.1 then tagLoop n (attrM (c :: r2)).2.2 (addAttr l (attrM (c :: r2)).1)
      else none

def nameEnd : Bytes := spaces ++ [47, 62]
def tagOf (kind : Int) (name : Bytes) : Option (List TAttr × Bool × Bytes) → Option (TTok × Bytes)
  | none => none
  | some (l, self, r2) => some (if kind = 2 then ⟨kind, name, [], false, []⟩ else ⟨kind, name, l, self, []⟩, r2)
/-- A tag behind its < or </. -/
def tagM (kind : Int) (r : Bytes) : Option (TTok × Bytes) := tagOf kind (small (brk nameEnd r)) (tagLoop (r.length + 1) (brkR nameEnd r) [])

/-- Up to a text, or the end. -/
def upToM (e : Bytes) : Bytes → Bytes × Bytes
  | [] => ([], [])
  | c :: r => if e.isPrefixOf (c :: r) then ([], (c :: r).drop e.length) else (c :: (upToM e r).1, (upToM e r).2)

/-- Does the end of a raw element stand here? -/
def rawStop (name : Bytes) : Bytes → Bool
  | 60 :: 47 :: r => small (r.take name.length) == name && hd nameEnd (r.drop name.length)
  | _ => false
def rawM (name : Bytes) : Bytes → Bytes × Bytes
  | [] => ([], [])
  | c :: r => if rawStop name (c :: r) then ([], c :: r) else (c :: (rawM name r).1, (rawM name r).2)

def isLet (c : UInt8) : Bool := (97 ≤ c && c ≤ 122) || (65 ≤ c && c ≤ 90)
def opensM : Bytes → Bool
  | 60 :: c :: r => isLet c || c == 33 || c == 63 || (c == 47 && !r.isEmpty)
  | _ => false

def chars (t : Bytes) : TTok := ⟨3, [], [], false, t⟩
def comment (t : Bytes) : TTok := ⟨4, [], [], false, t⟩

def sScript : Bytes := [115, 99, 114, 105, 112, 116]
def sStyle : Bytes := [115, 116, 121, 108, 101]
def sTextarea : Bytes := [116, 101, 120, 116, 97, 114, 101, 97]
def sTitle : Bytes := [116, 105, 116, 108, 101]
def isRaw (n : Bytes) : Bool := n == sScript || n == sStyle || n == sTextarea || n == sTitle
def rawText (n t : Bytes) : Bytes := if n == sTextarea || n == sTitle then unesc t else t
def rawToks (n t : Bytes) : List TTok := if rawText n t = [] then [] else [chars (rawText n t)]

/-- Markup at a place where it begins: its tokens, and the rest; none: it does not end. -/
def markupM : Bytes → Option (List TTok × Bytes)
  | 60 :: 33 :: 45 :: 45 :: r => some ([comment (upToM [45, 45, 62] r).1], (upToM [45, 45, 62] r).2)
  | 60 :: 33 :: r => some ([comment (upToM [62] r).1], (upToM [62] r).2)
  | 60 :: 63 :: r => some ([comment (upToM [62] (63 :: r)).1], (upToM [62] (63 :: r)).2)
  | 60 :: 47 :: c :: r =>
    if isLet c then (tagM 2 (c :: r)).map fun x => ([x.1], x.2)
    else some ([comment (upToM [62] (c :: r)).1], (upToM [62] (c :: r)).2)
  | 60 :: r => (tagM 1 r).map fun x => if isRaw x.1.name then (x.1 :: rawToks x.1.name (rawM x.1.name x.2).1, (rawM x.1.name x.2).2) else ([x.1], x.2)
  | _ => none

/-- Text up to where markup begins; what is from there on. -/
def textM : Bytes → Bytes × Bytes
  | [] => ([], [])
  | c :: r => if opensM (c :: r) then ([], c :: r) else (c :: (textM r).1, (textM r).2)
def textToks (t : Bytes) : List TTok := if t = [] then [] else [chars (unesc t)]

def allN : Nat → Bytes → List TTok
  | 0, _ => []
  | _ + 1, [] => []
  | n + 1, c :: r =>
    textToks (textM (c :: r)).1 ++
      (if (textM (c :: r)).2 = [] then [] else
        match markupM (textM (c :: r)).2 with
        | none => []
        | some (l, r2) => l ++ allN n r2)
def allM (l : Bytes) : List TTok := allN (l.length + 1) l

end Go.Proofs.YtjkgmdnkejjppaaGreatDoor
/- Tables of texts that the rows' functions draw from. -/
namespace Go.Proofs.YtjkgmdnkejjppaaGreatDoor
open Go Go.RowKit

def markPieces : List Bytes := [[97], [98, 32], [60, 112, 62], [60, 47, 112, 62], [60, 98, 62], [60, 47, 98, 62], [60, 98, 114, 47, 62], [60, 33, 45, 45, 120, 45, 45, 62], [60, 105, 32, 99, 108, 97, 115, 115, 61, 120, 62], [60, 47, 105, 62], [38, 97, 109, 112, 59], [60], [60, 117, 108, 62], [60, 108, 105, 62], [60, 47, 117, 108, 62], [38], [62], [60, 115, 99, 114, 105, 112, 116, 62], [60, 47, 115, 99, 114, 105, 112, 116, 62], [10], [60, 105, 109, 103, 32, 115, 114, 99, 61, 39, 120, 46, 112, 110, 103, 39, 62], [60, 97, 32, 104, 114, 101, 102, 61, 34, 104, 116, 116, 112, 58, 47, 47, 120, 34, 62], [60, 47, 97, 62], [60, 63, 120, 62], [60, 47, 62]]
abbrev markPiecesV : Array Value := #[.string ⟨#[97]⟩, .string ⟨#[98, 32]⟩, .string ⟨#[60, 112, 62]⟩, .string ⟨#[60, 47, 112, 62]⟩, .string ⟨#[60, 98, 62]⟩, .string ⟨#[60, 47, 98, 62]⟩, .string ⟨#[60, 98, 114, 47, 62]⟩, .string ⟨#[60, 33, 45, 45, 120, 45, 45, 62]⟩, .string ⟨#[60, 105, 32, 99, 108, 97, 115, 115, 61, 120, 62]⟩, .string ⟨#[60, 47, 105, 62]⟩, .string ⟨#[38, 97, 109, 112, 59]⟩, .string ⟨#[60]⟩, .string ⟨#[60, 117, 108, 62]⟩, .string ⟨#[60, 108, 105, 62]⟩, .string ⟨#[60, 47, 117, 108, 62]⟩, .string ⟨#[38]⟩, .string ⟨#[62]⟩, .string ⟨#[60, 115, 99, 114, 105, 112, 116, 62]⟩, .string ⟨#[60, 47, 115, 99, 114, 105, 112, 116, 62]⟩, .string ⟨#[10]⟩, .string ⟨#[60, 105, 109, 103, 32, 115, 114, 99, 61, 39, 120, 46, 112, 110, 103, 39, 62]⟩, .string ⟨#[60, 97, 32, 104, 114, 101, 102, 61, 34, 104, 116, 116, 112, 58, 47, 47, 120, 34, 62]⟩, .string ⟨#[60, 47, 97, 62]⟩, .string ⟨#[60, 63, 120, 62]⟩, .string ⟨#[60, 47, 62]⟩]
theorem markPieces_v : markPiecesV.toList = markPieces.map (fun p => .string (mk p)) := rfl
theorem markPieces_len : ∀ p ∈ markPieces, p.length ≤ 19 := by decide
def partPieces : List Bytes := [[120], [60, 112, 62], [60, 47, 112, 62], [60, 105, 32, 97, 61, 98, 62], [60, 33, 45, 45, 120, 45, 45, 62], [121, 32]]
abbrev partPiecesV : Array Value := #[.string ⟨#[120]⟩, .string ⟨#[60, 112, 62]⟩, .string ⟨#[60, 47, 112, 62]⟩, .string ⟨#[60, 105, 32, 97, 61, 98, 62]⟩, .string ⟨#[60, 33, 45, 45, 120, 45, 45, 62]⟩, .string ⟨#[121, 32]⟩]
theorem partPieces_v : partPiecesV.toList = partPieces.map (fun p => .string (mk p)) := rfl
theorem partPieces_len : ∀ p ∈ partPieces, p.length ≤ 8 := by decide
def gapPieces : List Bytes := [[], [32], [10, 32], [9]]
abbrev gapPiecesV : Array Value := #[.string ⟨#[]⟩, .string ⟨#[32]⟩, .string ⟨#[10, 32]⟩, .string ⟨#[9]⟩]
theorem gapPieces_v : gapPiecesV.toList = gapPieces.map (fun p => .string (mk p)) := rfl
theorem gapPieces_len : ∀ p ∈ gapPieces, p.length ≤ 2 := by decide
def treePieces : List Bytes := [[97], [98, 32], [60, 112, 62], [60, 47, 112, 62], [60, 98, 62], [60, 47, 98, 62], [60, 98, 114, 47, 62], [60, 33, 45, 45, 120, 45, 45, 62], [60, 105, 32, 99, 108, 97, 115, 115, 61, 120, 62], [60, 47, 105, 62], [38, 97, 109, 112, 59], [60, 117, 108, 62], [60, 108, 105, 62], [60, 47, 117, 108, 62]]
abbrev treePiecesV : Array Value := #[.string ⟨#[97]⟩, .string ⟨#[98, 32]⟩, .string ⟨#[60, 112, 62]⟩, .string ⟨#[60, 47, 112, 62]⟩, .string ⟨#[60, 98, 62]⟩, .string ⟨#[60, 47, 98, 62]⟩, .string ⟨#[60, 98, 114, 47, 62]⟩, .string ⟨#[60, 33, 45, 45, 120, 45, 45, 62]⟩, .string ⟨#[60, 105, 32, 99, 108, 97, 115, 115, 61, 120, 62]⟩, .string ⟨#[60, 47, 105, 62]⟩, .string ⟨#[38, 97, 109, 112, 59]⟩, .string ⟨#[60, 117, 108, 62]⟩, .string ⟨#[60, 108, 105, 62]⟩, .string ⟨#[60, 47, 117, 108, 62]⟩]
theorem treePieces_v : treePiecesV.toList = treePieces.map (fun p => .string (mk p)) := rfl
theorem treePieces_len : ∀ p ∈ treePieces, p.length ≤ 11 := by decide
def closePieces : List Bytes := [[97], [60, 112, 62], [60, 47, 112, 62], [60, 98, 62], [60, 47, 98, 62], [60, 117, 108, 62], [60, 47, 117, 108, 62], [60, 108, 105, 62], [60, 47, 108, 105, 62], [60, 100, 105, 118, 62]]
abbrev closePiecesV : Array Value := #[.string ⟨#[97]⟩, .string ⟨#[60, 112, 62]⟩, .string ⟨#[60, 47, 112, 62]⟩, .string ⟨#[60, 98, 62]⟩, .string ⟨#[60, 47, 98, 62]⟩, .string ⟨#[60, 117, 108, 62]⟩, .string ⟨#[60, 47, 117, 108, 62]⟩, .string ⟨#[60, 108, 105, 62]⟩, .string ⟨#[60, 47, 108, 105, 62]⟩, .string ⟨#[60, 100, 105, 118, 62]⟩]
theorem closePieces_v : closePiecesV.toList = closePieces.map (fun p => .string (mk p)) := rfl
theorem closePieces_len : ∀ p ∈ closePieces, p.length ≤ 5 := by decide

/-- A cell of a table of texts that was laid. -/
theorem table_cell {ps : List Bytes} {vs : Array Value} (h : vs.toList = ps.map (fun p => .string (mk p))) (w : World) (e : TypeId) {r : Nat} {p : Bytes} (hp : ps[r]? = some p) :
    (w.alloc (.cells vs e)).cell? ⟨w.heap.size, r, none⟩ = some (.string (mk p)) := by
  have h1 : (w.alloc (.cells vs e)).heap[w.heap.size]? = some (.cells vs e (0, 0)) := heap_alloc_new _ _
  rw [Lib.cell_of_heap h1, ← Array.getElem?_toList, h, List.getElem?_map, hp]
  rfl

/-- The texts drawn, one behind the other. -/
def drawn (ps : List Bytes) (l : List Int) : Bytes := (l.map fun x : Int => ps.getD (x % (ps.length : Int)).toNat []).flatten
theorem drawn_snoc (ps : List Bytes) (l : List Int) (x : Int) : drawn ps (l ++ [x]) = drawn ps l ++ ps.getD (x % ps.length).toNat [] := by
  unfold drawn
  rw [List.map_append, List.flatten_append]
  simp
theorem drawn_len (ps : List Bytes) (m : Nat) (hm : ∀ p ∈ ps, p.length ≤ m) (l : List Int) : (drawn ps l).length ≤ l.length * m := by
  induction l with
  | nil => simp [drawn]
  | cons x l ih =>
    have e : drawn ps (x :: l) = ps.getD (x % ps.length).toNat [] ++ drawn ps l := rfl
    rw [e, List.length_append, List.length_cons, Nat.add_mul]
    have : (ps.getD (x % ps.length).toNat []).length ≤ m := by
      rcases Nat.lt_or_ge (x % ps.length).toNat ps.length with h | h
      · have hg : ps.getD (x % ps.length).toNat [] = ps[(x % ps.length).toNat] := by simp [List.getD, h]
        rw [hg]; exact hm _ (List.getElem_mem h)
      · simp [List.getD, h]
    omega
theorem drawn_get (ps : List Bytes) (hps : ps ≠ []) (x : Int) : ∃ p, ps[(x % ps.length).toNat]? = some p ∧ ps.getD (x % ps.length).toNat [] = p ∧ 0 ≤ x % ps.length ∧ x % ps.length < ps.length := by
  have h0 : 0 < ps.length := List.length_pos_iff.2 hps
  have h1 := Int.emod_nonneg x (show (ps.length : Int) ≠ 0 by omega)
  have h2 := Int.emod_lt_of_pos x (show (0 : Int) < ps.length by omega)
  have h3 : (x % ps.length).toNat < ps.length := by omega
  exact ⟨_, List.getElem?_eq_getElem h3, by simp [List.getD, h3], h1, h2⟩
theorem cat_mk (a b : Bytes) : mk a ++ mk b = mk (a ++ b) := by
  apply ext_lst
  rw [show lst (mk a ++ mk b) = lst (mk a) ++ lst (mk b) by simp [lst, ByteArray.data_append], lst_mk, lst_mk, lst_mk]

end Go.Proofs.YtjkgmdnkejjppaaGreatDoor
/- Plain laws of the tokenizer's model: what a piece of markup takes; what TokSmall asks of tokens. -/
namespace Go.Proofs.YtjkgmdnkejjppaaGreatDoor

theorem low_small (c : UInt8) : ¬ (65 ≤ low c ∧ low c ≤ 90) := by
  unfold low
  simp only [UInt8.le_iff_toNat_le]
  have e1 : (65 : UInt8).toNat = 65 := rfl
  have e2 : (90 : UInt8).toNat = 90 := rfl
  have e3 : (32 : UInt8).toNat = 32 := rfl
  rw [e1, e2]
  by_cases h : 65 ≤ c.toNat ∧ c.toNat ≤ 90
  · rw [if_pos h, UInt8.toNat_add, e3]; omega
  · rw [if_neg h]; exact h

def nameSmall (l : Bytes) : Prop := ∀ c ∈ l, ¬ (65 ≤ c ∧ c ≤ 90)
theorem nameSmall_small (l : Bytes) : nameSmall (small l) := by
  intro c hc
  obtain ⟨x, _, rfl⟩ := List.mem_map.1 hc
  exact low_small x
theorem nameSmall_nil : nameSmall [] := fun c h => by cases h

/-- What TokSmall asks of one token. -/
structure TokOk (t : TTok) : Prop where
  text : t.kind = 3 → t.text ≠ []
  name : t.kind = 1 ∨ t.kind = 2 → t.name ≠ []
  low : nameSmall t.name
  once : (t.attrs.map (·.name)).Pairwise (· ≠ ·)

/-- No two texts side by side (was the one ahead a text?). -/
def apartT : Bool → List TTok → Bool
  | _, [] => true
  | p, t :: l => !(p && t.kind == 3) && apartT (t.kind == 3) l

theorem encodeRune_ne (x : Int) : Lib.encodeRune x ≠ [] := by
  have := (Lib.encodeRuneZ_length x).1
  intro h
  unfold Lib.encodeRune at h
  rw [List.map_eq_nil_iff] at h
  rw [h] at this
  simp at this
theorem unesc_ne (l : Bytes) (h : l ≠ []) : unesc l ≠ [] := by
  cases l with
  | nil => exact absurd rfl h
  | cons c r =>
    show (if c = 38 ∧ (brk [59] r).length < r.length then _ else c :: unescN _ r) ≠ []
    split
    · split
      · intro h; exact encodeRune_ne _ (List.append_eq_nil_iff.1 h).1
      · simp
    · simp

theorem brk_len (c l : Bytes) : (brk c l).length + (brkR c l).length = l.length := by
  have := congrArg List.length (List.takeWhile_append_dropWhile (p := fun b => !c.contains b) (l := l))
  rw [List.length_append] at this
  exact this
theorem skp_le (c l : Bytes) : (skp c l).length ≤ l.length := (List.dropWhile_suffix _).length_le
theorem brkR_le (c l : Bytes) : (brkR c l).length ≤ l.length := (List.dropWhile_suffix _).length_le

theorem valueM_le (r : Bytes) : (valueM r).2.2.length ≤ r.length := by
  unfold valueM
  have h1 := skp_le spaces r
  generalize skp spaces r = s at *
  cases s with
  | nil => simp [valueT]
  | cons q r2 =>
    unfold valueT
    simp only
    split
    · have h2 := brkR_le [q] r2
      split
      · simp
      · rename_i x r3 he
        rw [he] at h2
        simp at h1 h2 ⊢; omega
    · have h2 := brkR_le (spaces ++ [62]) (q :: r2)
      simp at h1 h2 ⊢; omega
theorem attrM_le (c : UInt8) (r1 : Bytes) : (attrM (c :: r1)).2.2.length ≤ r1.length := by
  unfold attrM
  simp only
  have h1 := brkR_le attrEnd r1
  have h2 := skp_le spaces (brkR attrEnd r1)
  split
  · exact h1
  · rename_i e r4 he
    rw [he] at h2
    split
    · have h3 := valueM_le r4
      simp at h1 h2 h3 ⊢; omega
    · exact h1

theorem addAttr_once (l : List TAttr) (a : TAttr) (h : (l.map (·.name)).Pairwise (· ≠ ·)) : ((addAttr l a).map (·.name)).Pairwise (· ≠ ·) := by
  unfold addAttr
  split
  · exact h
  · rename_i hn
    rw [List.map_append, List.pairwise_append]
    refine ⟨h, by simp, ?_⟩
    intro x hx y hy
    obtain ⟨b, hb, rfl⟩ := List.mem_map.1 hx
    simp only [List.map_cons, List.map_nil, List.mem_singleton] at hy
    subst hy
    intro he
    exact hn (List.any_eq_true.2 ⟨b, hb, by rw [he]; exact beq_self_eq_true _⟩)

theorem tagLoop_ok : ∀ (n : Nat) (r : Bytes) (l l' : List TAttr) (s : Bool) (r2 : Bytes), tagLoop n r l = some (l', s, r2) → (l.map (·.name)).Pairwise (· ≠ ·) →
    (l'.map (·.name)).Pairwise (· ≠ ·) ∧ r2.length + 1 ≤ r.length := by
  intro n
  induction n with
  | zero => intro r l l' s r2 h; cases h
  | succ n ih =>
    intro r l l' s r2 h hp
    unfold tagLoop at h
    have h1 := skp_le tagGap r
    split at h
    · cases h
    · rename_i c r3 he
      rw [he] at h1
      split at h
      · cases h
        exact ⟨hp, by simpa using h1⟩
      · split at h
        · obtain ⟨a, b⟩ := ih _ _ _ _ _ h (addAttr_once _ _ hp)
          have h2 := attrM_le c r3
          simp at h1
          exact ⟨a, by omega⟩
        · cases h

theorem tagM_ok (kind : Int) (r : Bytes) (t : TTok) (r2 : Bytes) (h : tagM kind r = some (t, r2)) (hk : kind = 1 ∨ kind = 2) (hr : brk nameEnd r ≠ []) :
    t.kind = kind ∧ TokOk t ∧ t.name = small (brk nameEnd r) ∧ r2.length + 1 + (brk nameEnd r).length ≤ r.length := by
  unfold tagM at h
  have hb := brk_len nameEnd r
  generalize hl : tagLoop (r.length + 1) (brkR nameEnd r) [] = o at h
  unfold tagOf at h
  cases o with
  | none => cases h
  | some x =>
    obtain ⟨l, s, r3⟩ := x
    obtain ⟨h1, h2⟩ := tagLoop_ok _ _ _ _ _ _ hl (by simp)
    have hn : small (brk nameEnd r) ≠ [] := by intro he; exact hr (List.map_eq_nil_iff.1 he)
    have hk3 : kind ≠ 3 := by omega
    simp only [Option.some.injEq, Prod.mk.injEq] at h
    obtain ⟨h3, rfl⟩ := h
    split at h3 <;> subst h3
    · exact ⟨rfl, ⟨fun h => absurd h hk3, fun _ => hn, nameSmall_small _, by simp⟩, rfl, by omega⟩
    · exact ⟨rfl, ⟨fun h => absurd h hk3, fun _ => hn, nameSmall_small _, h1⟩, rfl, by omega⟩

theorem upToM_le (e : Bytes) (l : Bytes) : (upToM e l).2 = [] ∨ (upToM e l).2.length + e.length ≤ l.length := by
  induction l with
  | nil => exact .inl rfl
  | cons c r ih =>
    unfold upToM
    split
    · rename_i h
      right
      have := (List.isPrefixOf_iff_prefix.1 h).length_le
      simp only [List.length_drop]
      omega
    · rcases ih with h | h
      · exact .inl h
      · right; simp at h ⊢; omega

theorem rawM_le (n : Bytes) (l : Bytes) : (rawM n l).1.length + (rawM n l).2.length = l.length ∧ ((rawM n l).2 = [] ∨ rawStop n (rawM n l).2 = true) := by
  induction l with
  | nil => exact ⟨rfl, .inl rfl⟩
  | cons c r ih =>
    unfold rawM
    split
    · rename_i h
      exact ⟨by simp, .inr h⟩
    · exact ⟨by simp; omega, ih.2⟩

theorem rawStop_opens (n r : Bytes) (h : rawStop n r = true) : opensM r = true := by
  unfold rawStop at h
  split at h
  · rename_i r
    have : r ≠ [] := by
      rintro rfl
      simp [hd] at h
    cases r with
    | nil => exact absurd rfl this
    | cons a b => simp [opensM]
  · cases h

/-- What a piece of markup is. -/
inductive MarkOk (X : Bytes) : List TTok → Bytes → Prop
  | one (t : TTok) (r2 : Bytes) (hk : t.kind ≠ 3) (ht : TokOk t) (h : r2.length + 3 ≤ X.length ∨ r2 = [] ∧ 2 ≤ X.length) : MarkOk X [t] r2
  | raw (t : TTok) (x r2 : Bytes) (hk : t.kind ≠ 3) (ht : TokOk t) (hx : x ≠ []) (ho : r2 = [] ∨ opensM r2 = true) (h : r2.length + 4 ≤ X.length) : MarkOk X [t, chars x] r2

theorem tokOk_comment (t : Bytes) : TokOk (comment t) := ⟨fun h => (by cases h), fun h => (by rcases h with h | h <;> cases h), nameSmall_nil, by simp [comment]⟩
theorem tokOk_chars (t : Bytes) (h : t ≠ []) : TokOk (chars t) := ⟨fun _ => h, fun h => (by rcases h with h | h <;> cases h), nameSmall_nil, by simp [chars]⟩

theorem isLet_name (c : UInt8) (r : Bytes) (h : isLet c = true) : brk nameEnd (c :: r) ≠ [] := by
  have : nameEnd.contains c = false := by
    simp only [isLet, Bool.or_eq_true, Bool.and_eq_true, decide_eq_true_eq, UInt8.le_iff_toNat_le] at h
    have e1 : (97 : UInt8).toNat = 97 := rfl
    have e2 : (122 : UInt8).toNat = 122 := rfl
    have e3 : (65 : UInt8).toNat = 65 := rfl
    have e4 : (90 : UInt8).toNat = 90 := rfl
    rw [e1, e2, e3, e4] at h
    rw [Bool.eq_false_iff]
    intro hc
    have hc2 : c = 32 ∨ c = 9 ∨ c = 10 ∨ c = 12 ∨ c = 47 ∨ c = 62 := by simpa [nameEnd, spaces] using hc
    rcases hc2 with rfl | rfl | rfl | rfl | rfl | rfl <;> simp at h
  unfold brk
  rw [List.takeWhile_cons, this]
  simp

theorem markupM_ok (X : Bytes) (ts : List TTok) (r2 : Bytes) (ho : opensM X = true) (h : markupM X = some (ts, r2)) : MarkOk X ts r2 := by
  unfold markupM at h
  split at h
  · rename_i r
    cases h
    refine .one _ _ (show (4 : Int) ≠ 3 by decide) (tokOk_comment _) ?_
    rcases upToM_le [45, 45, 62] r with h | h
    · exact .inr ⟨h, by simp⟩
    · left; simp at h ⊢; omega
  · rename_i r _
    cases h
    refine .one _ _ (show (4 : Int) ≠ 3 by decide) (tokOk_comment _) ?_
    rcases upToM_le [62] r with h | h
    · exact .inr ⟨h, by simp⟩
    · left; simp at h ⊢; omega
  · rename_i r
    cases h
    refine .one _ _ (show (4 : Int) ≠ 3 by decide) (tokOk_comment _) ?_
    rw [show (upToM [62] (63 :: r)).2 = (upToM [62] r).2 from rfl]
    rcases upToM_le [62] r with h | h
    · exact .inr ⟨h, by simp⟩
    · left; simp at h ⊢; omega
  · rename_i c r
    split at h
    · rename_i hc
      cases ht : tagM 2 (c :: r) with
      | none => rw [ht] at h; cases h
      | some x =>
        obtain ⟨t, r3⟩ := x
        rw [ht] at h
        cases h
        obtain ⟨h1, h2, h3, h4⟩ := tagM_ok 2 _ _ _ ht (.inr rfl) (isLet_name c r hc)
        exact .one _ _ (by rw [h1]; decide) h2 (.inl (by simp at h4 ⊢; omega))
    · cases h
      refine .one _ _ (show (4 : Int) ≠ 3 by decide) (tokOk_comment _) ?_
      rcases upToM_le [62] (c :: r) with h | h
      · exact .inr ⟨h, by simp⟩
      · left; simp at h ⊢; omega
  · rename_i r n1 n2 n3 n4
    have hc : ∃ c r', r = c :: r' ∧ isLet c = true := by
      cases r with
      | nil => simp [opensM] at ho
      | cons c r' =>
        refine ⟨c, r', rfl, ?_⟩
        have ho' : (isLet c || c == 33 || c == 63 || (c == 47 && !r'.isEmpty)) = true := ho
        simp only [Bool.or_eq_true, Bool.and_eq_true, beq_iff_eq] at ho'
        rcases ho' with ((hh | hh) | hh) | ⟨hh, hr⟩
        · exact hh
        · exact (n2 r' (by rw [hh])).elim
        · exact (n3 r' (by rw [hh])).elim
        · cases r' with
          | nil => simp at hr
          | cons d r'' => exact (n4 d r'' (by rw [hh])).elim
    obtain ⟨c, r', rfl, hc⟩ := hc
    cases ht : tagM 1 (c :: r') with
    | none => rw [ht] at h; cases h
    | some x =>
      obtain ⟨t, r3⟩ := x
      rw [ht] at h
      obtain ⟨h1, h2, h3, h4⟩ := tagM_ok 1 _ _ _ ht (.inl rfl) (isLet_name c r' hc)
      have hn : 1 ≤ (brk nameEnd (c :: r')).length := by
        have := isLet_name c r' hc
        cases hb : brk nameEnd (c :: r') with
        | nil => exact absurd hb this
        | cons => simp
      simp only [Option.map_some] at h
      split at h
      · rename_i hraw
        obtain ⟨g1, g2⟩ := rawM_le t.name r3
        unfold rawToks at h
        simp only [Option.some.injEq, Prod.mk.injEq] at h
        obtain ⟨h5, rfl⟩ := h
        subst h5
        split
        · exact .one _ _ (by rw [h1]; decide) h2 (.inl (by simp at h4 ⊢; omega))
        · rename_i hne
          have hl : 1 ≤ (rawM t.name r3).1.length := by
            cases hx : (rawM t.name r3).1 with
            | nil => rw [hx] at hne; exfalso; apply hne; unfold rawText; split <;> rfl
            | cons => simp
          refine .raw _ _ _ (by rw [h1]; decide) h2 hne (g2.imp id (rawStop_opens _ _)) (by simp at h4 ⊢; omega)
      · cases h
        exact .one _ _ (by rw [h1]; decide) h2 (.inl (by simp at h4 ⊢; omega))
  · cases h

theorem textM_ok (l : Bytes) : (textM l).1.length + (textM l).2.length = l.length ∧ ((textM l).2 = [] ∨ opensM (textM l).2 = true) := by
  induction l with
  | nil => exact ⟨rfl, .inl rfl⟩
  | cons c r ih =>
    unfold textM
    split
    · rename_i h
      exact ⟨by simp, .inr h⟩
    · exact ⟨by simp; omega, ih.2⟩
theorem textM_opens (l : Bytes) (h : opensM l = true) : textM l = ([], l) := by
  cases l with
  | nil => rfl
  | cons c r => unfold textM; rw [if_pos h]

theorem textToks_nil : textToks [] = [] := rfl
theorem textToks_some (t : Bytes) (h : t ≠ []) : textToks t = [chars (unesc t)] := by unfold textToks; rw [if_neg h]

/-- What stands behind markup goes on alone. -/
structure AllOk (l : Bytes) (ts : List TTok) : Prop where
  ok : ∀ t ∈ ts, TokOk t
  apart : apartT false ts = true
  apart' : l = [] ∨ opensM l = true → apartT true ts = true
  len : 2 * ts.length ≤ l.length + 1
  len' : l = [] ∨ opensM l = true → 2 * ts.length ≤ l.length
theorem AllOk.nil (l : Bytes) : AllOk l [] := ⟨fun t h => (by cases h), rfl, fun _ => rfl, by simp, fun _ => by simp⟩

theorem AllOk.markup {X r2 : Bytes} {ts rest : List TTok} (h : MarkOk X ts r2) (hr : AllOk r2 rest) (hr0 : r2 = [] → rest = []) : AllOk X (ts ++ rest) := by
  cases h with
  | one t _ hk ht hl =>
    have hk' : (t.kind == 3) = false := beq_eq_false_iff_ne.2 hk
    have hlen : 2 * ([t] ++ rest).length ≤ X.length := by
      have := hr.len
      rcases hl with h | ⟨h, h2⟩
      · simp; omega
      · rw [hr0 h]; simpa using h2
    exact ⟨fun x hx => (List.mem_append.1 hx).elim (fun h => by cases List.mem_singleton.1 h; exact ht) (fun h => hr.ok x h),
      by simp [apartT, hk', hr.apart], fun _ => by simp [apartT, hk', hr.apart], by omega, fun _ => hlen⟩
  | raw t x _ hk ht hx ho2 hl =>
    have hk' : (t.kind == 3) = false := beq_eq_false_iff_ne.2 hk
    have hk2 : ((chars x).kind == 3) = true := rfl
    have hlen : 2 * ([t, chars x] ++ rest).length ≤ X.length := by
      have := hr.len' ho2
      simp; omega
    refine ⟨fun y hy => ?_, by simp [apartT, hk', hk2, hr.apart' ho2], fun _ => by simp [apartT, hk', hk2, hr.apart' ho2], by omega, fun _ => hlen⟩
    rcases List.mem_append.1 hy with h | h
    · rcases List.mem_cons.1 h with rfl | h
      · exact ht
      · cases List.mem_singleton.1 h; exact tokOk_chars x hx
    · exact hr.ok y h

theorem allN_ok : ∀ (n : Nat) (l : Bytes), AllOk l (allN n l) := by
  intro n
  induction n with
  | zero => intro l; exact AllOk.nil l
  | succ n ih =>
    intro l
    cases l with
    | nil => exact AllOk.nil _
    | cons c r =>
      obtain ⟨h1, h2⟩ := textM_ok (c :: r)
      have hshow : allN (n + 1) (c :: r) = textToks (textM (c :: r)).1 ++ (if (textM (c :: r)).2 = [] then [] else match markupM (textM (c :: r)).2 with
          | none => []
          | some (l, r2) => l ++ allN n r2) := rfl
      rw [hshow]
      have hM : AllOk (textM (c :: r)).2 (if (textM (c :: r)).2 = [] then [] else match markupM (textM (c :: r)).2 with
          | none => []
          | some (l, r2) => l ++ allN n r2) := by
        split
        · exact AllOk.nil _
        · rename_i hne
          have ho : opensM (textM (c :: r)).2 = true := h2.resolve_left hne
          cases hm : markupM (textM (c :: r)).2 with
          | none => exact AllOk.nil _
          | some x =>
            obtain ⟨ts, r2⟩ := x
            exact AllOk.markup (markupM_ok _ _ _ ho hm) (ih r2) (by rintro rfl; cases n <;> rfl)
      by_cases ho : opensM (c :: r) = true
      · rw [textM_opens _ ho] at hM ⊢
        exact hM
      · have hno : ¬ (c :: r = [] ∨ opensM (c :: r) = true) := fun h => h.elim (fun h => by cases h) ho
        have ht : (textM (c :: r)).1 ≠ [] := by
          unfold textM; rw [if_neg ho]; simp
        have ht1 : 1 ≤ (textM (c :: r)).1.length := by
          cases hx : (textM (c :: r)).1 with
          | nil => exact absurd hx ht
          | cons => simp
        rw [textToks_some _ ht]
        have hk2 : ((chars (unesc (textM (c :: r)).1)).kind == 3) = true := rfl
        refine ⟨fun y hy => ?_, ?_, fun h => absurd h hno, ?_, fun h => absurd h hno⟩
        · rcases List.mem_append.1 hy with h | h
          · cases List.mem_singleton.1 h; exact tokOk_chars _ (unesc_ne _ ht)
          · exact hM.ok y h
        · have := hM.apart' h2
          simp [apartT, hk2, this]
        · have := hM.len' h2
          simp at h1 ⊢; omega

theorem allM_ok (l : Bytes) : AllOk l (allM l) := allN_ok _ l

end Go.Proofs.YtjkgmdnkejjppaaGreatDoor
/- Plain laws of the tokenizer's model: tokens are no longer than their text. -/
namespace Go.Proofs.YtjkgmdnkejjppaaGreatDoor

theorem encodeRune_le (x : Int) : (Lib.encodeRune x).length ≤ 4 := by
  have := (Lib.encodeRuneZ_length x).2
  unfold Lib.encodeRune
  rw [List.length_map]; exact this
theorem encodeRune_two (x : Int) (h0 : 0 ≤ x) (h : x ≤ 2047) : (Lib.encodeRune x).length ≤ 2 := by
  unfold Lib.encodeRune
  rw [List.length_map]
  by_cases h1 : x ≤ 127
  · rw [Lib.encodeRuneZ_one h0 h1]; simp
  · rw [Lib.encodeRuneZ_two (by omega) h]; simp

theorem numberedM_ne (d : Bytes) (b m : Nat) (x : Int) (h : numberedM d b m = some x) : 1 ≤ d.length := by
  unfold numberedM at h
  split at h
  · cases h
  · rename_i hn
    cases d with
    | nil => exact absurd (.inl rfl) hn
    | cons => simp
theorem namedM_le (s : Bytes) (x : Int) (h : namedM s = some x) : 2 ≤ s.length ∧ 0 ≤ x ∧ x ≤ 2047 := by
  unfold namedM at h
  repeat' (split at h)
  all_goals first | (cases h; subst_vars; decide) | cases h
theorem letterM_le (s : Bytes) (x : Int) (h : letterM s = some x) : (Lib.encodeRune x).length ≤ s.length + 2 := by
  have h4 := encodeRune_le x
  unfold letterM at h
  split at h
  · split at h
    · have := numberedM_ne _ _ _ _ h; simp at this
    · split at h
      · have := numberedM_ne _ _ _ _ h
        simp; omega
      · simp; omega
  · obtain ⟨h1, h2, h3⟩ := namedM_le _ _ h
    have := encodeRune_two x h2 h3
    omega

theorem unescN_le : ∀ (n : Nat) (l : Bytes), (unescN n l).length ≤ l.length := by
  intro n
  induction n with
  | zero => intro l; simp [unescN]
  | succ n ih =>
    intro l
    cases l with
    | nil => simp [unescN]
    | cons c r =>
      unfold unescN
      split
      · rename_i h
        split
        · rename_i x hx
          have h1 := letterM_le _ _ hx
          have h2 := ih (r.drop ((brk [59] r).length + 1))
          rw [List.length_drop] at h2
          rw [List.length_append]
          simp; omega
        · have := ih r
          simp; exact this
      · have := ih r
        simp; exact this
theorem unesc_le (l : Bytes) : (unesc l).length ≤ l.length := unescN_le _ l

def abulk (a : TAttr) : Nat := a.name.length + a.value.length
def asum (l : List TAttr) : Nat := (l.map abulk).sum
def bulk (t : TTok) : Nat := t.name.length + t.text.length + asum t.attrs
def tsum (l : List TTok) : Nat := (l.map bulk).sum
theorem asum_append (a b : List TAttr) : asum (a ++ b) = asum a + asum b := by unfold asum; rw [List.map_append, List.sum_append]
theorem tsum_append (a b : List TTok) : tsum (a ++ b) = tsum a + tsum b := by unfold tsum; rw [List.map_append, List.sum_append]
theorem tsum_cons (a : TTok) (b : List TTok) : tsum (a :: b) = bulk a + tsum b := by unfold tsum; rw [List.map_cons, List.sum_cons]
theorem asum_mem (l : List TAttr) (a : TAttr) (h : a ∈ l) : abulk a ≤ asum l := by
  induction l with
  | nil => cases h
  | cons b l ih =>
    unfold asum at *
    rw [List.map_cons, List.sum_cons]
    rcases List.mem_cons.1 h with rfl | h
    · omega
    · have := ih h; omega
theorem tsum_mem (l : List TTok) (a : TTok) (h : a ∈ l) : bulk a ≤ tsum l := by
  induction l with
  | nil => cases h
  | cons b l ih =>
    unfold tsum at *
    rw [List.map_cons, List.sum_cons]
    rcases List.mem_cons.1 h with rfl | h
    · omega
    · have := ih h; omega
theorem small_len (l : Bytes) : (small l).length = l.length := List.length_map _
theorem skp_len (c l : Bytes) : (skp c l).length ≤ l.length := skp_le c l

theorem valueM_bulk (r : Bytes) : (valueM r).1.length + (valueM r).2.2.length ≤ r.length := by
  unfold valueM
  have h1 := skp_le spaces r
  generalize skp spaces r = s at *
  cases s with
  | nil => simp [valueT, unesc, unescN]
  | cons q r2 =>
    unfold valueT
    simp only
    split
    · have h2 := brk_len [q] r2
      have h3 := unesc_le (brk [q] r2)
      split
      · simp
      · rename_i x r3 he
        rw [he] at h2
        simp at h1 h2 ⊢; omega
    · have h2 := brk_len (spaces ++ [62]) (q :: r2)
      have h3 := unesc_le (brk (spaces ++ [62]) (q :: r2))
      dsimp only
      omega
theorem attrM_bulk (c : UInt8) (r1 : Bytes) : abulk (attrM (c :: r1)).1 + (attrM (c :: r1)).2.2.length ≤ r1.length + 1 ∧ 1 ≤ (attrM (c :: r1)).1.name.length := by
  unfold attrM
  simp only
  have h1 := brk_len attrEnd r1
  have h2 := skp_le spaces (brkR attrEnd r1)
  split
  · refine ⟨?_, by simp [small_len]⟩
    simp [abulk, small_len]; omega
  · rename_i e r4 he
    rw [he] at h2
    split
    · have h3 := valueM_bulk r4
      refine ⟨?_, by simp [small_len]⟩
      simp [abulk, small_len] at h2 ⊢; omega
    · refine ⟨?_, by simp [small_len]⟩
      simp [abulk, small_len]; omega

def attrsOk (l : List TAttr) : Prop := ∀ a ∈ l, 1 ≤ a.name.length ∧ nameSmall a.name
theorem attrM_small (c : UInt8) (r1 : Bytes) : nameSmall (attrM (c :: r1)).1.name := by
  unfold attrM
  simp only
  split
  · exact nameSmall_small _
  · split <;> exact nameSmall_small _

theorem tagLoop_bulk : ∀ (n : Nat) (r : Bytes) (l l' : List TAttr) (s : Bool) (r2 : Bytes), tagLoop n r l = some (l', s, r2) → attrsOk l →
    asum l' + r2.length + 1 ≤ asum l + r.length ∧ attrsOk l' := by
  intro n
  induction n with
  | zero => intro r l l' s r2 h; cases h
  | succ n ih =>
    intro r l l' s r2 h hl
    unfold tagLoop at h
    have h1 := skp_le tagGap r
    split at h
    · cases h
    · rename_i c r3 he
      rw [he] at h1
      split at h
      · cases h
        refine ⟨?_, hl⟩
        simp at h1; omega
      · split at h
        · have h2 := attrM_bulk c r3
          have h3 : asum (addAttr l (attrM (c :: r3)).1) ≤ asum l + abulk (attrM (c :: r3)).1 ∧ attrsOk (addAttr l (attrM (c :: r3)).1) := by
            unfold addAttr
            split
            · exact ⟨by omega, hl⟩
            · rw [asum_append]
              refine ⟨by simp [asum], fun a ha => ?_⟩
              rcases List.mem_append.1 ha with ha | ha
              · exact hl a ha
              · cases List.mem_singleton.1 ha
                exact ⟨h2.2, attrM_small c r3⟩
          obtain ⟨h4, h5⟩ := ih _ _ _ _ _ h h3.2
          simp at h1
          exact ⟨by omega, h5⟩
        · cases h

theorem tagM_bulk (kind : Int) (r : Bytes) (t : TTok) (r2 : Bytes) (h : tagM kind r = some (t, r2)) : bulk t + r2.length + 1 ≤ r.length ∧ attrsOk t.attrs := by
  unfold tagM at h
  have hb := brk_len nameEnd r
  generalize hl : tagLoop (r.length + 1) (brkR nameEnd r) [] = o at h
  unfold tagOf at h
  cases o with
  | none => cases h
  | some x =>
    obtain ⟨l, s, r3⟩ := x
    obtain ⟨h1, h2⟩ := tagLoop_bulk _ _ _ _ _ _ hl (fun a ha => by cases ha)
    simp only [Option.some.injEq, Prod.mk.injEq] at h
    obtain ⟨h3, rfl⟩ := h
    have e0 : asum [] = 0 := rfl
    rw [e0] at h1
    split at h3 <;> subst h3
    · refine ⟨?_, fun a ha => by cases ha⟩
      simp [bulk, small_len, e0]; omega
    · refine ⟨?_, h2⟩
      simp [bulk, small_len]; omega

theorem upToM_bulk (e : Bytes) (l : Bytes) : (upToM e l).1.length + (upToM e l).2.length ≤ l.length := by
  induction l with
  | nil => simp [upToM]
  | cons c r ih =>
    unfold upToM
    split
    · simp [List.length_drop]
    · simp; omega

theorem bulk_comment (t : Bytes) : bulk (comment t) = t.length := by simp [bulk, comment, asum]
theorem bulk_chars (t : Bytes) : bulk (chars t) = t.length := by simp [bulk, chars, asum]

theorem rawText_le (n t : Bytes) : (rawText n t).length ≤ t.length := by
  unfold rawText
  split
  · exact unesc_le t
  · omega
theorem rawToks_bulk (n t : Bytes) : tsum (rawToks n t) ≤ t.length := by
  unfold rawToks
  split
  · simp [tsum]
  · rw [tsum_cons, bulk_chars]
    have := rawText_le n t
    simp [tsum]; exact this

def toksOk (l : List TTok) : Prop := ∀ t ∈ l, attrsOk t.attrs
theorem toksOk_one (t : TTok) (h : attrsOk t.attrs) : toksOk [t] := fun x hx => by cases List.mem_singleton.1 hx; exact h
theorem toksOk_append {a b : List TTok} (h : toksOk a) (k : toksOk b) : toksOk (a ++ b) := fun t ht => (List.mem_append.1 ht).elim (h t) (k t)
theorem attrsOk_nil : attrsOk [] := fun a ha => by cases ha
theorem toksOk_nil : toksOk [] := fun a ha => by cases ha

theorem markupM_bulk (X : Bytes) (ts : List TTok) (r2 : Bytes) (h : markupM X = some (ts, r2)) : tsum ts + r2.length ≤ X.length ∧ toksOk ts := by
  unfold markupM at h
  split at h
  · rename_i r
    cases h
    have := upToM_bulk [45, 45, 62] r
    refine ⟨?_, toksOk_one _ attrsOk_nil⟩
    rw [tsum_cons, bulk_comment]; simp [tsum]; omega
  · rename_i r _
    cases h
    have := upToM_bulk [62] r
    refine ⟨?_, toksOk_one _ attrsOk_nil⟩
    rw [tsum_cons, bulk_comment]; simp [tsum]; omega
  · rename_i r
    cases h
    have := upToM_bulk [62] (63 :: r)
    refine ⟨?_, toksOk_one _ attrsOk_nil⟩
    rw [tsum_cons, bulk_comment]; simp [tsum] at this ⊢; omega
  · rename_i c r
    split at h
    · cases ht : tagM 2 (c :: r) with
      | none => rw [ht] at h; cases h
      | some x =>
        obtain ⟨t, r3⟩ := x
        rw [ht] at h
        cases h
        obtain ⟨h1, h2⟩ := tagM_bulk _ _ _ _ ht
        refine ⟨?_, toksOk_one _ h2⟩
        rw [tsum_cons]; simp [tsum] at h1 ⊢; omega
    · cases h
      have := upToM_bulk [62] (c :: r)
      refine ⟨?_, toksOk_one _ attrsOk_nil⟩
      rw [tsum_cons, bulk_comment]; simp [tsum] at this ⊢; omega
  · rename_i r _ _ _ _
    cases ht : tagM 1 r with
    | none => rw [ht] at h; cases h
    | some x =>
      obtain ⟨t, r3⟩ := x
      rw [ht] at h
      obtain ⟨h1, h2⟩ := tagM_bulk _ _ _ _ ht
      simp only [Option.map_some] at h
      split at h
      · have g1 := (rawM_le t.name r3).1
        have g2 := rawToks_bulk t.name (rawM t.name r3).1
        cases h
        refine ⟨?_, fun x hx => ?_⟩
        · rw [tsum_cons]; simp; omega
        · rcases List.mem_cons.1 hx with rfl | hx
          · exact h2
          · unfold rawToks at hx
            split at hx
            · cases hx
            · cases List.mem_singleton.1 hx; exact attrsOk_nil
      · cases h
        refine ⟨?_, toksOk_one _ h2⟩
        rw [tsum_cons]; simp [tsum]; omega
  · cases h

theorem allN_bulk : ∀ (n : Nat) (l : Bytes), tsum (allN n l) ≤ l.length ∧ toksOk (allN n l) := by
  intro n
  induction n with
  | zero => intro l; exact ⟨by simp [allN, tsum], toksOk_nil⟩
  | succ n ih =>
    intro l
    cases l with
    | nil => exact ⟨by simp [allN, tsum], toksOk_nil⟩
    | cons c r =>
      have h1 := (textM_ok (c :: r)).1
      have hshow : allN (n + 1) (c :: r) = textToks (textM (c :: r)).1 ++ (if (textM (c :: r)).2 = [] then [] else match markupM (textM (c :: r)).2 with
          | none => []
          | some (l, r2) => l ++ allN n r2) := rfl
      rw [hshow, tsum_append]
      have h2 : tsum (textToks (textM (c :: r)).1) ≤ (textM (c :: r)).1.length ∧ toksOk (textToks (textM (c :: r)).1) := by
        unfold textToks
        split
        · exact ⟨by simp [tsum], toksOk_nil⟩
        · refine ⟨?_, toksOk_one _ attrsOk_nil⟩
          rw [tsum_cons, bulk_chars]
          have := unesc_le (textM (c :: r)).1
          simp [tsum]; exact this
      have h3 : tsum (if (textM (c :: r)).2 = [] then [] else match markupM (textM (c :: r)).2 with
          | none => []
          | some (l, r2) => l ++ allN n r2) ≤ (textM (c :: r)).2.length ∧ toksOk (if (textM (c :: r)).2 = [] then [] else match markupM (textM (c :: r)).2 with
          | none => []
          | some (l, r2) => l ++ allN n r2) := by
        split
        · exact ⟨by simp [tsum], toksOk_nil⟩
        · cases hm : markupM (textM (c :: r)).2 with
          | none => exact ⟨by simp [tsum], toksOk_nil⟩
          | some x =>
            obtain ⟨ts, r2⟩ := x
            obtain ⟨g1, g2⟩ := markupM_bulk _ _ _ hm
            obtain ⟨g3, g4⟩ := ih r2
            refine ⟨?_, toksOk_append g2 g4⟩
            show tsum (ts ++ allN n r2) ≤ _
            rw [tsum_append]; omega
      exact ⟨by omega, toksOk_append h2.2 h3.2⟩

/-- Tokens are no longer than their text; attributes' names are small and not empty. -/
theorem allM_bulk (l : Bytes) : tsum (allM l) ≤ l.length ∧ toksOk (allM l) := allN_bulk _ l

theorem attrs_len {l : List TAttr} (h : attrsOk l) : l.length ≤ asum l := by
  induction l with
  | nil => simp
  | cons a l ih =>
    have h1 := (h a (by simp)).1
    have h2 := ih (fun x hx => h x (by simp [hx]))
    have e : asum (a :: l) = abulk a + asum l := rfl
    rw [e]
    simp [abulk]; omega

/-- What a token of a text is bounded by. -/
structure TokLe (m : Nat) (t : TTok) : Prop where
  name : t.name.length ≤ m
  text : t.text.length ≤ m
  count : t.attrs.length ≤ m
  attrs : ∀ a ∈ t.attrs, a.name.length ≤ m ∧ a.value.length ≤ m
theorem allM_le (l : Bytes) (t : TTok) (h : t ∈ allM l) : TokLe l.length t := by
  obtain ⟨h1, h2⟩ := allM_bulk l
  have h3 := tsum_mem _ _ h
  have h4 := attrs_len (h2 t h)
  have h5 : bulk t = t.name.length + t.text.length + asum t.attrs := rfl
  refine ⟨by omega, by omega, by omega, fun a ha => ?_⟩
  have h6 := asum_mem _ _ ha
  have h7 : abulk a = a.name.length + a.value.length := rfl
  exact ⟨by omega, by omega⟩

end Go.Proofs.YtjkgmdnkejjppaaGreatDoor
/- Plain laws of the tokenizer's model: text without signs. -/
namespace Go.Proofs.YtjkgmdnkejjppaaGreatDoor

theorem unescN_plain : ∀ (n : Nat) (l : Bytes), l.length ≤ n → (∀ c ∈ l, c ≠ 38) → unescN n l = l
  | 0, l, h, _ => by
    have : l = [] := List.eq_nil_of_length_eq_zero (by omega)
    subst this; rfl
  | n + 1, [], _, _ => rfl
  | n + 1, c :: r, h, hc => by
    have h1 : c ≠ 38 := hc c (by simp)
    have h2 := unescN_plain n r (by simpa using h) (fun x hx => hc x (by simp [hx]))
    show (if c = 38 ∧ (brk [59] r).length < r.length then _ else c :: unescN n r) = _
    rw [if_neg (fun h => h1 h.1), h2]
theorem unesc_plain (l : Bytes) (hc : ∀ c ∈ l, c ≠ 38) : unesc l = l := unescN_plain _ l (Nat.le_refl _) hc

theorem opensM_plain (l : Bytes) (hc : ∀ c ∈ l, c ≠ 60) : opensM l = false := by
  unfold opensM
  split
  · exact absurd rfl (hc 60 (by simp))
  · rfl
theorem textM_plain : ∀ l : Bytes, (∀ c ∈ l, c ≠ 60) → textM l = (l, [])
  | [], _ => rfl
  | c :: r, hc => by
    have h2 := textM_plain r (fun x hx => hc x (by simp [hx]))
    show (if opensM (c :: r) then _ else (c :: (textM r).1, (textM r).2)) = _
    rw [opensM_plain _ hc, if_neg (by decide), h2]

/-- Text without < and & is one token, or none. -/
theorem allM_plain (l : Bytes) (h1 : ∀ c ∈ l, c ≠ 60) (h2 : ∀ c ∈ l, c ≠ 38) : allM l = if l = [] then [] else [chars l] := by
  cases l with
  | nil => rfl
  | cons c r =>
    show textToks (textM (c :: r)).1 ++ (if (textM (c :: r)).2 = [] then [] else _) = _
    rw [textM_plain _ h1]
    simp only [if_pos]
    rw [List.append_nil]
    unfold textToks
    rw [unesc_plain _ h2]

end Go.Proofs.YtjkgmdnkejjppaaGreatDoor
/- Plain laws of the tokenizer's model: text by text; behind markup that ends the rest is read by itself. -/
namespace Go.Proofs.YtjkgmdnkejjppaaGreatDoor

theorem MarkOk.less {X : Bytes} {ts : List TTok} {r2 : Bytes} (h : MarkOk X ts r2) : r2.length < X.length := by
  cases h with
  | one t _ hk ht h =>
    rcases h with h | ⟨rfl, h⟩
    · omega
    · simp; omega
  | raw t x _ hk ht hx ho h => omega

theorem allN_fuel : ∀ (k n m : Nat) (l : Bytes), l.length ≤ k → l.length < n → l.length < m → allN n l = allN m l := by
  intro k
  induction k with
  | zero =>
    intro n m l h hn hm
    have : l = [] := List.eq_nil_of_length_eq_zero (by omega)
    subst this
    cases n <;> cases m <;> rfl
  | succ k ih =>
    intro n m l h hn hm
    cases l with
    | nil => cases n <;> cases m <;> rfl
    | cons c r =>
      obtain ⟨n, rfl⟩ : ∃ j, n = j + 1 := ⟨n - 1, by omega⟩
      obtain ⟨m, rfl⟩ : ∃ j, m = j + 1 := ⟨m - 1, by omega⟩
      obtain ⟨h1, h2⟩ := textM_ok (c :: r)
      unfold allN
      split
      · rfl
      · rename_i hne
        have ho := h2.resolve_left hne
        cases hm : markupM (textM (c :: r)).2 with
        | none => rfl
        | some x =>
          obtain ⟨ts, r2⟩ := x
          have hl := (markupM_ok _ _ _ ho hm).less
          simp only
          rw [ih n m r2 (by omega) (by omega) (by omega)]
theorem allN_eq (n : Nat) (l : Bytes) (h : l.length < n) : allN n l = allM l := allN_fuel l.length n (l.length + 1) l (Nat.le_refl _) h (by omega)

theorem allM_markup (X : Bytes) (ts : List TTok) (r2 : Bytes) (ho : opensM X = true) (h : markupM X = some (ts, r2)) : allM X = ts ++ allM r2 := by
  have hl := (markupM_ok _ _ _ ho h).less
  cases X with
  | nil => cases ho
  | cons c r =>
    show textToks (textM (c :: r)).1 ++ (if (textM (c :: r)).2 = [] then [] else match markupM (textM (c :: r)).2 with
      | none => []
      | some (l, r2) => l ++ allN (c :: r).length r2) = _
    rw [textM_opens _ ho]
    simp only [textToks_nil, List.nil_append, h]
    rw [if_neg (by simp), allN_eq _ _ hl]
theorem allM_none (X : Bytes) (ho : opensM X = true) (h : markupM X = none) : allM X = [] := by
  cases X with
  | nil => cases ho
  | cons c r =>
    show textToks (textM (c :: r)).1 ++ (if (textM (c :: r)).2 = [] then [] else match markupM (textM (c :: r)).2 with
      | none => []
      | some (l, r2) => l ++ allN (c :: r).length r2) = _
    rw [textM_opens _ ho]
    simp only [textToks_nil, List.nil_append, h]
    rw [if_neg (by simp)]
theorem allM_nil : allM [] = [] := rfl
/-- A text, then what begins with markup. -/
theorem allM_split (X : Bytes) : allM X = textToks (textM X).1 ++ allM (textM X).2 := by
  cases X with
  | nil => rfl
  | cons c r =>
    obtain ⟨h1, h2⟩ := textM_ok (c :: r)
    show textToks (textM (c :: r)).1 ++ (if (textM (c :: r)).2 = [] then [] else match markupM (textM (c :: r)).2 with
      | none => []
      | some (l, r2) => l ++ allN (c :: r).length r2) = _
    congr 1
    split
    · rename_i h; rw [h]; rfl
    · rename_i hne
      have ho := h2.resolve_left hne
      cases hm : markupM (textM (c :: r)).2 with
      | none => rw [allM_none _ ho hm]
      | some x =>
        obtain ⟨ts, r2⟩ := x
        have hl := (markupM_ok _ _ _ ho hm).less
        rw [allM_markup _ _ _ ho hm]
        simp only
        rw [allN_eq _ _ (by omega)]

theorem opensM_head (c : UInt8) (r : Bytes) (h : c ≠ 60) : opensM (c :: r) = false := by
  unfold opensM
  split
  · rename_i he; exact absurd (by injection he) h
  · rfl
theorem textM_plain_append (u X : Bytes) (hu : ∀ c ∈ u, c ≠ 60) : textM (u ++ X) = (u ++ (textM X).1, (textM X).2) := by
  induction u with
  | nil => rfl
  | cons c u ih =>
    have h1 := opensM_head c (u ++ X) (hu c (by simp))
    have h2 := ih (fun x hx => hu x (by simp [hx]))
    show (if opensM (c :: (u ++ X)) then _ else (c :: (textM (u ++ X)).1, (textM (u ++ X)).2)) = _
    rw [h1, if_neg (by decide), h2]
    rfl
theorem allM_text (u X : Bytes) (hu : ∀ c ∈ u, c ≠ 60) (ho : opensM X = true) : allM (u ++ X) = textToks u ++ allM X := by
  rw [allM_split, textM_plain_append u X hu, textM_opens X ho]
  simp

/-- Markup that ends where it ends. -/
def Whole1 (m : Bytes) : Prop := ∃ t, ∀ X, opensM (m ++ X) = true ∧ markupM (m ++ X) = some ([t], X)
theorem whole_p : Whole1 [60, 112, 62] := ⟨⟨1, [112], [], false, []⟩, fun _ => ⟨rfl, rfl⟩⟩
theorem whole_p' : Whole1 [60, 47, 112, 62] := ⟨⟨2, [112], [], false, []⟩, fun _ => ⟨rfl, rfl⟩⟩
theorem whole_i : Whole1 [60, 105, 32, 97, 61, 98, 62] := ⟨⟨1, [105], [⟨[97], [98]⟩], false, []⟩, fun _ => ⟨rfl, rfl⟩⟩
theorem whole_c : Whole1 [60, 33, 45, 45, 120, 45, 45, 62] := ⟨⟨4, [], [], false, [120]⟩, fun _ => ⟨rfl, rfl⟩⟩
theorem whole_b : Whole1 [60, 98, 62] := ⟨⟨1, [98], [], false, []⟩, fun _ => ⟨rfl, rfl⟩⟩

def NoLt (u : Bytes) : Prop := ∀ c ∈ u, c ≠ 60
theorem part_kinds : ∀ p ∈ partPieces, NoLt p ∨ Whole1 p := by
  intro p hp
  unfold partPieces at hp
  simp only [List.mem_cons, List.not_mem_nil, or_false] at hp
  rcases hp with rfl | rfl | rfl | rfl | rfl | rfl
  · exact .inl (by unfold NoLt; decide)
  · exact .inr whole_p
  · exact .inr whole_p'
  · exact .inr whole_i
  · exact .inr whole_c
  · exact .inl (by unfold NoLt; decide)

theorem parts_law (ps : List Bytes) (hps : ∀ p ∈ ps, NoLt p ∨ Whole1 p) (m : Bytes) (hm : Whole1 m) : ∀ u, NoLt u → ∃ ts, ∀ b, allM (u ++ (ps.flatten ++ (m ++ b))) = ts ++ allM b := by
  induction ps with
  | nil =>
    intro u hu
    obtain ⟨t, ht⟩ := hm
    refine ⟨textToks u ++ [t], fun b => ?_⟩
    obtain ⟨h1, h2⟩ := ht b
    rw [List.flatten_nil, List.nil_append, allM_text u _ hu h1, allM_markup _ _ _ h1 h2, List.append_assoc]
  | cons p ps ih =>
    intro u hu
    have ih' := ih (fun q hq => hps q (by simp [hq]))
    rcases hps p (by simp) with hp | ⟨t, ht⟩
    · obtain ⟨ts, h⟩ := ih' (u ++ p) (fun c hc => (List.mem_append.1 hc).elim (hu c) (hp c))
      refine ⟨ts, fun b => ?_⟩
      rw [← h b, List.flatten_cons]
      simp only [List.append_assoc]
    · obtain ⟨ts, h⟩ := ih' [] (fun c hc => by cases hc)
      refine ⟨textToks u ++ ([t] ++ ts), fun b => ?_⟩
      have hb := h b
      rw [List.nil_append] at hb
      obtain ⟨h1, h2⟩ := ht (ps.flatten ++ (m ++ b))
      rw [List.flatten_cons, List.append_assoc, allM_text u _ hu h1, allM_markup _ _ _ h1 h2, hb]
      simp only [List.append_assoc]

/-- What TokParts asks. -/
theorem tokParts_law (l : List Int) (b : Bytes) : allM (drawn partPieces l ++ [60, 98, 62] ++ b) = allM (drawn partPieces l ++ [60, 98, 62]) ++ allM b := by
  have hps : ∀ p ∈ l.map (fun x : Int => partPieces.getD (x % (partPieces.length : Int)).toNat []), NoLt p ∨ Whole1 p := by
    intro p hp
    obtain ⟨x, _, rfl⟩ := List.mem_map.1 hp
    obtain ⟨q, hq, hg, _⟩ := drawn_get partPieces (by decide) x
    rw [hg]
    exact part_kinds q (List.mem_of_getElem? hq)
  obtain ⟨ts, h⟩ := parts_law _ hps [60, 98, 62] whole_b [] (fun c hc => by cases hc)
  have h1 := h b
  have h2 := h []
  rw [List.nil_append] at h1 h2
  rw [List.append_nil, allM_nil, List.append_nil] at h2
  rw [List.append_assoc]
  unfold drawn
  rw [h1, h2]

end Go.Proofs.YtjkgmdnkejjppaaGreatDoor
/- Plain laws of the tokenizer's model: what comes later changes nothing but the last token. -/
namespace Go.Proofs.YtjkgmdnkejjppaaGreatDoor

theorem dropWhile_ext {p : UInt8 → Bool} : ∀ (l q : Bytes), l.dropWhile p ≠ [] → (l ++ q).dropWhile p = l.dropWhile p ++ q ∧ (l ++ q).takeWhile p = l.takeWhile p := by
  intro l q
  induction l with
  | nil => intro h; exact absurd rfl h
  | cons c r ih =>
    intro h
    rw [List.dropWhile_cons] at h
    rw [List.cons_append, List.dropWhile_cons, List.dropWhile_cons, List.takeWhile_cons, List.takeWhile_cons]
    split
    · rename_i hp
      rw [if_pos hp] at h
      obtain ⟨h1, h2⟩ := ih h
      exact ⟨h1, by rw [h2]⟩
    · exact ⟨rfl, rfl⟩
theorem skp_ext (c l q : Bytes) (h : skp c l ≠ []) : skp c (l ++ q) = skp c l ++ q ∧ skd c (l ++ q) = skd c l := dropWhile_ext l q h
theorem brk_ext (c l q : Bytes) (h : brkR c l ≠ []) : brkR c (l ++ q) = brkR c l ++ q ∧ brk c (l ++ q) = brk c l := dropWhile_ext l q h

theorem opensM_cons2 (c0 c : UInt8) (r : Bytes) : opensM (c0 :: c :: r) = (c0 == 60 && (isLet c || c == 33 || c == 63 || (c == 47 && !r.isEmpty))) := by
  by_cases h : c0 = 60
  · subst h; rfl
  · have : (c0 == 60) = false := beq_eq_false_iff_ne.2 h
    rw [this, Bool.false_and]
    exact opensM_head _ _ h
theorem opensM_two (l : Bytes) (h : opensM l = true) : 2 ≤ l.length := by
  match l, h with
  | [], h => cases h
  | [c], h => exfalso; unfold opensM at h; split at h <;> simp_all
  | _ :: _ :: _, _ => simp
theorem opensM_ext (l q : Bytes) (h : opensM l = true) : opensM (l ++ q) = true := by
  match l, h with
  | [], h => cases h
  | [c], h => exfalso; unfold opensM at h; split at h <;> simp_all
  | a :: c :: r, h =>
    rw [List.cons_append, List.cons_append, opensM_cons2]
    rw [opensM_cons2] at h
    cases r with
    | nil => simp at h ⊢; rcases h with ⟨h1, h2⟩; exact ⟨h1, .inl h2⟩
    | cons x y => exact h
theorem opensM_long (l q : Bytes) (h : 3 ≤ l.length) : opensM (l ++ q) = opensM l := by
  match l, h with
  | [], h => simp at h
  | [_], h => simp at h
  | [_, _], h => simp at h
  | a :: c :: x :: r, _ => rw [List.cons_append, List.cons_append, opensM_cons2, opensM_cons2]; rfl

theorem textM_ext (p q : Bytes) (h : (textM p).2 ≠ []) : textM (p ++ q) = ((textM p).1, (textM p).2 ++ q) := by
  induction p with
  | nil => exact absurd rfl h
  | cons c r ih =>
    by_cases ho : opensM (c :: r) = true
    · rw [textM_opens _ ho, textM_opens _ (opensM_ext _ q ho)]
    · have e : textM (c :: r) = (c :: (textM r).1, (textM r).2) := by
        show (if opensM (c :: r) then _ else _) = _
        rw [if_neg ho]
      rw [e] at h ⊢
      obtain ⟨h1, h2⟩ := textM_ok r
      have h3 := opensM_two _ (h2.resolve_left h)
      have ho2 : opensM (c :: r ++ q) = false := by
        rw [opensM_long _ _ (by simp; omega)]
        simpa using ho
      show (if opensM (c :: r ++ q) then _ else (c :: (textM (r ++ q)).1, (textM (r ++ q)).2)) = _
      rw [ho2, ih h]
      rfl

theorem valueM_ext (r q : Bytes) (hok : (valueM r).2.1 = true) (h : (valueM r).2.2 ≠ []) : valueM (r ++ q) = ((valueM r).1, true, (valueM r).2.2 ++ q) := by
  unfold valueM at *
  by_cases hs : skp spaces r = []
  · rw [hs] at h; exact absurd rfl h
  · rw [(skp_ext spaces r q hs).1]
    generalize skp spaces r = s at *
    cases s with
    | nil => exact absurd rfl hs
    | cons x r2 =>
      rw [List.cons_append]
      unfold valueT at *
      simp only at *
      split
      · rename_i hx
        rw [if_pos hx] at hok h
        cases hb : brkR [x] r2 with
        | nil => rw [hb] at hok; cases hok
        | cons y r3 =>
          have hne : brkR [x] r2 ≠ [] := by rw [hb]; simp
          obtain ⟨k1, k2⟩ := brk_ext [x] r2 q hne
          rw [k1, k2, hb]
          rfl
      · rename_i hx
        rw [if_neg hx] at h
        obtain ⟨k1, k2⟩ := brk_ext (spaces ++ [62]) (x :: r2) q h
        rw [List.cons_append] at k1 k2
        rw [k1, k2]

theorem dropWhile_mono {p q : UInt8 → Bool} (h : ∀ x, p x = true → q x = true) : ∀ l : Bytes, l.dropWhile p = [] → l.dropWhile q = [] := by
  intro l
  induction l with
  | nil => intro _; rfl
  | cons c r ih =>
    intro hd
    rw [List.dropWhile_cons] at hd ⊢
    split at hd
    · rename_i hp
      rw [if_pos (h c hp)]
      exact ih hd
    · cases hd
theorem skp_sub (B : Bytes) (h : skp spaces B = []) : skp tagGap B = [] := by
  refine dropWhile_mono (fun x hx => ?_) B h
  simp only [tagGap, List.contains_eq_mem, decide_eq_true_eq, List.mem_append] at *
  exact .inl hx

theorem attrM_ext (c : UInt8) (r1 q : Bytes) (hok : (attrM (c :: r1)).2.1 = true) (h : skp tagGap (attrM (c :: r1)).2.2 ≠ []) :
    attrM (c :: (r1 ++ q)) = ((attrM (c :: r1)).1, true, (attrM (c :: r1)).2.2 ++ q) := by
  unfold attrM at *
  simp only at *
  by_cases hB : brkR attrEnd r1 = []
  · exfalso
    rw [hB] at h
    exact h rfl
  · obtain ⟨k1, k2⟩ := brk_ext attrEnd r1 q hB
    rw [k1, k2]
    by_cases hs : skp spaces (brkR attrEnd r1) = []
    · exfalso
      rw [hs] at h
      exact h (skp_sub _ hs)
    · rw [(skp_ext spaces _ q hs).1]
      cases he : skp spaces (brkR attrEnd r1) with
      | nil => exact absurd he hs
      | cons e r4 =>
        rw [he] at hok h
        rw [List.cons_append]
        simp only at hok h ⊢
        split
        · rename_i h61
          rw [if_pos h61] at hok h
          simp only at hok h
          have hne : (valueM r4).2.2 ≠ [] := by intro h0; rw [h0] at h; exact h rfl
          rw [valueM_ext r4 q hok hne]
        · rfl

theorem tagLoop_ext (q : Bytes) : ∀ (n : Nat) (r : Bytes) (l l' : List TAttr) (s : Bool) (r2 : Bytes), tagLoop n r l = some (l', s, r2) → ∀ m, n ≤ m → tagLoop m (r ++ q) l = some (l', s, r2 ++ q) := by
  intro n
  induction n with
  | zero => intro r l l' s r2 h; cases h
  | succ n ih =>
    intro r l l' s r2 h m hm
    obtain ⟨m, rfl⟩ : ∃ j, m = j + 1 := ⟨m - 1, by omega⟩
    unfold tagLoop at h ⊢
    cases hs : skp tagGap r with
    | nil => rw [hs] at h; cases h
    | cons c r3 =>
      have hne : skp tagGap r ≠ [] := by rw [hs]; simp
      obtain ⟨k1, k2⟩ := skp_ext tagGap r q hne
      rw [k1, k2, hs]
      rw [hs] at h
      simp only [List.cons_append] at h ⊢
      split at h
      · rename_i h62
        rw [if_pos h62]
        cases h
        rfl
      · rename_i h62
        rw [if_neg h62]
        split at h
        · rename_i hok
          have hg : skp tagGap (attrM (c :: r3)).2.2 ≠ [] := by
            intro h0
            cases n with
            | zero => cases h
            | succ n => unfold tagLoop at h; rw [h0] at h; cases h
          rw [attrM_ext c r3 q hok hg]
          simp only [if_true]
          exact ih _ _ _ _ _ h m (by omega)
        · cases h

theorem tagM_ext (kind : Int) (r q : Bytes) (t : TTok) (r2 : Bytes) (h : tagM kind r = some (t, r2)) : tagM kind (r ++ q) = some (t, r2 ++ q) := by
  unfold tagM at *
  by_cases hB : brkR nameEnd r = []
  · rw [hB] at h
    cases hl : r.length + 1 with
    | zero => omega
    | succ n => rw [hl] at h; cases h
  · obtain ⟨k1, k2⟩ := brk_ext nameEnd r q hB
    rw [k1, k2]
    cases hl : tagLoop (r.length + 1) (brkR nameEnd r) [] with
    | none => rw [hl] at h; cases h
    | some x =>
      obtain ⟨l, s, r3⟩ := x
      rw [tagLoop_ext q _ _ _ _ _ _ hl ((r ++ q).length + 1) (by simp)]
      rw [hl] at h
      unfold tagOf at *
      simp only [Option.some.injEq, Prod.mk.injEq] at h ⊢
      exact ⟨h.1, by rw [h.2]⟩

theorem upToM_ext (e l q : Bytes) (h : (upToM e l).2 ≠ []) : upToM e (l ++ q) = ((upToM e l).1, (upToM e l).2 ++ q) := by
  induction l with
  | nil => exact absurd rfl h
  | cons c r ih =>
    by_cases hp : e.isPrefixOf (c :: r) = true
    · have hp2 := List.isPrefixOf_iff_prefix.1 hp
      have hp3 : e.isPrefixOf (c :: r ++ q) = true := List.isPrefixOf_iff_prefix.2 (List.IsPrefix.trans hp2 (List.prefix_append _ _))
      have e1 : upToM e (c :: r) = ([], (c :: r).drop e.length) := by unfold upToM; rw [if_pos hp]
      have e2 : upToM e (c :: r ++ q) = ([], (c :: r ++ q).drop e.length) := by
        show (if e.isPrefixOf (c :: r ++ q) then _ else _) = _
        rw [if_pos hp3]; rfl
      rw [e1, e2, List.drop_append_of_le_length hp2.length_le]
    · have e1 : upToM e (c :: r) = (c :: (upToM e r).1, (upToM e r).2) := by
        show (if e.isPrefixOf (c :: r) then _ else _) = _
        rw [if_neg hp]
      rw [e1] at h ⊢
      have hlen := (upToM_le e r).resolve_left h
      have hp3 : ¬ e.isPrefixOf (c :: r ++ q) = true := by
        intro hq
        apply hp
        rw [List.isPrefixOf_iff_prefix] at hq ⊢
        exact List.prefix_of_prefix_length_le hq (List.prefix_append _ _) (by simp; omega)
      show (if e.isPrefixOf (c :: (r ++ q)) then _ else (c :: (upToM e (r ++ q)).1, (upToM e (r ++ q)).2)) = _
      rw [show (c :: (r ++ q)) = c :: r ++ q from rfl, if_neg hp3, ih h]

theorem rawStop_ext (n S q : Bytes) (h : n.length + 3 ≤ S.length) : rawStop n (S ++ q) = rawStop n S := by
  match S, h with
  | [], h => simp at h
  | [_], h => simp at h
  | a :: b :: r, h =>
    by_cases hab : a = 60 ∧ b = 47
    · obtain ⟨rfl, rfl⟩ := hab
      show (small ((r ++ q).take n.length) == n && hd nameEnd ((r ++ q).drop n.length)) = (small (r.take n.length) == n && hd nameEnd (r.drop n.length))
      have hr : n.length + 1 ≤ r.length := by simp at h; omega
      rw [List.take_append_of_le_length (by omega), List.drop_append_of_le_length (by omega)]
      cases hd1 : r.drop n.length with
      | nil => have := congrArg List.length hd1; simp at this; omega
      | cons x y => rfl
    · have f : ∀ r', rawStop n (a :: b :: r') = false := by
        intro r'
        unfold rawStop
        split
        · rename_i he
          injection he with h1 h2
          injection h2 with h2 _
          exact absurd ⟨h1, h2⟩ hab
        · rfl
      rw [List.cons_append, List.cons_append, f, f]
theorem rawStop_len (n S : Bytes) (h : rawStop n S = true) : n.length + 3 ≤ S.length := by
  unfold rawStop at h
  split at h
  · rename_i r
    simp only [Bool.and_eq_true] at h
    have h2 := h.2
    cases hd1 : r.drop n.length with
    | nil => rw [hd1] at h2; cases h2
    | cons x y =>
      have := congrArg List.length hd1
      simp at this ⊢; omega
  · cases h
theorem rawM_ext (n l q : Bytes) (h : (rawM n l).2 ≠ []) : rawM n (l ++ q) = ((rawM n l).1, (rawM n l).2 ++ q) := by
  induction l with
  | nil => exact absurd rfl h
  | cons c r ih =>
    by_cases hs : rawStop n (c :: r) = true
    · have e1 : rawM n (c :: r) = ([], c :: r) := by unfold rawM; rw [if_pos hs]
      have hs2 : rawStop n (c :: r ++ q) = true := by rw [rawStop_ext n _ q (rawStop_len n _ hs)]; exact hs
      rw [e1]
      show (if rawStop n (c :: r ++ q) then _ else _) = _
      rw [if_pos hs2]
      rfl
    · have e1 : rawM n (c :: r) = (c :: (rawM n r).1, (rawM n r).2) := by
        show (if rawStop n (c :: r) then _ else _) = _
        rw [if_neg hs]
      rw [e1] at h ⊢
      obtain ⟨g1, g2⟩ := rawM_le n r
      have hl := rawStop_len n _ (g2.resolve_left h)
      have hs2 : ¬ rawStop n (c :: r ++ q) = true := by rw [rawStop_ext n _ q (by simp; omega)]; exact hs
      show (if rawStop n (c :: r ++ q) then _ else (c :: (rawM n (r ++ q)).1, (rawM n (r ++ q)).2)) = _
      rw [if_neg hs2, ih h]

theorem markupM_bang2 (r : Bytes) (h : ∀ r', r ≠ 45 :: 45 :: r') : markupM (60 :: 33 :: r) = some ([comment (upToM [62] r).1], (upToM [62] r).2) := by
  unfold markupM
  split
  · rename_i he
    injection he with _ he
    injection he with _ he
    exact absurd he (h _)
  · rename_i r' _ he
    injection he with _ he
    injection he with _ he
    subst he
    rfl
  · rename_i he; injection he with _ he; injection he with he _; exact absurd he (by decide)
  · rename_i he; injection he with _ he; injection he with he _; exact absurd he (by decide)
  · rename_i r' n1 n2 n3 n4 he
    injection he with _ he
    exact absurd he.symm (n2 r)
  · rename_i n; exact absurd rfl (n (33 :: r))

theorem markupM_tag2 (c : UInt8) (r : Bytes) (h : isLet c = true) : markupM (60 :: c :: r) = (tagM 1 (c :: r)).map fun x => if isRaw x.1.name then (x.1 :: rawToks x.1.name (rawM x.1.name x.2).1, (rawM x.1.name x.2).2) else ([x.1], x.2) := by
  have h33 : c ≠ 33 := by rintro rfl; cases h
  have h63 : c ≠ 63 := by rintro rfl; cases h
  have h47 : c ≠ 47 := by rintro rfl; cases h
  unfold markupM
  split
  · rename_i he; injection he with _ he; injection he with he _; exact absurd he h33
  · rename_i he; injection he with _ he; injection he with he _; exact absurd he h33
  · rename_i he; injection he with _ he; injection he with he _; exact absurd he h63
  · rename_i he; injection he with _ he; injection he with he _; exact absurd he h47
  · rename_i r' _ _ _ _ he
    injection he with _ he
    subst he
    rfl
  · rename_i n; exact absurd rfl (n (c :: r))

/-- The ways that markup begins. -/
theorem opens_ways (X : Bytes) (h : opensM X = true) : (∃ r, X = 60 :: 33 :: r) ∨ (∃ r, X = 60 :: 63 :: r) ∨ (∃ c r, X = 60 :: 47 :: c :: r) ∨ ∃ c r, X = 60 :: c :: r ∧ isLet c = true := by
  match X, h with
  | [], h => cases h
  | [c], h => exfalso; unfold opensM at h; split at h <;> simp_all
  | a :: c :: r, h =>
    rw [opensM_cons2] at h
    simp only [Bool.and_eq_true, beq_iff_eq, Bool.or_eq_true] at h
    obtain ⟨rfl, h⟩ := h
    rcases h with ((h | rfl) | rfl) | ⟨rfl, h⟩
    · exact .inr (.inr (.inr ⟨c, r, rfl, h⟩))
    · exact .inl ⟨r, rfl⟩
    · exact .inr (.inl ⟨r, rfl⟩)
    · cases r with
      | nil => simp at h
      | cons x y => exact .inr (.inr (.inl ⟨x, y, rfl⟩))

/-- Markup that ends ahead of the end is the same in whatever goes on. -/
theorem markupM_ext (X q : Bytes) (ts : List TTok) (r2 : Bytes) (ho : opensM X = true) (h : markupM X = some (ts, r2)) (hr : r2 ≠ []) : markupM (X ++ q) = some (ts, r2 ++ q) := by
  rcases opens_ways X ho with ⟨r, rfl⟩ | ⟨r, rfl⟩ | ⟨c, r, rfl⟩ | ⟨c, r, rfl, hc⟩
  · by_cases hd : ∃ r', r = 45 :: 45 :: r'
    · obtain ⟨r', rfl⟩ := hd
      have e : markupM (60 :: 33 :: 45 :: 45 :: r') = some ([comment (upToM [45, 45, 62] r').1], (upToM [45, 45, 62] r').2) := rfl
      rw [e] at h
      cases h
      show some ([comment (upToM [45, 45, 62] (r' ++ q)).1], (upToM [45, 45, 62] (r' ++ q)).2) = _
      rw [upToM_ext _ _ _ hr]
    · rw [markupM_bang2 r (fun r' he => hd ⟨r', he⟩)] at h
      cases h
      have hl := (upToM_le [62] r).resolve_left hr
      have h2 : 1 ≤ (upToM [62] r).2.length := by
        cases hu : (upToM [62] r).2 with
        | nil => exact absurd hu hr
        | cons => simp
      have hne : ∀ r', r ++ q ≠ 45 :: 45 :: r' := by
        intro r' he
        have hr2 : 2 ≤ r.length := by have : [(62 : UInt8)].length = 1 := rfl; omega
        match r, hr2, hd, he with
        | [], hr2, _, _ => simp at hr2
        | [x], hr2, _, _ => simp at hr2
        | a :: b :: r3, _, hd, he =>
          rw [List.cons_append, List.cons_append] at he
          injection he with ha he
          injection he with hb _
          exact hd ⟨r3, by rw [ha, hb]⟩
      show markupM (60 :: 33 :: (r ++ q)) = _
      rw [markupM_bang2 _ hne, upToM_ext _ _ _ hr]
  · have e : markupM (60 :: 63 :: r) = some ([comment (upToM [62] (63 :: r)).1], (upToM [62] (63 :: r)).2) := rfl
    rw [e] at h
    cases h
    show some ([comment (upToM [62] ((63 :: r) ++ q)).1], (upToM [62] ((63 :: r) ++ q)).2) = _
    rw [upToM_ext _ _ _ hr]
  · have e : ∀ r, markupM (60 :: 47 :: c :: r) = if isLet c then (tagM 2 (c :: r)).map fun x => ([x.1], x.2) else some ([comment (upToM [62] (c :: r)).1], (upToM [62] (c :: r)).2) := fun _ => rfl
    rw [e] at h
    show markupM (60 :: 47 :: c :: (r ++ q)) = _
    rw [e]
    split
    · rename_i hc
      rw [if_pos hc] at h
      cases ht : tagM 2 (c :: r) with
      | none => rw [ht] at h; cases h
      | some x =>
        obtain ⟨t, r3⟩ := x
        rw [ht] at h
        cases h
        have := tagM_ext 2 (c :: r) q _ _ ht
        rw [List.cons_append] at this
        rw [this]
        rfl
    · rename_i hc
      rw [if_neg hc] at h
      cases h
      rw [show c :: (r ++ q) = c :: r ++ q from rfl, upToM_ext _ _ _ hr]
  · rw [markupM_tag2 c r hc] at h
    show markupM (60 :: c :: (r ++ q)) = _
    rw [markupM_tag2 c _ hc]
    cases ht : tagM 1 (c :: r) with
    | none => rw [ht] at h; cases h
    | some x =>
      obtain ⟨t, r3⟩ := x
      rw [ht] at h
      have := tagM_ext 1 (c :: r) q _ _ ht
      rw [List.cons_append] at this
      rw [this]
      simp only [Option.map_some] at h ⊢
      split
      · rename_i hraw
        rw [if_pos hraw] at h
        cases h
        rw [rawM_ext _ _ _ hr]
      · rename_i hraw
        rw [if_neg hraw] at h
        cases h
        rfl

/-- The first token of markup of two tokens stays, whatever comes. -/
theorem markupM_first (X q : Bytes) (t u : TTok) (r2 : Bytes) (ho : opensM X = true) (h : markupM X = some ([t, u], r2)) : ∃ ts r3, markupM (X ++ q) = some (t :: ts, r3) := by
  rcases opens_ways X ho with ⟨r, rfl⟩ | ⟨r, rfl⟩ | ⟨c, r, rfl⟩ | ⟨c, r, rfl, hc⟩
  · exfalso
    by_cases hd : ∃ r', r = 45 :: 45 :: r'
    · obtain ⟨r', rfl⟩ := hd
      have e : markupM (60 :: 33 :: 45 :: 45 :: r') = some ([comment (upToM [45, 45, 62] r').1], (upToM [45, 45, 62] r').2) := rfl
      rw [e] at h; cases h
    · rw [markupM_bang2 r (fun r' he => hd ⟨r', he⟩)] at h; cases h
  · exfalso
    have e : markupM (60 :: 63 :: r) = some ([comment (upToM [62] (63 :: r)).1], (upToM [62] (63 :: r)).2) := rfl
    rw [e] at h; cases h
  · exfalso
    have e : markupM (60 :: 47 :: c :: r) = if isLet c then (tagM 2 (c :: r)).map fun x => ([x.1], x.2) else some ([comment (upToM [62] (c :: r)).1], (upToM [62] (c :: r)).2) := rfl
    rw [e] at h
    split at h
    · cases ht : tagM 2 (c :: r) with
      | none => rw [ht] at h; cases h
      | some x => rw [ht] at h; cases h
    · cases h
  · rw [markupM_tag2 c r hc] at h
    cases ht : tagM 1 (c :: r) with
    | none => rw [ht] at h; cases h
    | some x =>
      obtain ⟨t', r3⟩ := x
      rw [ht] at h
      have := tagM_ext 1 (c :: r) q _ _ ht
      rw [List.cons_append] at this
      show ∃ ts r3, markupM (60 :: c :: (r ++ q)) = _
      rw [markupM_tag2 c _ hc, this]
      simp only [Option.map_some] at h ⊢
      split at h
      · rename_i hraw
        rw [if_pos hraw]
        simp only [Option.some.injEq, Prod.mk.injEq, List.cons.injEq] at h
        obtain ⟨⟨rfl, _⟩, _⟩ := h
        exact ⟨_, _, rfl⟩
      · cases h

def Pre (x y : List TTok) : Prop := ∃ z, y = x.dropLast ++ z
theorem Pre.nil (y : List TTok) : Pre [] y := ⟨y, rfl⟩
theorem Pre.one (t : TTok) (y : List TTok) : Pre [t] y := ⟨y, rfl⟩
theorem Pre.append (a : List TTok) {x y : List TTok} (h : Pre x y) : Pre (a ++ x) (a ++ y) := by
  obtain ⟨z, rfl⟩ := h
  by_cases hx : x = []
  · subst hx
    rw [List.append_nil]
    rcases List.eq_nil_or_concat a with rfl | ⟨b, t, rfl⟩
    · exact ⟨z, rfl⟩
    · exact ⟨[t] ++ z, by simp [List.concat_eq_append]⟩
  · exact ⟨z, by rw [List.dropLast_append_of_ne_nil hx, List.append_assoc]⟩

theorem prefix_opens : ∀ (k : Nat) (p q : Bytes), p.length ≤ k → Pre (allM p) (allM (p ++ q)) := by
  intro k
  induction k with
  | zero =>
    intro p q h
    have : p = [] := List.eq_nil_of_length_eq_zero (by omega)
    subst this
    exact Pre.nil _
  | succ k ih =>
    intro p q h
    obtain ⟨h1, h2⟩ := textM_ok p
    by_cases hR : (textM p).2 = []
    · rw [allM_split p, hR, allM_nil, List.append_nil]
      unfold textToks
      split
      · exact Pre.nil _
      · exact Pre.one _ _
    · have ho := h2.resolve_left hR
      rw [allM_split p, allM_split (p ++ q), textM_ext p q hR]
      refine Pre.append _ ?_
      simp only
      generalize (textM p).2 = X at *
      cases hm : markupM X with
      | none => rw [allM_none X ho hm]; exact Pre.nil _
      | some x =>
        obtain ⟨ts, r2⟩ := x
        have hok := markupM_ok _ _ _ ho hm
        rw [allM_markup X ts r2 ho hm]
        by_cases hr : r2 = []
        · subst hr
          rw [allM_nil, List.append_nil]
          cases hok with
          | one t _ _ _ _ => exact Pre.one _ _
          | raw t x _ _ _ _ _ _ =>
            obtain ⟨ts, r3, h3⟩ := markupM_first X q _ _ _ ho hm
            rw [allM_markup _ _ _ (opensM_ext X q ho) h3]
            exact ⟨ts ++ allM r3, rfl⟩
        · rw [allM_markup _ _ _ (opensM_ext X q ho) (markupM_ext X q ts r2 ho hm hr)]
          exact Pre.append _ (ih r2 q (by have := hok.less; omega))

/-- What TokPrefix asks. -/
theorem tokPrefix_law (s : Bytes) (n : Nat) : ∃ z, allM s = (allM (s.take n)).dropLast ++ z := by
  have h := prefix_opens (s.take n).length (s.take n) (s.drop n) (Nat.le_refl _)
  rw [List.take_append_drop] at h
  exact h

end Go.Proofs.YtjkgmdnkejjppaaGreatDoor
/- What ref.Escape and the package emit compute; what is escaped, and what is written as tokens, is read back; names over the library's walk of runes. Nothing of the program here. -/
namespace Go.Proofs.YtjkgmdnkejjppaaGreatDoor
open Go

def escB (q : Bool) (c : UInt8) : Bytes := if c = 38 then [38, 97, 109, 112, 59] else if c = 60 then [38, 108, 116, 59] else if c = 62 then [38, 103, 116, 59] else if c = 34 ∧ q = true then [38, 113, 117, 111, 116, 59] else [c]
def escM (q : Bool) : Bytes → Bytes
  | [] => []
  | c :: r => escB q c ++ escM q r

def nameC (c : UInt8) : Bool := (97 ≤ c && c ≤ 122) || (48 ≤ c && c ≤ 57) || c == 45
def nameM : Bytes → Bool
  | [] => false
  | c :: r => decide ((c :: r).length ≤ 12) && (97 ≤ c && c ≤ 122) && (c :: r).all nameC

def attrText (a : TAttr) : Bytes := 32 :: a.name ++ 61 :: 34 :: escM true a.value ++ [34]
def attrTexts : List TAttr → Bytes
  | [] => []
  | a :: r => attrText a ++ attrTexts r
/-- A start tag behind its name. -/
def tagTail (l : List TAttr) (self : Bool) : Bytes := attrTexts l ++ ((if self then [47] else []) ++ [62])
def tagText (n : Bytes) (l : List TAttr) (self : Bool) : Bytes := 60 :: n ++ tagTail l self

/-- Is a name met twice? -/
def twiceM : List TAttr → Bool
  | [] => false
  | a :: r => r.any (fun b => b.name == a.name) || twiceM r
def attrsM (l : List TAttr) : Int := if l.any (fun a => !nameM a.name) then 5 else if 4 < l.length then 1 else if twiceM l then 8 else 0
def closedBy (n : Bytes) : List TTok → Bool
  | [] => false
  | t :: _ => t.kind == 2 && t.name == n
def oddM (t : TTok) (last : Int) (rest : List TTok) : Bool :=
  if t.kind = 1 then !(t.text == []) || (isRaw t.name && !closedBy t.name rest)
  else if t.kind = 2 then !t.attrs.isEmpty || t.self || !(t.text == [])
  else if t.kind = 3 then t.text == [] || !(t.name == []) || !t.attrs.isEmpty || t.self || last == 3
  else true
/-- What is refused of tokens behind a token of a kind. -/
def checkFrom : Int → List TTok → Int
  | _, [] => 0
  | last, t :: r =>
    if t.kind < 1 ∨ 4 < t.kind then 3
    else if t.kind ≤ 2 ∧ nameM t.name = false then 5
    else if t.kind ≤ 2 ∧ attrsM t.attrs ≠ 0 then attrsM t.attrs
    else if oddM t last r then 4
    else checkFrom t.kind r
def checkM (l : List TTok) : Int := if 300 < l.length then 1 else checkFrom 0 l
def tokText (t : TTok) : Bytes := if t.kind = 1 then tagText t.name t.attrs t.self else if t.kind = 2 then 60 :: 47 :: t.name ++ [62] else escM false t.text
def tokTexts : List TTok → Bytes
  | [] => []
  | t :: r => tokText t ++ tokTexts r
def emitM (l : List TTok) : Bytes × Int := if checkM l ≠ 0 then ([], checkM l) else if 600 < (tokTexts l).length then ([], 1) else (tokTexts l, 0)

theorem escM_append (q : Bool) (a b : Bytes) : escM q (a ++ b) = escM q a ++ escM q b := by
  induction a with
  | nil => rfl
  | cons c a ih => rw [List.cons_append, escM, escM, ih, List.append_assoc]
theorem escB_len (q : Bool) (c : UInt8) : 1 ≤ (escB q c).length ∧ (escB q c).length ≤ 6 ∧ (q = false → (escB q c).length ≤ 5) := by
  unfold escB
  repeat' split
  all_goals simp_all
theorem escM_len (q : Bool) (l : Bytes) : l.length ≤ (escM q l).length ∧ (escM q l).length ≤ 6 * l.length ∧ (q = false → (escM q l).length ≤ 5 * l.length) := by
  induction l with
  | nil => simp [escM]
  | cons c l ih =>
    have h := escB_len q c
    rw [escM, List.length_append, List.length_cons]
    refine ⟨by omega, by omega, fun hq => ?_⟩
    have h1 := h.2.2 hq
    have h2 := ih.2.2 hq
    omega
/-- No sign of markup is left. -/
theorem escB_no (q : Bool) (c d : UInt8) (h : d ∈ escB q c) : d ≠ 60 ∧ d ≠ 62 ∧ (q = true → d ≠ 34) := by
  unfold escB at h
  split at h
  · simp at h
    rcases h with rfl | rfl | rfl | rfl | rfl <;> exact ⟨by decide, by decide, fun _ => by decide⟩
  split at h
  · simp at h
    rcases h with rfl | rfl | rfl | rfl <;> exact ⟨by decide, by decide, fun _ => by decide⟩
  split at h
  · simp at h
    rcases h with rfl | rfl | rfl | rfl <;> exact ⟨by decide, by decide, fun _ => by decide⟩
  split at h
  · simp at h
    rcases h with rfl | rfl | rfl | rfl | rfl | rfl <;> exact ⟨by decide, by decide, fun _ => by decide⟩
  · rename_i h1 h2 h3 h4
    cases List.mem_singleton.1 h
    exact ⟨h2, h3, fun hq h => h4 ⟨h, hq⟩⟩
theorem escM_no (q : Bool) (l : Bytes) : ∀ d ∈ escM q l, d ≠ 60 ∧ d ≠ 62 ∧ (q = true → d ≠ 34) := by
  induction l with
  | nil => intro d h; cases h
  | cons c l ih =>
    intro d h
    rcases List.mem_append.1 h with h | h
    · exact escB_no q c d h
    · exact ih d h
theorem escM_ne (q : Bool) (l : Bytes) (h : l ≠ []) : escM q l ≠ [] := by
  intro e
  have h1 := (escM_len q l).1
  rw [e] at h1
  cases l with
  | nil => exact h rfl
  | cons => simp at h1

theorem unescN_plus (n : Nat) (c : UInt8) (r : Bytes) (h : c ≠ 38) : unescN (n + 1) (c :: r) = c :: unescN n r := by
  rw [unescN, if_neg (fun hh => h hh.1)]
theorem unescN_name (n : Nat) (m r : Bytes) (x : Int) (hm : ∀ d ∈ m, d ≠ 59) (hx : letterM m = some x) : unescN (n + 1) (38 :: (m ++ 59 :: r)) = Lib.encodeRune x ++ unescN n r := by
  have hb : brk [59] (m ++ 59 :: r) = m := by
    unfold brk
    rw [List.takeWhile_append_of_pos (by intro d hd; simpa using hm d hd)]
    simp
  rw [unescN, if_pos ⟨rfl, by rw [hb]; simp⟩, hb, hx]
  simp
theorem unescN_esc (q : Bool) : ∀ (l : Bytes) (n : Nat), (escM q l).length ≤ n → unescN n (escM q l) = l
  | [], n, _ => by cases n <;> rfl
  | c :: l, n, h => by
    have hl := escB_len q c
    rw [escM, List.length_append] at h
    obtain ⟨n, rfl⟩ : ∃ k, n = k + 1 := ⟨n - 1, by omega⟩
    have ih := unescN_esc q l n (by omega)
    rw [escM]
    unfold escB
    split
    · rename_i hc
      subst hc
      have h1 := unescN_name n [97, 109, 112] (escM q l) 38 (by decide) rfl
      have e : ([38, 97, 109, 112, 59] ++ escM q l : Bytes) = 38 :: ([97, 109, 112] ++ 59 :: escM q l) := rfl
      rw [e, h1, ih]; rfl
    split
    · rename_i _ hc
      subst hc
      have h1 := unescN_name n [108, 116] (escM q l) 60 (by decide) rfl
      have e : ([38, 108, 116, 59] ++ escM q l : Bytes) = 38 :: ([108, 116] ++ 59 :: escM q l) := rfl
      rw [e, h1, ih]; rfl
    split
    · rename_i _ _ hc
      subst hc
      have h1 := unescN_name n [103, 116] (escM q l) 62 (by decide) rfl
      have e : ([38, 103, 116, 59] ++ escM q l : Bytes) = 38 :: ([103, 116] ++ 59 :: escM q l) := rfl
      rw [e, h1, ih]; rfl
    split
    · rename_i _ _ _ hc
      obtain ⟨hc, _⟩ := hc
      subst hc
      have h1 := unescN_name n [113, 117, 111, 116] (escM q l) 34 (by decide) rfl
      have e : ([38, 113, 117, 111, 116, 59] ++ escM q l : Bytes) = 38 :: ([113, 117, 111, 116] ++ 59 :: escM q l) := rfl
      rw [e, h1, ih]; rfl
    · rename_i h1 _ _ _
      rw [List.singleton_append, unescN_plus n c _ h1, ih]
theorem unesc_esc (q : Bool) (l : Bytes) : unesc (escM q l) = l := unescN_esc q l _ (Nat.le_refl _)

/- Names. -/
theorem nameC_no (c : UInt8) (h : nameC c = true) : c ≠ 60 ∧ c ≠ 62 ∧ c ≠ 47 ∧ c ≠ 61 ∧ c ≠ 32 ∧ c ≠ 9 ∧ c ≠ 10 ∧ c ≠ 12 ∧ ¬ (65 ≤ c ∧ c ≤ 90) := by
  unfold nameC at h
  simp only [Bool.or_eq_true, Bool.and_eq_true, decide_eq_true_eq, beq_iff_eq, UInt8.le_iff_toNat_le] at h
  have e1 : (97 : UInt8).toNat = 97 := rfl
  have e2 : (122 : UInt8).toNat = 122 := rfl
  have e3 : (48 : UInt8).toNat = 48 := rfl
  have e4 : (57 : UInt8).toNat = 57 := rfl
  have e5 : (65 : UInt8).toNat = 65 := rfl
  have e6 : (90 : UInt8).toNat = 90 := rfl
  rw [e1, e2, e3, e4] at h
  rw [UInt8.le_iff_toNat_le, UInt8.le_iff_toNat_le, e5, e6]
  refine ⟨?_, ?_, ?_, ?_, ?_, ?_, ?_, ?_, ?_⟩
  all_goals first
    | (rintro rfl; revert h; decide)
    | (rintro ⟨g1, g2⟩
       rcases h with (h | h) | h
       · omega
       · omega
       · subst h; revert g1; decide)
theorem nameC_low (c : UInt8) (h : nameC c = true) : low c = c := by
  unfold low
  rw [if_neg (nameC_no c h).2.2.2.2.2.2.2.2]
theorem nameM_all {n : Bytes} (h : nameM n = true) : n.all nameC = true ∧ n ≠ [] ∧ n.length ≤ 12 ∧ ∃ c r, n = c :: r ∧ isLet c = true := by
  cases n with
  | nil => cases h
  | cons c r =>
    unfold nameM at h
    simp only [Bool.and_eq_true, decide_eq_true_eq] at h
    refine ⟨h.2, by simp, h.1.1, c, r, rfl, ?_⟩
    unfold isLet
    simp [h.1.2.1, h.1.2.2]
theorem small_name {n : Bytes} (h : n.all nameC = true) : small n = n := by
  unfold small
  rw [List.all_eq_true] at h
  exact (List.map_congr_left fun c hc => nameC_low c (h c hc)).trans (List.map_id _)
/-- A name ends where it ends. -/
theorem brk_name {n : Bytes} (h : n.all nameC = true) (S : Bytes) (hS : ∀ c, S.contains c = true → c = 32 ∨ c = 9 ∨ c = 10 ∨ c = 12 ∨ c = 47 ∨ c = 62 ∨ c = 61) (d : UInt8) (r : Bytes) (hd : S.contains d = true) : brk S (n ++ d :: r) = n ∧ brkR S (n ++ d :: r) = d :: r := by
  rw [List.all_eq_true] at h
  have hp : ∀ c ∈ n, (fun b => !S.contains b) c = true := by
    intro c hc
    have h1 := nameC_no c (h c hc)
    cases hh : S.contains c with
    | false => show (!S.contains c) = true; rw [hh]; rfl
    | true => rcases hS c hh with e | e | e | e | e | e | e <;> simp [e] at h1
  have hq : ¬ (fun b => !S.contains b) d = true := by show ¬ (!S.contains d) = true; rw [hd]; decide
  unfold brk brkR
  rw [List.takeWhile_append_of_pos hp, List.dropWhile_append_of_pos hp, List.takeWhile_cons_of_neg (p := fun b => !S.contains b) hq, List.dropWhile_cons_of_neg (p := fun b => !S.contains b) hq, List.append_nil]
  exact ⟨rfl, rfl⟩
theorem in_nameEnd (c : UInt8) (h : nameEnd.contains c = true) : c = 32 ∨ c = 9 ∨ c = 10 ∨ c = 12 ∨ c = 47 ∨ c = 62 ∨ c = 61 := by
  simp [nameEnd, spaces] at h
  rcases h with h | h | h | h | h | h <;> simp [h]
theorem in_attrEnd (c : UInt8) (h : attrEnd.contains c = true) : c = 32 ∨ c = 9 ∨ c = 10 ∨ c = 12 ∨ c = 47 ∨ c = 62 ∨ c = 61 := by
  simp [attrEnd, spaces] at h
  rcases h with h | h | h | h | h | h | h <;> simp [h]

/-- An attribute that is written is read. -/
theorem attrM_text (a : TAttr) (hn : nameM a.name = true) (X : Bytes) : ∃ c r1, attrText a ++ X = 32 :: c :: r1 ∧ tagGap.contains c = false ∧ c ≠ 62 ∧ attrM (c :: r1) = (a, true, X) := by
  obtain ⟨h1, h2, h3, c, r, h4, h5⟩ := nameM_all hn
  have h1' := h1
  rw [h4] at h1'
  simp only [List.all_cons, Bool.and_eq_true] at h1'
  have hc := nameC_no c h1'.1
  refine ⟨c, r ++ 61 :: 34 :: (escM true a.value ++ 34 :: X), by unfold attrText; rw [h4]; simp, ?_, hc.2.1, ?_⟩
  · simp [tagGap, spaces]; exact ⟨hc.2.2.2.2.1, hc.2.2.2.2.2.1, hc.2.2.2.2.2.2.1, hc.2.2.2.2.2.2.2.1, hc.2.2.1⟩
  · obtain ⟨g1, g2⟩ := brk_name h1'.2 attrEnd in_attrEnd 61 (34 :: (escM true a.value ++ 34 :: X)) (by decide)
    have hq : ∀ d ∈ escM true a.value, (fun b => !([34] : Bytes).contains b) d = true := by
      intro d hd
      have := (escM_no true _ d hd).2.2 rfl
      simpa using this
    have hv : valueM (34 :: (escM true a.value ++ 34 :: X)) = (a.value, true, X) := by
      have e : skp spaces (34 :: (escM true a.value ++ 34 :: X)) = 34 :: (escM true a.value ++ 34 :: X) := rfl
      have b1 : brkR [34] (escM true a.value ++ 34 :: X) = 34 :: X := by unfold brkR; rw [List.dropWhile_append_of_pos hq]; rfl
      have b2 : brk [34] (escM true a.value ++ 34 :: X) = escM true a.value := by unfold brk; rw [List.takeWhile_append_of_pos hq]; simp
      unfold valueM
      rw [e, valueT, if_pos (.inl rfl), b1, b2, unesc_esc]
    have hs : skp spaces (61 :: 34 :: (escM true a.value ++ 34 :: X)) = 61 :: 34 :: (escM true a.value ++ 34 :: X) := rfl
    unfold attrM
    simp only
    rw [g1, g2, hs]
    simp only [if_pos, hv]
    rw [← h4, small_name h1]

theorem attrText_head (a : TAttr) : ∃ r, attrText a = 32 :: r := ⟨_, rfl⟩
/-- The attributes of a tag that is written. -/
theorem tagLoop_text (self : Bool) (X : Bytes) : ∀ (l done : List TAttr) (n : Nat), (∀ a ∈ l, nameM a.name = true) → (∀ a ∈ l, ∀ b ∈ done, b.name ≠ a.name) → (l.map (·.name)).Pairwise (· ≠ ·) → (tagTail l self ++ X).length < n →
    tagLoop n (tagTail l self ++ X) done = some (done ++ l, self, X)
  | [], done, n, _, _, _, hn => by
    obtain ⟨n, rfl⟩ : ∃ k, n = k + 1 := ⟨n - 1, by omega⟩
    cases self
    · have e : tagTail [] false ++ X = 62 :: X := rfl
      rw [e, tagLoop]
      have s1 : skp tagGap (62 :: X) = 62 :: X := rfl
      have s2 : skd tagGap (62 :: X) = [] := rfl
      rw [s1, s2]
      simp
    · have e : tagTail [] true ++ X = 47 :: 62 :: X := rfl
      rw [e, tagLoop]
      have s1 : skp tagGap (47 :: 62 :: X) = 62 :: X := rfl
      have s2 : skd tagGap (47 :: 62 :: X) = [47] := rfl
      rw [s1, s2]
      simp
  | a :: l, done, n, hnm, hd, hp, hn => by
    obtain ⟨n, rfl⟩ : ∃ k, n = k + 1 := ⟨n - 1, by omega⟩
    obtain ⟨c, r1, h1, h2, h3, h4⟩ := attrM_text a (hnm a (by simp)) (tagTail l self ++ X)
    have e : tagTail (a :: l) self ++ X = 32 :: c :: r1 := by
      rw [← h1]
      unfold tagTail
      rw [attrTexts]
      simp only [List.append_assoc]
    rw [e] at hn ⊢
    rw [tagLoop]
    have s1 : skp tagGap (32 :: c :: r1) = c :: r1 := by
      show List.dropWhile (fun b => tagGap.contains b) (32 :: c :: r1) = c :: r1
      rw [List.dropWhile_cons_of_pos (by decide), List.dropWhile_cons_of_neg (by simpa using h2)]
    rw [s1]
    simp only [h4, if_neg h3, if_pos]
    have hadd : addAttr done a = done ++ [a] := by
      unfold addAttr
      rw [if_neg]
      simp only [List.any_eq_true, beq_iff_eq, not_exists, not_and]
      intro b hb
      exact hd a (by simp) b hb
    rw [hadd]
    have hlen : (tagTail l self ++ X).length < n := by
      have := attrM_le c r1
      rw [h4] at this
      simp only [List.length_cons] at hn
      have h5 : (tagTail l self ++ X).length ≤ r1.length := this
      omega
    rw [List.map_cons, List.pairwise_cons] at hp
    rw [tagLoop_text self X l (done ++ [a]) n (fun b hb => hnm b (by simp [hb])) ?_ hp.2 hlen]
    · simp
    · intro b hb x hx
      rcases List.mem_append.1 hx with hx | hx
      · exact hd b (by simp [hb]) x hx
      · cases List.mem_singleton.1 hx
        exact fun e => hp.1 b.name (List.mem_map.2 ⟨b, hb, rfl⟩) e

theorem tagTail_head (l : List TAttr) (self : Bool) (X : Bytes) : ∃ d r, tagTail l self ++ X = d :: r ∧ nameEnd.contains d = true := by
  cases l with
  | nil => cases self <;> exact ⟨_, _, rfl, by decide⟩
  | cons a l => exact ⟨32, _, rfl, by decide⟩
/-- A tag that is written is read. -/
theorem tagM_text (k : Int) (n : Bytes) (l : List TAttr) (self : Bool) (X : Bytes) (hn : nameM n = true) (hl : ∀ a ∈ l, nameM a.name = true) (hp : (l.map (·.name)).Pairwise (· ≠ ·)) :
    tagM k (n ++ (tagTail l self ++ X)) = some (if k = 2 then ⟨k, n, [], false, []⟩ else ⟨k, n, l, self, []⟩, X) := by
  obtain ⟨h1, h2, h3, c, r, h4, h5⟩ := nameM_all hn
  obtain ⟨d, r', hd, hc⟩ := tagTail_head l self X
  obtain ⟨g1, g2⟩ := brk_name h1 nameEnd in_nameEnd d r' hc
  unfold tagM
  rw [← hd] at g1 g2
  rw [g1, g2, small_name h1, tagLoop_text self X l [] _ hl (fun a _ b hb => by cases hb) hp (Nat.lt_succ_of_le (List.suffix_append n (tagTail l self ++ X)).length_le)]
  rfl

theorem twice_pair : ∀ l : List TAttr, twiceM l = false → (l.map (·.name)).Pairwise (· ≠ ·)
  | [], _ => List.Pairwise.nil
  | a :: r, h => by
    rw [twiceM, Bool.or_eq_false_iff] at h
    rw [List.map_cons, List.pairwise_cons]
    refine ⟨fun n hn e => ?_, twice_pair r h.2⟩
    obtain ⟨b, hb, rfl⟩ := List.mem_map.1 hn
    have h1 := List.any_eq_false.1 h.1 b hb
    rw [e] at h1
    simp at h1
theorem attrsM_ok {l : List TAttr} (h : attrsM l = 0) : (∀ a ∈ l, nameM a.name = true) ∧ l.length ≤ 4 ∧ (l.map (·.name)).Pairwise (· ≠ ·) := by
  unfold attrsM at h
  split at h
  · cases h
  split at h
  · cases h
  split at h
  · cases h
  · rename_i h1 h2 h3
    refine ⟨fun a ha => ?_, by omega, twice_pair l (by simpa using h3)⟩
    have h4 := List.any_eq_false.1 (Bool.eq_false_iff.2 h1) a ha
    simpa using h4

theorem opens_let (c : UInt8) (r : Bytes) (h : isLet c = true) : opensM (60 :: c :: r) = true := by
  rw [opensM_cons2, h]; rfl
theorem opens_slash (c : UInt8) (r : Bytes) : opensM (60 :: 47 :: c :: r) = true := by
  rw [opensM_cons2]; simp

theorem markup_end (n : Bytes) (hn : nameM n = true) (X : Bytes) : opensM (60 :: 47 :: n ++ [62] ++ X) = true ∧ markupM (60 :: 47 :: n ++ [62] ++ X) = some ([⟨2, n, [], false, []⟩], X) := by
  obtain ⟨h1, h2, h3, c, r, h4, h5⟩ := nameM_all hn
  have ht := tagM_text 2 n [] false X hn (fun a h => by cases h) List.Pairwise.nil
  have e : n ++ (tagTail [] false ++ X) = c :: (r ++ [62] ++ X) := by rw [h4]; show c :: r ++ ([62] ++ X) = _; simp
  have e2 : (60 :: 47 :: n ++ [62] ++ X : Bytes) = 60 :: 47 :: c :: (r ++ [62] ++ X) := by rw [h4]; simp
  rw [e] at ht
  rw [e2]
  refine ⟨opens_slash _ _, ?_⟩
  show (if isLet c = true then (tagM 2 (c :: (r ++ [62] ++ X))).map (fun x => ([x.1], x.2)) else _) = _
  rw [if_pos h5, ht]
  rfl
theorem rawStop_end (n : Bytes) (hn : nameM n = true) (X : Bytes) : rawStop n (60 :: 47 :: n ++ [62] ++ X) = true := by
  have h1 := (nameM_all hn).1
  have e : (60 :: 47 :: n ++ [62] ++ X : Bytes) = 60 :: 47 :: (n ++ 62 :: X) := by simp
  rw [e]
  show (small ((n ++ 62 :: X).take n.length) == n && hd nameEnd ((n ++ 62 :: X).drop n.length)) = true
  rw [List.take_left', List.drop_left', small_name h1]
  · simp [hd, nameEnd, spaces]
  · rfl
  · rfl
theorem rawM_end (n : Bytes) (hn : nameM n = true) (X : Bytes) : rawM n (60 :: 47 :: n ++ [62] ++ X) = ([], 60 :: 47 :: n ++ [62] ++ X) := by
  have h := rawStop_end n hn X
  have e : (60 :: 47 :: n ++ [62] ++ X : Bytes) = 60 :: (47 :: n ++ [62] ++ X) := rfl
  rw [e] at h ⊢
  rw [rawM, if_pos h]
theorem rawToks_nil (n : Bytes) : rawToks n [] = [] := by
  have h : rawText n [] = [] := by unfold rawText; split <;> rfl
  unfold rawToks
  rw [if_pos h]
theorem markup_start (n : Bytes) (l : List TAttr) (self : Bool) (hn : nameM n = true) (hl : attrsM l = 0) (X : Bytes) (hr : isRaw n = true → ∃ X', X = 60 :: 47 :: n ++ [62] ++ X') :
    opensM (tagText n l self ++ X) = true ∧ markupM (tagText n l self ++ X) = some ([⟨1, n, l, self, []⟩], X) := by
  obtain ⟨h1, h2, h3, c, r, h4, h5⟩ := nameM_all hn
  obtain ⟨g1, _, g2⟩ := attrsM_ok hl
  have ht := tagM_text 1 n l self X hn g1 g2
  have e : n ++ (tagTail l self ++ X) = c :: (r ++ (tagTail l self ++ X)) := by rw [h4]; rfl
  have e2 : tagText n l self ++ X = 60 :: c :: (r ++ (tagTail l self ++ X)) := by unfold tagText; rw [h4]; simp
  rw [e] at ht
  rw [e2]
  refine ⟨opens_let _ _ h5, ?_⟩
  rw [markupM_tag2 c _ h5, ht]
  rw [if_neg (by decide)]
  simp only [Option.map_some]
  split
  · rename_i hraw
    obtain ⟨X', rfl⟩ := hr hraw
    simp only [rawM_end n hn X', rawToks_nil]
  · rfl

theorem emit_law : ∀ (l : List TTok) (last : Int), checkFrom last l = 0 → allM (tokTexts l) = l ∧ (last = 3 → l = [] ∨ opensM (tokTexts l) = true)
  | [], _, _ => ⟨rfl, fun _ => .inl rfl⟩
  | t :: r, last, h => by
    rw [checkFrom] at h
    split at h
    · cases h
    rename_i hk
    split at h
    · cases h
    rename_i hn
    split at h
    · rename_i hne; exact absurd h hne.2
    rename_i hat
    split at h
    · cases h
    rename_i hodd
    obtain ⟨ih1, ih2⟩ := emit_law r t.kind h
    have hodd' : oddM t last r = false := by simpa using hodd
    clear hodd
    obtain ⟨k, n, a, s, x⟩ := t
    simp only at *
    rw [tokTexts]
    unfold oddM at hodd'
    simp only at hodd'
    split at hodd'
    · rename_i hk1
      subst hk1
      have hn' : nameM n = true := by simpa using hn
      have ha' : attrsM a = 0 := by simpa using hat
      simp only [Bool.or_eq_false_iff, Bool.not_eq_false', beq_iff_eq] at hodd'
      obtain ⟨rfl, hraw⟩ := hodd'
      have e : tokText ⟨1, n, a, s, []⟩ = tagText n a s := rfl
      have hX : isRaw n = true → ∃ X', tokTexts r = 60 :: 47 :: n ++ [62] ++ X' := by
        intro hr
        rw [hr, Bool.true_and, Bool.not_eq_false'] at hraw
        cases r with
        | nil => cases hraw
        | cons u r' =>
          obtain ⟨k2, n2, a2, s2, x2⟩ := u
          simp only [closedBy, Bool.and_eq_true, beq_iff_eq] at hraw
          obtain ⟨rfl, rfl⟩ := hraw
          exact ⟨tokTexts r', rfl⟩
      obtain ⟨o1, o2⟩ := markup_start n a s hn' ha' (tokTexts r) hX
      rw [e]
      refine ⟨?_, fun _ => .inr o1⟩
      rw [allM_markup _ _ _ o1 o2, ih1]; rfl
    split at hodd'
    · rename_i hk1 hk2
      subst hk2
      have hn' : nameM n = true := by simpa using hn
      simp only [Bool.or_eq_false_iff, Bool.not_eq_false', beq_iff_eq, List.isEmpty_iff] at hodd'
      obtain ⟨⟨rfl, rfl⟩, rfl⟩ := hodd'
      have e : tokText ⟨2, n, [], false, []⟩ = 60 :: 47 :: n ++ [62] := rfl
      obtain ⟨o1, o2⟩ := markup_end n hn' (tokTexts r)
      rw [e]
      refine ⟨?_, fun _ => .inr o1⟩
      rw [allM_markup _ _ _ o1 o2, ih1]; rfl
    split at hodd'
    · rename_i hk1 hk2 hk3
      subst hk3
      simp only [Bool.or_eq_false_iff, Bool.not_eq_false', beq_iff_eq, List.isEmpty_iff, beq_eq_false_iff_ne] at hodd'
      obtain ⟨⟨⟨⟨hx, rfl⟩, rfl⟩, rfl⟩, hl⟩ := hodd'
      have e : tokText ⟨3, [], [], false, x⟩ = escM false x := rfl
      have hu : NoLt (escM false x) := fun c hc => (escM_no false x c hc).1
      have htk : textToks (escM false x) = [⟨3, [], [], false, x⟩] := by rw [textToks_some _ (escM_ne false x hx), unesc_esc]; rfl
      rw [e]
      refine ⟨?_, fun h => absurd h hl⟩
      rcases ih2 rfl with rfl | ho
      · show allM (escM false x ++ []) = _
        rw [List.append_nil, allM_split, textM_plain _ hu]
        simp only [htk, allM_nil, List.append_nil]
      · rw [allM_text _ _ hu ho, htk, ih1]; rfl
    · cases hodd'

theorem emit_back (l : List TTok) (h : checkM l = 0) : allM (tokTexts l) = l := by
  unfold checkM at h
  split at h
  · cases h
  · exact (emit_law l 0 h).1


def nameR (r : Nat) : Bool := (decide (97 ≤ r) && decide (r ≤ 122)) || (decide (48 ≤ r) && decide (r ≤ 57)) || r == 45
theorem nameC_R (c : UInt8) : nameC c = nameR c.toNat := by
  unfold nameC nameR
  have e1 : (decide ((97 : UInt8) ≤ c)) = decide (97 ≤ c.toNat) := decide_eq_decide.2 UInt8.le_iff_toNat_le
  have e2 : (decide (c ≤ (122 : UInt8))) = decide (c.toNat ≤ 122) := decide_eq_decide.2 UInt8.le_iff_toNat_le
  have e3 : (decide ((48 : UInt8) ≤ c)) = decide (48 ≤ c.toNat) := decide_eq_decide.2 UInt8.le_iff_toNat_le
  have e4 : (decide (c ≤ (57 : UInt8))) = decide (c.toNat ≤ 57) := decide_eq_decide.2 UInt8.le_iff_toNat_le
  have e5 : (c == 45) = (c.toNat == 45) := by
    rw [Bool.eq_iff_iff, beq_iff_eq, beq_iff_eq]
    exact ⟨fun h => by rw [h]; rfl, fun h => UInt8.toNat_inj.1 h⟩
  rw [e1, e2, e3, e4, e5]
theorem nameR_big (r : Nat) (h : 128 ≤ r) : nameR r = false := by
  unfold nameR
  have h1 : decide (r ≤ 122) = false := decide_eq_false (by omega)
  have h2 : decide (r ≤ 57) = false := decide_eq_false (by omega)
  have h3 : (r == 45) = false := beq_eq_false_iff_ne.2 (by omega)
  rw [h1, h2, h3]; simp

theorem decode_byte (s : ByteArray) (i : Nat) (h : i < s.size) : ((s[i]'h).toNat < 128 → Utf8.decode s i = ((s[i]'h).toNat, 1)) ∧ (128 ≤ (s[i]'h).toNat → 128 ≤ (Utf8.decode s i).1) := by
  have hg : s.get! i = s[i]'h := by
    show s.data[i]! = s.data[i]'h
    exact getElem!_pos s.data i h
  rw [Lib.decode_at, hg]
  refine ⟨fun h1 => by unfold Lib.decodeN; rw [if_pos h1], fun h1 => ?_⟩
  unfold Lib.decodeN
  rw [if_neg (by omega)]
  repeat' split
  all_goals simp only
  all_goals omega

theorem idx_name (s : ByteArray) : ∀ (f i : Nat), s.size - i ≤ f → (0 ≤ Lib.idxFuncFrom (fun r => !nameR r) true s f i ↔ ((lst s).drop i).all nameC = false)
  | 0, i, h => by
    rw [List.drop_of_length_le (by rw [lst_length]; omega)]
    show (0 : Int) ≤ -1 ↔ true = false
    exact ⟨fun h => by omega, fun h => by cases h⟩
  | f + 1, i, h => by
    unfold Lib.idxFuncFrom
    by_cases hi : i < s.size
    · rw [if_pos hi]
      have hl : i < (lst s).length := by rw [lst_length]; exact hi
      have hdrop : (lst s).drop i = s[i]'hi :: (lst s).drop (i + 1) := by rw [List.drop_eq_getElem_cons hl]; rfl
      obtain ⟨d1, d2⟩ := decode_byte s i hi
      rw [hdrop, List.all_cons]
      cases hc : nameC (s[i]'hi) with
      | true =>
        rw [nameC_R] at hc
        have hlt : (s[i]'hi).toNat < 128 := by
          rcases Nat.lt_or_ge (s[i]'hi).toNat 128 with h | h
          · exact h
          · rw [nameR_big _ h] at hc; cases hc
        rw [d1 hlt]
        simp only [hc, Bool.not_true, Bool.false_eq_true, if_false, Bool.true_and]
        exact idx_name s f (i + 1) (by omega)
      | false =>
        have hp : (!nameR (Utf8.decode s i).1) = true := by
          rw [nameC_R] at hc
          rcases Nat.lt_or_ge (s[i]'hi).toNat 128 with h | h
          · rw [d1 h, hc]; rfl
          · rw [nameR_big _ (d2 h)]; rfl
        rw [if_pos hp, Bool.false_and]
        exact ⟨fun _ => rfl, fun _ => by omega⟩
    · rw [if_neg hi, List.drop_of_length_le (by rw [lst_length]; omega)]
      show (0 : Int) ≤ -1 ↔ true = false
      exact ⟨fun h => by omega, fun h => by cases h⟩
theorem idx_name_all (s : ByteArray) : decide (0 ≤ Lib.idxFunc (fun r => !nameR r) true s) = !(lst s).all nameC := by
  have h := idx_name s s.size 0 (by omega)
  rw [List.drop_zero] at h
  unfold Lib.idxFunc
  cases hc : (lst s).all nameC with
  | true => exact decide_eq_false fun hh => by rw [h.1 hh] at hc; cases hc
  | false => exact decide_eq_true (h.2 hc)

theorem twice_iff : ∀ l : List TAttr, twiceM l = true ↔ ∃ i a, l[i]? = some a ∧ (l.take i).any (fun b => a.name == b.name) = true
  | [] => ⟨fun h => (by cases h), fun ⟨i, a, h, _⟩ => (by simp at h)⟩
  | x :: r => by
    rw [twiceM, Bool.or_eq_true, twice_iff r]
    constructor
    · rintro (h | ⟨i, a, h1, h2⟩)
      · obtain ⟨b, hb, he⟩ := List.any_eq_true.1 h
        obtain ⟨i, hi⟩ := List.getElem?_of_mem hb
        refine ⟨i + 1, b, hi, ?_⟩
        rw [List.take_succ_cons, List.any_cons, he]; rfl
      · refine ⟨i + 1, a, h1, ?_⟩
        rw [List.take_succ_cons, List.any_cons, h2, Bool.or_true]
    · rintro ⟨i, a, h1, h2⟩
      cases i with
      | zero => simp at h2
      | succ i =>
        rw [List.take_succ_cons, List.any_cons, Bool.or_eq_true] at h2
        rcases h2 with h2 | h2
        · exact .inl (List.any_eq_true.2 ⟨a, List.mem_of_getElem? h1, h2⟩)
        · exact .inr ⟨i, a, h1, h2⟩
theorem twice_none (l : List TAttr) (h : ∀ i a, l[i]? = some a → (l.take i).any (fun b => a.name == b.name) = false) : twiceM l = false := by
  rw [Bool.eq_false_iff]
  intro ht
  obtain ⟨i, a, h1, h2⟩ := (twice_iff l).1 ht
  rw [h i a h1] at h2; cases h2

theorem attrTexts_append (a b : List TAttr) : attrTexts (a ++ b) = attrTexts a ++ attrTexts b := by
  induction a with
  | nil => rfl
  | cons x a ih => rw [List.cons_append, attrTexts, attrTexts, ih, List.append_assoc]
theorem attrTexts_take (l : List TAttr) (i : Nat) (a : TAttr) (h : l[i]? = some a) : attrTexts (l.take (i + 1)) = attrTexts (l.take i) ++ attrText a := by
  rw [List.take_add_one, h, attrTexts_append]
  show _ ++ attrTexts [a] = _
  rw [attrTexts, attrTexts, List.append_nil]
theorem attrText_len (a : TAttr) : (attrText a).length ≤ a.name.length + 6 * a.value.length + 4 := by
  have := (escM_len true a.value).2.1
  unfold attrText
  simp only [List.length_append, List.length_cons, List.length_nil]; omega
theorem attrTexts_len (m : Nat) : ∀ l : List TAttr, (∀ a ∈ l, a.name.length ≤ m ∧ a.value.length ≤ m) → (attrTexts l).length ≤ l.length * (7 * m + 4)
  | [], _ => by simp [attrTexts]
  | a :: l, h => by
    have h1 := attrText_len a
    have h2 := h a (by simp)
    have h3 := attrTexts_len m l (fun b hb => h b (by simp [hb]))
    rw [attrTexts, List.length_append, List.length_cons, Nat.add_mul]
    omega

theorem tokTexts_append (a b : List TTok) : tokTexts (a ++ b) = tokTexts a ++ tokTexts b := by
  induction a with
  | nil => rfl
  | cons x a ih => rw [List.cons_append, tokTexts, tokTexts, ih, List.append_assoc]
theorem tokTexts_take (l : List TTok) (i : Nat) (t : TTok) (h : l[i]? = some t) : tokTexts (l.take (i + 1)) = tokTexts (l.take i) ++ tokText t := by
  rw [List.take_add_one, h, tokTexts_append]
  show _ ++ tokTexts [t] = _
  rw [tokTexts, tokTexts, List.append_nil]
/-- The sizes that the walk asks for. -/
structure TokSz (m : Nat) (t : TTok) : Prop where
  of ::
  name : t.name.length ≤ m
  text : t.text.length ≤ m
  count : t.attrs.length ≤ m
  attrs : ∀ a ∈ t.attrs, a.name.length ≤ m ∧ a.value.length ≤ m
theorem tokText_len (t : TTok) (h : TokSz 1000 t) : (tokText t).length ≤ 8000000 := by
  unfold tokText
  split
  · have h1 := attrTexts_len 1000 t.attrs h.attrs
    have h2 := h.count
    have h3 := h.name
    unfold tagText tagTail
    split <;> simp only [List.length_append, List.length_cons, List.length_nil] <;> omega
  split
  · have h3 := h.name
    simp only [List.length_append, List.length_cons, List.length_nil]; omega
  · have h1 := (escM_len false t.text).2.1
    have h2 := h.text
    omega
theorem tokTexts_len (l : List TTok) (h : ∀ t ∈ l, TokSz 1000 t) : (tokTexts l).length ≤ l.length * 8000000 := by
  induction l with
  | nil => simp [tokTexts]
  | cons t l ih =>
    have h1 := tokText_len t (h t (by simp))
    have h2 := ih (fun u hu => h u (by simp [hu]))
    rw [tokTexts, List.length_append, List.length_cons, Nat.add_mul]; omega

/-- The check, place by place. -/
def failAt (t : TTok) (last : Int) (rest : List TTok) : Int :=
  if t.kind < 1 ∨ 4 < t.kind then 3
  else if t.kind ≤ 2 ∧ nameM t.name = false then 5
  else if t.kind ≤ 2 ∧ attrsM t.attrs ≠ 0 then attrsM t.attrs
  else if oddM t last rest then 4
  else 0
def lastAt : Int → List TTok → Nat → Int
  | last, _, 0 => last
  | last, [], _ => last
  | _, t :: r, n + 1 => lastAt t.kind r n
theorem checkFrom_cons (last : Int) (t : TTok) (r : List TTok) : checkFrom last (t :: r) = if failAt t last r ≠ 0 then failAt t last r else checkFrom t.kind r := by
  rw [checkFrom]
  unfold failAt
  split
  · rfl
  split
  · rfl
  split
  · rename_i h; rw [if_pos h.2]
  split
  · rfl
  · rfl
theorem checkFrom_at : ∀ (n : Nat) (l : List TTok) (last : Int), (∀ j t, j < n → l[j]? = some t → failAt t (lastAt last l j) (l.drop (j + 1)) = 0) → checkFrom last l = checkFrom (lastAt last l n) (l.drop n)
  | 0, l, last, _ => by cases l <;> rfl
  | n + 1, [], last, _ => rfl
  | n + 1, t :: r, last, h => by
    have h0 := h 0 t (by omega) rfl
    have h0' : failAt t last r = 0 := h0
    rw [checkFrom_cons, if_neg (by rw [h0']; simp)]
    show _ = checkFrom (lastAt t.kind r n) (r.drop n)
    exact checkFrom_at n r t.kind fun j u hj hu => h (j + 1) u (by omega) hu
theorem lastAt_succ : ∀ (n : Nat) (l : List TTok) (last : Int) (t : TTok), l[n]? = some t → lastAt last l (n + 1) = t.kind
  | 0, [], _, _, h => by simp at h
  | 0, x :: r, _, t, h => by cases h; cases r <;> rfl
  | n + 1, [], _, _, h => by simp at h
  | n + 1, x :: r, _, t, h => lastAt_succ n r x.kind t h

end Go.Proofs.YtjkgmdnkejjppaaGreatDoor
