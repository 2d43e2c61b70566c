/- Plain functions: what the tokenizer and the letters' names compute. Nothing of the program here. -/
import Derived.Lib.RuneBytes
import Derived.Lib.Small
namespace Go.Proofs.YtbgonaacheemcaaDoor

abbrev Bytes := List UInt8

/-- The small letter of a letter. -/
def low (c : UInt8) : UInt8 := if 65 ≤ c ∧ c ≤ 90 then c + 32 else c
def small (l : Bytes) : Bytes := l.map low

/-- The value of a digit of a base (of at most 36). -/
def digitOf (base : Nat) (c : UInt8) : Option Nat :=
  if 48 ≤ c ∧ c ≤ 57 then (if c.toNat - 48 < base then some (c.toNat - 48) else none)
  else if 97 ≤ c ∧ c ≤ 122 then (if c.toNat - 87 < base then some (c.toNat - 87) else none)
  else if 65 ≤ c ∧ c ≤ 90 then (if c.toNat - 55 < base then some (c.toNat - 55) else none)
  else none
/-- The number that digits make, behind what was read. -/
def digitsFrom (base : Nat) : Nat → Bytes → Option Nat
  | n, [] => some n
  | n, c :: l => match digitOf base c with
    | some d => digitsFrom base (n * base + d) l
    | none => none

/-- A numbered letter. -/
def numberedM (digits : Bytes) (base most : Nat) : Option Int :=
  if digits = [] ∨ most < digits.length then none
  else match digitsFrom base 0 digits with
    | none => none
    | some n => if n = 0 ∨ 1114111 < n ∨ Lib.validRune n = false then some 65533 else some n

def namedM (s : Bytes) : Option Int :=
  if s = [97, 109, 112] then some 38
  else if s = [108, 116] then some 60
  else if s = [103, 116] then some 62
  else if s = [113, 117, 111, 116] then some 34
  else if s = [110, 98, 115, 112] then some 160
  else if s = [99, 111, 112, 121] then some 169
  else none

/-- The letter of what stands between & and ;. -/
def letterM : Bytes → Option Int
  | 35 :: d => match d with
    | [] => numberedM [] 10 7
    | x :: d' => if x = 120 ∨ x = 88 then numberedM d' 16 6 else numberedM (x :: d') 10 7
  | s => namedM s

/-- What stands ahead of the first byte of a set; what is from there on. -/
def brk (c : Bytes) (l : Bytes) : Bytes := l.takeWhile (fun b => !c.contains b)
def brkR (c : Bytes) (l : Bytes) : Bytes := l.dropWhile (fun b => !c.contains b)
/-- Is the next byte one of a set? -/
def hd (c : Bytes) : Bytes → Bool
  | [] => false
  | b :: _ => c.contains b
def skp (c : Bytes) (l : Bytes) : Bytes := l.dropWhile (fun b => c.contains b)
def skd (c : Bytes) (l : Bytes) : Bytes := l.takeWhile (fun b => c.contains b)

def unescN : Nat → Bytes → Bytes
  | 0, _ => []
  | _ + 1, [] => []
  | n + 1, c :: r =>
    if c = 38 ∧ (brk [59] r).length < r.length then
      match letterM (brk [59] r) with
      | some x => Lib.encodeRune x ++ unescN n (r.drop ((brk [59] r).length + 1))
      | none => c :: unescN n r
    else c :: unescN n r
def unesc (l : Bytes) : Bytes := unescN l.length l

structure TAttr where
  name : Bytes
  value : Bytes
  deriving DecidableEq

structure TTok where
  kind : Int
  name : Bytes
  attrs : List TAttr
  self : Bool
  text : Bytes
  deriving DecidableEq

def spaces : Bytes := [32, 9, 10, 12]

def valueT : Bytes → Bytes × Bool × Bytes
  | [] => (unesc [], true, [])
  | q :: r2 =>
    if q = 34 ∨ q = 39 then
      match brkR [q] r2 with
      | [] => ([], false, [])
      | _ :: r3 => (unesc (brk [q] r2), true, r3)
    else (unesc (brk (spaces ++ [62]) (q :: r2)), true, brkR (spaces ++ [62]) (q :: r2))
def valueM (r : Bytes) : Bytes × Bool × Bytes := valueT (skp spaces r)

def attrEnd : Bytes := spaces ++ [47, 62, 61]
def attrM : Bytes → TAttr × Bool × Bytes
  | [] => (⟨[], []⟩, false, [])
  | c :: r1 =>
    match skp spaces (brkR attrEnd r1) with
    | [] => (⟨small (c :: brk attrEnd r1), []⟩, true, brkR attrEnd r1)
    | e :: r4 =>
      if e = 61 then (⟨small (c :: brk attrEnd r1), (valueM r4).1⟩, (valueM r4).2.1, (valueM r4).2.2)
      else (⟨small (c :: brk attrEnd r1), []⟩, true, brkR attrEnd r1)

def tagGap : Bytes := spaces ++ [47]
def addAttr (l : List TAttr) (a : TAttr) : List TAttr := if l.any (fun b => b.name == a.name) then l else l ++ [a]

def tagLoop : Nat → Bytes → List TAttr → Option (List TAttr × Bool × Bytes)
  | 0, _, _ => none
  | n + 1, r, l =>
    match skp tagGap r with
    | [] => none
    | c :: r2 =>
      if c = 62 then some (l, (skd tagGap r).getLast? == some 47, r2)
      else if (attrM (c :: r2)).2.1 then tagLoop n (attrM (c :: r2)).2.2 (addAttr l (attrM (c :: r2)).1)
      else none

def nameEnd : Bytes := spaces ++ [47, 62]
def tagOf (kind : Int) (name : Bytes) : Option (List TAttr × Bool × Bytes) → Option (TTok × Bytes)
  | none => none
  | some (l, self, r2) => some (if kind = 2 then ⟨kind, name, [], false, []⟩ else ⟨kind, name, l, self, []⟩, r2)
/-- A tag behind its < or </. -/
def tagM (kind : Int) (r : Bytes) : Option (TTok × Bytes) := tagOf kind (small (brk nameEnd r)) (tagLoop (r.length + 1) (brkR nameEnd r) [])

/-- Up to a text, or the end. -/
def upToM (e : Bytes) : Bytes → Bytes × Bytes
  | [] => ([], [])
  | c :: r => if e.isPrefixOf (c :: r) then ([], (c :: r).drop e.length) else (c :: (upToM e r).1, (upToM e r).2)

/-- Does the end of a raw element stand here? -/
def rawStop (name : Bytes) : Bytes → Bool
  | 60 :: 47 :: r => small (r.take name.length) == name && hd nameEnd (r.drop name.length)
  | _ => false
def rawM (name : Bytes) : Bytes → Bytes × Bytes
  | [] => ([], [])
  | c :: r => if rawStop name (c :: r) then ([], c :: r) else (c :: (rawM name r).1, (rawM name r).2)

def isLet (c : UInt8) : Bool := (97 ≤ c && c ≤ 122) || (65 ≤ c && c ≤ 90)
def opensM : Bytes → Bool
  | 60 :: c :: r => isLet c || c == 33 || c == 63 || (c == 47 && !r.isEmpty)
  | _ => false

def chars (t : Bytes) : TTok := ⟨3, [], [], false, t⟩
def comment (t : Bytes) : TTok := ⟨4, [], [], false, t⟩

def sScript : Bytes := [115, 99, 114, 105, 112, 116]
def sStyle : Bytes := [115, 116, 121, 108, 101]
def sTextarea : Bytes := [116, 101, 120, 116, 97, 114, 101, 97]
def sTitle : Bytes := [116, 105, 116, 108, 101]
def isRaw (n : Bytes) : Bool := n == sScript || n == sStyle || n == sTextarea || n == sTitle
def rawText (n t : Bytes) : Bytes := if n == sTextarea || n == sTitle then unesc t else t
def rawToks (n t : Bytes) : List TTok := if rawText n t = [] then [] else [chars (rawText n t)]

/-- Markup at a place where it begins: its tokens, and the rest; none: it does not end. -/
def markupM : Bytes → Option (List TTok × Bytes)
  | 60 :: 33 :: 45 :: 45 :: r => some ([comment (upToM [45, 45, 62] r).1], (upToM [45, 45, 62] r).2)
  | 60 :: 33 :: r => some ([comment (upToM [62] r).1], (upToM [62] r).2)
  | 60 :: 63 :: r => some ([comment (upToM [62] (63 :: r)).1], (upToM [62] (63 :: r)).2)
  | 60 :: 47 :: c :: r =>
    if isLet c then (tagM 2 (c :: r)).map fun x => ([x.1], x.2)
    else some ([comment (upToM [62] (c :: r)).1], (upToM [62] (c :: r)).2)
  | 60 :: r => (tagM 1 r).map fun x => if isRaw x.1.name then (x.1 :: rawToks x.1.name (rawM x.1.name x.2).1, (rawM x.1.name x.2).2) else ([x.1], x.2)
  | _ => none

/-- Text up to where markup begins; what is from there on. -/
def textM : Bytes → Bytes × Bytes
  | [] => ([], [])
  | c :: r => if opensM (c :: r) then ([], c :: r) else (c :: (textM r).1, (textM r).2)
def textToks (t : Bytes) : List TTok := if t = [] then [] else [chars (unesc t)]

def allN : Nat → Bytes → List TTok
  | 0, _ => []
  | _ + 1, [] => []
  | n + 1, c :: r =>
    textToks (textM (c :: r)).1 ++
      (if (textM (c :: r)).2 = [] then [] else
        match markupM (textM (c :: r)).2 with
        | none => []
        | some (l, r2) => l ++ allN n r2)
def allM (l : Bytes) : List TTok := allN (l.length + 1) l

end Go.Proofs.YtbgonaacheemcaaDoor
