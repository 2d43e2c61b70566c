/- Plain functions: nodes; what tree.Build computes. Nothing of the program here. -/
import Derived.Test.YtemomhanchiipaaGreatDoorModel
namespace Go.Proofs.YtemomhanchiipaaGreatDoor

inductive TNode where
  | mk (name : Bytes) (attrs : List TAttr) (text : Bytes) (parts : List TNode)
namespace TNode
def name : TNode → Bytes | mk n _ _ _ => n
def attrs : TNode → List TAttr | mk _ a _ _ => a
def text : TNode → Bytes | mk _ _ t _ => t
def parts : TNode → List TNode | mk _ _ _ p => p
theorem eta (t : TNode) : TNode.mk t.name t.attrs t.text t.parts = t := by cases t; rfl
end TNode
def tText (t : Bytes) : TNode := .mk [] [] t []
def tElem (n : Bytes) (a : List TAttr) (ps : List TNode) : TNode := .mk n a [] ps

/-- An open element: its parts so far. -/
structure Fr where
  name : Bytes
  attrs : List TAttr
  done : List TNode

structure BSt where
  stack : List Fr
  count : Nat
  mute : Bytes

def nP : Bytes := [112]
def nLi : Bytes := [108, 105]
def nUl : Bytes := [117, 108]
def nOl : Bytes := [111, 108]
def blocksM : List Bytes := [[112], [100, 105, 118], [117, 108], [111, 108], [108, 105], [104, 49], [104, 50], [116, 97, 98, 108, 101], [98, 108, 111, 99, 107, 113, 117, 111, 116, 101]]
def voidsM : List Bytes := [[98, 114], [104, 114], [105, 109, 103], [105, 110, 112, 117, 116]]

/-- The place of the last open element of a name (the root is the place 0; 0: there is none). -/
def findM (n : Bytes) : List Fr → Nat
  | [] => 0
  | [_] => 0
  | f :: g :: r => if f.name = n then (g :: r).length else findM n (g :: r)

def addTop (l : List Fr) (t : TNode) : List Fr := match l with
  | [] => []
  | f :: r => { f with done := f.done ++ [t] } :: r
/-- The top is closed. -/
def popM : List Fr → List Fr
  | [] => []
  | [f] => [f]
  | f :: g :: r => { g with done := g.done ++ [tElem f.name f.attrs f.done] } :: r
def popN : Nat → List Fr → List Fr
  | 0, l => l
  | n + 1, l => popN n (popM l)
/-- An element and all within it are closed. -/
def closeM (i : Nat) (l : List Fr) : List Fr := if i = 0 then l else popN (l.length - i) l

def startA (b : BSt) (t : TTok) : List Fr := if blocksM.contains t.name then closeM (findM nP b.stack) b.stack else b.stack
def startB (s : List Fr) (t : TTok) : List Fr := if t.name = nLi ∧ findM nUl s < findM nLi s ∧ findM nOl s < findM nLi s then closeM (findM nLi s) s else s
def muteOf (t : TTok) : Bytes := if t.self = false ∧ (t.name = sScript ∨ t.name = sStyle) then t.name else []
def startC (s : List Fr) (c : Nat) (t : TTok) : BSt :=
  if 10 < s.length then ⟨s, c, muteOf t⟩
  else if t.self = true ∨ voidsM.contains t.name = true then ⟨addTop s (tElem t.name t.attrs []), c + 1, []⟩
  else ⟨⟨t.name, t.attrs, []⟩ :: s, c + 1, []⟩
def startM (b : BSt) (t : TTok) : BSt := startC (startB (startA b t) t) b.count t

def topName : List Fr → Bytes
  | [] => []
  | f :: _ => f.name
def addText (l : List TNode) (s : Bytes) : List TNode := match l.getLast? with
  | some (.mk [] a t ps) => l.dropLast ++ [.mk [] a (t ++ s) ps]
  | _ => l ++ [tText s]
/-- Is the last part a text? -/
def lastText (l : List TNode) : Bool := match l.getLast? with
  | some t => t.name == []
  | none => false
def charsM (b : BSt) (s : Bytes) : BSt :=
  if topName b.stack = sScript ∨ topName b.stack = sStyle ∨ s = [] ∨ b.mute ≠ [] then b
  else match b.stack with
    | [] => b
    | f :: r => ⟨{ f with done := addText f.done s } :: r, if lastText f.done then b.count else b.count + 1, b.mute⟩
def endM (b : BSt) (t : TTok) : BSt := ⟨closeM (findM t.name b.stack) b.stack, b.count, if t.name = b.mute then [] else b.mute⟩
def stepM (b : BSt) (t : TTok) : BSt := if t.kind = 1 then startM b t else if t.kind = 2 then endM b t else if t.kind = 3 then charsM b t.text else b
def initM : BSt := ⟨[⟨[], [], []⟩], 0, []⟩
def rootDone (l : List Fr) : List TNode := match popN (l.length - 1) l with
  | f :: _ => f.done
  | [] => []
def stepsM (l : List TTok) : BSt := l.foldl stepM initM
def buildM (l : List TTok) : List TNode := rootDone (stepsM l).stack

/- What the rows ask of trees. -/
mutual
def wordsN : TNode → Bytes
  | .mk _ _ t ps => t ++ wordsL ps
def wordsL : List TNode → Bytes
  | [] => []
  | t :: ts => wordsN t ++ wordsL ts
end
def inLiM (n : Bytes) (li : Bool) : Bool := if n = nUl ∨ n = nOl then false else if n = nLi then true else li
mutual
def closedN : TNode → Bool → Bool → Bool
  | .mk n _ _ ps, p, li => !((n == nP && p) || (n == nLi && li)) && closedL ps (p || n == nP) (inLiM n li)
def closedL : List TNode → Bool → Bool → Bool
  | [], _, _ => true
  | t :: ts, p, li => closedN t p li && closedL ts p li
end
mutual
def apartN : TNode → Bool
  | .mk n a t ps => if n = [] then !(t == []) && ps.isEmpty && a.isEmpty else t == [] && apartL false ps
def apartL : Bool → List TNode → Bool
  | _, [] => true
  | prev, t :: ts => !(prev && t.name == []) && apartN t && apartL (t.name == []) ts
end
mutual
def deepN : TNode → Nat
  | .mk _ _ _ ps => deepL ps + 1
def deepL : List TNode → Nat
  | [] => 0
  | t :: ts => max (deepN t) (deepL ts)
end
mutual
def countN : TNode → Nat
  | .mk _ _ _ ps => countL ps + 1
def countL : List TNode → Nat
  | [] => 0
  | t :: ts => countN t + countL ts
end

end Go.Proofs.YtemomhanchiipaaGreatDoor
