/- Joined texts: TModel TLawA TLawB TLawC TPure. -/
import Derived.Test.YtjkgmdnkejjppaaGreatDoorGa
/- Plain functions: nodes; what tree.Build computes. Nothing of the program here. -/
namespace Go.Proofs.YtjkgmdnkejjppaaGreatDoor

inductive TNode where
  | mk (name : Bytes) (attrs : List TAttr) (text : Bytes) (parts : List TNode)
namespace TNode
def name : TNode → Bytes | mk n _ _ _ => n
def attrs : TNode → List TAttr | mk _ a _ _ => a
def text : TNode → Bytes | mk _ _ t _ => t
def parts : TNode → List TNode | mk _ _ _ p => p
theorem eta (t : TNode) : TNode.mk t.name t.attrs t.text t.parts = t := by cases t; rfl
end TNode
def tText (t : Bytes) : TNode := .mk [] [] t []
def tElem (n : Bytes) (a : List TAttr) (ps : List TNode) : TNode := .mk n a [] ps

/-- An open element: its parts so far. -/
structure Fr where
  name : Bytes
  attrs : List TAttr
  done : List TNode

structure BSt where
  stack : List Fr
  count : Nat
  mute : Bytes

def nP : Bytes := [112]
def nLi : Bytes := [108, 105]
def nUl : Bytes := [117, 108]
def nOl : Bytes := [111, 108]
def blocksM : List Bytes := [[112], [100, 105, 118], [117, 108], [111, 108], [108, 105], [104, 49], [104, 50], [116, 97, 98, 108, 101], [98, 108, 111, 99, 107, 113, 117, 111, 116, 101]]
def voidsM : List Bytes := [[98, 114], [104, 114], [105, 109, 103], [105, 110, 112, 117, 116]]

/-- The place of the last open element of a name (the root is the place 0; 0: there is none). -/
def findM (n : Bytes) : List Fr → Nat
  | [] => 0
  | [_] => 0
  | f :: g :: r => if f.name = n then (g :: r).length else findM n (g :: r)

def addTop (l : List Fr) (t : TNode) : List Fr := match l with
  | [] => []
  | f :: r => { f with done := f.done ++ [t] } :: r
/-- The top is closed. -/
def popM : List Fr → List Fr
  | [] => []
  | [f] => [f]
  | f :: g :: r => { g with done := g.done ++ [tElem f.name f.attrs f.done] } :: r
def popN : Nat → List Fr → List Fr
  | 0, l => l
  | n + 1, l => popN n (popM l)
/-- An element and all within it are closed. -/
def closeM (i : Nat) (l : List Fr) : List Fr := if i = 0 then l else popN (l.length - i) l

def startA (b : BSt) (t : TTok) : List Fr := if blocksM.contains t.name then closeM (findM nP b.stack) b.stack else b.stack
def startB (s : List Fr) (t : TTok) : List Fr := if t.name = nLi ∧ findM nUl s < findM nLi s ∧ findM nOl s < findM nLi s then closeM (findM nLi s) s else s
def muteOf (t : TTok) : Bytes := if t.self = false ∧ (t.name = sScript ∨ t.name = sStyle) then t.name else []
def startC (s : List Fr) (c : Nat) (t : TTok) : BSt :=
  if 10 < s.length then ⟨s, c, muteOf t⟩
  else if t.self = true ∨ voidsM.contains t.name = true then ⟨addTop s (tElem t.name t.attrs []), c + 1, []⟩
  else ⟨⟨t.name, t.attrs, []⟩ :: s, c + 1, []⟩
def startM (b : BSt) (t : TTok) : BSt := startC (startB (startA b t) t) b.count t

def topName : List Fr → Bytes
  | [] => []
  | f :: _ => f.name
def addText (l : List TNode) (s : Bytes) : List TNode := match l.getLast? with
  | some (.mk [] a t ps) => l.dropLast ++ [.mk [] a (t ++ s) ps]
  | _ => l ++ [tText s]
/-- Is the last part a text? -/
def lastText (l : List TNode) : Bool := match l.getLast? with
  | some t => t.name == []
  | none => false
def charsM (b : BSt) (s : Bytes) : BSt :=
  if topName b.stack = sScript ∨ topName b.stack = sStyle ∨ s = [] ∨ b.mute ≠ [] then b
  else match b.stack with
    | [] => b
    | f :: r => ⟨{ f with done := addText f.done s } :: r, if lastText f.done then b.count else b.count + 1, b.mute⟩
def endM (b : BSt) (t : TTok) : BSt := ⟨closeM (findM t.name b.stack) b.stack, b.count, if t.name = b.mute then [] else b.mute⟩
def stepM (b : BSt) (t : TTok) : BSt := if t.kind = 1 then startM b t else if t.kind = 2 then endM b t else if t.kind = 3 then charsM b t.text else b
def initM : BSt := ⟨[⟨[], [], []⟩], 0, []⟩
def rootDone (l : List Fr) : List TNode := match popN (l.length - 1) l with
  | f :: _ => f.done
  | [] => []
def stepsM (l : List TTok) : BSt := l.foldl stepM initM
def buildM (l : List TTok) : List TNode := rootDone (stepsM l).stack

/- What the rows ask of trees. -/
mutual
def wordsN : TNode → Bytes
  | .mk _ _ t ps => t ++ wordsL ps
def wordsL : List TNode → Bytes
  | [] => []
  | t :: ts => wordsN t ++ wordsL ts
end
def inLiM (n : Bytes) (li : Bool) : Bool := if n = nUl ∨ n = nOl then false else if n = nLi then true else li
mutual
def closedN : TNode → Bool → Bool → Bool
  | .mk n _ _ ps, p, li => !((n == nP && p) || (n == nLi && li)) && closedL ps (p || n == nP) (inLiM n li)
def closedL : List TNode → Bool → Bool → Bool
  | [], _, _ => true
  | t :: ts, p, li => closedN t p li && closedL ts p li
end
mutual
def apartN : TNode → Bool
  | .mk n a t ps => if n = [] then !(t == []) && ps.isEmpty && a.isEmpty else t == [] && apartL false ps
def apartL : Bool → List TNode → Bool
  | _, [] => true
  | prev, t :: ts => !(prev && t.name == []) && apartN t && apartL (t.name == []) ts
end
mutual
def deepN : TNode → Nat
  | .mk _ _ _ ps => deepL ps + 1
def deepL : List TNode → Nat
  | [] => 0
  | t :: ts => max (deepN t) (deepL ts)
end
mutual
def countN : TNode → Nat
  | .mk _ _ _ ps => countL ps + 1
def countL : List TNode → Nat
  | [] => 0
  | t :: ts => countN t + countL ts
end

end Go.Proofs.YtjkgmdnkejjppaaGreatDoor
/- Plain laws of the builder's model: what stays true of its stack. -/
namespace Go.Proofs.YtjkgmdnkejjppaaGreatDoor

theorem wordsL_append (a b : List TNode) : wordsL (a ++ b) = wordsL a ++ wordsL b := by
  induction a with
  | nil => rfl
  | cons t a ih => show wordsN t ++ wordsL (a ++ b) = _; rw [ih, ← List.append_assoc]; rfl
theorem closedL_append (a b : List TNode) (p li : Bool) : closedL (a ++ b) p li = (closedL a p li && closedL b p li) := by
  induction a with
  | nil => rfl
  | cons t a ih => show (closedN t p li && closedL (a ++ b) p li) = _; rw [ih, ← Bool.and_assoc]; rfl
theorem deepL_append (a b : List TNode) : deepL (a ++ b) = max (deepL a) (deepL b) := by
  induction a with
  | nil => simp [deepL]
  | cons t a ih => show max (deepN t) (deepL (a ++ b)) = max (max (deepN t) (deepL a)) (deepL b); rw [ih]; omega
/-- Is the last one a text (or was the one ahead)? -/
def lastT (p : Bool) (a : List TNode) : Bool := match a.getLast? with
  | some t => t.name == []
  | none => p
theorem lastT_cons (p : Bool) (t x : TNode) (a : List TNode) : lastT p (t :: x :: a) = lastT (t.name == []) (x :: a) := by
  unfold lastT
  rw [List.getLast?_cons_cons]
  cases h : (x :: a).getLast? with
  | none => simp at h
  | some y => rfl
theorem apartL_append (p : Bool) (a b : List TNode) : apartL p (a ++ b) = (apartL p a && apartL (lastT p a) b) := by
  induction a generalizing p with
  | nil => simp [apartL, lastT]
  | cons t a ih =>
    show (!(p && t.name == []) && apartN t && apartL (t.name == []) (a ++ b)) = (!(p && t.name == []) && apartN t && apartL (t.name == []) a && _)
    rw [ih]
    cases a with
    | nil => simp [apartL, lastT]
    | cons x a => rw [lastT_cons]; simp only [Bool.and_assoc]

/-- What may be said of a stack: of each open element, and of those that it is in. -/
inductive Frames (P : List Fr → Prop) : List Fr → Prop
  | root (f : Fr) (h : P [f]) : Frames P [f]
  | cons (f g : Fr) (r : List Fr) (h : P (f :: g :: r)) (hr : Frames P (g :: r)) : Frames P (f :: g :: r)
theorem Frames.ne {P : List Fr → Prop} {l : List Fr} (h : Frames P l) : l ≠ [] := by cases h <;> simp
theorem Frames.head {P : List Fr → Prop} {f : Fr} {r : List Fr} (h : Frames P (f :: r)) : P (f :: r) := by cases h <;> assumption
theorem Frames.tail {P : List Fr → Prop} {f g : Fr} {r : List Fr} (h : Frames P (f :: g :: r)) : Frames P (g :: r) := by cases h; assumption

/-- What a stack's property must bear. -/
structure Stable (P : List Fr → Prop) : Prop where
  pop : ∀ f g r, P (f :: g :: r) → P (g :: r) → P ({ g with done := g.done ++ [tElem f.name f.attrs f.done] } :: r)
theorem Frames.pop {P : List Fr → Prop} (hP : Stable P) {l : List Fr} (h : Frames P l) : Frames P (popM l) := by
  cases h with
  | root f h => exact .root f h
  | cons f g r h hr =>
    have hg := hr.head
    have := hP.pop f g r h hg
    cases hr with
    | root _ _ => exact .root _ this
    | cons _ g2 r2 _ hr2 => exact .cons _ g2 r2 this hr2
theorem popM_len (l : List Fr) : (popM l).length = if 2 ≤ l.length then l.length - 1 else l.length := by
  match l with
  | [] => rfl
  | [_] => rfl
  | _ :: _ :: r => simp [popM]
theorem Frames.popN {P : List Fr → Prop} (hP : Stable P) : ∀ (n : Nat) {l : List Fr}, Frames P l → Frames P (popN n l)
  | 0, _, h => h
  | n + 1, _, h => Frames.popN hP n (h.pop hP)
theorem Frames.close {P : List Fr → Prop} (hP : Stable P) (i : Nat) {l : List Fr} (h : Frames P l) : Frames P (closeM i l) := by
  unfold closeM
  split
  · exact h
  · exact h.popN hP _

theorem findM_le (n : Bytes) (l : List Fr) : findM n l ≤ l.length - 1 := by
  match l with
  | [] => simp [findM]
  | [_] => simp [findM]
  | f :: g :: r =>
    unfold findM
    split
    · simp
    · have := findM_le n (g :: r)
      simp at this ⊢; omega

/-- A property of stacks that every step keeps, holds in the end. -/
theorem steps_keep (Q : BSt → Prop) (h0 : Q initM) (hs : ∀ b t, Q b → Q (stepM b t)) (l : List TTok) : Q (stepsM l) := by
  unfold stepsM
  have : ∀ (l : List TTok) (b : BSt), Q b → Q (l.foldl stepM b) := by
    intro l
    induction l with
    | nil => intro b h; exact h
    | cons t l ih => intro b h; exact ih _ (hs b t h)
  exact this l _ h0
theorem steps_keep_of (Q : BSt → Prop) (h0 : Q initM) (l : List TTok) (hs : ∀ b t, t ∈ l → Q b → Q (stepM b t)) : Q (stepsM l) := by
  unfold stepsM
  have : ∀ (l : List TTok) (b : BSt), (∀ b t, t ∈ l → Q b → Q (stepM b t)) → Q b → Q (l.foldl stepM b) := by
    intro l
    induction l with
    | nil => intro b _ h; exact h
    | cons t l ih => intro b hs h; exact ih _ (fun b t ht => hs b t (by simp [ht])) (hs b t (by simp) h)
  exact this l _ hs h0

theorem rootDone_of {P : List Fr → Prop} (hP : Stable P) {l : List Fr} (h : Frames P l) : ∃ f, P [f] ∧ rootDone l = f.done := by
  have h1 := h.popN hP (l.length - 1)
  have hlen : ∀ (n : Nat) (l : List Fr), 1 ≤ l.length → (popN n l).length = max 1 (l.length - n) := by
    intro n
    induction n with
    | zero => intro l h; simp [popN]; omega
    | succ n ih =>
      intro l h
      show (popN n (popM l)).length = _
      have h2 := popM_len l
      rw [ih _ (by rw [h2]; split <;> omega), h2]
      split <;> omega
  have h2 := hlen (l.length - 1) l (by cases l with | nil => exact absurd rfl h.ne | cons => simp)
  unfold rootDone
  generalize popN (l.length - 1) l = s at *
  match s, h1, h2 with
  | [f], h1, _ => exact ⟨f, h1.head, rfl⟩
  | [], h1, _ => exact absurd rfl h1.ne
  | _ :: _ :: _, _, h2 => simp at h2; omega

end Go.Proofs.YtjkgmdnkejjppaaGreatDoor
/- Plain laws of the builder's model: TreeText, TreeClosed, TreeDeep. -/
namespace Go.Proofs.YtjkgmdnkejjppaaGreatDoor

theorem stepM_count (b : BSt) (t : TTok) : (stepM b t).count ≤ b.count + 1 ∧ b.count ≤ (stepM b t).count := by
  unfold stepM
  split
  · unfold startM startC
    split
    · simp
    · split <;> simp
  · split
    · unfold endM; simp
    · split
      · unfold charsM
        split
        · simp
        · split
          · simp
          · simp only
            split <;> simp
      · simp
theorem steps_count (l : List TTok) : ∀ b : BSt, (l.foldl stepM b).count ≤ b.count + l.length ∧ b.count ≤ (l.foldl stepM b).count := by
  induction l with
  | nil => intro b; simp
  | cons t l ih =>
    intro b
    have h1 := stepM_count b t
    have h2 := ih (stepM b t)
    simp only [List.foldl_cons, List.length_cons]
    omega

/- Texts. -/
def wordsS : List Fr → Bytes
  | [] => []
  | f :: r => wordsS r ++ wordsL f.done
theorem wordsS_pop (l : List Fr) : wordsS (popM l) = wordsS l := by
  match l with
  | [] => rfl
  | [_] => rfl
  | f :: g :: r =>
    show wordsS r ++ wordsL (g.done ++ [tElem f.name f.attrs f.done]) = (wordsS r ++ wordsL g.done) ++ wordsL f.done
    rw [wordsL_append]
    have : wordsL [tElem f.name f.attrs f.done] = wordsL f.done := by
      show ([] ++ wordsL f.done) ++ [] = _
      simp
    rw [this, List.append_assoc]
theorem wordsS_popN (n : Nat) : ∀ l, wordsS (popN n l) = wordsS l := by
  induction n with
  | zero => intro l; rfl
  | succ n ih => intro l; show wordsS (popN n (popM l)) = _; rw [ih, wordsS_pop]
theorem wordsS_close (i : Nat) (l : List Fr) : wordsS (closeM i l) = wordsS l := by
  unfold closeM
  split
  · rfl
  · exact wordsS_popN _ _

def nm (l : List Fr) : List Bytes := l.map (·.name)
theorem nm_pop (l : List Fr) : nm (popM l) = if 2 ≤ l.length then (nm l).drop 1 else nm l := by
  match l with
  | [] => rfl
  | [_] => rfl
  | f :: g :: r => simp [popM, nm]
theorem nm_popN : ∀ (n : Nat) (l : List Fr), n + 1 ≤ l.length → nm (popN n l) = (nm l).drop n := by
  intro n
  induction n with
  | zero => intro l _; simp [popN]
  | succ n ih =>
    intro l h
    show nm (popN n (popM l)) = _
    rw [ih _ (by rw [popM_len, if_pos (by omega)]; omega), nm_pop, if_pos (by omega), List.drop_drop]
    congr 1; omega
def findNs (n : Bytes) : List Bytes → Nat
  | [] => 0
  | [_] => 0
  | x :: y :: r => if x = n then (y :: r).length else findNs n (y :: r)
theorem findM_ns (n : Bytes) : ∀ l : List Fr, findM n l = findNs n (nm l)
  | [] => rfl
  | [_] => rfl
  | f :: g :: r => by
    have := findM_ns n (g :: r)
    unfold findM
    show _ = (if f.name = n then (nm (g :: r)).length else findNs n (nm (g :: r)))
    rw [this]
    simp [nm]
theorem findNs_le (n : Bytes) : ∀ l : List Bytes, findNs n l ≤ l.length - 1
  | [] => by simp [findNs]
  | [_] => by simp [findNs]
  | x :: y :: r => by
    have := findNs_le n (y :: r)
    unfold findNs
    split
    · simp
    · simp at this ⊢; omega
def closeNs (i : Nat) (l : List Bytes) : List Bytes := if i = 0 then l else l.drop (l.length - i)
theorem nm_close (i : Nat) (l : List Fr) (h : i ≤ l.length - 1) : nm (closeM i l) = closeNs i (nm l) := by
  unfold closeM closeNs
  split
  · rfl
  · rw [nm_popN _ _ (by omega)]
    simp [nm]
theorem nm_find (n : Bytes) (l : List Fr) : nm (closeM (findM n l) l) = closeNs (findNs n (nm l)) (nm l) := by
  rw [nm_close _ _ (findM_le n l), findM_ns]
theorem closeNs_sub (i : Nat) (l : List Bytes) : ∀ x ∈ closeNs i l, x ∈ l := by
  intro x hx
  unfold closeNs at hx
  split at hx
  · exact hx
  · exact List.mem_of_mem_drop hx
theorem nm_close_sub (n : Bytes) (l : List Fr) : ∀ x ∈ nm (closeM (findM n l) l), x ∈ nm l := by
  rw [nm_find]; exact closeNs_sub _ _
theorem nm_startA (b : BSt) (t : TTok) : ∀ x ∈ nm (startA b t), x ∈ nm b.stack := by
  unfold startA
  split
  · exact nm_close_sub _ _
  · exact fun _ h => h
theorem nm_startB (s : List Fr) (t : TTok) : ∀ x ∈ nm (startB s t), x ∈ nm s := by
  unfold startB
  split
  · exact nm_close_sub _ _
  · exact fun _ h => h

theorem wordsL_addText (l : List TNode) (s : Bytes) (hl : ∀ n a t ps, l.getLast? = some (.mk n a t ps) → n = [] → ps = []) : wordsL (addText l s) = wordsL l ++ s := by
  unfold addText
  split
  · rename_i a t ps h
    have hp := hl _ _ _ _ h rfl
    subst hp
    obtain ⟨l', rfl⟩ : ∃ l', l = l' ++ [TNode.mk [] a t []] := by
      rcases List.eq_nil_or_concat l with rfl | ⟨l', x, rfl⟩
      · simp at h
      · rw [List.concat_eq_append] at *
        rw [List.getLast?_append] at h
        simp at h
        exact ⟨l', by rw [h]⟩
    rw [List.dropLast_concat, wordsL_append, wordsL_append]
    show wordsL l' ++ (((t ++ s) ++ []) ++ []) = wordsL l' ++ ((t ++ []) ++ []) ++ s
    simp
  · rw [wordsL_append]
    show _ ++ ((s ++ []) ++ []) = _
    simp

/-- Texts have no parts. -/
def LastOk (l : List TNode) : Prop := ∀ n a t ps, l.getLast? = some (.mk n a t ps) → n = [] → ps = []
theorem lastOk_elem (l : List TNode) (n : Bytes) (a : List TAttr) (ps : List TNode) (hn : n ≠ [] ∨ ps = []) : LastOk (l ++ [tElem n a ps]) := by
  intro n' a' t' ps' h h0
  rw [List.getLast?_append] at h
  simp [tElem] at h
  obtain ⟨rfl, rfl, rfl, rfl⟩ := h
  rcases hn with h | h
  · exact absurd h0 h
  · exact h
theorem lastOk_text (l : List TNode) (s : Bytes) (h : LastOk l) : LastOk (addText l s) := by
  unfold addText
  split
  · rename_i a t ps he
    have hp := h _ _ _ _ he rfl
    subst hp
    intro n' a' t' ps' h' _
    rw [List.getLast?_append] at h'
    simp at h'
    exact h'.2.2.2
  · intro n' a' t' ps' h' _
    rw [List.getLast?_append] at h'
    simp [tText] at h'
    exact h'.2.2.2

def PLast (l : List Fr) : Prop := match l with
  | [] => True
  | f :: r => LastOk f.done ∧ (r ≠ [] → f.name ≠ []) ∧ (r = [] → f.name = [])
theorem stable_last : Stable PLast := ⟨fun f g r h1 h2 => ⟨lastOk_elem _ _ _ _ (.inl (h1.2.1 (by simp))), h2.2.1, h2.2.2⟩⟩
/-- What one step keeps of a property of frames. -/
theorem frames_step {P : List Fr → Prop} (hP : Stable P) (b : BSt) (t : TTok) (h : Frames P b.stack)
    (hpush : ∀ s, Frames P s → s = startB (startA b t) t → s.length ≤ 10 → t.kind = 1 → P (⟨t.name, t.attrs, []⟩ :: s))
    (hvoid : ∀ f r, Frames P (f :: r) → f :: r = startB (startA b t) t → (f :: r).length ≤ 10 → t.kind = 1 → P ({ f with done := f.done ++ [tElem t.name t.attrs []] } :: r))
    (htext : ∀ f r, Frames P (f :: r) → f :: r = b.stack → t.kind = 3 → t.text ≠ [] → P ({ f with done := addText f.done t.text } :: r)) : Frames P (stepM b t).stack := by
  have hA : Frames P (startA b t) := by
    unfold startA
    split
    · exact h.close hP _
    · exact h
  have hB : Frames P (startB (startA b t) t) := by
    unfold startB
    split
    · exact hA.close hP _
    · exact hA
  have swap : ∀ {f : Fr} {r : List Fr} {f' : Fr}, Frames P (f :: r) → P (f' :: r) → Frames P (f' :: r) := by
    intro f r f' h1 h2
    cases r with
    | nil => exact .root _ h2
    | cons g r => exact .cons _ g r h2 h1.tail
  unfold stepM
  split
  · rename_i hk
    unfold startM startC
    split
    · exact hB
    · rename_i hlen
      split
      · cases hs : startB (startA b t) t with
        | nil => exact absurd hs hB.ne
        | cons f r =>
          rw [hs] at hB hlen
          exact swap hB (hvoid f r hB hs.symm (by omega) hk)
      · cases hs : startB (startA b t) t with
        | nil => exact absurd hs hB.ne
        | cons f r =>
          have := hpush _ hB rfl (by omega) hk
          rw [hs] at this hB
          exact .cons _ f r this hB
  · split
    · exact h.close hP _
    · split
      · rename_i hk
        unfold charsM
        split
        · exact h
        · rename_i hc
          split
          · rename_i hs; exact h
          · rename_i f r hs
            rw [hs] at h
            exact swap h (htext f r h hs.symm hk (fun h0 => hc (.inr (.inr (.inl h0)))))
      · exact h

theorem addTop_words (l : List Fr) (n : Bytes) (a : List TAttr) : wordsS (addTop l (tElem n a [])) = wordsS l := by
  cases l with
  | nil => rfl
  | cons f r =>
    show wordsS r ++ wordsL (f.done ++ [tElem n a []]) = _
    rw [wordsL_append]
    show wordsS r ++ (wordsL f.done ++ ([] ++ [])) = _
    simp; rfl

/-- Tokens without scripts and styles. -/
def Mild (t : TTok) : Prop := t.name ≠ sScript ∧ t.name ≠ sStyle ∧ (t.kind = 1 → t.name ≠ [])
structure TextInv (b : BSt) : Prop where
  mute : b.mute = []
  names : ∀ x ∈ nm b.stack, x ≠ sScript ∧ x ≠ sStyle
  last : Frames PLast b.stack
theorem textInv_init : TextInv initM := ⟨rfl, fun x hx => by cases List.mem_singleton.1 hx; decide, .root _ ⟨fun _ _ _ _ h => (by cases h), fun h => absurd rfl h, fun _ => rfl⟩⟩
theorem last_step (b : BSt) (t : TTok) (h : Frames PLast b.stack) (hn : t.kind = 1 → t.name ≠ []) : Frames PLast (stepM b t).stack := by
  refine frames_step stable_last b t h (fun s hs _ _ hk => ⟨fun _ _ _ _ h => (by cases h), fun _ => hn hk, fun h => absurd h hs.ne⟩) (fun f r hf _ _ hk => ?_) (fun f r hf _ _ _ => ?_)
  · obtain ⟨h1, h2, h3⟩ := hf.head
    exact ⟨lastOk_elem _ _ _ _ (.inl (hn hk)), h2, h3⟩
  · obtain ⟨h1, h2, h3⟩ := hf.head
    exact ⟨lastOk_text _ _ h1, h2, h3⟩
theorem words_step (b : BSt) (t : TTok) (h : TextInv b) (ht : Mild t) : TextInv (stepM b t) ∧ wordsS (stepM b t).stack = wordsS b.stack ++ (if t.kind = 3 then t.text else []) := by
  obtain ⟨hm, hn, hl⟩ := h
  have hl' := last_step b t hl ht.2.2
  have hsub : ∀ x ∈ nm (startB (startA b t) t), x ∈ nm b.stack := fun x hx => nm_startA b t x (nm_startB _ t x hx)
  have hw : wordsS (startB (startA b t) t) = wordsS b.stack := by
    have h1 : wordsS (startA b t) = wordsS b.stack := by unfold startA; split; exact wordsS_close _ _; rfl
    unfold startB
    split
    · rw [wordsS_close, h1]
    · exact h1
  unfold stepM at *
  split
  · rename_i hk
    rw [if_pos hk] at hl'
    have hk3 : ¬ t.kind = 3 := by omega
    rw [if_neg hk3, List.append_nil]
    have hmu : muteOf t = [] := by
      unfold muteOf
      rw [if_neg (fun h => h.2.elim ht.1 ht.2.1)]
    unfold startM startC at *
    split
    · exact ⟨⟨hmu, fun x hx => hn x (hsub x hx), by rename_i h; rw [if_pos h] at hl'; exact hl'⟩, hw⟩
    · rename_i h10
      rw [if_neg h10] at hl'
      split
      · rename_i hv
        rw [if_pos hv] at hl'
        refine ⟨⟨rfl, fun x hx => ?_, hl'⟩, by rw [addTop_words]; exact hw⟩
        have : nm (addTop (startB (startA b t) t) (tElem t.name t.attrs [])) = nm (startB (startA b t) t) := by
          cases startB (startA b t) t <;> rfl
        rw [show (BSt.mk (addTop (startB (startA b t) t) (tElem t.name t.attrs [])) (b.count + 1) []).stack = addTop (startB (startA b t) t) (tElem t.name t.attrs []) from rfl, this] at hx
        exact hn x (hsub x hx)
      · rename_i hv
        rw [if_neg hv] at hl'
        refine ⟨⟨rfl, fun x hx => ?_, hl'⟩, ?_⟩
        · rcases List.mem_cons.1 hx with rfl | hx
          · exact ⟨ht.1, ht.2.1⟩
          · exact hn x (hsub x hx)
        · show wordsS (startB (startA b t) t) ++ [] = _
          rw [List.append_nil]; exact hw
  · rename_i hk1
    rw [if_neg hk1] at hl'
    split
    · rename_i hk
      rw [if_pos hk] at hl'
      have hk3 : ¬ t.kind = 3 := by omega
      rw [if_neg hk3, List.append_nil]
      refine ⟨⟨?_, fun x hx => hn x (nm_close_sub _ _ x hx), hl'⟩, wordsS_close _ _⟩
      show (if t.name = b.mute then [] else b.mute) = []
      split
      · rfl
      · exact hm
    · rename_i hk2
      rw [if_neg hk2] at hl'
      split
      · rename_i hk
        rw [if_pos hk] at hl'
        unfold charsM at *
        by_cases hs : t.text = []
        · rw [if_pos (.inr (.inr (.inl hs)))]
          exact ⟨⟨hm, hn, hl⟩, by rw [hs, List.append_nil]⟩
        · cases hst : b.stack with
          | nil => exact absurd hst hl.ne
          | cons f r =>
            have hnf := hn f.name (by rw [hst]; simp [nm])
            have hno : ¬ (topName (f :: r) = sScript ∨ topName (f :: r) = sStyle ∨ t.text = [] ∨ b.mute ≠ []) := by
              rintro (h | h | h | h)
              · exact hnf.1 h
              · exact hnf.2 h
              · exact hs h
              · exact h hm
            rw [hst, if_neg hno] at hl'
            rw [if_neg hno]
            rw [hst] at hl hn
            refine ⟨⟨hm, fun x hx => hn x hx, hl'⟩, ?_⟩
            show wordsS r ++ wordsL (addText f.done t.text) = (wordsS r ++ wordsL f.done) ++ t.text
            rw [wordsL_addText _ _ hl.head.1, List.append_assoc]
      · exact ⟨⟨hm, hn, hl⟩, by simp⟩

def textsOf (l : List TTok) : Bytes := (l.map fun t => if t.kind = 3 then t.text else []).flatten
/-- What TreeText asks: texts of a tree are those of its tokens. -/
theorem words_law (l : List TTok) (h : ∀ t ∈ l, Mild t) : wordsL (buildM l) = textsOf l := by
  have key : ∀ (l : List TTok) (b : BSt), TextInv b → (∀ t ∈ l, Mild t) → TextInv (l.foldl stepM b) ∧ wordsS (l.foldl stepM b).stack = wordsS b.stack ++ textsOf l := by
    intro l
    induction l with
    | nil => intro b hb _; exact ⟨hb, by simp [textsOf]⟩
    | cons t l ih =>
      intro b hb h
      obtain ⟨h1, h2⟩ := words_step b t hb (h t (by simp))
      obtain ⟨h3, h4⟩ := ih (stepM b t) h1 (fun x hx => h x (by simp [hx]))
      refine ⟨h3, ?_⟩
      rw [List.foldl_cons, h4, h2, List.append_assoc]
      rfl
  obtain ⟨h1, h2⟩ := key l initM textInv_init h
  have h3 : wordsS initM.stack = [] := rfl
  rw [h3, List.nil_append] at h2
  unfold buildM stepsM
  rw [← h2, ← wordsS_popN ((l.foldl stepM initM).stack.length - 1)]
  obtain ⟨f, _, h5⟩ := rootDone_of stable_last h1.last
  have h6 := h1.last.popN stable_last ((l.foldl stepM initM).stack.length - 1)
  rw [h5]
  unfold rootDone at h5
  have hlen : ∀ (n : Nat) (l : List Fr), 1 ≤ l.length → (popN n l).length = max 1 (l.length - n) := by
    intro n
    induction n with
    | zero => intro l h; simp [popN]; omega
    | succ n ih =>
      intro l h
      show (popN n (popM l)).length = _
      have h2 := popM_len l
      rw [ih _ (by rw [h2]; split <;> omega), h2]
      split <;> omega
  have h7 := hlen ((l.foldl stepM initM).stack.length - 1) (l.foldl stepM initM).stack (by cases hs : (l.foldl stepM initM).stack with | nil => exact absurd hs h1.last.ne | cons => simp)
  generalize popN ((l.foldl stepM initM).stack.length - 1) (l.foldl stepM initM).stack = s at *
  match s, h5, h7 with
  | [g], h5, _ =>
    show _ = [] ++ wordsL g.done
    rw [List.nil_append]
    exact congrArg wordsL (Eq.symm h5)
  | [], _, h7 => simp at h7; omega
  | _ :: _ :: _, _, h7 => simp at h7; omega

end Go.Proofs.YtjkgmdnkejjppaaGreatDoor
/- Plain laws of the builder's model: TreeClosed, TreeDeep. -/
namespace Go.Proofs.YtjkgmdnkejjppaaGreatDoor

/- What is closed by itself. -/
def liNs : List Bytes → Bool
  | [] => false
  | x :: r => inLiM x (liNs r)
def PathOk : List Bytes → Prop
  | [] => True
  | [x] => x = []
  | x :: y :: r => ¬ (x = nP ∧ nP ∈ y :: r) ∧ ¬ (x = nLi ∧ liNs (y :: r) = true) ∧ PathOk (y :: r)

theorem findNs_cons (n x y : Bytes) (r : List Bytes) : findNs n (x :: y :: r) = if x = n then (y :: r).length else findNs n (y :: r) := rfl
theorem drop_cons (x : Bytes) (l : List Bytes) (i : Nat) (h : i ≤ l.length) : (x :: l).drop ((x :: l).length - i) = l.drop (l.length - i) := by
  rw [List.length_cons, show l.length + 1 - i = (l.length - i) + 1 by omega, List.drop_succ_cons]

theorem close_p : ∀ ns : List Bytes, PathOk ns → nP ∉ closeNs (findNs nP ns) ns
  | [], _ => by simp [closeNs, findNs]
  | [x], h => by
    have : x = [] := h
    subst this
    simp [closeNs, findNs, nP]
  | x :: y :: r, h => by
    obtain ⟨h1, h2, h3⟩ := h
    have ih := close_p (y :: r) h3
    rw [findNs_cons]
    by_cases hx : x = nP
    · rw [if_pos hx]
      unfold closeNs
      rw [if_neg (by simp), drop_cons _ _ _ (Nat.le_refl _), Nat.sub_self, List.drop_zero]
      exact fun hm => h1 ⟨hx, hm⟩
    · rw [if_neg hx]
      have hle := findNs_le nP (y :: r)
      generalize findNs nP (y :: r) = i at *
      unfold closeNs at *
      split
      · rename_i h0
        rw [if_pos h0] at ih
        intro hm
        rcases List.mem_cons.1 hm with h | h
        · exact hx h.symm
        · exact ih h
      · rename_i h0
        rw [if_neg h0] at ih
        rw [drop_cons _ _ _ (by omega)]
        exact ih

theorem close_li : ∀ ns : List Bytes, PathOk ns → liNs (if findNs nUl ns < findNs nLi ns ∧ findNs nOl ns < findNs nLi ns then closeNs (findNs nLi ns) ns else ns) = false
  | [], _ => rfl
  | [x], h => by
    have : x = [] := h
    subst this
    rfl
  | x :: y :: r, h => by
    obtain ⟨h1, h2, h3⟩ := h
    have ih := close_li (y :: r) h3
    have l1 := findNs_le nLi (y :: r)
    have l2 := findNs_le nUl (y :: r)
    have l3 := findNs_le nOl (y :: r)
    rw [findNs_cons, findNs_cons, findNs_cons]
    have d1 : nLi ≠ nUl := by decide
    have d2 : nLi ≠ nOl := by decide
    have d3 : nUl ≠ nOl := by decide
    by_cases hx : x = nLi
    · have e1 : ¬ x = nUl := by rw [hx]; exact d1
      have e2 : ¬ x = nOl := by rw [hx]; exact d2
      rw [if_pos hx, if_neg e1, if_neg e2]
      have : 0 < (y :: r).length := by simp
      rw [if_pos (by omega)]
      unfold closeNs
      rw [if_neg (by omega), drop_cons _ _ _ (Nat.le_refl _), Nat.sub_self, List.drop_zero]
      rw [← Bool.not_eq_true]
      exact fun hm => h2 ⟨hx, hm⟩
    · rw [if_neg hx]
      by_cases hu : x = nUl
      · have e2 : ¬ x = nOl := by rw [hu]; exact d3
        rw [if_pos hu, if_neg e2, if_neg (by omega)]
        show inLiM x _ = false
        unfold inLiM
        rw [if_pos (.inl hu)]
      · rw [if_neg hu]
        by_cases hol : x = nOl
        · rw [if_pos hol, if_neg (by omega)]
          show inLiM x _ = false
          unfold inLiM
          rw [if_pos (.inr hol)]
        · rw [if_neg hol]
          generalize findNs nLi (y :: r) = i at *
          have hin : ∀ b, inLiM x b = b := by
            intro b
            unfold inLiM
            rw [if_neg (fun h => h.elim hu hol), if_neg hx]
          split
          · rename_i hc
            rw [if_pos hc] at ih
            unfold closeNs at *
            rw [if_neg (by omega)] at ih ⊢
            rw [drop_cons _ _ _ (by omega)]
            exact ih
          · rename_i hc
            rw [if_neg hc] at ih
            show inLiM x (liNs (y :: r)) = false
            rw [hin]; exact ih

def PClosed (l : List Fr) : Prop := match l with
  | [] => True
  | f :: r => closedL f.done ((nm (f :: r)).contains nP) (liNs (nm (f :: r))) = true ∧ ¬ (f.name = nP ∧ nP ∈ nm r) ∧ ¬ (f.name = nLi ∧ liNs (nm r) = true) ∧ (r = [] → f.name = [])
theorem pathOk_of : ∀ l : List Fr, Frames PClosed l → PathOk (nm l)
  | [], _ => trivial
  | [_], h => h.head.2.2.2 rfl
  | _ :: g :: r, h => ⟨h.head.2.1, h.head.2.2.1, pathOk_of (g :: r) h.tail⟩

theorem contains_cons (x : Bytes) (l : List Bytes) : (x :: l).contains nP = (l.contains nP || x == nP) := by
  rw [List.contains_cons, Bool.or_comm]
  congr 1
  rw [Bool.eq_iff_iff, beq_iff_eq, beq_iff_eq]
  exact ⟨Eq.symm, Eq.symm⟩
theorem closed_elem (f : Fr) (l : List Bytes) (hd : closedL f.done ((f.name :: l).contains nP) (liNs (f.name :: l)) = true) (h1 : ¬ (f.name = nP ∧ nP ∈ l)) (h2 : ¬ (f.name = nLi ∧ liNs l = true)) :
    closedN (tElem f.name f.attrs f.done) (l.contains nP) (liNs l) = true := by
  show (!((f.name == nP && l.contains nP) || (f.name == nLi && liNs l)) && closedL f.done (l.contains nP || f.name == nP) (inLiM f.name (liNs l))) = true
  rw [contains_cons] at hd
  have hd' : closedL f.done (l.contains nP || f.name == nP) (inLiM f.name (liNs l)) = true := hd
  rw [hd', Bool.and_true, Bool.not_eq_true', Bool.or_eq_false_iff]
  constructor
  · rw [← Bool.not_eq_true]
    intro h
    simp only [Bool.and_eq_true, beq_iff_eq, List.contains_eq_mem, decide_eq_true_eq] at h
    exact h1 h
  · rw [← Bool.not_eq_true]
    intro h
    simp only [Bool.and_eq_true, beq_iff_eq] at h
    exact h2 h
theorem closed_snoc (l : List TNode) (t : TNode) (p li : Bool) (h1 : closedL l p li = true) (h2 : closedN t p li = true) : closedL (l ++ [t]) p li = true := by
  rw [closedL_append, h1, Bool.true_and]
  show (closedN t p li && true) = true
  rw [h2]; rfl
theorem stable_closed : Stable PClosed := ⟨fun f g r h1 h2 => ⟨closed_snoc _ _ _ _ h2.1 (closed_elem f (nm (g :: r)) h1.1 h1.2.1 h1.2.2.1), h2.2.1, h2.2.2.1, h2.2.2.2⟩⟩
theorem closed_text (l : List TNode) (s : Bytes) (p li : Bool) (h : closedL l p li = true) : closedL (addText l s) p li = true := by
  unfold addText
  split
  · rename_i a t ps he
    obtain ⟨l', rfl⟩ : ∃ l', l = l' ++ [TNode.mk [] a t ps] := by
      rcases List.eq_nil_or_concat l with rfl | ⟨l', x, rfl⟩
      · simp at he
      · rw [List.concat_eq_append] at *
        rw [List.getLast?_append] at he
        simp at he
        exact ⟨l', by rw [he]⟩
    rw [List.dropLast_concat]
    rw [closedL_append, Bool.and_eq_true] at h
    refine closed_snoc _ _ _ _ h.1 ?_
    have h2 := h.2
    have h3 : (closedN (TNode.mk [] a t ps) p li && true) = true := h2
    rw [Bool.and_true] at h3
    exact h3
  · refine closed_snoc _ _ _ _ h ?_
    rfl

theorem nm_ne {l : List Fr} (h : Frames PClosed l) : nm l ≠ [] := by
  intro h0
  exact h.ne (List.map_eq_nil_iff.1 h0)
theorem push_ok (b : BSt) (t : TTok) (h : Frames PClosed b.stack) : ¬ (t.name = nP ∧ nP ∈ nm (startB (startA b t) t)) ∧ ¬ (t.name = nLi ∧ liNs (nm (startB (startA b t) t)) = true) := by
  have hA : Frames PClosed (startA b t) := by
    unfold startA
    split
    · exact h.close stable_closed _
    · exact h
  constructor
  · rintro ⟨hn, hm⟩
    have h1 := nm_startB _ _ _ hm
    unfold startA at h1
    rw [if_pos (by rw [hn]; decide), nm_find] at h1
    exact close_p _ (pathOk_of _ h) h1
  · rintro ⟨hn, hm⟩
    have h1 := close_li _ (pathOk_of _ hA)
    unfold startB at hm
    rw [findM_ns, findM_ns, findM_ns] at hm
    by_cases hc : findNs nUl (nm (startA b t)) < findNs nLi (nm (startA b t)) ∧ findNs nOl (nm (startA b t)) < findNs nLi (nm (startA b t))
    · rw [if_pos ⟨hn, hc⟩, ← findM_ns, nm_find] at hm
      rw [if_pos hc] at h1
      rw [h1] at hm; cases hm
    · rw [if_neg (fun h => hc h.2)] at hm
      rw [if_neg hc] at h1
      rw [h1] at hm; cases hm

theorem closed_step (b : BSt) (t : TTok) (h : Frames PClosed b.stack) : Frames PClosed (stepM b t).stack := by
  obtain ⟨p1, p2⟩ := push_ok b t h
  refine frames_step stable_closed b t h (fun s hs he _ _ => ?_) (fun f r hf he _ _ => ?_) (fun f r hf _ _ _ => ?_)
  · subst he
    exact ⟨rfl, p1, p2, fun h => absurd h hs.ne⟩
  · rw [← he] at p1 p2
    obtain ⟨h1, h2, h3, h4⟩ := hf.head
    exact ⟨closed_snoc _ _ _ _ h1 (closed_elem ⟨t.name, t.attrs, []⟩ (nm (f :: r)) rfl p1 p2), h2, h3, h4⟩
  · obtain ⟨h1, h2, h3, h4⟩ := hf.head
    exact ⟨closed_text _ _ _ _ h1, h2, h3, h4⟩
/-- What TreeClosed asks. -/
theorem closed_law (l : List TTok) : closedL (buildM l) false false = true := by
  have h := steps_keep (fun b => Frames PClosed b.stack) (.root _ ⟨rfl, fun h => absurd h.2 (by simp [nm]), fun h => absurd h.2 (by simp [nm, liNs]), fun _ => rfl⟩) closed_step l
  obtain ⟨f, h1, h2⟩ := rootDone_of stable_closed h
  unfold buildM
  rw [h2]
  have h3 := h1.1
  have h4 := h1.2.2.2 rfl
  have e1 : (nm [f]).contains nP = false := by simp [nm, h4]; decide
  have e2 : liNs (nm [f]) = false := by show inLiM f.name false = false; rw [h4]; rfl
  rw [e1, e2] at h3
  exact h3

/- How deep; texts apart. -/
def PDeep (l : List Fr) : Prop := match l with
  | [] => True
  | f :: r => deepL f.done + r.length ≤ 11 ∧ apartL false f.done = true ∧ (r ≠ [] → f.name ≠ []) ∧ r.length ≤ 10
theorem apart_snoc_elem (l : List TNode) (n : Bytes) (a : List TAttr) (ps : List TNode) (hl : apartL false l = true) (hn : n ≠ []) (hp : apartL false ps = true) : apartL false (l ++ [tElem n a ps]) = true := by
  rw [apartL_append, hl, Bool.true_and]
  have hn2 : (n == []) = false := beq_eq_false_iff_ne.2 hn
  show (!(_ && n == []) && apartN (tElem n a ps) && true) = true
  rw [hn2, Bool.and_false, Bool.not_false, Bool.true_and, Bool.and_true]
  show (if n = [] then _ else (([] : Bytes) == []) && apartL false ps) = true
  rw [if_neg hn, hp]; rfl
theorem deep_snoc (l : List TNode) (t : TNode) : deepL (l ++ [t]) = max (deepL l) (deepN t) := by
  rw [deepL_append]
  show max (deepL l) (max (deepN t) 0) = _
  omega
theorem stable_deep : Stable PDeep := ⟨fun f g r h1 h2 => by
  obtain ⟨a1, a2, a3, a4⟩ := h1
  obtain ⟨b1, b2, b3, b4⟩ := h2
  refine ⟨?_, apart_snoc_elem _ _ _ _ b2 (a3 (by simp)) a2, b3, b4⟩
  show deepL (g.done ++ [tElem f.name f.attrs f.done]) + r.length ≤ 11
  rw [deep_snoc]
  have : deepN (tElem f.name f.attrs f.done) = deepL f.done + 1 := rfl
  simp at a1
  omega⟩
theorem apart_text (l : List TNode) (s : Bytes) (hs : s ≠ []) (h : apartL false l = true) : apartL false (addText l s) = true ∧ deepL (addText l s) ≤ max (deepL l) 1 := by
  unfold addText
  split
  · rename_i a t ps he
    obtain ⟨l', rfl⟩ : ∃ l', l = l' ++ [TNode.mk [] a t ps] := by
      rcases List.eq_nil_or_concat l with rfl | ⟨l', x, rfl⟩
      · simp at he
      · rw [List.concat_eq_append] at *
        rw [List.getLast?_append] at he
        simp at he
        exact ⟨l', by rw [he]⟩
    rw [List.dropLast_concat]
    rw [apartL_append, Bool.and_eq_true] at h
    obtain ⟨h1, h2⟩ := h
    refine ⟨?_, by rw [deep_snoc, deep_snoc]; show max _ (deepL ps + 1) ≤ max (max _ (deepL ps + 1)) 1; omega⟩
    rw [apartL_append, h1, Bool.true_and]
    generalize lastT false l' = pv at *
    have h3 : (!(pv && true) && (!(t == []) && ps.isEmpty && a.isEmpty) && true) = true := h2
    show (!(pv && true) && (!(t ++ s == []) && ps.isEmpty && a.isEmpty) && true) = true
    have h4 : (t ++ s == []) = false := beq_eq_false_iff_ne.2 (by simp [hs])
    simp only [Bool.and_true, Bool.and_eq_true] at h3 ⊢
    exact ⟨h3.1, ⟨by rw [h4]; rfl, h3.2.1.2⟩, h3.2.2⟩
  · rename_i hno
    refine ⟨?_, by rw [deep_snoc]; show max _ (0 + 1) ≤ _; omega⟩
    rw [apartL_append, h, Bool.true_and]
    have hs2 : (s == []) = false := beq_eq_false_iff_ne.2 hs
    have hlast : lastT false l = false := by
      unfold lastT
      cases hg : l.getLast? with
      | none => rfl
      | some x =>
        obtain ⟨n, a, t, ps⟩ := x
        show (n == []) = false
        rw [beq_eq_false_iff_ne]
        rintro rfl
        exact hno a t ps hg
    show (!(_ && true) && (!(s == []) && true && true) && true) = true
    rw [hlast, hs2]; rfl

theorem deep_step (b : BSt) (t : TTok) (h : Frames PDeep b.stack) (hn : t.kind = 1 → t.name ≠ []) : Frames PDeep (stepM b t).stack := by
  refine frames_step stable_deep b t h (fun s _ _ hl hk => ?_) (fun f r hf _ hl hk => ?_) (fun f r hf _ _ hs => ?_)
  · exact ⟨by show 0 + s.length ≤ 11; omega, rfl, fun _ => hn hk, hl⟩
  · obtain ⟨h1, h2, h3, h4⟩ := hf.head
    refine ⟨?_, apart_snoc_elem _ _ _ _ h2 (hn hk) rfl, h3, h4⟩
    show deepL (f.done ++ [tElem t.name t.attrs []]) + r.length ≤ 11
    rw [deep_snoc]
    have : deepN (tElem t.name t.attrs []) = 0 + 1 := rfl
    simp at hl
    omega
  · obtain ⟨h1, h2, h3, h4⟩ := hf.head
    obtain ⟨k1, k2⟩ := apart_text f.done t.text hs h2
    exact ⟨by show deepL (addText f.done t.text) + r.length ≤ 11; omega, k1, h3, h4⟩
/-- What TreeDeep asks. -/
theorem deep_law (l : List TTok) (hn : ∀ t ∈ l, t.kind = 1 → t.name ≠ []) : deepL (buildM l) ≤ 11 ∧ apartL false (buildM l) = true := by
  have h := steps_keep_of (fun b => Frames PDeep b.stack) (.root _ ⟨by show 0 + 0 ≤ 11; omega, rfl, fun h => absurd rfl h, by show 0 ≤ 10; omega⟩) l (fun b t ht hb => deep_step b t hb (hn t ht))
  obtain ⟨f, h1, h2⟩ := rootDone_of stable_deep h
  unfold buildM
  rw [h2]
  exact ⟨h1.1, h1.2.1⟩

end Go.Proofs.YtjkgmdnkejjppaaGreatDoor
/- How the builder's objects stand for its model's frames: by a map from blocks to records. Nothing of the program here. -/
namespace Go.Proofs.YtjkgmdnkejjppaaGreatDoor

/-- What an object holds: its node's block (none: a text, or the root), name, attributes, text, parts. -/
structure ORec where
  nb : Option Nat
  name : Bytes
  attrs : List TAttr
  text : Bytes
  kids : List Nat
abbrev OMap := Nat → Option ORec
def OMap.put (H : OMap) (b : Nat) (r : ORec) : OMap := fun x => if x = b then some r else H x
theorem OMap.put_same (H : OMap) (b : Nat) (r : ORec) : H.put b r b = some r := if_pos rfl
theorem OMap.put_other (H : OMap) {b x : Nat} (r : ORec) (h : x ≠ b) : H.put b r x = H x := if_neg h

mutual
/-- A closed tree at a block; all that is in it lies below a bound. -/
inductive TreeIn : OMap → Nat → TNode → Nat → Prop
  | text (H : OMap) (b : Nat) (t : Bytes) (hi : Nat) (h : H b = some ⟨none, [], [], t, []⟩) (hb : b < hi) : TreeIn H b (tText t) hi
  | elem (H : OMap) (b nb : Nat) (n : Bytes) (a : List TAttr) (ks : List Nat) (ps : List TNode) (hi : Nat) (h : H b = some ⟨some nb, n, a, [], ks⟩) (hn : n ≠ []) (hk : KidsIn H (b + 1) ks ps hi) : TreeIn H b (tElem n a ps) hi
/-- Trees at blocks, each behind the one ahead. -/
inductive KidsIn : OMap → Nat → List Nat → List TNode → Nat → Prop
  | nil (H : OMap) (lo hi : Nat) (h : lo ≤ hi) : KidsIn H lo [] [] hi
  | cons (H : OMap) (lo k mid hi : Nat) (ks : List Nat) (t : TNode) (ts : List TNode) (hlo : lo ≤ k) (ht : TreeIn H k t mid) (hk : KidsIn H mid ks ts hi) : KidsIn H lo (k :: ks) (t :: ts) hi
end

mutual
theorem TreeIn.lt {H : OMap} : ∀ {b : Nat} {t : TNode} {hi : Nat}, TreeIn H b t hi → b < hi
  | _, _, _, .text _ _ _ _ _ hb => hb
  | _, _, _, .elem _ _ _ _ _ _ _ _ _ _ hk => by have := hk.le; omega
theorem KidsIn.le {H : OMap} : ∀ {lo : Nat} {ks : List Nat} {ts : List TNode} {hi : Nat}, KidsIn H lo ks ts hi → lo ≤ hi
  | _, _, _, _, .nil _ _ _ h => h
  | _, _, _, _, .cons _ _ _ _ _ _ _ _ hlo ht hk => by have := ht.lt; have := hk.le; omega
end
mutual
theorem TreeIn.same {H H' : OMap} : ∀ {b : Nat} {t : TNode} {hi : Nat}, TreeIn H b t hi → (∀ x, b ≤ x → x < hi → H' x = H x) → TreeIn H' b t hi
  | _, _, _, .text _ b _ hi h hb, hs => .text _ b _ hi ((hs b (Nat.le_refl _) hb).trans h) hb
  | _, _, _, .elem _ b nb n a ks ps hi h hn hk, hs => .elem _ b nb n a ks ps hi ((hs b (Nat.le_refl _) (by have := hk.le; omega)).trans h) hn (hk.same fun x h1 h2 => hs x (by omega) h2)
theorem KidsIn.same {H H' : OMap} : ∀ {lo : Nat} {ks : List Nat} {ts : List TNode} {hi : Nat}, KidsIn H lo ks ts hi → (∀ x, lo ≤ x → x < hi → H' x = H x) → KidsIn H' lo ks ts hi
  | _, _, _, _, .nil _ lo hi h, _ => .nil _ lo hi h
  | _, _, _, _, .cons _ lo k mid hi ks t ts hlo ht hk, hs => .cons _ lo k mid hi ks t ts hlo (ht.same fun x h1 h2 => hs x (by omega) (by have := hk.le; omega)) (hk.same fun x h1 h2 => hs x (by have := ht.lt; omega) h2)
end
mutual
theorem TreeIn.mono {H : OMap} : ∀ {b : Nat} {t : TNode} {hi hi' : Nat}, TreeIn H b t hi → hi ≤ hi' → TreeIn H b t hi'
  | _, _, _, hi', .text _ b _ hi h hb, hh => .text _ b _ hi' h (by omega)
  | _, _, _, hi', .elem _ b nb n a ks ps hi h hn hk, hh => .elem _ b nb n a ks ps hi' h hn (hk.mono hh)
theorem KidsIn.mono {H : OMap} : ∀ {lo : Nat} {ks : List Nat} {ts : List TNode} {hi hi' : Nat}, KidsIn H lo ks ts hi → hi ≤ hi' → KidsIn H lo ks ts hi'
  | _, _, _, _, hi', .nil _ lo hi h, hh => .nil _ lo hi' (by omega)
  | _, _, _, _, hi', .cons _ lo k mid hi ks t ts hlo ht hk, hh => .cons _ lo k mid hi' ks t ts hlo ht (hk.mono hh)
end
theorem KidsIn.snoc {H : OMap} : ∀ {lo : Nat} {ks : List Nat} {ts : List TNode} {hi k : Nat} {t : TNode} {hi' : Nat}, KidsIn H lo ks ts hi → hi ≤ k → TreeIn H k t hi' → KidsIn H lo (ks ++ [k]) (ts ++ [t]) hi'
  | _, _, _, _, k, t, hi', .nil _ lo hi h, hk, ht => .cons _ lo k hi' hi' [] t [] (by omega) ht (.nil _ _ _ (Nat.le_refl _))
  | _, _, _, _, k, t, hi', .cons _ lo k0 mid hi ks t0 ts hlo ht0 hk0, hk, ht => .cons _ lo k0 mid hi' (ks ++ [k]) t0 (ts ++ [t]) hlo ht0 (hk0.snoc hk ht)
theorem KidsIn.len {H : OMap} : ∀ {lo : Nat} {ks : List Nat} {ts : List TNode} {hi : Nat}, KidsIn H lo ks ts hi → ks.length = ts.length
  | _, _, _, _, .nil _ _ _ _ => rfl
  | _, _, _, _, .cons _ _ _ _ _ _ _ _ _ _ hk => by rw [List.length_cons, List.length_cons, hk.len]
/-- The last one apart. -/
theorem KidsIn.unsnoc {H : OMap} {t : TNode} : ∀ {ts : List TNode} {lo : Nat} {ks : List Nat} {hi : Nat}, KidsIn H lo ks (ts ++ [t]) hi → ∃ ks' k mid, ks = ks' ++ [k] ∧ KidsIn H lo ks' ts mid ∧ mid ≤ k ∧ TreeIn H k t hi := by
  intro ts
  induction ts with
  | nil =>
    intro lo ks hi h
    cases h with
    | cons _ k mid _ ks _ _ hlo ht hk =>
      cases hk with
      | nil _ _ h => exact ⟨[], k, lo, rfl, .nil _ _ _ (Nat.le_refl _), hlo, ht.mono h⟩
  | cons t0 ts ih =>
    intro lo ks hi h
    cases h with
    | cons _ k mid _ ks _ _ hlo ht hk =>
      obtain ⟨ks', k', mid', rfl, h1, h2, h3⟩ := ih hk
      exact ⟨k :: ks', k', mid', rfl, .cons _ _ _ _ _ _ _ _ hlo ht h1, h2, h3⟩
theorem KidsIn.get {H : OMap} : ∀ {ts : List TNode} {lo : Nat} {ks : List Nat} {hi : Nat}, KidsIn H lo ks ts hi → ∀ (i : Nat) (t : TNode), ts[i]? = some t → ∃ k mid, ks[i]? = some k ∧ TreeIn H k t mid ∧ lo ≤ k ∧ mid ≤ hi := by
  intro ts
  induction ts with
  | nil => intro lo ks hi h i t hi; simp at hi
  | cons t0 ts ih =>
    intro lo ks hi h i t hit
    cases h with
    | cons _ k mid _ ks _ _ hlo ht hk =>
      cases i with
      | zero => simp at hit; subst hit; exact ⟨k, mid, rfl, ht, hlo, hk.le⟩
      | succ i =>
        obtain ⟨k', mid', h1, h2, h3, h4⟩ := ih hk i t (by simpa using hit)
        exact ⟨k', mid', by simpa using h1, h2, by have := ht.lt; omega, h4⟩

/-- The stack: blocks and frames, the top first; the next open one (none: this is the top); what is closed lies below the bound. -/
inductive Stk (H : OMap) : Option Nat → Nat → List Nat → List Fr → Prop
  | root (b : Nat) (f : Fr) (ks : List Nat) (c : Option Nat) (hi : Nat) (h : H b = some ⟨none, [], [], [], ks ++ c.toList⟩) (hk : KidsIn H (b + 1) ks f.done hi) (hn : f.name = []) : Stk H c hi [b] [f]
  | cons (b nb : Nat) (f : Fr) (ks : List Nat) (c : Option Nat) (hi : Nat) (bs : List Nat) (fs : List Fr) (h : H b = some ⟨some nb, f.name, f.attrs, [], ks ++ c.toList⟩) (hn : f.name ≠ []) (hk : KidsIn H (b + 1) ks f.done hi) (hr : Stk H (some b) b bs fs) : Stk H c hi (b :: bs) (f :: fs)
theorem Stk.len {H : OMap} {c : Option Nat} {hi : Nat} {bs : List Nat} {fs : List Fr} (h : Stk H c hi bs fs) : bs.length = fs.length := by
  induction h with
  | root => rfl
  | cons _ _ _ _ _ _ _ _ _ _ _ _ ih => rw [List.length_cons, List.length_cons, ih]
theorem Stk.mono {H : OMap} {c : Option Nat} {hi hi' : Nat} {bs : List Nat} {fs : List Fr} (h : Stk H c hi bs fs) (hh : hi ≤ hi') : Stk H c hi' bs fs := by
  cases h with
  | root b f ks c hi h hk hn => exact .root b f ks c hi' h (hk.mono hh) hn
  | cons b nb f ks c hi bs fs h hn hk hr => exact .cons b nb f ks c hi' bs fs h hn (hk.mono hh) hr
/-- What lies above the bound does not matter. -/
theorem Stk.same {H H' : OMap} {c : Option Nat} {hi : Nat} {bs : List Nat} {fs : List Fr} (h : Stk H c hi bs fs) : (∀ x, x < hi → H' x = H x) → Stk H' c hi bs fs := by
  induction h with
  | root b f ks c hi h hk hn => exact fun hs => .root b f ks c hi ((hs b (by have := hk.le; omega)).trans h) (hk.same fun x _ h2 => hs x h2) hn
  | cons b nb f ks c hi bs fs h hn hk hr ih => exact fun hs => .cons b nb f ks c hi bs fs ((hs b (by have := hk.le; omega)).trans h) hn (hk.same fun x _ h2 => hs x h2) (ih fun x hx => hs x (by have := hk.le; omega))
/-- The top is closed. -/
theorem Stk.pop {H : OMap} {hi b b' : Nat} {bs : List Nat} {f f' : Fr} {fs : List Fr} (h : Stk H none hi (b :: b' :: bs) (f :: f' :: fs)) : Stk H none hi (b' :: bs) (popM (f :: f' :: fs)) := by
  cases h with
  | cons b nb f ks c hi bs fs h hn hk hr =>
    simp only [Option.toList_none, List.append_nil] at h
    have ht : TreeIn H b (tElem f.name f.attrs f.done) hi := .elem H b nb f.name f.attrs ks f.done hi h hn hk
    cases hr with
    | root _ _ ks' _ _ h' hk' hn' => exact .root b' _ (ks' ++ [b]) none hi (by simpa using h') (hk'.snoc (Nat.le_refl _) ht) hn'
    | cons _ nb' _ ks' _ _ _ _ h' hn' hk' hr' => exact .cons b' nb' { f' with done := f'.done ++ [tElem f.name f.attrs f.done] } (ks' ++ [b]) none hi _ _ (by simpa using h') hn' (hk'.snoc (Nat.le_refl _) ht) hr'
theorem Stk.popN {H : OMap} {hi : Nat} : ∀ (n : Nat) {bs : List Nat} {fs : List Fr}, Stk H none hi bs fs → n + 1 ≤ fs.length → Stk H none hi (bs.drop n) (popN n fs)
  | 0, _, _, h, _ => h
  | n + 1, bs, fs, h, hn => by
    match bs, fs, h, hn with
    | b :: b' :: bs, f :: f' :: fs, h, hn => exact Stk.popN n h.pop (by simp [popM] at hn ⊢; omega)
    | [], _, h, _ => cases h
    | [_], f :: f' :: fs, h, _ => have := h.len; simp at this
    | _ :: _ :: _, [], h, _ => cases h
    | _, [f], h, hn => simp at hn
theorem Stk.close {H : OMap} {hi : Nat} {bs : List Nat} {fs : List Fr} (h : Stk H none hi bs fs) (i : Nat) (hi' : i ≤ fs.length) : Stk H none hi (if i = 0 then bs else bs.drop (bs.length - i)) (closeM i fs) := by
  unfold closeM
  split
  · exact h
  · rw [h.len]
    exact h.popN _ (by omega)
/-- The top's record. -/
theorem Stk.top {H : OMap} {hi b : Nat} {bs : List Nat} {f : Fr} {fs : List Fr} (h : Stk H none hi (b :: bs) (f :: fs)) :
    ∃ nb ks, H b = some ⟨nb, f.name, (if nb.isSome then f.attrs else []), [], ks⟩ ∧ KidsIn H (b + 1) ks f.done hi ∧ b < hi ∧ (nb = none ↔ fs = []) ∧ (f.name = [] ↔ nb = none) := by
  cases h with
  | root _ _ ks _ _ h hk hn => exact ⟨none, ks, by rw [hn]; simpa using h, hk, by have := hk.le; omega, ⟨fun _ => rfl, fun _ => rfl⟩, ⟨fun _ => rfl, fun _ => hn⟩⟩
  | cons _ nb _ ks _ _ _ _ h hn hk hr =>
    refine ⟨some nb, ks, by simpa using h, hk, by have := hk.le; omega, ⟨fun h => (by cases h), fun h => ?_⟩, ⟨fun h => absurd h hn, fun h => (by cases h)⟩⟩
    have := hr.len
    subst h
    cases hr
/-- The top's record is another one, its done parts too. -/
theorem Stk.retop {H H' : OMap} {hi hi' b : Nat} {bs : List Nat} {f f' : Fr} {fs : List Fr} (h : Stk H none hi (b :: bs) (f :: fs)) (r r' : ORec) (hr : H b = some r) (hr' : H' b = some r')
    (h1 : r'.nb = r.nb) (h2 : r'.name = r.name) (h3 : r'.attrs = r.attrs) (h4 : r'.text = r.text) (hf : f'.name = f.name) (hfa : f'.attrs = f.attrs) (hk : KidsIn H' (b + 1) r'.kids f'.done hi') (hs : ∀ x, x < b → H' x = H x) : Stk H' none hi' (b :: bs) (f' :: fs) := by
  obtain ⟨q1, q2, q3, q4, q5⟩ := r'
  cases h with
  | root _ _ ks _ _ h hk0 hn =>
    rw [h] at hr
    cases hr
    simp only at h1 h2 h3 h4 hk
    subst h1 h2 h3 h4
    exact .root b f' q5 none hi' (by simpa using hr') hk (by rw [hf]; exact hn)
  | cons _ nb _ ks _ _ _ _ h hn hk0 hr0 =>
    rw [h] at hr
    cases hr
    simp only at h1 h2 h3 h4 hk
    subst h1 h2 h3 h4
    exact .cons b nb f' q5 none hi' _ _ (by rw [hf, hfa]; simpa using hr') (by rw [hf]; exact hn) hk (hr0.same hs)
/-- A new element is opened. -/
theorem Stk.push {H H' : OMap} {hi hi' b k nb : Nat} {bs : List Nat} {f : Fr} {fs : List Fr} (h : Stk H none hi (b :: bs) (f :: fs)) (r : ORec) (hr : H b = some r) (n : Bytes) (a : List TAttr) (hn : n ≠ [])
    (hk : hi ≤ k) (hk' : k + 1 ≤ hi') (hb : H' b = some { r with kids := r.kids ++ [k] }) (hnew : H' k = some ⟨some nb, n, a, [], []⟩) (hs : ∀ x, x < hi → x ≠ b → H' x = H x) :
    Stk H' none hi' (k :: b :: bs) (⟨n, a, []⟩ :: f :: fs) := by
  refine .cons k nb ⟨n, a, []⟩ [] none hi' _ _ (by simpa using hnew) hn (.nil _ _ _ hk') ?_
  cases h with
  | root _ _ ks _ _ h hk0 hn0 =>
    rw [h] at hr
    cases hr
    exact .root b f ks (some k) k (by simpa using hb) ((hk0.same fun x h1 h2 => hs x h2 (by omega)).mono hk) hn0
  | cons _ nb _ ks _ _ _ _ h hn0 hk0 hr0 =>
    rw [h] at hr
    cases hr
    have hlt := hk0.le
    exact .cons b nb f ks (some k) k _ _ (by simpa using hb) hn0 ((hk0.same fun x h1 h2 => hs x h2 (by omega)).mono hk) (hr0.same fun x hx => hs x (by omega) (by omega))

end Go.Proofs.YtjkgmdnkejjppaaGreatDoor
