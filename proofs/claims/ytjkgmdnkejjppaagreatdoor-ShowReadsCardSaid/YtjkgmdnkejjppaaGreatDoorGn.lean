/- Joined texts: HLaw HWalkA HWalkB. -/
import Derived.Test.YtjkgmdnkejjppaaGreatDoorGa
import Derived.Test.YtjkgmdnkejjppaaGreatDoorGj
import Derived.Test.YtjkgmdnkejjppaaGreatDoorGm
import Derived.Test.YtjkgmdnkejjppaaGreatDoorJTCount
/- Trees as texts: what show.Check, show.Text and show.Read compute; a tree comes back from its text. Nothing of the program here. -/
namespace Go.Proofs.YtjkgmdnkejjppaaGreatDoor

def isVoid (n : Bytes) : Bool := voidsM.contains n
mutual
def faultN : Nat → Bool → TNode → Int
  | d, p, .mk n a t ps =>
    if 10 ≤ d then 6
    else if n = [] then (if !a.isEmpty || !ps.isEmpty || t == [] || p then 4 else 0)
    else if nameM n = false then 5
    else if attrsM a ≠ 0 then attrsM a
    else if !(t == []) || (isVoid n && !ps.isEmpty) || isRaw n then 4
    else faultL (d + 1) false ps
def faultL : Nat → Bool → List TNode → Int
  | _, _, [] => 0
  | d, p, t :: ts => if faultN d p t ≠ 0 then faultN d p t else faultL d (t.name == []) ts
end
mutual
def ofN : TNode → Bytes
  | .mk n a t ps => if n = [] then escM false t else if isVoid n then tagText n a false else tagText n a false ++ (ofL ps ++ (60 :: 47 :: n ++ [62]))
def ofL : List TNode → Bytes
  | [] => []
  | t :: ts => ofN t ++ ofL ts
end
def checkS (l : List TNode) : Int := if faultL 0 false l ≠ 0 then faultL 0 false l else if 150 < countL l then 1 else 0
def textS (l : List TNode) : Bytes × Int := if checkS l ≠ 0 then ([], checkS l) else if 600 < (ofL l).length then ([], 1) else (ofL l, 0)
mutual
def tkN : TNode → List TTok
  | .mk n a t ps => if n = [] then [chars t] else if isVoid n then [⟨1, n, a, false, []⟩] else ⟨1, n, a, false, []⟩ :: (tkL ps ++ [⟨2, n, [], false, []⟩])
def tkL : List TNode → List TTok
  | [] => []
  | t :: ts => tkN t ++ tkL ts
end
theorem ofL_append : ∀ (a b : List TNode), ofL (a ++ b) = ofL a ++ ofL b
  | [], _ => by rw [ofL]; rfl
  | t :: a, b => by rw [List.cons_append, ofL, ofL, ofL_append a b, List.append_assoc]
theorem ofN_of (t : TNode) : ofN t = if t.name = [] then escM false t.text else if isVoid t.name then tagText t.name t.attrs false else tagText t.name t.attrs false ++ (ofL t.parts ++ (60 :: 47 :: t.name ++ [62])) := by
  obtain ⟨n, a, s, ps⟩ := t; rw [ofN]; rfl
theorem ofL_take (l : List TNode) (k : Nat) (t : TNode) (h : l[k]? = some t) : ofL (l.take (k + 1)) = ofL (l.take k) ++ ofN t := by
  rw [List.take_add_one, h, ofL_append]
  show _ ++ ofL [t] = _
  rw [ofL, ofL, List.append_nil]
mutual
theorem tk_of : ∀ t : TNode, tokTexts (tkN t) = ofN t
  | .mk n a t ps => by
    rw [tkN, ofN]
    split
    · simp [tokTexts, tokText, chars]
    · split
      · simp [tokTexts, tokText]
      · rw [tokTexts, tokTexts_append, tk_ofL ps, tokTexts, tokTexts]
        simp [tokText]
theorem tk_ofL : ∀ l : List TNode, tokTexts (tkL l) = ofL l
  | [] => by rw [tkL, ofL]; rfl
  | t :: l => by rw [tkL, ofL, tokTexts_append, tk_of t, tk_ofL l]
end

/-- What a node that may be written meets. -/
theorem fault_text {d : Nat} {p : Bool} {t : TNode} (h : faultN d p t = 0) (hn : t.name = []) : d < 10 ∧ t.attrs = [] ∧ t.parts = [] ∧ t.text ≠ [] ∧ p = false := by
  obtain ⟨n, a, s, ps⟩ := t
  cases (show n = [] from hn)
  rw [faultN] at h
  split at h
  · cases h
  rename_i h10
  rw [if_pos rfl] at h
  split at h
  · cases h
  rename_i hx
  simp only [Bool.or_eq_true, Bool.not_eq_true', List.isEmpty_eq_false_iff, beq_iff_eq, not_or, ne_eq, Decidable.not_not, Bool.not_eq_true] at hx
  exact ⟨by omega, hx.1.1.1, hx.1.1.2, hx.1.2, hx.2⟩
theorem fault_elem {d : Nat} {p : Bool} {t : TNode} (h : faultN d p t = 0) (hn : t.name ≠ []) : d < 10 ∧ nameM t.name = true ∧ attrsM t.attrs = 0 ∧ t.text = [] ∧ (isVoid t.name = true → t.parts = []) ∧ isRaw t.name = false ∧ faultL (d + 1) false t.parts = 0 := by
  obtain ⟨n, a, s, ps⟩ := t
  rw [faultN] at h
  split at h
  · cases h
  rename_i h10
  rw [if_neg (show ¬ n = [] from hn)] at h
  split at h
  · cases h
  rename_i hnm
  split at h
  · rename_i ha; exact absurd h ha
  rename_i ha
  split at h
  · cases h
  rename_i hx
  simp only [Bool.or_eq_true, Bool.and_eq_true, Bool.not_eq_true', beq_eq_false_iff_ne, List.isEmpty_eq_false_iff, not_or, ne_eq, Decidable.not_not, not_and, Bool.not_eq_true] at hx
  refine ⟨by omega, (show nameM n = true by simpa using hnm), (show attrsM a = 0 by simpa using ha), hx.1.1, fun hv => ?_, hx.2, h⟩
  exact hx.1.2 hv
theorem faultL_cons {d : Nat} {p : Bool} {t : TNode} {l : List TNode} (h : faultL d p (t :: l) = 0) : faultN d p t = 0 ∧ faultL d (t.name == []) l = 0 := by
  rw [faultL] at h
  split at h
  · rename_i hx; exact absurd h hx
  · rename_i hx; exact ⟨by simpa using hx, h⟩

def kindN (t : TNode) : Int := if t.name = [] then 3 else if isVoid t.name then 1 else 2
def lastK : Int → List TNode → Int
  | k, [] => k
  | _, t :: ts => lastK (kindN t) ts
theorem fail_start (n : Bytes) (a : List TAttr) (last : Int) (r : List TTok) (h1 : nameM n = true) (h2 : attrsM a = 0) (h3 : isRaw n = false) : failAt ⟨1, n, a, false, []⟩ last r = 0 := by
  unfold failAt
  rw [if_neg (by simp), if_neg (by simp [h1]), if_neg (by simp [h2])]
  rw [if_neg]
  have e : oddM ⟨1, n, a, false, []⟩ last r = (!(([] : Bytes) == []) || (isRaw n && !closedBy n r)) := rfl
  rw [e, h3]; simp
theorem fail_stop (n : Bytes) (last : Int) (r : List TTok) (h1 : nameM n = true) : failAt ⟨2, n, [], false, []⟩ last r = 0 := by
  unfold failAt
  rw [if_neg (by simp), if_neg (by simp [h1]), if_neg (by simp [attrsM, twiceM])]
  rfl
theorem fail_chars (x : Bytes) (last : Int) (r : List TTok) (h1 : x ≠ []) (h3 : last ≠ 3) : failAt (chars x) last r = 0 := by
  unfold failAt chars
  rw [if_neg (by simp), if_neg (by simp), if_neg (by simp)]
  rw [if_neg]
  have e : oddM ⟨3, [], [], false, x⟩ last r = (x == [] || !(([] : Bytes) == []) || !([] : List TAttr).isEmpty || false || last == 3) := rfl
  rw [e, beq_eq_false_iff_ne.2 h1, beq_eq_false_iff_ne.2 h3]; simp
theorem checkFrom_pass {last : Int} {t : TTok} {r : List TTok} (h : failAt t last r = 0) : checkFrom last (t :: r) = checkFrom t.kind r := by
  rw [checkFrom_cons, if_neg (by rw [h]; simp)]
mutual
theorem checkN_tk : ∀ (t : TNode) (d : Nat) (p : Bool) (last : Int) (rest : List TTok), faultN d p t = 0 → (last = 3 → p = true) → checkFrom last (tkN t ++ rest) = checkFrom (kindN t) rest
  | .mk n a t ps, d, p, last, rest, h, hl => by
    by_cases hn : n = []
    · obtain ⟨_, _, _, h4, h5⟩ := fault_text h hn
      subst hn
      rw [tkN, if_pos rfl]
      have hl3 : last ≠ 3 := fun e => by rw [hl e] at h5; cases h5
      exact checkFrom_pass (fail_chars t last rest h4 hl3)
    · obtain ⟨_, h2, h3, _, h5, h6, h7⟩ := fault_elem h hn
      have hkn : kindN (.mk n a t ps) = if isVoid n then 1 else 2 := by
        unfold kindN
        rw [if_neg (show ¬ (TNode.mk n a t ps).name = [] from hn)]; rfl
      rw [tkN, if_neg hn, hkn]
      by_cases hv : isVoid n = true
      · rw [if_pos hv, if_pos hv]
        exact checkFrom_pass (fail_start n a last rest h2 h3 h6)
      · rw [if_neg hv, if_neg hv]
        show checkFrom last (⟨1, n, a, false, []⟩ :: ((tkL ps ++ [⟨2, n, [], false, []⟩]) ++ rest)) = _
        rw [checkFrom_pass (fail_start n a last _ h2 h3 h6), List.append_assoc]
        have h8 := checkL_tk ps (d + 1) false 1 (⟨2, n, [], false, []⟩ :: rest) h7 (fun e => by cases e)
        exact h8.trans (checkFrom_pass (fail_stop n _ rest h2))
theorem checkL_tk : ∀ (l : List TNode) (d : Nat) (p : Bool) (last : Int) (rest : List TTok), faultL d p l = 0 → (last = 3 → p = true) → checkFrom last (tkL l ++ rest) = checkFrom (lastK last l) rest
  | [], _, _, _, _, _, _ => by rw [tkL]; rfl
  | t :: l, d, p, last, rest, h, hl => by
    obtain ⟨h1, h2⟩ := faultL_cons h
    rw [tkL, List.append_assoc, checkN_tk t d p last _ h1 hl]
    refine (checkL_tk l d (t.name == []) (kindN t) rest h2 ?_)
    intro e
    unfold kindN at e
    split at e
    · rename_i hn; rw [hn]; rfl
    · split at e <;> cases e
end
/-- A tree's text is cut into the tree's tokens. -/
theorem all_of (l : List TNode) (h : faultL 0 false l = 0) : allM (ofL l) = tkL l := by
  rw [← tk_ofL]
  have h1 := checkL_tk l 0 false 0 [] h (fun e => by cases e)
  rw [List.append_nil] at h1
  exact (emit_law (tkL l) 0 h1).1

/- Nodes of tokens. -/
def prs : Nat → List TTok → Option (List TNode × List TTok)
  | 0, _ => none
  | _ + 1, [] => some ([], [])
  | f + 1, t :: r =>
      if t.kind = 2 then some ([], t :: r)
      else if t.kind = 3 then (prs f r).map fun x => (tText t.text :: x.1, x.2)
      else if t.kind ≠ 1 ∨ t.self = true then none
      else if isVoid t.name then (prs f r).map fun x => (tElem t.name t.attrs [] :: x.1, x.2)
      else match prs f r with
        | none => none
        | some (_, []) => none
        | some (ps, e :: q) => if e.name = t.name then (prs f q).map fun x => (tElem t.name t.attrs ps :: x.1, x.2) else none
theorem prs_len : ∀ (f : Nat) (l : List TTok) (o : List TNode) (q : List TTok), prs f l = some (o, q) → q.length ≤ l.length
  | 0, l, o, q, h => by rw [prs] at h; cases h
  | f + 1, l, o, q, h => by
    cases l with
    | nil => rw [prs] at h; cases h; exact Nat.le_refl _
    | cons t r =>
      rw [prs] at h
      split at h
      · cases h; exact Nat.le_refl _
      split at h
      · obtain ⟨⟨o1, q1⟩, h1, h2⟩ := Option.map_eq_some_iff.1 h
        have := prs_len f r o1 q1 h1
        cases h2; simp; omega
      split at h
      · cases h
      split at h
      · obtain ⟨⟨o1, q1⟩, h1, h2⟩ := Option.map_eq_some_iff.1 h
        have := prs_len f r o1 q1 h1
        cases h2; simp; omega
      split at h
      · cases h
      · cases h
      rename_i ps e q2 hp
      split at h
      · obtain ⟨⟨o1, q1⟩, h1, h2⟩ := Option.map_eq_some_iff.1 h
        have h3 := prs_len f r ps (e :: q2) hp
        have h4 := prs_len f q2 o1 q1 h1
        cases h2; simp at h3 ⊢; omega
      · cases h
theorem prs_fuel : ∀ (f g : Nat) (l : List TTok), l.length < f → l.length < g → prs f l = prs g l
  | 0, _, _, h, _ => by omega
  | _ + 1, 0, _, _, h => by omega
  | f + 1, g + 1, l, hf, hg => by
    cases l with
    | nil => rfl
    | cons t r =>
      simp only [List.length_cons] at hf hg
      have e := prs_fuel f g r (by omega) (by omega)
      rw [prs, prs, e]
      split
      · rfl
      split
      · rfl
      split
      · rfl
      split
      · rfl
      cases hp : prs g r with
      | none => rfl
      | some x =>
        obtain ⟨ps, q⟩ := x
        cases q with
        | nil => rfl
        | cons e2 q =>
          have h3 := prs_len g r ps (e2 :: q) hp
          simp only [List.length_cons] at h3
          simp only
          rw [prs_fuel f g q (by omega) (by omega)]
def prsM (l : List TTok) : Option (List TNode × List TTok) := prs (l.length + 1) l
theorem prsM_nil : prsM [] = some ([], []) := rfl
theorem prsM_stop (t : TTok) (r : List TTok) (h : t.kind = 2) : prsM (t :: r) = some ([], t :: r) := by
  show prs (r.length + 1 + 1) (t :: r) = _
  rw [prs]; rw [if_pos h]
theorem prsM_chars (t : TTok) (r : List TTok) (h : t.kind = 3) : prsM (t :: r) = (prsM r).map fun x => (tText t.text :: x.1, x.2) := by
  show prs (r.length + 1 + 1) (t :: r) = _
  rw [prs]; rw [if_neg (by omega), if_pos h]; rfl
theorem prsM_bad (t : TTok) (r : List TTok) (h2 : t.kind ≠ 2) (h3 : t.kind ≠ 3) (h : t.kind ≠ 1 ∨ t.self = true) : prsM (t :: r) = none := by
  show prs (r.length + 1 + 1) (t :: r) = _
  rw [prs]; rw [if_neg h2, if_neg h3, if_pos h]
theorem prsM_void (t : TTok) (r : List TTok) (h : t.kind = 1) (hs : t.self = false) (hv : isVoid t.name = true) : prsM (t :: r) = (prsM r).map fun x => (tElem t.name t.attrs [] :: x.1, x.2) := by
  show prs (r.length + 1 + 1) (t :: r) = _
  rw [prs]; rw [if_neg (by omega), if_neg (by omega), if_neg (by simp [h, hs]), if_pos hv]; rfl
theorem prsM_elem (t : TTok) (r : List TTok) (h : t.kind = 1) (hs : t.self = false) (hv : isVoid t.name = false) : prsM (t :: r) = match prsM r with
    | none => none
    | some (_, []) => none
    | some (ps, e :: q) => if e.name = t.name then (prsM q).map fun x => (tElem t.name t.attrs ps :: x.1, x.2) else none := by
  show prs (r.length + 1 + 1) (t :: r) = _
  rw [prs]; rw [if_neg (by omega), if_neg (by omega), if_neg (by simp [h, hs]), if_neg (by simp [hv])]
  have hpe : prs (r.length + 1) r = prsM r := rfl
  rw [hpe]
  cases hp : prsM r with
  | none => rfl
  | some x =>
    obtain ⟨ps, q⟩ := x
    cases q with
    | nil => rfl
    | cons e q =>
      have h3 := prs_len _ r ps (e :: q) hp
      simp only [List.length_cons] at h3
      simp only
      rw [prs_fuel (r.length + 1) (q.length + 1) q (by omega) (by omega)]
      rfl
mutual
theorem prsN_tk : ∀ (t : TNode) (d : Nat) (p : Bool) (rest : List TTok), faultN d p t = 0 → prsM (tkN t ++ rest) = (prsM rest).map fun x => (t :: x.1, x.2)
  | .mk n a t ps, d, p, rest, h => by
    by_cases hn : n = []
    · obtain ⟨_, h2, h3, h4, _⟩ := fault_text h hn
      cases (show a = [] from h2)
      cases (show ps = [] from h3)
      subst hn
      rw [tkN, if_pos rfl]
      exact prsM_chars (chars t) rest rfl
    · obtain ⟨_, _, _, h4, h5, _, h7⟩ := fault_elem h hn
      cases (show t = [] from h4)
      rw [tkN, if_neg hn]
      by_cases hv : isVoid n = true
      · rw [if_pos hv]
        cases (show ps = [] from h5 hv)
        exact prsM_void ⟨1, n, a, false, []⟩ rest rfl rfl hv
      · rw [if_neg hv]
        show prsM (⟨1, n, a, false, []⟩ :: ((tkL ps ++ [⟨2, n, [], false, []⟩]) ++ rest)) = _
        rw [prsM_elem ⟨1, n, a, false, []⟩ _ rfl rfl (by simpa using hv), List.append_assoc]
        have h8 := prsL_tk ps (d + 1) false ([⟨2, n, [], false, []⟩] ++ rest) h7
        rw [h8, show prsM ([⟨2, n, [], false, []⟩] ++ rest) = some ([], ⟨2, n, [], false, []⟩ :: rest) from prsM_stop _ _ rfl]
        simp only [Option.map_some, List.append_nil]
        first | rw [if_pos rfl] | rw [if_pos trivial]
        rfl
theorem prsL_tk : ∀ (l : List TNode) (d : Nat) (p : Bool) (rest : List TTok), faultL d p l = 0 → prsM (tkL l ++ rest) = (prsM rest).map fun x => (l ++ x.1, x.2)
  | [], _, _, rest, _ => by
    rw [tkL]
    show prsM rest = _
    cases prsM rest <;> rfl
  | t :: l, d, p, rest, h => by
    obtain ⟨h1, h2⟩ := faultL_cons h
    rw [tkL, List.append_assoc, prsN_tk t d p _ h1, prsL_tk l d _ rest h2, Option.map_map]
    rfl
end
/-- Nodes come back from their tokens. -/
theorem prs_tk (l : List TNode) (h : faultL 0 false l = 0) : prsM (tkL l) = some (l, []) := by
  have h1 := prsL_tk l 0 false [] h
  rw [List.append_nil, prsM_nil] at h1
  rw [h1]; simp

def readOf (s : Bytes) : Option (List TNode × List TTok) → List TNode × Int
  | some (o, []) => if checkS o = 0 ∧ ofL o = s then (o, 0) else ([], 4)
  | _ => ([], 4)
def readS (s : Bytes) : List TNode × Int := if 600 < s.length then ([], 1) else readOf s (prsM (allM s))
theorem textS_ok {l : List TNode} {s : Bytes} (h : textS l = (s, 0)) : checkS l = 0 ∧ ofL l = s ∧ s.length ≤ 600 := by
  unfold textS at h
  split at h
  · rename_i hx
    exact absurd (congrArg Prod.snd h) hx
  · rename_i hx
    split at h
    · have := congrArg Prod.snd h; cases this
    · rename_i hy
      have := congrArg Prod.fst h
      have e : ofL l = s := this
      exact ⟨by simpa using hx, e, by rw [← e]; omega⟩
theorem textS_ways (l : List TNode) : textS l = ([], checkS l) ∧ checkS l ≠ 0 ∨ textS l = ([], 1) ∧ checkS l = 0 ∧ 600 < (ofL l).length ∨ textS l = (ofL l, 0) ∧ checkS l = 0 ∧ (ofL l).length ≤ 600 := by
  unfold textS
  split
  · rename_i h; exact .inl ⟨rfl, h⟩
  · rename_i h
    have h' : checkS l = 0 := by simpa using h
    split
    · rename_i h2; exact .inr (.inl ⟨rfl, h', h2⟩)
    · rename_i h2; exact .inr (.inr ⟨rfl, h', by omega⟩)
theorem checkS_ok {l : List TNode} (h : checkS l = 0) : faultL 0 false l = 0 ∧ countL l ≤ 150 := by
  unfold checkS at h
  split at h
  · rename_i hx; exact absurd h hx
  · rename_i hx
    split at h
    · cases h
    · rename_i hy; exact ⟨by simpa using hx, by omega⟩
/-- A tree comes back from its text. -/
theorem read_back {l : List TNode} {s : Bytes} (h : textS l = (s, 0)) : readS s = (l, 0) := by
  obtain ⟨h1, h2, h3⟩ := textS_ok h
  obtain ⟨h4, _⟩ := checkS_ok h1
  unfold readS
  rw [if_neg (by omega), ← h2, all_of l h4, prs_tk l h4]
  show (if checkS l = 0 ∧ ofL l = ofL l then (l, 0) else ([], 4)) = (l, (0 : Int))
  rw [if_pos ⟨h1, rfl⟩]
/-- What was read is written as it stood. -/
theorem read_fixed {s : Bytes} {l : List TNode} (h : readS s = (l, 0)) : textS l = (s, 0) := by
  unfold readS at h
  split at h
  · have := congrArg Prod.snd h; cases this
  rename_i h6
  generalize prsM (allM s) = x at h
  unfold readOf at h
  split at h
  · rename_i o
    split at h
    · rename_i hx
      cases h
      unfold textS
      rw [if_neg (by rw [hx.1]; simp), hx.2, if_neg h6]
    · have := congrArg Prod.snd h; cases this
  · have := congrArg Prod.snd h; cases this
theorem readS_ways (s : Bytes) : (readS s = ([], 1)) ∨ (readS s = ([], 4)) ∨ ∃ l, readS s = (l, 0) := by
  unfold readS
  split
  · exact .inl rfl
  · generalize prsM (allM s) = x
    unfold readOf
    split
    · split
      · exact .inr (.inr ⟨_, rfl⟩)
      · exact .inr (.inl rfl)
    · exact .inr (.inl rfl)

/- The loose reader. -/
mutual
def calmN : TNode → Bool
  | .mk n _ _ ps => !(n == nP) && !(n == nLi) && calmL ps
def calmL : List TNode → Bool
  | [] => true
  | t :: ts => calmN t && calmL ts
end
theorem find_none (n : Bytes) : ∀ l : List Fr, (∀ f ∈ l, f.name ≠ n) → findM n l = 0
  | [], _ => rfl
  | [_], _ => rfl
  | f :: g :: r, h => by
    rw [findM, if_neg (h f (by simp))]
    exact find_none n (g :: r) fun x hx => h x (by simp [hx])
theorem start_calm (s : List Fr) (c : Nat) (t : TTok) (h1 : ∀ f ∈ s, f.name ≠ nP) (h2 : t.name ≠ nLi) (h3 : s.length ≤ 10) (h4 : t.self = false) :
    startM ⟨s, c, []⟩ t = if voidsM.contains t.name = true then ⟨addTop s (tElem t.name t.attrs []), c + 1, []⟩ else ⟨⟨t.name, t.attrs, []⟩ :: s, c + 1, []⟩ := by
  have e1 : startA ⟨s, c, []⟩ t = s := by
    unfold startA
    simp only
    rw [find_none nP s h1]
    unfold closeM
    split <;> simp
  have e2 : startB s t = s := by
    unfold startB
    rw [if_neg (fun h => h2 h.1)]
  unfold startM
  rw [e1, e2]
  unfold startC
  rw [if_neg (show ¬ 10 < s.length by omega)]
  split
  · rename_i h5
    rcases h5 with h5 | h5
    · rw [h4] at h5; cases h5
    · rw [if_pos h5]
  · rename_i h5
    rw [if_neg (fun h => h5 (.inr h))]
mutual
theorem buildN_tk : ∀ (t : TNode) (d : Nat) (p : Bool) (f : Fr) (r : List Fr) (c : Nat), faultN d p t = 0 → calmN t = true → (f :: r).length = d + 1 → (∀ x ∈ f :: r, x.name ≠ nP) → (lastText f.done = true → p = true) → isRaw f.name = false →
    (tkN t).foldl stepM ⟨f :: r, c, []⟩ = ⟨{ f with done := f.done ++ [t] } :: r, c + countN t, []⟩
  | .mk n a t ps, d, p, f, r, c, h, hc, hd, hp, hl, hr => by
    rw [calmN] at hc
    simp only [Bool.and_eq_true, Bool.not_eq_true', beq_eq_false_iff_ne] at hc
    by_cases hn : n = []
    · obtain ⟨_, h2, h3, h4, h5⟩ := fault_text h hn
      cases (show a = [] from h2)
      cases (show ps = [] from h3)
      subst hn
      rw [tkN, if_pos rfl]
      show charsM ⟨f :: r, c, []⟩ t = _
      have hlt : lastText f.done = false := by
        cases hx : lastText f.done with
        | false => rfl
        | true => rw [hl hx] at h5; cases h5
      unfold isRaw at hr
      simp only [Bool.or_eq_false_iff, beq_eq_false_iff_ne] at hr
      unfold charsM
      rw [if_neg]
      · simp only
        rw [hlt, countN, countL]
        have e : addText f.done t = f.done ++ [tText t] := by
          unfold addText
          split
          · rename_i x a' t' ps' hx
            unfold lastText at hlt
            rw [hx] at hlt
            simp [TNode.name] at hlt
          · rfl
        rw [e]; rfl
      · rintro (e | e | e | e)
        · exact hr.1.1.1 e
        · exact hr.1.1.2 e
        · exact h4 e
        · exact e rfl
    · obtain ⟨hd10, h2, h3, h4, h5, h6, h7⟩ := fault_elem h hn
      cases (show t = [] from h4)
      have hd2 : r.length + 1 = d + 1 := hd
      rw [tkN, if_neg hn]
      by_cases hv : isVoid n = true
      · rw [if_pos hv]
        cases (show ps = [] from h5 hv)
        show startM ⟨f :: r, c, []⟩ ⟨1, n, a, false, []⟩ = _
        rw [start_calm (f :: r) c ⟨1, n, a, false, []⟩ hp hc.1.2 (by rw [hd]; omega) rfl, if_pos (show voidsM.contains n = true from hv), countN, countL]
        rfl
      · rw [if_neg hv]
        rw [List.foldl_cons, List.foldl_append]
        have e1 : stepM ⟨f :: r, c, []⟩ ⟨1, n, a, false, []⟩ = ⟨⟨n, a, []⟩ :: f :: r, c + 1, []⟩ := by
          show startM ⟨f :: r, c, []⟩ ⟨1, n, a, false, []⟩ = _
          rw [start_calm (f :: r) c ⟨1, n, a, false, []⟩ hp hc.1.2 (by rw [hd]; omega) rfl, if_neg (show ¬ voidsM.contains n = true from hv)]
        rw [e1]
        have hp' : ∀ x ∈ (⟨n, a, []⟩ : Fr) :: f :: r, x.name ≠ nP := fun x hx => by
          rcases List.mem_cons.1 hx with rfl | hx
          · exact hc.1.1
          · exact hp x hx
        rw [buildL_tk ps (d + 1) false ⟨n, a, []⟩ (f :: r) (c + 1) h7 hc.2 (by simp; omega) hp' (fun e => by cases e) h6]
        show endM ⟨⟨n, a, [] ++ ps⟩ :: f :: r, c + 1 + countL ps, []⟩ ⟨2, n, [], false, []⟩ = _
        unfold endM
        have e2 : findM n (⟨n, a, [] ++ ps⟩ :: f :: r) = (f :: r).length := by rw [findM, if_pos rfl]
        simp only
        rw [e2]
        unfold closeM
        rw [if_neg (by simp)]
        have e3 : (⟨n, a, [] ++ ps⟩ :: f :: r : List Fr).length - (f :: r).length = 1 := by simp
        rw [e3, countN]
        simp only [popN, popM, ite_self, List.nil_append]
        rw [Nat.add_assoc, Nat.add_comm 1]
        rfl
theorem buildL_tk : ∀ (l : List TNode) (d : Nat) (p : Bool) (f : Fr) (r : List Fr) (c : Nat), faultL d p l = 0 → calmL l = true → (f :: r).length = d + 1 → (∀ x ∈ f :: r, x.name ≠ nP) → (lastText f.done = true → p = true) → isRaw f.name = false →
    (tkL l).foldl stepM ⟨f :: r, c, []⟩ = ⟨{ f with done := f.done ++ l } :: r, c + countL l, []⟩
  | [], d, p, f, r, c, _, _, _, _, _, _ => by rw [tkL, countL]; simp
  | t :: l, d, p, f, r, c, h, hc, hd, hp, hl, hr => by
    obtain ⟨h1, h2⟩ := faultL_cons h
    rw [calmL, Bool.and_eq_true] at hc
    rw [tkL, List.foldl_append, buildN_tk t d p f r c h1 hc.1 hd hp hl hr]
    have hp' : ∀ x ∈ ({ f with done := f.done ++ [t] } : Fr) :: r, x.name ≠ nP := fun x hx => by
      rcases List.mem_cons.1 hx with rfl | hx
      · exact hp f (by simp)
      · exact hp x (by simp [hx])
    rw [buildL_tk l d (t.name == []) { f with done := f.done ++ [t] } r (c + countN t) h2 hc.2 hd hp' (fun e => by
      unfold lastText at e
      simpa using e) hr, countL, Nat.add_assoc]
    simp
end
theorem build_tk (l : List TNode) (h : faultL 0 false l = 0) (hc : calmL l = true) : buildM (tkL l) = l ∧ (stepsM (tkL l)).count = countL l := by
  have h1 := buildL_tk l 0 false ⟨[], [], []⟩ [] 0 h hc rfl (fun x hx => by cases List.mem_singleton.1 hx; decide) (fun e => by cases e) rfl
  unfold buildM stepsM initM
  rw [h1]
  simp [rootDone, popN]
mutual
theorem tkN_len : ∀ t : TNode, (tkN t).length ≤ 2 * countN t
  | .mk n a t ps => by
    have := tkL_len ps
    rw [tkN, countN]
    split
    · simp; omega
    · split
      · simp; omega
      · simp; omega
theorem tkL_len : ∀ l : List TNode, (tkL l).length ≤ 2 * countL l
  | [] => by rw [tkL, countL]; simp
  | t :: l => by
    have h1 := tkN_len t
    have h2 := tkL_len l
    rw [tkL, countL, List.length_append]; omega
end

end Go.Proofs.YtjkgmdnkejjppaaGreatDoor
/- Walks of show: Void, shut, fault, Check. -/
namespace Go.Proofs.YtjkgmdnkejjppaaGreatDoor
open Go Go.RowKit

theorem isVoid_names (n : Bytes) : voidsM.contains n = isVoid n := rfl
set_option maxHeartbeats 1000000 in
theorem void_any (n : Bytes) (w : World) :
    Calls Tryz.prog 33 #[.string (mk n)] w fun e w' => e = .returned (.bool (isVoid n)) ∧ Below w.heap.size w w' := by
  obtain ⟨w1, hw1⟩ : ∃ w1, w1 = w.alloc (.cells #[.string ⟨#[98, 114]⟩, .string ⟨#[104, 114]⟩, .string ⟨#[105, 109, 103]⟩, .string ⟨#[105, 110, 112, 117, 116]⟩] 9) := ⟨_, rfl⟩
  have hb1 : Below w.heap.size w w1 := by rw [hw1]; exact (Below.refl _ _).alloc (Nat.le_refl _) _
  have hat : StrAt w1 w.heap.size voidsM := by
    intro i s hi
    have h := heap_alloc_new w (.cells #[.string ⟨#[98, 114]⟩, .string ⟨#[104, 114]⟩, .string ⟨#[105, 109, 103]⟩, .string ⟨#[105, 110, 112, 117, 116]⟩] 9)
    rw [← hw1] at h
    rw [Lib.cell_of_heap h]
    match i, hi with
    | 0, hi => cases hi; rfl
    | 1, hi => cases hi; rfl
    | 2, hi => cases hi; rfl
    | 3, hi => cases hi; rfl
    | i + 4, hi => simp [voidsM] at hi
  have HC := Lib.hid (strContains_any w.heap.size 4 voidsM n (by decide) w1 hat)
  rw [isVoid_names] at HC
  have HB1 := Lib.hid hb1
  have HW1 := Lib.hid hw1
  clear hb1 hat hw1
  go_enter Tryz.func33, Tryz.ntmps33
  go_wp2_with fail
  rw [← HW1.out]
  refine HC.out.mono ?_
  rintro e w2 ⟨rfl, hw⟩
  rw [← hw]
  clear hw
  go_wp2_with fail
  go_ret
  exact ⟨rfl, HB1.out⟩
set_option maxHeartbeats 1000000 in
theorem shut_any (n : Bytes) (w : World) :
    Calls Tryz.prog 60 #[.string (mk n)] w fun e w' => e = .returned (.bool (isRaw n)) ∧ Below w.heap.size w w' := by
  obtain ⟨w1, hw1⟩ : ∃ w1, w1 = w.alloc (.cells #[.string ⟨#[115, 99, 114, 105, 112, 116]⟩, .string ⟨#[115, 116, 121, 108, 101]⟩, .string ⟨#[116, 101, 120, 116, 97, 114, 101, 97]⟩, .string ⟨#[116, 105, 116, 108, 101]⟩] 9) := ⟨_, rfl⟩
  have hb1 : Below w.heap.size w w1 := by rw [hw1]; exact (Below.refl _ _).alloc (Nat.le_refl _) _
  have hat : StrAt w1 w.heap.size rawNames := by
    intro i s hi
    have h := heap_alloc_new w (.cells #[.string ⟨#[115, 99, 114, 105, 112, 116]⟩, .string ⟨#[115, 116, 121, 108, 101]⟩, .string ⟨#[116, 101, 120, 116, 97, 114, 101, 97]⟩, .string ⟨#[116, 105, 116, 108, 101]⟩] 9)
    rw [← hw1] at h
    rw [Lib.cell_of_heap h]
    match i, hi with
    | 0, hi => cases hi; rfl
    | 1, hi => cases hi; rfl
    | 2, hi => cases hi; rfl
    | 3, hi => cases hi; rfl
    | i + 4, hi => simp [rawNames] at hi
  have HC := Lib.hid (strContains_any w.heap.size 4 rawNames n (by decide) w1 hat)
  rw [isRaw_names] at HC
  have HB1 := Lib.hid hb1
  have HW1 := Lib.hid hw1
  clear hb1 hat hw1
  go_enter Tryz.func60, Tryz.ntmps60
  go_wp2_with fail
  rw [← HW1.out]
  refine HC.out.mono ?_
  rintro e w2 ⟨rfl, hw⟩
  rw [← hw]
  clear hw
  go_wp2_with fail
  go_ret
  exact ⟨rfl, HB1.out⟩

/- Sizes. -/
mutual
def SzN : TNode → Prop
  | .mk n a t ps => (n.length ≤ 1000 ∧ t.length ≤ 1000 ∧ a.length ≤ 1000 ∧ ∀ b ∈ a, b.name.length ≤ 1000 ∧ b.value.length ≤ 1000) ∧ SzL ps
def SzL : List TNode → Prop
  | [] => True
  | t :: ts => SzN t ∧ SzL ts
end
theorem SzL.mem : ∀ {l : List TNode}, SzL l → ∀ t ∈ l, SzN t
  | [], _, t, ht => by cases ht
  | x :: l, h, t, ht => by
    rw [SzL] at h
    rcases List.mem_cons.1 ht with rfl | ht
    · exact h.1
    · exact SzL.mem h.2 t ht
theorem SzL.of : ∀ {l : List TNode}, (∀ t ∈ l, SzN t) → SzL l
  | [], _ => by rw [SzL]; trivial
  | x :: l, h => by rw [SzL]; exact ⟨h x (by simp), SzL.of fun t ht => h t (by simp [ht])⟩
theorem SzN.all {t : TNode} (h : SzN t) : (t.name.length ≤ 1000 ∧ t.text.length ≤ 1000 ∧ t.attrs.length ≤ 1000 ∧ ∀ b ∈ t.attrs, b.name.length ≤ 1000 ∧ b.value.length ≤ 1000) ∧ SzL t.parts := by
  obtain ⟨n, a, s, ps⟩ := t
  rw [SzN] at h
  exact h

/-- Is what stands ahead of a place a text? -/
def prevT (l : List TNode) : Nat → Bool
  | 0 => false
  | k + 1 => match l[k]? with
    | some t => t.name == []
    | none => false
theorem prevT_succ {l : List TNode} {k : Nat} {t : TNode} (h : l[k]? = some t) : prevT l (k + 1) = (t.name == []) := by
  show (match l[k]? with | some t => t.name == [] | none => false) = _
  rw [h]
theorem fault_step {l : List TNode} {k : Nat} {t : TNode} (d : Nat) (h : l[k]? = some t) : faultL d (prevT l k) (l.drop k) = if faultN d (prevT l k) t ≠ 0 then faultN d (prevT l k) t else faultL d (prevT l (k + 1)) (l.drop (k + 1)) := by
  obtain ⟨hk, rfl⟩ := List.getElem?_eq_some_iff.1 h
  rw [List.drop_eq_getElem_cons hk, faultL, prevT_succ h]
theorem faultN_text (d : Nat) (p : Bool) (t : TNode) (hd : ¬ 10 ≤ d) (h : t.name = []) : faultN d p t = if !t.attrs.isEmpty || !t.parts.isEmpty || t.text == [] || p then 4 else 0 := by
  obtain ⟨n, a, s, ps⟩ := t
  cases (show n = [] from h)
  rw [faultN, if_neg hd, if_pos rfl]; rfl
theorem faultN_elem (d : Nat) (p : Bool) (t : TNode) (hd : ¬ 10 ≤ d) (h : t.name ≠ []) : faultN d p t = if nameM t.name = false then 5 else if attrsM t.attrs ≠ 0 then attrsM t.attrs else if !(t.text == []) || (isVoid t.name && !t.parts.isEmpty) || isRaw t.name then 4 else faultL (d + 1) false t.parts := by
  obtain ⟨n, a, s, ps⟩ := t
  rw [faultN, if_neg hd, if_neg (show ¬ n = [] from h)]; rfl
theorem faultN_deep (d : Nat) (p : Bool) (t : TNode) (hd : 10 ≤ d) : faultN d p t = 6 := by
  obtain ⟨n, a, s, ps⟩ := t
  rw [faultN, if_pos hd]

set_option maxHeartbeats 8000000 in
set_option maxRecDepth 100000 in
theorem fault_any : ∀ (d : Nat) (v : Value) (l : List TNode) (deep : Nat) (w : World), NodeView d w v l → countL l ≤ 1000000 → SzL l → deep ≤ 10 →
    Calls Tryz.prog 34 #[v, .int .i64 deep] w fun e w' => e = .returned (.int .i64 (faultL deep false l)) ∧ Below w.heap.size w w' := by
  intro d
  induction d using Nat.strongRecOn with
  | _ d ih =>
  intro v l deep w hv hct hsz hdp
  obtain ⟨a, cap, rfl⟩ := hv.form
  have hln := Nat.le_trans (len_countL l) hct
  have HIH := Lib.hid ih
  have HV := Lib.hid hv
  have HCT := Lib.hid hct
  have HSZ := Lib.hid hsz.mem
  clear ih hv hct hsz
  go_enter Tryz.func34, Tryz.ntmps34
  go_wp2_with fail
  go_loopg [11] l.length (fun g i wx => ∃ (W : World) (k : Nat), W = wx ∧ k + g = l.length ∧ i = .int .i64 k ∧ Hid (Below w.heap.size w wx) ∧ Hid (faultL deep false l = faultL deep (prevT l k) (l.drop k)))
  case atStart => exact ⟨_, 0, rfl, by omega, rfl, Lib.hid (Below.refl _ _), Lib.hid rfl⟩
  case round =>
    obtain ⟨W, k, rfl, hk, rfl, hB, hF⟩ := hrel
    by_cases hlt : k < l.length
    · obtain ⟨m, rfl⟩ : ∃ m, gk = m + 1 := ⟨gk - 1, by omega⟩
      obtain ⟨t, ht⟩ : ∃ t, l[k]? = some t := ⟨_, List.getElem?_eq_getElem hlt⟩
      have hst := fault_step deep ht
      obtain ⟨d', hd', g, c, av, pv, hf, hc1, hc2, hg, hat, hav, hpv⟩ := (HV.out.older (.of_below hB.out)).get k t ht
      obtain rfl : a = some ⟨g, 0, none⟩ := by simp at hf; exact hf.1
      obtain ⟨a1, a2, a3, a4⟩ := hat
      obtain ⟨pa, pc, hpf⟩ := hpv.form
      subst hpf
      obtain ⟨⟨aa, ac, haf⟩, -⟩ := id hav
      subst haf
      have hs := (HSZ.out t (List.mem_of_getElem? ht)).all
      have h3 := countN_mem (List.mem_of_getElem? ht)
      rw [countN_of] at h3
      obtain ⟨w1, hw1⟩ : ∃ w1, w1 = W.alloc (.cells #[.string (mk t.name), .slice aa t.attrs.length ac, .string (mk t.text), .slice pa t.parts.length pc] 44) := ⟨_, rfl⟩
      have hb1 : Below W.heap.size W w1 := by rw [hw1]; exact (Below.refl _ _).alloc (Nat.le_refl _) _
      have hN1 : w1.heap[W.heap.size]? = some (.cells #[.string (mk t.name), .slice aa t.attrs.length ac, .string (mk t.text), .slice pa t.parts.length pc] 44 (0, 0)) := by rw [hw1]; exact heap_alloc_new _ _
      have m0 : w1.cell? ⟨W.heap.size, 0, none⟩ = some (.string (mk t.name)) := by rw [Lib.cell_of_heap hN1]; rfl
      have m1 : w1.cell? ⟨W.heap.size, 1, none⟩ = some (.slice aa t.attrs.length ac) := by rw [Lib.cell_of_heap hN1]; rfl
      have m2 : w1.cell? ⟨W.heap.size, 2, none⟩ = some (.string (mk t.text)) := by rw [Lib.cell_of_heap hN1]; rfl
      have m3 : w1.cell? ⟨W.heap.size, 3, none⟩ = some (.slice pa t.parts.length pc) := by rw [Lib.cell_of_heap hN1]; rfl
      have hzN := lt_of_block hN1
      have HBX := Lib.hid hb1
      have HB1 := Lib.hid (hB.out.trans (hb1.mono hB.out.size))
      have HW1 := Lib.hid hw1
      have HAV := Lib.hid (hav.older (.of_below hb1))
      have HPV := Lib.hid (hpv.older (.of_below hb1))
      have HS := Lib.hid hs
      have HH3 := Lib.hid h3
      have HST := Lib.hid (hF.out.trans hst)
      have HD' := Lib.hid hd'
      have HVW := Lib.hid (HV.out.older (.of_below hB.out))
      have k0 : (0 : Int) ≤ k := by omega
      have k1 : (k : Int) < l.length := by omega
      have HT := Lib.hid ht
      clear hf hpv hav hst hb1 hN1 hw1 hs h3 hF hd' ht
      go_upto_region 4 with fail
      rw [← HW1.out]
      clear a1 a2 a3 a4
      by_cases h10 : 10 ≤ deep
      · have HR := Lib.hid (show faultL deep false l = 6 by rw [HST.out, faultN_deep _ _ _ h10, if_pos (by decide)])
        have c10 : (10 : Int) ≤ deep := by omega
        clear h10
        go_wp2_with fail
        go_ret
        exact ⟨by rw [HR.out]; rfl, HB1.out⟩
      have c10 : ¬ (10 : Int) ≤ deep := by omega
      have HD10 := Lib.hid h10
      clear h10
      by_cases hn : t.name = []
      · have HFN := Lib.hid (faultN_text deep (prevT l k) t HD10.out hn)
        have HR4 := Lib.hid (fun (hb : (!t.attrs.isEmpty || !t.parts.isEmpty || t.text == [] || prevT l k) = true) => (show faultL deep false l = 4 by rw [HST.out, HFN.out, if_pos hb]; rfl))
        have HR0 := Lib.hid (fun (hb : (!t.attrs.isEmpty || !t.parts.isEmpty || t.text == [] || prevT l k) = false) => (show faultL deep false l = faultL deep (prevT l (k + 1)) (l.drop (k + 1)) by rw [HST.out, HFN.out, hb]; simp))
        rw [hn] at m0
        have m0' : w1.cell? ⟨W.heap.size, 0, none⟩ = some (.string ⟨#[]⟩) := m0
        clear m0 hn HFN
        by_cases q1 : t.attrs.length = 0
        · have e1 : t.attrs = [] := List.eq_nil_of_length_eq_zero q1
          rw [e1] at HR4 HR0
          rw [q1] at m1
          by_cases q2 : t.parts.length = 0
          · have e2 : t.parts = [] := List.eq_nil_of_length_eq_zero q2
            rw [e2] at HR4 HR0
            rw [q2] at m3
            by_cases q3 : t.text = []
            · rw [q3] at HR4 m2
              have m2' : w1.cell? ⟨W.heap.size, 2, none⟩ = some (.string ⟨#[]⟩) := m2
              have HR := Lib.hid (HR4.out (by simp))
              clear m2 q1 q2 q3 e1 e2
              go_wp2_with fail
              go_ret
              exact ⟨by rw [HR.out]; rfl, HB1.out⟩
            · have f1 := sBeqF q3
              have f2 := sEqF q3
              have f3 := sEmpF q3
              have f4 : (t.text == []) = false := beq_eq_false_iff_ne.2 q3
              rw [f4] at HR4 HR0
              clear q1 q2 q3 e1 e2 f4
              cases k with
              | zero =>
                have HR := Lib.hid (HR0.out rfl)
                clear HR4 HR0
                go_wp2_with fail
                go_roundg m
                case measure => omega
                case rel => exact ⟨_, 0 + 1, rfl, by omega, by go_num, HB1, HR⟩
              | succ j =>
                obtain ⟨u, hu⟩ : ∃ u, l[j]? = some u := ⟨_, List.getElem?_eq_getElem (by omega)⟩
                have hpu := prevT_succ hu
                obtain ⟨_, _, g', c', _, _, hf', _, _, hg', hat', _, _⟩ := HVW.out.get j u hu
                obtain rfl : g = g' := by simp at hf'; exact hf'.1
                have b1 := (HBX.out.cell (p := ⟨g, j * 4, none⟩) hg').trans hat'.nm
                have j0 : (0 : Int) < ((j + 1 : Nat) : Int) := by omega
                have j1 : IntKind.i64.wrap (((j + 1 : Nat) : Int) - 1) = (j : Int) := by rw [IntWalk.i64_in _ (by omega)]; omega
                have j2 : (j : Int) < l.length := by omega
                have j3 : (0 : Int) ≤ j := by omega
                rw [hpu] at HR4 HR0
                clear hf' hu hpu hat'
                by_cases q5 : u.name = []
                · rw [q5] at b1
                  have b1' : w1.cell? ⟨g, j * 4, none⟩ = some (.string ⟨#[]⟩) := b1
                  have HR := Lib.hid (HR4.out (by rw [q5]; rfl))
                  clear b1 q5 HR4 HR0
                  go_wp2_with fail
                  go_ret
                  exact ⟨by rw [HR.out]; rfl, HB1.out⟩
                · have u1 := sBeqF q5
                  have u2 := sEqF q5
                  have u3 := sEmpF q5
                  have HR := Lib.hid (HR0.out (by rw [beq_eq_false_iff_ne.2 q5]; rfl))
                  clear q5 HR4 HR0
                  go_wp2_with fail
                  go_roundg m
                  case measure => omega
                  case rel => exact ⟨_, j + 1 + 1, rfl, by omega, by go_num, HB1, HR⟩
          · have q2' : (0 : Int) < t.parts.length := by omega
            have q2n : 0 < t.parts.length := by omega
            have HR := Lib.hid (HR4.out (by rw [List.isEmpty_eq_false_iff.2 (fun e => q2 (congrArg List.length e))]; simp))
            clear q1 q2 e1
            go_wp2_with fail
            go_ret
            exact ⟨by rw [HR.out]; rfl, HB1.out⟩
        · have q1' : (0 : Int) < t.attrs.length := by omega
          have q1n : 0 < t.attrs.length := by omega
          have HR := Lib.hid (HR4.out (by rw [List.isEmpty_eq_false_iff.2 (fun e => q1 (congrArg List.length e))]; simp))
          clear q1
          go_wp2_with fail
          go_ret
          exact ⟨by rw [HR.out]; rfl, HB1.out⟩
      · have HFN := Lib.hid (faultN_elem deep (prevT l k) t HD10.out hn)
        have f1 := sBeqF hn
        have f2 := sEqF hn
        have f3 := sEmpF hn
        have HNM := Lib.hid (name_any (mk t.name) w1)
        rw [lst_mk] at HNM
        have HATT := Lib.hid (fun W h => attrs_any (.slice aa t.attrs.length ac) t.attrs (Nat.le_trans HS.out.1.2.2.1 (by omega)) W h)
        have HCALL := Lib.hid (fun W h => HIH.out d' (by have := HD'.out; omega) (.slice pa t.parts.length pc) t.parts (deep + 1) W h (by have := HCT.out; have := HH3.out; omega) HS.out.2 (by have := HD10.out; omega))
        have ed : ((deep + 1 : Nat) : Int) = (deep : Int) + 1 := by omega
        rw [ed] at HCALL
        have HPT := Lib.hid (prevT_succ HT.out)
        clear hn ed
        cases hnm : nameM t.name with
        | false =>
          have HR := Lib.hid (show faultL deep false l = 5 by rw [HST.out, HFN.out, if_pos hnm]; rfl)
          rw [hnm] at HNM
          clear hnm
          go_wp2_with fail
          refine HNM.out.mono ?_
          rintro e w3 ⟨rfl, hb3⟩
          have HB3 := Lib.hid (HB1.out.trans (hb3.mono HB1.out.size))
          clear hb3
          go_wp2_with fail
          go_ret
          exact ⟨by rw [HR.out]; rfl, HB3.out⟩
        | true =>
          rw [hnm] at HNM
          have HFM := Lib.hid (show faultN deep (prevT l k) t = if attrsM t.attrs ≠ 0 then attrsM t.attrs else if !(t.text == []) || (isVoid t.name && !t.parts.isEmpty) || isRaw t.name then 4 else faultL (deep + 1) false t.parts by rw [HFN.out, if_neg (by simp [hnm])])
          clear hnm HFN
          go_wp2_with fail
          refine HNM.out.mono ?_
          rintro e w3 ⟨rfl, hb3⟩
          have HB3 := Lib.hid (HB1.out.trans (hb3.mono HB1.out.size))
          have o3 := Older.of_below hb3
          have m0 := (o3.cell _ _ hzN).trans m0
          have m1 := (o3.cell _ _ hzN).trans m1
          have m2 := (o3.cell _ _ hzN).trans m2
          have m3 := (o3.cell _ _ hzN).trans m3
          have hzN3 := Nat.lt_of_lt_of_le hzN hb3.size
          have HC3 := Lib.hid (HATT.out w3 (HAV.out.older o3))
          have HPV3 := Lib.hid (HPV.out.older o3)
          clear hb3 o3
          go_wp2_with fail
          refine HC3.out.mono ?_
          rintro e w4 ⟨rfl, hb4⟩
          have HB4 := Lib.hid (HB3.out.trans (hb4.mono HB3.out.size))
          have o4 := Older.of_below hb4
          have m0 := (o4.cell _ _ hzN3).trans m0
          have m2 := (o4.cell _ _ hzN3).trans m2
          have m3 := (o4.cell _ _ hzN3).trans m3
          have hzN4 := Nat.lt_of_lt_of_le hzN3 hb4.size
          have HPV4 := Lib.hid (HPV3.out.older o4)
          clear hb4 o4 m1
          generalize hx : attrsM t.attrs = x at *
          by_cases hx0 : x = 0
          · subst hx0
            have HFM2 := Lib.hid (show faultN deep (prevT l k) t = if !(t.text == []) || (isVoid t.name && !t.parts.isEmpty) || isRaw t.name then 4 else faultL (deep + 1) false t.parts by rw [HFM.out, if_neg (by simp)])
            have HR4 := Lib.hid (fun (hb : (!(t.text == []) || (isVoid t.name && !t.parts.isEmpty) || isRaw t.name) = true) => (show faultL deep false l = 4 by rw [HST.out, HFM2.out, if_pos hb]; rfl))
            have HRB := Lib.hid (fun (hb : (!(t.text == []) || (isVoid t.name && !t.parts.isEmpty) || isRaw t.name) = false) (h0 : faultL (deep + 1) false t.parts ≠ 0) => (show faultL deep false l = faultL (deep + 1) false t.parts by rw [HST.out, HFM2.out, hb]; simp [h0]))
            have HRC := Lib.hid (fun (hb : (!(t.text == []) || (isVoid t.name && !t.parts.isEmpty) || isRaw t.name) = false) (h0 : faultL (deep + 1) false t.parts = 0) => (show faultL deep false l = faultL deep (prevT l (k + 1)) (l.drop (k + 1)) by rw [HST.out, HFM2.out, hb]; simp [h0]))
            clear HFM HFM2 hx
            by_cases q3 : t.text = []
            · rw [q3] at HR4 HRB HRC m2
              have m2' : w4.cell? ⟨W.heap.size, 2, none⟩ = some (.string ⟨#[]⟩) := m2
              have HV4 := Lib.hid (void_any t.name w4)
              clear m2 q3
              go_wp2_with fail
              refine HV4.out.mono ?_
              rintro e w5 ⟨rfl, hb5⟩
              have HB5 := Lib.hid (HB4.out.trans (hb5.mono HB4.out.size))
              have o5 := Older.of_below hb5
              have m0 := (o5.cell _ _ hzN4).trans m0
              have m3 := (o5.cell _ _ hzN4).trans m3
              have hzN5 := Nat.lt_of_lt_of_le hzN4 hb5.size
              have HPV5 := Lib.hid (HPV4.out.older o5)
              have HSH := Lib.hid (shut_any t.name w5)
              clear hb5 o5
              generalize isVoid t.name = vb at *
              by_cases q6 : vb = true ∧ t.parts.length ≠ 0
              · obtain ⟨rfl, q7⟩ := q6
                have q2' : (0 : Int) < t.parts.length := by omega
                have q2n : 0 < t.parts.length := by omega
                have HR := Lib.hid (HR4.out (by rw [List.isEmpty_eq_false_iff.2 (fun e => q7 (congrArg List.length e))]; simp))
                clear q7
                go_wp2_with fail
                go_ret
                exact ⟨by rw [HR.out]; rfl, HB5.out⟩
              · have q8 : vb = false ∨ vb = true ∧ t.parts.length = 0 := by
                  cases vb with
                  | false => exact .inl rfl
                  | true => exact .inr ⟨rfl, Nat.eq_zero_of_not_pos fun h => q6 ⟨rfl, by omega⟩⟩
                have hcond : ∀ r : Bool, (!(([] : Bytes) == []) || (vb && !t.parts.isEmpty) || r) = r := by
                  intro r
                  rcases q8 with rfl | ⟨rfl, q9⟩
                  · simp
                  · rw [List.isEmpty_iff.2 (List.eq_nil_of_length_eq_zero q9)]; simp
                rw [hcond (isRaw t.name)] at HR4 HRB HRC
                clear hcond q6
                rcases q8 with rfl | ⟨rfl, q9⟩
                · go_wp2_with fail
                  refine HSH.out.mono ?_
                  rintro e w6 ⟨rfl, hb6⟩
                  have HB6 := Lib.hid (HB5.out.trans (hb6.mono HB5.out.size))
                  have o6 := Older.of_below hb6
                  have m0 := (o6.cell _ _ hzN5).trans m0
                  have m3 := (o6.cell _ _ hzN5).trans m3
                  have HCL6 := Lib.hid (HCALL.out w6 (HPV5.out.older o6))
                  clear hb6 o6
                  cases hr : isRaw t.name with
                  | true =>
                    have HR := Lib.hid (HR4.out hr)
                    clear hr
                    go_wp2_with fail
                    go_ret
                    exact ⟨by rw [HR.out]; rfl, HB6.out⟩
                  | false =>
                    have HRB2 := Lib.hid (HRB.out hr)
                    have HRC2 := Lib.hid (HRC.out hr)
                    clear hr
                    go_wp2_with fail
                    refine HCL6.out.mono ?_
                    rintro e w7 ⟨rfl, hb7⟩
                    have HB7 := Lib.hid (HB6.out.trans (hb7.mono HB6.out.size))
                    clear hb7
                    generalize faultL (deep + 1) false t.parts = y at *
                    by_cases hy : y = 0
                    · have HR := Lib.hid (HRC2.out hy)
                      subst hy
                      go_wp2_with fail
                      go_roundg m
                      case measure => omega
                      case rel => exact ⟨_, k + 1, rfl, by omega, by go_num, HB7, HR⟩
                    · have HR := Lib.hid (HRB2.out hy)
                      have y1 : (y == 0) = false := beq_eq_false_iff_ne.2 hy
                      have y2 : (y != 0) = true := by rw [bne_iff_ne]; exact hy
                      go_wp2_with fail
                      go_ret
                      exact ⟨by rw [HR.out] <;> rfl, HB7.out⟩
                · have q2' : ¬ (0 : Int) < t.parts.length := by omega
                  have q2n : ¬ 0 < t.parts.length := by omega
                  clear q9
                  go_wp2_with fail
                  refine HSH.out.mono ?_
                  rintro e w6 ⟨rfl, hb6⟩
                  have HB6 := Lib.hid (HB5.out.trans (hb6.mono HB5.out.size))
                  have o6 := Older.of_below hb6
                  have m0 := (o6.cell _ _ hzN5).trans m0
                  have m3 := (o6.cell _ _ hzN5).trans m3
                  have HCL6 := Lib.hid (HCALL.out w6 (HPV5.out.older o6))
                  clear hb6 o6
                  cases hr : isRaw t.name with
                  | true =>
                    have HR := Lib.hid (HR4.out hr)
                    clear hr
                    go_wp2_with fail
                    go_ret
                    exact ⟨by rw [HR.out]; rfl, HB6.out⟩
                  | false =>
                    have HRB2 := Lib.hid (HRB.out hr)
                    have HRC2 := Lib.hid (HRC.out hr)
                    clear hr
                    go_wp2_with fail
                    refine HCL6.out.mono ?_
                    rintro e w7 ⟨rfl, hb7⟩
                    have HB7 := Lib.hid (HB6.out.trans (hb7.mono HB6.out.size))
                    clear hb7
                    generalize faultL (deep + 1) false t.parts = y at *
                    by_cases hy : y = 0
                    · have HR := Lib.hid (HRC2.out hy)
                      subst hy
                      go_wp2_with fail
                      go_roundg m
                      case measure => omega
                      case rel => exact ⟨_, k + 1, rfl, by omega, by go_num, HB7, HR⟩
                    · have HR := Lib.hid (HRB2.out hy)
                      have y1 : (y == 0) = false := beq_eq_false_iff_ne.2 hy
                      have y2 : (y != 0) = true := by rw [bne_iff_ne]; exact hy
                      go_wp2_with fail
                      go_ret
                      exact ⟨by rw [HR.out] <;> rfl, HB7.out⟩
            · have g1 := sBeqF q3
              have g2 := sEqF q3
              have g3 := sEmpF q3
              have HR := Lib.hid (HR4.out (by rw [beq_eq_false_iff_ne.2 q3]; rfl))
              clear q3
              go_wp2_with fail
              go_ret
              exact ⟨by rw [HR.out]; rfl, HB4.out⟩
          · have HR := Lib.hid (show faultL deep false l = x by rw [HST.out, HFM.out, if_pos hx0, if_pos hx0])
            have x1 : (x == 0) = false := beq_eq_false_iff_ne.2 hx0
            have x2 : (x != 0) = true := by rw [bne_iff_ne]; exact hx0
            clear hx
            go_wp2_with fail
            go_ret
            exact ⟨by rw [HR.out] <;> rfl, HB4.out⟩
    · obtain rfl : k = l.length := by omega
      have HR := Lib.hid (show faultL deep false l = 0 by rw [hF.out, List.drop_length, faultL])
      clear hF
      go_wp2_with fail
      go_ret
      exact ⟨by rw [HR.out] <;> rfl, hB.out⟩

end Go.Proofs.YtjkgmdnkejjppaaGreatDoor
/- Walks of show: Of, Check, Text. -/
namespace Go.Proofs.YtjkgmdnkejjppaaGreatDoor
open Go Go.RowKit

mutual
theorem ofN_len : ∀ t : TNode, SzN t → (ofN t).length ≤ countN t * 9000000
  | .mk n a t ps, h => by
    rw [SzN] at h
    obtain ⟨⟨h1, h2, h3, h4⟩, h5⟩ := h
    have ih := ofL_len ps h5
    have ht := tokText_len ⟨1, n, a, false, []⟩ ⟨h1, by show 0 ≤ 1000; omega, h3, h4⟩
    have ht' : (tagText n a false).length ≤ 8000000 := ht
    have he := (escM_len false t).2.1
    rw [ofN, countN]
    split
    · omega
    · split
      · omega
      · simp only [List.length_append, List.length_cons, List.length_nil]
        omega
theorem ofL_len : ∀ l : List TNode, SzL l → (ofL l).length ≤ countL l * 9000000
  | [], _ => by rw [ofL, countL]; simp
  | t :: l, h => by
    rw [SzL] at h
    have h1 := ofN_len t h.1
    have h2 := ofL_len l h.2
    rw [ofL, countL, List.length_append]; omega
end
theorem SzL.take {l : List TNode} (h : SzL l) (k : Nat) : SzL (l.take k) := SzL.of fun t ht => h.mem t (List.mem_of_mem_take ht)

theorem of_cat (D E R n : Bytes) : mk D ++ ((((mk E ++ mk R) ++ ⟨#[60, 47]⟩) ++ mk n) ++ ⟨#[62]⟩) = mk (D ++ (E ++ (R ++ (60 :: 47 :: n ++ [62])))) := by
  rw [show (⟨#[60, 47]⟩ : ByteArray) = mk [60, 47] from rfl, show (⟨#[62]⟩ : ByteArray) = mk [62] from rfl, cat_mk, cat_mk, cat_mk, cat_mk, cat_mk]
  congr 1
  simp

set_option maxHeartbeats 4000000 in
set_option maxRecDepth 100000 in
theorem of_any : ∀ (d : Nat) (v : Value) (l : List TNode) (w : World), NodeView d w v l → countL l ≤ 100000 → SzL l →
    Calls Tryz.prog 17 #[v] w fun e w' => e = .returned (.string (mk (ofL l))) ∧ Below w.heap.size w w' := by
  intro d
  induction d using Nat.strongRecOn with
  | _ d ih =>
  intro v l w hv hct hsz
  obtain ⟨a, cap, rfl⟩ := hv.form
  have hln := Nat.le_trans (len_countL l) hct
  have HIH := Lib.hid ih
  have HV := Lib.hid hv
  have HCT := Lib.hid hct
  have HSL := Lib.hid hsz
  have HSZ := Lib.hid hsz.mem
  clear ih hv hct hsz
  go_enter Tryz.func17, Tryz.ntmps17
  go_wp2_with fail
  go_loopg [3, 8] l.length (fun g s i wx => ∃ (W : World) (k : Nat), W = wx ∧ k + g = l.length ∧ i = .int .i64 k ∧ s = .string (mk (ofL (l.take k))) ∧ Hid (Below w.heap.size w wx))
  case atStart => exact ⟨_, 0, rfl, by omega, rfl, by rw [List.take_zero, ofL]; rfl, Lib.hid (Below.refl _ _)⟩
  case round =>
    obtain ⟨W, k, rfl, hk, rfl, rfl, hB⟩ := hrel
    by_cases hlt : k < l.length
    · obtain ⟨m, rfl⟩ : ∃ m, gk = m + 1 := ⟨gk - 1, by omega⟩
      obtain ⟨t, ht⟩ : ∃ t, l[k]? = some t := ⟨_, List.getElem?_eq_getElem hlt⟩
      obtain ⟨d', hd', g, c, av, pv, hf, hc1, hc2, hg, hat, hav, hpv⟩ := (HV.out.older (.of_below hB.out)).get k t ht
      obtain rfl : a = some ⟨g, 0, none⟩ := by simp at hf; exact hf.1
      obtain ⟨a1, a2, a3, a4⟩ := hat
      obtain ⟨pa, pc, hpf⟩ := hpv.form
      subst hpf
      obtain ⟨⟨aa, ac, haf⟩, -⟩ := id hav
      subst haf
      have hs := (HSZ.out t (List.mem_of_getElem? ht)).all
      have h3 := countN_mem (List.mem_of_getElem? ht)
      rw [countN_of] at h3
      obtain ⟨w1, hw1⟩ : ∃ w1, w1 = W.alloc (.cells #[.string (mk t.name), .slice aa t.attrs.length ac, .string (mk t.text), .slice pa t.parts.length pc] 44) := ⟨_, rfl⟩
      have hb1 : Below W.heap.size W w1 := by rw [hw1]; exact (Below.refl _ _).alloc (Nat.le_refl _) _
      have hN1 : w1.heap[W.heap.size]? = some (.cells #[.string (mk t.name), .slice aa t.attrs.length ac, .string (mk t.text), .slice pa t.parts.length pc] 44 (0, 0)) := by rw [hw1]; exact heap_alloc_new _ _
      have m0 : w1.cell? ⟨W.heap.size, 0, none⟩ = some (.string (mk t.name)) := by rw [Lib.cell_of_heap hN1]; rfl
      have m1 : w1.cell? ⟨W.heap.size, 1, none⟩ = some (.slice aa t.attrs.length ac) := by rw [Lib.cell_of_heap hN1]; rfl
      have m2 : w1.cell? ⟨W.heap.size, 2, none⟩ = some (.string (mk t.text)) := by rw [Lib.cell_of_heap hN1]; rfl
      have m3 : w1.cell? ⟨W.heap.size, 3, none⟩ = some (.slice pa t.parts.length pc) := by rw [Lib.cell_of_heap hN1]; rfl
      have hzN := lt_of_block hN1
      have HB1 := Lib.hid (hB.out.trans (hb1.mono hB.out.size))
      have HW1 := Lib.hid hw1
      have HAV := Lib.hid (hav.older (.of_below hb1))
      have HPV := Lib.hid (hpv.older (.of_below hb1))
      have HTK := Lib.hid (ofL_take l k t ht)
      have HON := Lib.hid (ofN_of t)
      have htl := ofL_len (l.take k) (HSL.out.take k)
      have hcl := countL_take_le l k
      have hpl := ofL_len t.parts hs.2
      have hcz := HCT.out
      have hDz : (mk (ofL (l.take k))).size ≤ 1000000000000 := by rw [mk_size]; omega
      have hRz : (mk (ofL t.parts)).size ≤ 1000000000000 := by rw [mk_size]; omega
      have hNz : (mk t.name).size ≤ 1000 := by rw [mk_size]; exact hs.1.1
      have hXz : (mk t.text).size ≤ 1000 := by rw [mk_size]; exact hs.1.2.1
      have hEz : (mk (tagText t.name t.attrs false)).size ≤ 8000000 := by
        rw [mk_size]; exact tokText_len ⟨1, t.name, t.attrs, false, []⟩ ⟨hs.1.1, by show 0 ≤ 1000; omega, hs.1.2.2.1, hs.1.2.2.2⟩
      have HTAG := Lib.hid (fun W' (h : Older w1 W') => etag_any t.name (.slice aa t.attrs.length ac) t.attrs false W' (HAV.out.older h) hs.1.1 hs.1.2.2.1 hs.1.2.2.2)
      have HOF := Lib.hid (fun W' (h : Older w1 W') => HIH.out d' (by omega) (.slice pa t.parts.length pc) t.parts W' (HPV.out.older h) (by omega) hs.2)
      have k0 : (0 : Int) ≤ k := by omega
      have k1 : (k : Int) < l.length := by omega
      clear hf hpv hav ht hb1 hN1 hw1 hs h3 hd' htl hcl hpl hcz
      generalize ofL (l.take k) = D at *
      generalize ofL t.parts = R at *
      go_upto_region 6 with fail
      rw [← HW1.out]
      clear a1 a2 a3 a4
      by_cases hn : t.name = []
      · rw [hn] at m0
        have m0' : w1.cell? ⟨W.heap.size, 0, none⟩ = some (.string ⟨#[]⟩) := m0
        have HST := Lib.hid (show ofL (l.take (k + 1)) = D ++ escM false t.text by rw [HTK.out, HON.out, if_pos hn])
        have HES := Lib.hid (escape_any (mk t.text) false (by omega) w1)
        rw [lst_mk] at HES
        have hez := (escM_len false t.text).2.1
        rw [mk_size] at hXz
        have hEz2 : (mk (escM false t.text)).size ≤ 6000 := by rw [mk_size]; omega
        generalize escM false t.text = E at *
        clear m0 hn HON hez hEz HTAG HOF
        go_wp2_with fail
        refine HES.out.mono ?_
        rintro e w3 ⟨rfl, hb3⟩
        have HB3 := Lib.hid (HB1.out.trans (hb3.mono HB1.out.size))
        clear hb3
        go_wp2_with fail
        go_roundg m
        case measure => omega
        case rel => exact ⟨_, k + 1, rfl, by omega, by go_num, by rw [HST.out, ← cat_mk], HB3⟩
      · have f1 := sBeqF hn
        have f2 := sEqF hn
        have f3 := sEmpF hn
        have HV := Lib.hid (void_any t.name w1)
        have HOE := Lib.hid (show ofN t = if isVoid t.name then tagText t.name t.attrs false else tagText t.name t.attrs false ++ (R ++ (60 :: 47 :: t.name ++ [62])) by rw [HON.out, if_neg hn])
        generalize tagText t.name t.attrs false = E at *
        clear hn HON
        go_wp2_with fail
        refine HV.out.mono ?_
        rintro e w3 ⟨rfl, hb3⟩
        have HB3 := Lib.hid (HB1.out.trans (hb3.mono HB1.out.size))
        have o3 := Older.of_below hb3
        have m0 := (o3.cell _ _ hzN).trans m0
        have m1 := (o3.cell _ _ hzN).trans m1
        have m3 := (o3.cell _ _ hzN).trans m3
        have hzN3 := Nat.lt_of_lt_of_le hzN hb3.size
        have HO3 := Lib.hid o3
        clear hb3 o3 m2
        cases hv : isVoid t.name with
        | true =>
          have HST := Lib.hid (show ofL (l.take (k + 1)) = D ++ E by rw [HTK.out, HOE.out, if_pos hv])
          have HT3 := Lib.hid (HTAG.out w3 HO3.out)
          clear hv HTAG HOF
          go_wp2_with fail
          refine HT3.out.mono ?_
          rintro e w4 ⟨rfl, hb4⟩
          have HB4 := Lib.hid (HB3.out.trans (hb4.mono HB3.out.size))
          clear hb4
          go_wp2_with fail
          go_roundg m
          case measure => omega
          case rel => exact ⟨_, k + 1, rfl, by omega, by go_num, by rw [HST.out, ← cat_mk], HB4⟩
        | false =>
          have HST := Lib.hid (show ofL (l.take (k + 1)) = D ++ (E ++ (R ++ (60 :: 47 :: t.name ++ [62]))) by rw [HTK.out, HOE.out, if_neg (by simp [hv])])
          have HCAT := Lib.hid (of_cat D E R t.name)
          clear hv
          have x1 : ¬ 9223372036854775807 < (mk E).size + (mk R).size := by omega
          have x2 : ¬ 9223372036854775807 < (mk E).size + (mk R).size + 2 := by omega
          have x3 : ¬ 9223372036854775807 < (mk E).size + (mk R).size + 2 + (mk t.name).size := by omega
          have x4 : ¬ 9223372036854775807 < (mk E).size + (mk R).size + 2 + (mk t.name).size + 1 := by omega
          have x5 : ¬ 9223372036854775807 < (mk D).size + ((mk E).size + (mk R).size + 2 + (mk t.name).size + 1) := by omega
          have HT3 := Lib.hid (HTAG.out w3.drew (HO3.out.trans ⟨Nat.le_refl _, fun _ _ => rfl⟩))
          go_wp2_with fail
          go_region_held3 (fun w' => w'.cell? ⟨W.heap.size, 0, none⟩ = some (.string (mk t.name)) ∧ w'.cell? ⟨W.heap.size, 1, none⟩ = some (.slice aa t.attrs.length ac) ∧ w'.cell? ⟨W.heap.size, 3, none⟩ = some (.slice pa t.parts.length pc)) (first | (refine ⟨?_, ?_, ?_⟩ <;> assumption) | go_keep)
            (first
              | (go_at_call 37; (refine HT3.out.mono ?_; rintro e w4 ⟨rfl, hb4⟩; have HB4 := Lib.hid (HB3.out.trans ((show Below w3.heap.size w3 w4 from ⟨hb4.os, hb4.tape, hb4.output, hb4.size, hb4.block⟩).mono HB3.out.size)); have o4 := Older.of_below (show Below w3.heap.size w3 w4 from ⟨hb4.os, hb4.tape, hb4.output, hb4.size, hb4.block⟩); have y0 := (o4.cell _ _ hzN3).trans m0; have y1 := (o4.cell _ _ hzN3).trans m1; have y3 := (o4.cell _ _ hzN3).trans m3; have hzN4 := Nat.lt_of_lt_of_le hzN3 hb4.size; have HT4 := Lib.hid (HOF.out w4 (HO3.out.trans o4)); clear hb4 o4))
              | (go_at_call 17; (refine HT4.out.mono ?_; rintro e w5 ⟨rfl, hb5⟩; have HB5 := Lib.hid (HB4.out.trans (hb5.mono HB4.out.size)); have o5 := Older.of_below hb5; have y0 := (o5.cell _ _ hzN4).trans y0; have y1 := (o5.cell _ _ hzN4).trans y1; have y3 := (o5.cell _ _ hzN4).trans y3; clear hb5 o5)))
          go_wp2_with fail
          go_roundg m
          case measure => omega
          case rel => exact ⟨_, k + 1, rfl, by omega, by go_num, by rw [HST.out, ← HCAT.out], HB5⟩
    · obtain rfl : k = l.length := by omega
      rw [List.take_length]
      go_wp2_with fail
      go_ret
      exact ⟨rfl, hB.out⟩

set_option maxHeartbeats 1000000 in
theorem scheck_any (d : Nat) (v : Value) (l : List TNode) (w : World) (hv : NodeView d w v l) (hct : countL l ≤ 1000000) (hdp : deepL l ≤ 1000000) (hsz : SzL l) :
    Calls Tryz.prog 16 #[v] w fun e w' => e = .returned (.int .i64 (checkS l)) ∧ Below w.heap.size w w' := by
  have HF := Lib.hid (fault_any d v l 0 w hv hct hsz (by omega))
  have HC := Lib.hid (fun W h => count_any d v l W h hct hdp)
  have HV := Lib.hid hv
  have HX := Lib.hid (show checkS l = if faultL 0 false l ≠ 0 then faultL 0 false l else if 150 < countL l then 1 else 0 from rfl)
  clear hv hsz
  generalize faultL 0 false l = x at *
  go_enter Tryz.func16, Tryz.ntmps16
  go_wp2_with fail
  refine HF.out.mono ?_
  rintro e w1 ⟨rfl, hb1⟩
  have HB1 := Lib.hid hb1
  have HC1 := Lib.hid (HC.out w1 (HV.out.older (.of_below hb1)))
  clear hb1
  by_cases hx0 : x = 0
  · subst hx0
    go_wp2_with fail
    refine HC1.out.mono ?_
    rintro e w2 ⟨rfl, hb2⟩
    have HB2 := Lib.hid (HB1.out.trans (hb2.mono HB1.out.size))
    clear hb2
    by_cases h150 : 150 < countL l
    · have c1 : (150 : Int) < countL l := by omega
      have HR := Lib.hid (show checkS l = 1 by rw [HX.out, if_neg (by simp), if_pos h150])
      go_wp2_with fail
      go_ret
      exact ⟨by rw [HR.out] <;> rfl, HB2.out⟩
    · have c1 : ¬ (150 : Int) < countL l := by omega
      have HR := Lib.hid (show checkS l = 0 by rw [HX.out, if_neg (by simp), if_neg h150])
      go_wp2_with fail
      go_ret
      exact ⟨by rw [HR.out] <;> rfl, HB2.out⟩
  · have x1 : (x == 0) = false := beq_eq_false_iff_ne.2 hx0
    have x2 : (x != 0) = true := by rw [bne_iff_ne]; exact hx0
    have HR := Lib.hid (show checkS l = x by rw [HX.out, if_pos hx0])
    go_wp2_with fail
    go_ret
    exact ⟨by rw [HR.out] <;> rfl, HB1.out⟩

set_option maxHeartbeats 1000000 in
theorem stext_any (d : Nat) (v : Value) (l : List TNode) (w : World) (hv : NodeView d w v l) (hct : countL l ≤ 100000) (hdp : deepL l ≤ 1000000) (hsz : SzL l) :
    Calls Tryz.prog 11 #[v] w fun e w' => e = .returned (.tuple #[.string (mk (textS l).1), .int .i64 (textS l).2]) ∧ Below w.heap.size w w' := by
  have HC := Lib.hid (scheck_any d v l w hv (by omega) hdp hsz)
  have HO := Lib.hid (fun W h => of_any d v l W h hct hsz)
  have HV := Lib.hid hv
  have hz := ofL_len l hsz
  have hDz : (mk (ofL l)).size ≤ 1000000000000 := by rw [mk_size]; omega
  have HX := Lib.hid (show textS l = if checkS l ≠ 0 then ([], checkS l) else if 600 < (ofL l).length then ([], 1) else (ofL l, 0) from rfl)
  have hDl : (mk (ofL l)).size = (ofL l).length := mk_size _
  have HDL := Lib.hid hDl
  clear hv hsz hz hDl
  generalize checkS l = x at *
  generalize ofL l = D at *
  go_enter Tryz.func11, Tryz.ntmps11
  go_wp2_with fail
  refine HC.out.mono ?_
  rintro e w1 ⟨rfl, hb1⟩
  have HB1 := Lib.hid hb1
  have HO1 := Lib.hid (HO.out w1 (HV.out.older (.of_below hb1)))
  clear hb1
  by_cases hx0 : x = 0
  · subst hx0
    go_wp2_with fail
    refine HO1.out.mono ?_
    rintro e w2 ⟨rfl, hb2⟩
    have HB2 := Lib.hid (HB1.out.trans (hb2.mono HB1.out.size))
    clear hb2
    by_cases h6 : 600 < D.length
    · have c1 : (600 : Int) < (mk D).size := by rw [HDL.out]; omega
      have HR := Lib.hid (show textS l = ([], 1) by rw [HX.out, if_neg (by simp), if_pos h6])
      go_wp2_with fail
      exact bodyPost_ret (v := .tuple #[.string ⟨#[]⟩, .int .i64 1]) (by simp [results, Tryz.results11, go_sem]) rfl ⟨by rw [HR.out]; rfl, HB2.out⟩
    · have c1 : ¬ (600 : Int) < (mk D).size := by rw [HDL.out]; omega
      have HR := Lib.hid (show textS l = (D, 0) by rw [HX.out, if_neg (by simp), if_neg h6])
      go_wp2_with fail
      exact bodyPost_ret (v := .tuple #[.string (mk D), .int .i64 0]) (by simp [results, Tryz.results11, go_sem]) rfl ⟨by rw [HR.out] <;> rfl, HB2.out⟩
  · have x1 : (x == 0) = false := beq_eq_false_iff_ne.2 hx0
    have x2 : (x != 0) = true := by rw [bne_iff_ne]; exact hx0
    have HR := Lib.hid (show textS l = ([], x) by rw [HX.out, if_pos hx0])
    go_wp2_with fail
    exact bodyPost_ret (v := .tuple #[.string ⟨#[]⟩, .int .i64 x]) (by simp [results, Tryz.results11, go_sem]) rfl ⟨by rw [HR.out]; rfl, HB1.out⟩

end Go.Proofs.YtjkgmdnkejjppaaGreatDoor
