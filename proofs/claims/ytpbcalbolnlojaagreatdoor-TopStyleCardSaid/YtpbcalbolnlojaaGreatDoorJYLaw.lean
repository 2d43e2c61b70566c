/- What the package style computes on texts without a slash; what the drawn declarations come to. Nothing of the program here. -/
import Derived.Test.YtpbcalbolnlojaaGreatDoorGa
import Derived.Lib.IndexMore
import Derived.Lib.SlTrimSet
import Derived.Lib.Join
namespace Go.Proofs.YtpbcalbolnlojaaGreatDoor
open Go

structure TDecl where
  name : Bytes
  value : Bytes
deriving DecidableEq

/-- The parts between semicolons that count: depth of brackets, open quote, what the part has so far. -/
def pcs : Nat → UInt8 → Bytes → Bytes → List Bytes
  | _, _, cur, [] => [cur]
  | d, q, cur, c :: r =>
    if q ≠ 0 then pcs d (if c = q then 0 else q) (cur ++ [c]) r
    else if c = 34 ∨ c = 39 then pcs d c (cur ++ [c]) r
    else if c = 40 then pcs (d + 1) 0 (cur ++ [c]) r
    else if c = 41 then pcs (d - 1) 0 (cur ++ [c]) r
    else if c = 59 ∧ d = 0 then cur :: pcs 0 0 [] r
    else pcs d 0 (cur ++ [c]) r
def blanks : Bytes := [32, 9, 10, 12, 13]
def trimM (l : Bytes) : Bytes := Lib.trimS l blanks
def declM (p : Bytes) : TDecl := ⟨small (trimM (Lib.cut p [58]).1), trimM (Lib.cut p [58]).2.1⟩
def declsM (p : Bytes) : List TDecl := if ((Lib.cut p [58]).2.2 && nameM (declM p).name && !((declM p).value == [])) = true then [declM p] else []
/-- style.Parse of a text without a slash. -/
def parseS (s : Bytes) : List TDecl := ((pcs 0 0 [] s).map declsM).flatten
def declText (d : TDecl) : Bytes := d.name ++ 58 :: 32 :: d.value
def declsText (l : List TDecl) : Bytes := Lib.join (l.map declText) [59, 32]

def declNames : List Bytes := [[99, 111, 108, 111, 114], [119, 105, 100, 116, 104], [97, 45, 98], [120, 49]]
def declValues : List Bytes := [[114, 101, 100], [49, 112, 120, 32, 50, 112, 120], [117, 114, 108, 40, 97, 59, 98, 41], [34, 59, 58, 34], [97, 58, 98], [102, 40, 103, 40, 59, 41, 41], [39, 120, 39]]
def DeclIn (d : TDecl) : Prop := d.name ∈ declNames ∧ d.value ∈ declValues

theorem pcs_quote {d : Nat} {q c : UInt8} (cur r : Bytes) (h : q ≠ 0) : pcs d q cur (c :: r) = pcs d (if c = q then 0 else q) (cur ++ [c]) r := by rw [pcs, if_pos h]
theorem pcs_open {d : Nat} {c : UInt8} (cur r : Bytes) (h : c = 34 ∨ c = 39) : pcs d 0 cur (c :: r) = pcs d c (cur ++ [c]) r := by rw [pcs, if_neg (by decide), if_pos h]
theorem pcs_in {d : Nat} (cur r : Bytes) : pcs d 0 cur (40 :: r) = pcs (d + 1) 0 (cur ++ [40]) r := by rw [pcs, if_neg (by decide), if_neg (by decide), if_pos rfl]
theorem pcs_out {d : Nat} (cur r : Bytes) : pcs d 0 cur (41 :: r) = pcs (d - 1) 0 (cur ++ [41]) r := by rw [pcs, if_neg (by decide), if_neg (by decide), if_neg (by decide), if_pos rfl]
theorem pcs_cut (cur r : Bytes) : pcs 0 0 cur (59 :: r) = cur :: pcs 0 0 [] r := by rw [pcs, if_neg (by decide), if_neg (by decide), if_neg (by decide), if_neg (by decide), if_pos ⟨rfl, rfl⟩]
theorem pcs_else {d : Nat} {c : UInt8} (cur r : Bytes) (h1 : c ≠ 34) (h2 : c ≠ 39) (h3 : c ≠ 40) (h4 : c ≠ 41) (h5 : ¬ (c = 59 ∧ d = 0)) : pcs d 0 cur (c :: r) = pcs d 0 (cur ++ [c]) r := by
  rw [pcs, if_neg (by decide), if_neg (fun e => e.elim h1 h2), if_neg h3, if_neg h4, if_neg h5]
theorem pcs_len : ∀ (r : Bytes) (d : Nat) (q : UInt8) (cur : Bytes), (∀ p ∈ pcs d q cur r, p.length ≤ cur.length + r.length) ∧ (pcs d q cur r).length ≤ r.length + 1
  | [], d, q, cur => by rw [pcs]; simp
  | c :: r, d, q, cur => by
    have step : ∀ d' q', (∀ p ∈ pcs d' q' (cur ++ [c]) r, p.length ≤ cur.length + (c :: r).length) ∧ (pcs d' q' (cur ++ [c]) r).length ≤ (c :: r).length + 1 := fun d' q' => by
      have h := pcs_len r d' q' (cur ++ [c])
      refine ⟨fun p hp => ?_, by have := h.2; simp only [List.length_cons]; omega⟩
      have := h.1 p hp
      simp only [List.length_append, List.length_cons, List.length_nil] at this ⊢; omega
    rw [pcs]
    split
    · exact step _ _
    · split
      · exact step _ _
      · split
        · exact step _ _
        · split
          · exact step _ _
          · split
            · have h := pcs_len r 0 0 []
              refine ⟨fun p hp => ?_, by have := h.2; simp only [List.length_cons]; omega⟩
              rcases List.mem_cons.1 hp with rfl | hp
              · simp
              · have := h.1 p hp
                simp only [List.length_cons, List.length_nil] at this ⊢; omega
            · exact step _ _
theorem cut_len (p sep : Bytes) : (Lib.cut p sep).1.length ≤ p.length ∧ (Lib.cut p sep).2.1.length ≤ p.length := by
  unfold Lib.cut
  split
  · exact ⟨by simp; omega, by simp⟩
  · exact ⟨Nat.le_refl _, by simp⟩
theorem trim_len (p : Bytes) : (trimM p).length ≤ p.length := by
  unfold trimM Lib.trimS Lib.trimLeftS Lib.trimRightS
  have h1 := (List.dropWhile_suffix (fun x => blanks.contains x) (l := p.reverse)).length_le
  have h2 := (List.dropWhile_suffix (fun x => blanks.contains x) (l := (p.reverse.dropWhile fun x => blanks.contains x).reverse)).length_le
  simp only [List.length_reverse] at h1 h2
  exact Nat.le_trans h2 h1
/-- The state behind a text in which no part ends. -/
def runS : Nat → UInt8 → Bytes → Option (Nat × UInt8)
  | d, q, [] => some (d, q)
  | d, q, c :: r =>
    if q ≠ 0 then runS d (if c = q then 0 else q) r
    else if c = 34 ∨ c = 39 then runS d c r
    else if c = 40 then runS (d + 1) 0 r
    else if c = 41 then runS (d - 1) 0 r
    else if c = 59 ∧ d = 0 then none
    else runS d 0 r
theorem pcs_run (t r : Bytes) : ∀ d q cur d' q', runS d q t = some (d', q') → pcs d q cur (t ++ r) = pcs d' q' (cur ++ t) r := by
  induction t with
  | nil => intro d q cur d' q' h; unfold runS at h; cases h; simp
  | cons c t ih =>
    intro d q cur d' q' h
    rw [List.cons_append]
    unfold runS at h
    conv => lhs; unfold pcs
    have e : cur ++ c :: t = (cur ++ [c]) ++ t := by simp
    rw [e]
    by_cases h1 : q ≠ 0
    · rw [if_pos h1] at h ⊢
      exact ih _ _ _ _ _ h
    · rw [if_neg h1] at h ⊢
      by_cases h2 : c = 34 ∨ c = 39
      · rw [if_pos h2] at h ⊢
        exact ih _ _ _ _ _ h
      · rw [if_neg h2] at h ⊢
        by_cases h3 : c = 40
        · rw [if_pos h3] at h ⊢
          exact ih _ _ _ _ _ h
        · rw [if_neg h3] at h ⊢
          by_cases h4 : c = 41
          · rw [if_pos h4] at h ⊢
            exact ih _ _ _ _ _ h
          · rw [if_neg h4] at h ⊢
            by_cases h5 : c = 59 ∧ d = 0
            · rw [if_pos h5] at h; cases h
            · rw [if_neg h5] at h ⊢
              exact ih _ _ _ _ _ h

/-- What is asked of a declaration's text: decided for each. -/
def declGood (d : TDecl) : Bool := decide (runS 0 0 (declText d) = some (0, 0)) && decide (declsM (declText d) = [d]) && decide (declsM (32 :: declText d) = [d]) && nameM d.name && !((declText d).contains 47) && decide ((declText d).length ≤ 15)
theorem declGood_all : (declNames.all fun n => declValues.all fun v => declGood ⟨n, v⟩) = true := by decide +kernel
theorem DeclIn.good {d : TDecl} (h : DeclIn d) : declGood d = true := by
  have h1 := List.all_eq_true.1 declGood_all d.name h.1
  exact List.all_eq_true.1 h1 d.value h.2

theorem DeclIn.run {d : TDecl} (h : DeclIn d) : runS 0 0 (declText d) = some (0, 0) := by
  have := h.good; unfold declGood at this; simp only [Bool.and_eq_true, decide_eq_true_eq] at this; exact this.1.1.1.1.1
theorem DeclIn.one {d : TDecl} (h : DeclIn d) : declsM (declText d) = [d] := by
  have := h.good; unfold declGood at this; simp only [Bool.and_eq_true, decide_eq_true_eq] at this; exact this.1.1.1.1.2
theorem DeclIn.two {d : TDecl} (h : DeclIn d) : declsM (32 :: declText d) = [d] := by
  have := h.good; unfold declGood at this; simp only [Bool.and_eq_true, decide_eq_true_eq] at this; exact this.1.1.1.2
theorem DeclIn.nm {d : TDecl} (h : DeclIn d) : nameM d.name = true := by
  have := h.good; unfold declGood at this; simp only [Bool.and_eq_true, decide_eq_true_eq] at this; exact this.1.1.2
theorem DeclIn.slash {d : TDecl} (h : DeclIn d) : (47 : UInt8) ∉ declText d := by
  have := h.good; unfold declGood at this; simp only [Bool.and_eq_true, decide_eq_true_eq] at this
  have h2 := this.1.2
  intro hm
  rw [List.contains_iff_mem.2 hm] at h2; cases h2
theorem DeclIn.len {d : TDecl} (h : DeclIn d) : (declText d).length ≤ 15 := by
  have := h.good; unfold declGood at this; simp only [Bool.and_eq_true, decide_eq_true_eq] at this; exact this.2
theorem DeclIn.parse {d : TDecl} (h : DeclIn d) : parseS (declText d) = [d] := by
  have h1 := pcs_run (declText d) [] 0 0 [] 0 0 h.run
  rw [List.append_nil, List.nil_append] at h1
  unfold parseS
  rw [h1]
  show (([declText d] : List Bytes).map declsM).flatten = [d]
  simp [h.one]

/-- Behind the first: each part begins with a blank. -/
theorem pcs_tail : ∀ (l : List TDecl) (p : Bytes), (∀ d ∈ l, DeclIn d) → pcs 0 0 p (Lib.joinTail [59, 32] (l.map declText)) = p :: l.map (fun d => 32 :: declText d)
  | [], p, _ => by simp [Lib.joinTail, pcs]
  | d :: l, p, h => by
    have hd := h d (by simp)
    have e : Lib.joinTail [59, 32] ((d :: l).map declText) = 59 :: ((32 :: declText d) ++ Lib.joinTail [59, 32] (l.map declText)) := by simp [Lib.joinTail]
    rw [e]
    have e1 : ∀ r, pcs 0 0 p (59 :: r) = p :: pcs 0 0 [] r := fun r => by
      rw [pcs, if_neg (by decide), if_neg (by decide), if_neg (by decide), if_neg (by decide), if_pos ⟨rfl, rfl⟩]
    have hr : runS 0 0 (32 :: declText d) = some (0, 0) := by
      rw [runS, if_neg (by decide), if_neg (by decide), if_neg (by decide), if_neg (by decide), if_neg (by simp)]
      exact hd.run
    rw [e1, pcs_run _ _ 0 0 [] 0 0 hr, List.nil_append, pcs_tail l _ (fun x hx => h x (by simp [hx]))]
    simp
theorem declsText_parse (l : List TDecl) (h : ∀ d ∈ l, DeclIn d) : parseS (declsText l) = l := by
  cases l with
  | nil => rfl
  | cons d l =>
    have hd := h d (by simp)
    unfold declsText parseS
    rw [List.map_cons, Lib.join_cons, pcs_run _ _ 0 0 [] 0 0 hd.run, List.nil_append, pcs_tail l _ (fun x hx => h x (by simp [hx])), List.map_cons, List.flatten_cons, hd.one]
    have : ∀ m : List TDecl, (∀ d ∈ m, DeclIn d) → ((m.map (fun d => 32 :: declText d)).map declsM).flatten = m := by
      intro m
      induction m with
      | nil => intro _; rfl
      | cons x m ih =>
        intro hm
        rw [List.map_cons, List.map_cons, List.flatten_cons, (hm x (by simp)).two, ih (fun y hy => hm y (by simp [hy]))]
        rfl
    rw [this l (fun x hx => h x (by simp [hx]))]
    rfl
theorem joinTail_mem {l : List TDecl} (h : ∀ d ∈ l, DeclIn d) : (47 : UInt8) ∉ Lib.joinTail [59, 32] (l.map declText) := by
  intro hm
  unfold Lib.joinTail at hm
  obtain ⟨x, hx, hm⟩ := List.mem_flatten.1 hm
  obtain ⟨y, hy, rfl⟩ := List.mem_map.1 hx
  obtain ⟨d, hd, rfl⟩ := List.mem_map.1 hy
  rcases List.mem_append.1 hm with hm | hm
  · revert hm; decide
  · exact (h d hd).slash hm
theorem declsText_slash (l : List TDecl) (h : ∀ d ∈ l, DeclIn d) : (47 : UInt8) ∉ declsText l := by
  unfold declsText
  cases l with
  | nil => simp [Lib.join]
  | cons d l =>
    rw [List.map_cons, Lib.join_cons]
    intro hm
    rcases List.mem_append.1 hm with hm | hm
    · exact (h d (by simp)).slash hm
    · exact joinTail_mem (fun x hx => h x (by simp [hx])) hm
theorem joinTail_len (l : List TDecl) (h : ∀ d ∈ l, DeclIn d) : (Lib.joinTail [59, 32] (l.map declText)).length ≤ 17 * l.length := by
  induction l with
  | nil => simp [Lib.joinTail]
  | cons d l ih =>
    have h1 := ih (fun x hx => h x (by simp [hx]))
    have h2 := (h d (by simp)).len
    have e : Lib.joinTail [59, 32] ((d :: l).map declText) = 59 :: 32 :: declText d ++ Lib.joinTail [59, 32] (l.map declText) := by simp [Lib.joinTail]
    rw [e]
    simp only [List.length_append, List.length_cons]
    omega
theorem declsText_len (l : List TDecl) (h : ∀ d ∈ l, DeclIn d) : (declsText l).length ≤ 17 * l.length := by
  unfold declsText
  cases l with
  | nil => simp [Lib.join]
  | cons d l =>
    have h1 := joinTail_len l (fun x hx => h x (by simp [hx]))
    have h2 := (h d (by simp)).len
    rw [List.map_cons, Lib.join_cons]
    simp only [List.length_append, List.length_cons]
    omega
theorem pref_mem {a b : UInt8} : ∀ {l : Bytes}, ([a, b] : Bytes).isPrefixOf l = true → a ∈ l
  | [], h => by cases h
  | c :: l, h => by
    have : (a == c && ([b] : Bytes).isPrefixOf l) = true := h
    rw [Bool.and_eq_true, beq_iff_eq] at this
    rw [this.1]; simp
theorem index_out {a b : UInt8} : ∀ {l : Bytes}, a ∉ l → Lib.index l [a, b] = -1
  | [], _ => rfl
  | c :: l, h => by
    have h1 : ([a, b] : Bytes).isPrefixOf (c :: l) = false := by
      cases hp : ([a, b] : Bytes).isPrefixOf (c :: l) with
      | false => rfl
      | true => exact absurd (pref_mem hp) h
    have h2 := index_out (a := a) (b := b) (l := l) (fun hm => h (List.mem_cons_of_mem _ hm))
    rw [Lib.index, h1, h2]; rfl
theorem cut_out {a b : UInt8} {l : Bytes} (h : a ∉ l) : Lib.cut l [a, b] = (l, [], false) := by
  unfold Lib.cut
  rw [index_out h]; rfl

/-- The token that TopStyle writes. -/
def styleTok (v : Bytes) : TTok := ⟨1, [112], [⟨[115, 116, 121, 108, 101], v⟩], false, []⟩
theorem style_check (v : Bytes) : checkM [styleTok v] = 0 := rfl
theorem style_text (v : Bytes) : (tokTexts [styleTok v]).length = 12 + (escM true v).length := by
  show (tagText [112] [⟨[115, 116, 121, 108, 101], v⟩] false ++ []).length = _
  unfold tagText tagTail attrTexts attrTexts attrText
  simp only [List.length_append, List.length_cons, List.length_nil, if_neg Bool.false_ne_true]; omega
theorem style_back (v : Bytes) : allM (tokTexts [styleTok v]) = [styleTok v] := emit_back _ (style_check v)
end Go.Proofs.YtpbcalbolnlojaaGreatDoor
