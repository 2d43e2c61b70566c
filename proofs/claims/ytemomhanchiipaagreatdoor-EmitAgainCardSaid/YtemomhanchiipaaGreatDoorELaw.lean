/- What ref.Escape and the package emit compute; what is escaped, and what is written as tokens, is read back; names over the library's walk of runes. Nothing of the program here. -/
import Derived.Test.YtemomhanchiipaaGreatDoorLawX
import Derived.Test.YtemomhanchiipaaGreatDoorBase
import Derived.Lib.DecodeN
import Derived.Shelf.GgClosure.StringsIndexFunc
namespace Go.Proofs.YtemomhanchiipaaGreatDoor
open Go

def escB (q : Bool) (c : UInt8) : Bytes := if c = 38 then [38, 97, 109, 112, 59] else if c = 60 then [38, 108, 116, 59] else if c = 62 then [38, 103, 116, 59] else if c = 34 ∧ q = true then [38, 113, 117, 111, 116, 59] else [c]
def escM (q : Bool) : Bytes → Bytes
  | [] => []
  | c :: r => escB q c ++ escM q r

def nameC (c : UInt8) : Bool := (97 ≤ c && c ≤ 122) || (48 ≤ c && c ≤ 57) || c == 45
def nameM : Bytes → Bool
  | [] => false
  | c :: r => decide ((c :: r).length ≤ 12) && (97 ≤ c && c ≤ 122) && (c :: r).all nameC

def attrText (a : TAttr) : Bytes := 32 :: a.name ++ 61 :: 34 :: escM true a.value ++ [34]
def attrTexts : List TAttr → Bytes
  | [] => []
  | a :: r => attrText a ++ attrTexts r
/-- A start tag behind its name. -/
def tagTail (l : List TAttr) (self : Bool) : Bytes := attrTexts l ++ ((if self then [47] else []) ++ [62])
def tagText (n : Bytes) (l : List TAttr) (self : Bool) : Bytes := 60 :: n ++ tagTail l self

/-- Is a name met twice? -/
def twiceM : List TAttr → Bool
  | [] => false
  | a :: r => r.any (fun b => b.name == a.name) || twiceM r
def attrsM (l : List TAttr) : Int := if l.any (fun a => !nameM a.name) then 5 else if 4 < l.length then 1 else if twiceM l then 8 else 0
def closedBy (n : Bytes) : List TTok → Bool
  | [] => false
  | t :: _ => t.kind == 2 && t.name == n
def oddM (t : TTok) (last : Int) (rest : List TTok) : Bool :=
  if t.kind = 1 then !(t.text == []) || (isRaw t.name && !closedBy t.name rest)
  else if t.kind = 2 then !t.attrs.isEmpty || t.self || !(t.text == [])
  else if t.kind = 3 then t.text == [] || !(t.name == []) || !t.attrs.isEmpty || t.self || last == 3
  else true
/-- What is refused of tokens behind a token of a kind. -/
def checkFrom : Int → List TTok → Int
  | _, [] => 0
  | last, t :: r =>
    if t.kind < 1 ∨ 4 < t.kind then 3
    else if t.kind ≤ 2 ∧ nameM t.name = false then 5
    else if t.kind ≤ 2 ∧ attrsM t.attrs ≠ 0 then attrsM t.attrs
    else if oddM t last r then 4
    else checkFrom t.kind r
def checkM (l : List TTok) : Int := if 300 < l.length then 1 else checkFrom 0 l
def tokText (t : TTok) : Bytes := if t.kind = 1 then tagText t.name t.attrs t.self else if t.kind = 2 then 60 :: 47 :: t.name ++ [62] else escM false t.text
def tokTexts : List TTok → Bytes
  | [] => []
  | t :: r => tokText t ++ tokTexts r
def emitM (l : List TTok) : Bytes × Int := if checkM l ≠ 0 then ([], checkM l) else if 600 < (tokTexts l).length then ([], 1) else (tokTexts l, 0)

theorem escM_append (q : Bool) (a b : Bytes) : escM q (a ++ b) = escM q a ++ escM q b := by
  induction a with
  | nil => rfl
  | cons c a ih => rw [List.cons_append, escM, escM, ih, List.append_assoc]
theorem escB_len (q : Bool) (c : UInt8) : 1 ≤ (escB q c).length ∧ (escB q c).length ≤ 6 ∧ (q = false → (escB q c).length ≤ 5) := by
  unfold escB
  repeat' split
  all_goals simp_all
theorem escM_len (q : Bool) (l : Bytes) : l.length ≤ (escM q l).length ∧ (escM q l).length ≤ 6 * l.length ∧ (q = false → (escM q l).length ≤ 5 * l.length) := by
  induction l with
  | nil => simp [escM]
  | cons c l ih =>
    have h := escB_len q c
    rw [escM, List.length_append, List.length_cons]
    refine ⟨by omega, by omega, fun hq => ?_⟩
    have h1 := h.2.2 hq
    have h2 := ih.2.2 hq
    omega
/-- No sign of markup is left. -/
theorem escB_no (q : Bool) (c d : UInt8) (h : d ∈ escB q c) : d ≠ 60 ∧ d ≠ 62 ∧ (q = true → d ≠ 34) := by
  unfold escB at h
  split at h
  · simp at h
    rcases h with rfl | rfl | rfl | rfl | rfl <;> exact ⟨by decide, by decide, fun _ => by decide⟩
  split at h
  · simp at h
    rcases h with rfl | rfl | rfl | rfl <;> exact ⟨by decide, by decide, fun _ => by decide⟩
  split at h
  · simp at h
    rcases h with rfl | rfl | rfl | rfl <;> exact ⟨by decide, by decide, fun _ => by decide⟩
  split at h
  · simp at h
    rcases h with rfl | rfl | rfl | rfl | rfl | rfl <;> exact ⟨by decide, by decide, fun _ => by decide⟩
  · rename_i h1 h2 h3 h4
    cases List.mem_singleton.1 h
    exact ⟨h2, h3, fun hq h => h4 ⟨h, hq⟩⟩
theorem escM_no (q : Bool) (l : Bytes) : ∀ d ∈ escM q l, d ≠ 60 ∧ d ≠ 62 ∧ (q = true → d ≠ 34) := by
  induction l with
  | nil => intro d h; cases h
  | cons c l ih =>
    intro d h
    rcases List.mem_append.1 h with h | h
    · exact escB_no q c d h
    · exact ih d h
theorem escM_ne (q : Bool) (l : Bytes) (h : l ≠ []) : escM q l ≠ [] := by
  intro e
  have h1 := (escM_len q l).1
  rw [e] at h1
  cases l with
  | nil => exact h rfl
  | cons => simp at h1

theorem unescN_plus (n : Nat) (c : UInt8) (r : Bytes) (h : c ≠ 38) : unescN (n + 1) (c :: r) = c :: unescN n r := by
  rw [unescN, if_neg (fun hh => h hh.1)]
theorem unescN_name (n : Nat) (m r : Bytes) (x : Int) (hm : ∀ d ∈ m, d ≠ 59) (hx : letterM m = some x) : unescN (n + 1) (38 :: (m ++ 59 :: r)) = Lib.encodeRune x ++ unescN n r := by
  have hb : brk [59] (m ++ 59 :: r) = m := by
    unfold brk
    rw [List.takeWhile_append_of_pos (by intro d hd; simpa using hm d hd)]
    simp
  rw [unescN, if_pos ⟨rfl, by rw [hb]; simp⟩, hb, hx]
  simp
theorem unescN_esc (q : Bool) : ∀ (l : Bytes) (n : Nat), (escM q l).length ≤ n → unescN n (escM q l) = l
  | [], n, _ => by cases n <;> rfl
  | c :: l, n, h => by
    have hl := escB_len q c
    rw [escM, List.length_append] at h
    obtain ⟨n, rfl⟩ : ∃ k, n = k + 1 := ⟨n - 1, by omega⟩
    have ih := unescN_esc q l n (by omega)
    rw [escM]
    unfold escB
    split
    · rename_i hc
      subst hc
      have h1 := unescN_name n [97, 109, 112] (escM q l) 38 (by decide) rfl
      have e : ([38, 97, 109, 112, 59] ++ escM q l : Bytes) = 38 :: ([97, 109, 112] ++ 59 :: escM q l) := rfl
      rw [e, h1, ih]; rfl
    split
    · rename_i _ hc
      subst hc
      have h1 := unescN_name n [108, 116] (escM q l) 60 (by decide) rfl
      have e : ([38, 108, 116, 59] ++ escM q l : Bytes) = 38 :: ([108, 116] ++ 59 :: escM q l) := rfl
      rw [e, h1, ih]; rfl
    split
    · rename_i _ _ hc
      subst hc
      have h1 := unescN_name n [103, 116] (escM q l) 62 (by decide) rfl
      have e : ([38, 103, 116, 59] ++ escM q l : Bytes) = 38 :: ([103, 116] ++ 59 :: escM q l) := rfl
      rw [e, h1, ih]; rfl
    split
    · rename_i _ _ _ hc
      obtain ⟨hc, _⟩ := hc
      subst hc
      have h1 := unescN_name n [113, 117, 111, 116] (escM q l) 34 (by decide) rfl
      have e : ([38, 113, 117, 111, 116, 59] ++ escM q l : Bytes) = 38 :: ([113, 117, 111, 116] ++ 59 :: escM q l) := rfl
      rw [e, h1, ih]; rfl
    · rename_i h1 _ _ _
      rw [List.singleton_append, unescN_plus n c _ h1, ih]
theorem unesc_esc (q : Bool) (l : Bytes) : unesc (escM q l) = l := unescN_esc q l _ (Nat.le_refl _)

/- Names. -/
theorem nameC_no (c : UInt8) (h : nameC c = true) : c ≠ 60 ∧ c ≠ 62 ∧ c ≠ 47 ∧ c ≠ 61 ∧ c ≠ 32 ∧ c ≠ 9 ∧ c ≠ 10 ∧ c ≠ 12 ∧ ¬ (65 ≤ c ∧ c ≤ 90) := by
  unfold nameC at h
  simp only [Bool.or_eq_true, Bool.and_eq_true, decide_eq_true_eq, beq_iff_eq, UInt8.le_iff_toNat_le] at h
  have e1 : (97 : UInt8).toNat = 97 := rfl
  have e2 : (122 : UInt8).toNat = 122 := rfl
  have e3 : (48 : UInt8).toNat = 48 := rfl
  have e4 : (57 : UInt8).toNat = 57 := rfl
  have e5 : (65 : UInt8).toNat = 65 := rfl
  have e6 : (90 : UInt8).toNat = 90 := rfl
  rw [e1, e2, e3, e4] at h
  rw [UInt8.le_iff_toNat_le, UInt8.le_iff_toNat_le, e5, e6]
  refine ⟨?_, ?_, ?_, ?_, ?_, ?_, ?_, ?_, ?_⟩
  all_goals first
    | (rintro rfl; revert h; decide)
    | (rintro ⟨g1, g2⟩
       rcases h with (h | h) | h
       · omega
       · omega
       · subst h; revert g1; decide)
theorem nameC_low (c : UInt8) (h : nameC c = true) : low c = c := by
  unfold low
  rw [if_neg (nameC_no c h).2.2.2.2.2.2.2.2]
theorem nameM_all {n : Bytes} (h : nameM n = true) : n.all nameC = true ∧ n ≠ [] ∧ n.length ≤ 12 ∧ ∃ c r, n = c :: r ∧ isLet c = true := by
  cases n with
  | nil => cases h
  | cons c r =>
    unfold nameM at h
    simp only [Bool.and_eq_true, decide_eq_true_eq] at h
    refine ⟨h.2, by simp, h.1.1, c, r, rfl, ?_⟩
    unfold isLet
    simp [h.1.2.1, h.1.2.2]
theorem small_name {n : Bytes} (h : n.all nameC = true) : small n = n := by
  unfold small
  rw [List.all_eq_true] at h
  exact (List.map_congr_left fun c hc => nameC_low c (h c hc)).trans (List.map_id _)
/-- A name ends where it ends. -/
theorem brk_name {n : Bytes} (h : n.all nameC = true) (S : Bytes) (hS : ∀ c, S.contains c = true → c = 32 ∨ c = 9 ∨ c = 10 ∨ c = 12 ∨ c = 47 ∨ c = 62 ∨ c = 61) (d : UInt8) (r : Bytes) (hd : S.contains d = true) : brk S (n ++ d :: r) = n ∧ brkR S (n ++ d :: r) = d :: r := by
  rw [List.all_eq_true] at h
  have hp : ∀ c ∈ n, (fun b => !S.contains b) c = true := by
    intro c hc
    have h1 := nameC_no c (h c hc)
    cases hh : S.contains c with
    | false => show (!S.contains c) = true; rw [hh]; rfl
    | true => rcases hS c hh with e | e | e | e | e | e | e <;> simp [e] at h1
  have hq : ¬ (fun b => !S.contains b) d = true := by show ¬ (!S.contains d) = true; rw [hd]; decide
  unfold brk brkR
  rw [List.takeWhile_append_of_pos hp, List.dropWhile_append_of_pos hp, List.takeWhile_cons_of_neg (p := fun b => !S.contains b) hq, List.dropWhile_cons_of_neg (p := fun b => !S.contains b) hq, List.append_nil]
  exact ⟨rfl, rfl⟩
theorem in_nameEnd (c : UInt8) (h : nameEnd.contains c = true) : c = 32 ∨ c = 9 ∨ c = 10 ∨ c = 12 ∨ c = 47 ∨ c = 62 ∨ c = 61 := by
  simp [nameEnd, spaces] at h
  rcases h with h | h | h | h | h | h <;> simp [h]
theorem in_attrEnd (c : UInt8) (h : attrEnd.contains c = true) : c = 32 ∨ c = 9 ∨ c = 10 ∨ c = 12 ∨ c = 47 ∨ c = 62 ∨ c = 61 := by
  simp [attrEnd, spaces] at h
  rcases h with h | h | h | h | h | h | h <;> simp [h]

/-- An attribute that is written is read. -/
theorem attrM_text (a : TAttr) (hn : nameM a.name = true) (X : Bytes) : ∃ c r1, attrText a ++ X = 32 :: c :: r1 ∧ tagGap.contains c = false ∧ c ≠ 62 ∧ attrM (c :: r1) = (a, true, X) := by
  obtain ⟨h1, h2, h3, c, r, h4, h5⟩ := nameM_all hn
  have h1' := h1
  rw [h4] at h1'
  simp only [List.all_cons, Bool.and_eq_true] at h1'
  have hc := nameC_no c h1'.1
  refine ⟨c, r ++ 61 :: 34 :: (escM true a.value ++ 34 :: X), by unfold attrText; rw [h4]; simp, ?_, hc.2.1, ?_⟩
  · simp [tagGap, spaces]; exact ⟨hc.2.2.2.2.1, hc.2.2.2.2.2.1, hc.2.2.2.2.2.2.1, hc.2.2.2.2.2.2.2.1, hc.2.2.1⟩
  · obtain ⟨g1, g2⟩ := brk_name h1'.2 attrEnd in_attrEnd 61 (34 :: (escM true a.value ++ 34 :: X)) (by decide)
    have hq : ∀ d ∈ escM true a.value, (fun b => !([34] : Bytes).contains b) d = true := by
      intro d hd
      have := (escM_no true _ d hd).2.2 rfl
      simpa using this
    have hv : valueM (34 :: (escM true a.value ++ 34 :: X)) = (a.value, true, X) := by
      have e : skp spaces (34 :: (escM true a.value ++ 34 :: X)) = 34 :: (escM true a.value ++ 34 :: X) := rfl
      have b1 : brkR [34] (escM true a.value ++ 34 :: X) = 34 :: X := by unfold brkR; rw [List.dropWhile_append_of_pos hq]; rfl
      have b2 : brk [34] (escM true a.value ++ 34 :: X) = escM true a.value := by unfold brk; rw [List.takeWhile_append_of_pos hq]; simp
      unfold valueM
      rw [e, valueT, if_pos (.inl rfl), b1, b2, unesc_esc]
    have hs : skp spaces (61 :: 34 :: (escM true a.value ++ 34 :: X)) = 61 :: 34 :: (escM true a.value ++ 34 :: X) := rfl
    unfold attrM
    simp only
    rw [g1, g2, hs]
    simp only [if_pos, hv]
    rw [← h4, small_name h1]

theorem attrText_head (a : TAttr) : ∃ r, attrText a = 32 :: r := ⟨_, rfl⟩
/-- The attributes of a tag that is written. -/
theorem tagLoop_text (self : Bool) (X : Bytes) : ∀ (l done : List TAttr) (n : Nat), (∀ a ∈ l, nameM a.name = true) → (∀ a ∈ l, ∀ b ∈ done, b.name ≠ a.name) → (l.map (·.name)).Pairwise (· ≠ ·) → (tagTail l self ++ X).length < n →
    tagLoop n (tagTail l self ++ X) done = some (done ++ l, self, X)
  | [], done, n, _, _, _, hn => by
    obtain ⟨n, rfl⟩ : ∃ k, n = k + 1 := ⟨n - 1, by omega⟩
    cases self
    · have e : tagTail [] false ++ X = 62 :: X := rfl
      rw [e, tagLoop]
      have s1 : skp tagGap (62 :: X) = 62 :: X := rfl
      have s2 : skd tagGap (62 :: X) = [] := rfl
      rw [s1, s2]
      simp
    · have e : tagTail [] true ++ X = 47 :: 62 :: X := rfl
      rw [e, tagLoop]
      have s1 : skp tagGap (47 :: 62 :: X) = 62 :: X := rfl
      have s2 : skd tagGap (47 :: 62 :: X) = [47] := rfl
      rw [s1, s2]
      simp
  | a :: l, done, n, hnm, hd, hp, hn => by
    obtain ⟨n, rfl⟩ : ∃ k, n = k + 1 := ⟨n - 1, by omega⟩
    obtain ⟨c, r1, h1, h2, h3, h4⟩ := attrM_text a (hnm a (by simp)) (tagTail l self ++ X)
    have e : tagTail (a :: l) self ++ X = 32 :: c :: r1 := by
      rw [← h1]
      unfold tagTail
      rw [attrTexts]
      simp only [List.append_assoc]
    rw [e] at hn ⊢
    rw [tagLoop]
    have s1 : skp tagGap (32 :: c :: r1) = c :: r1 := by
      show List.dropWhile (fun b => tagGap.contains b) (32 :: c :: r1) = c :: r1
      rw [List.dropWhile_cons_of_pos (by decide), List.dropWhile_cons_of_neg (by simpa using h2)]
    rw [s1]
    simp only [h4, if_neg h3, if_pos]
    have hadd : addAttr done a = done ++ [a] := by
      unfold addAttr
      rw [if_neg]
      simp only [List.any_eq_true, beq_iff_eq, not_exists, not_and]
      intro b hb
      exact hd a (by simp) b hb
    rw [hadd]
    have hlen : (tagTail l self ++ X).length < n := by
      have := attrM_le c r1
      rw [h4] at this
      simp only [List.length_cons] at hn
      have h5 : (tagTail l self ++ X).length ≤ r1.length := this
      omega
    rw [List.map_cons, List.pairwise_cons] at hp
    rw [tagLoop_text self X l (done ++ [a]) n (fun b hb => hnm b (by simp [hb])) ?_ hp.2 hlen]
    · simp
    · intro b hb x hx
      rcases List.mem_append.1 hx with hx | hx
      · exact hd b (by simp [hb]) x hx
      · cases List.mem_singleton.1 hx
        exact fun e => hp.1 b.name (List.mem_map.2 ⟨b, hb, rfl⟩) e

theorem tagTail_head (l : List TAttr) (self : Bool) (X : Bytes) : ∃ d r, tagTail l self ++ X = d :: r ∧ nameEnd.contains d = true := by
  cases l with
  | nil => cases self <;> exact ⟨_, _, rfl, by decide⟩
  | cons a l => exact ⟨32, _, rfl, by decide⟩
/-- A tag that is written is read. -/
theorem tagM_text (k : Int) (n : Bytes) (l : List TAttr) (self : Bool) (X : Bytes) (hn : nameM n = true) (hl : ∀ a ∈ l, nameM a.name = true) (hp : (l.map (·.name)).Pairwise (· ≠ ·)) :
    tagM k (n ++ (tagTail l self ++ X)) = some (if k = 2 then ⟨k, n, [], false, []⟩ else ⟨k, n, l, self, []⟩, X) := by
  obtain ⟨h1, h2, h3, c, r, h4, h5⟩ := nameM_all hn
  obtain ⟨d, r', hd, hc⟩ := tagTail_head l self X
  obtain ⟨g1, g2⟩ := brk_name h1 nameEnd in_nameEnd d r' hc
  unfold tagM
  rw [← hd] at g1 g2
  rw [g1, g2, small_name h1, tagLoop_text self X l [] _ hl (fun a _ b hb => by cases hb) hp (Nat.lt_succ_of_le (List.suffix_append n (tagTail l self ++ X)).length_le)]
  rfl

theorem twice_pair : ∀ l : List TAttr, twiceM l = false → (l.map (·.name)).Pairwise (· ≠ ·)
  | [], _ => List.Pairwise.nil
  | a :: r, h => by
    rw [twiceM, Bool.or_eq_false_iff] at h
    rw [List.map_cons, List.pairwise_cons]
    refine ⟨fun n hn e => ?_, twice_pair r h.2⟩
    obtain ⟨b, hb, rfl⟩ := List.mem_map.1 hn
    have h1 := List.any_eq_false.1 h.1 b hb
    rw [e] at h1
    simp at h1
theorem attrsM_ok {l : List TAttr} (h : attrsM l = 0) : (∀ a ∈ l, nameM a.name = true) ∧ l.length ≤ 4 ∧ (l.map (·.name)).Pairwise (· ≠ ·) := by
  unfold attrsM at h
  split at h
  · cases h
  split at h
  · cases h
  split at h
  · cases h
  · rename_i h1 h2 h3
    refine ⟨fun a ha => ?_, by omega, twice_pair l (by simpa using h3)⟩
    have h4 := List.any_eq_false.1 (Bool.eq_false_iff.2 h1) a ha
    simpa using h4

theorem opens_let (c : UInt8) (r : Bytes) (h : isLet c = true) : opensM (60 :: c :: r) = true := by
  rw [opensM_cons2, h]; rfl
theorem opens_slash (c : UInt8) (r : Bytes) : opensM (60 :: 47 :: c :: r) = true := by
  rw [opensM_cons2]; simp

theorem markup_end (n : Bytes) (hn : nameM n = true) (X : Bytes) : opensM (60 :: 47 :: n ++ [62] ++ X) = true ∧ markupM (60 :: 47 :: n ++ [62] ++ X) = some ([⟨2, n, [], false, []⟩], X) := by
  obtain ⟨h1, h2, h3, c, r, h4, h5⟩ := nameM_all hn
  have ht := tagM_text 2 n [] false X hn (fun a h => by cases h) List.Pairwise.nil
  have e : n ++ (tagTail [] false ++ X) = c :: (r ++ [62] ++ X) := by rw [h4]; show c :: r ++ ([62] ++ X) = _; simp
  have e2 : (60 :: 47 :: n ++ [62] ++ X : Bytes) = 60 :: 47 :: c :: (r ++ [62] ++ X) := by rw [h4]; simp
  rw [e] at ht
  rw [e2]
  refine ⟨opens_slash _ _, ?_⟩
  show (if isLet c = true then (tagM 2 (c :: (r ++ [62] ++ X))).map (fun x => ([x.1], x.2)) else _) = _
  rw [if_pos h5, ht]
  rfl
theorem rawStop_end (n : Bytes) (hn : nameM n = true) (X : Bytes) : rawStop n (60 :: 47 :: n ++ [62] ++ X) = true := by
  have h1 := (nameM_all hn).1
  have e : (60 :: 47 :: n ++ [62] ++ X : Bytes) = 60 :: 47 :: (n ++ 62 :: X) := by simp
  rw [e]
  show (small ((n ++ 62 :: X).take n.length) == n && hd nameEnd ((n ++ 62 :: X).drop n.length)) = true
  rw [List.take_left', List.drop_left', small_name h1]
  · simp [hd, nameEnd, spaces]
  · rfl
  · rfl
theorem rawM_end (n : Bytes) (hn : nameM n = true) (X : Bytes) : rawM n (60 :: 47 :: n ++ [62] ++ X) = ([], 60 :: 47 :: n ++ [62] ++ X) := by
  have h := rawStop_end n hn X
  have e : (60 :: 47 :: n ++ [62] ++ X : Bytes) = 60 :: (47 :: n ++ [62] ++ X) := rfl
  rw [e] at h ⊢
  rw [rawM, if_pos h]
theorem rawToks_nil (n : Bytes) : rawToks n [] = [] := by
  have h : rawText n [] = [] := by unfold rawText; split <;> rfl
  unfold rawToks
  rw [if_pos h]
theorem markup_start (n : Bytes) (l : List TAttr) (self : Bool) (hn : nameM n = true) (hl : attrsM l = 0) (X : Bytes) (hr : isRaw n = true → ∃ X', X = 60 :: 47 :: n ++ [62] ++ X') :
    opensM (tagText n l self ++ X) = true ∧ markupM (tagText n l self ++ X) = some ([⟨1, n, l, self, []⟩], X) := by
  obtain ⟨h1, h2, h3, c, r, h4, h5⟩ := nameM_all hn
  obtain ⟨g1, _, g2⟩ := attrsM_ok hl
  have ht := tagM_text 1 n l self X hn g1 g2
  have e : n ++ (tagTail l self ++ X) = c :: (r ++ (tagTail l self ++ X)) := by rw [h4]; rfl
  have e2 : tagText n l self ++ X = 60 :: c :: (r ++ (tagTail l self ++ X)) := by unfold tagText; rw [h4]; simp
  rw [e] at ht
  rw [e2]
  refine ⟨opens_let _ _ h5, ?_⟩
  rw [markupM_tag2 c _ h5, ht]
  rw [if_neg (by decide)]
  simp only [Option.map_some]
  split
  · rename_i hraw
    obtain ⟨X', rfl⟩ := hr hraw
    simp only [rawM_end n hn X', rawToks_nil]
  · rfl

theorem emit_law : ∀ (l : List TTok) (last : Int), checkFrom last l = 0 → allM (tokTexts l) = l ∧ (last = 3 → l = [] ∨ opensM (tokTexts l) = true)
  | [], _, _ => ⟨rfl, fun _ => .inl rfl⟩
  | t :: r, last, h => by
    rw [checkFrom] at h
    split at h
    · cases h
    rename_i hk
    split at h
    · cases h
    rename_i hn
    split at h
    · rename_i hne; exact absurd h hne.2
    rename_i hat
    split at h
    · cases h
    rename_i hodd
    obtain ⟨ih1, ih2⟩ := emit_law r t.kind h
    have hodd' : oddM t last r = false := by simpa using hodd
    clear hodd
    obtain ⟨k, n, a, s, x⟩ := t
    simp only at *
    rw [tokTexts]
    unfold oddM at hodd'
    simp only at hodd'
    split at hodd'
    · rename_i hk1
      subst hk1
      have hn' : nameM n = true := by simpa using hn
      have ha' : attrsM a = 0 := by simpa using hat
      simp only [Bool.or_eq_false_iff, Bool.not_eq_false', beq_iff_eq] at hodd'
      obtain ⟨rfl, hraw⟩ := hodd'
      have e : tokText ⟨1, n, a, s, []⟩ = tagText n a s := rfl
      have hX : isRaw n = true → ∃ X', tokTexts r = 60 :: 47 :: n ++ [62] ++ X' := by
        intro hr
        rw [hr, Bool.true_and, Bool.not_eq_false'] at hraw
        cases r with
        | nil => cases hraw
        | cons u r' =>
          obtain ⟨k2, n2, a2, s2, x2⟩ := u
          simp only [closedBy, Bool.and_eq_true, beq_iff_eq] at hraw
          obtain ⟨rfl, rfl⟩ := hraw
          exact ⟨tokTexts r', rfl⟩
      obtain ⟨o1, o2⟩ := markup_start n a s hn' ha' (tokTexts r) hX
      rw [e]
      refine ⟨?_, fun _ => .inr o1⟩
      rw [allM_markup _ _ _ o1 o2, ih1]; rfl
    split at hodd'
    · rename_i hk1 hk2
      subst hk2
      have hn' : nameM n = true := by simpa using hn
      simp only [Bool.or_eq_false_iff, Bool.not_eq_false', beq_iff_eq, List.isEmpty_iff] at hodd'
      obtain ⟨⟨rfl, rfl⟩, rfl⟩ := hodd'
      have e : tokText ⟨2, n, [], false, []⟩ = 60 :: 47 :: n ++ [62] := rfl
      obtain ⟨o1, o2⟩ := markup_end n hn' (tokTexts r)
      rw [e]
      refine ⟨?_, fun _ => .inr o1⟩
      rw [allM_markup _ _ _ o1 o2, ih1]; rfl
    split at hodd'
    · rename_i hk1 hk2 hk3
      subst hk3
      simp only [Bool.or_eq_false_iff, Bool.not_eq_false', beq_iff_eq, List.isEmpty_iff, beq_eq_false_iff_ne] at hodd'
      obtain ⟨⟨⟨⟨hx, rfl⟩, rfl⟩, rfl⟩, hl⟩ := hodd'
      have e : tokText ⟨3, [], [], false, x⟩ = escM false x := rfl
      have hu : NoLt (escM false x) := fun c hc => (escM_no false x c hc).1
      have htk : textToks (escM false x) = [⟨3, [], [], false, x⟩] := by rw [textToks_some _ (escM_ne false x hx), unesc_esc]; rfl
      rw [e]
      refine ⟨?_, fun h => absurd h hl⟩
      rcases ih2 rfl with rfl | ho
      · show allM (escM false x ++ []) = _
        rw [List.append_nil, allM_split, textM_plain _ hu]
        simp only [htk, allM_nil, List.append_nil]
      · rw [allM_text _ _ hu ho, htk, ih1]; rfl
    · cases hodd'

theorem emit_back (l : List TTok) (h : checkM l = 0) : allM (tokTexts l) = l := by
  unfold checkM at h
  split at h
  · cases h
  · exact (emit_law l 0 h).1


def nameR (r : Nat) : Bool := (decide (97 ≤ r) && decide (r ≤ 122)) || (decide (48 ≤ r) && decide (r ≤ 57)) || r == 45
theorem nameC_R (c : UInt8) : nameC c = nameR c.toNat := by
  unfold nameC nameR
  have e1 : (decide ((97 : UInt8) ≤ c)) = decide (97 ≤ c.toNat) := decide_eq_decide.2 UInt8.le_iff_toNat_le
  have e2 : (decide (c ≤ (122 : UInt8))) = decide (c.toNat ≤ 122) := decide_eq_decide.2 UInt8.le_iff_toNat_le
  have e3 : (decide ((48 : UInt8) ≤ c)) = decide (48 ≤ c.toNat) := decide_eq_decide.2 UInt8.le_iff_toNat_le
  have e4 : (decide (c ≤ (57 : UInt8))) = decide (c.toNat ≤ 57) := decide_eq_decide.2 UInt8.le_iff_toNat_le
  have e5 : (c == 45) = (c.toNat == 45) := by
    rw [Bool.eq_iff_iff, beq_iff_eq, beq_iff_eq]
    exact ⟨fun h => by rw [h]; rfl, fun h => UInt8.toNat_inj.1 h⟩
  rw [e1, e2, e3, e4, e5]
theorem nameR_big (r : Nat) (h : 128 ≤ r) : nameR r = false := by
  unfold nameR
  have h1 : decide (r ≤ 122) = false := decide_eq_false (by omega)
  have h2 : decide (r ≤ 57) = false := decide_eq_false (by omega)
  have h3 : (r == 45) = false := beq_eq_false_iff_ne.2 (by omega)
  rw [h1, h2, h3]; simp

theorem decode_byte (s : ByteArray) (i : Nat) (h : i < s.size) : ((s[i]'h).toNat < 128 → Utf8.decode s i = ((s[i]'h).toNat, 1)) ∧ (128 ≤ (s[i]'h).toNat → 128 ≤ (Utf8.decode s i).1) := by
  have hg : s.get! i = s[i]'h := by
    show s.data[i]! = s.data[i]'h
    exact getElem!_pos s.data i h
  rw [Lib.decode_at, hg]
  refine ⟨fun h1 => by unfold Lib.decodeN; rw [if_pos h1], fun h1 => ?_⟩
  unfold Lib.decodeN
  rw [if_neg (by omega)]
  repeat' split
  all_goals simp only
  all_goals omega

theorem idx_name (s : ByteArray) : ∀ (f i : Nat), s.size - i ≤ f → (0 ≤ Lib.idxFuncFrom (fun r => !nameR r) true s f i ↔ ((lst s).drop i).all nameC = false)
  | 0, i, h => by
    rw [List.drop_of_length_le (by rw [lst_length]; omega)]
    show (0 : Int) ≤ -1 ↔ true = false
    exact ⟨fun h => by omega, fun h => by cases h⟩
  | f + 1, i, h => by
    unfold Lib.idxFuncFrom
    by_cases hi : i < s.size
    · rw [if_pos hi]
      have hl : i < (lst s).length := by rw [lst_length]; exact hi
      have hdrop : (lst s).drop i = s[i]'hi :: (lst s).drop (i + 1) := by rw [List.drop_eq_getElem_cons hl]; rfl
      obtain ⟨d1, d2⟩ := decode_byte s i hi
      rw [hdrop, List.all_cons]
      cases hc : nameC (s[i]'hi) with
      | true =>
        rw [nameC_R] at hc
        have hlt : (s[i]'hi).toNat < 128 := by
          rcases Nat.lt_or_ge (s[i]'hi).toNat 128 with h | h
          · exact h
          · rw [nameR_big _ h] at hc; cases hc
        rw [d1 hlt]
        simp only [hc, Bool.not_true, Bool.false_eq_true, if_false, Bool.true_and]
        exact idx_name s f (i + 1) (by omega)
      | false =>
        have hp : (!nameR (Utf8.decode s i).1) = true := by
          rw [nameC_R] at hc
          rcases Nat.lt_or_ge (s[i]'hi).toNat 128 with h | h
          · rw [d1 h, hc]; rfl
          · rw [nameR_big _ (d2 h)]; rfl
        rw [if_pos hp, Bool.false_and]
        exact ⟨fun _ => rfl, fun _ => by omega⟩
    · rw [if_neg hi, List.drop_of_length_le (by rw [lst_length]; omega)]
      show (0 : Int) ≤ -1 ↔ true = false
      exact ⟨fun h => by omega, fun h => by cases h⟩
theorem idx_name_all (s : ByteArray) : decide (0 ≤ Lib.idxFunc (fun r => !nameR r) true s) = !(lst s).all nameC := by
  have h := idx_name s s.size 0 (by omega)
  rw [List.drop_zero] at h
  unfold Lib.idxFunc
  cases hc : (lst s).all nameC with
  | true => exact decide_eq_false fun hh => by rw [h.1 hh] at hc; cases hc
  | false => exact decide_eq_true (h.2 hc)

theorem twice_iff : ∀ l : List TAttr, twiceM l = true ↔ ∃ i a, l[i]? = some a ∧ (l.take i).any (fun b => a.name == b.name) = true
  | [] => ⟨fun h => (by cases h), fun ⟨i, a, h, _⟩ => (by simp at h)⟩
  | x :: r => by
    rw [twiceM, Bool.or_eq_true, twice_iff r]
    constructor
    · rintro (h | ⟨i, a, h1, h2⟩)
      · obtain ⟨b, hb, he⟩ := List.any_eq_true.1 h
        obtain ⟨i, hi⟩ := List.getElem?_of_mem hb
        refine ⟨i + 1, b, hi, ?_⟩
        rw [List.take_succ_cons, List.any_cons, he]; rfl
      · refine ⟨i + 1, a, h1, ?_⟩
        rw [List.take_succ_cons, List.any_cons, h2, Bool.or_true]
    · rintro ⟨i, a, h1, h2⟩
      cases i with
      | zero => simp at h2
      | succ i =>
        rw [List.take_succ_cons, List.any_cons, Bool.or_eq_true] at h2
        rcases h2 with h2 | h2
        · exact .inl (List.any_eq_true.2 ⟨a, List.mem_of_getElem? h1, h2⟩)
        · exact .inr ⟨i, a, h1, h2⟩
theorem twice_none (l : List TAttr) (h : ∀ i a, l[i]? = some a → (l.take i).any (fun b => a.name == b.name) = false) : twiceM l = false := by
  rw [Bool.eq_false_iff]
  intro ht
  obtain ⟨i, a, h1, h2⟩ := (twice_iff l).1 ht
  rw [h i a h1] at h2; cases h2

theorem attrTexts_append (a b : List TAttr) : attrTexts (a ++ b) = attrTexts a ++ attrTexts b := by
  induction a with
  | nil => rfl
  | cons x a ih => rw [List.cons_append, attrTexts, attrTexts, ih, List.append_assoc]
theorem attrTexts_take (l : List TAttr) (i : Nat) (a : TAttr) (h : l[i]? = some a) : attrTexts (l.take (i + 1)) = attrTexts (l.take i) ++ attrText a := by
  rw [List.take_add_one, h, attrTexts_append]
  show _ ++ attrTexts [a] = _
  rw [attrTexts, attrTexts, List.append_nil]
theorem attrText_len (a : TAttr) : (attrText a).length ≤ a.name.length + 6 * a.value.length + 4 := by
  have := (escM_len true a.value).2.1
  unfold attrText
  simp only [List.length_append, List.length_cons, List.length_nil]; omega
theorem attrTexts_len (m : Nat) : ∀ l : List TAttr, (∀ a ∈ l, a.name.length ≤ m ∧ a.value.length ≤ m) → (attrTexts l).length ≤ l.length * (7 * m + 4)
  | [], _ => by simp [attrTexts]
  | a :: l, h => by
    have h1 := attrText_len a
    have h2 := h a (by simp)
    have h3 := attrTexts_len m l (fun b hb => h b (by simp [hb]))
    rw [attrTexts, List.length_append, List.length_cons, Nat.add_mul]
    omega

theorem tokTexts_append (a b : List TTok) : tokTexts (a ++ b) = tokTexts a ++ tokTexts b := by
  induction a with
  | nil => rfl
  | cons x a ih => rw [List.cons_append, tokTexts, tokTexts, ih, List.append_assoc]
theorem tokTexts_take (l : List TTok) (i : Nat) (t : TTok) (h : l[i]? = some t) : tokTexts (l.take (i + 1)) = tokTexts (l.take i) ++ tokText t := by
  rw [List.take_add_one, h, tokTexts_append]
  show _ ++ tokTexts [t] = _
  rw [tokTexts, tokTexts, List.append_nil]
/-- The sizes that the walk asks for. -/
structure TokSz (m : Nat) (t : TTok) : Prop where
  of ::
  name : t.name.length ≤ m
  text : t.text.length ≤ m
  count : t.attrs.length ≤ m
  attrs : ∀ a ∈ t.attrs, a.name.length ≤ m ∧ a.value.length ≤ m
theorem tokText_len (t : TTok) (h : TokSz 1000 t) : (tokText t).length ≤ 8000000 := by
  unfold tokText
  split
  · have h1 := attrTexts_len 1000 t.attrs h.attrs
    have h2 := h.count
    have h3 := h.name
    unfold tagText tagTail
    split <;> simp only [List.length_append, List.length_cons, List.length_nil] <;> omega
  split
  · have h3 := h.name
    simp only [List.length_append, List.length_cons, List.length_nil]; omega
  · have h1 := (escM_len false t.text).2.1
    have h2 := h.text
    omega
theorem tokTexts_len (l : List TTok) (h : ∀ t ∈ l, TokSz 1000 t) : (tokTexts l).length ≤ l.length * 8000000 := by
  induction l with
  | nil => simp [tokTexts]
  | cons t l ih =>
    have h1 := tokText_len t (h t (by simp))
    have h2 := ih (fun u hu => h u (by simp [hu]))
    rw [tokTexts, List.length_append, List.length_cons, Nat.add_mul]; omega

/-- The check, place by place. -/
def failAt (t : TTok) (last : Int) (rest : List TTok) : Int :=
  if t.kind < 1 ∨ 4 < t.kind then 3
  else if t.kind ≤ 2 ∧ nameM t.name = false then 5
  else if t.kind ≤ 2 ∧ attrsM t.attrs ≠ 0 then attrsM t.attrs
  else if oddM t last rest then 4
  else 0
def lastAt : Int → List TTok → Nat → Int
  | last, _, 0 => last
  | last, [], _ => last
  | _, t :: r, n + 1 => lastAt t.kind r n
theorem checkFrom_cons (last : Int) (t : TTok) (r : List TTok) : checkFrom last (t :: r) = if failAt t last r ≠ 0 then failAt t last r else checkFrom t.kind r := by
  rw [checkFrom]
  unfold failAt
  split
  · rfl
  split
  · rfl
  split
  · rename_i h; rw [if_pos h.2]
  split
  · rfl
  · rfl
theorem checkFrom_at : ∀ (n : Nat) (l : List TTok) (last : Int), (∀ j t, j < n → l[j]? = some t → failAt t (lastAt last l j) (l.drop (j + 1)) = 0) → checkFrom last l = checkFrom (lastAt last l n) (l.drop n)
  | 0, l, last, _ => by cases l <;> rfl
  | n + 1, [], last, _ => rfl
  | n + 1, t :: r, last, h => by
    have h0 := h 0 t (by omega) rfl
    have h0' : failAt t last r = 0 := h0
    rw [checkFrom_cons, if_neg (by rw [h0']; simp)]
    show _ = checkFrom (lastAt t.kind r n) (r.drop n)
    exact checkFrom_at n r t.kind fun j u hj hu => h (j + 1) u (by omega) hu
theorem lastAt_succ : ∀ (n : Nat) (l : List TTok) (last : Int) (t : TTok), l[n]? = some t → lastAt last l (n + 1) = t.kind
  | 0, [], _, _, h => by simp at h
  | 0, x :: r, _, t, h => by cases h; cases r <;> rfl
  | n + 1, [], _, _, h => by simp at h
  | n + 1, x :: r, _, t, h => lastAt_succ n r x.kind t h

end Go.Proofs.YtemomhanchiipaaGreatDoor
