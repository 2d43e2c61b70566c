/- Joined texts: VLaw VLawN VLawS. -/
import Derived.Test.YtjkgmdnkejjppaaGreatDoorGn
import Derived.Test.YtjkgmdnkejjppaaGreatDoorJHWalkR
/- The reference's strict reader of markup: its model, and that it reads a tree's text as the tree. Nothing of the program here. -/
namespace Go.Proofs.YtjkgmdnkejjppaaGreatDoor

def eatM (p s : Bytes) : Bool × Bytes := if p.isPrefixOf s then (true, s.drop p.length) else (false, s)
def upT (b : UInt8) (s : Bytes) : Bytes := s.takeWhile fun c => !(c == b)
def upR (b : UInt8) (s : Bytes) : Bytes := s.dropWhile fun c => !(c == b)
def nmT (s : Bytes) : Bytes := s.takeWhile nameC
def nmR (s : Bytes) : Bytes := s.dropWhile nameC
theorem eatM_len (p s : Bytes) : (eatM p s).2.length ≤ s.length ∧ ((eatM p s).1 = true → (eatM p s).2.length + p.length = s.length) := by
  unfold eatM
  by_cases h : p.isPrefixOf s = true
  · rw [if_pos h]
    have := (List.isPrefixOf_iff_prefix.1 h).length_le
    simp only [List.length_drop]
    exact ⟨by omega, fun _ => by omega⟩
  · rw [if_neg h]; exact ⟨Nat.le_refl _, fun h => by cases h⟩
theorem eatM_app (p s : Bytes) : eatM p (p ++ s) = (true, s) := by
  unfold eatM
  rw [if_pos (List.isPrefixOf_iff_prefix.2 (List.prefix_append p s)), List.drop_left]
theorem eatM_cons (c : UInt8) (s : Bytes) : eatM [c] (c :: s) = (true, s) := eatM_app [c] s
theorem eatM_ne {c d : UInt8} {p s : Bytes} (h : c ≠ d) : eatM (c :: p) (d :: s) = (false, d :: s) := by
  unfold eatM
  rw [if_neg (by rw [List.isPrefixOf_iff_prefix]; rintro ⟨t, ht⟩; injection ht with h1; exact h h1)]
theorem eatM_nil (c : UInt8) (p : Bytes) : eatM (c :: p) [] = (false, []) := rfl
theorem upR_len (b : UInt8) (s : Bytes) : (upR b s).length ≤ s.length := (List.dropWhile_suffix _).length_le
theorem nmR_len (s : Bytes) : (nmR s).length ≤ s.length := (List.dropWhile_suffix _).length_le
theorem up_app (b : UInt8) (x z : Bytes) (hx : ∀ c ∈ x, c ≠ b) (hz : z = [] ∨ ∃ r, z = b :: r) : upT b (x ++ z) = x ∧ upR b (x ++ z) = z := by
  have hp : ∀ c ∈ x, (fun c => !(c == b)) c = true := fun c hc => by simp [hx c hc]
  unfold upT upR
  rw [List.takeWhile_append_of_pos hp, List.dropWhile_append_of_pos hp]
  rcases hz with rfl | ⟨r, rfl⟩
  · simp
  · simp
theorem nm_app (n z : Bytes) (hn : n.all nameC = true) (hz : z = [] ∨ ∃ c r, z = c :: r ∧ nameC c = false) : nmT (n ++ z) = n ∧ nmR (n ++ z) = z := by
  rw [List.all_eq_true] at hn
  unfold nmT nmR
  rw [List.takeWhile_append_of_pos hn, List.dropWhile_append_of_pos hn]
  rcases hz with rfl | ⟨c, r, rfl, hc⟩
  · simp
  · simp [hc]

/-- One attribute, behind its space: it, what follows, and whether it is bad. -/
def atOne (s : Bytes) : TAttr × Bytes × Bool := (⟨nmT s, unesc (upT 34 (eatM [61, 34] (nmR s)).2)⟩, (eatM [34] (upR 34 (eatM [61, 34] (nmR s)).2)).2, !(eatM [61, 34] (nmR s)).1)
theorem atOne_len (s : Bytes) : (atOne s).2.1.length ≤ s.length := by
  have h1 := nmR_len s
  have h2 := (eatM_len [61, 34] (nmR s)).1
  have h3 := upR_len 34 (eatM [61, 34] (nmR s)).2
  have h4 := (eatM_len [34] (upR 34 (eatM [61, 34] (nmR s)).2)).1
  show (eatM [34] (upR 34 (eatM [61, 34] (nmR s)).2)).2.length ≤ _
  omega
def attrsR : Nat → Bytes → Bool → List TAttr → List TAttr × Bytes × Bool
  | 0, s, bad, acc => (acc, s, bad)
  | f + 1, s, bad, acc => if (eatM [32] s).1 = true then attrsR f (atOne (eatM [32] s).2).2.1 (bad || (atOne (eatM [32] s).2).2.2) (acc ++ [(atOne (eatM [32] s).2).1]) else (acc, s, bad)
theorem attrsR_len : ∀ (f : Nat) (s : Bytes) (bad : Bool) (acc : List TAttr), (attrsR f s bad acc).2.1.length ≤ s.length
  | 0, s, _, _ => Nat.le_refl _
  | f + 1, s, bad, acc => by
    rw [attrsR]
    split
    · have h1 := attrsR_len f (atOne (eatM [32] s).2).2.1 (bad || (atOne (eatM [32] s).2).2.2) (acc ++ [(atOne (eatM [32] s).2).1])
      have h2 := atOne_len (eatM [32] s).2
      have h3 := (eatM_len [32] s).1
      omega
    · exact Nat.le_refl _
theorem attrsR_fuel : ∀ (f g : Nat) (s : Bytes) (bad : Bool) (acc : List TAttr), s.length ≤ f → s.length ≤ g → attrsR f s bad acc = attrsR g s bad acc
  | 0, 0, _, _, _, _, _ => rfl
  | 0, g + 1, s, bad, acc, h, _ => by
    have : s = [] := List.eq_nil_of_length_eq_zero (Nat.le_zero.1 h)
    subst this
    rw [attrsR, attrsR]; rfl
  | f + 1, 0, s, bad, acc, _, h => by
    have : s = [] := List.eq_nil_of_length_eq_zero (Nat.le_zero.1 h)
    subst this
    rw [attrsR, attrsR]; rfl
  | f + 1, g + 1, s, bad, acc, hf, hg => by
    rw [attrsR, attrsR]
    by_cases h : (eatM [32] s).1 = true
    · rw [if_pos h, if_pos h]
      have h2 := atOne_len (eatM [32] s).2
      have h3 := (eatM_len [32] s).2 h
      simp only [List.length_singleton] at h3
      exact attrsR_fuel f g _ _ _ (by omega) (by omega)
    · rw [if_neg h, if_neg h]

def nodesR : Nat → Bytes → Bool → List TNode → List TNode × Bytes × Bool
  | 0, s, bad, out => (out, s, bad)
  | f + 1, s, bad, out =>
    if s = [] ∨ bad = true then (out, s, bad)
    else if (eatM [60, 47] s).1 = true then (out, s, bad)
    else if (eatM [60] s).1 = true then
      if (eatM [62] (attrsR (nmR (eatM [60] s).2).length (nmR (eatM [60] s).2) false []).2.1).1 = true then
        if isVoid (nmT (eatM [60] s).2) = true then
          nodesR f (eatM [62] (attrsR (nmR (eatM [60] s).2).length (nmR (eatM [60] s).2) false []).2.1).2 (attrsR (nmR (eatM [60] s).2).length (nmR (eatM [60] s).2) false []).2.2 (out ++ [.mk (nmT (eatM [60] s).2) (attrsR (nmR (eatM [60] s).2).length (nmR (eatM [60] s).2) false []).1 [] []])
        else
          nodesR f (eatM (60 :: 47 :: nmT (eatM [60] s).2 ++ [62]) (nodesR f (eatM [62] (attrsR (nmR (eatM [60] s).2).length (nmR (eatM [60] s).2) false []).2.1).2 (attrsR (nmR (eatM [60] s).2).length (nmR (eatM [60] s).2) false []).2.2 []).2.1).2
            ((nodesR f (eatM [62] (attrsR (nmR (eatM [60] s).2).length (nmR (eatM [60] s).2) false []).2.1).2 (attrsR (nmR (eatM [60] s).2).length (nmR (eatM [60] s).2) false []).2.2 []).2.2 ||
              !(eatM (60 :: 47 :: nmT (eatM [60] s).2 ++ [62]) (nodesR f (eatM [62] (attrsR (nmR (eatM [60] s).2).length (nmR (eatM [60] s).2) false []).2.1).2 (attrsR (nmR (eatM [60] s).2).length (nmR (eatM [60] s).2) false []).2.2 []).2.1).1)
            (out ++ [.mk (nmT (eatM [60] s).2) (attrsR (nmR (eatM [60] s).2).length (nmR (eatM [60] s).2) false []).1 [] (nodesR f (eatM [62] (attrsR (nmR (eatM [60] s).2).length (nmR (eatM [60] s).2) false []).2.1).2 (attrsR (nmR (eatM [60] s).2).length (nmR (eatM [60] s).2) false []).2.2 []).1])
      else ([], (attrsR (nmR (eatM [60] s).2).length (nmR (eatM [60] s).2) false []).2.1, true)
    else nodesR f (upR 60 s) bad (out ++ [tText (unesc (upT 60 s))])

/-- One step: what a round comes to. -/
theorem nodesR_stop (f : Nat) (s : Bytes) (bad : Bool) (out : List TNode) (h : s = [] ∨ bad = true) : nodesR (f + 1) s bad out = (out, s, bad) := by rw [nodesR, if_pos h]
theorem nodesR_close (f : Nat) (s : Bytes) (out : List TNode) (h : (eatM [60, 47] s).1 = true) : nodesR (f + 1) s false out = (out, s, false) := by
  rw [nodesR]
  by_cases h0 : s = [] ∨ false = true
  · rw [if_pos h0]
  · rw [if_neg h0, if_pos h]
theorem nodesR_text (f : Nat) (s : Bytes) (out : List TNode) (h0 : s ≠ []) (h1 : (eatM [60, 47] s).1 = false) (h2 : (eatM [60] s).1 = false) : nodesR (f + 1) s false out = nodesR f (upR 60 s) false (out ++ [tText (unesc (upT 60 s))]) := by
  rw [nodesR, if_neg (by simp [h0]), if_neg (by rw [h1]; simp), if_neg (by rw [h2]; simp)]
theorem nodesR_bad (f : Nat) (s n z : Bytes) (al : List TAttr) (b : Bool) (out : List TNode) (h0 : s ≠ []) (h1 : (eatM [60, 47] s).1 = false) (h2 : (eatM [60] s).1 = true) (hn : nmT (eatM [60] s).2 = n) (ha : attrsR (nmR (eatM [60] s).2).length (nmR (eatM [60] s).2) false [] = (al, z, b)) (hz : (eatM [62] z).1 = false) :
    nodesR (f + 1) s false out = ([], z, true) := by
  rw [nodesR, if_neg (by simp [h0]), if_neg (by rw [h1]; simp), if_pos h2, ha, hn]
  simp only [hz, Bool.false_eq_true, if_false]
theorem nodesR_void (f : Nat) (s n z : Bytes) (al : List TAttr) (b : Bool) (out : List TNode) (h0 : s ≠ []) (h1 : (eatM [60, 47] s).1 = false) (h2 : (eatM [60] s).1 = true) (hn : nmT (eatM [60] s).2 = n) (ha : attrsR (nmR (eatM [60] s).2).length (nmR (eatM [60] s).2) false [] = (al, z, b)) (hz : (eatM [62] z).1 = true) (hv : isVoid n = true) :
    nodesR (f + 1) s false out = nodesR f (eatM [62] z).2 b (out ++ [.mk n al [] []]) := by
  rw [nodesR, if_neg (by simp [h0]), if_neg (by rw [h1]; simp), if_pos h2, ha, hn]
  simp only [hz, hv, if_true]
theorem nodesR_elem (f : Nat) (s n z : Bytes) (al : List TAttr) (b : Bool) (out : List TNode) (h0 : s ≠ []) (h1 : (eatM [60, 47] s).1 = false) (h2 : (eatM [60] s).1 = true) (hn : nmT (eatM [60] s).2 = n) (ha : attrsR (nmR (eatM [60] s).2).length (nmR (eatM [60] s).2) false [] = (al, z, b)) (hz : (eatM [62] z).1 = true) (hv : isVoid n = false)
    (ps : List TNode) (y : Bytes) (c : Bool) (hp : nodesR f (eatM [62] z).2 b [] = (ps, y, c)) :
    nodesR (f + 1) s false out = nodesR f (eatM (60 :: 47 :: n ++ [62]) y).2 (c || !(eatM (60 :: 47 :: n ++ [62]) y).1) (out ++ [.mk n al [] ps]) := by
  rw [nodesR, if_neg (by simp [h0]), if_neg (by rw [h1]; simp), if_pos h2, ha, hn]
  simp only [hz, hv, if_true, Bool.false_eq_true, if_false, hp]

theorem nodesR_len : ∀ (f : Nat) (s : Bytes) (bad : Bool) (out : List TNode), (nodesR f s bad out).2.1.length ≤ s.length
  | 0, s, _, _ => Nat.le_refl _
  | f + 1, s, bad, out => by
    by_cases h00 : s = [] ∨ bad = true
    · rw [nodesR_stop f s bad out h00]; exact Nat.le_refl _
    · obtain ⟨h0, hb⟩ : s ≠ [] ∧ bad = false := by
        cases bad with
        | true => exact absurd (Or.inr rfl) h00
        | false => exact ⟨fun e => h00 (.inl e), rfl⟩
      subst hb
      cases h1 : (eatM [60, 47] s).1 with
      | true => rw [nodesR_close f s out h1]; exact Nat.le_refl _
      | false =>
        cases h2 : (eatM [60] s).1 with
        | false =>
          rw [nodesR_text f s out h0 h1 h2]
          have := nodesR_len f (upR 60 s) false (out ++ [tText (unesc (upT 60 s))])
          have := upR_len 60 s
          omega
        | true =>
          obtain ⟨al, z, b, ha⟩ : ∃ al z b, attrsR (nmR (eatM [60] s).2).length (nmR (eatM [60] s).2) false [] = (al, z, b) := ⟨_, _, _, rfl⟩
          have k1 := (eatM_len [60] s).1
          have k2 := nmR_len (eatM [60] s).2
          have k3 := attrsR_len (nmR (eatM [60] s).2).length (nmR (eatM [60] s).2) false []
          rw [ha] at k3
          simp only at k3
          have k4 := (eatM_len [62] z).1
          cases hz : (eatM [62] z).1 with
          | false =>
            rw [nodesR_bad f s _ z al b out h0 h1 h2 rfl ha hz]
            show z.length ≤ _
            omega
          | true =>
            cases hv : isVoid (nmT (eatM [60] s).2) with
            | true =>
              rw [nodesR_void f s _ z al b out h0 h1 h2 rfl ha hz hv]
              have := nodesR_len f (eatM [62] z).2 b (out ++ [.mk (nmT (eatM [60] s).2) al [] []])
              omega
            | false =>
              obtain ⟨ps, y, c, hp⟩ : ∃ ps y c, nodesR f (eatM [62] z).2 b [] = (ps, y, c) := ⟨_, _, _, rfl⟩
              rw [nodesR_elem f s _ z al b out h0 h1 h2 rfl ha hz hv ps y c hp]
              have h5 := nodesR_len f (eatM [62] z).2 b []
              rw [hp] at h5
              simp only at h5
              have h6 := (eatM_len (60 :: 47 :: nmT (eatM [60] s).2 ++ [62]) y).1
              have h7 := nodesR_len f (eatM (60 :: 47 :: nmT (eatM [60] s).2 ++ [62]) y).2 (c || !(eatM (60 :: 47 :: nmT (eatM [60] s).2 ++ [62]) y).1) (out ++ [.mk (nmT (eatM [60] s).2) al [] ps])
              omega
theorem upR_lt {b : UInt8} {s : Bytes} (h0 : s ≠ []) (h : (eatM [b] s).1 = false) : (upR b s).length < s.length := by
  cases s with
  | nil => exact absurd rfl h0
  | cons c r =>
    have hc : c ≠ b := by
      rintro rfl
      rw [eatM_cons] at h; cases h
    unfold upR
    rw [List.dropWhile_cons, if_pos (by simp [hc])]
    have := (List.dropWhile_suffix (fun c => !(c == b)) (l := r)).length_le
    simp only [List.length_cons]
    omega
theorem nodesR_fuel : ∀ (f g : Nat) (s : Bytes) (bad : Bool) (out : List TNode), s.length < f → s.length < g → nodesR f s bad out = nodesR g s bad out
  | 0, _, _, _, _, h, _ => by omega
  | _ + 1, 0, _, _, _, _, h => by omega
  | f + 1, g + 1, s, bad, out, hf, hg => by
    by_cases h00 : s = [] ∨ bad = true
    · rw [nodesR_stop f s bad out h00, nodesR_stop g s bad out h00]
    · obtain ⟨h0, hb⟩ : s ≠ [] ∧ bad = false := by
        cases bad with
        | true => exact absurd (Or.inr rfl) h00
        | false => exact ⟨fun e => h00 (.inl e), rfl⟩
      subst hb
      cases h1 : (eatM [60, 47] s).1 with
      | true => rw [nodesR_close f s out h1, nodesR_close g s out h1]
      | false =>
        cases h2 : (eatM [60] s).1 with
        | false =>
          rw [nodesR_text f s out h0 h1 h2, nodesR_text g s out h0 h1 h2]
          have := upR_lt h0 h2
          exact nodesR_fuel f g _ _ _ (by omega) (by omega)
        | true =>
          obtain ⟨al, z, b, ha⟩ : ∃ al z b, attrsR (nmR (eatM [60] s).2).length (nmR (eatM [60] s).2) false [] = (al, z, b) := ⟨_, _, _, rfl⟩
          have k1 := (eatM_len [60] s).2 h2
          simp only [List.length_singleton] at k1
          have k2 := nmR_len (eatM [60] s).2
          have k3 := attrsR_len (nmR (eatM [60] s).2).length (nmR (eatM [60] s).2) false []
          rw [ha] at k3
          simp only at k3
          have k4 := (eatM_len [62] z).1
          cases hz : (eatM [62] z).1 with
          | false => rw [nodesR_bad f s _ z al b out h0 h1 h2 rfl ha hz, nodesR_bad g s _ z al b out h0 h1 h2 rfl ha hz]
          | true =>
            cases hv : isVoid (nmT (eatM [60] s).2) with
            | true =>
              rw [nodesR_void f s _ z al b out h0 h1 h2 rfl ha hz hv, nodesR_void g s _ z al b out h0 h1 h2 rfl ha hz hv]
              exact nodesR_fuel f g _ _ _ (by omega) (by omega)
            | false =>
              obtain ⟨ps, y, c, hp⟩ : ∃ ps y c, nodesR f (eatM [62] z).2 b [] = (ps, y, c) := ⟨_, _, _, rfl⟩
              have hq := hp
              rw [nodesR_fuel f g _ _ _ (by omega) (by omega)] at hq
              rw [nodesR_elem f s _ z al b out h0 h1 h2 rfl ha hz hv ps y c hp, nodesR_elem g s _ z al b out h0 h1 h2 rfl ha hz hv ps y c hq]
              have h5 := nodesR_len f (eatM [62] z).2 b []
              rw [hp] at h5
              simp only at h5
              have h6 := (eatM_len (60 :: 47 :: nmT (eatM [60] s).2 ++ [62]) y).1
              exact nodesR_fuel f g _ _ _ (by omega) (by omega)

/- What is written is read. -/
theorem attrsR_text : ∀ (l : List TAttr) (acc : List TAttr) (z : Bytes) (f : Nat), (∀ a ∈ l, nameM a.name = true) → (attrTexts l ++ 62 :: z).length ≤ f → attrsR f (attrTexts l ++ 62 :: z) false acc = (acc ++ l, 62 :: z, false)
  | [], acc, z, f, _, hf => by
    rw [attrTexts, List.nil_append, List.append_nil]
    cases f with
    | zero => simp at hf
    | succ f => rw [attrsR, eatM_ne (by decide)]; rfl
  | a :: l, acc, z, f, hn, hf => by
    have hna := (nameM_all (hn a (by simp))).1
    have e0 : attrTexts (a :: l) ++ 62 :: z = 32 :: (a.name ++ (61 :: 34 :: (escM true a.value ++ 34 :: (attrTexts l ++ 62 :: z)))) := by
      rw [attrTexts]; unfold attrText; simp
    rw [e0] at hf ⊢
    cases f with
    | zero => simp at hf
    | succ f =>
      rw [attrsR, eatM_cons, if_pos rfl]
      have h1 := nm_app a.name (61 :: 34 :: (escM true a.value ++ 34 :: (attrTexts l ++ 62 :: z))) hna (.inr ⟨61, _, rfl, by decide⟩)
      have h2 : eatM [61, 34] (61 :: 34 :: (escM true a.value ++ 34 :: (attrTexts l ++ 62 :: z))) = (true, escM true a.value ++ 34 :: (attrTexts l ++ 62 :: z)) := eatM_app [61, 34] _
      have h3 := up_app 34 (escM true a.value) (34 :: (attrTexts l ++ 62 :: z)) (fun d hd => (escM_no true a.value d hd).2.2 rfl) (.inr ⟨_, rfl⟩)
      have h4 : atOne (a.name ++ (61 :: 34 :: (escM true a.value ++ 34 :: (attrTexts l ++ 62 :: z)))) = (a, attrTexts l ++ 62 :: z, false) := by
        unfold atOne
        rw [h1.1, h1.2, h2, h3.1, h3.2, eatM_cons, unesc_esc]
        rfl
      simp only [h4, Bool.or_false]
      rw [attrsR_text l (acc ++ [a]) z f (fun b hb => hn b (by simp [hb])) (by simp only [List.length_cons, List.length_append] at hf ⊢; omega)]
      simp
theorem attrsM_names {l : List TAttr} (h : attrsM l = 0) : ∀ a ∈ l, nameM a.name = true := by
  unfold attrsM at h
  intro a ha
  cases hn : nameM a.name with
  | true => rfl
  | false =>
    rw [if_pos (List.any_eq_true.2 ⟨a, ha, by rw [hn]; rfl⟩)] at h
    cases h
theorem ofL_next {d : Nat} {l : List TNode} {tail : Bytes} (h : faultL d true l = 0) (ht : tail = [] ∨ ∃ r, tail = 60 :: 47 :: r) : ofL l ++ tail = [] ∨ ∃ r, ofL l ++ tail = 60 :: r := by
  cases l with
  | nil =>
    rw [ofL, List.nil_append]
    rcases ht with rfl | ⟨r, rfl⟩
    · exact .inl rfl
    · exact .inr ⟨_, rfl⟩
  | cons t l =>
    have h1 := (faultL_cons h).1
    by_cases hn : t.name = []
    · have := (fault_text h1 hn).2.2.2.2
      cases this
    · refine .inr ?_
      rw [ofL, ofN_of, if_neg hn]
      split
      · exact ⟨_, rfl⟩
      · exact ⟨_, rfl⟩
theorem nodesR_list : ∀ (L : List TNode) (d : Nat) (p : Bool) (tail : Bytes) (out : List TNode) (f : Nat), faultL d p L = 0 → (tail = [] ∨ ∃ r, tail = 60 :: 47 :: r) → (ofL L ++ tail).length < f → nodesR f (ofL L ++ tail) false out = (out ++ L, tail, false)
  | [], d, p, tail, out, f, _, ht, hf => by
    rw [ofL, List.nil_append, List.append_nil]
    cases f with
    | zero => omega
    | succ f =>
      rcases ht with rfl | ⟨r, rfl⟩
      · exact nodesR_stop f [] false out (.inl rfl)
      · exact nodesR_close f _ out (by rw [show (60 : UInt8) :: 47 :: r = [60, 47] ++ r from rfl, eatM_app])
  | .mk n a x ps :: L, d, p, tail, out, f, h, ht, hf => by
    obtain ⟨h1, h2⟩ := faultL_cons h
    cases f with
    | zero => omega
    | succ f =>
      by_cases hn : n = []
      · subst hn
        obtain ⟨_, ha, hps, hx, _⟩ := fault_text h1 rfl
        cases (show a = [] from ha)
        cases (show ps = [] from hps)
        have hx : x ≠ [] := hx
        have e : ofL (.mk [] [] x [] :: L) ++ tail = escM false x ++ (ofL L ++ tail) := by rw [ofL, ofN, if_pos rfl, List.append_assoc]
        rw [e] at hf ⊢
        have hno := escM_no false x
        have hne := escM_ne false x hx
        obtain ⟨c, r, hc⟩ : ∃ c r, escM false x = c :: r := by
          cases hh : escM false x with
          | nil => exact absurd hh hne
          | cons c r => exact ⟨c, r, rfl⟩
        have hc60 : c ≠ 60 := (hno c (by rw [hc]; simp)).1
        have hu := up_app 60 (escM false x) (ofL L ++ tail) (fun d hd => (hno d hd).1) (ofL_next (d := d) h2 ht)
        have hs0 : escM false x ++ (ofL L ++ tail) ≠ [] := by rw [hc]; simp
        have hs1 : (eatM [60, 47] (escM false x ++ (ofL L ++ tail))).1 = false := by rw [hc, List.cons_append, eatM_ne (Ne.symm hc60)]
        have hs2 : (eatM [60] (escM false x ++ (ofL L ++ tail))).1 = false := by rw [hc, List.cons_append, eatM_ne (Ne.symm hc60)]
        rw [nodesR_text f _ out hs0 hs1 hs2, hu.1, hu.2, unesc_esc]
        have hl : 0 < (escM false x).length := by rw [hc]; simp
        rw [nodesR_list L d _ tail _ f h2 ht (by rw [List.length_append] at hf; omega)]
        unfold tText
        simp
      · obtain ⟨_, hnm, hat, hx, hvp, _, hpf⟩ := fault_elem h1 hn
        have hx : x = [] := hx
        have hvp : isVoid n = true → ps = [] := hvp
        have hnm : nameM n = true := hnm
        have hat : attrsM a = 0 := hat
        have hpf : faultL (d + 1) false ps = 0 := hpf
        have h2e : faultL d false L = 0 := by
          have := h2
          rw [show ((TNode.mk n a x ps).name == []) = false from beq_eq_false_iff_ne.2 hn] at this
          exact this
        subst hx
        obtain ⟨hna, _, _, c, r, hcr, hlet⟩ := nameM_all hnm
        have hcr : n = c :: r := hcr
        have hna : n.all nameC = true := hna
        have hc47 : c ≠ 47 := by
          have := hna
          rw [hcr] at this
          have h9 : nameC c = true := by simp at this; exact this.1
          exact (nameC_no c h9).2.2.1
        obtain ⟨z, hz⟩ : ∃ z, z = if isVoid n then ofL L ++ tail else ofL ps ++ (60 :: 47 :: n ++ [62] ++ (ofL L ++ tail)) := ⟨_, rfl⟩
        have e : ofL (.mk n a [] ps :: L) ++ tail = 60 :: (n ++ (attrTexts a ++ 62 :: z)) := by
          rw [ofL, ofN, if_neg hn, hz]
          unfold tagText tagTail
          cases isVoid n <;> simp
        rw [e] at hf ⊢
        have g0 : (60 : UInt8) :: (n ++ (attrTexts a ++ 62 :: z)) ≠ [] := by simp
        have g1 : (eatM [60, 47] (60 :: (n ++ (attrTexts a ++ 62 :: z)))).1 = false := by
          rw [hcr]
          unfold eatM
          rw [if_neg (by rw [List.isPrefixOf_iff_prefix]; rintro ⟨t, ht⟩; injection ht with _ ht; injection ht with ht _; exact hc47 ht.symm)]
        have g2 : eatM [60] (60 :: (n ++ (attrTexts a ++ 62 :: z))) = (true, n ++ (attrTexts a ++ 62 :: z)) := eatM_cons 60 _
        have hnx : attrTexts a ++ 62 :: z = [] ∨ ∃ c r, attrTexts a ++ 62 :: z = c :: r ∧ nameC c = false := by
          cases a with
          | nil => exact .inr ⟨62, z, rfl, by decide⟩
          | cons b a => exact .inr ⟨32, _, by rw [attrTexts]; unfold attrText; rfl, by decide⟩
        have hnn := nm_app n (attrTexts a ++ 62 :: z) hna hnx
        have hA : attrsR (nmR (eatM [60] (60 :: (n ++ (attrTexts a ++ 62 :: z)))).2).length (nmR (eatM [60] (60 :: (n ++ (attrTexts a ++ 62 :: z)))).2) false [] = (a, 62 :: z, false) := by
          rw [g2, hnn.2, attrsR_text a [] z _ (attrsM_names hat) (Nat.le_refl _), List.nil_append]
        have hN : nmT (eatM [60] (60 :: (n ++ (attrTexts a ++ 62 :: z)))).2 = n := by rw [g2]; exact hnn.1
        have hf2 : z.length < f := by simp only [List.length_cons, List.length_append] at hf; omega
        cases hv : isVoid n with
        | true =>
          rw [nodesR_void f _ n (62 :: z) a false out g0 g1 (by rw [g2]) hN hA (by rw [eatM_cons]) hv, eatM_cons]
          rw [hv, if_pos rfl] at hz
          cases (show ps = [] from hvp hv)
          rw [hz] at hf2 ⊢
          rw [nodesR_list L d false tail _ f h2e ht hf2]
          simp
        | false =>
          rw [hv] at hz
          simp only [Bool.false_eq_true, if_false] at hz
          have hp : nodesR f (eatM [62] (62 :: z)).2 false [] = (ps, 60 :: 47 :: n ++ [62] ++ (ofL L ++ tail), false) := by
            rw [eatM_cons, hz]
            show nodesR f (ofL ps ++ (60 :: 47 :: n ++ [62] ++ (ofL L ++ tail))) false [] = _
            rw [nodesR_list ps (d + 1) false (60 :: 47 :: n ++ [62] ++ (ofL L ++ tail)) [] f hpf (.inr ⟨n ++ [62] ++ (ofL L ++ tail), rfl⟩) (by rw [← hz]; exact hf2), List.nil_append]
          rw [nodesR_elem f _ n (62 :: z) a false out g0 g1 (by rw [g2]) hN hA (by rw [eatM_cons]) hv ps _ false hp, eatM_app]
          rw [hz] at hf2
          simp only [List.length_append] at hf2
          simp only [Bool.not_true, Bool.or_self]
          rw [nodesR_list L d false tail _ f h2e ht (by rw [List.length_append]; omega)]
          simp
/-- A tree's text is read as the tree. -/
theorem nodesR_back {l : List TNode} {s : Bytes} (h : textS l = (s, 0)) : nodesR (s.length + 1) s false [] = (l, [], false) := by
  rcases textS_ways l with ⟨h1, h2⟩ | ⟨h1, _⟩ | ⟨h1, h2, _⟩
  · rw [h1] at h
    exact absurd (Prod.mk.inj h).2 h2
  · rw [h1] at h; cases h
  · rw [h1] at h
    cases h
    have := nodesR_list l 0 false [] [] ((ofL l).length + 1) (checkS_ok h2).1 (.inl rfl) (by rw [List.append_nil]; omega)
    rw [List.append_nil, List.nil_append] at this
    exact this

/-- What the reference reads. -/
def refReadS (s : Bytes) : List TNode × Int :=
  if 600 < s.length then ([], 1)
  else if (nodesR (s.length + 1) s false []).2.2 = true ∨ (nodesR (s.length + 1) s false []).2.1 ≠ [] then ([], 4)
  else if textS (nodesR (s.length + 1) s false []).1 = (s, 0) then ((nodesR (s.length + 1) s false []).1, 0) else ([], 4)
theorem readS_waysV (s : Bytes) (h : s.length ≤ 600) : readS s = ([], 4) ∨ ∃ l, readS s = (l, 0) := by
  unfold readS
  rw [if_neg (by omega)]
  unfold readOf
  repeat' split
  all_goals first | exact .inl rfl | exact .inr ⟨_, rfl⟩
theorem refRead_eq (s : Bytes) : refReadS s = readS s := by
  unfold refReadS
  by_cases h6 : 600 < s.length
  · rw [if_pos h6]; unfold readS; rw [if_pos h6]
  rw [if_neg h6]
  rcases readS_waysV s (by omega) with hr | ⟨l, hr⟩
  · rw [hr]
    split
    · rfl
    · split
      · rename_i hx
        have := read_back hx
        rw [hr] at this
        exact absurd (show (4 : Int) = 0 from congrArg Prod.snd this) (by decide)
      · rfl
  · rw [hr]
    have ht := read_fixed hr
    rw [nodesR_back ht]
    rw [if_neg (by simp), if_pos ht]
end Go.Proofs.YtjkgmdnkejjppaaGreatDoor
/- The strict reader's steps with the fuel that its text asks. Nothing of the program here. -/
namespace Go.Proofs.YtjkgmdnkejjppaaGreatDoor

def nodesC (s : Bytes) (bad : Bool) (out : List TNode) : List TNode × Bytes × Bool := nodesR (s.length + 1) s bad out
def attrsC (s : Bytes) (bad : Bool) (acc : List TAttr) : List TAttr × Bytes × Bool := attrsR s.length s bad acc
theorem nodesC_stop (s : Bytes) (bad : Bool) (out : List TNode) (h : s = [] ∨ bad = true) : nodesC s bad out = (out, s, bad) := nodesR_stop _ _ _ _ h
theorem nodesC_close (s : Bytes) (out : List TNode) (h : (eatM [60, 47] s).1 = true) : nodesC s false out = (out, s, false) := nodesR_close _ _ _ h
theorem nodesC_text (s : Bytes) (out : List TNode) (h0 : s ≠ []) (h1 : (eatM [60, 47] s).1 = false) (h2 : (eatM [60] s).1 = false) :
    nodesC s false out = nodesC (upR 60 s) false (out ++ [tText (unesc (upT 60 s))]) := by
  unfold nodesC
  rw [nodesR_text _ _ _ h0 h1 h2]
  have := upR_lt h0 h2
  exact nodesR_fuel _ _ _ _ _ (by omega) (by omega)
theorem attrsC_stop (s : Bytes) (bad : Bool) (acc : List TAttr) (h : (eatM [32] s).1 = false) : attrsC s bad acc = (acc, s, bad) := by
  unfold attrsC
  cases hl : s.length with
  | zero => rfl
  | succ n => rw [attrsR, h]; simp
theorem attrsC_go (s : Bytes) (bad : Bool) (acc : List TAttr) (h : (eatM [32] s).1 = true) :
    attrsC s bad acc = attrsC (atOne (eatM [32] s).2).2.1 (bad || (atOne (eatM [32] s).2).2.2) (acc ++ [(atOne (eatM [32] s).2).1]) := by
  have h3 := (eatM_len [32] s).2 h
  simp only [List.length_singleton] at h3
  have h2 := atOne_len (eatM [32] s).2
  unfold attrsC
  obtain ⟨n, hn⟩ : ∃ n, s.length = n + 1 := ⟨s.length - 1, by omega⟩
  rw [hn, attrsR, if_pos h]
  exact attrsR_fuel _ _ _ _ _ (by omega) (by omega)
theorem attrsC_len (s : Bytes) (bad : Bool) (acc : List TAttr) : (attrsC s bad acc).2.1.length ≤ s.length := attrsR_len _ _ _ _
theorem nodesC_bad (s n z : Bytes) (al : List TAttr) (b : Bool) (out : List TNode) (h0 : s ≠ []) (h1 : (eatM [60, 47] s).1 = false) (h2 : (eatM [60] s).1 = true) (hn : nmT (eatM [60] s).2 = n) (ha : attrsC (nmR (eatM [60] s).2) false [] = (al, z, b)) (hz : (eatM [62] z).1 = false) :
    nodesC s false out = ([], z, true) := nodesR_bad _ _ n z al b _ h0 h1 h2 hn ha hz
theorem after_len (s z : Bytes) (al : List TAttr) (b : Bool) (h2 : (eatM [60] s).1 = true) (ha : attrsC (nmR (eatM [60] s).2) false [] = (al, z, b)) (hz : (eatM [62] z).1 = true) : (eatM [62] z).2.length + 2 ≤ s.length := by
  have k1 := (eatM_len [60] s).2 h2
  have k2 := nmR_len (eatM [60] s).2
  have k3 := attrsC_len (nmR (eatM [60] s).2) false []
  rw [ha] at k3
  have k4 := (eatM_len [62] z).2 hz
  simp only [List.length_singleton] at k1 k4
  simp only at k3
  omega
theorem nodesC_void (s n z : Bytes) (al : List TAttr) (b : Bool) (out : List TNode) (h0 : s ≠ []) (h1 : (eatM [60, 47] s).1 = false) (h2 : (eatM [60] s).1 = true) (hn : nmT (eatM [60] s).2 = n) (ha : attrsC (nmR (eatM [60] s).2) false [] = (al, z, b)) (hz : (eatM [62] z).1 = true) (hv : isVoid n = true) :
    nodesC s false out = nodesC (eatM [62] z).2 b (out ++ [.mk n al [] []]) := by
  have k := after_len s z al b h2 ha hz
  unfold nodesC
  rw [nodesR_void _ s n z al b out h0 h1 h2 hn ha hz hv]
  exact nodesR_fuel _ _ _ _ _ (by omega) (by omega)
theorem nodesC_elem (s n z : Bytes) (al : List TAttr) (b : Bool) (out : List TNode) (h0 : s ≠ []) (h1 : (eatM [60, 47] s).1 = false) (h2 : (eatM [60] s).1 = true) (hn : nmT (eatM [60] s).2 = n) (ha : attrsC (nmR (eatM [60] s).2) false [] = (al, z, b)) (hz : (eatM [62] z).1 = true) (hv : isVoid n = false)
    (ps : List TNode) (y : Bytes) (c : Bool) (hp : nodesC (eatM [62] z).2 b [] = (ps, y, c)) :
    nodesC s false out = nodesC (eatM (60 :: 47 :: n ++ [62]) y).2 (c || !(eatM (60 :: 47 :: n ++ [62]) y).1) (out ++ [.mk n al [] ps]) := by
  have k := after_len s z al b h2 ha hz
  have hp2 : nodesR s.length (eatM [62] z).2 b [] = (ps, y, c) := by
    rw [← hp]; exact nodesR_fuel _ _ _ _ _ (by omega) (by omega)
  have h5 := nodesR_len s.length (eatM [62] z).2 b []
  rw [hp2] at h5
  simp only at h5
  have h6 := (eatM_len (60 :: 47 :: n ++ [62]) y).1
  show nodesR (s.length + 1) s false out = _
  rw [nodesR_elem _ s n z al b out h0 h1 h2 hn ha hz hv ps y c hp2]
  exact nodesR_fuel _ _ _ _ _ (by omega) (by omega)
theorem nodesC_len (s : Bytes) (bad : Bool) (out : List TNode) : (nodesC s bad out).2.1.length ≤ s.length := nodesR_len _ _ _ _
end Go.Proofs.YtjkgmdnkejjppaaGreatDoor
/- What the strict reader reads is small. Nothing of the program here. -/
namespace Go.Proofs.YtjkgmdnkejjppaaGreatDoor

theorem nmT_len (s : Bytes) : (nmT s).length ≤ s.length := (List.takeWhile_prefix _).length_le
theorem upT_len (b : UInt8) (s : Bytes) : (upT b s).length ≤ s.length := (List.takeWhile_prefix _).length_le
theorem upTR (b : UInt8) (s : Bytes) : (upT b s).length + (upR b s).length = s.length := by
  unfold upT upR
  rw [← List.length_append, List.takeWhile_append_dropWhile]
theorem atOne_small (s : Bytes) (h : s.length ≤ 1000) : (atOne s).1.name.length ≤ 1000 ∧ (atOne s).1.value.length ≤ 1000 := by
  have h1 := nmT_len s
  have h2 := nmR_len s
  have h3 := (eatM_len [61, 34] (nmR s)).1
  have h4 := upT_len 34 (eatM [61, 34] (nmR s)).2
  have h5 := unesc_le (upT 34 (eatM [61, 34] (nmR s)).2)
  exact ⟨by show (nmT s).length ≤ 1000; omega, by show (unesc (upT 34 (eatM [61, 34] (nmR s)).2)).length ≤ 1000; omega⟩
theorem attrsR_small : ∀ (f : Nat) (s : Bytes) (bad : Bool) (acc : List TAttr), s.length ≤ 1000 → (∀ a ∈ acc, a.name.length ≤ 1000 ∧ a.value.length ≤ 1000) →
    (attrsR f s bad acc).1.length + (attrsR f s bad acc).2.1.length ≤ acc.length + s.length ∧ ∀ a ∈ (attrsR f s bad acc).1, a.name.length ≤ 1000 ∧ a.value.length ≤ 1000
  | 0, s, _, acc, _, ha => ⟨Nat.le_refl _, ha⟩
  | f + 1, s, bad, acc, hs, ha => by
    rw [attrsR]
    split
    · rename_i h
      have h3 := (eatM_len [32] s).2 h
      simp only [List.length_singleton] at h3
      have h2 := atOne_len (eatM [32] s).2
      have h4 := atOne_small (eatM [32] s).2 (by omega)
      obtain ⟨i1, i2⟩ := attrsR_small f (atOne (eatM [32] s).2).2.1 (bad || (atOne (eatM [32] s).2).2.2) (acc ++ [(atOne (eatM [32] s).2).1]) (by omega) (by
        intro a h
        rcases List.mem_append.1 h with h | h
        · exact ha a h
        · cases List.mem_singleton.1 h; exact h4)
      rw [List.length_append, List.length_singleton] at i1
      exact ⟨by omega, i2⟩
    · exact ⟨Nat.le_refl _, ha⟩
theorem SzL.snoc {l : List TNode} {t : TNode} (h : SzL l) (ht : SzN t) : SzL (l ++ [t]) := SzL.of fun u hu => by
  rcases List.mem_append.1 hu with hu | hu
  · exact h.mem u hu
  · cases List.mem_singleton.1 hu; exact ht
theorem nodesR_small : ∀ (f : Nat) (s : Bytes) (bad : Bool) (out : List TNode), s.length ≤ 1000 → SzL out →
    countL (nodesR f s bad out).1 + (nodesR f s bad out).2.1.length ≤ countL out + s.length ∧ SzL (nodesR f s bad out).1
  | 0, s, _, out, _, ho => ⟨Nat.le_refl _, ho⟩
  | f + 1, s, bad, out, hs, ho => by
    by_cases h00 : s = [] ∨ bad = true
    · rw [nodesR_stop f s bad out h00]; exact ⟨Nat.le_refl _, ho⟩
    · obtain ⟨h0, hb⟩ : s ≠ [] ∧ bad = false := by
        cases bad with
        | true => exact absurd (Or.inr rfl) h00
        | false => exact ⟨fun e => h00 (.inl e), rfl⟩
      subst hb
      cases h1 : (eatM [60, 47] s).1 with
      | true => rw [nodesR_close f s out h1]; exact ⟨Nat.le_refl _, ho⟩
      | false =>
        cases h2 : (eatM [60] s).1 with
        | false =>
          rw [nodesR_text f s out h0 h1 h2]
          have k1 := upR_lt h0 h2
          have k2 := upT_len 60 s
          have k3 := unesc_le (upT 60 s)
          obtain ⟨i1, i2⟩ := nodesR_small f (upR 60 s) false (out ++ [tText (unesc (upT 60 s))]) (by omega) (ho.snoc (szN_text _ (by omega)))
          rw [countL_append, countL_one, show countN (tText (unesc (upT 60 s))) = 1 by unfold tText; rw [countN, countL]] at i1
          exact ⟨by omega, i2⟩
        | true =>
          obtain ⟨al, z, b, ha⟩ : ∃ al z b, attrsR (nmR (eatM [60] s).2).length (nmR (eatM [60] s).2) false [] = (al, z, b) := ⟨_, _, _, rfl⟩
          have k1 := (eatM_len [60] s).2 h2
          simp only [List.length_singleton] at k1
          have k2 := nmR_len (eatM [60] s).2
          have k0 := nmT_len (eatM [60] s).2
          obtain ⟨k3, k5⟩ := attrsR_small (nmR (eatM [60] s).2).length (nmR (eatM [60] s).2) false [] (by omega) (fun a h => by cases h)
          rw [ha] at k3 k5
          simp only [List.length_nil] at k3
          have k4 := (eatM_len [62] z).1
          have hszn : ∀ ps : List TNode, SzL ps → SzN (.mk (nmT (eatM [60] s).2) al [] ps) := fun ps hp => by
            rw [SzN]; exact ⟨⟨by omega, by simp, by omega, k5⟩, hp⟩
          cases hz : (eatM [62] z).1 with
          | false =>
            rw [nodesR_bad f s _ z al b out h0 h1 h2 rfl ha hz]
            exact ⟨by show countL [] + z.length ≤ _; rw [countL]; omega, by show SzL []; rw [SzL]; trivial⟩
          | true =>
            have k6 := (eatM_len [62] z).2 hz
            simp only [List.length_singleton] at k6
            cases hv : isVoid (nmT (eatM [60] s).2) with
            | true =>
              rw [nodesR_void f s _ z al b out h0 h1 h2 rfl ha hz hv]
              obtain ⟨i1, i2⟩ := nodesR_small f (eatM [62] z).2 b (out ++ [.mk (nmT (eatM [60] s).2) al [] []]) (by omega) (ho.snoc (hszn [] (by rw [SzL]; trivial)))
              rw [countL_append, countL_one, countN, show countL [] = 0 from rfl] at i1
              exact ⟨by omega, i2⟩
            | false =>
              obtain ⟨ps, y, c, hp⟩ : ∃ ps y c, nodesR f (eatM [62] z).2 b [] = (ps, y, c) := ⟨_, _, _, rfl⟩
              rw [nodesR_elem f s _ z al b out h0 h1 h2 rfl ha hz hv ps y c hp]
              obtain ⟨j1, j2⟩ := nodesR_small f (eatM [62] z).2 b [] (by omega) (by rw [SzL]; trivial)
              rw [hp, show countL [] = 0 from rfl] at j1
              rw [hp] at j2
              simp only at j1
              have h6 := (eatM_len (60 :: 47 :: nmT (eatM [60] s).2 ++ [62]) y).1
              obtain ⟨i1, i2⟩ := nodesR_small f (eatM (60 :: 47 :: nmT (eatM [60] s).2 ++ [62]) y).2 (c || !(eatM (60 :: 47 :: nmT (eatM [60] s).2 ++ [62]) y).1) (out ++ [.mk (nmT (eatM [60] s).2) al [] ps]) (by omega) (ho.snoc (hszn ps j2))
              rw [countL_append, countL_one, countN] at i1
              exact ⟨by omega, i2⟩
theorem nodesC_small (s : Bytes) (h : s.length ≤ 600) : countL (nodesC s false []).1 ≤ 600 ∧ SzL (nodesC s false []).1 := by
  obtain ⟨h1, h2⟩ := nodesR_small (s.length + 1) s false [] (by omega) (by rw [SzL]; trivial)
  rw [show countL [] = 0 from rfl] at h1
  exact ⟨by show countL (nodesR (s.length + 1) s false []).1 ≤ 600; omega, h2⟩
end Go.Proofs.YtjkgmdnkejjppaaGreatDoor
