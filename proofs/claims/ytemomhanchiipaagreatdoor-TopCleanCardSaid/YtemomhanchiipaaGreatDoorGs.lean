/- Joined texts: SLaw SLawB SWalkA SWalkB SKeepA. -/
import Derived.Test.YtemomhanchiipaaGreatDoorGj
import Derived.Test.YtemomhanchiipaaGreatDoorGn
import Derived.Test.YtemomhanchiipaaGreatDoorGl
import Derived.Test.YtemomhanchiipaaGreatDoorGo
import Derived.Test.YtemomhanchiipaaGreatDoorGk
/- Runs of spaces: what space.Text and space.Nodes compute, and what the rows ask of it. Nothing of the program here. -/
namespace Go.Proofs.YtemomhanchiipaaGreatDoor

def isSp (c : UInt8) : Bool := c == 32 || c == 9 || c == 10 || c == 12
def spT : Bool → Bytes → Bytes
  | _, [] => []
  | a, c :: r => if isSp c then (if a then spT true r else 32 :: spT true r) else c :: spT false r
def endsSp (t : Bytes) : Bool := t.getLast? == some 32
def sBlocks : List Bytes := [[112], [100, 105, 118], [117, 108], [111, 108], [108, 105], [104, 49], [104, 50], [116, 97, 98, 108, 101], [98, 108, 111, 99, 107, 113, 117, 111, 116, 101], [98, 114], [104, 114]]
def isBlk (n : Bytes) : Bool := sBlocks.contains n
mutual
def spN : Bool → TNode → List TNode × Bool
  | a, .mk n ats tx ps =>
    if n = [] then (if spT a tx = [] then ([], a) else ([.mk [] [] (spT a tx) []], endsSp (spT a tx)))
    else ([.mk n ats tx (spL (a || isBlk n) ps).1], (spL (a || isBlk n) ps).2 || isBlk n)
def spL : Bool → List TNode → List TNode × Bool
  | a, [] => ([], a)
  | a, t :: ts => ((spN a t).1 ++ (spL (spN a t).2 ts).1, (spL (spN a t).2 ts).2)
end
theorem spN_text (a : Bool) (t : TNode) (h : t.name = []) : spN a t = if spT a t.text = [] then ([], a) else ([tText (spT a t.text)], endsSp (spT a t.text)) := by
  obtain ⟨n, ats, tx, ps⟩ := t
  cases (show n = [] from h)
  rw [spN, if_pos rfl]; rfl
theorem spN_elem (a : Bool) (t : TNode) (h : t.name ≠ []) : spN a t = ([.mk t.name t.attrs t.text (spL (a || isBlk t.name) t.parts).1], (spL (a || isBlk t.name) t.parts).2 || isBlk t.name) := by
  obtain ⟨n, ats, tx, ps⟩ := t
  rw [spN, if_neg (show ¬ n = [] from h)]; rfl
theorem spL_append : ∀ (l m : List TNode) (a : Bool), spL a (l ++ m) = ((spL a l).1 ++ (spL (spL a l).2 m).1, (spL (spL a l).2 m).2)
  | [], m, a => by rw [spL]; rfl
  | t :: l, m, a => by
    rw [List.cons_append, spL, spL_append l m, spL, List.append_assoc]
theorem spL_take (l : List TNode) (k : Nat) (t : TNode) (a : Bool) (h : l[k]? = some t) : spL a (l.take (k + 1)) = ((spL a (l.take k)).1 ++ (spN (spL a (l.take k)).2 t).1, (spN (spL a (l.take k)).2 t).2) := by
  rw [List.take_add_one, h, spL_append]
  show (_ ++ (spL _ [t]).1, (spL _ [t]).2) = _
  rw [spL, spL]; simp
theorem spN_last (a : Bool) (l : List TNode) (k : Nat) (u x : TNode) (h : l[k]? = some u) (hu : u.name ≠ []) (hx : (spL a (l.take (k + 1))).1.getLast? = some x) : x.name = u.name := by
  rw [spL_take l k u a h, spN_elem _ _ hu] at hx
  simp at hx
  rw [← hx]; rfl
theorem spT_len : ∀ (l : Bytes) (a : Bool), (spT a l).length ≤ l.length
  | [], _ => Nat.le_refl _
  | c :: r, a => by
    rw [spT]
    have h1 := spT_len r true
    have h2 := spT_len r false
    split
    · split <;> simp <;> omega
    · simp; omega
theorem spL_len : ∀ (l : List TNode) (a : Bool), (spL a l).1.length ≤ l.length
  | [], _ => by rw [spL]; exact Nat.le_refl _
  | t :: l, a => by
    rw [spL, List.length_append, List.length_cons]
    have h1 := spL_len l (spN a t).2
    have h2 : (spN a t).1.length ≤ 1 := by
      by_cases hn : t.name = []
      · rw [spN_text a t hn]; split <;> simp
      · rw [spN_elem a t hn]; simp
    omega

theorem spT_twice : ∀ (l : Bytes) (a : Bool), spT a (spT a l) = spT a l
  | [], _ => rfl
  | c :: r, a => by
    rw [spT]
    cases hc : isSp c with
    | true =>
      cases a with
      | true => exact spT_twice r true
      | false =>
        show spT false (32 :: spT true r) = 32 :: spT true r
        rw [spT, spT_twice r true]; rfl
    | false =>
      show spT a (c :: spT false r) = c :: spT false r
      rw [spT, hc, spT_twice r false]; rfl
mutual
theorem spN_twice : ∀ (t : TNode) (a : Bool), spL a (spN a t).1 = spN a t
  | .mk n ats tx ps, a => by
    by_cases hn : n = []
    · subst hn
      rw [spN, if_pos rfl]
      by_cases h0 : spT a tx = []
      · rw [if_pos h0, spL]
      · rw [if_neg h0, spL, spL, spN, if_pos rfl, spT_twice, if_neg h0]; rfl
    · rw [spN, if_neg hn, spL, spL, spN, if_neg hn, spL_twice ps]; rfl
theorem spL_twice : ∀ (l : List TNode) (a : Bool), spL a (spL a l).1 = spL a l
  | [], a => by rw [spL, spL]
  | t :: l, a => by
    rw [spL, spL_append, spN_twice t a, spL_twice l]
end

def sglB : Bool → Bytes → Bool
  | _, [] => true
  | p, c :: r => !(c == 9 || c == 10 || (p && c == 32)) && sglB (c == 32) r
theorem isSp_no {c : UInt8} (h : isSp c = false) : c ≠ 32 ∧ c ≠ 9 ∧ c ≠ 10 ∧ c ≠ 12 := by
  unfold isSp at h
  simp only [Bool.or_eq_false_iff, beq_eq_false_iff_ne] at h
  exact ⟨h.1.1.1, h.1.1.2, h.1.2, h.2⟩
theorem sgl_weak (l : Bytes) (p : Bool) (h : sglB true l = true) : sglB p l = true := by
  cases l with
  | nil => rfl
  | cons c r =>
    rw [sglB] at h ⊢
    cases p with
    | true => exact h
    | false =>
      simp only [Bool.and_eq_true, Bool.not_eq_true', Bool.or_eq_false_iff] at h ⊢
      exact ⟨⟨h.1.1, by simp⟩, h.2⟩
theorem sgl_spT : ∀ (l : Bytes) (a : Bool), sglB a (spT a l) = true
  | [], _ => rfl
  | c :: r, a => by
    rw [spT]
    cases hc : isSp c with
    | true =>
      cases a with
      | true => exact sgl_spT r true
      | false =>
        show sglB false (32 :: spT true r) = true
        rw [sglB]
        have := sgl_spT r true
        simp [this]
    | false =>
      obtain ⟨h1, h2, h3, _⟩ := isSp_no hc
      show sglB a (c :: spT false r) = true
      rw [sglB]
      have := sgl_spT r false
      have e : (c == 32) = false := beq_eq_false_iff_ne.2 h1
      rw [e, this]
      simp [h2, h3]
mutual
def sglN : TNode → Bool
  | .mk _ _ t ps => sglB false t && sglL ps
def sglL : List TNode → Bool
  | [] => true
  | t :: ts => sglN t && sglL ts
end
theorem sglL_append : ∀ (a b : List TNode), sglL (a ++ b) = (sglL a && sglL b)
  | [], _ => by rw [sglL]; rfl
  | t :: a, b => by rw [List.cons_append, sglL, sglL, sglL_append a b, Bool.and_assoc]
theorem apartN_ways (t : TNode) (h : apartN t = true) : (t.name = [] → t.text ≠ [] ∧ t.parts = [] ∧ t.attrs = []) ∧ (t.name ≠ [] → t.text = [] ∧ apartL false t.parts = true) := by
  have h1 : apartL false [t] = true := by rw [apartL, apartL, h]; simp
  obtain ⟨g1, g2⟩ := apart_get [t] false 0 t h1 rfl
  exact ⟨fun hn => (g1 hn).1, g2⟩
theorem apartL_weak (l : List TNode) (p : Bool) (h : apartL true l = true) : apartL p l = true := by
  cases l with
  | nil => rw [apartL]
  | cons t ts =>
    rw [apartL] at h ⊢
    cases p with
    | true => exact h
    | false =>
      simp only [Bool.and_eq_true] at h ⊢
      exact ⟨⟨by simp, h.1.2⟩, h.2⟩
theorem apartN_text (s : Bytes) (h : s ≠ []) : apartN (tText s) = true := by
  unfold tText
  rw [apartN, if_pos rfl]
  simp [h]
theorem apartN_elem (n : Bytes) (a : List TAttr) (ps : List TNode) (hn : n ≠ []) (hp : apartL false ps = true) : apartN (.mk n a [] ps) = true := by
  rw [apartN, if_neg hn, hp]; rfl
mutual
theorem spN_apart : ∀ (t : TNode) (a : Bool), apartN t = true → (spN a t).1 = [] ∧ t.name = [] ∨ ∃ x, (spN a t).1 = [x] ∧ x.name = t.name ∧ apartN x = true
  | .mk n ats tx ps, a, h => by
    obtain ⟨g1, g2⟩ := apartN_ways _ h
    by_cases hn : n = []
    · subst hn
      rw [spN, if_pos rfl]
      by_cases h0 : spT a tx = []
      · exact .inl ⟨by rw [if_pos h0], rfl⟩
      · exact .inr ⟨tText (spT a tx), by rw [if_neg h0]; rfl, rfl, apartN_text _ h0⟩
    · obtain ⟨q1, q2⟩ := g2 hn
      have q1' : tx = [] := q1
      subst q1'
      rw [spN, if_neg hn]
      exact .inr ⟨_, rfl, rfl, apartN_elem n ats _ hn (spL_apart ps false _ q2)⟩
theorem spL_apart : ∀ (l : List TNode) (p a : Bool), apartL p l = true → apartL p (spL a l).1 = true
  | [], p, a, _ => by rw [spL, apartL]
  | t :: l, p, a, h => by
    rw [apartL] at h
    simp only [Bool.and_eq_true] at h
    have ih := fun a => spL_apart l (t.name == []) a h.2
    rw [spL]
    rcases spN_apart t a h.1.2 with ⟨e1, e2⟩ | ⟨x, e1, e2, e3⟩
    · rw [e1]
      have h3 := ih (spN a t).2
      rw [e2] at h3
      exact apartL_weak _ p h3
    · rw [e1]
      show apartL p (x :: (spL (spN a t).2 l).1) = true
      rw [apartL, e2, ih, e3, h.1.1]; rfl
end
mutual
theorem spN_sgl : ∀ (t : TNode) (a : Bool), apartN t = true → sglL (spN a t).1 = true
  | .mk n ats tx ps, a, h => by
    obtain ⟨g1, g2⟩ := apartN_ways _ h
    by_cases hn : n = []
    · subst hn
      rw [spN, if_pos rfl]
      by_cases h0 : spT a tx = []
      · rw [if_pos h0, sglL]
      · rw [if_neg h0, sglL, sglL, sglN, sglL]
        have h1 := sgl_spT tx a
        have h2 : sglB false (spT a tx) = true := by
          cases a with
          | true => exact sgl_weak _ _ h1
          | false => exact h1
        rw [h2]; rfl
    · obtain ⟨q1, q2⟩ := g2 hn
      have q1' : tx = [] := q1
      subst q1'
      rw [spN, if_neg hn, sglL, sglL, sglN, spL_sgl ps _ false q2]; rfl
theorem spL_sgl : ∀ (l : List TNode) (a p : Bool), apartL p l = true → sglL (spL a l).1 = true
  | [], a, _, _ => by rw [spL, sglL]
  | t :: l, a, p, h => by
    rw [apartL] at h
    simp only [Bool.and_eq_true] at h
    rw [spL, sglL_append, spN_sgl t a h.1.2, spL_sgl l _ _ h.2]; rfl
end
theorem sgl_head (l : Bytes) (h : sglB true l = true) : l.head? ≠ some 32 := by
  cases l with
  | nil => simp
  | cons c r =>
    rw [sglB] at h
    simp only [Bool.and_eq_true, Bool.not_eq_true', Bool.or_eq_false_iff, Bool.true_and, beq_eq_false_iff_ne] at h
    simp only [List.head?_cons, ne_eq, Option.some.injEq]
    exact h.1.2
/-- The first text begins with no blank. -/
theorem sp_first : ∀ (l : List TNode) (p : Bool), apartL p l = true → ∀ x, (spL true l).1.head? = some x → x.text = [] ∨ x.text.head? ≠ some 32
  | [], _, _, x, hx => by rw [spL] at hx; cases hx
  | t :: l, p, h, x, hx => by
    rw [apartL] at h
    simp only [Bool.and_eq_true] at h
    obtain ⟨g1, g2⟩ := apartN_ways _ h.1.2
    rw [spL] at hx
    by_cases hn : t.name = []
    · rw [spN_text _ _ hn] at hx
      by_cases h0 : spT true t.text = []
      · rw [if_pos h0] at hx
        exact sp_first l _ h.2 x hx
      · rw [if_neg h0] at hx
        cases hx
        exact .inr (sgl_head _ (sgl_spT _ _))
    · rw [spN_elem _ _ hn] at hx
      cases hx
      exact .inl (g2 hn).1

theorem spT_letters : ∀ (l : Bytes) (a : Bool), (spT a l).filter (fun c => c != 32) = l.filter (fun c => !isSp c)
  | [], _ => rfl
  | c :: r, a => by
    rw [spT, List.filter_cons]
    cases hc : isSp c with
    | true =>
      cases a with
      | true => exact spT_letters r true
      | false =>
        show (32 :: spT true r).filter _ = r.filter _
        rw [List.filter_cons]
        exact spT_letters r true
    | false =>
      obtain ⟨h1, _⟩ := isSp_no hc
      show (c :: spT false r).filter _ = c :: r.filter _
      rw [List.filter_cons, if_pos (by simpa using h1), spT_letters r false]
mutual
theorem spN_letters : ∀ (t : TNode) (a : Bool), apartN t = true → (wordsL (spN a t).1).filter (fun c => c != 32) = (wordsN t).filter (fun c => !isSp c)
  | .mk n ats tx ps, a, h => by
    obtain ⟨g1, g2⟩ := apartN_ways _ h
    by_cases hn : n = []
    · subst hn
      have hp : ps = [] := (g1 rfl).2.1
      subst hp
      rw [spN, if_pos rfl, wordsN, wordsL, List.append_nil, ← spT_letters tx a]
      by_cases h0 : spT a tx = []
      · rw [if_pos h0, h0, wordsL]
      · rw [if_neg h0, wordsL, wordsL, wordsN, wordsL, List.append_nil, List.append_nil]
    · obtain ⟨q1, q2⟩ := g2 hn
      have q1' : tx = [] := q1
      subst q1'
      rw [spN, if_neg hn, wordsL, wordsL, wordsN, wordsN, List.append_nil, List.nil_append, List.nil_append, spL_letters ps _ false q2]
theorem spL_letters : ∀ (l : List TNode) (a p : Bool), apartL p l = true → (wordsL (spL a l).1).filter (fun c => c != 32) = (wordsL l).filter (fun c => !isSp c)
  | [], a, _, _ => by rw [spL, wordsL]; rfl
  | t :: l, a, p, h => by
    rw [apartL] at h
    simp only [Bool.and_eq_true] at h
    rw [spL, wordsL_append, List.filter_append, spN_letters t a h.1.2, spL_letters l _ _ h.2, wordsL, List.filter_append]
end

/- Elements, and those of a name. -/
mutual
def cntN (s : Bytes) : TNode → Nat × Nat
  | .mk n _ _ ps => if n = [] then (0, 0) else ((cntL s ps).1 + 1, (cntL s ps).2 + if n = s then 1 else 0)
def cntL (s : Bytes) : List TNode → Nat × Nat
  | [] => (0, 0)
  | t :: ts => ((cntN s t).1 + (cntL s ts).1, (cntN s t).2 + (cntL s ts).2)
end
theorem cntL_append (s : Bytes) : ∀ (a b : List TNode), cntL s (a ++ b) = ((cntL s a).1 + (cntL s b).1, (cntL s a).2 + (cntL s b).2)
  | [], b => by rw [cntL]; simp
  | t :: a, b => by rw [List.cons_append, cntL, cntL_append s a b, cntL]; simp only [Nat.add_assoc]
mutual
theorem cntN_le (s : Bytes) : ∀ t : TNode, (cntN s t).1 ≤ countN t ∧ (cntN s t).2 ≤ countN t
  | .mk n a tx ps => by
    have := cntL_le s ps
    rw [cntN, countN]
    split
    · simp
    · refine ⟨by omega, ?_⟩
      show (cntL s ps).2 + (if n = s then 1 else 0) ≤ _
      split <;> omega
theorem cntL_le (s : Bytes) : ∀ l : List TNode, (cntL s l).1 ≤ countL l ∧ (cntL s l).2 ≤ countL l
  | [] => by rw [cntL]; simp
  | t :: l => by
    have h1 := cntN_le s t
    have h2 := cntL_le s l
    rw [cntL, countL]
    exact ⟨by omega, by omega⟩
end
theorem cntL_take (s : Bytes) (l : List TNode) (k : Nat) (t : TNode) (h : l[k]? = some t) : cntL s (l.take (k + 1)) = ((cntL s (l.take k)).1 + (cntN s t).1, (cntL s (l.take k)).2 + (cntN s t).2) := by
  rw [List.take_add_one, h, cntL_append]
  show (_ + (cntL s [t]).1, _ + (cntL s [t]).2) = _
  rw [cntL, cntL]; simp
theorem cntN_text (s : Bytes) (t : TNode) (h : t.name = []) : cntN s t = (0, 0) := by
  obtain ⟨n, a, tx, ps⟩ := t
  rw [cntN, if_pos (show n = [] from h)]
theorem cntN_elem (s : Bytes) (t : TNode) (h : t.name ≠ []) : cntN s t = ((cntL s t.parts).1 + 1, (cntL s t.parts).2 + if t.name = s then 1 else 0) := by
  obtain ⟨n, a, tx, ps⟩ := t
  rw [cntN, if_neg (show ¬ n = [] from h)]; rfl
mutual
theorem spN_cnt (s : Bytes) : ∀ (t : TNode) (a : Bool), cntL s (spN a t).1 = cntN s t
  | .mk n ats tx ps, a => by
    by_cases hn : n = []
    · subst hn
      rw [spN, if_pos rfl, cntN, if_pos rfl]
      split
      · rw [cntL]
      · rw [cntL, cntL, cntN, if_pos rfl]
        rfl
    · rw [spN, if_neg hn, cntL, cntL, cntN, if_neg hn, cntN, if_neg hn, spL_cnt s ps]; simp
theorem spL_cnt (s : Bytes) : ∀ (l : List TNode) (a : Bool), cntL s (spL a l).1 = cntL s l
  | [], a => by rw [spL]
  | t :: l, a => by rw [spL, cntL_append, spN_cnt s t a, spL_cnt s l, cntL]
end
mutual
theorem spN_count : ∀ (t : TNode) (a : Bool), countL (spN a t).1 ≤ countN t
  | .mk n ats tx ps, a => by
    rw [spN, countN]
    split
    · split
      · rw [countL]; omega
      · rw [countL, countL, countN, countL]; omega
    · have := spL_count ps (a || isBlk n)
      rw [countL, countL, countN]; omega
theorem spL_count : ∀ (l : List TNode) (a : Bool), countL (spL a l).1 ≤ countL l
  | [], a => by rw [spL, countL]; exact Nat.le_refl _
  | t :: l, a => by
    have h1 := spN_count t a
    have h2 := spL_count l (spN a t).2
    rw [spL, countL_append, countL]; omega
end
mutual
theorem spN_words : ∀ (t : TNode) (a : Bool), (wordsL (spN a t).1).length ≤ (wordsN t).length
  | .mk n ats tx ps, a => by
    rw [spN, wordsN]
    split
    · have := spT_len tx a
      split
      · rw [wordsL]; simp
      · rw [wordsL, wordsL, wordsN, wordsL]; simp; omega
    · have := spL_words ps (a || isBlk n)
      rw [wordsL, wordsL, wordsN]; simp; omega
theorem spL_words : ∀ (l : List TNode) (a : Bool), (wordsL (spL a l).1).length ≤ (wordsL l).length
  | [], a => by rw [spL]; exact Nat.le_refl _
  | t :: l, a => by
    have h1 := spN_words t a
    have h2 := spL_words l (spN a t).2
    rw [spL, wordsL_append, wordsL, List.length_append, List.length_append]; omega
end

end Go.Proofs.YtemomhanchiipaaGreatDoor
/- Sizes of trees that are built, and of what space makes of them. Nothing of the program here. -/
namespace Go.Proofs.YtemomhanchiipaaGreatDoor

mutual
def SmN : TNode → Prop
  | .mk _ a t ps => (True ∧ t.length ≤ 1000000 ∧ a.length ≤ 1000000 ∧ True) ∧ SmL ps
def SmL : List TNode → Prop
  | [] => True
  | t :: ts => SmN t ∧ SmL ts
end
theorem SmL.mem : ∀ {l : List TNode}, SmL l → ∀ t ∈ l, SmN t
  | [], _, t, ht => by cases ht
  | x :: l, h, t, ht => by
    rw [SmL] at h
    rcases List.mem_cons.1 ht with rfl | ht
    · exact h.1
    · exact SmL.mem h.2 t ht
theorem SmL.append : ∀ {l m : List TNode}, SmL l → SmL m → SmL (l ++ m)
  | [], _, _, h => h
  | x :: l, m, h, h2 => by
    rw [SmL] at h
    rw [List.cons_append, SmL]
    exact ⟨h.1, SmL.append h.2 h2⟩
theorem SmN.all {t : TNode} (h : SmN t) : (True ∧ t.text.length ≤ 1000000 ∧ t.attrs.length ≤ 1000000 ∧ True) ∧ SmL t.parts := by
  obtain ⟨n, a, s, ps⟩ := t
  rw [SmN] at h
  exact h
mutual
theorem SzN.sm : ∀ {t : TNode}, SzN t → SmN t
  | .mk n a t ps, h => by
    rw [SzN] at h
    rw [SmN]
    exact ⟨⟨trivial, by omega, by omega, trivial⟩, SzL.sm h.2⟩
theorem SzL.sm : ∀ {l : List TNode}, SzL l → SmL l
  | [], _ => by rw [SmL]; trivial
  | t :: l, h => by
    rw [SzL] at h
    rw [SmL]
    exact ⟨SzN.sm h.1, SzL.sm h.2⟩
end
mutual
theorem spN_sm : ∀ (t : TNode) (a : Bool), SmN t → SmL (spN a t).1
  | .mk n ats tx ps, a, h => by
    rw [SmN] at h
    rw [spN]
    split
    · split
      · rw [SmL]; trivial
      · have := spT_len tx a
        have h2 := h.1.2.1
        rw [SmL, SmL, SmN, SmL]
        exact ⟨⟨⟨trivial, by omega, by show 0 ≤ 1000000; omega, trivial⟩, trivial⟩, trivial⟩
    · rw [SmL, SmL, SmN]
      exact ⟨⟨⟨trivial, h.1.2.1, h.1.2.2.1, trivial⟩, spL_sm ps _ h.2⟩, trivial⟩
theorem spL_sm : ∀ (l : List TNode) (a : Bool), SmL l → SmL (spL a l).1
  | [], a, _ => by rw [spL, SmL]; trivial
  | t :: l, a, h => by
    rw [SmL] at h
    rw [spL]
    exact (spN_sm t a h.1).append (spL_sm l _ h.2)
end

/- How many attributes a node has. -/
mutual
def AtN (m : Nat) : TNode → Prop
  | .mk _ a _ ps => a.length ≤ m ∧ AtL m ps
def AtL (m : Nat) : List TNode → Prop
  | [] => True
  | t :: ts => AtN m t ∧ AtL m ts
end
theorem AtL.append {m : Nat} : ∀ {l k : List TNode}, AtL m l → AtL m k → AtL m (l ++ k)
  | [], _, _, h => h
  | x :: l, k, h, h2 => by
    rw [AtL] at h
    rw [List.cons_append, AtL]
    exact ⟨h.1, AtL.append h.2 h2⟩
theorem AtL.left {m : Nat} : ∀ {l k : List TNode}, AtL m (l ++ k) → AtL m l ∧ AtL m k
  | [], _, h => ⟨by rw [AtL]; trivial, h⟩
  | x :: l, k, h => by
    rw [List.cons_append, AtL] at h
    have := AtL.left h.2
    exact ⟨by rw [AtL]; exact ⟨h.1, this.1⟩, this.2⟩
theorem AtL.one {m : Nat} {t : TNode} (h : AtN m t) : AtL m [t] := by rw [AtL, AtL]; exact ⟨h, trivial⟩
theorem AtN.elem {m : Nat} {n : Bytes} {a : List TAttr} {ps : List TNode} (h : a.length ≤ m) (hp : AtL m ps) : AtN m (tElem n a ps) := by unfold tElem; rw [AtN]; exact ⟨h, hp⟩
theorem AtL.nil {m : Nat} : AtL m [] := by rw [AtL]; trivial
def PAt (m : Nat) (l : List Fr) : Prop := match l with
  | [] => True
  | f :: _ => f.attrs.length ≤ m ∧ AtL m f.done
theorem stable_at (m : Nat) : Stable (PAt m) := ⟨fun _ _ _ h1 h2 => ⟨h2.1, h2.2.append (.one (.elem h1.1 h1.2))⟩⟩
theorem at_text {m : Nat} {l : List TNode} {s : Bytes} (h : AtL m l) : AtL m (addText l s) := by
  unfold addText
  split
  · rename_i a t ps he
    obtain ⟨l', rfl⟩ : ∃ l', l = l' ++ [TNode.mk [] a t ps] := by
      rcases List.eq_nil_or_concat l with rfl | ⟨l', x, rfl⟩
      · simp at he
      · rw [List.concat_eq_append] at *
        rw [List.getLast?_append] at he
        simp at he
        exact ⟨l', by rw [he]⟩
    rw [List.dropLast_concat]
    obtain ⟨h1, h2⟩ := h.left
    rw [AtL, AtL, AtN] at h2
    exact h1.append (.one (by rw [AtN]; exact h2.1))
  · exact h.append (.one (by unfold tText; rw [AtN]; exact ⟨by simp, .nil⟩))
theorem at_step (m : Nat) (b : BSt) (t : TTok) (h : Frames (PAt m) b.stack) (hn : t.attrs.length ≤ m) : Frames (PAt m) (stepM b t).stack := by
  refine frames_step (stable_at m) b t h (fun s _ _ _ _ => ?_) (fun f r hf _ _ _ => ?_) (fun f r hf _ _ _ => ?_)
  · exact ⟨hn, .nil⟩
  · exact ⟨hf.head.1, hf.head.2.append (.one (.elem hn .nil))⟩
  · exact ⟨hf.head.1, at_text hf.head.2⟩
theorem build_at (m : Nat) (l : List TTok) (hn : ∀ t ∈ l, t.attrs.length ≤ m) : AtL m (buildM l) := by
  have h := steps_keep_of (fun b => Frames (PAt m) b.stack) (.root _ ⟨by simp, .nil⟩) l (fun b t ht hb => at_step m b t hb (hn t ht))
  obtain ⟨f, h1, h2⟩ := rootDone_of (stable_at m) h
  unfold buildM
  rw [h2]
  exact h1.2
theorem words_build (l : List TTok) : (wordsL (buildM l)).length ≤ textSum l := by
  have h1 := wordsS_len l initM
  have h3 : (wordsS initM.stack).length = 0 := rfl
  unfold buildM rootDone
  have h2 := wordsS_popN ((stepsM l).stack.length - 1) (stepsM l).stack
  have h4 : (wordsS (stepsM l).stack).length ≤ textSum l := by unfold stepsM; omega
  rw [← h2] at h4
  generalize popN ((stepsM l).stack.length - 1) (stepsM l).stack = s at *
  cases s with
  | nil => show (wordsL []).length ≤ _; rw [wordsL]; simp
  | cons f r =>
    have h5 : wordsS (f :: r) = wordsS r ++ wordsL f.done := rfl
    rw [h5, List.length_append] at h4
    show (wordsL f.done).length ≤ _
    omega
mutual
theorem smN_of : ∀ (t : TNode), AtN 1000000 t → (wordsN t).length ≤ 1000000 → SmN t
  | .mk n a t ps, h, hw => by
    rw [AtN] at h
    rw [wordsN, List.length_append] at hw
    rw [SmN]
    exact ⟨⟨trivial, by omega, h.1, trivial⟩, smL_of ps h.2 (by omega)⟩
theorem smL_of : ∀ (l : List TNode), AtL 1000000 l → (wordsL l).length ≤ 1000000 → SmL l
  | [], _, _ => by rw [SmL]; trivial
  | t :: l, h, hw => by
    rw [AtL] at h
    rw [wordsL, List.length_append] at hw
    rw [SmL]
    exact ⟨smN_of t h.1 (by omega), smL_of l h.2 (by omega)⟩
end
theorem build_sm (l : List TTok) (h : BuildOk l) : SmL (buildM l) ∧ (wordsL (buildM l)).length ≤ 100000 := by
  have h1 := words_build l
  have h2 := h.texts
  exact ⟨smL_of _ (build_at _ l h.attrs) (by omega), by omega⟩

end Go.Proofs.YtemomhanchiipaaGreatDoor
/- Walks of space: space, Text, block. -/
namespace Go.Proofs.YtemomhanchiipaaGreatDoor
open Go Go.RowKit

theorem space_any (c : UInt8) (w : World) :
    Calls Tryz.prog 73 #[.int .u8 c.toNat] w fun e w' => e = .returned (.bool (isSp c)) ∧ w = w' := by
  have hc := c.toNat_lt
  have e1 : (c == 32) = ((c.toNat : Int) == 32) := by
    rw [Bool.eq_iff_iff, beq_iff_eq, beq_iff_eq, ← UInt8.toNat_inj]
    show c.toNat = 32 ↔ _; omega
  have e2 : (c == 9) = ((c.toNat : Int) == 9) := by
    rw [Bool.eq_iff_iff, beq_iff_eq, beq_iff_eq, ← UInt8.toNat_inj]
    show c.toNat = 9 ↔ _; omega
  have e3 : (c == 10) = ((c.toNat : Int) == 10) := by
    rw [Bool.eq_iff_iff, beq_iff_eq, beq_iff_eq, ← UInt8.toNat_inj]
    show c.toNat = 10 ↔ _; omega
  have e4 : (c == 12) = ((c.toNat : Int) == 12) := by
    rw [Bool.eq_iff_iff, beq_iff_eq, beq_iff_eq, ← UInt8.toNat_inj]
    show c.toNat = 12 ↔ _; omega
  have hall : ∀ b1 b2 b3 b4 : Bool, ((c.toNat : Int) == 32) = b1 → ((c.toNat : Int) == 9) = b2 → ((c.toNat : Int) == 10) = b3 → ((c.toNat : Int) == 12) = b4 →
      Calls Tryz.prog 73 #[.int .u8 c.toNat] w fun e w' => e = .returned (.bool (b1 || b2 || b3 || b4)) ∧ w = w' := by
    intro b1 b2 b3 b4 h1 h2 h3 h4
    clear e1 e2 e3 e4
    cases b1 <;> cases b2 <;> cases b3 <;> cases b4
    all_goals
      go_enter Tryz.func73, Tryz.ntmps73
      go_wp2_with fail
      go_ret
      exact ⟨rfl, rfl⟩
  unfold isSp
  rw [e1, e2, e3, e4]
  exact hall _ _ _ _ rfl rfl rfl rfl

/-- What stands behind a text: a blank? -/
def spA : Bool → Bytes → Bool
  | a, [] => a
  | _, c :: r => spA (isSp c) r
theorem spA_append : ∀ (l m : Bytes) (a : Bool), spA a (l ++ m) = spA (spA a l) m
  | [], _, _ => rfl
  | c :: l, m, _ => spA_append l m (isSp c)
theorem spT_append : ∀ (l m : Bytes) (a : Bool), spT a (l ++ m) = spT a l ++ spT (spA a l) m
  | [], _, _ => rfl
  | c :: l, m, a => by
    rw [List.cons_append, spT, spT, spA]
    cases hc : isSp c with
    | true =>
      cases a with
      | true => exact spT_append l m true
      | false =>
        show 32 :: spT true (l ++ m) = (32 :: spT true l) ++ spT (spA true l) m
        rw [spT_append l m true]; rfl
    | false =>
      show c :: spT false (l ++ m) = (c :: spT false l) ++ spT (spA false l) m
      rw [spT_append l m false]; rfl
theorem spA_take (l : Bytes) (i : Nat) (c : UInt8) (a : Bool) (h : l[i]? = some c) : spA a (l.take (i + 1)) = isSp c := by
  rw [List.take_add_one, h, spA_append]; rfl
theorem spT_take (l : Bytes) (i : Nat) (c : UInt8) (a : Bool) (h : l[i]? = some c) : spT a (l.take (i + 1)) = spT a (l.take i) ++ (if isSp c then (if spA a (l.take i) then [] else [32]) else [c]) := by
  rw [List.take_add_one, h, spT_append]
  congr 1

set_option maxHeartbeats 4000000 in
set_option maxRecDepth 100000 in
theorem sptext_any (s : Bytes) (a : Bool) (hsz : s.length ≤ 1000000) (w : World) :
    Calls Tryz.prog 52 #[.string (mk s), .bool a] w fun e w' => e = .returned (.string (mk (spT a s))) ∧ Below w.heap.size w w' := by
  have HB0 := Lib.hid (Bld.fresh w)
  have hsm : (mk s).size = s.length := mk_size s
  have HSM := Lib.hid hsm
  clear hsm
  go_enter Tryz.func52, Tryz.ntmps52
  go_wp2
  go_loopw [1, 9] (fun va vi wr => ∃ (i : Nat), i ≤ s.length ∧ vi = .int .i64 i ∧ va = .bool (spA a (s.take i)) ∧ Hid (Bld w.heap.size w.heap.size (spT a (s.take i)) wr) ∧ Hid (Below w.heap.size w wr)) (fun _ vi _ => s.length - (intOf vi).toNat)
  case atStart => exact ⟨0, Nat.zero_le _, rfl, rfl, HB0, Lib.hid ((Below.refl _ _).alloc (Nat.le_refl _) _)⟩
  case round =>
    obtain ⟨i, hi, rfl, rfl, HB, HW⟩ := hrel
    have hz := HW.out.size
    by_cases hlt : i < s.length
    · have hlt2 : i < (mk s).size := by rw [HSM.out]; exact hlt
      obtain ⟨c, hc⟩ : ∃ c, (mk s)[i]'hlt2 = c := ⟨_, rfl⟩
      have hci : s[i]? = some c := by
        have h := lst_get (mk s) i hlt2
        rw [lst_mk, hc] at h
        exact h
      have HST := Lib.hid (spT_take s i c a hci)
      have HSA := Lib.hid (spA_take s i c a hci)
      have hol := spT_len (s.take i) a
      have htl : (s.take i).length ≤ 1000000 := by rw [List.length_take]; omega
      generalize spT a (s.take i) = out at *
      generalize spA a (s.take i) = ah at *
      have hout : out.length ≤ 1000000 := by omega
      have hc256 := c.toNat_lt
      have k0 : (0 : Int) ≤ i := by omega
      have k1 : (i : Int) < (mk s).size := by omega
      have HSP := Lib.hid (space_any c wr)
      have HBy := Lib.hid (bByte w.heap.size w.heap.size out (c.toNat : Int) c rfl wr HB.out (by omega) hz)
      have HBz := Lib.hid (bByte w.heap.size w.heap.size out 32 32 rfl wr HB.out (by omega) hz)
      clear hci hol htl
      cases hs : isSp c with
      | false =>
        have HST2 := Lib.hid (show spT a (s.take (i + 1)) = out ++ [c] by rw [HST.out, hs]; rfl)
        rw [hs] at HSP HSA
        clear hs HBz
        go_wp2_with fail
        refine HSP.out.mono ?_
        rintro e w2 ⟨rfl, hw⟩
        rw [← hw]
        clear hw
        go_wp2_with fail
        refine HBy.out.mono ?_
        rintro e w3 ⟨rfl, hB3, hb3, hk3⟩
        have HB3 := Lib.hid hB3
        have HW3 := Lib.hid (HW.out.trans hb3)
        clear hB3 hb3 hk3
        go_wp2_with fail
        go_roundw
        case rel => exact ⟨i + 1, by omega, by go_num, by rw [HSA.out], by rw [HST2.out]; exact HB3, HW3⟩
        case measure => simp [intOf]; omega
      | true =>
        rw [hs] at HSP HSA
        cases ah with
        | true =>
          have HST2 := Lib.hid (show spT a (s.take (i + 1)) = out by rw [HST.out, hs]; exact List.append_nil _)
          clear hs HBz HBy
          go_wp2_with fail
          refine HSP.out.mono ?_
          rintro e w2 ⟨rfl, hw⟩
          rw [← hw]
          clear hw
          go_wp2_with fail
          go_roundw
          case rel => exact ⟨i + 1, by omega, by go_num, by rw [HSA.out], by rw [HST2.out]; exact HB, HW⟩
          case measure => simp [intOf]; omega
        | false =>
          have HST2 := Lib.hid (show spT a (s.take (i + 1)) = out ++ [32] by rw [HST.out, hs]; rfl)
          clear hs HBy
          go_wp2_with fail
          refine HSP.out.mono ?_
          rintro e w2 ⟨rfl, hw⟩
          rw [← hw]
          clear hw
          go_wp2_with fail
          refine HBz.out.mono ?_
          rintro e w3 ⟨rfl, hB3, hb3, hk3⟩
          have HB3 := Lib.hid hB3
          have HW3 := Lib.hid (HW.out.trans hb3)
          clear hB3 hb3 hk3
          go_wp2_with fail
          go_roundw
          case rel => exact ⟨i + 1, by omega, by go_num, by rw [HSA.out], by rw [HST2.out]; exact HB3, HW3⟩
          case measure => simp [intOf]; omega
    · obtain rfl : i = s.length := by omega
      rw [List.take_length] at HB
      have HS := Lib.hid (bString w.heap.size w.heap.size _ wr HB.out hz)
      have k1 : ¬ ((s.length : Int) < (mk s).size) := by rw [HSM.out]; omega
      have k2 : ¬ (s.length < (mk s).size) := by rw [HSM.out]; omega
      go_wp2_with fail
      refine HS.out.mono ?_
      rintro e w1 ⟨rfl, _, hb1, _⟩
      have HW1 := Lib.hid (HW.out.trans hb1)
      clear hb1
      go_wp2_with fail
      go_ret
      exact ⟨rfl, HW1.out⟩

set_option maxHeartbeats 1000000 in
theorem block_any (n : Bytes) (w : World) :
    Calls Tryz.prog 71 #[.string (mk n)] w fun e w' => e = .returned (.bool (isBlk n)) ∧ Below w.heap.size w w' := by
  obtain ⟨w1, hw1⟩ : ∃ w1, w1 = w.alloc (.cells #[.string ⟨#[112]⟩, .string ⟨#[100, 105, 118]⟩, .string ⟨#[117, 108]⟩, .string ⟨#[111, 108]⟩, .string ⟨#[108, 105]⟩, .string ⟨#[104, 49]⟩, .string ⟨#[104, 50]⟩, .string ⟨#[116, 97, 98, 108, 101]⟩, .string ⟨#[98, 108, 111, 99, 107, 113, 117, 111, 116, 101]⟩, .string ⟨#[98, 114]⟩, .string ⟨#[104, 114]⟩] 9) := ⟨_, rfl⟩
  have hb1 : Below w.heap.size w w1 := by rw [hw1]; exact (Below.refl _ _).alloc (Nat.le_refl _) _
  have hat : StrAt w1 w.heap.size sBlocks := by
    intro i s hi
    have h := heap_alloc_new w (.cells #[.string ⟨#[112]⟩, .string ⟨#[100, 105, 118]⟩, .string ⟨#[117, 108]⟩, .string ⟨#[111, 108]⟩, .string ⟨#[108, 105]⟩, .string ⟨#[104, 49]⟩, .string ⟨#[104, 50]⟩, .string ⟨#[116, 97, 98, 108, 101]⟩, .string ⟨#[98, 108, 111, 99, 107, 113, 117, 111, 116, 101]⟩, .string ⟨#[98, 114]⟩, .string ⟨#[104, 114]⟩] 9)
    rw [← hw1] at h
    rw [Lib.cell_of_heap h]
    match i, hi with
    | 0, hi => cases hi; rfl
    | 1, hi => cases hi; rfl
    | 2, hi => cases hi; rfl
    | 3, hi => cases hi; rfl
    | 4, hi => cases hi; rfl
    | 5, hi => cases hi; rfl
    | 6, hi => cases hi; rfl
    | 7, hi => cases hi; rfl
    | 8, hi => cases hi; rfl
    | 9, hi => cases hi; rfl
    | 10, hi => cases hi; rfl
    | i + 11, hi => simp [sBlocks] at hi
  have HC := Lib.hid (strContains_any w.heap.size 11 sBlocks n (by decide) w1 hat)
  rw [show sBlocks.contains n = isBlk n from rfl] at HC
  have HB1 := Lib.hid hb1
  have HW1 := Lib.hid hw1
  clear hb1 hat hw1
  go_enter Tryz.func71, Tryz.ntmps71
  go_wp2_with fail
  rw [← HW1.out]
  refine HC.out.mono ?_
  rintro e w2 ⟨rfl, hw⟩
  rw [← hw]
  clear hw
  go_wp2_with fail
  go_ret
  exact ⟨rfl, HB1.out⟩

end Go.Proofs.YtemomhanchiipaaGreatDoor
/- Walk of space's walker over nodes. -/
namespace Go.Proofs.YtemomhanchiipaaGreatDoor
open Go Go.RowKit

/-- The walker's block. -/
def WBox (w : World) (wb : Nat) (a : Bool) : Prop := w.heap[wb]? = some (.cells #[.bool a] 96 (0, 0))
/-- A node in a block of its own. -/
def NBox (w : World) (b : Nat) (n t : Bytes) (av pv : Value) : Prop := w.heap[b]? = some (.cells #[.string (mk n), av, .string (mk t), pv] 35 (0, 0))
theorem NBox.cells {w : World} {b : Nat} {n t : Bytes} {av pv : Value} (h : NBox w b n t av pv) : w.cell? ⟨b, 0, none⟩ = some (.string (mk n)) ∧ w.cell? ⟨b, 1, none⟩ = some av ∧ w.cell? ⟨b, 2, none⟩ = some (.string (mk t)) ∧ w.cell? ⟨b, 3, none⟩ = some pv ∧ ∀ o, w.frozen? ⟨b, o, none⟩ = false :=
  ⟨by rw [Lib.cell_of_heap h]; rfl, by rw [Lib.cell_of_heap h]; rfl, by rw [Lib.cell_of_heap h]; rfl, by rw [Lib.cell_of_heap h]; rfl, fun o => Lib.frozen_of_heap h o⟩
theorem WBox.cells {w : World} {wb : Nat} {a : Bool} (h : WBox w wb a) : w.cell? ⟨wb, 0, none⟩ = some (.bool a) ∧ w.frozen? ⟨wb, 0, none⟩ = false := ⟨by rw [Lib.cell_of_heap h]; rfl, Lib.frozen_of_heap h 0⟩
theorem WBox.set {w : World} {wb : Nat} {a b : Bool} (h : WBox w wb a) : WBox (w.setCell ⟨wb, 0, none⟩ (.bool b)) wb b := by
  unfold WBox at h ⊢
  simp [World.setCell, Array.getElem?_modify, h]

section
variable {wb : Nat} {w w' : World} {a : Bool}
theorem AttrView.only {va : Value} {l : List TAttr} (h : AttrView w va l) (hw : WBox w wb a) (ho : Only wb w w') : AttrView w' va l :=
  h.stay fun g _ hg => ho.block g (lt_of_block hg) (fun e => type_ne hg hw (by decide) e)
theorem NodeIn.only {P : Nat → Prop} {d : Nat} {v : Value} {l : List TNode} (h : NodeIn P d w v l) (hw : WBox w wb a) (ho : Only wb w w') : NodeIn P d w' v l :=
  h.stay (fun g _ hg => ho.block g (lt_of_block hg) (fun e => type_ne hg hw (by decide) e)) fun g _ hp hg => ⟨hp, ho.block g (lt_of_block hg) (fun e => type_ne hg hw (by decide) e)⟩
theorem NodeOwn.only {d B : Nat} {v : Value} {l : List TNode} (h : NodeOwn d B w v l) (hw : WBox w wb a) (ho : Only wb w w') : NodeOwn d B w' v l := by
  obtain ⟨ps, h1, h2, h3⟩ := h
  exact ⟨ps, h1, ownsRow_kept h2 fun g c _ hg => (ho.block g (lt_of_block hg) (fun e => type_ne hg hw (by decide) e)).trans hg, fun p hp => ⟨(h3 p hp).1.only hw ho, (h3 p hp).2.only hw ho⟩⟩
theorem NBox.only {b : Nat} {n t : Bytes} {av pv : Value} (h : NBox w b n t av pv) (hw : WBox w wb a) (ho : Only wb w w') : NBox w' b n t av pv :=
  (ho.block b (lt_of_block h) (fun e => type_ne h hw (by decide) e)).trans h
theorem WBox.below {B : Nat} (h : WBox w wb a) (hb : Below B w w') (hl : wb < B) : WBox w' wb a := (hb.block wb hl).trans h
theorem Only.alloc (h : Only wb w w') (o : Obj) : Only wb w (w'.alloc o) := Kept.alloc h h.size o
theorem Only.setW (h : Only wb w w') (v : Value) : Only wb w (w'.setCell ⟨wb, 0, none⟩ v) := Kept.setCell h (.inl rfl) v
theorem Only.setN (h : Only wb w w') {b o : Nat} (hb : w.heap.size ≤ b) (v : Value) : Only wb w (w'.setCell ⟨b, o, none⟩ v) := Kept.setCell (p := ⟨b, o, none⟩) h (.inr hb) v
end
theorem NBox.set1 {w : World} {b : Nat} {n t : Bytes} {av pv : Value} (h : NBox w b n t av pv) (v : Value) : NBox (w.setCell ⟨b, 1, none⟩ v) b n t v pv := by
  unfold NBox at h ⊢; simp [World.setCell, Array.getElem?_modify, h]
theorem NBox.set2 {w : World} {b : Nat} {n t : Bytes} {av pv : Value} (h : NBox w b n t av pv) (s : Bytes) : NBox (w.setCell ⟨b, 2, none⟩ (.string (mk s))) b n s av pv := by
  unfold NBox at h ⊢; simp [World.setCell, Array.getElem?_modify, h]
theorem NBox.set3 {w : World} {b : Nat} {n t : Bytes} {av pv : Value} (h : NBox w b n t av pv) (v : Value) : NBox (w.setCell ⟨b, 3, none⟩ v) b n t av v := by
  unfold NBox at h ⊢; simp [World.setCell, Array.getElem?_modify, h]
/-- A store into another block. -/
theorem heap_other {w : World} {p : Addr} {v : Value} {k : Nat} (hk : k ≠ p.block) : (w.setCell p v).heap[k]? = w.heap[k]? := Below.heap_setCell _ _ _ _ hk

theorem suffix_ends (T : Bytes) : Lib.hasSuffix (mk T).data.toList (⟨#[32]⟩ : ByteArray).data.toList = endsSp T := by
  show ([32] : List UInt8).isSuffixOf (lst (mk T)) = endsSp T
  rw [lst_mk]
  unfold endsSp
  rcases List.eq_nil_or_concat T with h | ⟨l, c, h⟩
  · subst h; rfl
  · subst h
    rw [List.concat_eq_append, show (l ++ [c]).getLast? = some c by simp]
    rw [Bool.eq_iff_iff, List.isSuffixOf_iff_suffix]
    constructor
    · rintro ⟨m, hm⟩
      have := congrArg List.getLast? hm
      simp at this
      simp [← this]
    · intro h
      have : c = 32 := by simpa using h
      exact ⟨l, by rw [this]⟩
/-- Behind an element no text is last. -/
theorem sp_last (a : Bool) (l : List TNode) (k : Nat) (t x : TNode) (p : Bool) (hap : apartL p l = true) (ht : l[k]? = some t) (hn : t.name = []) (hx : (spL a (l.take k)).1.getLast? = some x) : x.name ≠ [] := by
  cases k with
  | zero => rw [List.take_zero, spL] at hx; cases hx
  | succ j =>
    obtain ⟨g1, _⟩ := apart_get l p (j + 1) t hap ht
    obtain ⟨_, _, g3⟩ := g1 hn
    obtain ⟨u, hu⟩ : ∃ u, l[j]? = some u := ⟨_, List.getElem?_eq_getElem (by have := (List.getElem?_eq_some_iff.1 ht).1; omega)⟩
    have h1 := g3 j u rfl hu
    rw [spN_last a l j u x hu h1 hx]
    exact h1

set_option maxHeartbeats 8000000 in
set_option maxRecDepth 100000 in
theorem spnodes_any : ∀ (d : Nat) (v : Value) (l : List TNode) (a p : Bool) (wb : Nat) (w : World), NodeView d w v l → countL l ≤ 1000000 → SmL l → apartL p l = true → WBox w wb a →
    Calls Tryz.prog 51 #[.pointer (some ⟨wb, 0, none⟩), v] w fun e w' => ∃ ov, e = .returned ov ∧ NodeOwn d w.heap.size w' ov (spL a l).1 ∧ WBox w' wb (spL a l).2 ∧ Only wb w w' := by
  intro d
  induction d using Nat.strongRecOn with
  | _ d ih =>
  intro v l a p wb w hv hct hsz hap hwb
  obtain ⟨va, cap, rfl⟩ := hv.form
  have hln := Nat.le_trans (len_countL l) hct
  have hwl := lt_of_block hwb
  have HIH := Lib.hid ih
  have HV := Lib.hid hv
  have HCT := Lib.hid hct
  have HSZ := Lib.hid hsz.mem
  have HAP := Lib.hid hap
  have HWB := Lib.hid hwb
  clear ih hv hct hsz hap hwb
  go_enter Tryz.func51, Tryz.ntmps51
  go_wp2_with fail
  go_loopg [5, 12] l.length (fun g ov i wx => ∃ (W : World) (k : Nat), W = wx ∧ k + g = l.length ∧ i = .int .i64 k ∧ Hid (NodeOwn d w.heap.size wx ov (spL a (l.take k)).1) ∧ Hid (WBox wx wb (spL a (l.take k)).2) ∧ Hid (Only wb w wx))
  case atStart => exact ⟨_, 0, rfl, by omega, rfl, Lib.hid (by rw [List.take_zero, spL]; exact NodeOwn.nil _ _ _), by rw [List.take_zero, spL]; exact HWB, Lib.hid (Kept.refl _ _ _)⟩
  case round =>
    obtain ⟨W, k, rfl, hk, rfl, hO, hWB, hOn⟩ := hrel
    by_cases hlt : k < l.length
    · obtain ⟨m, rfl⟩ : ∃ m, gk = m + 1 := ⟨gk - 1, by omega⟩
      obtain ⟨t, ht⟩ : ∃ t, l[k]? = some t := ⟨_, List.getElem?_eq_getElem hlt⟩
      have hst := spL_take l k t a ht
      have hlast := fun x hn hx => sp_last a l k t x p HAP.out ht hn hx
      have hspl := spL_len (l.take k) a
      have htk : (l.take k).length ≤ l.length := by rw [List.length_take]; omega
      obtain ⟨d', hd', g, c, av, pv, hf, hc1, hc2, hg, hat, hav, hpv⟩ := (HV.out.only HWB.out hOn.out).get k t ht
      obtain rfl : va = some ⟨g, 0, none⟩ := by simp at hf; exact hf.1
      obtain ⟨a1, a2, a3, a4⟩ := hat
      obtain ⟨pa, pc, hpf⟩ := hpv.form
      subst hpf
      obtain ⟨⟨aa, ac, haf⟩, -⟩ := id hav
      subst haf
      have hs := (HSZ.out t (List.mem_of_getElem? ht)).all
      have h3 := countN_mem (List.mem_of_getElem? ht)
      rw [countN_of] at h3
      have hapt := apart_get l p k t HAP.out ht
      obtain ⟨w1, hw1⟩ : ∃ w1, w1 = W.alloc (.cells #[.string (mk t.name), .slice aa t.attrs.length ac, .string (mk t.text), .slice pa t.parts.length pc] 35) := ⟨_, rfl⟩
      have hb1 : Below W.heap.size W w1 := by rw [hw1]; exact (Below.refl _ _).alloc (Nat.le_refl _) _
      have hN1 : NBox w1 W.heap.size t.name t.text (.slice aa t.attrs.length ac) (.slice pa t.parts.length pc) := by rw [hw1]; exact heap_alloc_new _ _
      have HB1 := Lib.hid hb1
      have HN1 := Lib.hid hN1
      have HW1 := Lib.hid hw1
      have hwl2 := lt_of_block hWB.out
      have HWB1 := Lib.hid (hWB.out.below hb1 hwl2)
      have HON1 := Lib.hid (show Only wb W w1 from Kept.of_below hb1)
      have HAV := Lib.hid hav
      have HPV := Lib.hid hpv
      have HS := Lib.hid hs
      have HH3 := Lib.hid h3
      have HST := Lib.hid hst
      have HLAST := Lib.hid hlast
      have HAPT := Lib.hid hapt
      have HD' := Lib.hid hd'
      have hBz := hOn.out.size
      have k0 : (0 : Int) ≤ k := by omega
      have k1 : (k : Int) < l.length := by omega
      clear hf hpv hav ht hst hb1 hN1 hw1 hs h3 hd' hlast hapt
      generalize hSL : spL a (l.take k) = SL at *
      obtain ⟨o, ak⟩ := SL
      have hol : o.length ≤ 1000000 := by
        have : o.length ≤ (l.take k).length := hspl
        omega
      obtain ⟨oa, oc, hof⟩ := hO.out.form
      subst hof
      clear hSL hspl htk
      go_upto_region 5 with fail
      rw [← HW1.out]
      clear a1 a2 a3 a4
      obtain ⟨m0, m1, m2, m3, mf⟩ := HN1.out.cells
      by_cases hn : t.name = []
      · have HSN := Lib.hid (spN_text ak t hn)
        have HLA := Lib.hid (fun x hx => HLAST.out x hn hx)
        have HTX := Lib.hid (sptext_any t.text ak (by have := HS.out.1.2.1; omega) w1.drew)
        have hxz := HS.out.1.2.1
        have htz := spT_len t.text ak
        rw [hn] at m0
        have m0' : w1.cell? ⟨W.heap.size, 0, none⟩ = some (.string ⟨#[]⟩) := m0
        have y0 := HWB1.out.cells.1
        have HNM := Lib.hid hn
        clear m0 m1 m3 mf hn HLAST HAPT HAV HPV HS HH3
        go_wp2_with fail
        go_still_tail 6, (by kernel_rfl)
        change wpList _ _ _ _ _ w1.drew
        go_wp2_with fail
        refine HTX.out.mono ?_
        rintro e w2 ⟨rfl, hb2⟩
        have hb2' : Below w1.heap.size w1 w2 := ⟨hb2.os, hb2.tape, hb2.output, hb2.size, hb2.block⟩
        have hN2 : NBox w2 W.heap.size t.name t.text (.slice aa t.attrs.length ac) (.slice pa t.parts.length pc) := (hb2'.block _ (lt_of_block HN1.out)).trans HN1.out
        have HWB2 := Lib.hid (HWB1.out.below hb2' (Nat.lt_of_lt_of_le hwl2 HB1.out.size))
        have HON2 := Lib.hid (Only.trans HON1.out (Kept.of_below hb2'))
        have HN2 := Lib.hid hN2
        obtain ⟨-, -, m2, -, mf⟩ := hN2.cells
        have mf2 := mf 2
        clear hb2 hb2' hN2 mf
        generalize hTg : spT ak t.text = T at *
        obtain ⟨w3, hw3⟩ : ∃ w3, w3 = w2.setCell ⟨W.heap.size, 2, none⟩ (.string (mk T)) := ⟨_, rfl⟩
        have hN3 : NBox w3 W.heap.size t.name T (.slice aa t.attrs.length ac) (.slice pa t.parts.length pc) := by rw [hw3]; exact HN2.out.set2 T
        have HN3 := Lib.hid hN3
        have HWB3 := Lib.hid (show WBox w3 wb ak by rw [hw3]; exact (heap_other (by show wb ≠ W.heap.size; omega)).trans HWB2.out)
        have HON3 := Lib.hid (show Only wb W w3 by rw [hw3]; exact HON2.out.setN (Nat.le_refl _) _)
        have HW3 := Lib.hid hw3
        go_upto_region 13 with fail
        rw [← HW3.out]
        clear hw3 m2 mf2 m0' y0
        obtain ⟨m0, -, m2, -, mf⟩ := hN3.cells
        rw [HNM.out] at m0
        have m0' : w3.cell? ⟨W.heap.size, 0, none⟩ = some (.string ⟨#[]⟩) := m0
        have mf1 := mf 1
        have mf3 := mf 3
        clear m0 mf hN3
        by_cases hT0 : T = []
        · have HR := Lib.hid (show spL a (l.take (k + 1)) = (o, ak) by rw [HST.out, HSN.out, if_pos hT0, List.append_nil])
          subst hT0
          have m2' : w3.cell? ⟨W.heap.size, 2, none⟩ = some (.string ⟨#[]⟩) := m2
          clear m2
          go_wp2_with fail
          go_roundg m
          case measure => omega
          case rel => exact ⟨_, k + 1, rfl, by omega, by go_num, by rw [HR.out]; exact Lib.hid (hO.out.only hWB.out HON3.out), by rw [HR.out]; exact HWB3, Lib.hid (Only.trans hOn.out HON3.out)⟩
        · have HR := Lib.hid (show spL a (l.take (k + 1)) = (o ++ [tText T], endsSp T) by rw [HST.out, HSN.out, if_neg hT0])
          have f1 := sBeqF hT0
          have f2 := sEqF hT0
          have f3 := sEmpF hT0
          have HSF := Lib.hid (Tryz.strings_HasSuffix (mk T) ⟨#[32]⟩ w3 (by rw [mk_size]; omega))
          rw [suffix_ends] at HSF
          have y0 := HWB3.out.cells.1
          have y1 := HWB3.out.cells.2
          clear hT0
          go_wp2_with fail
          refine HSF.out.mono ?_
          rintro e w4 ⟨rfl, hw⟩
          rw [hw]
          clear hw w4
          obtain ⟨w4, hw4⟩ : ∃ w4, w4 = w3.setCell ⟨wb, 0, none⟩ (.bool (endsSp T)) := ⟨_, rfl⟩
          have hN4 : NBox w4 W.heap.size t.name T (.slice aa t.attrs.length ac) (.slice pa t.parts.length pc) := by rw [hw4]; exact (heap_other (by show W.heap.size ≠ wb; omega)).trans HN3.out
          have HN4 := Lib.hid hN4
          have HWB4 := Lib.hid (show WBox w4 wb (endsSp T) by rw [hw4]; exact HWB3.out.set)
          have HON4 := Lib.hid (show Only wb W w4 by rw [hw4]; exact HON3.out.setW _)
          have HW4 := Lib.hid hw4
          go_upto_region 16 with fail
          rw [← HW4.out]
          clear hw4 y0 y1 m2 mf1 mf3 m0'
          have HO4 := Lib.hid (hO.out.only hWB.out HON4.out)
          go_cut [84] (fun v wx => v = .bool false ∧ wx = w4)
          case first =>
            rcases Nat.eq_zero_or_pos o.length with hL0 | hL0
            · have l1 : ¬ 0 < o.length := by omega
              have l2 : ¬ (0 : Int) < o.length := by omega
              clear hL0
              go_wp2_with fail
              go_meet
              case rel => exact ⟨rfl, rfl⟩
            · obtain ⟨q, hq⟩ : ∃ q, o.length = q + 1 := ⟨o.length - 1, by omega⟩
              obtain ⟨u, hu⟩ : ∃ u, o[q]? = some u := ⟨_, List.getElem?_eq_getElem (by omega)⟩
              have hun := HLA.out u (by show o.getLast? = some u; rw [List.getLast?_eq_getElem?, hq]; exact hu)
              obtain ⟨_, _, g', c', _, _, hf, _, _, _, hat, _, _⟩ := HO4.out.view.get q u hu
              obtain rfl : oa = some ⟨g', 0, none⟩ := by simp at hf; exact hf.1
              have u0 := hat.nm
              have j0 : (0 : Int) < (o.length : Int) := by omega
              have j0n : 0 < o.length := by omega
              have j1 : IntKind.i64.wrap ((o.length : Int) - 1) = (q : Int) := by rw [IntWalk.i64_in _ (by omega)]; omega
              have j2 : (q : Int) < o.length := by omega
              have j3 : (0 : Int) ≤ q := by omega
              have j4 : (1 : Int) ≤ o.length := by omega
              have j5 : ((o.length : Int) - 1).toNat = q := by omega
              have j6 : (o.length : Int) - 1 < o.length := by omega
              have j7 : (0 : Int) ≤ (o.length : Int) - 1 := by omega
              have u1 := sBeqF hun
              have u2 := sEqF hun
              have u3 := sEmpF hun
              clear hf hat hu hq hun
              go_wp2_with fail
              go_meet
              case rel => exact ⟨rfl, rfl⟩
          case rest =>
            obtain ⟨rfl, rfl⟩ := hcut
            obtain ⟨m0, m1, m2, m3, mf⟩ := HN4.out.cells
            rw [HNM.out] at m0
            have m0' : wc.cell? ⟨W.heap.size, 0, none⟩ = some (.string ⟨#[]⟩) := m0
            have mf1 := mf 1
            have mf3 := mf 3
            obtain ⟨w5, hw5⟩ : ∃ w5, w5 = (wc.setCell ⟨W.heap.size, 1, none⟩ (.slice none 0 0)).setCell ⟨W.heap.size, 3, none⟩ (.slice none 0 0) := ⟨_, rfl⟩
            have hN5 : NBox w5 W.heap.size t.name T (.slice none 0 0) (.slice none 0 0) := by rw [hw5]; exact (HN4.out.set1 _).set3 _
            have HWB5 := Lib.hid (show WBox w5 wb (endsSp T) by rw [hw5]; exact (heap_other (by show wb ≠ W.heap.size; omega)).trans ((heap_other (by show wb ≠ W.heap.size; omega)).trans HWB4.out))
            have HON5 := Lib.hid (show Only wb W w5 by rw [hw5]; exact (HON4.out.setN (Nat.le_refl _) _).setN (Nat.le_refl _) _)
            have HW5 := Lib.hid hw5
            have HN5 := Lib.hid hN5
            clear m0 mf hN5 hw5
            go_upto_region 19 with fail
            rw [← HW5.out]
            clear m0' m1 m2 m3 mf1 mf3
            obtain ⟨m0, m1, m2, m3, -⟩ := HN5.out.cells
            rw [HNM.out] at m0
            have m0' : w5.cell? ⟨W.heap.size, 0, none⟩ = some (.string ⟨#[]⟩) := m0
            have HO5 := Lib.hid (hO.out.only hWB.out HON5.out)
            have hBz5 : w.heap.size ≤ w5.heap.size := Nat.le_trans hBz HON5.out.size
            have hwl5 : wb < w.heap.size := hwl
            clear m0
            go_wp2_with (at_builtin; go_must (refine wpList_pushNode (by rfl) (.tmp 98) (.tmp 100) (by rfl) d w.heap.size _ o (tText T) (.slice none 0 0) (.slice none 0 0) w5 _ (by rfl) (by rfl) HO5.out (attrView_nil _) (NodeIn.nil _ _ _) w5.heap.size rfl (by rfl) hol hBz5 ?_); intro v' w' hown' hbl'; have HOW := Lib.hid hown'; have HBL := Lib.hid hbl'; clear hown' hbl')
            go_roundg m
            case measure => omega
            case rel => exact ⟨_, k + 1, rfl, by omega, by go_num, by rw [HR.out]; exact HOW, by rw [HR.out]; exact Lib.hid (HWB5.out.below HBL.out hwl5), Lib.hid (Kept.trans (Only.trans hOn.out HON5.out) (Kept.of_below HBL.out))⟩
      · have HSN := Lib.hid (spN_elem ak t hn)
        obtain ⟨htx, hpap⟩ := HAPT.out.2 hn
        have f1 := sBeqF hn
        have f2 := sEqF hn
        have f3 := sEmpF hn
        have HBK := Lib.hid (block_any t.name w1)
        have HPAP := Lib.hid hpap
        clear htx hpap hn HLAST HAPT m1 m2 m3 mf
        go_wp2_with fail
        refine HBK.out.mono ?_
        rintro e w2 ⟨rfl, hb2⟩
        have HN2 := Lib.hid (show NBox w2 W.heap.size t.name t.text (.slice aa t.attrs.length ac) (.slice pa t.parts.length pc) from (hb2.block _ (lt_of_block HN1.out)).trans HN1.out)
        have HWB2 := Lib.hid (HWB1.out.below hb2 (Nat.lt_of_lt_of_le hwl2 HB1.out.size))
        have HON2 := Lib.hid (Only.trans HON1.out (Kept.of_below hb2))
        have HB2 := Lib.hid hb2
        generalize isBlk t.name = bk at *
        obtain ⟨y0, y1⟩ := HWB2.out.cells
        clear hb2 m0
        go_upto_region 7 with fail
        go_cut [] (fun wx => wx = w2.setCell ⟨wb, 0, none⟩ (.bool (ak || bk)))
        case first =>
          clear HSN HST HWB1 HWB2 HBK
          cases ak <;> cases bk
          all_goals
            go_wp2_with fail
            go_meet
            case rel => rfl
        case rest =>
          have HN3 := Lib.hid (show NBox wc W.heap.size t.name t.text (.slice aa t.attrs.length ac) (.slice pa t.parts.length pc) by rw [hcut]; exact (heap_other (by show W.heap.size ≠ wb; omega)).trans HN2.out)
          have HWB3 := Lib.hid (show WBox wc wb (ak || bk) by rw [hcut]; exact HWB2.out.set)
          have HON3 := Lib.hid (show Only wb W wc by rw [hcut]; exact HON2.out.setW _)
          clear hcut y0 y1
          obtain ⟨w3, rfl⟩ : ∃ w3 : World, w3 = wc := ⟨_, rfl⟩
          obtain ⟨-, m1, -, -, -⟩ := HN3.out.cells
          have HCLN := Lib.hid (clone_any (.slice aa t.attrs.length ac) t.attrs w3 (HAV.out.only hWB.out HON3.out) (Nat.le_trans HS.out.1.2.2.1 (by omega)))
          go_wp2_with fail
          refine HCLN.out.mono ?_
          rintro e w4 ⟨v4, rfl, hv4, hb4⟩
          obtain ⟨⟨ca, cc, hcf⟩, -⟩ := id hv4
          subst hcf
          have HV4 := Lib.hid hv4
          have hN4 : NBox w4 W.heap.size t.name t.text (.slice aa t.attrs.length ac) (.slice pa t.parts.length pc) := (hb4.block _ (lt_of_block HN3.out)).trans HN3.out
          have HN4 := Lib.hid hN4
          have HWB4 := Lib.hid (HWB3.out.below hb4 (lt_of_block HWB3.out))
          have HON4 := Lib.hid (Only.trans HON3.out (Kept.of_below hb4))
          obtain ⟨-, m1, -, -, mf⟩ := hN4.cells
          have mf1 := mf 1
          obtain ⟨w5, hw5⟩ : ∃ w5, w5 = w4.setCell ⟨W.heap.size, 1, none⟩ (.slice ca t.attrs.length cc) := ⟨_, rfl⟩
          have HN5 := Lib.hid (show NBox w5 W.heap.size t.name t.text (.slice ca t.attrs.length cc) (.slice pa t.parts.length pc) by rw [hw5]; exact HN4.out.set1 _)
          have HWB5 := Lib.hid (show WBox w5 wb (ak || bk) by rw [hw5]; exact (heap_other (by show wb ≠ W.heap.size; omega)).trans HWB4.out)
          have HON5 := Lib.hid (show Only wb W w5 by rw [hw5]; exact HON4.out.setN (Nat.le_refl _) _)
          have HV5 := Lib.hid (show AttrView w5 (.slice ca t.attrs.length cc) t.attrs by rw [hw5]; exact HV4.out.stay fun g _ hg => heap_other (type_ne hg HN4.out (by decide)))
          have HW5 := Lib.hid hw5
          clear hv4 hb4 hN4 hw5 mf
          go_upto_region 9 with fail
          rw [← HW5.out]
          clear m1 mf1
          obtain ⟨-, -, -, m3, -⟩ := HN5.out.cells
          have HREC := Lib.hid (HIH.out d' (by have := HD'.out; omega) (.slice pa t.parts.length pc) t.parts (ak || bk) false wb w5 (HPV.out.only hWB.out HON5.out) (by have := HCT.out; have := HH3.out; omega) HS.out.2 HPAP.out HWB5.out)
          generalize hSP : spL (ak || bk) t.parts = SP at *
          obtain ⟨ps, a2⟩ := SP
          go_wp2_with fail
          refine HREC.out.mono ?_
          rintro e w6 ⟨ov6, rfl, hown6, hwb6, hon6⟩
          have hown6' : NodeOwn d' w5.heap.size w6 ov6 ps := hown6
          obtain ⟨qa, qc, hqf⟩ := hown6'.form
          subst hqf
          have HOWN6 := Lib.hid hown6'
          have HWB6 := Lib.hid (show WBox w6 wb a2 from hwb6)
          have HON6 := Lib.hid hon6
          have hN6 := HN5.out.only HWB5.out hon6
          have HN6 := Lib.hid hN6
          have HV6 := Lib.hid (HV5.out.only HWB5.out hon6)
          have HOW6 := Lib.hid (Only.trans HON5.out hon6)
          have hz56 := hon6.size
          obtain ⟨-, -, -, m3, mf⟩ := hN6.cells
          have mf3 := mf 3
          have hN5z := lt_of_block HN5.out
          have hwb5z := lt_of_block HWB5.out
          obtain ⟨w7, hw7⟩ : ∃ w7, w7 = w6.setCell ⟨W.heap.size, 3, none⟩ (.slice qa ps.length qc) := ⟨_, rfl⟩
          have HN7 := Lib.hid (show NBox w7 W.heap.size t.name t.text (.slice ca t.attrs.length cc) (.slice qa ps.length qc) by rw [hw7]; exact HN6.out.set3 _)
          have HWB7 := Lib.hid (show WBox w7 wb a2 by rw [hw7]; exact (heap_other (by show wb ≠ W.heap.size; omega)).trans HWB6.out)
          have HON7 := Lib.hid (show Only wb W w7 by rw [hw7]; exact HOW6.out.setN (Nat.le_refl _) _)
          have HV7 := Lib.hid (show AttrView w7 (.slice ca t.attrs.length cc) t.attrs by rw [hw7]; exact HV6.out.stay fun g _ hg => heap_other (type_ne hg HN6.out (by decide)))
          have HP7 := Lib.hid (show NodeIn (fun g => w5.heap.size ≤ g) (d' + 1) w7 (.slice qa ps.length qc) ps by
            rw [hw7]
            refine HOWN6.out.view.stay (fun g _ hg => heap_other (type_ne hg HN6.out (by decide))) fun g _ hp hg => ⟨hp, heap_other (by show g ≠ W.heap.size; have hp' : w5.heap.size ≤ g := hp; omega)⟩)
          have HW7 := Lib.hid hw7
          clear hown6 hown6' hwb6 hon6 hN6 mf hw7
          go_upto_region 10 with fail
          rw [← HW7.out]
          clear m3 mf3
          obtain ⟨y0, y1⟩ := HWB7.out.cells
          go_cut [] (fun wx => wx = w7.setCell ⟨wb, 0, none⟩ (.bool (a2 || bk)))
          case first =>
            clear HSN HST HREC hSP HWB6 HWB7
            cases a2 <;> cases bk
            all_goals
              go_wp2_with fail
              go_meet
              case rel => rfl
          case rest =>
            have HN8 := Lib.hid (show NBox wc W.heap.size t.name t.text (.slice ca t.attrs.length cc) (.slice qa ps.length qc) by rw [hcut]; exact (heap_other (by show W.heap.size ≠ wb; omega)).trans HN7.out)
            have HWB8 := Lib.hid (show WBox wc wb (a2 || bk) by rw [hcut]; exact HWB7.out.set)
            have HON8 := Lib.hid (show Only wb W wc by rw [hcut]; exact HON7.out.setW _)
            have HV8 := Lib.hid (show AttrView wc (.slice ca t.attrs.length cc) t.attrs by rw [hcut]; exact HV7.out.stay fun g _ hg => heap_other (type_ne hg HWB7.out (by decide)))
            have HP8 := Lib.hid (show NodeIn (fun g => w.heap.size ≤ g ∧ (Value.slice oa o.length oc).ownBlock ≠ some g) d wc (.slice qa ps.length qc) ps by
              rw [hcut]
              refine (HP7.out.deep (show d' + 1 ≤ d by have := HD'.out; omega)).stay (fun g _ hg => heap_other (type_ne hg HWB7.out (by decide))) fun g _ hp hg => ⟨⟨?_, fun e => ?_⟩, heap_other (type_ne hg HWB7.out (by decide))⟩
              · have hp' : w5.heap.size ≤ g := hp
                have := HON5.out.size
                omega
              · have hp' : w5.heap.size ≤ g := hp
                have := HON5.out.size
                have := hO.out.block e; omega)
            clear hcut y0 y1 hz56 hN5z hwb5z
            obtain ⟨m0, m1, m2, m3, -⟩ := HN8.out.cells
            have HO8 := Lib.hid (hO.out.only hWB.out HON8.out)
            have hBz8 : w.heap.size ≤ wc.heap.size := Nat.le_trans hBz HON8.out.size
            have HR := Lib.hid (show spL a (l.take (k + 1)) = (o ++ [.mk t.name t.attrs t.text ps], a2 || bk) by rw [HST.out, HSN.out])
            go_wp2_with (at_builtin; go_must (refine wpList_pushNode (by rfl) (.tmp 51) (.tmp 53) (by rfl) d w.heap.size _ o (.mk t.name t.attrs t.text ps) (.slice ca t.attrs.length cc) (.slice qa ps.length qc) wc _ (by rfl) (by rfl) HO8.out HV8.out HP8.out wc.heap.size rfl (by rfl) hol hBz8 ?_); intro v' w' hown' hbl'; have HOW := Lib.hid hown'; have HBL := Lib.hid hbl'; clear hown' hbl')
            go_roundg m
            case measure => omega
            case rel => exact ⟨_, k + 1, rfl, by omega, by go_num, by rw [HR.out]; exact HOW, by rw [HR.out]; exact Lib.hid (HWB8.out.below HBL.out hwl), Lib.hid (Kept.trans (Only.trans hOn.out HON8.out) (Kept.of_below HBL.out))⟩
    · obtain rfl : k = l.length := by omega
      have HR := Lib.hid (show l.take l.length = l from List.take_length)
      rw [HR.out] at hO hWB
      obtain ⟨oa, oc, hof⟩ := hO.out.form
      subst hof
      go_wp2_with fail
      go_ret
      exact ⟨_, rfl, hO.out, hWB.out, hOn.out⟩

end Go.Proofs.YtemomhanchiipaaGreatDoor
/- Walks of space.Nodes and of the keep's readers: singleBlanks, countNamed. -/
namespace Go.Proofs.YtemomhanchiipaaGreatDoor
open Go Go.RowKit

set_option maxHeartbeats 1000000 in
theorem spaceNodes_any (d : Nat) (v : Value) (l : List TNode) (w : World) (hv : NodeView d w v l) (hct : countL l ≤ 1000000) (hsz : SmL l) (hap : apartL false l = true) :
    Calls Tryz.prog 23 #[v] w fun e w' => ∃ ov, e = .returned ov ∧ NodeView (d + 1) w' ov (spL true l).1 ∧ Below w.heap.size w w' := by
  obtain ⟨w1, hw1⟩ : ∃ w1, w1 = w.alloc (.cells #[.bool true] 96) := ⟨_, rfl⟩
  have hb1 : Below w.heap.size w w1 := by rw [hw1]; exact (Below.refl _ _).alloc (Nat.le_refl _) _
  have hwb : WBox w1 w.heap.size true := by rw [hw1]; exact heap_alloc_new _ _
  obtain ⟨a, cap, rfl⟩ := hv.form
  have HC := Lib.hid (spnodes_any d (.slice a l.length cap) l true false w.heap.size w1 (hv.older (.of_below hb1)) hct hsz hap hwb)
  have HB1 := Lib.hid hb1
  have HW1 := Lib.hid hw1
  clear hv hct hsz hap hb1 hwb hw1
  go_enter Tryz.func23, Tryz.ntmps23
  go_wp2_with fail
  rw [← HW1.out]
  refine HC.out.mono ?_
  rintro e w2 ⟨ov, rfl, hown, hwb2, hon⟩
  have HOWN := Lib.hid hown.view.any
  have HB2 := Lib.hid (HB1.out.trans (Kept.below (C := w.heap.size) hon (fun k hk e => by have e' : k = w.heap.size := e; omega) HB1.out.size))
  obtain ⟨qa, qc, hqf⟩ := hown.form
  subst hqf
  clear hown hwb2 hon
  go_wp2_with fail
  go_ret
  exact ⟨_, rfl, HOWN.out, HB2.out⟩

theorem sgl_get : ∀ (l : Bytes) (p : Bool) (k : Nat) (c : UInt8), sglB p l = true → l[k]? = some c → c ≠ 9 ∧ c ≠ 10 ∧ (k = 0 → ¬ (p = true ∧ c = 32)) ∧ ∀ j b, j + 1 = k → l[j]? = some b → ¬ (b = 32 ∧ c = 32)
  | [], _, _, _, _, h => by simp at h
  | x :: xs, p, k, c, hs, h => by
    rw [sglB] at hs
    simp only [Bool.and_eq_true, Bool.not_eq_true', Bool.or_eq_false_iff, beq_eq_false_iff_ne, Bool.and_eq_false_iff] at hs
    obtain ⟨⟨⟨h1, h2⟩, h3⟩, h4⟩ := hs
    cases k with
    | zero =>
      cases h
      refine ⟨h1, h2, fun _ => ?_, fun j b hj => by omega⟩
      rintro ⟨e1, e2⟩
      rcases h3 with h3 | h3
      · rw [e1] at h3; cases h3
      · exact h3 e2
    | succ k =>
      obtain ⟨g1, g2, g3, g4⟩ := sgl_get xs (x == 32) k c h4 (by simpa using h)
      refine ⟨g1, g2, fun e => by omega, fun j b hj hb => ?_⟩
      cases j with
      | zero =>
        cases hb
        rintro ⟨e1, e2⟩
        exact g3 (by omega) ⟨by rw [e1]; rfl, e2⟩
      | succ j => exact g4 j b (by omega) (by simpa using hb)
theorem sglL_get : ∀ (l : List TNode) (k : Nat) (t : TNode), sglL l = true → l[k]? = some t → sglB false t.text = true ∧ sglL t.parts = true
  | [], _, _, _, h => by simp at h
  | x :: xs, k, t, hs, h => by
    rw [sglL, Bool.and_eq_true] at hs
    cases k with
    | zero =>
      cases h
      obtain ⟨n, a, s, ps⟩ := x
      have h1 := hs.1
      rw [sglN, Bool.and_eq_true] at h1
      exact h1
    | succ k => exact sglL_get xs k t hs.2 (by simpa using h)

theorem byteNe {c : UInt8} {n : Nat} (h : c ≠ UInt8.ofNat n) (hn : n < 256) : ((c.toNat : Int) == (n : Int)) = false := by
  rw [beq_eq_false_iff_ne]
  intro e
  refine h (UInt8.toNat_inj.1 ?_)
  rw [UInt8.toNat_ofNat']
  have : c.toNat = n := by omega
  omega

set_option maxHeartbeats 4000000 in
set_option maxRecDepth 100000 in
theorem singleBlanks_any : ∀ (d : Nat) (v : Value) (l : List TNode) (w : World), NodeView d w v l → countL l ≤ 1000000 → SmL l → sglL l = true →
    Calls Tryz.prog 27 #[v] w fun e w' => e = .returned (.bool true) ∧ w = w' := by
  intro d
  induction d using Nat.strongRecOn with
  | _ d ih =>
  intro v l w hv hct hsz hsg
  obtain ⟨a, cap, rfl⟩ := hv.form
  have hln := Nat.le_trans (len_countL l) hct
  have HIH := Lib.hid ih
  have HV := Lib.hid hv
  have HCT := Lib.hid hct
  have HSZ := Lib.hid hsz.mem
  have HSG := Lib.hid hsg
  clear ih hv hct hsz hsg
  go_enter Tryz.func27, Tryz.ntmps27
  go_wp2_with fail
  go_loop [3] (fun i => ∃ k : Nat, k ≤ l.length ∧ i = .int .i64 k) (fun i => l.length - (intOf i).toNat)
  case atStart => exact ⟨0, by omega, rfl⟩
  case round =>
    obtain ⟨k, hk, rfl⟩ := hrel
    by_cases hlt : k < l.length
    · obtain ⟨t, ht⟩ : ∃ t, l[k]? = some t := ⟨_, List.getElem?_eq_getElem hlt⟩
      obtain ⟨d', hd', g, c, av, pv, hf, hc1, hc2, hg, hat, hav, hpv⟩ := HV.out.get k t ht
      obtain rfl : a = some ⟨g, 0, none⟩ := by simp at hf; exact hf.1
      obtain ⟨a1, a2, a3, a4⟩ := hat
      obtain ⟨pa, pc, hpf⟩ := hpv.form
      subst hpf
      obtain ⟨g1, g2⟩ := sglL_get l k t HSG.out ht
      have hs := (HSZ.out t (List.mem_of_getElem? ht)).all
      have h3 := countN_mem (List.mem_of_getElem? ht)
      rw [countN_of] at h3
      have HCALL := Lib.hid (HIH.out d' (by omega) (.slice pa t.parts.length pc) t.parts w hpv (by have := HCT.out; omega) hs.2 g2)
      have HG1 := Lib.hid (fun k c h => sgl_get t.text false k c g1 h)
      have htz : (mk t.text).size = t.text.length := mk_size _
      have HTZ := Lib.hid htz
      have htl := hs.1.2.1
      have k0 : (0 : Int) ≤ k := by omega
      have k1 : (k : Int) < l.length := by omega
      clear hf hpv hav ht h3 a1 a2 hd' g1 g2 hs htz
      generalize t.text = tx at *
      go_wp2_with fail
      go_loop [5] (fun i => ∃ q : Nat, q ≤ tx.length ∧ i = .int .i64 q) (fun i => tx.length - (intOf i).toNat)
      case atStart => exact ⟨0, by omega, rfl⟩
      case round =>
        obtain ⟨q, hq, rfl⟩ := hrel
        by_cases hql : q < tx.length
        · have hq2 : q < (mk tx).size := by rw [HTZ.out]; exact hql
          obtain ⟨x, hx⟩ : ∃ x, (mk tx)[q]'hq2 = x := ⟨_, rfl⟩
          have hxi : tx[q]? = some x := by
            have h := lst_get (mk tx) q hq2
            rw [lst_mk, hx] at h
            exact h
          obtain ⟨x1, x2, -, x4⟩ := HG1.out q x hxi
          have f1 : ((x.toNat : Int) == 9) = false := byteNe (n := 9) x1 (by decide)
          have f2 : ((x.toNat : Int) == 10) = false := byteNe (n := 10) x2 (by decide)
          have q0 : (0 : Int) ≤ q := by omega
          have q1 : (q : Int) < (mk tx).size := by omega
          clear x1 x2
          cases q with
          | zero =>
            clear x4 hxi
            go_wp2_with fail
            go_round
            case rel => exact ⟨0 + 1, by omega, by go_num⟩
            case measure => simp [intOf]; omega
          | succ j =>
            have hj2 : j < (mk tx).size := by omega
            obtain ⟨y, hy⟩ : ∃ y, (mk tx)[j]'hj2 = y := ⟨_, rfl⟩
            have hyi : tx[j]? = some y := by
              have h := lst_get (mk tx) j hj2
              rw [lst_mk, hy] at h
              exact h
            have hxy := x4 j y rfl hyi
            have j0 : (0 : Int) < ((j + 1 : Nat) : Int) := by omega
            have j1 : IntKind.i64.wrap (((j + 1 : Nat) : Int) - 1) = (j : Int) := by rw [IntWalk.i64_in _ (by omega)]; omega
            have j2 : (j : Int) < (mk tx).size := by omega
            have j3 : (0 : Int) ≤ j := by omega
            clear x4 hxi hyi
            by_cases hx32 : x = 32
            · have hy32 : y ≠ 32 := fun e => hxy ⟨e, hx32⟩
              have f3 : ((x.toNat : Int) == 32) = true := by rw [hx32]; rfl
              have f4 : ((y.toNat : Int) == 32) = false := byteNe (n := 32) hy32 (by decide)
              clear hxy hx32 hy32
              go_wp2_with fail
              go_round
              case rel => exact ⟨j + 1 + 1, by omega, by go_num⟩
              case measure => simp [intOf]; omega
            · have f3 : ((x.toNat : Int) == 32) = false := byteNe (n := 32) hx32 (by decide)
              clear hxy hx32
              go_wp2_with fail
              go_round
              case rel => exact ⟨j + 1 + 1, by omega, by go_num⟩
              case measure => simp [intOf]; omega
        · obtain rfl : q = tx.length := by omega
          have q1 : ¬ ((tx.length : Int) < (mk tx).size) := by rw [HTZ.out]; omega
          have q2 : ¬ (tx.length < (mk tx).size) := by rw [HTZ.out]; omega
          clear hql
          go_wp2_with fail
          refine HCALL.out.mono ?_
          rintro e w' ⟨rfl, hw⟩
          rw [← hw]
          clear hw
          go_wp2_with fail
          go_round
          case rel => exact ⟨k + 1, by omega, by go_num⟩
          case measure => simp [intOf]; omega
    · obtain rfl : k = l.length := by omega
      go_wp2_with fail
      go_ret
      exact ⟨rfl, rfl⟩

set_option maxHeartbeats 4000000 in
set_option maxRecDepth 100000 in
theorem countNamed_any : ∀ (d : Nat) (v : Value) (l : List TNode) (s : Bytes) (w : World), NodeView d w v l → countL l ≤ 1000000 →
    Calls Tryz.prog 29 #[v, .string (mk s)] w fun e w' => e = .returned (.tuple #[.int .i64 (cntL s l).1, .int .i64 (cntL s l).2]) ∧ w = w' := by
  intro d
  induction d using Nat.strongRecOn with
  | _ d ih =>
  intro v l s w hv hct
  obtain ⟨a, cap, rfl⟩ := hv.form
  have hln := Nat.le_trans (len_countL l) hct
  have HIH := Lib.hid ih
  have HV := Lib.hid hv
  have HCT := Lib.hid hct
  clear ih hv hct
  go_enter Tryz.func29, Tryz.ntmps29
  go_wp2_with fail
  go_loop [6, 7, 8] (fun x y i => ∃ k : Nat, k ≤ l.length ∧ i = .int .i64 k ∧ x = .int .i64 (cntL s (l.take k)).1 ∧ y = .int .i64 (cntL s (l.take k)).2) (fun _ _ i => l.length - (intOf i).toNat)
  case atStart => exact ⟨0, by omega, rfl, by rw [List.take_zero, cntL]; rfl, by rw [List.take_zero, cntL]; rfl⟩
  case round =>
    obtain ⟨k, hk, rfl, rfl, rfl⟩ := hrel
    by_cases hlt : k < l.length
    · obtain ⟨t, ht⟩ : ∃ t, l[k]? = some t := ⟨_, List.getElem?_eq_getElem hlt⟩
      obtain ⟨d', hd', g, c, av, pv, hf, hc1, hc2, hg, hat, hav, hpv⟩ := HV.out.get k t ht
      obtain rfl : a = some ⟨g, 0, none⟩ := by simp at hf; exact hf.1
      obtain ⟨a1, a2, a3, a4⟩ := hat
      obtain ⟨pa, pc, hpf⟩ := hpv.form
      subst hpf
      have h3 := countN_mem (List.mem_of_getElem? ht)
      rw [countN_of] at h3
      have hct0 := HCT.out
      have HCALL := Lib.hid (HIH.out d' (by omega) (.slice pa t.parts.length pc) t.parts s w hpv (by omega))
      have hst := cntL_take s l k t ht
      have hb1 := cntL_le s (l.take k)
      have hb2 := countL_take_le l k
      have hb3 := cntL_le s t.parts
      have hpz : countL t.parts ≤ 1000000 := by omega
      have k0 : (0 : Int) ≤ k := by omega
      have k1 : (k : Int) < l.length := by omega
      have HT1 := Lib.hid (fun h => cntN_text s t h)
      have HT2 := Lib.hid (fun h => cntN_elem s t h)
      have HST := Lib.hid hst
      generalize cntL s (l.take k) = C at *
      obtain ⟨x, y⟩ := C
      have x1 : x ≤ 1000000 := by have : x ≤ countL (l.take k) := hb1.1; omega
      have y1 : y ≤ 1000000 := by have : y ≤ countL (l.take k) := hb1.2; omega
      clear hf hpv hav ht h3 hd' hst hb1 hb2 hct0 a2 a3
      by_cases hn : t.name = []
      · have HR := Lib.hid (show cntL s (l.take (k + 1)) = (x, y) by rw [HST.out, HT1.out hn]; rfl)
        rw [hn] at a1
        have a1' : w.cell? ⟨g, k * 4, none⟩ = some (.string ⟨#[]⟩) := a1
        clear hn a1
        go_wp2_with fail
        go_round
        case rel => exact ⟨k + 1, by omega, by go_num, by rw [HR.out], by rw [HR.out]⟩
        case measure => simp [intOf]; omega
      · have f1 := sBeqF hn
        have f2 := sEqF hn
        have f3 := sEmpF hn
        have HT2' := Lib.hid (HT2.out hn)
        generalize cntL s t.parts = PC at *
        obtain ⟨x', y'⟩ := PC
        have x2 : x' ≤ 1000000 := by have : x' ≤ countL t.parts := hb3.1; omega
        have y2 : y' ≤ 1000000 := by have : y' ≤ countL t.parts := hb3.2; omega
        clear hn hb3
        by_cases hs : t.name = s
        · have HR := Lib.hid (show cntL s (l.take (k + 1)) = (x + (x' + 1), y + (y' + 1)) by rw [HST.out, HT2'.out, if_pos hs])
          rw [hs] at a1 f1 f2 f3
          have s1 : ((mk s).toList == (mk s).toList) = true := beq_self_eq_true _
          clear hs
          go_wp2_with fail
          refine HCALL.out.mono ?_
          rintro e w' ⟨rfl, hw⟩
          rw [← hw]
          clear hw
          go_wp2_with fail
          go_round
          case rel => exact ⟨k + 1, by omega, by go_num, by rw [HR.out]; go_num, by rw [HR.out]; go_num⟩
          case measure => simp [intOf]; omega
        · have HR := Lib.hid (show cntL s (l.take (k + 1)) = (x + (x' + 1), y + y') by rw [HST.out, HT2'.out, if_neg hs]; rfl)
          have f4 : ((mk t.name).toList == (mk s).toList) = false := by rw [toList_mk, toList_mk]; exact beq_eq_false_iff_ne.2 hs
          have f5 : ¬ (mk t.name).toList = (mk s).toList := by rw [toList_mk, toList_mk]; exact hs
          clear hs
          go_wp2_with fail
          refine HCALL.out.mono ?_
          rintro e w' ⟨rfl, hw⟩
          rw [← hw]
          clear hw
          go_wp2_with fail
          go_round
          case rel => exact ⟨k + 1, by omega, by go_num, by rw [HR.out]; go_num, by rw [HR.out]; go_num⟩
          case measure => simp [intOf]; omega
    · obtain rfl : k = l.length := by omega
      rw [List.take_length]
      go_wp2_with fail
      exact bodyPost_ret (v := .tuple #[.int .i64 (cntL s l).1, .int .i64 (cntL s l).2]) (by simp [results, Tryz.results29, go_sem]) rfl ⟨rfl, rfl⟩

end Go.Proofs.YtemomhanchiipaaGreatDoor
