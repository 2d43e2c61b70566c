/- Joined texts: QLaw QView QWalkA. -/
import Derived.Test.YtjkgmdnkejjppaaGreatDoorGn
import Derived.Test.YtjkgmdnkejjppaaGreatDoorGq
import Derived.Test.YtjkgmdnkejjppaaGreatDoorJYRow
import Derived.Test.YtjkgmdnkejjppaaGreatDoorGi
/- Runs with marks: what marks.Norm, Nest and Flat compute; runs come back from their nest. Nothing of the program here. -/
namespace Go.Proofs.YtjkgmdnkejjppaaGreatDoor

structure TRun where
  text : Bytes
  marks : List Bytes

/-- The marks in their order. -/
def keepMs (ms r : List Bytes) : List Bytes := ms.filter fun m => r.contains m
/-- One run more; the last one stands ahead. -/
def addRun (acc : List TRun) (n : TRun) : List TRun := match acc with
  | [] => if n.text = [] then [] else [n]
  | u :: a => if u.marks = n.marks then ⟨u.text ++ n.text, u.marks⟩ :: a else if n.text = [] then u :: a else n :: u :: a
def normR (ms : List Bytes) (acc l : List TRun) : List TRun := l.foldl (fun o r => addRun o ⟨r.text, keepMs ms r.marks⟩) acc
def normM (ms : List Bytes) (l : List TRun) : List TRun := (normR ms [] l).reverse

def sameAt (d : Nat) (m : Bytes) (q : TRun) : Bool := !(q.marks.length == d) && q.marks.getD d [] == m
def nestA (N : List TRun → Nat → List TNode) : Nat → List TRun → Nat → List TNode
  | 0, _, _ => []
  | _ + 1, [], _ => []
  | f + 1, r :: l, d =>
    if r.marks.length = d then tText r.text :: nestA N f l d
    else tElem (r.marks.getD d []) [] (N ((r :: l).takeWhile (sameAt d (r.marks.getD d []))) (d + 1)) :: nestA N f ((r :: l).dropWhile (sameAt d (r.marks.getD d []))) d
def nestD : Nat → List TRun → Nat → List TNode
  | 0, _, _ => []
  | k + 1, l, d => nestA (nestD k) l.length l d
mutual
def flatN : List Bytes → TNode → List TRun
  | w, .mk n _ t ps => if n = [] then [⟨t, w⟩] else flatL (w ++ [n]) ps
def flatL : List Bytes → List TNode → List TRun
  | _, [] => []
  | w, t :: ts => flatN w t ++ flatL w ts
end

def adjR : List TRun → Bool
  | [] => true
  | [_] => true
  | a :: b :: l => !(a.marks == b.marks) && adjR (b :: l)
theorem adjR_cons {a : TRun} {l : List TRun} (h : adjR l = true) (h2 : ∀ b ∈ l.head?, a.marks ≠ b.marks) : adjR (a :: l) = true := by
  cases l with
  | nil => rfl
  | cons b l =>
    have := h2 b rfl
    rw [adjR, h, beq_eq_false_iff_ne.2 this]; rfl
theorem adjR_tail {a : TRun} {l : List TRun} (h : adjR (a :: l) = true) : adjR l = true ∧ ∀ b ∈ l.head?, a.marks ≠ b.marks := by
  cases l with
  | nil => exact ⟨rfl, fun b hb => by cases hb⟩
  | cons b l =>
    rw [adjR, Bool.and_eq_true, Bool.not_eq_true', beq_eq_false_iff_ne] at h
    exact ⟨h.2, fun x hx => by cases hx; exact h.1⟩
theorem adjR_snoc (n : TRun) : ∀ l : List TRun, adjR l = true → (∀ u ∈ l.getLast?, u.marks ≠ n.marks) → adjR (l ++ [n]) = true
  | [], _, _ => rfl
  | [a], _, h => adjR_cons rfl fun b hb => by cases hb; exact h a rfl
  | a :: b :: l, h, h2 => by
    have h3 := adjR_tail h
    have h4 := adjR_snoc n (b :: l) h3.1 (fun u hu => h2 u (by rw [List.getLast?_cons_cons]; exact hu))
    exact adjR_cons h4 fun x hx => h3.2 x hx
theorem adjR_rev : ∀ l : List TRun, adjR l = true → adjR l.reverse = true
  | [], _ => rfl
  | a :: l, h => by
    have h3 := adjR_tail h
    rw [List.reverse_cons]
    refine adjR_snoc a _ (adjR_rev l h3.1) fun u hu => ?_
    rw [List.getLast?_reverse] at hu
    exact fun e => h3.2 u hu e.symm
theorem adjR_app : ∀ (a b : List TRun), adjR (a ++ b) = true → adjR a = true ∧ adjR b = true
  | [], b, h => ⟨rfl, h⟩
  | x :: a, b, h => by
    have h1 := adjR_tail (l := a ++ b) h
    have h2 := adjR_app a b h1.1
    refine ⟨adjR_cons h2.1 fun y hy => h1.2 y ?_, h2.2⟩
    cases a with
    | nil => cases hy
    | cons z a => exact hy

/-- What Norm makes. -/
structure RunOk (ms : List Bytes) (r : TRun) : Prop where
  text : r.text ≠ []
  marks : keepMs ms r.marks = r.marks
theorem keep_keep (ms r : List Bytes) : keepMs ms (keepMs ms r) = keepMs ms r := by
  unfold keepMs
  refine List.filter_congr fun m hm => ?_
  cases h : r.contains m with
  | true =>
    rw [List.contains_iff_mem]
    exact List.mem_filter.2 ⟨hm, h⟩
  | false =>
    cases h2 : (ms.filter fun m => r.contains m).contains m with
    | false => rfl
    | true =>
      rw [List.contains_iff_mem] at h2
      rw [(List.mem_filter.1 h2).2] at h; cases h
theorem addRun_ok {ms : List Bytes} {acc : List TRun} {t : Bytes} {r : List Bytes} (h : ∀ x ∈ acc, RunOk ms x) (ha : adjR acc = true) : (∀ x ∈ addRun acc ⟨t, keepMs ms r⟩, RunOk ms x) ∧ adjR (addRun acc ⟨t, keepMs ms r⟩) = true := by
  unfold addRun
  cases acc with
  | nil =>
    by_cases ht : t = []
    · rw [if_pos ht]; exact ⟨h, rfl⟩
    · rw [if_neg ht]
      exact ⟨fun x hx => by cases List.mem_singleton.1 hx; exact ⟨ht, keep_keep ms r⟩, rfl⟩
  | cons u a =>
    have h1 := adjR_tail ha
    by_cases hm : u.marks = keepMs ms r
    · simp only [hm, if_true]
      have hu := h u (by simp)
      refine ⟨fun x hx => ?_, adjR_cons h1.1 fun b hb => by have := h1.2 b hb; rw [hm] at this; exact this⟩
      rcases List.mem_cons.1 hx with rfl | hx
      · exact ⟨by have := hu.text; simp [this], keep_keep ms r⟩
      · exact h x (by simp [hx])
    · simp only [if_neg hm]
      by_cases ht : t = []
      · rw [if_pos ht]; exact ⟨h, ha⟩
      · rw [if_neg ht]
        refine ⟨fun x hx => ?_, adjR_cons ha fun b hb => by cases hb; exact fun e => hm e.symm⟩
        rcases List.mem_cons.1 hx with rfl | hx
        · exact ⟨ht, keep_keep ms r⟩
        · exact h x hx
theorem normR_ok (ms : List Bytes) : ∀ (l acc : List TRun), (∀ x ∈ acc, RunOk ms x) → adjR acc = true → (∀ x ∈ normR ms acc l, RunOk ms x) ∧ adjR (normR ms acc l) = true
  | [], acc, h, ha => ⟨h, ha⟩
  | r :: l, acc, h, ha => by
    have := addRun_ok (t := r.text) (r := r.marks) h ha
    exact normR_ok ms l _ this.1 this.2
theorem normM_ok (ms : List Bytes) (l : List TRun) : (∀ x ∈ normM ms l, RunOk ms x) ∧ adjR (normM ms l) = true := by
  have h := normR_ok ms l [] (fun x hx => by cases hx) rfl
  exact ⟨fun x hx => h.1 x (List.mem_reverse.1 hx), adjR_rev _ h.2⟩
theorem normR_id (ms : List Bytes) : ∀ (x acc : List TRun), (∀ r ∈ x, RunOk ms r) → adjR x = true → (∀ u ∈ acc.head?, ∀ r ∈ x.head?, u.marks ≠ r.marks) → normR ms acc x = x.reverse ++ acc
  | [], acc, _, _, _ => rfl
  | r :: x, acc, h, ha, hb => by
    have h1 := adjR_tail ha
    have hr := h r (by simp)
    have e : addRun acc ⟨r.text, keepMs ms r.marks⟩ = r :: acc := by
      rw [hr.marks]
      unfold addRun
      cases acc with
      | nil => simp only [if_neg hr.text]
      | cons u a => simp only [if_neg (hb u rfl r rfl), if_neg hr.text]
    show normR ms (addRun acc ⟨r.text, keepMs ms r.marks⟩) x = _
    rw [e, normR_id ms x (r :: acc) (fun y hy => h y (by simp [hy])) h1.1 (fun u hu y hy => by cases hu; exact h1.2 y hy)]
    simp
theorem normM_id {ms : List Bytes} {x : List TRun} (h : ∀ r ∈ x, RunOk ms r) (ha : adjR x = true) : normM ms x = x := by
  unfold normM
  rw [normR_id ms x [] h ha (fun u hu => by cases hu)]
  simp

theorem take_drop_while (p : TRun → Bool) (l : List TRun) : l.takeWhile p ++ l.dropWhile p = l := List.takeWhile_append_dropWhile
/-- What is asked of runs at a depth. -/
def At (w : List Bytes) (k : Nat) (l : List TRun) : Prop := ∀ r ∈ l, r.marks.take w.length = w ∧ w.length ≤ r.marks.length ∧ r.marks.length < w.length + k ∧ ∀ m ∈ r.marks, m ≠ []
theorem At.one {w : List Bytes} {k : Nat} {r : TRun} {l : List TRun} (h : At w k (r :: l)) (hd : r.marks.length = w.length) : r.marks = w := by
  have h1 := (h r (by simp)).1
  rw [← hd, List.take_length] at h1
  exact h1
theorem tw_imp {p : TRun → Bool} : ∀ {l : List TRun} {x : TRun}, x ∈ l.takeWhile p → p x = true
  | [], x, h => by cases h
  | a :: l, x, h => by
    rw [List.takeWhile_cons] at h
    by_cases ha : p a = true
    · rw [if_pos ha] at h
      rcases List.mem_cons.1 h with rfl | h
      · exact ha
      · exact tw_imp h
    · rw [if_neg ha] at h; cases h
theorem At.group {w : List Bytes} {k : Nat} {l : List TRun} (m : Bytes) (h : At w (k + 1) l) : At (w ++ [m]) k (l.takeWhile (sameAt w.length m)) := by
  intro q hq
  have hs := tw_imp hq
  have hm := (List.takeWhile_prefix (sameAt w.length m) (l := l)).subset hq
  obtain ⟨h1, h2, h3, h4⟩ := h q hm
  unfold sameAt at hs
  rw [Bool.and_eq_true, Bool.not_eq_true', beq_eq_false_iff_ne, beq_iff_eq] at hs
  have hlt : w.length < q.marks.length := by have := hs.1; omega
  refine ⟨?_, by simp; omega, by simp; omega, h4⟩
  rw [List.length_append, List.length_singleton, List.take_add_one, h1, List.getElem?_eq_getElem hlt]
  have e := hs.2
  rw [List.getD_eq_getElem?_getD, List.getElem?_eq_getElem hlt] at e
  simp only [Option.getD_some] at e
  rw [e]; rfl
theorem At.mark {w : List Bytes} {k : Nat} {r : TRun} {l : List TRun} (h : At w k (r :: l)) (hd : r.marks.length ≠ w.length) : r.marks.getD w.length [] ∈ r.marks ∧ sameAt w.length (r.marks.getD w.length []) r = true := by
  obtain ⟨h1, h2, h3, h4⟩ := h r (by simp)
  have hlt : w.length < r.marks.length := by omega
  refine ⟨?_, ?_⟩
  · rw [List.getD_eq_getElem?_getD, List.getElem?_eq_getElem hlt]; exact List.getElem_mem hlt
  · unfold sameAt
    rw [beq_eq_false_iff_ne.2 hd]; simp
theorem At.drop {w : List Bytes} {k : Nat} {l : List TRun} (p : TRun → Bool) (h : At w k l) : At w k (l.dropWhile p) := fun q hq => h q ((List.dropWhile_suffix p).subset hq)
theorem drop_len {p : TRun → Bool} {r : TRun} {l : List TRun} (h : p r = true) : ((r :: l).dropWhile p).length ≤ l.length := by
  rw [List.dropWhile_cons, if_pos h]
  exact (List.dropWhile_suffix p).length_le
theorem take_pos {p : TRun → Bool} {r : TRun} {l : List TRun} (h : p r = true) : 1 ≤ ((r :: l).takeWhile p).length := by
  rw [List.takeWhile_cons, if_pos h]; simp

theorem nest_flat : ∀ (k : Nat) (w : List Bytes) (l : List TRun), At w k l → flatL w (nestD k l w.length) = l
  | 0, w, l, h => by
    cases l with
    | nil => rw [nestD, flatL]
    | cons r l => obtain ⟨_, h2, h3, _⟩ := h r (by simp); omega
  | k + 1, w, l, h => by
    have inner : ∀ (f : Nat) (l : List TRun), l.length ≤ f → At w (k + 1) l → flatL w (nestA (nestD k) f l w.length) = l := by
      intro f
      induction f with
      | zero =>
        intro l hl _
        cases List.eq_nil_of_length_eq_zero (Nat.le_zero.1 hl)
        rw [nestA, flatL]
      | succ f ih =>
        intro l hl h
        cases l with
        | nil => rw [nestA, flatL]
        | cons r l =>
          rw [nestA]
          by_cases hd : r.marks.length = w.length
          · rw [if_pos hd, flatL, ih l (by simpa using hl) (fun q hq => h q (by simp [hq]))]
            unfold tText
            rw [flatN, if_pos rfl, ← h.one hd]
            rfl
          · rw [if_neg hd]
            obtain ⟨hm, hs⟩ := h.mark hd
            have hg := nest_flat k _ _ (h.group (r.marks.getD w.length []))
            rw [List.length_append, List.length_singleton] at hg
            rw [flatL, ih _ (Nat.le_trans (drop_len hs) (by simpa using hl)) (h.drop _)]
            unfold tElem
            rw [flatN, if_neg ((h r (by simp)).2.2.2 _ hm), hg]
            exact take_drop_while _ _
    rw [nestD]
    exact inner _ l (Nat.le_refl _) h

/-- What is asked of marks as names. -/
def markOk (m : Bytes) : Bool := nameM m && !isRaw m && !isVoid m && !(m == []) && !(m == nP) && !(m == nLi) && decide (m.length ≤ 10)
theorem adj_drop {l : List TRun} (p : TRun → Bool) (h : adjR l = true) : adjR (l.dropWhile p) = true := by
  rw [← take_drop_while p l] at h
  exact (adjR_app _ _ h).2
theorem adj_take {l : List TRun} (p : TRun → Bool) (h : adjR l = true) : adjR (l.takeWhile p) = true := by
  rw [← take_drop_while p l] at h
  exact (adjR_app _ _ h).1
theorem nest_fault : ∀ (k : Nat) (w : List Bytes) (l : List TRun), w.length + k ≤ 10 → At w k l → (∀ r ∈ l, r.text ≠ [] ∧ ∀ m ∈ r.marks, markOk m = true) → adjR l = true → faultL w.length false (nestD k l w.length) = 0 ∧ calmL (nestD k l w.length) = true ∧ countL (nestD k l w.length) ≤ l.length * k
  | 0, w, l, _, h, _, _ => by
    cases l with
    | nil => rw [nestD, faultL, calmL, countL]; simp
    | cons r l => obtain ⟨_, h2, h3, _⟩ := h r (by simp); omega
  | k + 1, w, l, hk, h, ht, ha => by
    have inner : ∀ (f : Nat) (l : List TRun) (p : Bool), l.length ≤ f → At w (k + 1) l → (∀ r ∈ l, r.text ≠ [] ∧ ∀ m ∈ r.marks, markOk m = true) → adjR l = true → (p = true → ∀ r ∈ l.head?, r.marks ≠ w) →
        faultL w.length p (nestA (nestD k) f l w.length) = 0 ∧ calmL (nestA (nestD k) f l w.length) = true ∧ countL (nestA (nestD k) f l w.length) ≤ l.length * (k + 1) := by
      intro f
      induction f with
      | zero =>
        intro l p hl _ _ _ _
        cases List.eq_nil_of_length_eq_zero (Nat.le_zero.1 hl)
        rw [nestA, faultL, calmL, countL]; simp
      | succ f ih =>
        intro l p hl h ht ha hp
        cases l with
        | nil => rw [nestA, faultL, calmL, countL]; simp
        | cons r l =>
          rw [nestA]
          have h1 := adjR_tail ha
          have hd10 : ¬ 10 ≤ w.length := by omega
          by_cases hd : r.marks.length = w.length
          · rw [if_pos hd]
            have hw := h.one hd
            have hpf : p = false := by
              cases p with
              | false => rfl
              | true => exact absurd hw (hp rfl r rfl)
            obtain ⟨i1, i2, i3⟩ := ih l true (by simpa using hl) (fun q hq => h q (by simp [hq])) (fun q hq => ht q (by simp [hq])) h1.1 (fun _ q hq e => h1.2 q hq (by rw [hw, e]))
            have hf : faultN w.length p (tText r.text) = 0 := by
              unfold tText
              rw [faultN, if_neg hd10, if_pos rfl, hpf, beq_eq_false_iff_ne.2 (ht r (by simp)).1]; rfl
            refine ⟨?_, ?_, ?_⟩
            · rw [faultL, if_neg (by rw [hf]; simp)]; exact i1
            · rw [calmL, i2]
              unfold tText
              rw [calmN, calmL]; rfl
            · rw [countL]
              unfold tText
              rw [countN, countL, List.length_cons, Nat.add_mul]; omega
          · rw [if_neg hd]
            obtain ⟨hm, hs⟩ := h.mark hd
            generalize hM : r.marks.getD w.length [] = M at *
            have hok := (ht r (by simp)).2 M hm
            unfold markOk at hok
            simp only [Bool.and_eq_true, Bool.not_eq_true', beq_eq_false_iff_ne, decide_eq_true_eq] at hok
            obtain ⟨⟨⟨⟨⟨⟨o1, o2⟩, o3⟩, o4⟩, o5⟩, o6⟩, _⟩ := hok
            have hsub : ∀ q ∈ (r :: l).takeWhile (sameAt w.length M), q ∈ r :: l := fun q hq => (List.takeWhile_prefix _).subset hq
            have hg := nest_fault k _ _ (by simp; omega) (h.group M) (fun q hq => ht q (hsub q hq)) (adj_take _ ha)
            rw [List.length_append, List.length_singleton] at hg
            obtain ⟨g1, g2, g3⟩ := hg
            obtain ⟨i1, i2, i3⟩ := ih ((r :: l).dropWhile (sameAt w.length M)) false (Nat.le_trans (drop_len hs) (by simpa using hl)) (h.drop _) (fun q hq => ht q ((List.dropWhile_suffix _).subset hq)) (adj_drop _ ha) (fun e => by cases e)
            have hf : faultN w.length p (tElem M [] (nestD k ((r :: l).takeWhile (sameAt w.length M)) (w.length + 1))) = 0 := by
              unfold tElem
              rw [faultN, if_neg hd10, if_neg o4, o1, o2, o3, g1]; rfl
            refine ⟨?_, ?_, ?_⟩
            · rw [faultL, if_neg (by rw [hf]; simp)]
              have : ((tElem M [] (nestD k ((r :: l).takeWhile (sameAt w.length M)) (w.length + 1))).name == []) = false := beq_eq_false_iff_ne.2 o4
              rw [this]; exact i1
            · rw [calmL, i2]
              unfold tElem
              rw [calmN, g2, beq_eq_false_iff_ne.2 o5, beq_eq_false_iff_ne.2 o6]; rfl
            · rw [countL]
              unfold tElem
              rw [countN]
              have e := congrArg List.length (take_drop_while (sameAt w.length M) (r :: l))
              rw [List.length_append] at e
              have e2 := take_pos (l := l) hs
              rw [← e, Nat.add_mul]
              generalize ((r :: l).takeWhile (sameAt w.length M)).length = x at *
              rw [Nat.mul_add, Nat.mul_one]
              omega
    rw [nestD]
    exact inner _ l false (Nat.le_refl _) h ht ha (fun e => by cases e)
theorem keep_sub (ms r : List Bytes) : (keepMs ms r).length ≤ ms.length ∧ ∀ m ∈ keepMs ms r, m ∈ ms := ⟨List.length_filter_le _ _, fun _ hm => (List.mem_filter.1 hm).1⟩

/-- Runs of known marks: their nest is a tree that is written and read, and lays flat as they. -/
theorem marks_law (ms : List Bytes) (l : List TRun) (h3 : ms.length ≤ 3) (hm : ∀ m ∈ ms, markOk m = true) :
    faultL 0 false (nestD 4 (normM ms l) 0) = 0 ∧ calmL (nestD 4 (normM ms l) 0) = true ∧ countL (nestD 4 (normM ms l) 0) ≤ (normM ms l).length * 4 ∧ flatL [] (nestD 4 (normM ms l) 0) = normM ms l ∧ normM ms (normM ms l) = normM ms l := by
  obtain ⟨h1, h2⟩ := normM_ok ms l
  have hat : At [] 4 (normM ms l) := by
    intro r hr
    have hk := (h1 r hr).marks
    have hs := keep_sub ms r.marks
    rw [hk] at hs
    refine ⟨rfl, Nat.zero_le _, by simp; omega, fun m hmr => ?_⟩
    have := hm m (hs.2 m hmr)
    unfold markOk at this
    simp only [Bool.and_eq_true, Bool.not_eq_true', beq_eq_false_iff_ne] at this
    exact this.1.1.1.2
  have hf := nest_fault 4 [] (normM ms l) (by simp) hat (fun r hr => ⟨(h1 r hr).text, fun m hmr => by
    have hk := (h1 r hr).marks
    rw [← hk] at hmr
    exact hm m ((keep_sub ms r.marks).2 m hmr)⟩) h2
  exact ⟨hf.1, hf.2.1, hf.2.2, nest_flat 4 [] _ hat, normM_id h1 h2⟩

end Go.Proofs.YtjkgmdnkejjppaaGreatDoor
/- Slices of strings and of runs as a reader sees them; runs in a row of the call's own; one run appended. -/
namespace Go.Proofs.YtjkgmdnkejjppaaGreatDoor
open Go Go.RowKit

/-- A slice of strings, at whatever place of its block. -/
def SView (w : World) (v : Value) (l : List Bytes) : Prop :=
  (∃ a e, v = .slice a l.length (l.length + e)) ∧ ∀ i p, l[i]? = some p → ∃ g o e, v = .slice (some ⟨g, o, none⟩) l.length (l.length + e) ∧ (∃ cs, w.heap[g]? = some (.cells cs 9 (0, 0))) ∧ w.cell? ⟨g, o + i, none⟩ = some (.string (mk p))
theorem SView.nil (w : World) : SView w (.slice none 0 0) [] := ⟨⟨none, 0, rfl⟩, fun i p h => by simp at h⟩
theorem SView.stay {w w' : World} {v : Value} {l : List Bytes} (h : SView w v l) (hk : ∀ (g : Nat) (cs : Array Value), w.heap[g]? = some (.cells cs 9 (0, 0)) → w'.heap[g]? = w.heap[g]?) : SView w' v l :=
  ⟨h.1, fun i p hi => by
    obtain ⟨g, o, e, h1, ⟨cs, h2⟩, h3⟩ := h.2 i p hi
    have ee := hk g cs h2
    exact ⟨g, o, e, h1, ⟨cs, ee.trans h2⟩, (World.cell?_of_block (w := w) (w' := w') (a := ⟨g, o + i, none⟩) ee).trans h3⟩⟩
theorem SView.older {w w' : World} {v : Value} {l : List Bytes} (h : SView w v l) (hk : Older w w') : SView w' v l := h.stay fun g _ hg => hk.2 g (lt_of_block hg)
theorem SRow.sview {B : Nat} {w : World} {v : Value} {l : List Bytes} (h : SRow B w v l) : SView w v l := by
  rcases h.2 with ⟨hv, h0⟩ | ⟨g, cap, cur, hv, _, hg, hc, _, _⟩
  · have hl : l = [] := List.eq_nil_of_length_eq_zero h0
    subst hl; subst hv
    exact SView.nil w
  · refine ⟨⟨_, cap - l.length, by rw [hv]; congr 1; omega⟩, fun i p hi => ⟨g, 0, cap - l.length, by rw [hv]; congr 1; omega, ⟨cur, hg⟩, ?_⟩⟩
    have := h.cells (g := g) (by rw [hv]; rfl) i (.string (mk p)) (by rw [List.getElem?_map, hi]; rfl)
    have hadd : (⟨g, 0, none⟩ : Addr).add i = ⟨g, i, none⟩ := by unfold Addr.add; split <;> simp_all
    rw [hadd] at this
    rw [Nat.zero_add]; exact this

/-- A slice of runs, at whatever place of its block. -/
def RView (w : World) (v : Value) (l : List TRun) : Prop :=
  (∃ a e, v = .slice a l.length (l.length + e)) ∧ ∀ i r, l[i]? = some r → ∃ g o e mv, v = .slice (some ⟨g, o, none⟩) l.length (l.length + e) ∧ (∃ cs, w.heap[g]? = some (.cells cs 46 (0, 0))) ∧
    w.cell? ⟨g, o + i * 2, none⟩ = some (.string (mk r.text)) ∧ w.cell? ⟨g, o + i * 2 + 1, none⟩ = some mv ∧ SView w mv r.marks
theorem RView.stay {w w' : World} {v : Value} {l : List TRun} (h : RView w v l) (hs : ∀ (g : Nat) (cs : Array Value), w.heap[g]? = some (.cells cs 9 (0, 0)) → w'.heap[g]? = w.heap[g]?) (hk : ∀ (g : Nat) (cs : Array Value), w.heap[g]? = some (.cells cs 46 (0, 0)) → w'.heap[g]? = w.heap[g]?) : RView w' v l :=
  ⟨h.1, fun i r hi => by
    obtain ⟨g, o, e, mv, h1, ⟨cs, h2⟩, h3, h4, h5⟩ := h.2 i r hi
    have ee := hk g cs h2
    have c := fun o => World.cell?_of_block (w := w) (w' := w') (a := ⟨g, o, none⟩) ee
    exact ⟨g, o, e, mv, h1, ⟨cs, ee.trans h2⟩, (c _).trans h3, (c _).trans h4, h5.stay hs⟩⟩
theorem RView.older {w w' : World} {v : Value} {l : List TRun} (h : RView w v l) (hk : Older w w') : RView w' v l := h.stay (fun g _ hg => hk.2 g (lt_of_block hg)) fun g _ hg => hk.2 g (lt_of_block hg)

def runCell (p : TRun × Value) : List Value := [.string (mk p.1.text), p.2]
def runCells (l : List (TRun × Value)) : List Value := l.flatMap runCell
theorem runCells_append (a b : List (TRun × Value)) : runCells (a ++ b) = runCells a ++ runCells b := by simp [runCells]
theorem runCells_get : ∀ (ps : List (TRun × Value)) (i : Nat) (p : TRun × Value), ps[i]? = some p → (runCells ps)[i * 2]? = some (.string (mk p.1.text)) ∧ (runCells ps)[i * 2 + 1]? = some p.2
  | [], i, p, h => by simp at h
  | a :: ps, i, p, h => by
    have e : runCells (a :: ps) = .string (mk a.1.text) :: a.2 :: runCells ps := by simp [runCells, runCell]
    cases i with
    | zero => simp at h; subst h; rw [e]; exact ⟨rfl, rfl⟩
    | succ i =>
      simp at h
      have := runCells_get ps i p h
      rw [e, show (i + 1) * 2 = i * 2 + 2 by omega]
      simpa using this
/-- Runs in a row of the call's own; their marks wherever. -/
def RunOwn (B : Nat) (w : World) (v : Value) (l : List TRun) : Prop :=
  ∃ ps : List (TRun × Value), ps.map Prod.fst = l ∧ w.ownsRow B 46 2 v ps.length (runCells ps) ∧ ∀ p ∈ ps, SView w p.2 p.1.marks
theorem RunOwn.nil (B : Nat) (w : World) : RunOwn B w (.slice none 0 0) [] := ⟨[], rfl, World.ownsRow_nil w B _ _, fun p hp => by cases hp⟩
theorem RunOwn.older {B : Nat} {w w' : World} {v : Value} {l : List TRun} (h : RunOwn B w v l) (hk : Older w w') : RunOwn B w' v l := by
  obtain ⟨ps, h1, h2, h3⟩ := h
  exact ⟨ps, h1, ownsRow_kept h2 fun g c _ hg => (hk.2 g (lt_of_block hg)).trans hg, fun p hp => (h3 p hp).older hk⟩
theorem RunOwn.view {B : Nat} {w : World} {v : Value} {l : List TRun} (h : RunOwn B w v l) : RView w v l := by
  obtain ⟨ps, rfl, hown, hat⟩ := h
  have hlen : (ps.map Prod.fst).length = ps.length := List.length_map _
  rcases hown.2 with ⟨hv, h0⟩ | ⟨g, cap, cur, hv, _, hg, hc, _, _⟩
  · have hl : ps = [] := List.eq_nil_of_length_eq_zero h0
    subst hl; subst hv
    exact ⟨⟨none, 0, rfl⟩, fun i p h => by simp at h⟩
  · refine ⟨⟨_, cap - ps.length, by rw [hv, hlen]; congr 1; omega⟩, fun i r hi => ?_⟩
    rw [List.getElem?_map] at hi
    obtain ⟨p, hp, rfl⟩ := Option.map_eq_some_iff.1 hi
    have hc2 := runCells_get ps i p hp
    have k := fun j u hu => hown.cells (g := g) (by rw [hv]; rfl) j u hu
    have hadd : ∀ j, (⟨g, 0, none⟩ : Addr).add j = ⟨g, j, none⟩ := fun j => by unfold Addr.add; split <;> simp_all
    have k0 := k _ _ hc2.1
    have k1 := k _ _ hc2.2
    rw [hadd] at k0 k1
    exact ⟨g, 0, cap - ps.length, p.2, by rw [hv, hlen]; congr 1; omega, ⟨cur, hg⟩, by rw [Nat.zero_add]; exact k0, by rw [Nat.zero_add]; exact k1, hat p (List.mem_of_getElem? hp)⟩
theorem infoRun : (Tryz.prog.info? 46).map (fun i => (i.zero, i.size, i.bytes)) = some (some (.agg #[.string ⟨#[]⟩, .slice none 0 0]), 2, 40) := by kernel_rfl
/-- What was appended to the row leaves rows of strings as they are. -/
theorem run_stay_str {B n : Nat} {w w' : World} {tv : Value} {cells : List Value} (hown : w.ownsRow B 46 2 tv n cells) (hg : w.grownBy w' tv.ownBlock) (g : Nat) (cs : Array Value) (h : w.heap[g]? = some (.cells cs 9 (0, 0))) : w'.heap[g]? = w.heap[g]? :=
  hg.block g (lt_of_block h) (by
    intro e
    rcases hown.2 with ⟨hv0, _⟩ | ⟨g0, cap0, cur0, hv0, _, hg0, _⟩
    · rw [hv0] at e; cases e
    · rw [hv0] at e
      have e' : g = g0 := by injection e
      rw [e', hg0] at h
      injection h with h; injection h with _ h2 _
      exact absurd h2 (by decide))
/-- A cell of the row written. -/
theorem ownsRow_write {B size n g cap : Nat} {w : World} {e : TypeId} {xs : List Value} (h : w.ownsRow B e size (.slice (some ⟨g, 0, none⟩) n cap) n xs) (i : Nat) (u : Value) :
    (w.setCell ⟨g, i, none⟩ u).ownsRow B e size (.slice (some ⟨g, 0, none⟩) n cap) n (xs.set i u) := by
  refine ⟨by rw [List.length_set]; exact h.1, ?_⟩
  rcases h.2 with ⟨hv, _⟩ | ⟨g', cap', cur, hv, hB, hg, hc, hm, hcs, ht⟩
  · cases hv
  · cases hv
    refine .inr ⟨g, cap, cur.setIfInBounds i u, rfl, hB, ?_, hc, hm, by simpa using hcs, ?_⟩
    · simp [World.setCell, Array.getElem?_modify, hg]
    · rw [Array.toList_setIfInBounds, ← ht, List.take_set]
/-- The row as the append sees it, and what it is behind one run more. -/
theorem RunOwn.row {B : Nat} {w : World} {v : Value} {l : List TRun} (h : RunOwn B w v l) : ∃ cells, w.ownsRow B 46 2 v l.length cells ∧ ∀ (r : TRun) (mv v' : Value) (w' : World), SView w mv r.marks → w.grownBy w' v.ownBlock →
    w'.ownsRow B 46 2 v' (l.length + 1) (cells ++ [.string (mk r.text), mv]) → RunOwn B w' v' (l ++ [r]) := by
  obtain ⟨ps, rfl, hown, hat⟩ := h
  refine ⟨runCells ps, by rw [List.length_map]; exact hown, fun r mv v' w' hm hg ho => ⟨ps ++ [(r, mv)], by simp, ?_, fun p hp => ?_⟩⟩
  · rw [runCells_append, List.length_append]
    rw [List.length_map] at ho
    exact ho
  · rcases List.mem_append.1 hp with hp | hp
    · exact (hat p hp).stay fun g cs h => run_stay_str hown hg g cs h
    · cases List.mem_singleton.1 hp
      exact hm.stay fun g cs h => run_stay_str hown hg g cs h
end Go.Proofs.YtjkgmdnkejjppaaGreatDoor
/- Walks over views of strings: slices.Index, slices.Contains. -/
namespace Go.Proofs.YtjkgmdnkejjppaaGreatDoor
open Go Go.RowKit

set_option maxHeartbeats 1000000 in
theorem indexV_any (v : Value) (l : List Bytes) (s : Bytes) (hl : l.length ≤ 1000000) (w : World) (h : SView w v l) :
    Calls Tryz.prog 71 #[v, .string (mk s)] w fun e w' => ∃ i : Int, e = .returned (.int .i64 i) ∧ (0 ≤ i ↔ s ∈ l) ∧ w = w' := by
  obtain ⟨⟨a, e0, rfl⟩, hcells⟩ := h
  have HS := Lib.hid hcells
  clear hcells
  go_enter Tryz.func71, Tryz.ntmps71
  go_wp2_with fail
  go_loop [8] (fun i => ∃ k : Nat, k ≤ l.length ∧ i = .int .i64 k ∧ Hid (∀ j, j < k → l[j]? ≠ some s)) (fun i => l.length - (intOf i).toNat)
  case atStart => exact ⟨0, by omega, rfl, Lib.hid (fun j hj => by omega)⟩
  case round =>
    obtain ⟨k, hk, rfl, hno⟩ := hrel
    by_cases hlt : k < l.length
    · obtain ⟨x, hx⟩ : ∃ x, l[k]? = some x := ⟨_, List.getElem?_eq_getElem hlt⟩
      obtain ⟨g, o, e1, hv, _, hc⟩ := HS.out k x hx
      obtain rfl : a = some ⟨g, o, none⟩ := by simp at hv; exact hv.1
      have HX := Lib.hid hx
      clear hx hv
      have k0 : (0 : Int) ≤ k := by omega
      have k1 : (k : Int) < l.length := by omega
      by_cases he : s = x
      · have he1 : ((mk s).toList == (mk x).toList) = true := by rw [he]; exact beq_self_eq_true _
        have he2 : (mk s).toList = (mk x).toList := by rw [he]
        have HE := Lib.hid he
        clear he he2
        have HE2 := he1
        go_wp2_with fail
        all_goals first
          | (go_ret; exact ⟨_, rfl, ⟨fun _ => by rw [HE.out]; exact List.mem_of_getElem? HX.out, fun _ => k0⟩, rfl⟩)
          | (exfalso; rename_i hh; exact hh (by rw [HE.out]))
      · have he1 : ((mk s).toList == (mk x).toList) = false := beq_eq_false_iff_ne.2 (by rw [toList_mk, toList_mk]; exact he)
        have he2 : ¬ (mk s).toList = (mk x).toList := by rw [toList_mk, toList_mk]; exact he
        have HN := Lib.hid (show ∀ j, j < k + 1 → l[j]? ≠ some s from fun j hj => by
          by_cases hjk : j = k
          · subst hjk; rw [HX.out]; intro h; exact he (Option.some.inj h).symm
          · exact hno.out j (by omega))
        clear he
        go_wp2_with fail
        go_round
        case rel => exact ⟨k + 1, by omega, by go_num, HN⟩
        case measure => simp [intOf]; omega
    · obtain rfl : k = l.length := by omega
      go_wp2_with fail
      go_ret
      refine ⟨-1, rfl, ⟨fun h => by omega, fun hm => ?_⟩, rfl⟩
      obtain ⟨j, hj⟩ := List.getElem?_of_mem hm
      exact absurd hj (hno.out j (List.getElem?_eq_some_iff.1 hj).1)

theorem containsV_any (v : Value) (l : List Bytes) (s : Bytes) (hl : l.length ≤ 1000000) (w : World) (h : SView w v l) :
    Calls Tryz.prog 46 #[v, .string (mk s)] w fun e w' => e = .returned (.bool (l.contains s)) ∧ w = w' := by
  have HI := Lib.hid (indexV_any v l s hl w h)
  clear h
  go_enter Tryz.func46, Tryz.ntmps46
  go_wp2_with fail
  refine HI.out.mono ?_
  rintro e w' ⟨i, rfl, hi, rfl⟩
  have hb : l.contains s = decide (0 ≤ i) := by rw [Bool.eq_iff_iff]; simp [hi]
  have HB := Lib.hid hb
  clear hi hb
  go_wp2_with fail
  go_ret
  exact ⟨by rw [HB.out]; rfl, rfl⟩

theorem take_eq_succ {l m : List Bytes} {k : Nat} {x : Bytes} (h : l.take k = m.take k) (h1 : l[k]? = some x) (h2 : m[k]? = some x) : l.take (k + 1) = m.take (k + 1) := by
  rw [List.take_add_one, List.take_add_one, h, h1, h2]

set_option maxHeartbeats 1000000 in
theorem equalV_any (v1 v2 : Value) (l m : List Bytes) (hl : l.length ≤ 1000000) (w : World) (h1 : SView w v1 l) (h2 : SView w v2 m) :
    Calls Tryz.prog 47 #[v1, v2] w fun e w' => e = .returned (.bool (l == m)) ∧ ∃ n, w' = w.drewN n := by
  obtain ⟨⟨a, e0, rfl⟩, hc1⟩ := h1
  obtain ⟨⟨b, e1, rfl⟩, hc2⟩ := h2
  have HS := Lib.hid hc1
  have HT := Lib.hid hc2
  clear hc1 hc2
  by_cases hlen : l.length = m.length
  · have f1 : ((l.length : Int) == (m.length : Int)) = true := beq_iff_eq.2 (by omega)
    obtain ⟨r, hr⟩ : ∃ r, (l == m) = r := ⟨_, rfl⟩
    rw [hr]
    have HR := Lib.hid hr
    clear hr
    go_enter Tryz.func47, Tryz.ntmps47
    go_wp2_with fail
    go_loopw [13] (fun vk wr => ∃ (k : Nat) (W : World), W = wr ∧ vk = .int .i64 k ∧ k ≤ l.length ∧ Hid (∃ n, W = w.drewN n) ∧ Hid (l.take k = m.take k)) (fun vk _ => l.length - (intOf vk).toNat)
    case atStart => exact ⟨0, _, rfl, rfl, by omega, Lib.hid ⟨0, rfl⟩, Lib.hid (by rw [List.take_zero, List.take_zero])⟩
    case round =>
      obtain ⟨k, W, rfl, rfl, hk, hW, hE⟩ := hrel
      by_cases hlt : k < l.length
      · obtain ⟨x, hx⟩ : ∃ x, l[k]? = some x := ⟨_, List.getElem?_eq_getElem hlt⟩
        obtain ⟨y, hy⟩ : ∃ y, m[k]? = some y := ⟨_, List.getElem?_eq_getElem (by omega)⟩
        obtain ⟨g1, o1, _, hv1, _, d1⟩ := HS.out k x hx
        obtain ⟨g2, o2, _, hv2, _, d2⟩ := HT.out k y hy
        obtain rfl : a = some ⟨g1, o1, none⟩ := by simp at hv1; exact hv1.1
        obtain rfl : b = some ⟨g2, o2, none⟩ := by simp at hv2; exact hv2.1
        have hcl : ∀ p, W.cell? p = w.cell? p := by obtain ⟨n, hn⟩ := hW.out; rw [hn]; exact fun _ => rfl
        rw [← hcl] at d1 d2
        have k0 : (0 : Int) ≤ k := by omega
        have k1 : (k : Int) < l.length := by omega
        have k2 : (k : Int) < m.length := by omega
        have HX := Lib.hid hx
        have HY := Lib.hid hy
        clear hv1 hv2 hx hy hcl
        by_cases he : x = y
        · subst he
          have HE2 := Lib.hid (take_eq_succ hE.out HX.out HY.out)
          go_wp2_with fail
          go_quiet (fail)
          have hW3 := Lib.hid (show ∃ n, W.drewN nq = w.drewN n by obtain ⟨n, hn⟩ := hW.out; exact ⟨n + nq, by rw [hn, World.drewN_drewN]⟩)
          go_wp2_with fail
          go_roundw
          case rel => exact ⟨k + 1, _, rfl, by go_num, by omega, hW3, HE2⟩
          case measure => simp [intOf]; omega
        · have HN := Lib.hid (show (l == m) = false from beq_eq_false_iff_ne.2 fun e => he (by have h := HX.out; rw [e, HY.out] at h; exact (Option.some.inj h).symm))
          have f2 : ((mk x).toList == (mk y).toList) = false := beq_eq_false_iff_ne.2 (by rw [toList_mk, toList_mk]; exact he)
          have f3 : ¬ (mk x).toList = (mk y).toList := by rw [toList_mk, toList_mk]; exact he
          clear he
          go_wp2_with fail
          go_quiet (fail)
          have hW3 := Lib.hid (show ∃ n, W.drewN nq = w.drewN n by obtain ⟨n, hn⟩ := hW.out; exact ⟨n + nq, by rw [hn, World.drewN_drewN]⟩)
          go_wp2_with fail
          go_ret
          exact ⟨by rw [← HR.out, HN.out]; rfl, hW3.out⟩
      · obtain rfl : k = l.length := by omega
        have HY := Lib.hid (show (l == m) = true from beq_iff_eq.2 (by have h := hE.out; rw [List.take_length, hlen, List.take_length] at h; exact h))
        go_wp2_with fail
        go_ret
        exact ⟨by rw [← HR.out, HY.out]; rfl, hW.out⟩
  · have f1 : ((l.length : Int) == (m.length : Int)) = false := beq_eq_false_iff_ne.2 (by omega)
    have HN := Lib.hid (show (l == m) = false from beq_eq_false_iff_ne.2 fun e => hlen (by rw [e]))
    rw [HN.out]
    clear hlen HN
    go_enter Tryz.func47, Tryz.ntmps47
    go_wp2_with fail
    go_ret
    exact ⟨rfl, 0, rfl⟩
end Go.Proofs.YtjkgmdnkejjppaaGreatDoor
