/- The nest of the drawn runs: what is asked of it where it is written, read and laid flat. Nothing of the program here. -/
import Derived.Test.YtjkgmdnkejjppaaGreatDoorJQLawB
import Derived.Test.YtjkgmdnkejjppaaGreatDoorGj
namespace Go.Proofs.YtjkgmdnkejjppaaGreatDoor
open Go Go.RowKit

theorem nestA_fuel (N : List TRun → Nat → List TNode) (d : Nat) : ∀ (f g : Nat) (l : List TRun), l.length ≤ f → l.length ≤ g → (∀ r ∈ l, d ≤ r.marks.length) → nestA N f l d = nestA N g l d
  | f, g, [], _, _, _ => by cases f <;> cases g <;> rfl
  | 0, _, _ :: _, h, _, _ => by simp at h
  | _ + 1, 0, _ :: _, _, h, _ => by simp at h
  | f + 1, g + 1, r :: l, hf, hg, hd => by
    have hf' : l.length ≤ f := by simpa using hf
    have hg' : l.length ≤ g := by simpa using hg
    rw [nestA, nestA]
    by_cases h : r.marks.length = d
    · rw [if_pos h, if_pos h, nestA_fuel N d f g l hf' hg' fun q hq => hd q (by simp [hq])]
    · rw [if_neg h, if_neg h]
      have hs : sameAt d (r.marks.getD d []) r = true := by unfold sameAt; rw [beq_eq_false_iff_ne.2 h]; simp
      have hl := drop_len (l := l) hs
      rw [nestA_fuel N d f g _ (by omega) (by omega) fun q hq => hd q ((List.dropWhile_suffix _).subset hq)]
/-- One step. -/
def nestS (k : Nat) (l : List TRun) (d : Nat) : List TNode := nestA (nestD k) l.length l d
theorem nestD_S (k : Nat) (l : List TRun) (d : Nat) : nestD (k + 1) l d = nestS k l d := rfl
theorem nestS_nil (k d : Nat) : nestS k [] d = [] := rfl
theorem nestS_text (k d : Nat) (r : TRun) (l : List TRun) (h : r.marks.length = d) : nestS k (r :: l) d = tText r.text :: nestS k l d := by
  unfold nestS; rw [List.length_cons, nestA, if_pos h]
theorem nestS_elem (k d : Nat) (r : TRun) (l : List TRun) (h : r.marks.length ≠ d) (hd : ∀ q ∈ r :: l, d ≤ q.marks.length) :
    nestS k (r :: l) d = tElem (r.marks.getD d []) [] (nestD k ((r :: l).takeWhile (sameAt d (r.marks.getD d []))) (d + 1)) :: nestS k ((r :: l).dropWhile (sameAt d (r.marks.getD d []))) d := by
  unfold nestS
  rw [List.length_cons, nestA, if_neg h]
  have hs : sameAt d (r.marks.getD d []) r = true := by unfold sameAt; rw [beq_eq_false_iff_ne.2 h]; simp
  have hl := drop_len (l := l) hs
  rw [nestA_fuel (nestD k) d l.length _ _ hl (Nat.le_refl _) fun q hq => hd q ((List.dropWhile_suffix _).subset hq)]

/-- Nodes as the nest has them. -/
def GoodM : Nat → List TNode → Prop
  | 0, l => l = []
  | d + 1, l => ∀ t ∈ l, (∃ x, x.length ≤ 200 ∧ t = tText x) ∨ ∃ n ps, n ∈ rMarks ∧ GoodM d ps ∧ t = tElem n [] ps
theorem GoodM.nil : ∀ k, GoodM k []
  | 0 => rfl
  | _ + 1 => fun t ht => by cases ht
/-- What is asked of runs. -/
def RunIn (d k : Nat) (r : TRun) : Prop := r.text.length ≤ 200 ∧ (∀ m ∈ r.marks, m ∈ rMarks) ∧ d ≤ r.marks.length ∧ r.marks.length < d + k
theorem getD_mem {ms : List Bytes} {d : Nat} (h : d < ms.length) : ms.getD d [] ∈ ms := by
  rw [List.getD_eq_getElem?_getD, List.getElem?_eq_getElem h]; exact List.getElem_mem h
theorem runIn_group {d k : Nat} {m : Bytes} {l : List TRun} (h : ∀ r ∈ l, RunIn d (k + 1) r) : ∀ r ∈ l.takeWhile (sameAt d m), RunIn (d + 1) k r := by
  intro r hr
  obtain ⟨h1, h2, h3, h4⟩ := h r ((List.takeWhile_prefix _).subset hr)
  have hs := tw_imp hr
  unfold sameAt at hs
  rw [Bool.and_eq_true, Bool.not_eq_true', beq_eq_false_iff_ne] at hs
  have := hs.1
  exact ⟨h1, h2, by omega, by omega⟩
theorem nest_good : ∀ (k d : Nat) (l : List TRun), (∀ r ∈ l, RunIn d k r) → GoodM k (nestD k l d)
  | 0, d, l, h => by rw [nestD]; rfl
  | k + 1, d, l, h => by
    have inner : ∀ (f : Nat) (l : List TRun), (∀ r ∈ l, RunIn d (k + 1) r) → GoodM (k + 1) (nestA (nestD k) f l d) := by
      intro f
      induction f with
      | zero => intro l _; rw [nestA]; exact GoodM.nil _
      | succ f ih =>
        intro l h
        cases l with
        | nil => rw [nestA]; exact GoodM.nil _
        | cons r l =>
          obtain ⟨h1, h2, h3, h4⟩ := h r (by simp)
          rw [nestA]
          by_cases hd : r.marks.length = d
          · rw [if_pos hd]
            have i := ih l (fun q hq => h q (by simp [hq]))
            intro t ht
            rcases List.mem_cons.1 ht with rfl | ht
            · exact .inl ⟨_, h1, rfl⟩
            · exact i t ht
          · rw [if_neg hd]
            have i := ih _ (fun q hq => h q ((List.dropWhile_suffix (sameAt d (r.marks.getD d []))).subset hq))
            intro t ht
            rcases List.mem_cons.1 ht with rfl | ht
            · exact .inr ⟨_, _, h2 _ (getD_mem (by omega)), nest_good k (d + 1) _ (runIn_group h), rfl⟩
            · exact i t ht
    rw [nestD]
    exact inner _ l h
theorem rMarks_facts : ∀ n ∈ rMarks, n ≠ [] ∧ n.length ≤ 10 ∧ isVoid n = false := by decide
theorem goodM_sz : ∀ (d : Nat) (l : List TNode), GoodM d l → SzL l
  | 0, l, h => by cases (show l = [] from h); rw [SzL]; trivial
  | d + 1, l, h => by
    refine SzL.of fun t ht => ?_
    rcases h t ht with ⟨x, hx, rfl⟩ | ⟨n, ps, hn, hps, rfl⟩
    · unfold tText; rw [SzN]
      exact ⟨⟨by simp, by omega, by simp, fun b hb => by cases hb⟩, by rw [SzL]; trivial⟩
    · unfold tElem; rw [SzN]
      have := (rMarks_facts n hn).2.1
      exact ⟨⟨by omega, by simp, by simp, fun b hb => by cases hb⟩, goodM_sz d ps hps⟩
def TkOkQ (u : TTok) : Prop := (u.kind = 1 ∨ u.kind = 2 ∨ u.kind = 3 ∨ u.kind = 4) ∧ (u.kind = 1 → u.name ≠ []) ∧ u.attrs.length ≤ 1000000 ∧ u.text.length ≤ 200
theorem tkQ_mem : ∀ (l : List TNode) (Q : TTok → Prop), (∀ t ∈ l, ∀ u ∈ tkN t, Q u) → ∀ u ∈ tkL l, Q u
  | [], Q, _, u, hu => by rw [tkL] at hu; cases hu
  | t :: l, Q, h, u, hu => by
    rw [tkL] at hu
    rcases List.mem_append.1 hu with hu | hu
    · exact h t (by simp) u hu
    · exact tkQ_mem l Q (fun x hx => h x (by simp [hx])) u hu
theorem goodM_tk : ∀ (d : Nat) (l : List TNode), GoodM d l → ∀ u ∈ tkL l, TkOkQ u
  | 0, l, h => by cases (show l = [] from h); rw [tkL]; intro u hu; cases hu
  | d + 1, l, h => by
    refine tkQ_mem l TkOkQ fun t ht u hu => ?_
    rcases h t ht with ⟨x, hx, rfl⟩ | ⟨n, ps, hn, hps, rfl⟩
    · unfold tText at hu
      rw [tkN, if_pos rfl] at hu
      cases List.mem_singleton.1 hu
      exact ⟨.inr (.inr (.inl rfl)), fun h => (by cases h), by show 0 ≤ 1000000; omega, hx⟩
    · obtain ⟨k4, _, k3⟩ := rMarks_facts n hn
      unfold tElem at hu
      rw [tkN, if_neg k4, if_neg (by rw [k3]; simp)] at hu
      rcases List.mem_cons.1 hu with rfl | hu
      · exact ⟨.inl rfl, fun _ => k4, by show 0 ≤ 1000000; omega, by show 0 ≤ 200; omega⟩
      · rcases List.mem_append.1 hu with hu | hu
        · exact goodM_tk d ps hps u hu
        · cases List.mem_singleton.1 hu
          exact ⟨.inr (.inl rfl), fun h => (by cases h), by show 0 ≤ 1000000; omega, by show 0 ≤ 200; omega⟩
theorem textSum_capQ (m : Nat) : ∀ l : List TTok, (∀ u ∈ l, u.text.length ≤ m) → textSum l ≤ l.length * m
  | [], _ => Nat.zero_le _
  | t :: l, h => by
    have h1 := h t (by simp)
    have h2 := textSum_capQ m l fun u hu => h u (by simp [hu])
    have e : textSum (t :: l) = t.text.length + textSum l := rfl
    rw [e, List.length_cons, Nat.add_mul]; omega
theorem deep_countQ : ∀ l : List TNode, deepL l ≤ countL l
  | [] => by rw [deepL, countL]; exact Nat.le_refl _
  | .mk n a t ps :: l => by
    have h1 := deep_countQ ps
    have h2 := deep_countQ l
    rw [deepL, countL, deepN, countN]; omega

theorem addRun_tsum (acc : List TRun) (n : TRun) : ((addRun acc n).map fun r => r.text.length).sum ≤ (acc.map fun r => r.text.length).sum + n.text.length ∧ (addRun acc n).length ≤ acc.length + 1 ∧ ∀ r ∈ addRun acc n, (∃ u ∈ acc, r.marks = u.marks) ∨ r.marks = n.marks := by
  unfold addRun
  cases acc with
  | nil =>
    by_cases h : n.text = []
    · simp [h]
    · simp [h]
  | cons u a =>
    by_cases h1 : u.marks = n.marks
    · simp only [h1, if_true]
      refine ⟨by simp; omega, by simp, fun r hr => ?_⟩
      rcases List.mem_cons.1 hr with rfl | hr
      · exact .inr rfl
      · exact .inl ⟨r, by simp [hr], rfl⟩
    · simp only [if_neg h1]
      by_cases h : n.text = []
      · rw [if_pos h]
        exact ⟨by omega, by omega, fun r hr => .inl ⟨r, hr, rfl⟩⟩
      · rw [if_neg h]
        refine ⟨by simp; omega, by simp, fun r hr => ?_⟩
        rcases List.mem_cons.1 hr with rfl | hr
        · exact .inr rfl
        · exact .inl ⟨r, hr, rfl⟩
theorem normR_tsum (ms : List Bytes) : ∀ (l acc : List TRun), ((normR ms acc l).map fun r => r.text.length).sum ≤ (acc.map fun r => r.text.length).sum + (l.map fun r => r.text.length).sum ∧ (normR ms acc l).length ≤ acc.length + l.length
  | [], acc => by show _ ∧ acc.length ≤ _; simp [normR]
  | r :: l, acc => by
    have h := addRun_tsum acc ⟨r.text, keepMs ms r.marks⟩
    have i := normR_tsum ms l (addRun acc ⟨r.text, keepMs ms r.marks⟩)
    have e : normR ms acc (r :: l) = normR ms (addRun acc ⟨r.text, keepMs ms r.marks⟩) l := rfl
    rw [e]
    simp only [List.map_cons, List.sum_cons, List.length_cons]
    have h1 := h.1
    have h2 := h.2.1
    simp only at h1
    omega
theorem sum_ge {α : Type} (f : α → Nat) : ∀ (l : List α) (x : α), x ∈ l → f x ≤ (l.map f).sum
  | a :: l, x, h => by
    rw [List.map_cons, List.sum_cons]
    rcases List.mem_cons.1 h with rfl | h
    · omega
    · have := sum_ge f l x h; omega
theorem sum_le {α : Type} (f : α → Nat) (m : Nat) : ∀ (l : List α), (∀ x ∈ l, f x ≤ m) → (l.map f).sum ≤ l.length * m
  | [], _ => by simp
  | a :: l, h => by
    have h1 := h a (by simp)
    have h2 := sum_le f m l fun x hx => h x (by simp [hx])
    rw [List.map_cons, List.sum_cons, List.length_cons, Nat.add_mul]; omega

/-- The drawn runs, made normal. -/
theorem norm_runs (l : List Int) (n : Nat) (hn : n ≤ 60) : (∀ r ∈ normM rMarks (runsM l n), RunIn 0 4 r) ∧ (normM rMarks (runsM l n)).length ≤ n := by
  have hl : (runsM l n).length ≤ n := by unfold runsM; rw [List.length_map, List.length_take]; omega
  have ht : ∀ r ∈ runsM l n, r.text.length ≤ 2 := fun r hr => by
    unfold runsM at hr
    obtain ⟨x, _, rfl⟩ := List.mem_map.1 hr
    exact runOf_text x
  obtain ⟨h1, h2⟩ := normR_tsum rMarks (runsM l n) []
  have h3 := sum_le (fun r : TRun => r.text.length) 2 _ ht
  simp only [List.map_nil, List.sum_nil, List.length_nil, Nat.zero_add] at h1 h2
  refine ⟨fun r hr => ?_, by unfold normM; rw [List.length_reverse]; omega⟩
  have hok := (normM_ok rMarks (runsM l n)).1 r hr
  have hr' : r ∈ normR rMarks [] (runsM l n) := by unfold normM at hr; exact List.mem_reverse.1 hr
  have h4 := sum_ge (fun r : TRun => r.text.length) _ r hr'
  have hk := keep_sub rMarks r.marks
  rw [hok.marks] at hk
  have h5 := hk.1
  rw [show rMarks.length = 3 from rfl] at h5
  refine ⟨by omega, hk.2, by omega, by omega⟩

/-- The tree of the drawn runs. -/
theorem runs_tree (l : List Int) (n : Nat) (hn : n ≤ 30) (h150 : checkS (nestD 4 (normM rMarks (runsM l n)) 0) = 0) :
    faultL 0 false (nestD 4 (normM rMarks (runsM l n)) 0) = 0 ∧ BuildOk (tkL (nestD 4 (normM rMarks (runsM l n)) 0)) ∧ buildM (tkL (nestD 4 (normM rMarks (runsM l n)) 0)) = nestD 4 (normM rMarks (runsM l n)) 0 ∧
      flatL [] (nestD 4 (normM rMarks (runsM l n)) 0) = normM rMarks (runsM l n) := by
  obtain ⟨m1, m2, m3, m4, _⟩ := marks_law rMarks (runsM l n) (by decide) rMarks_ok
  obtain ⟨k1, k2⟩ := norm_runs l n (by omega)
  obtain ⟨b1, b2⟩ := build_tk _ m1 m2
  have hm := goodM_tk 4 _ (nest_good 4 0 _ k1)
  have hl := tkL_len (nestD 4 (normM rMarks (runsM l n)) 0)
  have ht := textSum_capQ 200 (tkL _) fun u hu => (hm u hu).2.2.2
  have hc := (checkS_ok h150).2
  exact ⟨m1, ⟨by omega, fun t ht => (hm t ht).1, fun t ht => (hm t ht).2.1, by rw [b2]; exact hc, fun t ht => (hm t ht).2.2.1, by omega⟩, b1, m4⟩
theorem runs_sz (l : List Int) (n : Nat) (hn : n ≤ 30) : SzL (nestD 4 (normM rMarks (runsM l n)) 0) ∧ countL (nestD 4 (normM rMarks (runsM l n)) 0) ≤ 120 := by
  obtain ⟨_, _, m3, _, _⟩ := marks_law rMarks (runsM l n) (by decide) rMarks_ok
  obtain ⟨k1, k2⟩ := norm_runs l n (by omega)
  exact ⟨goodM_sz 4 _ (nest_good 4 0 _ k1), by omega⟩
theorem runs_check (l : List Int) (n : Nat) (hn : n ≤ 30) : checkS (nestD 4 (normM rMarks (runsM l n)) 0) = 0 := by
  obtain ⟨m1, _, _, _, _⟩ := marks_law rMarks (runsM l n) (by decide) rMarks_ok
  have := (runs_sz l n hn).2
  unfold checkS
  rw [if_neg (by rw [m1]; simp), if_neg (by omega)]
end Go.Proofs.YtjkgmdnkejjppaaGreatDoor
