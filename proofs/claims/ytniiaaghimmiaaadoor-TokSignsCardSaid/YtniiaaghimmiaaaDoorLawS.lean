/- Plain laws of the tokenizer's model: a tag with one attribute, however it is written. -/
import Derived.Test.YtniiaaghimmiaaaDoorLawX
namespace Go.Proofs.YtniiaaghimmiaaaDoor

theorem span_stop {p : UInt8 → Bool} {a b : Bytes} (ha : ∀ x ∈ a, p x = true) (hb : ∀ x, b.head? = some x → p x = false) : (a ++ b).takeWhile p = a ∧ (a ++ b).dropWhile p = b := by
  rw [List.takeWhile_append_of_pos ha, List.dropWhile_append_of_pos ha]
  cases b with
  | nil => simp
  | cons c r =>
    have := hb c rfl
    rw [List.takeWhile_cons, List.dropWhile_cons, this]
    simp

def AllSp (g : Bytes) : Prop := ∀ x ∈ g, x ∈ spaces
theorem let_not (s : Bytes) (hs : ∀ x ∈ s, isLet x = false) (c : UInt8) (hc : isLet c = true) : s.contains c = false := by
  rw [Bool.eq_false_iff]
  intro h
  have := hs c (by simpa using h)
  rw [hc] at this
  cases this
theorem sp_head {g b : Bytes} {P : UInt8 → Prop} (hg : ∀ x ∈ g, P x) (hb : ∀ x, b.head? = some x → P x) : ∀ x, (g ++ b).head? = some x → P x := by
  intro x hx
  cases g with
  | nil => exact hb x hx
  | cons y g => simp at hx; subst hx; exact hg y (by simp)

theorem one_tag (e c : UInt8) (sp N g1 W g3 v : Bytes) (he : isLet e = true) (hc : isLet c = true) (hsp : sp ≠ []) (hs : AllSp sp) (hN : ∀ x ∈ N, isLet x = true) (h1 : AllSp g1) (h3 : AllSp g3)
    (hV : valueM W = (v, true, g3 ++ [62])) (hraw : isRaw (small [e]) = false) :
    allM (60 :: e :: (sp ++ (c :: (N ++ (g1 ++ (61 :: W)))))) = [⟨1, small [e], [⟨small (c :: N), v⟩], false, []⟩] := by
  have s1 : ∀ x ∈ nameEnd, isLet x = false := by decide
  have s2 : ∀ x ∈ tagGap, isLet x = false := by decide
  have s3 : ∀ x ∈ attrEnd, isLet x = false := by decide
  have ho : opensM (60 :: e :: (sp ++ (c :: (N ++ (g1 ++ (61 :: W)))))) = true := by rw [opensM_cons2, he]; rfl
  -- the name
  have hb : brk nameEnd (e :: (sp ++ (c :: (N ++ (g1 ++ (61 :: W)))))) = [e] ∧ brkR nameEnd (e :: (sp ++ (c :: (N ++ (g1 ++ (61 :: W)))))) = sp ++ (c :: (N ++ (g1 ++ (61 :: W)))) := by
    refine span_stop (a := [e]) (fun x hx => ?_) (fun x hx => ?_)
    · cases List.mem_singleton.1 hx
      rw [let_not _ s1 _ he]; rfl
    · cases sp with
      | nil => exact absurd rfl hsp
      | cons y g =>
        simp at hx; subst hx
        have := hs y (by simp)
        have h : nameEnd.contains y = true := by
          simp only [nameEnd, List.contains_eq_mem, decide_eq_true_eq, List.mem_append]
          exact .inl this
        rw [h]; rfl
  -- the gap ahead of the attribute
  have hg : skp tagGap (sp ++ (c :: (N ++ (g1 ++ (61 :: W))))) = c :: (N ++ (g1 ++ (61 :: W))) := by
    refine (span_stop (fun x hx => ?_) (fun x hx => ?_)).2
    · simp only [tagGap, List.contains_eq_mem, decide_eq_true_eq, List.mem_append]
      exact .inl (hs x hx)
    · simp at hx; subst hx
      exact let_not _ s2 _ hc
  -- its name
  have ha : brk attrEnd (N ++ (g1 ++ (61 :: W))) = N ∧ brkR attrEnd (N ++ (g1 ++ (61 :: W))) = g1 ++ (61 :: W) := by
    refine span_stop (fun x hx => ?_) ?_
    · rw [let_not _ s3 _ (hN x hx)]; rfl
    · refine sp_head (fun x hx => ?_) (fun x hx => ?_)
      · have h : attrEnd.contains x = true := by
          simp only [attrEnd, List.contains_eq_mem, decide_eq_true_eq, List.mem_append]
          exact .inl (h1 x hx)
        rw [h]; rfl
      · simp at hx; subst hx; rfl
  have hq : skp spaces (g1 ++ (61 :: W)) = 61 :: W := by
    refine (span_stop (fun x hx => ?_) (fun x hx => ?_)).2
    · simpa using h1 x hx
    · simp at hx; subst hx; rfl
  have hat : attrM (c :: (N ++ (g1 ++ (61 :: W)))) = (⟨small (c :: N), v⟩, true, g3 ++ [62]) := by
    unfold attrM
    simp only
    rw [ha.1, ha.2, hq]
    simp only [if_true]
    rw [hV]
  -- the end
  have hend : skp tagGap (g3 ++ [62]) = [62] ∧ skd tagGap (g3 ++ [62]) = g3 := by
    have := span_stop (p := fun b => tagGap.contains b) (a := g3) (b := [62]) (fun x hx => by
      simp only [tagGap, List.contains_eq_mem, decide_eq_true_eq, List.mem_append]
      exact .inl (h3 x hx)) (fun x hx => by simp at hx; subst hx; rfl)
    exact ⟨this.2, this.1⟩
  have hself : (g3.getLast? == some 47) = false := by
    rw [beq_eq_false_iff_ne]
    intro h
    have := h3 47 (List.mem_of_getLast? h)
    exact absurd this (by decide)
  have hc62 : c ≠ 62 := by rintro rfl; cases hc
  have hloop : ∀ n, tagLoop (n + 2) (sp ++ (c :: (N ++ (g1 ++ (61 :: W))))) [] = some ([⟨small (c :: N), v⟩], false, []) := by
    intro n
    unfold tagLoop
    rw [hg]
    simp only
    rw [if_neg hc62, hat]
    simp only [if_true]
    unfold tagLoop
    rw [hend.1, hend.2]
    simp only [if_true, hself]
    rfl
  have htag : tagM 1 (e :: (sp ++ (c :: (N ++ (g1 ++ (61 :: W)))))) = some (⟨1, small [e], [⟨small (c :: N), v⟩], false, []⟩, []) := by
    unfold tagM
    rw [hb.1, hb.2]
    rw [List.length_cons, hloop]
    rfl
  have hm : markupM (60 :: e :: (sp ++ (c :: (N ++ (g1 ++ (61 :: W)))))) = some ([⟨1, small [e], [⟨small (c :: N), v⟩], false, []⟩], []) := by
    rw [markupM_tag2 _ _ he, htag]
    simp only [Option.map_some]
    rw [hraw]
    rfl
  rw [allM_markup _ _ _ ho hm, allM_nil, List.append_nil]

theorem value_quoted (g2 v R : Bytes) (q : UInt8) (hq : q = 34 ∨ q = 39) (h2 : AllSp g2) (hv : ∀ x ∈ v, x ≠ q) (hv2 : ∀ x ∈ v, x ≠ 38) : valueM (g2 ++ (q :: (v ++ (q :: R)))) = (v, true, R) := by
  unfold valueM
  have hs : skp spaces (g2 ++ (q :: (v ++ (q :: R)))) = q :: (v ++ (q :: R)) := by
    refine (span_stop (fun x hx => ?_) (fun x hx => ?_)).2
    · simpa using h2 x hx
    · simp at hx; subst hx; rcases hq with rfl | rfl <;> rfl
  rw [hs]
  unfold valueT
  simp only
  rw [if_pos hq]
  have hb := span_stop (p := fun b => !([q] : Bytes).contains b) (a := v) (b := q :: R) (fun x hx => by simpa using hv x hx) (fun x hx => by simp at hx; subst hx; simp)
  rw [show brkR [q] (v ++ q :: R) = q :: R from hb.2, show brk [q] (v ++ q :: R) = v from hb.1]
  simp only
  rw [unesc_plain v hv2]
theorem value_bare (g2 v R : Bytes) (h2 : AllSp g2) (hne : v ≠ []) (hv : ∀ x ∈ v, x ∉ spaces ∧ x ≠ 62 ∧ x ≠ 34 ∧ x ≠ 39 ∧ x ≠ 38) (hR : ∀ x, R.head? = some x → x ∈ spaces ++ [62]) : valueM (g2 ++ (v ++ R)) = (v, true, R) := by
  unfold valueM
  have hs : skp spaces (g2 ++ (v ++ R)) = v ++ R := by
    refine (span_stop (fun x hx => ?_) (fun x hx => ?_)).2
    · simpa using h2 x hx
    · cases v with
      | nil => exact absurd rfl hne
      | cons y v =>
        simp at hx; subst hx
        have := (hv y (by simp)).1
        simpa using this
  rw [hs]
  have hb := span_stop (p := fun b => !(spaces ++ [62] : Bytes).contains b) (a := v) (b := R) (fun x hx => by
    have := hv x hx
    simp only [List.contains_eq_mem, List.mem_append, List.mem_singleton, Bool.not_eq_true', decide_eq_false_iff_not, not_or]
    exact ⟨this.1, this.2.1⟩) (fun x hx => by
    have := hR x hx
    simp only [List.contains_eq_mem, Bool.not_eq_false', decide_eq_true_eq]
    exact this)
  cases v with
  | nil => exact absurd rfl hne
  | cons y v' =>
    have hy := hv y (by simp)
    rw [List.cons_append]
    unfold valueT
    simp only
    rw [if_neg (fun h => h.elim hy.2.2.1 hy.2.2.2.1)]
    rw [List.cons_append] at hb
    rw [show brkR (spaces ++ [62]) (y :: (v' ++ R)) = R from hb.2, show brk (spaces ++ [62]) (y :: (v' ++ R)) = y :: v' from hb.1, unesc_plain _ (fun x hx => (hv x hx).2.2.2.2)]

/-- The bytes that TokSigns draws its value from, and the last one. -/
def signVal (v : Bytes) : Prop := v ≠ [] ∧ ∀ x ∈ v, x ∈ ([97, 98, 99, 49, 45, 122] : Bytes)
theorem signVal_all {v : Bytes} (h : signVal v) : ∀ x ∈ v, x ∉ spaces ∧ x ≠ 62 ∧ x ≠ 34 ∧ x ≠ 39 ∧ x ≠ 38 := by
  intro x hx
  have := h.2 x hx
  simp only [List.mem_cons, List.not_mem_nil, or_false] at this
  rcases this with rfl | rfl | rfl | rfl | rfl | rfl <;> decide

def signTok (v : Bytes) : TTok := ⟨1, [97], [⟨[104, 114, 101, 102], v⟩], false, []⟩
/-- The letters of the element and of the attribute: small or great. -/
def signElem (big : Bool) : Bytes := if big then [65] else [97]
def signName (big : Bool) : Bytes := if big then [72, 114, 69, 102] else [104, 114, 101, 102]

theorem signs_want (v : Bytes) (hv : signVal v) : allM ([60, 97, 32, 104, 114, 101, 102, 61, 34] ++ v ++ [34, 62]) = [signTok v] := by
  have h := value_quoted [] v ([] ++ [62]) 34 (.inl rfl) (fun x hx => by cases hx) (fun x hx => (signVal_all hv x hx).2.2.1) (fun x hx => (signVal_all hv x hx).2.2.2.2)
  have h2 := (one_tag 97 104 [32] [114, 101, 102] [] _ [] v rfl rfl (by simp) (by unfold AllSp; decide) (by decide) (fun x hx => by cases hx) (fun x hx => by cases hx) h rfl).trans (show _ = [signTok v] from rfl)
  simpa using h2
theorem signs_quoted (big : Bool) (g0 g1 g2 g3 v : Bytes) (h0 : AllSp g0) (h1 : AllSp g1) (h2 : AllSp g2) (h3 : AllSp g3) (hv : signVal v) :
    allM ([60] ++ signElem big ++ [32] ++ g0 ++ signName big ++ g1 ++ [61] ++ g2 ++ [39] ++ v ++ [39] ++ g3 ++ [62]) = [signTok v] := by
  have h := value_quoted g2 v (g3 ++ [62]) 39 (.inr rfl) h2 (fun x hx => (signVal_all hv x hx).2.2.2.1) (fun x hx => (signVal_all hv x hx).2.2.2.2)
  have hsp : AllSp ([32] ++ g0) := fun x hx => (List.mem_append.1 hx).elim (fun h => by cases List.mem_singleton.1 h; decide) (h0 x)
  cases big with
  | true =>
    have h2 := (one_tag 65 72 ([32] ++ g0) [114, 69, 102] g1 _ g3 v rfl rfl (by simp) hsp (by decide) h1 h3 h rfl).trans (show _ = [signTok v] from rfl)
    simpa [signElem, signName, List.append_assoc] using h2
  | false =>
    have h2 := (one_tag 97 104 ([32] ++ g0) [114, 101, 102] g1 _ g3 v rfl rfl (by simp) hsp (by decide) h1 h3 h rfl).trans (show _ = [signTok v] from rfl)
    simpa [signElem, signName, List.append_assoc] using h2
theorem signs_bare (big : Bool) (g0 g1 g2 g3 v : Bytes) (h0 : AllSp g0) (h1 : AllSp g1) (h2 : AllSp g2) (h3 : AllSp g3) (hv : signVal v) :
    allM ([60] ++ signElem big ++ [10] ++ g3 ++ signName big ++ g2 ++ [61] ++ g1 ++ v ++ g0 ++ [62]) = [signTok v] := by
  have h := value_bare g1 v (g0 ++ [62]) h1 hv.1 (signVal_all hv) (sp_head (P := fun x => x ∈ spaces ++ [62]) (fun x hx => List.mem_append.2 (.inl (h0 x hx))) (fun x hx => by simp at hx; subst hx; decide))
  have hsp : AllSp ([10] ++ g3) := fun x hx => (List.mem_append.1 hx).elim (fun h => by cases List.mem_singleton.1 h; decide) (h3 x)
  cases big with
  | true =>
    have h2 := (one_tag 65 72 ([10] ++ g3) [114, 69, 102] g2 _ g0 v rfl rfl (by simp) hsp (by decide) h2 h0 h rfl).trans (show _ = [signTok v] from rfl)
    simpa [signElem, signName, List.append_assoc] using h2
  | false =>
    have h2 := (one_tag 97 104 ([10] ++ g3) [114, 101, 102] g2 _ g0 v rfl rfl (by simp) hsp (by decide) h2 h0 h rfl).trans (show _ = [signTok v] from rfl)
    simpa [signElem, signName, List.append_assoc] using h2

theorem signs_quoted' (E Nm : Bytes) (hE : (E = [65] ∧ Nm = [72, 114, 69, 102]) ∨ (E = [97] ∧ Nm = [104, 114, 101, 102])) (g0 g1 g2 g3 v : Bytes) (h0 : AllSp g0) (h1 : AllSp g1) (h2 : AllSp g2) (h3 : AllSp g3) (hv : signVal v) :
    allM ([60] ++ E ++ [32] ++ g0 ++ Nm ++ g1 ++ [61] ++ g2 ++ [39] ++ v ++ [39] ++ g3 ++ [62]) = [signTok v] := by
  rcases hE with ⟨rfl, rfl⟩ | ⟨rfl, rfl⟩
  · exact signs_quoted true g0 g1 g2 g3 v h0 h1 h2 h3 hv
  · exact signs_quoted false g0 g1 g2 g3 v h0 h1 h2 h3 hv
theorem signs_bare' (E Nm : Bytes) (hE : (E = [65] ∧ Nm = [72, 114, 69, 102]) ∨ (E = [97] ∧ Nm = [104, 114, 101, 102])) (g0 g1 g2 g3 v : Bytes) (h0 : AllSp g0) (h1 : AllSp g1) (h2 : AllSp g2) (h3 : AllSp g3) (hv : signVal v) :
    allM ([60] ++ E ++ [10] ++ g3 ++ Nm ++ g2 ++ [61] ++ g1 ++ v ++ g0 ++ [62]) = [signTok v] := by
  rcases hE with ⟨rfl, rfl⟩ | ⟨rfl, rfl⟩
  · exact signs_bare true g0 g1 g2 g3 v h0 h1 h2 h3 hv
  · exact signs_bare false g0 g1 g2 g3 v h0 h1 h2 h3 hv

/-- The gap of a place. -/
def gapOf (gaps : List Int) (i : Nat) : Bytes := match gaps[i]? with
  | some x => gapPieces.getD (x % 4).toNat []
  | none => []
theorem gapOf_sp (gaps : List Int) (i : Nat) : AllSp (gapOf gaps i) := by
  unfold gapOf
  split
  · rename_i x _
    obtain ⟨p, hp, hg, _⟩ := drawn_get gapPieces (by decide) x
    rw [show (4 : Int) = (gapPieces.length : Int) from rfl, hg]
    have hm := List.mem_of_getElem? hp
    unfold gapPieces at hm
    simp only [List.mem_cons, List.not_mem_nil, or_false] at hm
    rcases hm with rfl | rfl | rfl | rfl <;> (unfold AllSp; decide)
  · intro x hx; cases hx
theorem gapOf_len (gaps : List Int) (i : Nat) : (gapOf gaps i).length ≤ 2 := by
  unfold gapOf
  split
  · rename_i x _
    obtain ⟨p, hp, hg, _⟩ := drawn_get gapPieces (by decide) x
    rw [show (4 : Int) = (gapPieces.length : Int) from rfl, hg]
    exact gapPieces_len p (List.mem_of_getElem? hp)
  · simp

def valPieces : List Bytes := [[97], [98], [99], [49], [45]]
theorem valPieces_len : ∀ p ∈ valPieces, p.length ≤ 1 := by decide
theorem drawn_val (l : List Int) : signVal (drawn valPieces l ++ [122]) := by
  refine ⟨by simp, fun x hx => ?_⟩
  rcases List.mem_append.1 hx with hx | hx
  · obtain ⟨q, hq, hx⟩ := List.mem_flatten.1 hx
    obtain ⟨y, _, rfl⟩ := List.mem_map.1 hq
    obtain ⟨p, hp, hg, _⟩ := drawn_get valPieces (by decide) y
    rw [hg] at hx
    have hm := List.mem_of_getElem? hp
    unfold valPieces at hm
    simp only [List.mem_cons, List.not_mem_nil, or_false] at hm
    rcases hm with rfl | rfl | rfl | rfl | rfl <;> (cases List.mem_singleton.1 hx; decide)
  · cases List.mem_singleton.1 hx; decide

end Go.Proofs.YtniiaaghimmiaaaDoor
