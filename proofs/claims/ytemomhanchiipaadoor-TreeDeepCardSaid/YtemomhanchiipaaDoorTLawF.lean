/- How many tokens a text has, and what the tree's builder asks of them. Nothing of the program here. -/
import Derived.Test.YtemomhanchiipaaDoorTLawE
import Derived.Test.YtemomhanchiipaaDoorTLawC
import Derived.Test.YtemomhanchiipaaDoorLawD
import Derived.Test.YtemomhanchiipaaDoorTokH
namespace Go.Proofs.YtemomhanchiipaaDoor

theorem opens_head (X : Bytes) (h : opensM X = true) : ∃ r, X = 60 :: r := by
  cases X with
  | nil => cases h
  | cons c r =>
    by_cases hc : c = 60
    · exact ⟨r, by rw [hc]⟩
    · rw [opensM_head c r hc] at h; cases h
theorem MarkOk.two {X r2 : Bytes} {ts : List TTok} (h : MarkOk X ts r2) : ts.length ≤ 2 := by cases h <;> simp
theorem textM_suf : ∀ l : Bytes, (textM l).2 <:+ l
  | [] => List.suffix_refl _
  | c :: r => by
    rw [textM_cons]
    split
    · exact List.suffix_refl _
    · exact suf_cons c (textM_suf r)
theorem allN_lts : ∀ (n : Nat) (l : Bytes), (allN n l).length ≤ 3 * l.count 60 + 1 := by
  intro n
  induction n with
  | zero => intro l; simp [allN]
  | succ n ih =>
    intro l
    by_cases hl : l = []
    · subst hl; simp [allN]
    · rw [allN_succ n l hl, List.length_append]
      have h1 : (textToks (textM l).1).length ≤ 1 := by unfold textToks; split <;> simp
      have h2 := (textM_suf l).sublist.count_le 60
      rcases (textM_ok l).2 with h0 | ho
      · rw [if_pos h0]; simp; omega
      · have hne : (textM l).2 ≠ [] := by intro e; rw [e] at ho; cases ho
        rw [if_neg hne]
        cases hm : markupM (textM l).2 with
        | none => simp; omega
        | some x =>
          obtain ⟨ts, r2⟩ := x
          obtain ⟨r, hr⟩ := opens_head _ ho
          have h3 := (markupM_ok _ _ _ ho hm).two
          have hl2 := (markupM_ok _ _ _ ho hm).less
          have h4 := markupM_suf _ _ _ hm
          have h5 : r2 <:+ r := by
            rw [hr] at h4 hl2
            rcases List.suffix_cons_iff.1 h4 with h | h
            · rw [h] at hl2; omega
            · exact h
          have h6 := h5.sublist.count_le 60
          have h7 : (textM l).2.count 60 = r.count 60 + 1 := by rw [hr]; simp
          have h8 := ih r2
          simp only [List.length_append]; omega
theorem allM_lts (l : Bytes) : (allM l).length ≤ 3 * l.count 60 + 1 := allN_lts _ l

def kindOk (t : TTok) : Prop := t.kind = 1 ∨ t.kind = 2 ∨ t.kind = 3 ∨ t.kind = 4
theorem tagM_kind {k : Int} {r : Bytes} {t : TTok} {r2 : Bytes} (h : tagM k r = some (t, r2)) : t.kind = k := by
  unfold tagM at h
  generalize tagLoop _ _ _ = x at h
  match x, h with
  | none, h => cases h
  | some (l, s, r3), h =>
    simp only [tagOf, Option.some.injEq, Prod.mk.injEq] at h
    rw [← h.1]; split <;> rfl
theorem kind_comment (s : Bytes) : ∀ t ∈ [comment s], kindOk t := fun t ht => by cases List.mem_singleton.1 ht; exact .inr (.inr (.inr rfl))
theorem kind_raw (n s : Bytes) : ∀ t ∈ rawToks n s, kindOk t := fun t ht => by
  unfold rawToks at ht
  split at ht
  · cases ht
  · cases List.mem_singleton.1 ht; exact .inr (.inr (.inl rfl))
theorem kind_text (s : Bytes) : ∀ t ∈ textToks s, kindOk t := fun t ht => by
  unfold textToks at ht
  split at ht
  · cases ht
  · cases List.mem_singleton.1 ht; exact .inr (.inr (.inl rfl))
theorem markupM_kind (X : Bytes) (ts : List TTok) (r2 : Bytes) (h : markupM X = some (ts, r2)) : ∀ t ∈ ts, kindOk t := by
  unfold markupM at h
  split at h
  · cases h; exact kind_comment _
  · cases h; exact kind_comment _
  · cases h; exact kind_comment _
  · rename_i c r
    split at h
    · cases ht : tagM 2 (c :: r) with
      | none => rw [ht] at h; cases h
      | some x =>
        obtain ⟨t, r3⟩ := x
        rw [ht] at h
        cases h
        intro u hu
        cases List.mem_singleton.1 hu
        exact .inr (.inl (tagM_kind ht))
    · cases h; exact kind_comment _
  · rename_i r n1 n2 n3 n4
    cases ht : tagM 1 r with
    | none => rw [ht] at h; cases h
    | some x =>
      obtain ⟨t, r3⟩ := x
      rw [ht] at h
      simp only [Option.map_some] at h
      have h0 : kindOk t := .inl (tagM_kind ht)
      split at h
      · simp only [Option.some.injEq, Prod.mk.injEq] at h
        rw [← h.1]
        intro u hu
        rcases List.mem_cons.1 hu with rfl | hu
        · exact h0
        · exact kind_raw _ _ u hu
      · simp only [Option.some.injEq, Prod.mk.injEq] at h
        rw [← h.1]
        intro u hu
        cases List.mem_singleton.1 hu
        exact h0
  · cases h
theorem allN_kind : ∀ (n : Nat) (l : Bytes), ∀ t ∈ allN n l, kindOk t := by
  intro n
  induction n with
  | zero => intro l t ht; cases ht
  | succ n ih =>
    intro l
    by_cases hl : l = []
    · subst hl; intro t ht; cases ht
    · rw [allN_succ n l hl]
      intro t ht
      rcases List.mem_append.1 ht with ht | ht
      · exact kind_text _ t ht
      · split at ht
        · cases ht
        · cases hm : markupM (textM l).2 with
          | none => rw [hm] at ht; cases ht
          | some x =>
            obtain ⟨ts, r2⟩ := x
            rw [hm] at ht
            rcases List.mem_append.1 ht with ht | ht
            · exact markupM_kind _ _ _ hm t ht
            · exact ih r2 t ht
theorem allM_kind (l : Bytes) : ∀ t ∈ allM l, kindOk t := allN_kind _ l

theorem textSum_le (l : List TTok) : textSum l ≤ tsum l := by
  induction l with
  | nil => exact Nat.le_refl _
  | cons t l ih =>
    rw [tsum_cons]
    have e : textSum (t :: l) = t.text.length + textSum l := rfl
    have h : bulk t = t.name.length + t.text.length + asum t.attrs := rfl
    omega

/-- Texts of few signs and few openings: the builder takes their tokens. -/
theorem buildOk_of (s : Bytes) (h1 : s.length ≤ 600) (h2 : s.count 60 ≤ 45) : BuildOk (allM s) := by
  have hok := allM_ok s
  have h3 := hok.len
  have h4 := allM_lts s
  have h5 := (steps_count (allM s) initM).1
  have h6 : initM.count = 0 := rfl
  have h7 := textSum_le (allM s)
  have h8 := (allM_bulk s).1
  refine ⟨by omega, allM_kind s, fun t ht hk => (hok.ok t ht).name (.inl hk), ?_, fun t ht => ?_, by omega⟩
  · unfold stepsM; omega
  · have := (allM_le s t ht).count; omega

theorem drawn_lts (ps : List Bytes) (hm : ∀ p ∈ ps, p.count 60 ≤ 1) (l : List Int) : (drawn ps l).count 60 ≤ l.length := by
  induction l with
  | nil => simp [drawn]
  | cons x l ih =>
    have e : drawn ps (x :: l) = ps.getD (x % ps.length).toNat [] ++ drawn ps l := rfl
    rw [e, List.count_append, List.length_cons]
    have : (ps.getD (x % ps.length).toNat []).count 60 ≤ 1 := by
      rcases Nat.lt_or_ge (x % ps.length).toNat ps.length with h | h
      · have hg : ps.getD (x % ps.length).toNat [] = ps[(x % ps.length).toNat] := by simp [List.getD, h]
        rw [hg]; exact hm _ (List.getElem_mem h)
      · simp [List.getD, h]
    omega
theorem treePieces_lt : ∀ p ∈ treePieces, p.count 60 ≤ 1 := by decide
theorem closePieces_lt : ∀ p ∈ closePieces, p.count 60 ≤ 1 := by decide
theorem markPieces_lt : ∀ p ∈ markPieces, p.count 60 ≤ 1 := by decide

/-- A piece that is one token, of no raw text. -/
def MildPiece (m : Bytes) : Prop := ∃ t, Mild t ∧ ∀ X, opensM (m ++ X) = true ∧ markupM (m ++ X) = some ([t], X)
theorem mild_text {u : Bytes} {t : TTok} (h : t ∈ textToks u) : Mild t := by
  unfold textToks at h
  split at h
  · cases h
  · cases List.mem_singleton.1 h
    exact ⟨by show ([] : Bytes) ≠ sScript; decide, by show ([] : Bytes) ≠ sStyle; decide, fun h => by cases h⟩
theorem mild_law (ps : List Bytes) (hps : ∀ p ∈ ps, NoLt p ∨ MildPiece p) : ∀ u, NoLt u → ∀ t ∈ allM (u ++ ps.flatten), Mild t := by
  induction ps with
  | nil =>
    intro u hu t ht
    rw [List.flatten_nil, List.append_nil, allM_split, textM_plain u hu] at ht
    rcases List.mem_append.1 ht with ht | ht
    · exact mild_text ht
    · cases ht
  | cons p ps ih =>
    intro u hu t ht
    have ih' := ih (fun q hq => hps q (by simp [hq]))
    rcases hps p (by simp) with hp | ⟨t0, hm, ht0⟩
    · rw [List.flatten_cons, ← List.append_assoc] at ht
      exact ih' (u ++ p) (fun c hc => (List.mem_append.1 hc).elim (hu c) (hp c)) t ht
    · obtain ⟨h1, h2⟩ := ht0 ps.flatten
      rw [List.flatten_cons, allM_text u _ hu h1, allM_markup _ _ _ h1 h2] at ht
      rcases List.mem_append.1 ht with ht | ht
      · exact mild_text ht
      · rcases List.mem_append.1 ht with ht | ht
        · cases List.mem_singleton.1 ht; exact hm
        · exact ih' [] (fun c hc => by cases hc) t ht
theorem tree_kinds : ∀ p ∈ treePieces, NoLt p ∨ MildPiece p := by
  intro p hp
  unfold treePieces at hp
  simp only [List.mem_cons, List.not_mem_nil, or_false] at hp
  rcases hp with rfl | rfl | rfl | rfl | rfl | rfl | rfl | rfl | rfl | rfl | rfl | rfl | rfl | rfl
  · exact .inl (by unfold NoLt; decide)
  · exact .inl (by unfold NoLt; decide)
  · exact .inr ⟨⟨1, [112], [], false, []⟩, ⟨by decide, by decide, by decide⟩, fun _ => ⟨rfl, rfl⟩⟩
  · exact .inr ⟨⟨2, [112], [], false, []⟩, ⟨by decide, by decide, by decide⟩, fun _ => ⟨rfl, rfl⟩⟩
  · exact .inr ⟨⟨1, [98], [], false, []⟩, ⟨by decide, by decide, by decide⟩, fun _ => ⟨rfl, rfl⟩⟩
  · exact .inr ⟨⟨2, [98], [], false, []⟩, ⟨by decide, by decide, by decide⟩, fun _ => ⟨rfl, rfl⟩⟩
  · exact .inr ⟨⟨1, [98, 114], [], true, []⟩, ⟨by decide, by decide, by decide⟩, fun _ => ⟨rfl, rfl⟩⟩
  · exact .inr ⟨⟨4, [], [], false, [120]⟩, ⟨by decide, by decide, by decide⟩, fun _ => ⟨rfl, rfl⟩⟩
  · exact .inr ⟨⟨1, [105], [⟨[99, 108, 97, 115, 115], [120]⟩], false, []⟩, ⟨by decide, by decide, by decide⟩, fun _ => ⟨rfl, rfl⟩⟩
  · exact .inr ⟨⟨2, [105], [], false, []⟩, ⟨by decide, by decide, by decide⟩, fun _ => ⟨rfl, rfl⟩⟩
  · exact .inl (by unfold NoLt; decide)
  · exact .inr ⟨⟨1, [117, 108], [], false, []⟩, ⟨by decide, by decide, by decide⟩, fun _ => ⟨rfl, rfl⟩⟩
  · exact .inr ⟨⟨1, [108, 105], [], false, []⟩, ⟨by decide, by decide, by decide⟩, fun _ => ⟨rfl, rfl⟩⟩
  · exact .inr ⟨⟨2, [117, 108], [], false, []⟩, ⟨by decide, by decide, by decide⟩, fun _ => ⟨rfl, rfl⟩⟩
theorem drawn_of (ps : List Bytes) (hne : ps ≠ []) (l : List Int) : ∃ qs : List Bytes, drawn ps l = qs.flatten ∧ ∀ q ∈ qs, q ∈ ps := by
  refine ⟨_, rfl, fun q hq => ?_⟩
  obtain ⟨x, _, rfl⟩ := List.mem_map.1 hq
  obtain ⟨p, h1, h2, _⟩ := drawn_get ps hne x
  rw [h2]; exact List.mem_of_getElem? h1
theorem tree_mild (l : List Int) : ∀ t ∈ allM (drawn treePieces l), Mild t := by
  obtain ⟨qs, h1, h2⟩ := drawn_of treePieces (by decide) l
  rw [h1]
  exact mild_law qs (fun p hp => tree_kinds p (h2 p hp)) [] (fun c hc => by cases hc)

/-- The rows' texts. -/
theorem build_tree (l : List Int) : BuildOk (allM (drawn treePieces (l.take 40))) := by
  have h1 := drawn_len treePieces 11 treePieces_len (l.take 40)
  have h2 := drawn_lts treePieces treePieces_lt (l.take 40)
  have h3 : (l.take 40).length ≤ 40 := by rw [List.length_take]; omega
  exact buildOk_of _ (by omega) (by omega)
theorem build_close (l : List Int) : BuildOk (allM (drawn closePieces (l.take 40))) := by
  have h1 := drawn_len closePieces 5 closePieces_len (l.take 40)
  have h2 := drawn_lts closePieces closePieces_lt (l.take 40)
  have h3 : (l.take 40).length ≤ 40 := by rw [List.length_take]; omega
  exact buildOk_of _ (by omega) (by omega)
theorem build_mark (l : List Int) : BuildOk (allM (drawn markPieces (l.take 30))) := by
  have h1 := drawn_len markPieces 19 markPieces_len (l.take 30)
  have h2 := drawn_lts markPieces markPieces_lt (l.take 30)
  have h3 : (l.take 30).length ≤ 30 := by rw [List.length_take]; omega
  exact buildOk_of _ (by omega) (by omega)

end Go.Proofs.YtemomhanchiipaaDoor
