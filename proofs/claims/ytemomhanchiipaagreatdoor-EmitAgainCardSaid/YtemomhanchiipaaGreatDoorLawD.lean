/- Plain laws of the tokenizer's model: text by text; behind markup that ends the rest is read by itself. -/
import Derived.Test.YtemomhanchiipaaGreatDoorLawC
import Derived.Test.YtemomhanchiipaaGreatDoorLawA
import Derived.Test.YtemomhanchiipaaGreatDoorPieces
namespace Go.Proofs.YtemomhanchiipaaGreatDoor

theorem MarkOk.less {X : Bytes} {ts : List TTok} {r2 : Bytes} (h : MarkOk X ts r2) : r2.length < X.length := by
  cases h with
  | one t _ hk ht h =>
    rcases h with h | ⟨rfl, h⟩
    · omega
    · simp; omega
  | raw t x _ hk ht hx ho h => omega

theorem allN_fuel : ∀ (k n m : Nat) (l : Bytes), l.length ≤ k → l.length < n → l.length < m → allN n l = allN m l := by
  intro k
  induction k with
  | zero =>
    intro n m l h hn hm
    have : l = [] := List.eq_nil_of_length_eq_zero (by omega)
    subst this
    cases n <;> cases m <;> rfl
  | succ k ih =>
    intro n m l h hn hm
    cases l with
    | nil => cases n <;> cases m <;> rfl
    | cons c r =>
      obtain ⟨n, rfl⟩ : ∃ j, n = j + 1 := ⟨n - 1, by omega⟩
      obtain ⟨m, rfl⟩ : ∃ j, m = j + 1 := ⟨m - 1, by omega⟩
      obtain ⟨h1, h2⟩ := textM_ok (c :: r)
      unfold allN
      split
      · rfl
      · rename_i hne
        have ho := h2.resolve_left hne
        cases hm : markupM (textM (c :: r)).2 with
        | none => rfl
        | some x =>
          obtain ⟨ts, r2⟩ := x
          have hl := (markupM_ok _ _ _ ho hm).less
          simp only
          rw [ih n m r2 (by omega) (by omega) (by omega)]
theorem allN_eq (n : Nat) (l : Bytes) (h : l.length < n) : allN n l = allM l := allN_fuel l.length n (l.length + 1) l (Nat.le_refl _) h (by omega)

theorem allM_markup (X : Bytes) (ts : List TTok) (r2 : Bytes) (ho : opensM X = true) (h : markupM X = some (ts, r2)) : allM X = ts ++ allM r2 := by
  have hl := (markupM_ok _ _ _ ho h).less
  cases X with
  | nil => cases ho
  | cons c r =>
    show textToks (textM (c :: r)).1 ++ (if (textM (c :: r)).2 = [] then [] else match markupM (textM (c :: r)).2 with
      | none => []
      | some (l, r2) => l ++ allN (c :: r).length r2) = _
    rw [textM_opens _ ho]
    simp only [textToks_nil, List.nil_append, h]
    rw [if_neg (by simp), allN_eq _ _ hl]
theorem allM_none (X : Bytes) (ho : opensM X = true) (h : markupM X = none) : allM X = [] := by
  cases X with
  | nil => cases ho
  | cons c r =>
    show textToks (textM (c :: r)).1 ++ (if (textM (c :: r)).2 = [] then [] else match markupM (textM (c :: r)).2 with
      | none => []
      | some (l, r2) => l ++ allN (c :: r).length r2) = _
    rw [textM_opens _ ho]
    simp only [textToks_nil, List.nil_append, h]
    rw [if_neg (by simp)]
theorem allM_nil : allM [] = [] := rfl
/-- A text, then what begins with markup. -/
theorem allM_split (X : Bytes) : allM X = textToks (textM X).1 ++ allM (textM X).2 := by
  cases X with
  | nil => rfl
  | cons c r =>
    obtain ⟨h1, h2⟩ := textM_ok (c :: r)
    show textToks (textM (c :: r)).1 ++ (if (textM (c :: r)).2 = [] then [] else match markupM (textM (c :: r)).2 with
      | none => []
      | some (l, r2) => l ++ allN (c :: r).length r2) = _
    congr 1
    split
    · rename_i h; rw [h]; rfl
    · rename_i hne
      have ho := h2.resolve_left hne
      cases hm : markupM (textM (c :: r)).2 with
      | none => rw [allM_none _ ho hm]
      | some x =>
        obtain ⟨ts, r2⟩ := x
        have hl := (markupM_ok _ _ _ ho hm).less
        rw [allM_markup _ _ _ ho hm]
        simp only
        rw [allN_eq _ _ (by omega)]

theorem opensM_head (c : UInt8) (r : Bytes) (h : c ≠ 60) : opensM (c :: r) = false := by
  unfold opensM
  split
  · rename_i he; exact absurd (by injection he) h
  · rfl
theorem textM_plain_append (u X : Bytes) (hu : ∀ c ∈ u, c ≠ 60) : textM (u ++ X) = (u ++ (textM X).1, (textM X).2) := by
  induction u with
  | nil => rfl
  | cons c u ih =>
    have h1 := opensM_head c (u ++ X) (hu c (by simp))
    have h2 := ih (fun x hx => hu x (by simp [hx]))
    show (if opensM (c :: (u ++ X)) then _ else (c :: (textM (u ++ X)).1, (textM (u ++ X)).2)) = _
    rw [h1, if_neg (by decide), h2]
    rfl
theorem allM_text (u X : Bytes) (hu : ∀ c ∈ u, c ≠ 60) (ho : opensM X = true) : allM (u ++ X) = textToks u ++ allM X := by
  rw [allM_split, textM_plain_append u X hu, textM_opens X ho]
  simp

/-- Markup that ends where it ends. -/
def Whole1 (m : Bytes) : Prop := ∃ t, ∀ X, opensM (m ++ X) = true ∧ markupM (m ++ X) = some ([t], X)
theorem whole_p : Whole1 [60, 112, 62] := ⟨⟨1, [112], [], false, []⟩, fun _ => ⟨rfl, rfl⟩⟩
theorem whole_p' : Whole1 [60, 47, 112, 62] := ⟨⟨2, [112], [], false, []⟩, fun _ => ⟨rfl, rfl⟩⟩
theorem whole_i : Whole1 [60, 105, 32, 97, 61, 98, 62] := ⟨⟨1, [105], [⟨[97], [98]⟩], false, []⟩, fun _ => ⟨rfl, rfl⟩⟩
theorem whole_c : Whole1 [60, 33, 45, 45, 120, 45, 45, 62] := ⟨⟨4, [], [], false, [120]⟩, fun _ => ⟨rfl, rfl⟩⟩
theorem whole_b : Whole1 [60, 98, 62] := ⟨⟨1, [98], [], false, []⟩, fun _ => ⟨rfl, rfl⟩⟩

def NoLt (u : Bytes) : Prop := ∀ c ∈ u, c ≠ 60
theorem part_kinds : ∀ p ∈ partPieces, NoLt p ∨ Whole1 p := by
  intro p hp
  unfold partPieces at hp
  simp only [List.mem_cons, List.not_mem_nil, or_false] at hp
  rcases hp with rfl | rfl | rfl | rfl | rfl | rfl
  · exact .inl (by unfold NoLt; decide)
  · exact .inr whole_p
  · exact .inr whole_p'
  · exact .inr whole_i
  · exact .inr whole_c
  · exact .inl (by unfold NoLt; decide)

theorem parts_law (ps : List Bytes) (hps : ∀ p ∈ ps, NoLt p ∨ Whole1 p) (m : Bytes) (hm : Whole1 m) : ∀ u, NoLt u → ∃ ts, ∀ b, allM (u ++ (ps.flatten ++ (m ++ b))) = ts ++ allM b := by
  induction ps with
  | nil =>
    intro u hu
    obtain ⟨t, ht⟩ := hm
    refine ⟨textToks u ++ [t], fun b => ?_⟩
    obtain ⟨h1, h2⟩ := ht b
    rw [List.flatten_nil, List.nil_append, allM_text u _ hu h1, allM_markup _ _ _ h1 h2, List.append_assoc]
  | cons p ps ih =>
    intro u hu
    have ih' := ih (fun q hq => hps q (by simp [hq]))
    rcases hps p (by simp) with hp | ⟨t, ht⟩
    · obtain ⟨ts, h⟩ := ih' (u ++ p) (fun c hc => (List.mem_append.1 hc).elim (hu c) (hp c))
      refine ⟨ts, fun b => ?_⟩
      rw [← h b, List.flatten_cons]
      simp only [List.append_assoc]
    · obtain ⟨ts, h⟩ := ih' [] (fun c hc => by cases hc)
      refine ⟨textToks u ++ ([t] ++ ts), fun b => ?_⟩
      have hb := h b
      rw [List.nil_append] at hb
      obtain ⟨h1, h2⟩ := ht (ps.flatten ++ (m ++ b))
      rw [List.flatten_cons, List.append_assoc, allM_text u _ hu h1, allM_markup _ _ _ h1 h2, hb]
      simp only [List.append_assoc]

/-- What TokParts asks. -/
theorem tokParts_law (l : List Int) (b : Bytes) : allM (drawn partPieces l ++ [60, 98, 62] ++ b) = allM (drawn partPieces l ++ [60, 98, 62]) ++ allM b := by
  have hps : ∀ p ∈ l.map (fun x : Int => partPieces.getD (x % (partPieces.length : Int)).toNat []), NoLt p ∨ Whole1 p := by
    intro p hp
    obtain ⟨x, _, rfl⟩ := List.mem_map.1 hp
    obtain ⟨q, hq, hg, _⟩ := drawn_get partPieces (by decide) x
    rw [hg]
    exact part_kinds q (List.mem_of_getElem? hq)
  obtain ⟨ts, h⟩ := parts_law _ hps [60, 98, 62] whole_b [] (fun c hc => by cases hc)
  have h1 := h b
  have h2 := h []
  rw [List.nil_append] at h1 h2
  rw [List.append_nil, allM_nil, List.append_nil] at h2
  rw [List.append_assoc]
  unfold drawn
  rw [h1, h2]

end Go.Proofs.YtemomhanchiipaaGreatDoor
