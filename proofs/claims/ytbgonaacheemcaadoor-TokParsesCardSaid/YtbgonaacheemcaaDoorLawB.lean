/- Plain laws of the tokenizer's model: what a piece of markup takes; what TokSmall asks of tokens. -/
import Derived.Test.YtbgonaacheemcaaDoorModel
namespace Go.Proofs.YtbgonaacheemcaaDoor

theorem low_small (c : UInt8) : ¬ (65 ≤ low c ∧ low c ≤ 90) := by
  unfold low
  simp only [UInt8.le_iff_toNat_le]
  have e1 : (65 : UInt8).toNat = 65 := rfl
  have e2 : (90 : UInt8).toNat = 90 := rfl
  have e3 : (32 : UInt8).toNat = 32 := rfl
  rw [e1, e2]
  by_cases h : 65 ≤ c.toNat ∧ c.toNat ≤ 90
  · rw [if_pos h, UInt8.toNat_add, e3]; omega
  · rw [if_neg h]; exact h

def nameSmall (l : Bytes) : Prop := ∀ c ∈ l, ¬ (65 ≤ c ∧ c ≤ 90)
theorem nameSmall_small (l : Bytes) : nameSmall (small l) := by
  intro c hc
  obtain ⟨x, _, rfl⟩ := List.mem_map.1 hc
  exact low_small x
theorem nameSmall_nil : nameSmall [] := fun c h => by cases h

/-- What TokSmall asks of one token. -/
structure TokOk (t : TTok) : Prop where
  text : t.kind = 3 → t.text ≠ []
  name : t.kind = 1 ∨ t.kind = 2 → t.name ≠ []
  low : nameSmall t.name
  once : (t.attrs.map (·.name)).Pairwise (· ≠ ·)

/-- No two texts side by side (was the one ahead a text?). -/
def apartT : Bool → List TTok → Bool
  | _, [] => true
  | p, t :: l => !(p && t.kind == 3) && apartT (t.kind == 3) l

theorem encodeRune_ne (x : Int) : Lib.encodeRune x ≠ [] := by
  have := (Lib.encodeRuneZ_length x).1
  intro h
  unfold Lib.encodeRune at h
  rw [List.map_eq_nil_iff] at h
  rw [h] at this
  simp at this
theorem unesc_ne (l : Bytes) (h : l ≠ []) : unesc l ≠ [] := by
  cases l with
  | nil => exact absurd rfl h
  | cons c r =>
    show (if c = 38 ∧ (brk [59] r).length < r.length then _ else c :: unescN _ r) ≠ []
    split
    · split
      · intro h; exact encodeRune_ne _ (List.append_eq_nil_iff.1 h).1
      · simp
    · simp

theorem brk_len (c l : Bytes) : (brk c l).length + (brkR c l).length = l.length := by
  have := congrArg List.length (List.takeWhile_append_dropWhile (p := fun b => !c.contains b) (l := l))
  rw [List.length_append] at this
  exact this
theorem skp_le (c l : Bytes) : (skp c l).length ≤ l.length := (List.dropWhile_suffix _).length_le
theorem brkR_le (c l : Bytes) : (brkR c l).length ≤ l.length := (List.dropWhile_suffix _).length_le

theorem valueM_le (r : Bytes) : (valueM r).2.2.length ≤ r.length := by
  unfold valueM
  have h1 := skp_le spaces r
  generalize skp spaces r = s at *
  cases s with
  | nil => simp [valueT]
  | cons q r2 =>
    unfold valueT
    simp only
    split
    · have h2 := brkR_le [q] r2
      split
      · simp
      · rename_i x r3 he
        rw [he] at h2
        simp at h1 h2 ⊢; omega
    · have h2 := brkR_le (spaces ++ [62]) (q :: r2)
      simp at h1 h2 ⊢; omega
theorem attrM_le (c : UInt8) (r1 : Bytes) : (attrM (c :: r1)).2.2.length ≤ r1.length := by
  unfold attrM
  simp only
  have h1 := brkR_le attrEnd r1
  have h2 := skp_le spaces (brkR attrEnd r1)
  split
  · exact h1
  · rename_i e r4 he
    rw [he] at h2
    split
    · have h3 := valueM_le r4
      simp at h1 h2 h3 ⊢; omega
    · exact h1

theorem addAttr_once (l : List TAttr) (a : TAttr) (h : (l.map (·.name)).Pairwise (· ≠ ·)) : ((addAttr l a).map (·.name)).Pairwise (· ≠ ·) := by
  unfold addAttr
  split
  · exact h
  · rename_i hn
    rw [List.map_append, List.pairwise_append]
    refine ⟨h, by simp, ?_⟩
    intro x hx y hy
    obtain ⟨b, hb, rfl⟩ := List.mem_map.1 hx
    simp only [List.map_cons, List.map_nil, List.mem_singleton] at hy
    subst hy
    intro he
    exact hn (List.any_eq_true.2 ⟨b, hb, by rw [he]; exact beq_self_eq_true _⟩)

theorem tagLoop_ok : ∀ (n : Nat) (r : Bytes) (l l' : List TAttr) (s : Bool) (r2 : Bytes), tagLoop n r l = some (l', s, r2) → (l.map (·.name)).Pairwise (· ≠ ·) →
    (l'.map (·.name)).Pairwise (· ≠ ·) ∧ r2.length + 1 ≤ r.length := by
  intro n
  induction n with
  | zero => intro r l l' s r2 h; cases h
  | succ n ih =>
    intro r l l' s r2 h hp
    unfold tagLoop at h
    have h1 := skp_le tagGap r
    split at h
    · cases h
    · rename_i c r3 he
      rw [he] at h1
      split at h
      · cases h
        exact ⟨hp, by simpa using h1⟩
      · split at h
        · obtain ⟨a, b⟩ := ih _ _ _ _ _ h (addAttr_once _ _ hp)
          have h2 := attrM_le c r3
          simp at h1
          exact ⟨a, by omega⟩
        · cases h

theorem tagM_ok (kind : Int) (r : Bytes) (t : TTok) (r2 : Bytes) (h : tagM kind r = some (t, r2)) (hk : kind = 1 ∨ kind = 2) (hr : brk nameEnd r ≠ []) :
    t.kind = kind ∧ TokOk t ∧ t.name = small (brk nameEnd r) ∧ r2.length + 1 + (brk nameEnd r).length ≤ r.length := by
  unfold tagM at h
  have hb := brk_len nameEnd r
  generalize hl : tagLoop (r.length + 1) (brkR nameEnd r) [] = o at h
  unfold tagOf at h
  cases o with
  | none => cases h
  | some x =>
    obtain ⟨l, s, r3⟩ := x
    obtain ⟨h1, h2⟩ := tagLoop_ok _ _ _ _ _ _ hl (by simp)
    have hn : small (brk nameEnd r) ≠ [] := by intro he; exact hr (List.map_eq_nil_iff.1 he)
    have hk3 : kind ≠ 3 := by omega
    simp only [Option.some.injEq, Prod.mk.injEq] at h
    obtain ⟨h3, rfl⟩ := h
    split at h3 <;> subst h3
    · exact ⟨rfl, ⟨fun h => absurd h hk3, fun _ => hn, nameSmall_small _, by simp⟩, rfl, by omega⟩
    · exact ⟨rfl, ⟨fun h => absurd h hk3, fun _ => hn, nameSmall_small _, h1⟩, rfl, by omega⟩

theorem upToM_le (e : Bytes) (l : Bytes) : (upToM e l).2 = [] ∨ (upToM e l).2.length + e.length ≤ l.length := by
  induction l with
  | nil => exact .inl rfl
  | cons c r ih =>
    unfold upToM
    split
    · rename_i h
      right
      have := (List.isPrefixOf_iff_prefix.1 h).length_le
      simp only [List.length_drop]
      omega
    · rcases ih with h | h
      · exact .inl h
      · right; simp at h ⊢; omega

theorem rawM_le (n : Bytes) (l : Bytes) : (rawM n l).1.length + (rawM n l).2.length = l.length ∧ ((rawM n l).2 = [] ∨ rawStop n (rawM n l).2 = true) := by
  induction l with
  | nil => exact ⟨rfl, .inl rfl⟩
  | cons c r ih =>
    unfold rawM
    split
    · rename_i h
      exact ⟨by simp, .inr h⟩
    · exact ⟨by simp; omega, ih.2⟩

theorem rawStop_opens (n r : Bytes) (h : rawStop n r = true) : opensM r = true := by
  unfold rawStop at h
  split at h
  · rename_i r
    have : r ≠ [] := by
      rintro rfl
      simp [hd] at h
    cases r with
    | nil => exact absurd rfl this
    | cons a b => simp [opensM]
  · cases h

/-- What a piece of markup is. -/
inductive MarkOk (X : Bytes) : List TTok → Bytes → Prop
  | one (t : TTok) (r2 : Bytes) (hk : t.kind ≠ 3) (ht : TokOk t) (h : r2.length + 3 ≤ X.length ∨ r2 = [] ∧ 2 ≤ X.length) : MarkOk X [t] r2
  | raw (t : TTok) (x r2 : Bytes) (hk : t.kind ≠ 3) (ht : TokOk t) (hx : x ≠ []) (ho : r2 = [] ∨ opensM r2 = true) (h : r2.length + 4 ≤ X.length) : MarkOk X [t, chars x] r2

theorem tokOk_comment (t : Bytes) : TokOk (comment t) := ⟨fun h => (by cases h), fun h => (by rcases h with h | h <;> cases h), nameSmall_nil, by simp [comment]⟩
theorem tokOk_chars (t : Bytes) (h : t ≠ []) : TokOk (chars t) := ⟨fun _ => h, fun h => (by rcases h with h | h <;> cases h), nameSmall_nil, by simp [chars]⟩

theorem isLet_name (c : UInt8) (r : Bytes) (h : isLet c = true) : brk nameEnd (c :: r) ≠ [] := by
  have : nameEnd.contains c = false := by
    simp only [isLet, Bool.or_eq_true, Bool.and_eq_true, decide_eq_true_eq, UInt8.le_iff_toNat_le] at h
    have e1 : (97 : UInt8).toNat = 97 := rfl
    have e2 : (122 : UInt8).toNat = 122 := rfl
    have e3 : (65 : UInt8).toNat = 65 := rfl
    have e4 : (90 : UInt8).toNat = 90 := rfl
    rw [e1, e2, e3, e4] at h
    rw [Bool.eq_false_iff]
    intro hc
    have hc2 : c = 32 ∨ c = 9 ∨ c = 10 ∨ c = 12 ∨ c = 47 ∨ c = 62 := by simpa [nameEnd, spaces] using hc
    rcases hc2 with rfl | rfl | rfl | rfl | rfl | rfl <;> simp at h
  unfold brk
  rw [List.takeWhile_cons, this]
  simp

theorem markupM_ok (X : Bytes) (ts : List TTok) (r2 : Bytes) (ho : opensM X = true) (h : markupM X = some (ts, r2)) : MarkOk X ts r2 := by
  unfold markupM at h
  split at h
  · rename_i r
    cases h
    refine .one _ _ (show (4 : Int) ≠ 3 by decide) (tokOk_comment _) ?_
    rcases upToM_le [45, 45, 62] r with h | h
    · exact .inr ⟨h, by simp⟩
    · left; simp at h ⊢; omega
  · rename_i r _
    cases h
    refine .one _ _ (show (4 : Int) ≠ 3 by decide) (tokOk_comment _) ?_
    rcases upToM_le [62] r with h | h
    · exact .inr ⟨h, by simp⟩
    · left; simp at h ⊢; omega
  · rename_i r
    cases h
    refine .one _ _ (show (4 : Int) ≠ 3 by decide) (tokOk_comment _) ?_
    rw [show (upToM [62] (63 :: r)).2 = (upToM [62] r).2 from rfl]
    rcases upToM_le [62] r with h | h
    · exact .inr ⟨h, by simp⟩
    · left; simp at h ⊢; omega
  · rename_i c r
    split at h
    · rename_i hc
      cases ht : tagM 2 (c :: r) with
      | none => rw [ht] at h; cases h
      | some x =>
        obtain ⟨t, r3⟩ := x
        rw [ht] at h
        cases h
        obtain ⟨h1, h2, h3, h4⟩ := tagM_ok 2 _ _ _ ht (.inr rfl) (isLet_name c r hc)
        exact .one _ _ (by rw [h1]; decide) h2 (.inl (by simp at h4 ⊢; omega))
    · cases h
      refine .one _ _ (show (4 : Int) ≠ 3 by decide) (tokOk_comment _) ?_
      rcases upToM_le [62] (c :: r) with h | h
      · exact .inr ⟨h, by simp⟩
      · left; simp at h ⊢; omega
  · rename_i r n1 n2 n3 n4
    have hc : ∃ c r', r = c :: r' ∧ isLet c = true := by
      cases r with
      | nil => simp [opensM] at ho
      | cons c r' =>
        refine ⟨c, r', rfl, ?_⟩
        have ho' : (isLet c || c == 33 || c == 63 || (c == 47 && !r'.isEmpty)) = true := ho
        simp only [Bool.or_eq_true, Bool.and_eq_true, beq_iff_eq] at ho'
        rcases ho' with ((hh | hh) | hh) | ⟨hh, hr⟩
        · exact hh
        · exact (n2 r' (by rw [hh])).elim
        · exact (n3 r' (by rw [hh])).elim
        · cases r' with
          | nil => simp at hr
          | cons d r'' => exact (n4 d r'' (by rw [hh])).elim
    obtain ⟨c, r', rfl, hc⟩ := hc
    cases ht : tagM 1 (c :: r') with
    | none => rw [ht] at h; cases h
    | some x =>
      obtain ⟨t, r3⟩ := x
      rw [ht] at h
      obtain ⟨h1, h2, h3, h4⟩ := tagM_ok 1 _ _ _ ht (.inl rfl) (isLet_name c r' hc)
      have hn : 1 ≤ (brk nameEnd (c :: r')).length := by
        have := isLet_name c r' hc
        cases hb : brk nameEnd (c :: r') with
        | nil => exact absurd hb this
        | cons => simp
      simp only [Option.map_some] at h
      split at h
      · rename_i hraw
        obtain ⟨g1, g2⟩ := rawM_le t.name r3
        unfold rawToks at h
        simp only [Option.some.injEq, Prod.mk.injEq] at h
        obtain ⟨h5, rfl⟩ := h
        subst h5
        split
        · exact .one _ _ (by rw [h1]; decide) h2 (.inl (by simp at h4 ⊢; omega))
        · rename_i hne
          have hl : 1 ≤ (rawM t.name r3).1.length := by
            cases hx : (rawM t.name r3).1 with
            | nil => rw [hx] at hne; exfalso; apply hne; unfold rawText; split <;> rfl
            | cons => simp
          refine .raw _ _ _ (by rw [h1]; decide) h2 hne (g2.imp id (rawStop_opens _ _)) (by simp at h4 ⊢; omega)
      · cases h
        exact .one _ _ (by rw [h1]; decide) h2 (.inl (by simp at h4 ⊢; omega))
  · cases h

theorem textM_ok (l : Bytes) : (textM l).1.length + (textM l).2.length = l.length ∧ ((textM l).2 = [] ∨ opensM (textM l).2 = true) := by
  induction l with
  | nil => exact ⟨rfl, .inl rfl⟩
  | cons c r ih =>
    unfold textM
    split
    · rename_i h
      exact ⟨by simp, .inr h⟩
    · exact ⟨by simp; omega, ih.2⟩
theorem textM_opens (l : Bytes) (h : opensM l = true) : textM l = ([], l) := by
  cases l with
  | nil => rfl
  | cons c r => unfold textM; rw [if_pos h]

theorem textToks_nil : textToks [] = [] := rfl
theorem textToks_some (t : Bytes) (h : t ≠ []) : textToks t = [chars (unesc t)] := by unfold textToks; rw [if_neg h]

/-- What stands behind markup goes on alone. -/
structure AllOk (l : Bytes) (ts : List TTok) : Prop where
  ok : ∀ t ∈ ts, TokOk t
  apart : apartT false ts = true
  apart' : l = [] ∨ opensM l = true → apartT true ts = true
  len : 2 * ts.length ≤ l.length + 1
  len' : l = [] ∨ opensM l = true → 2 * ts.length ≤ l.length
theorem AllOk.nil (l : Bytes) : AllOk l [] := ⟨fun t h => (by cases h), rfl, fun _ => rfl, by simp, fun _ => by simp⟩

theorem AllOk.markup {X r2 : Bytes} {ts rest : List TTok} (h : MarkOk X ts r2) (hr : AllOk r2 rest) (hr0 : r2 = [] → rest = []) : AllOk X (ts ++ rest) := by
  cases h with
  | one t _ hk ht hl =>
    have hk' : (t.kind == 3) = false := beq_eq_false_iff_ne.2 hk
    have hlen : 2 * ([t] ++ rest).length ≤ X.length := by
      have := hr.len
      rcases hl with h | ⟨h, h2⟩
      · simp; omega
      · rw [hr0 h]; simpa using h2
    exact ⟨fun x hx => (List.mem_append.1 hx).elim (fun h => by cases List.mem_singleton.1 h; exact ht) (fun h => hr.ok x h),
      by simp [apartT, hk', hr.apart], fun _ => by simp [apartT, hk', hr.apart], by omega, fun _ => hlen⟩
  | raw t x _ hk ht hx ho2 hl =>
    have hk' : (t.kind == 3) = false := beq_eq_false_iff_ne.2 hk
    have hk2 : ((chars x).kind == 3) = true := rfl
    have hlen : 2 * ([t, chars x] ++ rest).length ≤ X.length := by
      have := hr.len' ho2
      simp; omega
    refine ⟨fun y hy => ?_, by simp [apartT, hk', hk2, hr.apart' ho2], fun _ => by simp [apartT, hk', hk2, hr.apart' ho2], by omega, fun _ => hlen⟩
    rcases List.mem_append.1 hy with h | h
    · rcases List.mem_cons.1 h with rfl | h
      · exact ht
      · cases List.mem_singleton.1 h; exact tokOk_chars x hx
    · exact hr.ok y h

theorem allN_ok : ∀ (n : Nat) (l : Bytes), AllOk l (allN n l) := by
  intro n
  induction n with
  | zero => intro l; exact AllOk.nil l
  | succ n ih =>
    intro l
    cases l with
    | nil => exact AllOk.nil _
    | cons c r =>
      obtain ⟨h1, h2⟩ := textM_ok (c :: r)
      have hshow : allN (n + 1) (c :: r) = textToks (textM (c :: r)).1 ++ (if (textM (c :: r)).2 = [] then [] else match markupM (textM (c :: r)).2 with
          | none => []
          | some (l, r2) => l ++ allN n r2) := rfl
      rw [hshow]
      have hM : AllOk (textM (c :: r)).2 (if (textM (c :: r)).2 = [] then [] else match markupM (textM (c :: r)).2 with
          | none => []
          | some (l, r2) => l ++ allN n r2) := by
        split
        · exact AllOk.nil _
        · rename_i hne
          have ho : opensM (textM (c :: r)).2 = true := h2.resolve_left hne
          cases hm : markupM (textM (c :: r)).2 with
          | none => exact AllOk.nil _
          | some x =>
            obtain ⟨ts, r2⟩ := x
            exact AllOk.markup (markupM_ok _ _ _ ho hm) (ih r2) (by rintro rfl; cases n <;> rfl)
      by_cases ho : opensM (c :: r) = true
      · rw [textM_opens _ ho] at hM ⊢
        exact hM
      · have hno : ¬ (c :: r = [] ∨ opensM (c :: r) = true) := fun h => h.elim (fun h => by cases h) ho
        have ht : (textM (c :: r)).1 ≠ [] := by
          unfold textM; rw [if_neg ho]; simp
        have ht1 : 1 ≤ (textM (c :: r)).1.length := by
          cases hx : (textM (c :: r)).1 with
          | nil => exact absurd hx ht
          | cons => simp
        rw [textToks_some _ ht]
        have hk2 : ((chars (unesc (textM (c :: r)).1)).kind == 3) = true := rfl
        refine ⟨fun y hy => ?_, ?_, fun h => absurd h hno, ?_, fun h => absurd h hno⟩
        · rcases List.mem_append.1 hy with h | h
          · cases List.mem_singleton.1 h; exact tokOk_chars _ (unesc_ne _ ht)
          · exact hM.ok y h
        · have := hM.apart' h2
          simp [apartT, hk2, this]
        · have := hM.len' h2
          simp at h1 ⊢; omega

theorem allM_ok (l : Bytes) : AllOk l (allM l) := allN_ok _ l

end Go.Proofs.YtbgonaacheemcaaDoor
