/- How the builder's objects stand for its model's frames: by a map from blocks to records. Nothing of the program here. -/
import Derived.Test.YtemomhanchiipaaGreatDoorTLawA
namespace Go.Proofs.YtemomhanchiipaaGreatDoor

/-- What an object holds: its node's block (none: a text, or the root), name, attributes, text, parts. -/
structure ORec where
  nb : Option Nat
  name : Bytes
  attrs : List TAttr
  text : Bytes
  kids : List Nat
abbrev OMap := Nat → Option ORec
def OMap.put (H : OMap) (b : Nat) (r : ORec) : OMap := fun x => if x = b then some r else H x
theorem OMap.put_same (H : OMap) (b : Nat) (r : ORec) : H.put b r b = some r := if_pos rfl
theorem OMap.put_other (H : OMap) {b x : Nat} (r : ORec) (h : x ≠ b) : H.put b r x = H x := if_neg h

mutual
/-- A closed tree at a block; all that is in it lies below a bound. -/
inductive TreeIn : OMap → Nat → TNode → Nat → Prop
  | text (H : OMap) (b : Nat) (t : Bytes) (hi : Nat) (h : H b = some ⟨none, [], [], t, []⟩) (hb : b < hi) : TreeIn H b (tText t) hi
  | elem (H : OMap) (b nb : Nat) (n : Bytes) (a : List TAttr) (ks : List Nat) (ps : List TNode) (hi : Nat) (h : H b = some ⟨some nb, n, a, [], ks⟩) (hn : n ≠ []) (hk : KidsIn H (b + 1) ks ps hi) : TreeIn H b (tElem n a ps) hi
/-- Trees at blocks, each behind the one ahead. -/
inductive KidsIn : OMap → Nat → List Nat → List TNode → Nat → Prop
  | nil (H : OMap) (lo hi : Nat) (h : lo ≤ hi) : KidsIn H lo [] [] hi
  | cons (H : OMap) (lo k mid hi : Nat) (ks : List Nat) (t : TNode) (ts : List TNode) (hlo : lo ≤ k) (ht : TreeIn H k t mid) (hk : KidsIn H mid ks ts hi) : KidsIn H lo (k :: ks) (t :: ts) hi
end

mutual
theorem TreeIn.lt {H : OMap} : ∀ {b : Nat} {t : TNode} {hi : Nat}, TreeIn H b t hi → b < hi
  | _, _, _, .text _ _ _ _ _ hb => hb
  | _, _, _, .elem _ _ _ _ _ _ _ _ _ _ hk => by have := hk.le; omega
theorem KidsIn.le {H : OMap} : ∀ {lo : Nat} {ks : List Nat} {ts : List TNode} {hi : Nat}, KidsIn H lo ks ts hi → lo ≤ hi
  | _, _, _, _, .nil _ _ _ h => h
  | _, _, _, _, .cons _ _ _ _ _ _ _ _ hlo ht hk => by have := ht.lt; have := hk.le; omega
end
mutual
theorem TreeIn.same {H H' : OMap} : ∀ {b : Nat} {t : TNode} {hi : Nat}, TreeIn H b t hi → (∀ x, b ≤ x → x < hi → H' x = H x) → TreeIn H' b t hi
  | _, _, _, .text _ b _ hi h hb, hs => .text _ b _ hi ((hs b (Nat.le_refl _) hb).trans h) hb
  | _, _, _, .elem _ b nb n a ks ps hi h hn hk, hs => .elem _ b nb n a ks ps hi ((hs b (Nat.le_refl _) (by have := hk.le; omega)).trans h) hn (hk.same fun x h1 h2 => hs x (by omega) h2)
theorem KidsIn.same {H H' : OMap} : ∀ {lo : Nat} {ks : List Nat} {ts : List TNode} {hi : Nat}, KidsIn H lo ks ts hi → (∀ x, lo ≤ x → x < hi → H' x = H x) → KidsIn H' lo ks ts hi
  | _, _, _, _, .nil _ lo hi h, _ => .nil _ lo hi h
  | _, _, _, _, .cons _ lo k mid hi ks t ts hlo ht hk, hs => .cons _ lo k mid hi ks t ts hlo (ht.same fun x h1 h2 => hs x (by omega) (by have := hk.le; omega)) (hk.same fun x h1 h2 => hs x (by have := ht.lt; omega) h2)
end
mutual
theorem TreeIn.mono {H : OMap} : ∀ {b : Nat} {t : TNode} {hi hi' : Nat}, TreeIn H b t hi → hi ≤ hi' → TreeIn H b t hi'
  | _, _, _, hi', .text _ b _ hi h hb, hh => .text _ b _ hi' h (by omega)
  | _, _, _, hi', .elem _ b nb n a ks ps hi h hn hk, hh => .elem _ b nb n a ks ps hi' h hn (hk.mono hh)
theorem KidsIn.mono {H : OMap} : ∀ {lo : Nat} {ks : List Nat} {ts : List TNode} {hi hi' : Nat}, KidsIn H lo ks ts hi → hi ≤ hi' → KidsIn H lo ks ts hi'
  | _, _, _, _, hi', .nil _ lo hi h, hh => .nil _ lo hi' (by omega)
  | _, _, _, _, hi', .cons _ lo k mid hi ks t ts hlo ht hk, hh => .cons _ lo k mid hi' ks t ts hlo ht (hk.mono hh)
end
theorem KidsIn.snoc {H : OMap} : ∀ {lo : Nat} {ks : List Nat} {ts : List TNode} {hi k : Nat} {t : TNode} {hi' : Nat}, KidsIn H lo ks ts hi → hi ≤ k → TreeIn H k t hi' → KidsIn H lo (ks ++ [k]) (ts ++ [t]) hi'
  | _, _, _, _, k, t, hi', .nil _ lo hi h, hk, ht => .cons _ lo k hi' hi' [] t [] (by omega) ht (.nil _ _ _ (Nat.le_refl _))
  | _, _, _, _, k, t, hi', .cons _ lo k0 mid hi ks t0 ts hlo ht0 hk0, hk, ht => .cons _ lo k0 mid hi' (ks ++ [k]) t0 (ts ++ [t]) hlo ht0 (hk0.snoc hk ht)
theorem KidsIn.len {H : OMap} : ∀ {lo : Nat} {ks : List Nat} {ts : List TNode} {hi : Nat}, KidsIn H lo ks ts hi → ks.length = ts.length
  | _, _, _, _, .nil _ _ _ _ => rfl
  | _, _, _, _, .cons _ _ _ _ _ _ _ _ _ _ hk => by rw [List.length_cons, List.length_cons, hk.len]
/-- The last one apart. -/
theorem KidsIn.unsnoc {H : OMap} {t : TNode} : ∀ {ts : List TNode} {lo : Nat} {ks : List Nat} {hi : Nat}, KidsIn H lo ks (ts ++ [t]) hi → ∃ ks' k mid, ks = ks' ++ [k] ∧ KidsIn H lo ks' ts mid ∧ mid ≤ k ∧ TreeIn H k t hi := by
  intro ts
  induction ts with
  | nil =>
    intro lo ks hi h
    cases h with
    | cons _ k mid _ ks _ _ hlo ht hk =>
      cases hk with
      | nil _ _ h => exact ⟨[], k, lo, rfl, .nil _ _ _ (Nat.le_refl _), hlo, ht.mono h⟩
  | cons t0 ts ih =>
    intro lo ks hi h
    cases h with
    | cons _ k mid _ ks _ _ hlo ht hk =>
      obtain ⟨ks', k', mid', rfl, h1, h2, h3⟩ := ih hk
      exact ⟨k :: ks', k', mid', rfl, .cons _ _ _ _ _ _ _ _ hlo ht h1, h2, h3⟩
theorem KidsIn.get {H : OMap} : ∀ {ts : List TNode} {lo : Nat} {ks : List Nat} {hi : Nat}, KidsIn H lo ks ts hi → ∀ (i : Nat) (t : TNode), ts[i]? = some t → ∃ k mid, ks[i]? = some k ∧ TreeIn H k t mid ∧ lo ≤ k ∧ mid ≤ hi := by
  intro ts
  induction ts with
  | nil => intro lo ks hi h i t hi; simp at hi
  | cons t0 ts ih =>
    intro lo ks hi h i t hit
    cases h with
    | cons _ k mid _ ks _ _ hlo ht hk =>
      cases i with
      | zero => simp at hit; subst hit; exact ⟨k, mid, rfl, ht, hlo, hk.le⟩
      | succ i =>
        obtain ⟨k', mid', h1, h2, h3, h4⟩ := ih hk i t (by simpa using hit)
        exact ⟨k', mid', by simpa using h1, h2, by have := ht.lt; omega, h4⟩

/-- The stack: blocks and frames, the top first; the next open one (none: this is the top); what is closed lies below the bound. -/
inductive Stk (H : OMap) : Option Nat → Nat → List Nat → List Fr → Prop
  | root (b : Nat) (f : Fr) (ks : List Nat) (c : Option Nat) (hi : Nat) (h : H b = some ⟨none, [], [], [], ks ++ c.toList⟩) (hk : KidsIn H (b + 1) ks f.done hi) (hn : f.name = []) : Stk H c hi [b] [f]
  | cons (b nb : Nat) (f : Fr) (ks : List Nat) (c : Option Nat) (hi : Nat) (bs : List Nat) (fs : List Fr) (h : H b = some ⟨some nb, f.name, f.attrs, [], ks ++ c.toList⟩) (hn : f.name ≠ []) (hk : KidsIn H (b + 1) ks f.done hi) (hr : Stk H (some b) b bs fs) : Stk H c hi (b :: bs) (f :: fs)
theorem Stk.len {H : OMap} {c : Option Nat} {hi : Nat} {bs : List Nat} {fs : List Fr} (h : Stk H c hi bs fs) : bs.length = fs.length := by
  induction h with
  | root => rfl
  | cons _ _ _ _ _ _ _ _ _ _ _ _ ih => rw [List.length_cons, List.length_cons, ih]
theorem Stk.mono {H : OMap} {c : Option Nat} {hi hi' : Nat} {bs : List Nat} {fs : List Fr} (h : Stk H c hi bs fs) (hh : hi ≤ hi') : Stk H c hi' bs fs := by
  cases h with
  | root b f ks c hi h hk hn => exact .root b f ks c hi' h (hk.mono hh) hn
  | cons b nb f ks c hi bs fs h hn hk hr => exact .cons b nb f ks c hi' bs fs h hn (hk.mono hh) hr
/-- What lies above the bound does not matter. -/
theorem Stk.same {H H' : OMap} {c : Option Nat} {hi : Nat} {bs : List Nat} {fs : List Fr} (h : Stk H c hi bs fs) : (∀ x, x < hi → H' x = H x) → Stk H' c hi bs fs := by
  induction h with
  | root b f ks c hi h hk hn => exact fun hs => .root b f ks c hi ((hs b (by have := hk.le; omega)).trans h) (hk.same fun x _ h2 => hs x h2) hn
  | cons b nb f ks c hi bs fs h hn hk hr ih => exact fun hs => .cons b nb f ks c hi bs fs ((hs b (by have := hk.le; omega)).trans h) hn (hk.same fun x _ h2 => hs x h2) (ih fun x hx => hs x (by have := hk.le; omega))
/-- The top is closed. -/
theorem Stk.pop {H : OMap} {hi b b' : Nat} {bs : List Nat} {f f' : Fr} {fs : List Fr} (h : Stk H none hi (b :: b' :: bs) (f :: f' :: fs)) : Stk H none hi (b' :: bs) (popM (f :: f' :: fs)) := by
  cases h with
  | cons b nb f ks c hi bs fs h hn hk hr =>
    simp only [Option.toList_none, List.append_nil] at h
    have ht : TreeIn H b (tElem f.name f.attrs f.done) hi := .elem H b nb f.name f.attrs ks f.done hi h hn hk
    cases hr with
    | root _ _ ks' _ _ h' hk' hn' => exact .root b' _ (ks' ++ [b]) none hi (by simpa using h') (hk'.snoc (Nat.le_refl _) ht) hn'
    | cons _ nb' _ ks' _ _ _ _ h' hn' hk' hr' => exact .cons b' nb' { f' with done := f'.done ++ [tElem f.name f.attrs f.done] } (ks' ++ [b]) none hi _ _ (by simpa using h') hn' (hk'.snoc (Nat.le_refl _) ht) hr'
theorem Stk.popN {H : OMap} {hi : Nat} : ∀ (n : Nat) {bs : List Nat} {fs : List Fr}, Stk H none hi bs fs → n + 1 ≤ fs.length → Stk H none hi (bs.drop n) (popN n fs)
  | 0, _, _, h, _ => h
  | n + 1, bs, fs, h, hn => by
    match bs, fs, h, hn with
    | b :: b' :: bs, f :: f' :: fs, h, hn => exact Stk.popN n h.pop (by simp [popM] at hn ⊢; omega)
    | [], _, h, _ => cases h
    | [_], f :: f' :: fs, h, _ => have := h.len; simp at this
    | _ :: _ :: _, [], h, _ => cases h
    | _, [f], h, hn => simp at hn
theorem Stk.close {H : OMap} {hi : Nat} {bs : List Nat} {fs : List Fr} (h : Stk H none hi bs fs) (i : Nat) (hi' : i ≤ fs.length) : Stk H none hi (if i = 0 then bs else bs.drop (bs.length - i)) (closeM i fs) := by
  unfold closeM
  split
  · exact h
  · rw [h.len]
    exact h.popN _ (by omega)
/-- The top's record. -/
theorem Stk.top {H : OMap} {hi b : Nat} {bs : List Nat} {f : Fr} {fs : List Fr} (h : Stk H none hi (b :: bs) (f :: fs)) :
    ∃ nb ks, H b = some ⟨nb, f.name, (if nb.isSome then f.attrs else []), [], ks⟩ ∧ KidsIn H (b + 1) ks f.done hi ∧ b < hi ∧ (nb = none ↔ fs = []) ∧ (f.name = [] ↔ nb = none) := by
  cases h with
  | root _ _ ks _ _ h hk hn => exact ⟨none, ks, by rw [hn]; simpa using h, hk, by have := hk.le; omega, ⟨fun _ => rfl, fun _ => rfl⟩, ⟨fun _ => rfl, fun _ => hn⟩⟩
  | cons _ nb _ ks _ _ _ _ h hn hk hr =>
    refine ⟨some nb, ks, by simpa using h, hk, by have := hk.le; omega, ⟨fun h => (by cases h), fun h => ?_⟩, ⟨fun h => absurd h hn, fun h => (by cases h)⟩⟩
    have := hr.len
    subst h
    cases hr
/-- The top's record is another one, its done parts too. -/
theorem Stk.retop {H H' : OMap} {hi hi' b : Nat} {bs : List Nat} {f f' : Fr} {fs : List Fr} (h : Stk H none hi (b :: bs) (f :: fs)) (r r' : ORec) (hr : H b = some r) (hr' : H' b = some r')
    (h1 : r'.nb = r.nb) (h2 : r'.name = r.name) (h3 : r'.attrs = r.attrs) (h4 : r'.text = r.text) (hf : f'.name = f.name) (hfa : f'.attrs = f.attrs) (hk : KidsIn H' (b + 1) r'.kids f'.done hi') (hs : ∀ x, x < b → H' x = H x) : Stk H' none hi' (b :: bs) (f' :: fs) := by
  obtain ⟨q1, q2, q3, q4, q5⟩ := r'
  cases h with
  | root _ _ ks _ _ h hk0 hn =>
    rw [h] at hr
    cases hr
    simp only at h1 h2 h3 h4 hk
    subst h1 h2 h3 h4
    exact .root b f' q5 none hi' (by simpa using hr') hk (by rw [hf]; exact hn)
  | cons _ nb _ ks _ _ _ _ h hn hk0 hr0 =>
    rw [h] at hr
    cases hr
    simp only at h1 h2 h3 h4 hk
    subst h1 h2 h3 h4
    exact .cons b nb f' q5 none hi' _ _ (by rw [hf, hfa]; simpa using hr') (by rw [hf]; exact hn) hk (hr0.same hs)
/-- A new element is opened. -/
theorem Stk.push {H H' : OMap} {hi hi' b k nb : Nat} {bs : List Nat} {f : Fr} {fs : List Fr} (h : Stk H none hi (b :: bs) (f :: fs)) (r : ORec) (hr : H b = some r) (n : Bytes) (a : List TAttr) (hn : n ≠ [])
    (hk : hi ≤ k) (hk' : k + 1 ≤ hi') (hb : H' b = some { r with kids := r.kids ++ [k] }) (hnew : H' k = some ⟨some nb, n, a, [], []⟩) (hs : ∀ x, x < hi → x ≠ b → H' x = H x) :
    Stk H' none hi' (k :: b :: bs) (⟨n, a, []⟩ :: f :: fs) := by
  refine .cons k nb ⟨n, a, []⟩ [] none hi' _ _ (by simpa using hnew) hn (.nil _ _ _ hk') ?_
  cases h with
  | root _ _ ks _ _ h hk0 hn0 =>
    rw [h] at hr
    cases hr
    exact .root b f ks (some k) k (by simpa using hb) ((hk0.same fun x h1 h2 => hs x h2 (by omega)).mono hk) hn0
  | cons _ nb _ ks _ _ _ _ h hn0 hk0 hr0 =>
    rw [h] at hr
    cases hr
    have hlt := hk0.le
    exact .cons b nb f ks (some k) k _ _ (by simpa using hb) hn0 ((hk0.same fun x h1 h2 => hs x h2 (by omega)).mono hk) (hr0.same fun x hx => hs x (by omega) (by omega))

end Go.Proofs.YtemomhanchiipaaGreatDoor
