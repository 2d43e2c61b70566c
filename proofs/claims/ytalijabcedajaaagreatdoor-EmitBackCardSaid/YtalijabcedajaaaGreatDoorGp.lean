/- Joined texts: ETokA ETokP Ord ETokR. -/
import Derived.Orders
import Derived.Test.YtalijabcedajaaaGreatDoorGa
import Derived.Test.YtalijabcedajaaaGreatDoorGh
import Derived.Test.YtalijabcedajaaaGreatDoorJTWalkD
/- Tokens that the rows draw: they may be written. Nothing of the program here. -/
namespace Go.Proofs.YtalijabcedajaaaGreatDoor
open Go Go.RowKit

def names5 : List Bytes := [[112], [98], [105], [108, 105], [104, 45, 49]]
abbrev names5V : Array Value := #[.string ⟨#[112]⟩, .string ⟨#[98]⟩, .string ⟨#[105]⟩, .string ⟨#[108, 105]⟩, .string ⟨#[104, 45, 49]⟩]
theorem names5_v : names5V.toList = names5.map (fun p => .string (mk p)) := rfl
def texts7 : List Bytes := [[120], [97, 60, 98], [38, 97, 109, 112, 59], [34, 113, 34], [60, 112, 62], [32, 62, 32], [38, 35, 54, 48, 59]]
abbrev texts7V : Array Value := #[.string ⟨#[120]⟩, .string ⟨#[97, 60, 98]⟩, .string ⟨#[38, 97, 109, 112, 59]⟩, .string ⟨#[34, 113, 34]⟩, .string ⟨#[60, 112, 62]⟩, .string ⟨#[32, 62, 32]⟩, .string ⟨#[38, 35, 54, 48, 59]⟩]
theorem texts7_v : texts7V.toList = texts7.map (fun p => .string (mk p)) := rfl
def vals6 : List Bytes := [[], [120], [97, 34, 98], [60, 38, 62], [97, 32, 98], [38, 108, 116, 59]]
abbrev vals6V : Array Value := #[.string ⟨#[]⟩, .string ⟨#[120]⟩, .string ⟨#[97, 34, 98]⟩, .string ⟨#[60, 38, 62]⟩, .string ⟨#[97, 32, 98]⟩, .string ⟨#[38, 108, 116, 59]⟩]
theorem vals6_v : vals6V.toList = vals6.map (fun p => .string (mk p)) := rfl
def keys2 : List Bytes := [[99, 108, 97, 115, 115], [104, 114, 101, 102]]
abbrev keys2V : Array Value := #[.string ⟨#[99, 108, 97, 115, 115]⟩, .string ⟨#[104, 114, 101, 102]⟩]
theorem keys2_v : keys2V.toList = keys2.map (fun p => .string (mk p)) := rfl

/-- Attributes that are drawn. -/
structure GoodAttrs (l : List TAttr) : Prop where
  of ::
  names : l.map (·.name) = keys2.take l.length
  len : l.length ≤ 2
  vals : ∀ a ∈ l, a.value ∈ vals6
theorem GoodAttrs.nil : GoodAttrs [] := ⟨rfl, by simp, fun a h => by cases h⟩
theorem GoodAttrs.snoc {l : List TAttr} (h : GoodAttrs l) {k v : Bytes} (hl : l.length < 2) (hk : keys2[l.length]? = some k) (hv : v ∈ vals6) : GoodAttrs (l ++ [⟨k, v⟩]) := by
  refine ⟨?_, by rw [List.length_append]; simp; omega, fun a ha => ?_⟩
  · rw [List.map_append, h.names, List.length_append, List.length_singleton, List.take_add_one, hk]
    rfl
  · rcases List.mem_append.1 ha with ha | ha
    · exact h.vals a ha
    · cases List.mem_singleton.1 ha; exact hv
inductive GoodTok : TTok → Prop
  | start (n : Bytes) (l : List TAttr) (s : Bool) (hn : n ∈ names5) (hl : GoodAttrs l) : GoodTok ⟨1, n, l, s, []⟩
  | stop (n : Bytes) (hn : n ∈ names5) : GoodTok ⟨2, n, [], false, []⟩
  | chars (x : Bytes) (hx : x ∈ texts7) : GoodTok ⟨3, [], [], false, x⟩
structure GoodToks (l : List TTok) : Prop where
  of ::
  toks : ∀ t ∈ l, GoodTok t
  apart : apartT false l = true

theorem goodAttrs_ways {l : List TAttr} (h : GoodAttrs l) : l = [] ∨ (∃ v, l = [⟨[99, 108, 97, 115, 115], v⟩]) ∨ ∃ v u, l = [⟨[99, 108, 97, 115, 115], v⟩, ⟨[104, 114, 101, 102], u⟩] := by
  match l, h with
  | [], _ => exact .inl rfl
  | [⟨k, v⟩], h =>
    have h1 : [k] = [([99, 108, 97, 115, 115] : Bytes)] := h.names
    cases h1
    exact .inr (.inl ⟨v, rfl⟩)
  | [⟨k, v⟩, ⟨k2, u⟩], h =>
    have h1 : [k, k2] = [([99, 108, 97, 115, 115] : Bytes), [104, 114, 101, 102]] := h.names
    cases h1
    exact .inr (.inr ⟨v, u, rfl⟩)
  | _ :: _ :: _ :: _, h => have := h.len; simp at this
theorem goodAttrs_ok {l : List TAttr} (h : GoodAttrs l) : attrsM l = 0 := by
  rcases goodAttrs_ways h with rfl | ⟨v, rfl⟩ | ⟨v, u, rfl⟩ <;> rfl
theorem names5_ok : ∀ n ∈ names5, nameM n = true ∧ isRaw n = false ∧ n.length ≤ 3 := by decide
theorem texts7_ok : ∀ x ∈ texts7, x ≠ [] ∧ (escM false x).length ≤ 20 ∧ x.length ≤ 10 := by decide
theorem vals6_ok : ∀ x ∈ vals6, (escM true x).length ≤ 20 ∧ x.length ≤ 10 := by decide

theorem good_check : ∀ (l : List TTok) (last : Int), (∀ t ∈ l, GoodTok t) → apartT (last == 3) l = true → checkFrom last l = 0
  | [], _, _, _ => rfl
  | t :: r, last, hg, ha => by
    rw [apartT, Bool.and_eq_true] at ha
    obtain ⟨a1, a2⟩ := ha
    have ih := good_check r t.kind (fun u hu => hg u (by simp [hu])) a2
    have ht := hg t (by simp)
    have hf : failAt t last r = 0 := by
      unfold failAt
      cases ht with
      | start n l s hn hl =>
        obtain ⟨h1, h2, _⟩ := names5_ok n hn
        rw [if_neg (by simp), if_neg (by simp [h1]), if_neg (by simp [goodAttrs_ok hl])]
        rw [if_neg]
        rw [odd_none_start n l s last r h2]; simp
      | stop n hn =>
        obtain ⟨h1, h2, _⟩ := names5_ok n hn
        rw [if_neg (by simp), if_neg (by simp [h1]), if_neg (by simp [attrsM, twiceM])]
        rfl
      | chars x hx =>
        obtain ⟨h1, _⟩ := texts7_ok x hx
        have h3 : (last == 3) = false := by simpa using a1
        rw [if_neg (by simp), if_neg (by simp), if_neg (by simp)]
        rw [if_neg]
        rw [odd_none_chars x last r h1 h3]; simp
    rw [checkFrom_cons, if_neg (by rw [hf]; simp)]
    exact ih
where
  odd_none_start (n : Bytes) (l : List TAttr) (s : Bool) (last : Int) (r : List TTok) (h2 : isRaw n = false) : oddM ⟨1, n, l, s, []⟩ last r = false := by
    show (!(([] : Bytes) == []) || (isRaw n && !closedBy n r)) = false
    rw [h2]; rfl
  odd_none_chars (x : Bytes) (last : Int) (r : List TTok) (h1 : x ≠ []) (h3 : (last == 3) = false) : oddM ⟨3, [], [], false, x⟩ last r = false := by
    show (x == [] || !(([] : Bytes) == []) || !([] : List TAttr).isEmpty || false || last == 3) = false
    rw [h3, beq_eq_false_iff_ne.2 h1]; rfl
theorem good_ok {l : List TTok} (h : GoodToks l) (hl : l.length ≤ 300) : checkM l = 0 := by
  unfold checkM
  rw [if_neg (by omega)]
  exact good_check l 0 h.toks h.apart

theorem good_len {t : TTok} (h : GoodTok t) : (tokText t).length ≤ 100 := by
  cases h with
  | start n l s hn hl =>
    have h1 := (names5_ok n hn).2.2
    have h2 : (attrTexts l).length ≤ 60 := by
      rcases goodAttrs_ways hl with rfl | ⟨v, rfl⟩ | ⟨v, u, rfl⟩
      · simp [attrTexts]
      · have hv := (vals6_ok v (hl.vals ⟨[99, 108, 97, 115, 115], v⟩ (by simp))).1
        simp only [attrTexts, attrText, List.length_append, List.length_cons, List.length_nil]; omega
      · have hv := (vals6_ok v (hl.vals ⟨[99, 108, 97, 115, 115], v⟩ (by simp))).1
        have hu := (vals6_ok u (hl.vals ⟨[104, 114, 101, 102], u⟩ (by simp))).1
        simp only [attrTexts, attrText, List.length_append, List.length_cons, List.length_nil]; omega
    show (tagText n l s).length ≤ 100
    unfold tagText tagTail
    split <;> simp only [List.length_append, List.length_cons, List.length_nil] <;> omega
  | stop n hn =>
    have h1 := (names5_ok n hn).2.2
    show (60 :: 47 :: n ++ [62]).length ≤ 100
    simp only [List.length_append, List.length_cons, List.length_nil]; omega
  | chars x hx =>
    have h1 := (texts7_ok x hx).2.1
    show (escM false x).length ≤ 100
    omega
theorem good_texts_len (l : List TTok) (h : ∀ t ∈ l, GoodTok t) : (tokTexts l).length ≤ 100 * l.length := by
  induction l with
  | nil => simp [tokTexts]
  | cons t l ih =>
    have h1 := good_len (h t (by simp))
    have h2 := ih fun u hu => h u (by simp [hu])
    rw [tokTexts, List.length_append, List.length_cons]; omega
theorem good_sz {t : TTok} (h : GoodTok t) : TokSz 1000 t := by
  cases h with
  | start n l s hn hl =>
    refine ⟨?_, by show 0 ≤ 1000; omega, ?_, fun a ha => ?_⟩
    · have := (names5_ok n hn).2.2
      show n.length ≤ 1000; omega
    · have := hl.len
      show l.length ≤ 1000; omega
    · have h1 := (vals6_ok _ (hl.vals a ha)).2
      have h2 : a.name ∈ keys2.take l.length := by rw [← hl.names]; exact List.mem_map.2 ⟨a, ha, rfl⟩
      have h3 : ∀ k ∈ keys2, k.length ≤ 10 := by decide
      exact ⟨Nat.le_trans (h3 _ (List.mem_of_mem_take h2)) (by omega), by omega⟩
  | stop n hn =>
    refine ⟨?_, by show 0 ≤ 1000; omega, by show 0 ≤ 1000; omega, fun a ha => by cases ha⟩
    have := (names5_ok n hn).2.2
    show n.length ≤ 1000; omega
  | chars x hx =>
    refine ⟨by show 0 ≤ 1000; omega, ?_, by show 0 ≤ 1000; omega, fun a ha => by cases ha⟩
    have := (texts7_ok x hx).2.2
    show x.length ≤ 1000; omega

theorem apartT_append : ∀ (l : List TTok) (p : Bool) (t : TTok), apartT p (l ++ [t]) = (apartT p l && !((match l.getLast? with | some u => u.kind == 3 | none => p) && t.kind == 3))
  | [], p, t => by simp [apartT]
  | [u], p, t => by simp [apartT]
  | u :: x :: l, p, t => by
    have h := apartT_append (x :: l) (u.kind == 3) t
    show (!(p && u.kind == 3) && apartT (u.kind == 3) ((x :: l) ++ [t])) = ((!(p && u.kind == 3) && apartT (u.kind == 3) (x :: l)) && _)
    rw [h, List.getLast?_cons_cons, Bool.and_assoc]
    cases hl : (x :: l).getLast? with
    | none => simp at hl
    | some y => rfl
theorem GoodToks.nil : GoodToks [] := ⟨fun t h => (by cases h), rfl⟩
theorem GoodToks.snoc {l : List TTok} (h : GoodToks l) {t : TTok} (ht : GoodTok t) (hl : t.kind = 3 → ∀ u, l.getLast? = some u → u.kind ≠ 3) : GoodToks (l ++ [t]) := by
  refine ⟨fun u hu => (List.mem_append.1 hu).elim (h.toks u) fun hu => by cases List.mem_singleton.1 hu; exact ht, ?_⟩
  rw [apartT_append, h.apart, Bool.true_and]
  cases hk : (t.kind == 3) with
  | false => simp
  | true =>
    have h3 := hl (by simpa using hk)
    cases hg : l.getLast? with
    | none => rfl
    | some u =>
      have := h3 u hg
      simp [this]

end Go.Proofs.YtalijabcedajaaaGreatDoor
/- A step of the walk of Tokens: an attribute is appended. -/
namespace Go.Proofs.YtalijabcedajaaaGreatDoor
open Go Go.RowKit

/-- At a step of the region that draws its order: an attribute laid behind two tables is appended to the token's own. -/
theorem step_pushAttr {ops : Array Oper} {o : Oper} {a : Act} {K : Act → World → Prop} {Q : Exit → Act → World → Prop} {E : Prop} (hgd : o.guard = none) (s x : Operand)
    (ho : o.op = .call { callee := .builtin .append, args := #[s, x], argTypes := #[31, 31] })
    (B : Nat) (Wc : World) (o1 o2 : Obj) (va : Value) (al : List TAttr) (k v : Bytes) (X : World) (hX : X = (((Wc.alloc o1).alloc o2).alloc (.cells #[.string (mk k), .string (mk v)] 40)).drew)
    (hs : a.eval s = va) (hx : a.eval x = .slice (some ⟨Wc.heap.size + 1 + 1, 0, none⟩) 1 1) (hown : AttrRow B Wc va al) (hal : al.length ≤ 1000) (hB : B ≤ Wc.heap.size)
    (bk : Nat) (t : TTok) (hbox : TokBox Wc bk t va) (hne : va.ownBlock ≠ some bk)
    (h : ∀ g cap w', AttrRow B w' (.slice (some ⟨g, 0, none⟩) (al.length + 1) cap) (al ++ [⟨k, v⟩]) → Below B Wc w' → TokBox w' bk t va → g ≠ bk → K (a.put o.dst (.slice (some ⟨g, 0, none⟩) (al.length + 1) cap)) w') :
    if Region.wanted o (yielded ops a.tmps) = true then Oper.wp Tryz.prog o a X K Q else E := by
  subst hX
  obtain ⟨i0, hi0, hz0, hz1, hz2⟩ := info_parts infoAttr
  have z1 : (Wc.alloc o1).heap.size = Wc.heap.size + 1 := by simp
  have z2 : ((Wc.alloc o1).alloc o2).heap.size = Wc.heap.size + 1 + 1 := by simp
  have b1 := (Below.refl Wc.heap.size Wc).alloc (Nat.le_refl _) o1
  have b2 := (Below.refl (Wc.alloc o1).heap.size (Wc.alloc o1)).alloc (Nat.le_refl _) o2
  have b3 := (Below.refl ((Wc.alloc o1).alloc o2).heap.size ((Wc.alloc o1).alloc o2)).alloc (Nat.le_refl _) (.cells #[.string (mk k), .string (mk v)] 40)
  have hnew := heap_alloc_new ((Wc.alloc o1).alloc o2) (.cells #[.string (mk k), .string (mk v)] 40)
  have hz3 : (((Wc.alloc o1).alloc o2).alloc (.cells #[.string (mk k), .string (mk v)] 40)).heap.size = Wc.heap.size + 1 + 1 + 1 := by simp
  rw [z2] at hnew b3
  rw [z1] at b2
  have ball : Below Wc.heap.size Wc ((((Wc.alloc o1).alloc o2).alloc (.cells #[.string (mk k), .string (mk v)] 40)).drew) := by
    have hh := (b1.trans (b2.mono (by omega))).trans (b3.mono (by omega))
    exact ⟨hh.os, hh.tape, hh.output, hh.size, hh.block⟩
  have hown3 : ((((Wc.alloc o1).alloc o2).alloc (.cells #[.string (mk k), .string (mk v)] 40)).drew).ownsRow B 40 2 va al.length (attrCells al) := AttrRow.below hown ball
  generalize hY : ((((Wc.alloc o1).alloc o2).alloc (.cells #[.string (mk k), .string (mk v)] 40)).drew) = Y at *
  have hnewY : Y.heap[Wc.heap.size + 1 + 1]? = some (.cells #[.string (mk k), .string (mk v)] 40 (0, 0)) := by rw [← hY]; exact hnew
  have hzY : Y.heap.size = Wc.heap.size + 1 + 1 + 1 := by rw [← hY]; exact hz3
  refine step_append_lies Y hgd s x 31 ho B 40 i0 _ 2 32 Tryz.underlying31 hi0 hz0 hz1 hz2 rfl (by decide) va al.length (attrCells al) hs hown3 ⟨Wc.heap.size + 1 + 1, 0, none⟩ 1 1 [.string (mk k), .string (mk v)] hx rfl ?_ ?_ (by omega) (by unfold maxLen; omega) (by omega) (by omega) (Wc.heap.size + 1 + 1 + 1) hzY ?_
  · exact World.news_of_block (cs := #[.string (mk k), .string (mk v)]) (t := 40) (fr := (0, 0)) hnewY
  · intro u hu
    simp only [List.mem_cons, List.not_mem_nil, or_false] at hu
    rcases hu with rfl | rfl <;> rfl
  · intro g cap w' k1 k2 k3 _
    have hbk := lt_of_block hbox
    have hyb : Y.heap[bk]? = Wc.heap[bk]? := ball.block bk hbk
    refine h g cap w' ?_ ?_ ?_ ?_
    · have e : attrCells (al ++ [⟨k, v⟩]) = attrCells al ++ [.string (mk k), .string (mk v)] := by simp [attrCells]
      unfold AttrRow
      rw [e, List.length_append]
      exact k1
    · refine (ball.mono hB).trans ⟨k2.os, k2.tape, k2.output, k2.size, fun j hj => k2.block j (by omega) fun e => ?_⟩
      obtain ⟨_, _, hBg⟩ : ∃ cs, Y.heap[j]? = some (.cells cs 40 (0, 0)) ∧ B ≤ j := by
        rcases hown3.2 with ⟨h0, _⟩ | ⟨g', cap', cur, hv', hB', hg', _⟩
        · rw [h0] at e; cases e
        · rw [hv'] at e
          have e' : j = g' := by injection e
          subst e'
          exact ⟨cur, hg', hB'⟩
      omega
    · exact hbox.keep ((k2.block bk (by omega) fun e => hne e.symm).trans hyb)
    · intro e
      subst e
      rcases k3 with k3 | k3
      · exact hne k3
      · omega

end Go.Proofs.YtalijabcedajaaaGreatDoor
/- A region that draws its order, by a relation that each operation keeps: one step for each operation, whatever was done ahead of it. -/
namespace Go.Proofs.YtalijabcedajaaaGreatDoor
open Go

theorem filter_lt {α : Type} (p q : α → Bool) (h : ∀ x, q x = true → p x = true) (x : α) (hp : p x = true) (hq : q x = false) : ∀ l : List α, x ∈ l → (l.filter q).length < (l.filter p).length
  | [], hx => by cases hx
  | y :: l, hx => by
    have hle : (l.filter q).length ≤ (l.filter p).length := by
      clear hx
      induction l with
      | nil => simp
      | cons z l ih =>
        rw [List.filter_cons, List.filter_cons]
        by_cases hz : q z = true
        · rw [if_pos hz, if_pos (h z hz)]; simpa using ih
        · rw [if_neg hz]
          split
          · simp only [List.length_cons]; omega
          · exact ih
    rw [List.filter_cons, List.filter_cons]
    rcases List.mem_cons.1 hx with rfl | hx
    · rw [if_pos hp, if_neg (by rw [hq]; simp)]
      simp only [List.length_cons]; omega
    · have ih := filter_lt p q h x hp hq l hx
      by_cases hy : q y = true
      · rw [if_pos hy, if_pos (h y hy)]; simpa using ih
      · rw [if_neg hy]
        split
        · simp only [List.length_cons]; omega
        · exact ih

section
variable {P : Program} {ops : Array Oper} {Q : Exit → Act → World → Prop} {md : Region.Mode}

/-- What is done: operation j. -/
def dn (listed : Array Bool) (j : Nat) : Bool := listed.getD j false
theorem dn_set (listed : Array Bool) (i : Nat) (h : i < listed.size) : dn (listed.setIfInBounds i true) = fun j => j == i || dn listed j := by
  funext j
  unfold dn
  rw [Array.getD_eq_getD_getElem?, Array.getD_eq_getD_getElem?, Array.getElem?_setIfInBounds]
  by_cases hj : i = j
  · subst hj; simp [h]
  · have : (j == i) = false := beq_eq_false_iff_ne.2 (fun e => hj e.symm)
    rw [if_neg hj, this, Bool.false_or]
theorem getD_tf (listed : Array Bool) (i : Nat) (h : i < listed.size) : listed.getD i true = dn listed i := by
  unfold dn; simp [h]
/-- What was done was done behind all that it waits for. -/
def Cl (md : Region.Mode) (ops : Array Oper) (L : Nat → Bool) : Prop := ∀ (j : Nat) (o : Oper), ops[j]? = some o → L j = true → ∀ e ∈ o.after.toList, Region.binds md e = true → L e.on = true

theorem ready_iff (listed : Array Bool) (hz : listed.size = ops.size) (i : Nat) : i ∈ Region.ready md ops listed ↔ ∃ o, ops[i]? = some o ∧ dn listed i = false ∧ ∀ e ∈ o.after.toList, Region.binds md e = true → dn listed e.on = true := by
  unfold Region.ready
  rw [List.mem_filter, List.mem_range]
  constructor
  · rintro ⟨h1, h2⟩
    rw [Bool.and_eq_true] at h2
    obtain ⟨h2, h3⟩ := h2
    rw [getD_tf _ _ (by omega)] at h2
    rw [Array.getElem?_eq_getElem h1] at h3
    refine ⟨_, Array.getElem?_eq_getElem h1, by simpa using h2, fun e he hb => ?_⟩
    simp only [Option.map_some, Option.getD_some] at h3
    rw [← Array.all_toList, List.all_eq_true] at h3
    have := h3 e he
    rw [hb] at this
    simpa [dn] using this
  · rintro ⟨o, h1, h2, h3⟩
    have hi : i < ops.size := (Array.getElem?_eq_some_iff.1 h1).1
    refine ⟨hi, ?_⟩
    rw [getD_tf _ _ (by omega), h2, h1]
    simp only [Option.map_some, Option.getD_some, Bool.not_false, Bool.true_and]
    rw [← Array.all_toList, List.all_eq_true]
    intro e he
    cases hb : Region.binds md e with
    | false => rfl
    | true => simpa [dn] using h3 e he hb

theorem all_done (hac : ∀ (i : Nat) (o : Oper), ops[i]? = some o → ∀ e ∈ o.after.toList, e.on < i) (listed : Array Bool) (hz : listed.size = ops.size) (h : Region.ready md ops listed = []) : ∀ i, i < ops.size → dn listed i = true := by
  intro i
  induction i using Nat.strongRecOn with
  | _ i ih =>
    intro hi
    cases hd : dn listed i with
    | true => rfl
    | false =>
      have : i ∈ Region.ready md ops listed := (ready_iff listed hz i).2 ⟨_, Array.getElem?_eq_getElem hi, hd, fun e he _ => by
        have hlt := hac i _ (Array.getElem?_eq_getElem hi) e he
        exact ih _ hlt (by omega)⟩
      rw [h] at this; cases this

theorem wpAny_inv (hac : ∀ (i : Nat) (o : Oper), ops[i]? = some o → ∀ e ∈ o.after.toList, e.on < i) (J : (Nat → Bool) → Act → World → Prop)
    (hstep : ∀ (i : Nat) (o : Oper), ops[i]? = some o → ∀ (L : Nat → Bool) (a : Act) (w : World), Cl md ops L → J L a w → L i = false → (∀ e ∈ o.after.toList, Region.binds md e = true → L e.on = true) →
      if Region.wanted o (yielded ops a.tmps) then o.wp P a w (J fun j => j == i || L j) Q else J (fun j => j == i || L j) (a.put o.dst undef) w)
    (hend : ∀ (L : Nat → Bool) (a : Act) (w : World), (∀ i, i < ops.size → L i = true) → J L a w → Q .normal a w) :
    ∀ (fuel : Nat) (listed : Array Bool) (a : Act) (w : World), listed.size = ops.size → ((List.range ops.size).filter fun i => !dn listed i).length ≤ fuel → Cl md ops (dn listed) → J (dn listed) a w → wpAny P md ops Q fuel listed a w := by
  intro fuel
  induction fuel with
  | zero =>
    intro listed a w hz hf hc hj
    have hr : Region.ready md ops listed = [] := by
      apply List.eq_nil_iff_forall_not_mem.2
      intro i hi
      obtain ⟨o, h1, h2, _⟩ := (ready_iff listed hz i).1 hi
      have hlt : i < ops.size := (Array.getElem?_eq_some_iff.1 h1).1
      have : i ∈ (List.range ops.size).filter fun i => !dn listed i := List.mem_filter.2 ⟨List.mem_range.2 hlt, by rw [h2]; rfl⟩
      have hnil : ((List.range ops.size).filter fun i => !dn listed i) = [] := List.eq_nil_of_length_eq_zero (Nat.le_zero.1 hf)
      rw [hnil] at this
      cases this
    exact ⟨hr, hend _ _ _ (all_done hac listed hz hr) hj⟩
  | succ fuel ih =>
    intro listed a w hz hf hc hj
    refine ⟨fun hr => hend _ _ _ (all_done hac listed hz hr) hj, fun i hi => ?_⟩
    obtain ⟨o, h1, h2, h3⟩ := (ready_iff listed hz i).1 hi
    have hlt : i < ops.size := (Array.getElem?_eq_some_iff.1 h1).1
    have hs := hstep i o h1 (dn listed) a w hc hj h2 h3
    have hgo : ∀ a' w', J (fun j => j == i || dn listed j) a' w' → wpAny P md ops Q fuel (listed.setIfInBounds i true) a' w' := by
      intro a' w' hj'
      refine ih _ _ _ (by simpa using hz) ?_ ?_ (by rw [dn_set _ _ (by omega)]; exact hj')
      · rw [dn_set _ _ (by omega)]
        have := filter_lt (fun j => !dn listed j) (fun j => !(j == i || dn listed j)) (fun x hx => by simp at hx ⊢; exact hx.2) i (by rw [h2]; rfl) (by simp) (List.range ops.size) (List.mem_range.2 hlt)
        exact Nat.le_of_lt_succ (Nat.lt_of_lt_of_le this hf)
      · rw [dn_set _ _ (by omega)]
        intro j o' ho' hj' e he hb
        rcases Bool.or_eq_true_iff.1 hj' with hj' | hj'
        · have : j = i := by simpa using hj'
          subst this
          rw [h1] at ho'
          cases ho'
          show (e.on == j || dn listed e.on) = true
          rw [h3 e he hb, Bool.or_true]
        · show (e.on == i || dn listed e.on) = true
          rw [hc j o' ho' hj' e he hb, Bool.or_true]
    unfold wpOp
    rw [h1]
    show if Region.wanted o (yielded ops a.tmps) then _ else _
    split
    · rename_i hw
      rw [if_pos hw] at hs
      exact .inl (Oper.wp_mono hgo hs)
    · rename_i hw
      rw [if_neg hw] at hs
      exact hgo _ _ hs

/-- A region that draws its order: a relation that each operation keeps. -/
theorem wp_region_inv {id : Nat} {a : Act} {w : World} (hm : P.follows .mixedOrders = true) (hac : ∀ (i : Nat) (o : Oper), ops[i]? = some o → ∀ e ∈ o.after.toList, e.on < i) (J : (Nat → Bool) → Act → World → Prop)
    (h0 : J (fun _ => false) a w.drew)
    (hstep : ∀ (i : Nat) (o : Oper), ops[i]? = some o → ∀ (L : Nat → Bool) (a : Act) (w : World), Cl .any ops L → J L a w → L i = false → (∀ e ∈ o.after.toList, Region.binds .any e = true → L e.on = true) →
      if Region.wanted o (yielded ops a.tmps) then o.wp P a w (J fun j => j == i || L j) Q else J (fun j => j == i || L j) (a.put o.dst undef) w)
    (hend : ∀ (L : Nat → Bool) (a : Act) (w : World), (∀ i, i < ops.size → L i = true) → J L a w → Q .normal a w) : (Code.region id ops true).wp P Q a w := by
  have hd : dn (Array.replicate ops.size false) = fun _ => false := by
    funext j
    unfold dn
    by_cases h : j < ops.size <;> simp [h]
  refine wp_region_any hm (wpAny_inv hac J hstep hend _ _ _ _ (by simp) ?_ ?_ (by rw [hd]; exact h0))
  · exact Nat.le_trans (List.length_filter_le _ _) (by simp)
  · rw [hd]; intro j o _ h; cases h
end

end Go.Proofs.YtalijabcedajaaaGreatDoor
/- What holds while the region of Tokens that draws its order goes on. -/
namespace Go.Proofs.YtalijabcedajaaaGreatDoor
open Go Go.RowKit

/-- What the region finds. -/
structure RP where
  a0 : Act
  Wc : World
  B : Nat
  bt : Nat
  va : Value
  al : List TAttr
  tk : TTok
  ky : Bytes
  x : Int

/-- What an operation's own slot holds once it is done. -/
def slotF (p : RP) (i : Nat) (v : Value) (w : World) : Prop := match i with
  | 0 | 17 => v = .pointer (some ⟨p.bt, 2, none⟩)
  | 1 => v = p.va
  | 2 => ∃ g, p.Wc.heap.size ≤ g ∧ v = .slice (some ⟨g, 0, none⟩) 2 2 ∧ w.heap[g]? = some (.cells keys2V 9 (0, 0))
  | 3 | 8 => v = .int .i64 p.al.length
  | 4 => ∃ g, p.Wc.heap.size ≤ g ∧ v = .pointer (some ⟨g, p.al.length, none⟩) ∧ w.heap[g]? = some (.cells keys2V 9 (0, 0))
  | 5 => v = .string (mk p.ky)
  | 6 => ∃ g, p.Wc.heap.size ≤ g ∧ v = .slice (some ⟨g, 0, none⟩) 6 6 ∧ w.heap[g]? = some (.cells vals6V 9 (0, 0))
  | 7 => v = .int .i64 p.x
  | 9 => v = .int .i64 (80 + p.al.length)
  | 10 => ∃ z, v = .int .i64 z
  | 11 => ∃ r : Nat, r < 6 ∧ v = .int .i64 r
  | 12 => ∃ g r : Nat, p.Wc.heap.size ≤ g ∧ r < 6 ∧ v = .pointer (some ⟨g, r, none⟩) ∧ w.heap[g]? = some (.cells vals6V 9 (0, 0))
  | 13 => ∃ vl ∈ vals6, v = .string (mk vl)
  | 14 => ∃ vl ∈ vals6, v = .agg #[.string (mk p.ky), .string (mk vl)]
  | 15 => ∃ vl ∈ vals6, ∃ g, p.Wc.heap.size ≤ g ∧ v = .slice (some ⟨g, 0, none⟩) 1 1 ∧ w.heap[g]? = some (.cells #[.string (mk p.ky), .string (mk vl)] 40 (0, 0))
  | _ => True
theorem slotF.stay {p : RP} {i : Nat} {v : Value} {w w' : World} (h : slotF p i v w) (hk : ∀ g, p.Wc.heap.size ≤ g → g < w.heap.size → w'.heap[g]? = w.heap[g]?) : slotF p i v w' := by
  unfold slotF at *
  split at h
  all_goals first | exact h | skip
  · obtain ⟨g, h1, h2, h3⟩ := h; exact ⟨g, h1, h2, (hk g h1 (lt_of_block h3)).trans h3⟩
  · obtain ⟨g, h1, h2, h3⟩ := h; exact ⟨g, h1, h2, (hk g h1 (lt_of_block h3)).trans h3⟩
  · obtain ⟨g, h1, h2, h3⟩ := h; exact ⟨g, h1, h2, (hk g h1 (lt_of_block h3)).trans h3⟩
  · obtain ⟨g, r, h1, hr, h2, h3⟩ := h; exact ⟨g, r, h1, hr, h2, (hk g h1 (lt_of_block h3)).trans h3⟩
  · obtain ⟨vl, hv, g, h1, h2, h3⟩ := h; exact ⟨vl, hv, g, h1, h2, (hk g h1 (lt_of_block h3)).trans h3⟩

/-- What the walk of the region carries. -/
structure JJ (p : RP) (L : Nat → Bool) (a : Act) (w : World) : Prop where
  of ::
  size : a.tmps.size = p.a0.tmps.size
  defers : a.defers = p.a0.defers
  rest : ∀ j, (j < 75 ∨ 92 < j) → a.tmps[j]? = p.a0.tmps[j]?
  vals : ∀ i, i < 18 → L i = true → slotF p i (a.tmps.getD (75 + i) undef) w
  before : L 16 = false → Below p.Wc.heap.size p.Wc w
  mid : L 16 = true → L 18 = false → ∃ g8 cap vl, vl ∈ vals6 ∧ a.tmps.getD 91 undef = .slice (some ⟨g8, 0, none⟩) (p.al.length + 1) cap ∧ AttrRow p.B w (.slice (some ⟨g8, 0, none⟩) (p.al.length + 1) cap) (p.al ++ [⟨p.ky, vl⟩]) ∧ TokBox w p.bt p.tk p.va ∧ Below p.B p.Wc w ∧ g8 ≠ p.bt
  fin : L 18 = true → ∃ g8 cap vl, vl ∈ vals6 ∧ AttrRow p.B w (.slice (some ⟨g8, 0, none⟩) (p.al.length + 1) cap) (p.al ++ [⟨p.ky, vl⟩]) ∧ TokBox w p.bt { p.tk with attrs := p.al ++ [⟨p.ky, vl⟩] } (.slice (some ⟨g8, 0, none⟩) (p.al.length + 1) cap) ∧ Below p.B p.Wc w ∧ g8 ≠ p.bt

theorem getD_put_ne (a : Act) (d j : Nat) (v : Value) (h : d ≠ j) : (a.put (some d) v).tmps.getD j undef = a.tmps.getD j undef := by
  show (a.tmps.setIfInBounds d v).getD j undef = _
  rw [Array.getD_eq_getD_getElem?, Array.getD_eq_getD_getElem?, Array.getElem?_setIfInBounds_ne h]
theorem getD_put_eq (a : Act) (d : Nat) (v : Value) (h : d < a.tmps.size) : (a.put (some d) v).tmps.getD d undef = v := by
  show (a.tmps.setIfInBounds d v).getD d undef = _
  rw [Array.getD_eq_getD_getElem?, Array.getElem?_setIfInBounds_self_of_lt h]; rfl

section
variable {p : RP} {L : Nat → Bool} {a : Act} {w w' : World} {v : Value}
/-- An operation ahead of the append is done. -/
theorem JJ.step (h : JJ p L a w) (hz : 92 < p.a0.tmps.size) (i : Nat) (hi : i < 16) (h16 : L 16 = false) (h18 : L 18 = false) (hF : slotF p i v w') (hb : Below w.heap.size w w') :
    JJ p (fun j => j == i || L j) (a.put (some (75 + i)) v) w' := by
  have hs := h.size
  refine ⟨by rw [← hs]; simp [Act.put], h.defers, fun j hj => ?_, fun j hj hl => ?_, fun _ => (h.before h16).trans (hb.mono (h.before h16).size), fun hl => ?_, fun hl => ?_⟩
  · show (a.tmps.setIfInBounds (75 + i) v)[j]? = _
    rw [Array.getElem?_setIfInBounds_ne (by omega)]; exact h.rest j hj
  · by_cases hji : j = i
    · subst hji
      rw [getD_put_eq _ _ _ (by omega)]; exact hF
    · rw [getD_put_ne _ _ _ _ (by omega)]
      refine (h.vals j hj ?_).stay fun g _ hg => hb.block g hg
      simpa [hji] using hl
  · have : (16 == i || L 16) = true := hl
    rw [h16, Bool.or_false, beq_iff_eq] at this; omega
  · have : (18 == i || L 18) = true := hl
    rw [h18, Bool.or_false, beq_iff_eq] at this; omega
/-- The append is done. -/
theorem JJ.step16 (h : JJ p L a w) (hz : 92 < p.a0.tmps.size) (h18 : L 18 = false) (hk : ∀ g, p.Wc.heap.size ≤ g → g < w.heap.size → w'.heap[g]? = w.heap[g]?)
    (hm : ∃ g8 cap vl, vl ∈ vals6 ∧ v = .slice (some ⟨g8, 0, none⟩) (p.al.length + 1) cap ∧ AttrRow p.B w' (.slice (some ⟨g8, 0, none⟩) (p.al.length + 1) cap) (p.al ++ [⟨p.ky, vl⟩]) ∧ TokBox w' p.bt p.tk p.va ∧ Below p.B p.Wc w' ∧ g8 ≠ p.bt) :
    JJ p (fun j => j == 16 || L j) (a.put (some 91) v) w' := by
  have hs := h.size
  refine ⟨by rw [← hs]; simp [Act.put], h.defers, fun j hj => ?_, fun j hj hl => ?_, fun hl => ?_, fun _ _ => ?_, fun hl => ?_⟩
  · show (a.tmps.setIfInBounds 91 v)[j]? = _
    rw [Array.getElem?_setIfInBounds_ne (by omega)]; exact h.rest j hj
  · by_cases hji : j = 16
    · subst hji
      trivial
    · rw [getD_put_ne _ _ _ _ (by omega)]
      exact (h.vals j hj (by simpa [hji] using hl)).stay hk
  · exact absurd (show (16 == 16 || L 16) = false from hl) (by simp)
  · rw [getD_put_eq _ _ _ (by omega)]; exact hm
  · have : (18 == 16 || L 18) = true := hl
    rw [h18] at this; exact absurd this (by decide)
/-- The store's address is there. -/
theorem JJ.step17 (h : JJ p L a w) (hz : 92 < p.a0.tmps.size) (h16 : L 16 = true) (h18 : L 18 = false) :
    JJ p (fun j => j == 17 || L j) (a.put (some 92) (.pointer (some ⟨p.bt, 2, none⟩))) w := by
  have hs := h.size
  refine ⟨by rw [← hs]; simp [Act.put], h.defers, fun j hj => ?_, fun j hj hl => ?_, fun hl => ?_, fun _ _ => ?_, fun hl => ?_⟩
  · show (a.tmps.setIfInBounds 92 _)[j]? = _
    rw [Array.getElem?_setIfInBounds_ne (by omega)]; exact h.rest j hj
  · by_cases hji : j = 17
    · subst hji
      rw [getD_put_eq _ _ _ (by omega)]; rfl
    · rw [getD_put_ne _ _ _ _ (by omega)]
      exact h.vals j hj (by simpa [hji] using hl)
  · have : (16 == 17 || L 16) = false := hl
    rw [h16] at this; exact absurd this (by decide)
  · rw [getD_put_ne _ _ _ _ (by omega)]; exact h.mid h16 h18
  · have : (18 == 17 || L 18) = true := hl
    rw [h18] at this; exact absurd this (by decide)
/-- The store is done. -/
theorem JJ.step18 (h : JJ p L a w) (h16 : L 16 = true) (h18 : L 18 = false) (u : Value) (hu : a.tmps.getD 91 undef = u) (hBt : p.B ≤ p.bt) (hbt : p.bt < p.Wc.heap.size) :
    JJ p (fun j => j == 18 || L j) (a.put none undef) (w.setCell ⟨p.bt, 2, none⟩ u) := by
  obtain ⟨g8, cap, vl, hv, hs, har, hbx, hb, hne⟩ := h.mid h16 h18
  refine ⟨h.size, h.defers, h.rest, fun j hj hl => ?_, fun hl => ?_, fun _ hl => ?_, fun _ => ?_⟩
  · have hj18 : (j == 18) = false := beq_eq_false_iff_ne.2 (by omega)
    refine (h.vals j hj ?_).stay fun g hg _ => Below.heap_setCell _ _ _ _ (by show g ≠ p.bt; omega)
    have hl' : (j == 18 || L j) = true := hl
    rw [hj18] at hl'; exact hl'
  · have : (16 == 18 || L 16) = false := hl
    rw [h16] at this; exact absurd this (by decide)
  · exact absurd (show (18 == 18 || L 18) = false from hl) (by simp)
  · rw [hs] at hu
    subst hu
    refine ⟨g8, cap, vl, hv, attrRow_other har (fun e => hne (by injection e)) _, ?_, hb.setCell (p := ⟨p.bt, 2, none⟩) hBt _, hne⟩
    unfold TokBox at *
    simp [World.setCell, Array.getElem?_modify, hbx]
end
/-- Slots 75 and on, filled. -/
def fillFrom (b : Act) (vs : Nat → Value) : Nat → Act
  | 0 => b
  | n + 1 => (fillFrom b vs n).put (some (75 + n)) (vs n)
theorem fillFrom_size (b : Act) (vs : Nat → Value) : ∀ n, (fillFrom b vs n).tmps.size = b.tmps.size
  | 0 => rfl
  | n + 1 => by
    show ((fillFrom b vs n).tmps.setIfInBounds _ _).size = _
    rw [Array.size_setIfInBounds]; exact fillFrom_size b vs n
theorem fillFrom_defers (b : Act) (vs : Nat → Value) : ∀ n, (fillFrom b vs n).defers = b.defers
  | 0 => rfl
  | n + 1 => fillFrom_defers b vs n
theorem fillFrom_get (b : Act) (vs : Nat → Value) (j : Nat) : ∀ n, (fillFrom b vs n).tmps[j]? = if 75 ≤ j ∧ j < 75 + n ∧ j < b.tmps.size then some (vs (j - 75)) else b.tmps[j]?
  | 0 => by rw [if_neg (by omega)]; rfl
  | n + 1 => by
    show ((fillFrom b vs n).tmps.setIfInBounds (75 + n) (vs n))[j]? = _
    rw [Array.getElem?_setIfInBounds, fillFrom_size, fillFrom_get b vs j n]
    by_cases h : 75 + n = j
    · subst h
      by_cases h2 : 75 + n < b.tmps.size
      · rw [if_pos rfl, if_pos h2, if_pos ⟨by omega, by omega, h2⟩]
        congr 2; omega
      · rw [if_pos rfl, if_neg h2, if_neg (by omega), Array.getElem?_eq_none (by omega)]
    · rw [if_neg h]
      by_cases h2 : 75 ≤ j ∧ j < 75 + n ∧ j < b.tmps.size
      · rw [if_pos h2, if_pos (by omega)]
      · rw [if_neg h2, if_neg (by omega)]
theorem tmps_split (a b : Act) (hs : a.tmps.size = b.tmps.size) (hd : a.defers = b.defers) (hr : ∀ j, (j < 75 ∨ 92 < j) → a.tmps[j]? = b.tmps[j]?) :
    a = (((((((((((((((((((b.put (some 75) (a.tmps.getD 75 undef)).put (some 76) (a.tmps.getD 76 undef)).put (some 77) (a.tmps.getD 77 undef)).put (some 78) (a.tmps.getD 78 undef)).put (some 79) (a.tmps.getD 79 undef)).put (some 80) (a.tmps.getD 80 undef)).put (some 81) (a.tmps.getD 81 undef)).put (some 82) (a.tmps.getD 82 undef)).put (some 83) (a.tmps.getD 83 undef)).put (some 84) (a.tmps.getD 84 undef)).put (some 85) (a.tmps.getD 85 undef)).put (some 86) (a.tmps.getD 86 undef)).put (some 87) (a.tmps.getD 87 undef)).put (some 88) (a.tmps.getD 88 undef)).put (some 89) (a.tmps.getD 89 undef)).put (some 90) (a.tmps.getD 90 undef)).put (some 91) (a.tmps.getD 91 undef)).put (some 92) (a.tmps.getD 92 undef))) := by
  show a = fillFrom b (fun i => a.tmps.getD (75 + i) undef) 18
  have ht : a.tmps = (fillFrom b (fun i => a.tmps.getD (75 + i) undef) 18).tmps := by
    apply Array.ext_getElem?
    intro j
    rw [fillFrom_get]
    by_cases h : 75 ≤ j ∧ j < 75 + 18 ∧ j < b.tmps.size
    · rw [if_pos h, show 75 + (j - 75) = j by omega, Array.getD_eq_getD_getElem?, Array.getElem?_eq_getElem (show j < a.tmps.size by omega)]; rfl
    · rw [if_neg h]
      by_cases h2 : j < 75 ∨ 92 < j
      · exact hr j h2
      · rw [Array.getElem?_eq_none (by omega), Array.getElem?_eq_none (by omega)]
  have hd2 : a.defers = (fillFrom b (fun i => a.tmps.getD (75 + i) undef) 18).defers := by rw [fillFrom_defers]; exact hd
  obtain ⟨at_, ad⟩ := a
  generalize fillFrom b (fun i => (Act.mk at_ ad).tmps.getD (75 + i) undef) 18 = c at *
  obtain ⟨ct, cd⟩ := c
  simp only at ht hd2
  rw [ht, hd2]

/-- The frame where slots 75 to 92 hold whatever. -/
def puts18 (a : Act) (v75 v76 v77 v78 v79 v80 v81 v82 v83 v84 v85 v86 v87 v88 v89 v90 v91 v92 : Value) : Act := ((((((((((((((((((a.put (some 75) v75).put (some 76) v76).put (some 77) v77).put (some 78) v78).put (some 79) v79).put (some 80) v80).put (some 81) v81).put (some 82) v82).put (some 83) v83).put (some 84) v84).put (some 85) v85).put (some 86) v86).put (some 87) v87).put (some 88) v88).put (some 89) v89).put (some 90) v90).put (some 91) v91).put (some 92) v92)
def CutPost (R : World → Prop) (a : Act) : Exit → Act → World → Prop
  | .normal, a', wx => R wx ∧ ∃ v75 v76 v77 v78 v79 v80 v81 v82 v83 v84 v85 v86 v87 v88 v89 v90 v91 v92 : Value, a' = puts18 a v75 v76 v77 v78 v79 v80 v81 v82 v83 v84 v85 v86 v87 v88 v89 v90 v91 v92
  | _, _, _ => False
/-- A region by itself: what follows asks nothing of its slots 75 to 92. -/
theorem region_cut {P : Program} {id : Nat} {ops : Array Oper} {b : Bool} {Q : Exit → Act → World → Prop} {a : Act} {w : World} (R : World → Prop)
    (h2 : ∀ (v75 v76 v77 v78 v79 v80 v81 v82 v83 v84 v85 v86 v87 v88 v89 v90 v91 v92 : Value) (wx : World), R wx → Q .normal (puts18 a v75 v76 v77 v78 v79 v80 v81 v82 v83 v84 v85 v86 v87 v88 v89 v90 v91 v92) wx)
    (h1 : (Code.region id ops b).wp P (CutPost R a) a w) : (Code.region id ops b).wp P Q a w :=
  Code.wp_mono (fun e a' w' h => by
    cases e <;> first | exact (h : False).elim | skip
    obtain ⟨hR, v75, v76, v77, v78, v79, v80, v81, v82, v83, v84, v85, v86, v87, v88, v89, v90, v91, v92, rfl⟩ := h
    exact h2 v75 v76 v77 v78 v79 v80 v81 v82 v83 v84 v85 v86 v87 v88 v89 v90 v91 v92 w' hR) h1

theorem JJ.frame {p : RP} {L : Nat → Bool} {a : Act} {w : World} (_h : JJ p L a w) (hz : 92 < p.a0.tmps.size) : 92 < p.a0.tmps.size := hz
theorem step_k {P : Program} {ops : Array Oper} {o : Oper} {a : Act} {w : World} {J : Act → World → Prop} {Q : Exit → Act → World → Prop}
    (h : ∀ (K : Act → World → Prop) (Q' : Exit → Act → World → Prop), (∀ a w, J a w → K a w) → if Region.wanted o (yielded ops a.tmps) = true then o.wp P a w K Q' else K (a.put o.dst undef) w) :
    if Region.wanted o (yielded ops a.tmps) = true then o.wp P a w J Q else J (a.put o.dst undef) w := h J Q fun _ _ h => h
theorem cell_of_row2 {w : World} {g i : Nat} {V : Array Value} {T : TypeId} {l : List Bytes} {x : Bytes} (hh : w.heap[g]? = some (.cells V T (0, 0))) (hV : V.toList = l.map fun p => .string (mk p)) (hx : l[i]? = some x) : w.cell? ⟨g, i, none⟩ = some (.string (mk x)) := by
  rw [Lib.cell_of_heap hh, ← Array.getElem?_toList, hV, List.getElem?_map, hx]; rfl
theorem get_of_getD {a : Act} {k : Nat} {v : Value} (h : k < a.tmps.size) (e : a.tmps.getD k undef = v) : a.tmps[k]? = some v := by
  rw [Array.getElem?_eq_getElem h, ← e, Array.getD_eq_getD_getElem?, Array.getElem?_eq_getElem h]; rfl
/-- The append, at whatever place among the operations. -/
theorem JJ.op16 {ops : Array Oper} {o : Oper} {a : Act} {Q : Exit → Act → World → Prop} {E : Prop} {p : RP} {L : Nat → Bool} {w : World} (hgd : o.guard = none) (hdst : o.dst = some 91)
    (ho : o.op = .call { callee := .builtin .append, args := #[.tmp 76, .tmp 90], argTypes := #[31, 31] })
    (h : JJ p L a w) (hz : 92 < p.a0.tmps.size) (d1 : L 1 = true) (d15 : L 15 = true) (h16 : L 16 = false) (h18 : L 18 = false)
    (hown : AttrRow p.B p.Wc p.va p.al) (hal : p.al.length ≤ 1000) (hB : p.B ≤ p.Wc.heap.size) (hbox : TokBox p.Wc p.bt p.tk p.va) (hne : p.va.ownBlock ≠ some p.bt) :
    if Region.wanted o (yielded ops a.tmps) = true then Oper.wp Tryz.prog o a w (JJ p fun j => j == 16 || L j) Q else E := by
  have hb := h.before h16
  have e1 : a.eval (.tmp 76) = p.va := h.vals 1 (by omega) d1
  obtain ⟨vl, hvl, g, hg, e15, hnew⟩ := h.vals 15 (by omega) d15
  have hown3 : w.ownsRow p.B 40 2 p.va p.al.length (attrCells p.al) := AttrRow.below hown hb
  obtain ⟨i0, hi0, hz0, hz1, hz2⟩ := info_parts infoAttr
  have hBw : p.B ≤ w.heap.size := Nat.le_trans hB hb.size
  have hown0 : ∀ j, some j = p.va.ownBlock → p.B ≤ j ∧ j < p.Wc.heap.size := by
    intro j hj
    rcases hown.2 with ⟨hv0, _⟩ | ⟨g0, cap0, cur0, hv0, hB0, hg0, _⟩
    · rw [hv0] at hj; cases hj
    · rw [hv0] at hj
      have e' : j = g0 := by injection hj
      subst e'
      exact ⟨hB0, lt_of_block hg0⟩
  refine step_append_lies w hgd (.tmp 76) (.tmp 90) 31 ho p.B 40 i0 _ 2 32 Tryz.underlying31 hi0 hz0 hz1 hz2 rfl (by decide) p.va p.al.length (attrCells p.al) e1 hown3 ⟨g, 0, none⟩ 1 1 [.string (mk p.ky), .string (mk vl)] e15 rfl (World.news_of_block (cs := #[.string (mk p.ky), .string (mk vl)]) (t := 40) (fr := (0, 0)) hnew) ?_ (by omega) (by unfold maxLen; omega) (by omega) hBw w.heap.size rfl ?_
  · intro u hu
    simp only [List.mem_cons, List.not_mem_nil, or_false] at hu
    rcases hu with rfl | rfl <;> rfl
  · intro g8 cap w' k1 k2 k3 _
    rw [hdst]
    have hbtl := lt_of_block hbox
    refine h.step16 hz h18 (fun j hj hjw => k2.block j hjw fun e => by have := (hown0 j e).2; omega) ⟨g8, cap, vl, hvl, rfl, ?_, ?_, ?_, ?_⟩
    · have e : attrCells (p.al ++ [⟨p.ky, vl⟩]) = attrCells p.al ++ [.string (mk p.ky), .string (mk vl)] := by simp [attrCells]
      unfold AttrRow
      rw [e, List.length_append]
      exact k1
    · exact hbox.keep ((k2.block p.bt (by have := hb.size; omega) fun e => hne e.symm).trans (hb.block p.bt hbtl))
    · refine (hb.mono hB).trans ⟨k2.os, k2.tape, k2.output, k2.size, fun j hj => k2.block j (by omega) fun e => by have := (hown0 j e).1; omega⟩
    · intro e
      subst e
      rcases k3 with k3 | k3
      · exact hne k3
      · have := hb.size; omega
/-- The region, if each of its operations keeps what is carried. -/
theorem region_by {id : Nat} {ops : Array Oper} {a : Act} {Wc : World} (B bt : Nat) (va : Value) (al : List TAttr) (tk : TTok) (ky : Bytes) (x : Int) (hn : ops.size = 19) (hac : ∀ (i : Nat) (o : Oper), ops[i]? = some o → ∀ e ∈ o.after.toList, e.on < i)
    (hstep : ∀ (i : Nat) (o : Oper), ops[i]? = some o → ∀ (L : Nat → Bool) (a' : Act) (w' : World), Cl .any ops L → JJ ⟨a, Wc, B, bt, va, al, tk, ky, x⟩ L a' w' → L i = false → (∀ e ∈ o.after.toList, Region.binds .any e = true → L e.on = true) →
      if Region.wanted o (yielded ops a'.tmps) then o.wp Tryz.prog a' w' (JJ ⟨a, Wc, B, bt, va, al, tk, ky, x⟩ fun j => j == i || L j) (CutPost (fun w => ∃ g8 cap vl, vl ∈ vals6 ∧ AttrRow B w (.slice (some ⟨g8, 0, none⟩) (al.length + 1) cap) (al ++ [⟨ky, vl⟩]) ∧ TokBox w bt { tk with attrs := al ++ [⟨ky, vl⟩] } (.slice (some ⟨g8, 0, none⟩) (al.length + 1) cap) ∧ Below B Wc w ∧ g8 ≠ bt) a) else JJ ⟨a, Wc, B, bt, va, al, tk, ky, x⟩ (fun j => j == i || L j) (a'.put o.dst undef) w') :
    (Code.region id ops true).wp Tryz.prog (CutPost (fun w => ∃ g8 cap vl, vl ∈ vals6 ∧ AttrRow B w (.slice (some ⟨g8, 0, none⟩) (al.length + 1) cap) (al ++ [⟨ky, vl⟩]) ∧ TokBox w bt { tk with attrs := al ++ [⟨ky, vl⟩] } (.slice (some ⟨g8, 0, none⟩) (al.length + 1) cap) ∧ Below B Wc w ∧ g8 ≠ bt) a) a Wc := by
  refine wp_region_inv (by kernel_rfl) hac (JJ ⟨a, Wc, B, bt, va, al, tk, ky, x⟩) ?_ hstep ?_
  · exact ⟨rfl, rfl, fun _ _ => rfl, fun i _ h => (by cases h), fun _ => ⟨rfl, rfl, rfl, Nat.le_refl _, fun _ _ => rfl⟩, fun h => (by cases h), fun h => (by cases h)⟩
  · intro L a' w' hall hj
    refine ⟨hj.fin (hall 18 (by omega)), _, _, _, _, _, _, _, _, _, _, _, _, _, _, _, _, _, _, tmps_split a' a hj.size hj.defers hj.rest⟩

end Go.Proofs.YtalijabcedajaaaGreatDoor
