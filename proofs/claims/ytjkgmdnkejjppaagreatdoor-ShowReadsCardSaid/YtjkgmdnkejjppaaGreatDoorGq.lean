/- Joined texts: HLawB. -/
import Derived.Test.YtjkgmdnkejjppaaGreatDoorGn
import Derived.Test.YtjkgmdnkejjppaaGreatDoorGa
/- Trees that the rows draw: they may be written. Nothing of the program here. -/
namespace Go.Proofs.YtjkgmdnkejjppaaGreatDoor
open Go Go.RowKit

def txts6 : List Bytes := [[120], [97, 60, 98], [38, 97, 109, 112, 59], [121, 32, 122], [32], [60, 112, 62]]
abbrev txts6V : Array Value := #[.string ⟨#[120]⟩, .string ⟨#[97, 60, 98]⟩, .string ⟨#[38, 97, 109, 112, 59]⟩, .string ⟨#[121, 32, 122]⟩, .string ⟨#[32]⟩, .string ⟨#[60, 112, 62]⟩]
theorem txts6_v : txts6V.toList = txts6.map (fun p => .string (mk p)) := rfl
def voids2 : List Bytes := [[98, 114], [105, 109, 103]]
abbrev voids2V : Array Value := #[.string ⟨#[98, 114]⟩, .string ⟨#[105, 109, 103]⟩]
theorem voids2_v : voids2V.toList = voids2.map (fun p => .string (mk p)) := rfl
def elems6 : List Bytes := [[100, 105, 118], [98], [101, 109], [112], [97], [117, 108]]
abbrev elems6V : Array Value := #[.string ⟨#[100, 105, 118]⟩, .string ⟨#[98]⟩, .string ⟨#[101, 109]⟩, .string ⟨#[112]⟩, .string ⟨#[97]⟩, .string ⟨#[117, 108]⟩]
theorem elems6_v : elems6V.toList = elems6.map (fun p => .string (mk p)) := rfl
def hvals5 : List Bytes := [[], [120], [97, 34, 98, 38], [60], [104, 116, 116, 112, 58, 47, 47, 121]]
abbrev hvals5V : Array Value := #[.string ⟨#[]⟩, .string ⟨#[120]⟩, .string ⟨#[97, 34, 98, 38]⟩, .string ⟨#[60]⟩, .string ⟨#[104, 116, 116, 112, 58, 47, 47, 121]⟩]
theorem hvals5_v : hvals5V.toList = hvals5.map (fun p => .string (mk p)) := rfl
def sHref : Bytes := [104, 114, 101, 102]

def adjL : Bool → List TNode → Bool
  | _, [] => true
  | p, t :: ts => !(p && t.name == []) && adjL (t.name == []) ts
theorem adj_snoc : ∀ (l : List TNode) (p : Bool) (t : TNode), adjL p (l ++ [t]) = (adjL p l && !((match l.getLast? with | some u => u.name == [] | none => p) && t.name == []))
  | [], p, t => by simp [adjL]
  | [u], p, t => by simp [adjL]
  | u :: x :: l, p, t => by
    have h := adj_snoc (x :: l) (u.name == []) t
    show (!(p && u.name == []) && adjL (u.name == []) ((x :: l) ++ [t])) = ((!(p && u.name == []) && adjL (u.name == []) (x :: l)) && _)
    rw [h, List.getLast?_cons_cons, Bool.and_assoc]
    cases hl : (x :: l).getLast? with
    | none => simp at hl
    | some y => rfl

def GoodA (a : List TAttr) : Prop := a = [] ∨ ∃ v ∈ hvals5, a = [⟨sHref, v⟩]
/-- Trees that are drawn. -/
def GoodL : Nat → List TNode → Prop
  | 0, l => l = []
  | d + 1, l => l.length ≤ 6 ∧ adjL false l = true ∧ ∀ t ∈ l, (∃ x, x ∈ txts6 ∧ t = tText x) ∨ (∃ n, n ∈ voids2 ∧ t = tElem n [] []) ∨ ∃ n a ps, n ∈ elems6 ∧ GoodA a ∧ GoodL d ps ∧ t = tElem n a ps
def GoodN (d : Nat) (t : TNode) : Prop := (∃ x, x ∈ txts6 ∧ t = tText x) ∨ (∃ n, n ∈ voids2 ∧ t = tElem n [] []) ∨ ∃ n a ps, n ∈ elems6 ∧ GoodA a ∧ GoodL d ps ∧ t = tElem n a ps
theorem GoodL.nil : ∀ d, GoodL d []
  | 0 => rfl
  | _ + 1 => ⟨by simp, rfl, fun t ht => by cases ht⟩
theorem GoodL.snoc {d : Nat} {l : List TNode} {t : TNode} (h : GoodL (d + 1) l) (hl : l.length < 6) (ht : GoodN d t) (hp : t.name = [] → ∀ u, l.getLast? = some u → u.name ≠ []) : GoodL (d + 1) (l ++ [t]) := by
  obtain ⟨h1, h2, h3⟩ := h
  refine ⟨by rw [List.length_append, List.length_singleton]; omega, ?_, fun u hu => (List.mem_append.1 hu).elim (h3 u) fun hu => by cases List.mem_singleton.1 hu; exact ht⟩
  rw [adj_snoc, h2, Bool.true_and]
  cases hk : (t.name == []) with
  | false => simp
  | true =>
    have h4 := hp (by simpa using hk)
    cases hg : l.getLast? with
    | none => rfl
    | some u => simp [h4 u hg]

theorem txts6_ok : ∀ x ∈ txts6, x ≠ [] ∧ x.length ≤ 10 := by decide
theorem voids2_ok : ∀ n ∈ voids2, nameM n = true ∧ isRaw n = false ∧ n ≠ [] ∧ n.length ≤ 10 := by decide
theorem elems6_ok : ∀ n ∈ elems6, nameM n = true ∧ isRaw n = false ∧ isVoid n = false ∧ n ≠ [] ∧ n.length ≤ 10 ∧ n ≠ nLi := by decide
theorem hvals5_ok : ∀ v ∈ hvals5, v.length ≤ 10 := by decide
theorem goodA_ok {a : List TAttr} (h : GoodA a) : attrsM a = 0 ∧ a.length ≤ 1000 ∧ ∀ b ∈ a, b.name.length ≤ 1000 ∧ b.value.length ≤ 1000 := by
  rcases h with rfl | ⟨v, hv, rfl⟩
  · exact ⟨rfl, by simp, fun b hb => by cases hb⟩
  · refine ⟨rfl, by simp, fun b hb => ?_⟩
    cases List.mem_singleton.1 hb
    have := hvals5_ok v hv
    exact ⟨by show sHref.length ≤ 1000; decide, by show v.length ≤ 1000; omega⟩

theorem fault_list (d : Nat) : ∀ (l : List TNode) (p : Bool), adjL p l = true → (∀ t ∈ l, ∀ q : Bool, (q = true → t.name ≠ []) → faultN d q t = 0) → faultL d p l = 0
  | [], p, _, _ => by rw [faultL]
  | t :: l, p, ha, h => by
    rw [adjL] at ha
    simp only [Bool.and_eq_true, Bool.not_eq_true', Bool.and_eq_false_iff, beq_eq_false_iff_ne] at ha
    have h1 := h t (by simp) p fun e => by
      rcases ha.1 with h2 | h2
      · rw [e] at h2; cases h2
      · exact h2
    rw [faultL, if_neg (by rw [h1]; simp)]
    exact fault_list d l _ ha.2 fun u hu => h u (by simp [hu])
theorem good_fault : ∀ (d : Nat) (l : List TNode) (d' : Nat), GoodL d l → d' + d ≤ 10 → faultL d' false l = 0
  | 0, l, d', h, _ => by cases (show l = [] from h); rw [faultL]
  | d + 1, l, d', h, hd => by
    obtain ⟨h1, h2, h3⟩ := h
    refine fault_list d' l false h2 fun t ht q hq => ?_
    have hd10 : ¬ 10 ≤ d' := by omega
    rcases h3 t ht with ⟨x, hx, rfl⟩ | ⟨n, hn, rfl⟩ | ⟨n, a, ps, hn, hga, hps, rfl⟩
    · have hqf : q = false := by
        cases q with
        | false => rfl
        | true => exact absurd rfl (hq rfl)
      subst hqf
      obtain ⟨k1, _⟩ := txts6_ok x hx
      rw [faultN_text d' false (tText x) hd10 rfl]
      show (if !([] : List TAttr).isEmpty || !([] : List TNode).isEmpty || x == [] || false then (4 : Int) else 0) = 0
      rw [beq_eq_false_iff_ne.2 k1]; rfl
    · obtain ⟨k1, k2, k3, _⟩ := voids2_ok n hn
      rw [faultN_elem d' q (tElem n [] []) hd10 k3]
      show (if nameM n = false then (5 : Int) else if attrsM [] ≠ 0 then attrsM [] else if !(([] : Bytes) == []) || (isVoid n && !([] : List TNode).isEmpty) || isRaw n then 4 else faultL (d' + 1) false []) = 0
      rw [k1, k2, faultL]; simp [attrsM, twiceM]
    · obtain ⟨k1, k2, k3, k4, _⟩ := elems6_ok n hn
      rw [faultN_elem d' q (tElem n a ps) hd10 k4]
      show (if nameM n = false then (5 : Int) else if attrsM a ≠ 0 then attrsM a else if !(([] : Bytes) == []) || (isVoid n && !ps.isEmpty) || isRaw n then 4 else faultL (d' + 1) false ps) = 0
      rw [k1, k2, k3, (goodA_ok hga).1, good_fault d ps (d' + 1) hps (by omega)]; simp
def kmax : Nat → Nat
  | 0 => 0
  | d + 1 => 6 * (1 + kmax d)
theorem count_list (m : Nat) : ∀ l : List TNode, (∀ t ∈ l, countN t ≤ m) → countL l ≤ l.length * m
  | [], _ => by rw [countL]; simp
  | t :: l, h => by
    have h1 := h t (by simp)
    have h2 := count_list m l fun u hu => h u (by simp [hu])
    rw [countL, List.length_cons, Nat.add_mul]; omega
theorem good_count : ∀ (d : Nat) (l : List TNode), GoodL d l → countL l ≤ kmax d
  | 0, l, h => by cases (show l = [] from h); rw [countL]; exact Nat.zero_le _
  | d + 1, l, h => by
    obtain ⟨h1, h2, h3⟩ := h
    have h4 := count_list (1 + kmax d) l fun t ht => by
      rcases h3 t ht with ⟨x, hx, rfl⟩ | ⟨n, hn, rfl⟩ | ⟨n, a, ps, hn, hga, hps, rfl⟩
      · unfold tText; rw [countN, countL]; omega
      · unfold tElem; rw [countN, countL]; omega
      · have := good_count d ps hps
        unfold tElem; rw [countN]; omega
    have h5 : l.length * (1 + kmax d) ≤ 6 * (1 + kmax d) := Nat.mul_le_mul_right _ h1
    show countL l ≤ 6 * (1 + kmax d)
    omega
theorem good_sz_tree : ∀ (d : Nat) (l : List TNode), GoodL d l → SzL l
  | 0, l, h => by cases (show l = [] from h); rw [SzL]; trivial
  | d + 1, l, h => by
    obtain ⟨h1, h2, h3⟩ := h
    refine SzL.of fun t ht => ?_
    rcases h3 t ht with ⟨x, hx, rfl⟩ | ⟨n, hn, rfl⟩ | ⟨n, a, ps, hn, hga, hps, rfl⟩
    · unfold tText; rw [SzN]
      have := (txts6_ok x hx).2
      exact ⟨⟨by simp, by omega, by simp, fun b hb => by cases hb⟩, by rw [SzL]; trivial⟩
    · unfold tElem; rw [SzN]
      have := (voids2_ok n hn).2.2.2
      exact ⟨⟨by omega, by simp, by simp, fun b hb => by cases hb⟩, by rw [SzL]; trivial⟩
    · unfold tElem; rw [SzN]
      have := (elems6_ok n hn).2.2.2.2.1
      obtain ⟨-, k1, k2⟩ := goodA_ok hga
      exact ⟨⟨by omega, by simp, k1, k2⟩, good_sz_tree d ps hps⟩

/- Is there a p, or a list? -/
mutual
def closesN : TNode → Bool
  | .mk n _ _ ps => n == nP || n == nUl || closesL ps
def closesL : List TNode → Bool
  | [] => false
  | t :: ts => closesN t || closesL ts
end
theorem calm_list : ∀ l : List TNode, (∀ t ∈ l, calmN t = true) → calmL l = true
  | [], _ => by rw [calmL]
  | t :: l, h => by rw [calmL, h t (by simp), calm_list l fun u hu => h u (by simp [hu])]; rfl
theorem closes_mem : ∀ {l : List TNode}, closesL l = false → ∀ t ∈ l, closesN t = false
  | [], _, t, ht => by cases ht
  | x :: l, h, t, ht => by
    rw [closesL, Bool.or_eq_false_iff] at h
    rcases List.mem_cons.1 ht with rfl | ht
    · exact h.1
    · exact closes_mem h.2 t ht
theorem good_calm : ∀ (d : Nat) (l : List TNode), GoodL d l → closesL l = false → calmL l = true
  | 0, l, h, _ => by cases (show l = [] from h); rw [calmL]
  | d + 1, l, h, hc => by
    obtain ⟨h1, h2, h3⟩ := h
    refine calm_list l fun t ht => ?_
    have hct := closes_mem hc t ht
    rcases h3 t ht with ⟨x, hx, rfl⟩ | ⟨n, hn, rfl⟩ | ⟨n, a, ps, hn, hga, hps, rfl⟩
    · unfold tText; rw [calmN, calmL]; rfl
    · unfold tElem; rw [calmN, calmL]
      have hv : ∀ n ∈ voids2, (!(n == nP) && !(n == nLi) && true) = true := by decide
      exact hv n hn
    · unfold tElem at hct ⊢
      rw [closesN, Bool.or_eq_false_iff, Bool.or_eq_false_iff] at hct
      have := (elems6_ok n hn).2.2.2.2.2
      rw [calmN, good_calm d ps hps hct.2, hct.1.1, beq_eq_false_iff_ne.2 this]; rfl

end Go.Proofs.YtjkgmdnkejjppaaGreatDoor
