/- Joined texts: HLawB IntsB HKeepA HKeepB. -/
import Derived.Test.YtemomhanchiipaaGreatDoorGn
import Derived.Test.YtemomhanchiipaaGreatDoorGa
import Derived.Test.YtemomhanchiipaaGreatDoorGh
import Derived.Test.YtemomhanchiipaaGreatDoorGo
import Derived.Test.YtemomhanchiipaaGreatDoorGs
/- Trees that the rows draw: they may be written. Nothing of the program here. -/
namespace Go.Proofs.YtemomhanchiipaaGreatDoor
open Go Go.RowKit

def txts6 : List Bytes := [[120], [97, 60, 98], [38, 97, 109, 112, 59], [121, 32, 122], [32], [60, 112, 62]]
abbrev txts6V : Array Value := #[.string ⟨#[120]⟩, .string ⟨#[97, 60, 98]⟩, .string ⟨#[38, 97, 109, 112, 59]⟩, .string ⟨#[121, 32, 122]⟩, .string ⟨#[32]⟩, .string ⟨#[60, 112, 62]⟩]
theorem txts6_v : txts6V.toList = txts6.map (fun p => .string (mk p)) := rfl
def voids2 : List Bytes := [[98, 114], [105, 109, 103]]
abbrev voids2V : Array Value := #[.string ⟨#[98, 114]⟩, .string ⟨#[105, 109, 103]⟩]
theorem voids2_v : voids2V.toList = voids2.map (fun p => .string (mk p)) := rfl
def elems6 : List Bytes := [[100, 105, 118], [98], [101, 109], [112], [97], [117, 108]]
abbrev elems6V : Array Value := #[.string ⟨#[100, 105, 118]⟩, .string ⟨#[98]⟩, .string ⟨#[101, 109]⟩, .string ⟨#[112]⟩, .string ⟨#[97]⟩, .string ⟨#[117, 108]⟩]
theorem elems6_v : elems6V.toList = elems6.map (fun p => .string (mk p)) := rfl
def hvals5 : List Bytes := [[], [120], [97, 34, 98, 38], [60], [104, 116, 116, 112, 58, 47, 47, 121]]
abbrev hvals5V : Array Value := #[.string ⟨#[]⟩, .string ⟨#[120]⟩, .string ⟨#[97, 34, 98, 38]⟩, .string ⟨#[60]⟩, .string ⟨#[104, 116, 116, 112, 58, 47, 47, 121]⟩]
theorem hvals5_v : hvals5V.toList = hvals5.map (fun p => .string (mk p)) := rfl
def sHref : Bytes := [104, 114, 101, 102]

def adjL : Bool → List TNode → Bool
  | _, [] => true
  | p, t :: ts => !(p && t.name == []) && adjL (t.name == []) ts
theorem adj_snoc : ∀ (l : List TNode) (p : Bool) (t : TNode), adjL p (l ++ [t]) = (adjL p l && !((match l.getLast? with | some u => u.name == [] | none => p) && t.name == []))
  | [], p, t => by simp [adjL]
  | [u], p, t => by simp [adjL]
  | u :: x :: l, p, t => by
    have h := adj_snoc (x :: l) (u.name == []) t
    show (!(p && u.name == []) && adjL (u.name == []) ((x :: l) ++ [t])) = ((!(p && u.name == []) && adjL (u.name == []) (x :: l)) && _)
    rw [h, List.getLast?_cons_cons, Bool.and_assoc]
    cases hl : (x :: l).getLast? with
    | none => simp at hl
    | some y => rfl

def GoodA (a : List TAttr) : Prop := a = [] ∨ ∃ v ∈ hvals5, a = [⟨sHref, v⟩]
/-- Trees that are drawn. -/
def GoodL : Nat → List TNode → Prop
  | 0, l => l = []
  | d + 1, l => l.length ≤ 6 ∧ adjL false l = true ∧ ∀ t ∈ l, (∃ x, x ∈ txts6 ∧ t = tText x) ∨ (∃ n, n ∈ voids2 ∧ t = tElem n [] []) ∨ ∃ n a ps, n ∈ elems6 ∧ GoodA a ∧ GoodL d ps ∧ t = tElem n a ps
def GoodN (d : Nat) (t : TNode) : Prop := (∃ x, x ∈ txts6 ∧ t = tText x) ∨ (∃ n, n ∈ voids2 ∧ t = tElem n [] []) ∨ ∃ n a ps, n ∈ elems6 ∧ GoodA a ∧ GoodL d ps ∧ t = tElem n a ps
theorem GoodL.nil : ∀ d, GoodL d []
  | 0 => rfl
  | _ + 1 => ⟨by simp, rfl, fun t ht => by cases ht⟩
theorem GoodL.snoc {d : Nat} {l : List TNode} {t : TNode} (h : GoodL (d + 1) l) (hl : l.length < 6) (ht : GoodN d t) (hp : t.name = [] → ∀ u, l.getLast? = some u → u.name ≠ []) : GoodL (d + 1) (l ++ [t]) := by
  obtain ⟨h1, h2, h3⟩ := h
  refine ⟨by rw [List.length_append, List.length_singleton]; omega, ?_, fun u hu => (List.mem_append.1 hu).elim (h3 u) fun hu => by cases List.mem_singleton.1 hu; exact ht⟩
  rw [adj_snoc, h2, Bool.true_and]
  cases hk : (t.name == []) with
  | false => simp
  | true =>
    have h4 := hp (by simpa using hk)
    cases hg : l.getLast? with
    | none => rfl
    | some u => simp [h4 u hg]

theorem txts6_ok : ∀ x ∈ txts6, x ≠ [] ∧ x.length ≤ 10 := by decide
theorem voids2_ok : ∀ n ∈ voids2, nameM n = true ∧ isRaw n = false ∧ n ≠ [] ∧ n.length ≤ 10 := by decide
theorem elems6_ok : ∀ n ∈ elems6, nameM n = true ∧ isRaw n = false ∧ isVoid n = false ∧ n ≠ [] ∧ n.length ≤ 10 ∧ n ≠ nLi := by decide
theorem hvals5_ok : ∀ v ∈ hvals5, v.length ≤ 10 := by decide
theorem goodA_ok {a : List TAttr} (h : GoodA a) : attrsM a = 0 ∧ a.length ≤ 1000 ∧ ∀ b ∈ a, b.name.length ≤ 1000 ∧ b.value.length ≤ 1000 := by
  rcases h with rfl | ⟨v, hv, rfl⟩
  · exact ⟨rfl, by simp, fun b hb => by cases hb⟩
  · refine ⟨rfl, by simp, fun b hb => ?_⟩
    cases List.mem_singleton.1 hb
    have := hvals5_ok v hv
    exact ⟨by show sHref.length ≤ 1000; decide, by show v.length ≤ 1000; omega⟩

theorem fault_list (d : Nat) : ∀ (l : List TNode) (p : Bool), adjL p l = true → (∀ t ∈ l, ∀ q : Bool, (q = true → t.name ≠ []) → faultN d q t = 0) → faultL d p l = 0
  | [], p, _, _ => by rw [faultL]
  | t :: l, p, ha, h => by
    rw [adjL] at ha
    simp only [Bool.and_eq_true, Bool.not_eq_true', Bool.and_eq_false_iff, beq_eq_false_iff_ne] at ha
    have h1 := h t (by simp) p fun e => by
      rcases ha.1 with h2 | h2
      · rw [e] at h2; cases h2
      · exact h2
    rw [faultL, if_neg (by rw [h1]; simp)]
    exact fault_list d l _ ha.2 fun u hu => h u (by simp [hu])
theorem good_fault : ∀ (d : Nat) (l : List TNode) (d' : Nat), GoodL d l → d' + d ≤ 10 → faultL d' false l = 0
  | 0, l, d', h, _ => by cases (show l = [] from h); rw [faultL]
  | d + 1, l, d', h, hd => by
    obtain ⟨h1, h2, h3⟩ := h
    refine fault_list d' l false h2 fun t ht q hq => ?_
    have hd10 : ¬ 10 ≤ d' := by omega
    rcases h3 t ht with ⟨x, hx, rfl⟩ | ⟨n, hn, rfl⟩ | ⟨n, a, ps, hn, hga, hps, rfl⟩
    · have hqf : q = false := by
        cases q with
        | false => rfl
        | true => exact absurd rfl (hq rfl)
      subst hqf
      obtain ⟨k1, _⟩ := txts6_ok x hx
      rw [faultN_text d' false (tText x) hd10 rfl]
      show (if !([] : List TAttr).isEmpty || !([] : List TNode).isEmpty || x == [] || false then (4 : Int) else 0) = 0
      rw [beq_eq_false_iff_ne.2 k1]; rfl
    · obtain ⟨k1, k2, k3, _⟩ := voids2_ok n hn
      rw [faultN_elem d' q (tElem n [] []) hd10 k3]
      show (if nameM n = false then (5 : Int) else if attrsM [] ≠ 0 then attrsM [] else if !(([] : Bytes) == []) || (isVoid n && !([] : List TNode).isEmpty) || isRaw n then 4 else faultL (d' + 1) false []) = 0
      rw [k1, k2, faultL]; simp [attrsM, twiceM]
    · obtain ⟨k1, k2, k3, k4, _⟩ := elems6_ok n hn
      rw [faultN_elem d' q (tElem n a ps) hd10 k4]
      show (if nameM n = false then (5 : Int) else if attrsM a ≠ 0 then attrsM a else if !(([] : Bytes) == []) || (isVoid n && !ps.isEmpty) || isRaw n then 4 else faultL (d' + 1) false ps) = 0
      rw [k1, k2, k3, (goodA_ok hga).1, good_fault d ps (d' + 1) hps (by omega)]; simp
def kmax : Nat → Nat
  | 0 => 0
  | d + 1 => 6 * (1 + kmax d)
theorem count_list (m : Nat) : ∀ l : List TNode, (∀ t ∈ l, countN t ≤ m) → countL l ≤ l.length * m
  | [], _ => by rw [countL]; simp
  | t :: l, h => by
    have h1 := h t (by simp)
    have h2 := count_list m l fun u hu => h u (by simp [hu])
    rw [countL, List.length_cons, Nat.add_mul]; omega
theorem good_count : ∀ (d : Nat) (l : List TNode), GoodL d l → countL l ≤ kmax d
  | 0, l, h => by cases (show l = [] from h); rw [countL]; exact Nat.zero_le _
  | d + 1, l, h => by
    obtain ⟨h1, h2, h3⟩ := h
    have h4 := count_list (1 + kmax d) l fun t ht => by
      rcases h3 t ht with ⟨x, hx, rfl⟩ | ⟨n, hn, rfl⟩ | ⟨n, a, ps, hn, hga, hps, rfl⟩
      · unfold tText; rw [countN, countL]; omega
      · unfold tElem; rw [countN, countL]; omega
      · have := good_count d ps hps
        unfold tElem; rw [countN]; omega
    have h5 : l.length * (1 + kmax d) ≤ 6 * (1 + kmax d) := Nat.mul_le_mul_right _ h1
    show countL l ≤ 6 * (1 + kmax d)
    omega
theorem good_sz_tree : ∀ (d : Nat) (l : List TNode), GoodL d l → SzL l
  | 0, l, h => by cases (show l = [] from h); rw [SzL]; trivial
  | d + 1, l, h => by
    obtain ⟨h1, h2, h3⟩ := h
    refine SzL.of fun t ht => ?_
    rcases h3 t ht with ⟨x, hx, rfl⟩ | ⟨n, hn, rfl⟩ | ⟨n, a, ps, hn, hga, hps, rfl⟩
    · unfold tText; rw [SzN]
      have := (txts6_ok x hx).2
      exact ⟨⟨by simp, by omega, by simp, fun b hb => by cases hb⟩, by rw [SzL]; trivial⟩
    · unfold tElem; rw [SzN]
      have := (voids2_ok n hn).2.2.2
      exact ⟨⟨by omega, by simp, by simp, fun b hb => by cases hb⟩, by rw [SzL]; trivial⟩
    · unfold tElem; rw [SzN]
      have := (elems6_ok n hn).2.2.2.2.1
      obtain ⟨-, k1, k2⟩ := goodA_ok hga
      exact ⟨⟨by omega, by simp, k1, k2⟩, good_sz_tree d ps hps⟩

/- Is there a p, or a list? -/
mutual
def closesN : TNode → Bool
  | .mk n _ _ ps => n == nP || n == nUl || closesL ps
def closesL : List TNode → Bool
  | [] => false
  | t :: ts => closesN t || closesL ts
end
theorem calm_list : ∀ l : List TNode, (∀ t ∈ l, calmN t = true) → calmL l = true
  | [], _ => by rw [calmL]
  | t :: l, h => by rw [calmL, h t (by simp), calm_list l fun u hu => h u (by simp [hu])]; rfl
theorem closes_mem : ∀ {l : List TNode}, closesL l = false → ∀ t ∈ l, closesN t = false
  | [], _, t, ht => by cases ht
  | x :: l, h, t, ht => by
    rw [closesL, Bool.or_eq_false_iff] at h
    rcases List.mem_cons.1 ht with rfl | ht
    · exact h.1
    · exact closes_mem h.2 t ht
theorem good_calm : ∀ (d : Nat) (l : List TNode), GoodL d l → closesL l = false → calmL l = true
  | 0, l, h, _ => by cases (show l = [] from h); rw [calmL]
  | d + 1, l, h, hc => by
    obtain ⟨h1, h2, h3⟩ := h
    refine calm_list l fun t ht => ?_
    have hct := closes_mem hc t ht
    rcases h3 t ht with ⟨x, hx, rfl⟩ | ⟨n, hn, rfl⟩ | ⟨n, a, ps, hn, hga, hps, rfl⟩
    · unfold tText; rw [calmN, calmL]; rfl
    · unfold tElem; rw [calmN, calmL]
      have hv : ∀ n ∈ voids2, (!(n == nP) && !(n == nLi) && true) = true := by decide
      exact hv n hn
    · unfold tElem at hct ⊢
      rw [closesN, Bool.or_eq_false_iff, Bool.or_eq_false_iff] at hct
      have := (elems6_ok n hn).2.2.2.2.2
      rw [calmN, good_calm d ps hps hct.2, hct.1.1, beq_eq_false_iff_ne.2 this]; rfl

end Go.Proofs.YtemomhanchiipaaGreatDoor
/- Rows of integers, from some place on. -/
namespace Go.Proofs.YtemomhanchiipaaGreatDoor
open Go Go.RowKit Go.ChangeShapes Go.WideShapes Go.ChangeAt Go.WideMaps Go.WideElems

/-- A part of a row of integers. -/
def IntSub (W : World) (v : Value) (l : List Int) : Prop :=
  (∃ a e, v = .slice a l.length (l.length + e)) ∧ l.length ≤ maxLen ∧ ∀ j x, l[j]? = some x → (-9223372036854775808 ≤ x ∧ x ≤ 9223372036854775807) ∧ ∃ b off e, v = .slice (some ⟨b, off, none⟩) l.length (l.length + e) ∧ b < W.heap.size ∧
    W.cell? ⟨b, off + j, none⟩ = some (.int .i64 x)
theorem IntSub.form {W : World} {v : Value} {l : List Int} (h : IntSub W v l) : ∃ a e, v = .slice a l.length (l.length + e) := h.1
theorem IntSub.head {W : World} {v : Value} {x : Int} {r : List Int} (h : IntSub W v (x :: r)) : ∃ b o e, v = .slice (some ⟨b, o, none⟩) (r.length + 1) (r.length + 1 + e) ∧ b < W.heap.size ∧ W.cell? ⟨b, o, none⟩ = some (.int .i64 x) ∧ (-9223372036854775808 ≤ x ∧ x ≤ 9223372036854775807) ∧
    (∀ a, r.length = 0 → IntSub W (.slice a r.length (r.length + e)) r) ∧ IntSub W (.slice (some ⟨b, o + 1, none⟩) r.length (r.length + e)) r := by
  obtain ⟨-, h2, h3⟩ := h
  obtain ⟨hx, b, o, e, hv, hb, hc⟩ := h3 0 x rfl
  have hl : r.length ≤ maxLen := by simp at h2; omega
  refine ⟨b, o, e, hv, hb, hc, hx, fun a hr => ⟨⟨_, _, rfl⟩, hl, fun j y hj => by rw [List.eq_nil_of_length_eq_zero hr] at hj; simp at hj⟩, ⟨⟨_, _, rfl⟩, hl, fun j y hj => ?_⟩⟩
  obtain ⟨hy, b', o', e', hv', hb', hc'⟩ := h3 (j + 1) y (by simpa using hj)
  rw [hv] at hv'
  have hg : b = b' ∧ o = o' := by simp at hv'; exact ⟨hv'.1.1, hv'.1.2⟩
  obtain ⟨rfl, rfl⟩ := hg
  refine ⟨hy, b, o + 1, e, rfl, hb, ?_⟩
  rw [Nat.add_assoc, Nat.add_comm 1 j]
  exact hc'

section
variable {H : Type} {enc : TypeId × Value → H}
set_option maxRecDepth 100000 in
theorem open_sub {W : World} {base : Nat} {v : Value} {d : DataW H} {p : List MemPlace} (hval : Value.okWide Tryz.prog W .any base 37 v) (h : DataW.Trod enc Tryz.prog W 0 (fun _ => true) true 37 v d p) :
    ∃ l, IntArg enc W v d p l ∧ IntSub W v l := by
  obtain ⟨l, hl⟩ := open_raw hval h
  obtain ⟨⟨a, cap, hv⟩, hml, hc⟩ := hl.row
  obtain ⟨a0, len, cap0, rfl⟩ := okWide_slice Tryz.underlying37 hval
  obtain ⟨fuel, hf⟩ := id h
  refine ⟨l, hl, ?_⟩
  have hcap : l.length ≤ cap := by
    have hlc : len = l.length ∧ cap0 = cap := by simp at hv; exact hv.2
    obtain ⟨rfl, rfl⟩ := hlc
    rcases open_ints Tryz.underlying37 Tryz.underlying3 (by kernel_rfl) hf with ⟨hcs, hx⟩ | ⟨a', len', cap', zs, hcs, _, hle, hm, hz, hx, hcell, hwz⟩
    · simp only [Value.cells] at hcs
      have h0 : Value.slice a0 l.length cap0 = .slice none 0 0 := by simpa using hcs
      have h1 : l.length = 0 := by simp at h0; rw [h0.2.1]; rfl
      omega
    · have hv' : Value.slice a0 l.length cap0 = .slice (some a') len' cap' := by simpa [Value.cells] using hcs
      have h1 : l.length = len' ∧ cap0 = cap' := by simp at hv'; exact hv'.2
      omega
  obtain ⟨e, rfl⟩ : ∃ e, cap = l.length + e := ⟨cap - l.length, by omega⟩
  refine ⟨⟨a, e, hv⟩, hml, fun j x hj => ?_⟩
  obtain ⟨hx, b, off, c, hv2, hb, hcell⟩ := hc j x hj
  have hce : l.length + e = c := by
    rw [hv] at hv2
    simp at hv2
    exact hv2.2
  exact ⟨hx, b, off, e, by rw [hv2, ← hce], hb, hcell⟩
end

end Go.Proofs.YtemomhanchiipaaGreatDoor
/- Walk of the keep's helper: Nodes. -/
namespace Go.Proofs.YtemomhanchiipaaGreatDoor
open Go Go.RowKit

theorem picked_natN (a : Int) (N : Nat) (w : World) (h0 : 0 < N) (h1 : N ≤ 1000000) :
    Calls Tryz.prog 45 #[.int .i64 a, .int .i64 N] w fun e w' => ∃ r : Nat, r < N ∧ e = .returned (.int .i64 r) ∧ w = w' := by
  refine (picked_any a N w (by omega) (by omega)).mono fun e w' ⟨he, hw⟩ => ?_
  have h2 := Int.emod_nonneg a (show (N : Int) ≠ 0 by omega)
  have h3 := Int.emod_lt_of_pos a (show (0 : Int) < N by omega)
  exact ⟨(a % N).toNat, by omega, by rw [he, Int.toNat_of_nonneg h2], hw⟩

/-- What a call leaves. -/
def KnPost (d n m : Nat) (h w : World) (e : Ending) (w' : World) : Prop :=
  Below w.heap.size w w' ∧ ∃ ov qv o q, e = .returned (.tuple #[ov, qv]) ∧ NodeOwn d w.heap.size w' ov o ∧ GoodL d o ∧ o.length ≤ n ∧ IntSub h qv q ∧ q.length ≤ m
theorem KnPost.mk' {d n m : Nat} {h w w' : World} {ov qv : Value} {o : List TNode} {q : List Int} (hb : Below w.heap.size w w') (h1 : NodeOwn d w.heap.size w' ov o) (h2 : GoodL d o) (h3 : o.length ≤ n) (h4 : IntSub h qv q) (h5 : q.length ≤ m) : KnPost d n m h w (.returned (.tuple #[ov, qv])) w' :=
  ⟨hb, ov, qv, o, q, rfl, h1, h2, h3, h4, h5⟩
theorem last_get {α : Type} (l : List α) (p : Nat) (u : α) (h : l.length = p + 1) (hu : l[p]? = some u) : l.getLast? = some u := by rw [List.getLast?_eq_getElem?, h]; exact hu
theorem last_none {α : Type} (l : List α) (h : l.length = 0) : l.getLast? = none := by rw [List.eq_nil_of_length_eq_zero h]; rfl

/-- An attribute laid in a row of its own. -/
theorem attrOne (w : World) (k v : Bytes) : AttrView (w.alloc (.cells #[.string (mk k), .string (mk v)] 89)) (.slice (some ⟨w.heap.size, 0, none⟩) 1 1) [⟨k, v⟩] := by
  have h := heap_alloc_new w (.cells #[.string (mk k), .string (mk v)] 89)
  refine ⟨⟨_, _, rfl⟩, fun i t hi => ?_⟩
  cases i with
  | succ i => simp at hi
  | zero =>
    cases hi
    exact ⟨_, 1, rfl, Nat.le_refl _, ⟨_, h⟩, by rw [Lib.cell_of_heap h]; rfl, by rw [Lib.cell_of_heap h]; rfl⟩

set_option maxHeartbeats 8000000 in
set_option maxRecDepth 100000 in
theorem knodes_any : ∀ (d : Nat) (v : Value) (l : List Int) (n : Nat) (D : Int) (h w : World), D = d + 1 → d ≤ 9 → n ≤ 6 → IntSub h v l → Below h.heap.size h w →
    Calls Tryz.prog 30 #[v, .int .i64 D, .int .i64 n] w (KnPost (d + 1) n l.length h w) := by
  intro d
  induction d using Nat.strongRecOn with
  | _ d ih =>
  intro v l n D h w hD hd hn6 hv hhw
  obtain ⟨a, e0, rfl⟩ := hv.form
  have hml := hv.2.1
  unfold maxLen at hml
  have HIH := Lib.hid ih
  have HV := Lib.hid hv
  have HH := Lib.hid hhw
  have D1 : 1 ≤ D := by omega
  have D2 : D ≤ 10 := by omega
  have HD := Lib.hid hD
  have HD9 := Lib.hid hd
  clear ih hv hhw hD hd
  go_enter Tryz.func30, Tryz.ntmps30
  go_wp2_with fail
  go_loopg [0, 8] l.length (fun g lv ov wx => ∃ (W : World) (cur : List Int) (o : List TNode), W = wx ∧ cur.length = g ∧ cur.length ≤ l.length ∧ o.length ≤ n ∧ Hid (IntSub h lv cur) ∧ Hid (NodeOwn (d + 1) w.heap.size wx ov o) ∧ Hid (GoodL (d + 1) o) ∧ Hid (Below w.heap.size w wx))
  case atStart => exact ⟨_, l, [], rfl, rfl, by omega, by simp, HV, Lib.hid (NodeOwn.nil _ _ _), Lib.hid (GoodL.nil _), Lib.hid (Below.refl _ _)⟩
  case round =>
    obtain ⟨W, cur, o, rfl, hg, hcl, hon, hT, hO, hG, hB⟩ := hrel
    obtain ⟨oa, oc, hof⟩ := hO.out.form
    subst hof
    have HHW := Lib.hid (HH.out.trans (hB.out.mono HH.out.size))
    cases cur with
    | nil =>
      obtain ⟨ca, ce, hcf⟩ := hT.out.form
      subst hcf
      have HTT := Lib.hid (show IntSub h (.slice ca 0 (0 + ce)) [] from hT.out)
      have hg0 : gk = 0 := hg.symm
      subst hg0
      clear hT hg hcl
      go_wp2_with fail
      exact bodyPost_ret (v := .tuple #[.slice oa o.length oc, .slice ca 0 (0 + ce)]) (by simp [results, Tryz.results30, go_sem]) rfl (KnPost.mk' hB.out hO.out hG.out hon HTT.out (Nat.zero_le _))
    | cons x r =>
      obtain ⟨b, of, ce, hcf, hbl, hcell, -, hT0, hT1⟩ := hT.out.head
      subst hcf
      have c0 := ((Older.of_below HHW.out).cell _ _ hbl).trans hcell
      have HTT := Lib.hid hT.out
      have HT0 := Lib.hid hT0
      have HT1 := Lib.hid hT1
      clear hT0 hT1 hT hcell hbl
      simp only [List.length_cons] at hg hcl
      subst hg
      have r0 : 0 < r.length + 1 := by omega
      by_cases hlt : o.length < n
      · go_upto_region 4 with fail
        go_cut [0] (fun lv wx => ∃ la, lv = .slice la r.length (r.length + ce) ∧ Hid (IntSub h lv r) ∧ wx = W)
        case first =>
          have q0 : (1 : Int) ≤ ((r.length + 1 : Nat) : Int) := by omega
          have q1 : (1 : Int) ≤ ((r.length + 1 + ce : Nat) : Int) := by omega
          go_wp2_with fail
          · go_meet
            case rel => exact ⟨_, rfl, Lib.hid (HT0.out _ (by omega)), rfl⟩
          · go_meet
            case rel => exact ⟨_, rfl, HT1, rfl⟩
        case rest =>
          obtain ⟨la, rfl, HTR, rfl⟩ := hcut
          clear c0 HTT HT0 HT1 r0
          have hol2 : o.length ≤ 1000000 := by omega
          have hBz := hB.out.size
          have ho6 : o.length < 6 := by omega
          have hrl : r.length ≤ l.length := by omega
          go_wp2_with (go_at_call 45; refine (picked_natN _ 6 _ (by decide) (by decide)).mono ?_)
          rintro e w2 ⟨k, hk, rfl, hw⟩
          rw [← hw]
          clear hw
          have hk3 : k = 0 ∨ k = 1 ∨ k = 2 ∨ 3 ≤ k := by omega
          rcases hk3 with rfl | rfl | rfl | hk3
          · -- the end
            clear hk
            go_wp2_with fail
            exact bodyPost_ret (v := .tuple #[.slice oa o.length oc, .slice la r.length (r.length + ce)]) (by simp [results, Tryz.results30, go_sem]) rfl (KnPost.mk' hB.out hO.out hG.out hon HTR.out hrl)
          · -- a text
            clear hk
            go_upto_region 10 with fail
            go_cut [49] (fun v wx => v = .bool (lastText o) ∧ wx = wc)
            case first =>
              rcases Nat.eq_zero_or_pos o.length with hL0 | hL0
              · have HLT := Lib.hid (show lastText o = false by unfold lastText; rw [last_none o hL0])
                have l1 : ¬ 0 < o.length := by omega
                have l2 : ¬ (0 : Int) < o.length := by omega
                clear hL0
                go_wp2_with fail
                go_meet
                case rel => exact ⟨by rw [HLT.out], rfl⟩
              · obtain ⟨p, hp⟩ : ∃ p, o.length = p + 1 := ⟨o.length - 1, by omega⟩
                obtain ⟨u, hu⟩ : ∃ u, o[p]? = some u := ⟨_, List.getElem?_eq_getElem (by omega)⟩
                obtain ⟨_, _, g, c', _, _, hf, _, _, hgl, hat, _, _⟩ := hO.out.view.get p u hu
                obtain rfl : oa = some ⟨g, 0, none⟩ := by simp at hf; exact hf.1
                have u0 := hat.nm
                have HLT := Lib.hid (show lastText o = (u.name == []) by unfold lastText; rw [last_get o p u hp hu])
                have j0 : (0 : Int) < (o.length : Int) := by omega
                have j0n : 0 < o.length := by omega
                have j1 : IntKind.i64.wrap ((o.length : Int) - 1) = (p : Int) := by rw [IntWalk.i64_in _ (by omega)]; omega
                have j2 : (p : Int) < o.length := by omega
                have j3 : (0 : Int) ≤ p := by omega
                have j4 : (1 : Int) ≤ o.length := by omega
                have j5 : ((o.length : Int) - 1).toNat = p := by omega
                have j6 : (o.length : Int) - 1 < o.length := by omega
                have j7 : (0 : Int) ≤ (o.length : Int) - 1 := by omega
                clear hf hat hu hp
                by_cases hun : u.name = []
                · rw [hun] at u0 HLT
                  have u0' : wc.cell? ⟨g, p * 4, none⟩ = some (.string ⟨#[]⟩) := u0
                  clear hun u0
                  go_wp2_with fail
                  go_meet
                  case rel => exact ⟨by rw [HLT.out]; rfl, rfl⟩
                · have u1 := sBeqF hun
                  have u2 := sEqF hun
                  have u3 := sEmpF hun
                  have HLT2 := Lib.hid (show lastText o = false by rw [HLT.out]; exact beq_eq_false_iff_ne.2 hun)
                  clear hun
                  go_wp2_with fail
                  go_meet
                  case rel => exact ⟨by rw [HLT2.out], rfl⟩
            case rest =>
              obtain ⟨rfl, rfl⟩ := hcut
              cases hlt2 : lastText o with
              | true =>
                clear hlt2
                go_wp2_with fail
                go_roundg r.length
                case measure => omega
                case rel => exact ⟨_, r, o, rfl, rfl, hrl, hon, HTR, hO, hG, hB⟩
              | false =>
                have HLTF := Lib.hid hlt2
                clear hlt2
                go_upto_region 11 with fail
                have htb := fun r p (hp : txts6[r]? = some p) => table_cell txts6_v wc 9 hp
                have hall := (Below.refl wc.heap.size wc).alloc (Nat.le_refl _) (.cells txts6V 9)
                go_wp2_with (go_at_call 45; refine (picked_natN _ 6 _ (by decide) (by decide)).mono ?_)
                rintro e w4 ⟨r', hr', rfl, hw⟩
                rw [hw] at htb hall
                obtain ⟨tx, htx⟩ : ∃ tx, txts6[r']? = some tx := ⟨_, List.getElem?_eq_getElem (show r' < txts6.length from hr')⟩
                have ht1 := htb r' tx htx
                have HTX := Lib.hid (List.mem_of_getElem? htx)
                have r2 : (0 : Int) ≤ r' := by omega
                have r3 : (r' : Int) < 6 := by omega
                have HB4 := Lib.hid (hB.out.trans (hall.mono hB.out.size))
                have HO4 := Lib.hid (hO.out.older (.of_below hall))
                have hBz4 := HB4.out.size
                clear hw htb hall htx
                go_wp2_with (at_builtin; go_must (refine wpList_pushNode (by rfl) (.tmp 50) (.tmp 58) (by rfl) (d + 1) w.heap.size _ o (tText tx) (.slice none 0 0) (.slice none 0 0) w4 _ (by rfl) (by rfl) HO4.out (attrView_nil _) (NodeIn.nil _ _ _) w4.heap.size rfl (by rfl) hol2 hBz4 ?_); intro v' w' hown' hbl'; have HOW := Lib.hid hown'; have HBL := Lib.hid (HB4.out.trans hbl'); clear hown' hbl')
                have HGA := Lib.hid (hG.out.snoc ho6 (.inl ⟨tx, HTX.out, rfl⟩) (fun _ u hu hun => by have h := HLTF.out; unfold lastText at h; rw [hu] at h; exact absurd hun (beq_eq_false_iff_ne.1 h)))
                go_roundg r.length
                case measure => omega
                case rel => exact ⟨_, r, _, rfl, rfl, hrl, by rw [List.length_append, List.length_singleton]; omega, HTR, HOW, HGA, HBL⟩
          · -- a void element
            clear hk
            go_upto_region 13 with fail
            have htb := fun r p (hp : voids2[r]? = some p) => table_cell voids2_v wc 9 hp
            have hall := (Below.refl wc.heap.size wc).alloc (Nat.le_refl _) (.cells voids2V 9)
            go_wp2_with (go_at_call 45; refine (picked_natN _ 2 _ (by decide) (by decide)).mono ?_)
            rintro e w4 ⟨r', hr', rfl, hw⟩
            rw [hw] at htb hall
            obtain ⟨tx, htx⟩ : ∃ tx, voids2[r']? = some tx := ⟨_, List.getElem?_eq_getElem (show r' < voids2.length from hr')⟩
            have ht1 := htb r' tx htx
            have HTX := Lib.hid (List.mem_of_getElem? htx)
            have r2 : (0 : Int) ≤ r' := by omega
            have r3 : (r' : Int) < 2 := by omega
            have HB4 := Lib.hid (hB.out.trans (hall.mono hB.out.size))
            have HO4 := Lib.hid (hO.out.older (.of_below hall))
            have hBz4 := HB4.out.size
            clear hw htb hall htx
            go_wp2_with (at_builtin; go_must (refine wpList_pushNode (by rfl) (.tmp 63) (.tmp 71) (by rfl) (d + 1) w.heap.size _ o (tElem tx [] []) (.slice none 0 0) (.slice none 0 0) w4 _ (by rfl) (by rfl) HO4.out (attrView_nil _) (NodeIn.nil _ _ _) w4.heap.size rfl (by rfl) hol2 hBz4 ?_); intro v' w' hown' hbl'; have HOW := Lib.hid hown'; have HBL := Lib.hid (HB4.out.trans hbl'); clear hown' hbl')
            have HGA := Lib.hid (hG.out.snoc ho6 (.inr (.inl ⟨tx, HTX.out, rfl⟩)) (fun hn => absurd hn (voids2_ok tx HTX.out).2.2.1))
            go_roundg r.length
            case measure => omega
            case rel => exact ⟨_, r, _, rfl, rfl, hrl, by rw [List.length_append, List.length_singleton]; omega, HTR, HOW, HGA, HBL⟩
          · have e0 : ((k : Int) == 0) = false := beq_eq_false_iff_ne.2 (by omega)
            have e1 : ((k : Int) == 1) = false := beq_eq_false_iff_ne.2 (by omega)
            have e2 : ((k : Int) == 2) = false := beq_eq_false_iff_ne.2 (by omega)
            clear hk
            by_cases hd0 : d = 0
            · have D3 : ¬ 1 < D := by have := HD.out; omega
              go_wp2_with fail
              go_roundg r.length
              case measure => omega
              case rel => exact ⟨_, r, o, rfl, rfl, hrl, hon, HTR, hO, hG, hB⟩
            · have D3 : 1 < D := by have := HD.out; omega
              obtain ⟨d', rfl⟩ : ∃ d', d = d' + 1 := ⟨d - 1, by omega⟩
              have hDd : D - 1 = (d' : Int) + 1 := by have := HD.out; omega
              have HDD := Lib.hid hDd
              clear hd0 hDd
              obtain ⟨wo, rfl⟩ : ∃ wo : World, wo = wc := ⟨_, rfl⟩
              go_upto_region 15 with fail
              have htb := fun r p (hp : elems6[r]? = some p) => table_cell elems6_v wo 9 hp
              have hall := (Below.refl wo.heap.size wo).alloc (Nat.le_refl _) (.cells elems6V 9)
              go_wp2_with (go_at_call 45; refine (picked_natN _ 6 _ (by decide) (by decide)).mono ?_)
              rintro e w4 ⟨r', hr', rfl, hw⟩
              rw [hw] at htb hall
              obtain ⟨nm, hnm⟩ : ∃ nm, elems6[r']? = some nm := ⟨_, List.getElem?_eq_getElem (show r' < elems6.length from hr')⟩
              have ht1 := htb r' nm hnm
              have HNM := Lib.hid (List.mem_of_getElem? hnm)
              have r2 : (0 : Int) ≤ r' := by omega
              have r3 : (r' : Int) < 6 := by omega
              obtain ⟨w5, hw5⟩ : ∃ w5, w5 = w4.alloc (.cells #[.string (mk nm), .slice none 0 0, .string ⟨#[]⟩, .slice none 0 0] 35) := ⟨_, rfl⟩
              have hb5 : Below w4.heap.size w4 w5 := by rw [hw5]; exact (Below.refl _ _).alloc (Nat.le_refl _) _
              have hN5 : NodeBox w5 w4.heap.size nm (.slice none 0 0) (.slice none 0 0) := by rw [hw5]; exact heap_alloc_new _ _
              have HBA := Lib.hid hall
              have HB5 := Lib.hid hb5
              have HN5 := Lib.hid hN5
              have HW5 := Lib.hid hw5
              have HBW5 := Lib.hid ((hB.out.trans (hall.mono hB.out.size)).trans (hb5.mono (Nat.le_trans hB.out.size hall.size)))
              have HO5 := Lib.hid (Older.trans (.of_below hall) (.of_below hb5))
              clear hw htb hall hnm hw5 hb5 hN5
              go_upto_region 16 with fail
              rw [← HW5.out]
              clear ht1 r2 r3
              go_upto_if 86 with (go_at_call 45; refine (picked_natN _ 3 _ (by decide) (by decide)).mono ?_; rintro e w6 ⟨r4, hr4, rfl, hw6⟩; rw [← hw6]; clear hw6)
              go_cut [] (fun wx => ∃ (ava : Option Addr) (avc : Nat) (al : List TAttr), Hid (NodeBox wx w4.heap.size nm (.slice ava al.length avc) (.slice none 0 0)) ∧ Hid (AttrView wx (.slice ava al.length avc) al) ∧ Hid (GoodA al) ∧ Hid (Below w.heap.size w wx) ∧ Hid (Older wo wx))
              case first =>
                have y1 : w5.cell? ⟨w4.heap.size, 1, none⟩ = some (.slice none 0 0) := by rw [Lib.cell_of_heap HN5.out]; rfl
                have y2 : w5.frozen? ⟨w4.heap.size, 1, none⟩ = false := Lib.frozen_of_heap HN5.out 1
                by_cases hr40 : r4 = 0
                · have z1 : ((r4 : Int) == 0) = true := by rw [hr40]; rfl
                  clear hr40
                  go_upto_region 17 with fail
                  have htb := fun r p (hp : hvals5[r]? = some p) => table_cell hvals5_v w5 9 hp
                  have hall := (Below.refl w5.heap.size w5).alloc (Nat.le_refl _) (.cells hvals5V 9)
                  go_wp2_with (go_at_call 45; refine (picked_natN _ 5 _ (by decide) (by decide)).mono ?_)
                  rintro e w7 ⟨r5, hr5, rfl, hw⟩
                  rw [hw] at htb hall
                  obtain ⟨vl, hvl⟩ : ∃ vl, hvals5[r5]? = some vl := ⟨_, List.getElem?_eq_getElem (show r5 < hvals5.length from hr5)⟩
                  have ht1 := htb r5 vl hvl
                  have HVL := Lib.hid (List.mem_of_getElem? hvl)
                  have r2 : (0 : Int) ≤ r5 := by omega
                  have r3 : (r5 : Int) < 5 := by omega
                  have hbx5 := lt_of_block HN5.out
                  have hN7 : NodeBox w7 w4.heap.size nm (.slice none 0 0) (.slice none 0 0) := (hall.block _ hbx5).trans HN5.out
                  have hba := (Below.refl w7.heap.size w7).alloc (Nat.le_refl _) (.cells #[.string ⟨#[104, 114, 101, 102]⟩, .string (mk vl)] 89)
                  have hav7 := attrOne w7 sHref vl
                  have hav7' : AttrView (w7.alloc (.cells #[.string ⟨#[104, 114, 101, 102]⟩, .string (mk vl)] 89)) (.slice (some ⟨w7.heap.size, 0, none⟩) 1 1) [⟨sHref, vl⟩] := hav7
                  have hz8 : (w7.alloc (.cells #[.string ⟨#[104, 114, 101, 102]⟩, .string (mk vl)] 89)).heap.size = w7.heap.size + 1 := by simp
                  generalize hw8 : w7.alloc (.cells #[.string ⟨#[104, 114, 101, 102]⟩, .string (mk vl)] 89) = w8 at *
                  have hbx7 := lt_of_block hN7
                  have hN8 : NodeBox w8 w4.heap.size nm (.slice none 0 0) (.slice none 0 0) := (hba.block _ hbx7).trans hN7
                  have y1 : w8.cell? ⟨w4.heap.size, 1, none⟩ = some (.slice none 0 0) := by rw [Lib.cell_of_heap hN8]; rfl
                  have y2 : w8.frozen? ⟨w4.heap.size, 1, none⟩ = false := Lib.frozen_of_heap hN8 1
                  have HN8 := Lib.hid hN8
                  have HAV8 := Lib.hid hav7'
                  have HB8 := Lib.hid ((HBW5.out.trans (hall.mono HBW5.out.size)).trans (hba.mono (Nat.le_trans HBW5.out.size hall.size)))
                  have HO8 := Lib.hid ((HO5.out.trans (.of_below hall)).trans (.of_below hba))
                  have HW8 := Lib.hid hw8
                  rw [← hw8] at y1 y2
                  have HBZ := Lib.hid (show wo.heap.size ≤ w4.heap.size from HBA.out.size)
                  have HBZ2 := Lib.hid (show w.heap.size ≤ w4.heap.size from Nat.le_trans hB.out.size HBA.out.size)
                  clear hw htb hall hvl hba hav7 hav7' hz8 hN7 hN8 hw8 hbx5 hbx7
                  go_wp2_with fail
                  rw [HW8.out]
                  go_meet
                  case rel =>
                    have hset : ∀ k, k ≠ w4.heap.size → (w8.setCell ⟨w4.heap.size, 1, none⟩ (.slice (some ⟨w7.heap.size, 0, none⟩) 1 1)).heap[k]? = w8.heap[k]? := fun k hk => Below.heap_setCell _ _ _ _ hk
                    refine ⟨some ⟨w7.heap.size, 0, none⟩, 1, [⟨sHref, vl⟩], Lib.hid ?_, Lib.hid (HAV8.out.stay fun g cs hg => hset g (type_ne hg HN8.out (by decide))), Lib.hid (.inr ⟨vl, HVL.out, rfl⟩), Lib.hid (HB8.out.setCell (p := ⟨w4.heap.size, 1, none⟩) HBZ2.out _), Lib.hid ?_⟩
                    · have hx := HN8.out
                      unfold NodeBox at hx ⊢
                      simp [World.setCell, Array.getElem?_modify, hx]
                    · refine ⟨by have := HO8.out.1; simp [World.setCell]; exact this, fun k hk => ?_⟩
                      have := HBZ.out
                      rw [hset k (by omega)]
                      exact HO8.out.2 k hk
                · have z1 : ((r4 : Int) == 0) = false := beq_eq_false_iff_ne.2 (by omega)
                  clear hr40
                  go_wp2_with fail
                  go_meet
                  case rel => exact ⟨none, 0, [], HN5, Lib.hid (attrView_nil _), Lib.hid (.inl rfl), HBW5, HO5⟩
              case rest =>
                obtain ⟨ava, avc, al, hbx, hava, hga, hbw, hov⟩ := hcut
                have HHC := Lib.hid (HH.out.trans (hbw.out.mono HH.out.size))
                have HC := Lib.hid (HIH.out d' (by omega) (.slice la r.length (r.length + ce)) r 4 (D - 1) h wc HDD.out (by have := HD9.out; omega) (by decide) HTR.out HHC.out)
                have hbz := lt_of_block hbx.out
                have hbo : wo.heap.size ≤ w4.heap.size := HBA.out.size
                have hbw4 : w.heap.size ≤ w4.heap.size := Nat.le_trans hB.out.size hbo
                have d4 : IntKind.i64.wrap (D - 1) = D - 1 := IntWalk.i64_in _ (by omega)
                go_wp2_with (go_at_call 30; refine HC.out.mono ?_)
                rintro e w7 ⟨hb7, ov, qv, ps, q, rfl, hown, hgp, hpl, hq, hql⟩
                obtain ⟨pa, pc, hpf⟩ := hown.form
                subst hpf
                obtain ⟨qa, qe, hqf⟩ := hq.form
                subst hqf
                have HOWN := Lib.hid hown
                have HGP := Lib.hid hgp
                have HQ := Lib.hid hq
                have HB7 := Lib.hid hb7
                have hN7 : NodeBox w7 w4.heap.size nm (.slice ava al.length avc) (.slice none 0 0) := (hb7.block _ hbz).trans hbx.out
                have y1 : w7.cell? ⟨w4.heap.size, 3, none⟩ = some (.slice none 0 0) := by rw [Lib.cell_of_heap hN7]; rfl
                have y2 : w7.frozen? ⟨w4.heap.size, 3, none⟩ = false := Lib.frozen_of_heap hN7 3
                have HN7 := Lib.hid hN7
                clear hown hgp hq hb7 hN7 d4
                go_upto_region 19 with fail
                obtain ⟨w8, hw8⟩ : ∃ w8, w8 = w7.setCell ⟨w4.heap.size, 3, none⟩ (.slice pa ps.length pc) := ⟨_, rfl⟩
                rw [← hw8]
                have hN8 : NodeBox w8 w4.heap.size nm (.slice ava al.length avc) (.slice pa ps.length pc) := by
                  have hx := HN7.out
                  unfold NodeBox at hx ⊢
                  rw [hw8]
                  simp [World.setCell, Array.getElem?_modify, hx]
                have h78 : ∀ k, k ≠ w4.heap.size → w8.heap[k]? = w7.heap[k]? := fun k hk => by
                  rw [hw8]
                  exact Below.heap_setCell w7 _ _ _ hk
                have hz78 : w7.heap.size ≤ w8.heap.size := by rw [hw8]; simp [World.setCell]
                have hz7 := HB7.out.size
                have hzo := hov.out.1
                have ho8 : Older wo w8 := ⟨by omega, fun k hk => by
                  rw [h78 k (by omega), HB7.out.block k (by omega), hov.out.2 k hk]⟩
                have hb8 : Below w.heap.size w w8 := by rw [hw8]; exact (hbw.out.trans (HB7.out.mono hbw.out.size)).setCell (p := ⟨w4.heap.size, 3, none⟩) hbw4 _
                have hv8 : NodeIn (fun g => w.heap.size ≤ g ∧ (Value.slice oa o.length oc).ownBlock ≠ some g) (d' + 1 + 1) w8 (.slice pa ps.length pc) ps := by
                  refine HOWN.out.view.stay (fun g cs hg => h78 g (type_ne hg HN7.out (by decide))) fun g cs hp hg => ⟨⟨?_, fun e => ?_⟩, h78 g (by have hp' : wc.heap.size ≤ g := hp; omega)⟩
                  · have hp' : wc.heap.size ≤ g := hp
                    omega
                  · have hp' : wc.heap.size ≤ g := hp
                    have := hO.out.block e; omega
                have HV8 := Lib.hid hv8
                have HO8 := Lib.hid (hO.out.older ho8)
                have HA8 := Lib.hid ((hava.out.older (.of_below HB7.out)).stay fun g cs hg => h78 g (type_ne hg HN7.out (by decide)))
                have HB8 := Lib.hid hb8
                have m0 : w8.cell? ⟨w4.heap.size, 0, none⟩ = some (.string (mk nm)) := by rw [Lib.cell_of_heap hN8]; rfl
                have m1 : w8.cell? ⟨w4.heap.size, 1, none⟩ = some (.slice ava al.length avc) := by rw [Lib.cell_of_heap hN8]; rfl
                have m2 : w8.cell? ⟨w4.heap.size, 2, none⟩ = some (.string ⟨#[]⟩) := by rw [Lib.cell_of_heap hN8]; rfl
                have m3 : w8.cell? ⟨w4.heap.size, 3, none⟩ = some (.slice pa ps.length pc) := by rw [Lib.cell_of_heap hN8]; rfl
                have hBz8 := hb8.size
                clear hw8 hN8 h78 hb8 ho8 hv8 y1 y2 hz78 hz7 hzo hbz hbo hbw4
                go_wp2_with (at_builtin; go_must (refine wpList_pushNode (by rfl) (.tmp 104) (.tmp 106) (by rfl) (d' + 1 + 1) w.heap.size _ o (tElem nm al ps) (.slice ava al.length avc) (.slice pa ps.length pc) w8 _ (by rfl) (by rfl) HO8.out HA8.out HV8.out w8.heap.size rfl (by rfl) hol2 hBz8 ?_); intro v' w' hown' hbl'; have HOW := Lib.hid hown'; have HBL := Lib.hid (HB8.out.trans hbl'); clear hown' hbl')
                have HGA := Lib.hid (hG.out.snoc ho6 (.inr (.inr ⟨nm, al, ps, HNM.out, hga.out, HGP.out, rfl⟩)) (fun hn => absurd hn (elems6_ok nm HNM.out).2.2.2.1))
                go_roundg q.length
                case measure => omega
                case rel => exact ⟨_, q, _, rfl, rfl, by omega, by rw [List.length_append, List.length_singleton]; omega, HQ, HOW, HGA, HBL⟩
      · have hon2 : ¬ o.length < n := hlt
        go_wp2_with fail
        exact bodyPost_ret (v := .tuple #[.slice oa o.length oc, .slice (some ⟨b, of, none⟩) (r.length + 1) (r.length + 1 + ce)]) (by simp [results, Tryz.results30, go_sem]) rfl (KnPost.mk' hB.out hO.out hG.out hon HTT.out hcl)

end Go.Proofs.YtemomhanchiipaaGreatDoor
/- Walks of the keep's helper sameNodes and of the row's function: ShowBack. -/
namespace Go.Proofs.YtemomhanchiipaaGreatDoor
open Go Go.RowKit

set_option maxHeartbeats 4000000 in
set_option maxRecDepth 100000 in
theorem sameNodes_any : ∀ (d e : Nat) (v1 v2 : Value) (L : List TNode) (w : World), NodeView d w v1 L → NodeView e w v2 L → countL L ≤ 1000000 → SmL L →
    Calls Tryz.prog 25 #[v1, v2] w fun e w' => e = .returned (.bool true) ∧ ∃ n, w' = w.drewN n := by
  intro d
  induction d using Nat.strongRecOn with
  | _ d ih =>
  intro e v1 v2 L w h1 h2 hct hsz
  obtain ⟨a, cap, rfl⟩ := h1.form
  obtain ⟨b, cap2, rfl⟩ := h2.form
  have hL := Nat.le_trans (len_countL L) hct
  have HIH := Lib.hid ih
  have H1 := Lib.hid h1
  have H2 := Lib.hid h2
  have HCT := Lib.hid hct
  have HSZ := Lib.hid hsz.mem
  clear ih h1 h2 hct hsz
  go_enter Tryz.func25, Tryz.ntmps25
  go_wp2_with fail
  go_loopw [5] (fun i wr => ∃ (W : World) (k : Nat), W = wr ∧ k ≤ L.length ∧ i = .int .i64 k ∧ Hid (∃ n, W = w.drewN n)) (fun i _ => L.length - (intOf i).toNat)
  case atStart => exact ⟨_, 0, rfl, by omega, rfl, Lib.hid ⟨0, rfl⟩⟩
  case round =>
    obtain ⟨W, k, rfl, hk, rfl, hW⟩ := hrel
    by_cases hlt : k < L.length
    · obtain ⟨t, ht⟩ : ∃ t, L[k]? = some t := ⟨_, List.getElem?_eq_getElem hlt⟩
      have hOl : Older w W := by obtain ⟨n, hn⟩ := hW.out; rw [hn]; exact ⟨Nat.le_refl _, fun _ _ => rfl⟩
      obtain ⟨d', hd', g, c1, av, pv, hv, _, _, _, ha, hva, hpa⟩ := (H1.out.older hOl).get k t ht
      obtain ⟨e', he', g', c2, bv, qv, hv', _, _, _, hb, hvb, hpb⟩ := (H2.out.older hOl).get k t ht
      obtain rfl : a = some ⟨g, 0, none⟩ := by simp at hv; exact hv.1
      obtain rfl : b = some ⟨g', 0, none⟩ := by simp at hv'; exact hv'.1
      obtain ⟨⟨aa, capa, rfl⟩, hva⟩ := hva
      obtain ⟨⟨ba, capb, rfl⟩, hvb⟩ := hvb
      obtain ⟨pa, pc, hpf⟩ := hpa.form
      subst hpf
      obtain ⟨qa, qc, hqf⟩ := hpb.form
      subst hqf
      have HVA := Lib.hid hva
      have HVB := Lib.hid hvb
      obtain ⟨a0, a1, a2, a3⟩ := ha
      obtain ⟨b0, b1, b2, b3⟩ := hb
      have hs := (HSZ.out t (List.mem_of_getElem? ht)).all
      have haz := hs.1.2.2.1
      have h3 := countN_mem (List.mem_of_getElem? ht)
      rw [countN_of] at h3
      have HCALL := Lib.hid (fun n => HIH.out d' (by omega) e' (.slice pa t.parts.length pc) (.slice qa t.parts.length qc) t.parts (W.drewN n) (hpa.older ⟨Nat.le_refl _, fun _ _ => rfl⟩) (hpb.older ⟨Nat.le_refl _, fun _ _ => rfl⟩) (by have := HCT.out; omega) hs.2)
      clear hv hv' hva hvb ht hpa hpb hs h3 hd' he' hOl
      have k0 : (0 : Int) ≤ k := by omega
      have k1 : (k : Int) < L.length := by omega
      go_wp2_with fail
      go_quiet ((go_at_call 25; exact qd (HCALL.out _)))
      have hW0 := Lib.hid (show ∃ n, W.drewN nq = w.drewN n by obtain ⟨n, hn⟩ := hW.out; exact ⟨n + nq, by rw [hn, World.drewN_drewN]⟩)
      clear HCALL
      go_wp2_with fail
      go_loopw [6] (fun i wr => ∃ (W2 : World) (p : Nat), W2 = wr ∧ p ≤ t.attrs.length ∧ i = .int .i64 p ∧ Hid (∃ n, W2 = w.drewN n)) (fun i _ => t.attrs.length - (intOf i).toNat)
      case atStart => exact ⟨_, 0, rfl, by omega, rfl, hW0⟩
      case round =>
        obtain ⟨W2, p, rfl, hp, rfl, hW2⟩ := hrel
        have hcl : ∀ p, W2.cell? p = W.cell? p := by obtain ⟨n, hn⟩ := hW2.out; obtain ⟨m, hm⟩ := hW.out; rw [hn, hm]; exact fun _ => rfl
        rw [← hcl] at a1 b1
        by_cases hpl : p < t.attrs.length
        · obtain ⟨x, hx⟩ : ∃ x, t.attrs[p]? = some x := ⟨_, List.getElem?_eq_getElem hpl⟩
          obtain ⟨ga, _, hva, _, _, x1, x2⟩ := HVA.out p x hx
          obtain ⟨gb, _, hvb, _, _, y1, y2⟩ := HVB.out p x hx
          obtain rfl : aa = some ⟨ga, 0, none⟩ := by simp at hva; exact hva.1
          obtain rfl : ba = some ⟨gb, 0, none⟩ := by simp at hvb; exact hvb.1
          rw [← hcl] at x1 x2 y1 y2
          clear hx hva hvb hcl a0 a2 a3 b0 b2 b3
          have p0 : (0 : Int) ≤ p := by omega
          have p1 : (p : Int) < t.attrs.length := by omega
          go_wp2_with fail
          go_quiet (fail)
          have hW3 := Lib.hid (show ∃ n, W2.drewN nq = w.drewN n by obtain ⟨n, hn⟩ := hW2.out; exact ⟨n + nq, by rw [hn, World.drewN_drewN]⟩)
          go_wp2_with fail
          go_roundw
          case rel => exact ⟨_, p + 1, rfl, by omega, by go_num, hW3⟩
          case measure => simp [intOf]; omega
        · obtain rfl : p = t.attrs.length := by omega
          clear hpl hcl
          go_wp2_with fail
          go_roundw
          case rel => exact ⟨_, k + 1, rfl, by omega, by go_num, hW2⟩
          case measure => simp [intOf]; omega
    · obtain rfl : k = L.length := by omega
      go_wp2_with fail
      go_ret
      exact ⟨rfl, hW.out⟩

def brTree : List TNode := [tElem [98, 114] [] []]
theorem brView (w : World) (d : Nat) : NodeView (d + 1) (w.alloc (.cells #[.string ⟨#[98, 114]⟩, .slice none 0 0, .string ⟨#[]⟩, .slice none 0 0] 35)) (.slice (some ⟨w.heap.size, 0, none⟩) 1 1) brTree := by
  have h := heap_alloc_new w (.cells #[.string ⟨#[98, 114]⟩, .slice none 0 0, .string ⟨#[]⟩, .slice none 0 0] 35)
  refine ⟨⟨_, _, rfl⟩, fun i t hi => ?_⟩
  cases i with
  | succ i => simp [brTree] at hi
  | zero =>
    cases hi
    exact ⟨_, 1, .slice none 0 0, .slice none 0 0, rfl, Nat.le_refl _, by unfold maxLen; omega, trivial, ⟨_, h⟩, ⟨by rw [Lib.cell_of_heap h]; rfl, by rw [Lib.cell_of_heap h]; rfl, by rw [Lib.cell_of_heap h]; rfl, by rw [Lib.cell_of_heap h]; rfl⟩, attrView_nil _, NodeIn.nil _ _ _⟩
theorem br_text : textS brTree = ([60, 98, 114, 62], 0) := by decide
theorem br_sz : SzL brTree := SzL.of fun t ht => by
  cases List.mem_singleton.1 ht
  unfold tElem
  rw [SzN]
  exact ⟨⟨by simp, by simp, by simp, fun b hb => by cases hb⟩, by rw [SzL]; trivial⟩

set_option maxHeartbeats 4000000 in
set_option maxRecDepth 100000 in
theorem showBack_any (v1 : Value) (l : List Int) (w : World) (hg : Glob w) (h1 : IntSub w v1 l) :
    Calls Tryz.prog 8 #[v1] w fun e w' => e = .returned (.bool true) ∧ Below w.heap.size w w' := by
  have HG := Lib.hid hg
  have HK := Lib.hid (knodes_any 3 v1 l 6 4 w w (by decide) (by decide) (by decide) h1 (Below.refl _ _))
  clear hg h1
  go_enter Tryz.func8, Tryz.ntmps8
  go_wp2_with fail
  refine HK.out.mono ?_
  rintro e w1 ⟨hb1, ov, qv, o, q, rfl, hown, hgd, hol, hq, hql⟩
  obtain ⟨oa, oc, hof⟩ := hown.form
  subst hof
  obtain ⟨qa, qe, hqf⟩ := hq.form
  subst hqf
  have HB1 := Lib.hid hb1
  have HV1 := Lib.hid hown.view.any
  have hct : countL o ≤ 1554 := good_count 4 o hgd
  have hdc := deep_countL o
  have hsz := good_sz_tree 4 o hgd
  have hft := good_fault 4 o 0 hgd (by decide)
  have hck : checkS o = 0 ∨ checkS o = 1 := by
    unfold checkS
    rw [if_neg (by rw [hft]; simp)]
    split
    · exact .inr rfl
    · exact .inl rfl
  have HTX := Lib.hid (stext_any 5 (.slice oa o.length oc) o w1 hown.view.any (by omega) (by omega) hsz)
  have HCK := Lib.hid (fun W h => scheck_any 5 (.slice oa o.length oc) o W h (by omega) (by omega) hsz)
  have HSM := Lib.hid (fun v2 W h1 h2 => sameNodes_any 5 1001 (.slice oa o.length oc) v2 o W h1 h2 (by omega) hsz.sm)
  have htw := textS_ways o
  have HRB := Lib.hid (fun s (h : textS o = (s, 0)) => read_back h)
  clear hb1 hown hgd hq hql hft hct hdc hsz
  generalize checkS o = x at *
  generalize hT : textS o = T at *
  obtain ⟨s, k⟩ := T
  clear hT
  have hk : k = 1 ∨ k = 0 := by
    rcases htw with ⟨h, h'⟩ | ⟨h, _⟩ | ⟨h, _⟩ <;> cases h
    · rcases hck with hx | hx
      · exact absurd hx h'
      · exact .inl hx
    · exact .inl rfl
    · exact .inr rfl
  go_wp2_with fail
  refine HTX.out.mono ?_
  rintro e w2 ⟨rfl, hb2⟩
  have HB2 := Lib.hid (HB1.out.trans (hb2.mono HB1.out.size))
  have HV2 := Lib.hid (HV1.out.older (.of_below hb2))
  have HCK2 := Lib.hid (HCK.out w2 HV2.out)
  clear hb2
  go_wp2_with fail
  refine HCK2.out.mono ?_
  rintro e w3 ⟨rfl, hb3⟩
  have HB3 := Lib.hid (HB2.out.trans (hb3.mono HB2.out.size))
  have HV3 := Lib.hid (HV2.out.older (.of_below hb3))
  clear hb3
  rcases hk with rfl | rfl
  · clear htw
    rcases hck with rfl | rfl
    all_goals
      go_wp2_with fail
      go_ret
      exact ⟨rfl, HB3.out⟩
  · have HRD := Lib.hid (sread_any s w3 (HG.out.below HB3.out HG.out.size))
    rw [HRB.out s rfl] at HRD
    clear htw
    go_wp2_with fail
    refine HRD.out.mono ?_
    rintro e w4 ⟨v2, rfl, hv2, hb4⟩
    have HB4 := Lib.hid (HB3.out.trans (hb4.mono HB3.out.size))
    have HV4 := Lib.hid (HV3.out.older (.of_below hb4))
    obtain ⟨v2a, v2c, hvf⟩ := hv2.form
    have hvf' : v2 = .slice v2a o.length v2c := hvf
    subst hvf'
    have HBV := Lib.hid (show NodeView 1001 w4 (.slice v2a o.length v2c) o from hv2)
    clear hb4 hv2 hvf
    obtain ⟨w5, hw5⟩ : ∃ w5, w5 = w4.alloc (.cells #[.string ⟨#[98, 114]⟩, .slice none 0 0, .string ⟨#[]⟩, .slice none 0 0] 35) := ⟨_, rfl⟩
    have hb5 : Below w4.heap.size w4 w5 := by rw [hw5]; exact (Below.refl _ _).alloc (Nat.le_refl _) _
    have HT5 := Lib.hid (stext_any 1 (.slice (some ⟨w4.heap.size, 0, none⟩) 1 1) brTree w5 (by rw [hw5]; exact brView w4 0) (by decide) (by decide) br_sz)
    rw [br_text] at HT5
    have HB5 := Lib.hid (HB4.out.trans (hb5.mono HB4.out.size))
    have HV5 := Lib.hid (HV4.out.older (.of_below hb5))
    have HBV5 := Lib.hid (HBV.out.older (.of_below hb5))
    have HW5 := Lib.hid hw5
    clear hb5 hw5
    go_wp2_with fail
    rw [← HW5.out]
    refine HT5.out.mono ?_
    rintro e w6 ⟨rfl, hb6⟩
    have HB6 := Lib.hid (HB5.out.trans (hb6.mono HB5.out.size))
    have HS6 := Lib.hid (HSM.out _ w6 (HV5.out.older (.of_below hb6)) (HBV5.out.older (.of_below hb6)))
    clear hb6
    rw [show mk [60, 98, 114, 62] = ⟨#[60, 98, 114, 62]⟩ from rfl]
    go_wp2_with fail
    refine HS6.out.mono ?_
    rintro e w7 ⟨rfl, q, rfl⟩
    go_wp2_with fail
    go_ret
    exact ⟨rfl, ⟨HB6.out.os, HB6.out.tape, HB6.out.output, HB6.out.size, HB6.out.block⟩⟩

end Go.Proofs.YtemomhanchiipaaGreatDoor
