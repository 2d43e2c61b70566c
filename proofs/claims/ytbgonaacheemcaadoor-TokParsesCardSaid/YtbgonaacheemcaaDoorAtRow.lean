/- Rows of attributes and of tokens in memory; slices.ContainsFunc over attributes. -/
import Derived.Test.YtbgonaacheemcaaDoorTokD
import Derived.Laws.AppendOwn
import Derived.Deep.LoopGhost
namespace Go.Proofs.YtbgonaacheemcaaDoor
open Go Go.RowKit

def attrCells (l : List TAttr) : List Value := l.flatMap fun a => [.string (mk a.name), .string (mk a.value)]
theorem attrCells_length (l : List TAttr) : (attrCells l).length = l.length * 2 := by
  induction l with
  | nil => rfl
  | cons a l ih => unfold attrCells at *; simp only [List.flatMap_cons, List.length_append, ih, List.length_cons, List.length_nil]; omega
theorem attrCells_append (a b : List TAttr) : attrCells (a ++ b) = attrCells a ++ attrCells b := by simp [attrCells]
theorem attrCells_get (l : List TAttr) (i : Nat) (a : TAttr) (h : l[i]? = some a) : (attrCells l)[i * 2]? = some (.string (mk a.name)) ∧ (attrCells l)[i * 2 + 1]? = some (.string (mk a.value)) := by
  induction l generalizing i with
  | nil => simp at h
  | cons b l ih =>
    have e : attrCells (b :: l) = [.string (mk b.name), .string (mk b.value)] ++ attrCells l := by simp [attrCells]
    cases i with
    | zero => simp at h; subst h; rw [e]; exact ⟨rfl, rfl⟩
    | succ i =>
      simp at h
      have := ih i h
      rw [e, show (i + 1) * 2 = i * 2 + 2 by omega]
      simpa using this

/-- The slice value v is a row of attributes of its own (from block B on). -/
def AttrRow (B : Nat) (w : World) (v : Value) (l : List TAttr) : Prop := w.ownsRow B 45 2 v l.length (attrCells l)

theorem AttrRow.nil (B : Nat) (w : World) : AttrRow B w (.slice none 0 0) [] := World.ownsRow_nil w B _ _

/-- Blocks of a row stay where a frame keeps them. -/
theorem ownsRow_kept {B size n : Nat} {w w' : World} {e : TypeId} {v : Value} {xs : List Value} (h : w.ownsRow B e size v n xs)
    (hk : ∀ g c, v.ownBlock = some g → w.heap[g]? = some (.cells c e (0, 0)) → w'.heap[g]? = some (.cells c e (0, 0))) : w'.ownsRow B e size v n xs := by
  refine ⟨h.1, ?_⟩
  rcases h.2 with h0 | ⟨g, cap, cur, hv, hB, hg, r⟩
  · exact .inl h0
  · exact .inr ⟨g, cap, cur, hv, hB, hk g cur (by rw [hv]; rfl) hg, r⟩
theorem ownsRow_below {B size n : Nat} {w w' : World} {e : TypeId} {v : Value} {xs : List Value} (h : w.ownsRow B e size v n xs) (hb : Below w.heap.size w w') : w'.ownsRow B e size v n xs :=
  ownsRow_kept h fun g c _ hg => by rw [hb.block g (lt_of_block hg)]; exact hg
theorem ownsRow_base {B C size n : Nat} {w : World} {e : TypeId} {v : Value} {xs : List Value} (h : w.ownsRow B e size v n xs) (hC : C ≤ B) : w.ownsRow C e size v n xs := by
  refine ⟨h.1, ?_⟩
  rcases h.2 with h0 | ⟨g, cap, cur, hv, hB, r⟩
  · exact .inl h0
  · exact .inr ⟨g, cap, cur, hv, Nat.le_trans hC hB, r⟩
theorem AttrRow.below {B : Nat} {w w' : World} {v : Value} {l : List TAttr} (h : AttrRow B w v l) (hb : Below w.heap.size w w') : AttrRow B w' v l := ownsRow_below h hb
/-- The value is a slice of that length. -/
theorem ownsRow_slice {B size n : Nat} {w : World} {e : TypeId} {v : Value} {xs : List Value} (h : w.ownsRow B e size v n xs) : ∃ a cap, v = .slice a n cap := by
  rcases h.2 with ⟨rfl, rfl⟩ | ⟨g, cap, cur, rfl, _⟩
  · exact ⟨_, _, rfl⟩
  · exact ⟨_, _, rfl⟩
/-- Where there is an element: the block, and its cells. -/
theorem ownsRow_cells {B size n : Nat} {w : World} {e : TypeId} {v : Value} {xs : List Value} (h : w.ownsRow B e size v n xs) (hn : 0 < n) :
    ∃ g cap, v = .slice (some ⟨g, 0, none⟩) n cap ∧ B ≤ g ∧ g < w.heap.size ∧ n ≤ cap ∧ cap ≤ maxLen ∧ (∀ j u, xs[j]? = some u → w.cell? ⟨g, j, none⟩ = some u) ∧ ∀ j, w.frozen? ⟨g, j, none⟩ = false := by
  rcases h.2 with ⟨_, h0⟩ | ⟨g, cap, cur, hv, hB, hg, hc, hm, _⟩
  · omega
  · refine ⟨g, cap, hv, hB, lt_of_block hg, hc, hm, fun j u hu => ?_, fun j => Lib.frozen_of_heap hg j⟩
    have := h.cells (g := g) (by rw [hv]; rfl) j u hu
    have hadd : (⟨g, 0, none⟩ : Addr).add j = ⟨g, j, none⟩ := by unfold Addr.add; split <;> simp_all
    rwa [hadd] at this

def AttrArg (a : TAttr) : Value := .agg #[.string (mk a.name), .string (mk a.value)]
/-- What IndexFunc gives. -/
def idxI (p : TAttr → Bool) (l : List TAttr) : Int := match l.findIdx? p with
  | some i => i
  | none => -1
theorem idxI_any (p : TAttr → Bool) (l : List TAttr) : decide (0 ≤ idxI p l) = l.any p := by
  unfold idxI
  cases h : l.findIdx? p with
  | none =>
    have := List.findIdx?_eq_none_iff.1 h
    have h2 : l.any p = false := by rw [List.any_eq_false]; intro x hx; simpa using this x hx
    rw [h2]; rfl
  | some i =>
    obtain ⟨hi, hp, _⟩ := List.findIdx?_eq_some_iff_getElem.1 h
    have h2 : l.any p = true := List.any_eq_true.2 ⟨_, List.getElem_mem hi, hp⟩
    rw [h2]
    simp

set_option maxHeartbeats 1000000 in
set_option maxRecDepth 100000 in
theorem indexFunc_attr (k : FuncId) (caps : Array Value) (he : ∀ args w, (callFunc k args).run Tryd.prog w = .ok (.enter k args) w) (pb : TAttr → Bool) (B : Nat) (v : Value) (l : List TAttr) (hl : l.length ≤ 1000000000) (w : World) (hr : AttrRow B w v l)
    (hcl : ∀ W a, a ∈ l → Below w.heap.size w W → Calls Tryd.prog k (#[AttrArg a] ++ caps) W fun e w' => e = .returned (.bool (pb a)) ∧ Below W.heap.size W w') :
    Calls Tryd.prog 62 #[v, .func (.func k) #[] caps] w fun e w' => e = .returned (.int .i64 (idxI pb l)) ∧ Below w.heap.size w w' := by
  obtain ⟨a0, cap0, hv⟩ := ownsRow_slice hr
  have HR := Lib.hid hr
  have HCL := Lib.hid hcl
  clear hr hcl
  subst hv
  go_enter Tryd.func62, Tryd.ntmps62
  go_wp2_with fail
  go_loopg [5, 8] l.length (fun g _ v8 wx => ∃ (W : World) (i : Nat), W = wx ∧ i + g = l.length ∧ v8 = .int .i64 i ∧ Below w.heap.size w wx ∧ Hid (∀ a, a ∈ l.take i → pb a = false))
  case atStart => exact ⟨_, 0, rfl, by omega, rfl, Below.refl _ _, (by simp : ∀ a, a ∈ l.take 0 → pb a = false)⟩
  case round =>
    obtain ⟨wr, i, rfl, hg, rfl, hb, hh⟩ := hrel
    have HB := Lib.hid hb
    clear hb
    by_cases hi : i < l.length
    · obtain ⟨g, cap, hv, hBg, hglt, hcap, hcm, hcell, _⟩ := ownsRow_cells HR.out (by omega)
      obtain ⟨rfl, rfl⟩ : a0 = some ⟨g, 0, none⟩ ∧ cap0 = cap := by injection hv with h1 h2 h3; exact ⟨h1, h3⟩
      obtain ⟨a, ha⟩ : ∃ a, l[i]? = some a := ⟨l[i], List.getElem?_eq_getElem hi⟩
      obtain ⟨hc0, hc1⟩ := attrCells_get l i a ha
      have k0 : wr.cell? ⟨g, i * 2, none⟩ = some (.string (mk a.name)) := by rw [HB.out.cell (p := ⟨g, i * 2, none⟩) hglt]; exact hcell _ _ hc0
      have k1 : wr.cell? ⟨g, i * 2 + 1, none⟩ = some (.string (mk a.value)) := by rw [HB.out.cell (p := ⟨g, i * 2 + 1, none⟩) hglt]; exact hcell _ _ hc1
      have hCa := HCL.out wr a (List.mem_of_getElem? ha) HB.out
      have HA := Lib.hid ha
      clear hcell hv hc0 hc1 ha
      have HCa := Lib.hid hCa
      clear hCa
      go_wp2_with fail
      refine HCa.out.mono ?_
      rintro e w2 ⟨rfl, hb2⟩
      have HB2 := Lib.hid (HB.out.trans (hb2.mono HB.out.size))
      clear hb2
      cases hp : pb a with
      | true =>
        have hfin : idxI pb l = (i : Int) := by
          unfold idxI
          have : l.findIdx? pb = some i := by
            obtain ⟨hi', hia⟩ := List.getElem?_eq_some_iff.1 HA.out
            refine List.findIdx?_eq_some_iff_getElem.2 ⟨hi', by rw [hia]; exact hp, fun j hj => ?_⟩
            have := hh.out (l[j]'(by omega)) (by rw [List.mem_take_iff_getElem]; exact ⟨j, by omega, rfl⟩)
            simpa using this
          rw [this]
        have HF := Lib.hid hfin
        clear hfin hp
        go_wp2_with fail
        go_ret
        exact ⟨by rw [HF.out]; rfl, HB2.out⟩
      | false =>
        have HH : Hid (∀ x, x ∈ l.take (i + 1) → pb x = false) := by
          have h : ∀ x, x ∈ l.take (i + 1) → pb x = false := by
            intro x hx
            rw [List.take_add_one, HA.out] at hx
            rcases List.mem_append.1 hx with hx | hx
            · exact hh.out x hx
            · simp at hx; subst hx; exact hp
          exact h
        clear hp
        go_wp2_with fail
        go_roundg (l.length - (i + 1))
        case measure => omega
        case rel => exact ⟨_, i + 1, rfl, by omega, by go_num, HB2.out, HH⟩
    · have hfin : idxI pb l = -1 := by
        unfold idxI
        have : l.findIdx? pb = none := List.findIdx?_eq_none_iff.2 (fun x hx => hh.out x (by rw [List.take_of_length_le (by omega)]; exact hx))
        rw [this]
      have HF := Lib.hid hfin
      clear hfin
      go_wp2_with fail
      go_ret
      exact ⟨by rw [HF.out]; rfl, HB.out⟩

set_option maxHeartbeats 1000000 in
theorem containsFunc_attr (k : FuncId) (caps : Array Value) (he : ∀ args w, (callFunc k args).run Tryd.prog w = .ok (.enter k args) w) (pb : TAttr → Bool) (B : Nat) (v : Value) (l : List TAttr) (hl : l.length ≤ 1000000000) (w : World) (hr : AttrRow B w v l)
    (hcl : ∀ W a, a ∈ l → Below w.heap.size w W → Calls Tryd.prog k (#[AttrArg a] ++ caps) W fun e w' => e = .returned (.bool (pb a)) ∧ Below W.heap.size W w') :
    Calls Tryd.prog 47 #[v, .func (.func k) #[] caps] w fun e w' => e = .returned (.bool (l.any pb)) ∧ Below w.heap.size w w' := by
  have HI := Lib.hid (indexFunc_attr k caps he pb B v l hl w hr hcl)
  have HD := Lib.hid (idxI_any pb l)
  clear hr hcl he
  go_enter Tryd.func47, Tryd.ntmps47
  go_wp2_with fail
  refine HI.out.mono ?_
  rintro e w1 ⟨rfl, hb⟩
  have HB := Lib.hid hb
  clear hb
  go_wp2_with fail
  go_ret
  exact ⟨by rw [← HD.out]; rfl, HB.out⟩

end Go.Proofs.YtbgonaacheemcaaDoor
