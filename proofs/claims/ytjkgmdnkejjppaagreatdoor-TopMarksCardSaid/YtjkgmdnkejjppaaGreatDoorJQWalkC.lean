/- Walks over views of strings and of runs with a function value: slices.IndexFunc, slices.ContainsFunc. -/
import Derived.Test.YtjkgmdnkejjppaaGreatDoorJQWalkA
namespace Go.Proofs.YtjkgmdnkejjppaaGreatDoor
open Go Go.RowKit

/-- What IndexFunc gives. -/
def idxG {α : Type} (p : α → Bool) (l : List α) : Int := match l.findIdx? p with
  | some i => i
  | none => -1
theorem idxG_any {α : Type} (p : α → Bool) (l : List α) : decide (0 ≤ idxG p l) = l.any p := by
  unfold idxG
  cases h : l.findIdx? p with
  | none =>
    have := List.findIdx?_eq_none_iff.1 h
    have h2 : l.any p = false := by rw [List.any_eq_false]; intro x hx; simpa using this x hx
    rw [h2]; rfl
  | some i =>
    obtain ⟨hi, hp, _⟩ := List.findIdx?_eq_some_iff_getElem.1 h
    have h2 : l.any p = true := List.any_eq_true.2 ⟨_, List.getElem_mem hi, hp⟩
    rw [h2]
    simp
theorem idxG_at {α : Type} {p : α → Bool} {l : List α} {i : Nat} {a : α} (h : l[i]? = some a) (hp : p a = true) (hn : ∀ x ∈ l.take i, p x = false) : idxG p l = i := by
  unfold idxG
  have : l.findIdx? p = some i := by
    obtain ⟨hi', hia⟩ := List.getElem?_eq_some_iff.1 h
    refine List.findIdx?_eq_some_iff_getElem.2 ⟨hi', by rw [hia]; exact hp, fun j hj => ?_⟩
    have := hn (l[j]'(by omega)) (by rw [List.mem_take_iff_getElem]; exact ⟨j, by omega, rfl⟩)
    simpa using this
  rw [this]
theorem idxG_none {α : Type} {p : α → Bool} {l : List α} (hn : ∀ x ∈ l, p x = false) : idxG p l = -1 := by
  unfold idxG
  have : l.findIdx? p = none := List.findIdx?_eq_none_iff.2 hn
  rw [this]
theorem take_no {α : Type} {p : α → Bool} {l : List α} {i : Nat} {a : α} (h : l[i]? = some a) (hp : p a = false) (hn : ∀ x ∈ l.take i, p x = false) : ∀ x ∈ l.take (i + 1), p x = false := by
  intro x hx
  rw [List.take_add_one, h] at hx
  rcases List.mem_append.1 hx with hx | hx
  · exact hn x hx
  · simp at hx; subst hx; exact hp
/-- .. where the first ones that do not hold are taken. -/
theorem idxG_while {α : Type} (p : α → Bool) : ∀ l : List α, idxG p l = if l.any p then ((l.takeWhile fun x => !p x).length : Int) else -1
  | [] => rfl
  | a :: l => by
    have ih := idxG_while p l
    cases hp : p a with
    | true =>
      rw [idxG_at (i := 0) (a := a) rfl hp (fun x hx => by simp at hx)]
      simp [hp]
    | false =>
      by_cases hl : l.any p = true
      · rw [if_pos hl] at ih
        have h3 : (a :: l).any p = true := by rw [List.any_cons, hl, Bool.or_true]
        rw [if_pos h3, List.takeWhile_cons, hp]
        unfold idxG at ih ⊢
        rw [List.findIdx?_cons, hp]
        cases h2 : l.findIdx? p with
        | none => rw [h2] at ih; simp at ih
        | some i => rw [h2] at ih; simp at ih ⊢; omega
      · rw [if_neg (by rw [List.any_cons, hp, Bool.false_or]; exact hl)]
        refine idxG_none fun x hx => ?_
        rcases List.mem_cons.1 hx with rfl | hx
        · exact hp
        · have := List.any_eq_false.1 (Bool.not_eq_true _ ▸ hl : l.any p = false) x hx
          simpa using this

set_option maxHeartbeats 1000000 in
set_option maxRecDepth 100000 in
theorem indexFuncV_any (k : FuncId) (caps : Array Value) (he : ∀ args w, (callFunc k args).run Tryz.prog w = .ok (.enter k args) w) (pb : Bytes → Bool) (v : Value) (l : List Bytes) (hl : l.length ≤ 1000000) (w : World) (hr : SView w v l)
    (hcl : ∀ W a, a ∈ l → Below w.heap.size w W → Calls Tryz.prog k (#[.string (mk a)] ++ caps) W fun e w' => e = .returned (.bool (pb a)) ∧ Below W.heap.size W w') :
    Calls Tryz.prog 70 #[v, .func (.func k) #[] caps] w fun e w' => e = .returned (.int .i64 (idxG pb l)) ∧ Below w.heap.size w w' := by
  obtain ⟨a0, e0, hv⟩ := hr.1
  have HR := Lib.hid hr
  have HCL := Lib.hid hcl
  clear hr hcl
  subst hv
  go_enter Tryz.func70, Tryz.ntmps70
  go_wp2_with fail
  go_loopg [5, 8] l.length (fun g _ v8 wx => ∃ (W : World) (i : Nat), W = wx ∧ i + g = l.length ∧ v8 = .int .i64 i ∧ Below w.heap.size w wx ∧ Hid (∀ a, a ∈ l.take i → pb a = false))
  case atStart => exact ⟨_, 0, rfl, by omega, rfl, Below.refl _ _, (by simp : ∀ a, a ∈ l.take 0 → pb a = false)⟩
  case round =>
    obtain ⟨wr, i, rfl, hg, rfl, hb, hh⟩ := hrel
    have HB := Lib.hid hb
    clear hb
    by_cases hi : i < l.length
    · obtain ⟨a, ha⟩ : ∃ a, l[i]? = some a := ⟨l[i], List.getElem?_eq_getElem hi⟩
      obtain ⟨g, o, e, hv, ⟨cs, hgb⟩, hc0⟩ := HR.out.2 i a ha
      obtain rfl : a0 = some ⟨g, o, none⟩ := by injection hv
      have hglt := lt_of_block hgb
      have k0 : wr.cell? ⟨g, o + i, none⟩ = some (.string (mk a)) := by rw [HB.out.cell (p := ⟨g, o + i, none⟩) hglt]; exact hc0
      have i0 : (0 : Int) ≤ i := by omega
      have i1 : (i : Int) < l.length := by omega
      have hCa := HCL.out wr a (List.mem_of_getElem? ha) HB.out
      have HA := Lib.hid ha
      clear hv hc0 ha hgb
      have HCa := Lib.hid hCa
      clear hCa
      go_wp2_with fail
      refine HCa.out.mono ?_
      rintro e w2 ⟨rfl, hb2⟩
      have HB2 := Lib.hid (HB.out.trans (hb2.mono HB.out.size))
      clear hb2
      cases hp : pb a with
      | true =>
        have HF := Lib.hid (idxG_at HA.out hp hh.out)
        clear hp
        go_wp2_with fail
        go_ret
        exact ⟨by rw [HF.out]; rfl, HB2.out⟩
      | false =>
        have HH : Hid (∀ x, x ∈ l.take (i + 1) → pb x = false) := Lib.hid (take_no HA.out hp hh.out)
        clear hp
        go_wp2_with fail
        go_roundg (l.length - (i + 1))
        case measure => omega
        case rel => exact ⟨_, i + 1, rfl, by omega, by go_num, HB2.out, HH⟩
    · have HF := Lib.hid (idxG_none (p := pb) (l := l) fun x hx => hh.out x (by rw [List.take_of_length_le (by omega)]; exact hx))
      go_wp2_with fail
      go_ret
      exact ⟨by rw [HF.out]; rfl, HB.out⟩

set_option maxHeartbeats 1000000 in
theorem containsFuncV_any (k : FuncId) (caps : Array Value) (he : ∀ args w, (callFunc k args).run Tryz.prog w = .ok (.enter k args) w) (pb : Bytes → Bool) (v : Value) (l : List Bytes) (hl : l.length ≤ 1000000) (w : World) (hr : SView w v l)
    (hcl : ∀ W a, a ∈ l → Below w.heap.size w W → Calls Tryz.prog k (#[.string (mk a)] ++ caps) W fun e w' => e = .returned (.bool (pb a)) ∧ Below W.heap.size W w') :
    Calls Tryz.prog 44 #[v, .func (.func k) #[] caps] w fun e w' => e = .returned (.bool (l.any pb)) ∧ Below w.heap.size w w' := by
  have HI := Lib.hid (indexFuncV_any k caps he pb v l hl w hr hcl)
  have HD := Lib.hid (idxG_any pb l)
  clear hr hcl he
  go_enter Tryz.func44, Tryz.ntmps44
  go_wp2_with fail
  refine HI.out.mono ?_
  rintro e w1 ⟨rfl, hb⟩
  have HB := Lib.hid hb
  clear hb
  go_wp2_with fail
  go_ret
  exact ⟨by rw [← HD.out]; rfl, HB.out⟩

/-- .. over runs. -/
def RunArg (r : TRun) (mv : Value) : Value := .agg #[.string (mk r.text), mv]
set_option maxHeartbeats 1000000 in
set_option maxRecDepth 100000 in
theorem indexFuncR_any (k : FuncId) (caps : Array Value) (he : ∀ args w, (callFunc k args).run Tryz.prog w = .ok (.enter k args) w) (pb : TRun → Bool) (v : Value) (l : List TRun) (hl : l.length ≤ 1000000) (w : World) (hr : RView w v l)
    (hcl : ∀ W r mv, r ∈ l → SView W mv r.marks → Below w.heap.size w W → Calls Tryz.prog k (#[RunArg r mv] ++ caps) W fun e w' => e = .returned (.bool (pb r)) ∧ Below W.heap.size W w') :
    Calls Tryz.prog 48 #[v, .func (.func k) #[] caps] w fun e w' => e = .returned (.int .i64 (idxG pb l)) ∧ Below w.heap.size w w' := by
  obtain ⟨a0, e0, hv⟩ := hr.1
  have HR := Lib.hid hr
  have HCL := Lib.hid hcl
  clear hr hcl
  subst hv
  go_enter Tryz.func48, Tryz.ntmps48
  go_wp2_with fail
  go_loopg [5, 8] l.length (fun g _ v8 wx => ∃ (W : World) (i : Nat), W = wx ∧ i + g = l.length ∧ v8 = .int .i64 i ∧ Below w.heap.size w wx ∧ Hid (∀ a, a ∈ l.take i → pb a = false))
  case atStart => exact ⟨_, 0, rfl, by omega, rfl, Below.refl _ _, (by simp : ∀ a, a ∈ l.take 0 → pb a = false)⟩
  case round =>
    obtain ⟨wr, i, rfl, hg, rfl, hb, hh⟩ := hrel
    have HB := Lib.hid hb
    clear hb
    by_cases hi : i < l.length
    · obtain ⟨r, ha⟩ : ∃ a, l[i]? = some a := ⟨l[i], List.getElem?_eq_getElem hi⟩
      obtain ⟨g, o, e, mv, hv, ⟨cs, hgb⟩, hc0, hc1, hmv⟩ := HR.out.2 i r ha
      obtain rfl : a0 = some ⟨g, o, none⟩ := by injection hv
      have hglt := lt_of_block hgb
      have k0 : wr.cell? ⟨g, o + i * 2, none⟩ = some (.string (mk r.text)) := by rw [HB.out.cell (p := ⟨g, o + i * 2, none⟩) hglt]; exact hc0
      have k1 : wr.cell? ⟨g, o + i * 2 + 1, none⟩ = some mv := by rw [HB.out.cell (p := ⟨g, o + i * 2 + 1, none⟩) hglt]; exact hc1
      have i0 : (0 : Int) ≤ i := by omega
      have i1 : (i : Int) < l.length := by omega
      have hCa := HCL.out wr r mv (List.mem_of_getElem? ha) (hmv.older (Older.of_below HB.out)) HB.out
      have HA := Lib.hid ha
      clear hv hc0 hc1 ha hgb hmv
      have HCa := Lib.hid hCa
      clear hCa
      go_wp2_with fail
      refine HCa.out.mono ?_
      rintro e w2 ⟨rfl, hb2⟩
      have HB2 := Lib.hid (HB.out.trans (hb2.mono HB.out.size))
      clear hb2
      cases hp : pb r with
      | true =>
        have HF := Lib.hid (idxG_at HA.out hp hh.out)
        clear hp
        go_wp2_with fail
        go_ret
        exact ⟨by rw [HF.out]; rfl, HB2.out⟩
      | false =>
        have HH : Hid (∀ x, x ∈ l.take (i + 1) → pb x = false) := Lib.hid (take_no HA.out hp hh.out)
        clear hp
        go_wp2_with fail
        go_roundg (l.length - (i + 1))
        case measure => omega
        case rel => exact ⟨_, i + 1, rfl, by omega, by go_num, HB2.out, HH⟩
    · have HF := Lib.hid (idxG_none (p := pb) (l := l) fun x hx => hh.out x (by rw [List.take_of_length_le (by omega)]; exact hx))
      go_wp2_with fail
      go_ret
      exact ⟨by rw [HF.out]; rfl, HB.out⟩
end Go.Proofs.YtjkgmdnkejjppaaGreatDoor
