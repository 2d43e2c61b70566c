/- Walks of the reference's tokens: its two closures, flush and remark. -/
import Derived.Test.YtbgonaacheemcaaDoorRWalkC
import Derived.Test.YtbgonaacheemcaaDoorRWalkD
import Derived.Test.YtbgonaacheemcaaDoorApp
import Derived.Test.YtbgonaacheemcaaDoorTokE
namespace Go.Proofs.YtbgonaacheemcaaDoor
open Go Go.RowKit

/-- A block of one cell. -/
def One (w : World) (n : Nat) (v : Value) (t : TypeId) : Prop := w.heap[n]? = some (.cells #[v] t (0, 0))
section
variable {w w' : World} {n : Nat} {v : Value} {t : TypeId}
theorem One.all (h : One w n v t) : w.cell? ⟨n, 0, none⟩ = some v ∧ w.frozen? ⟨n, 0, none⟩ = false ∧ n < w.heap.size :=
  ⟨by rw [Lib.cell_of_heap h]; rfl, Lib.frozen_of_heap h 0, lt_of_block h⟩
theorem One.stay (h : One w n v t) (e : w'.heap[n]? = w.heap[n]?) : One w' n v t := e.trans h
theorem One.set (h : One w n v t) (u : Value) : One (w.setCell ⟨n, 0, none⟩ u) n u t := by
  unfold One at *; simp [World.setCell, Array.getElem?_modify, h]
theorem One.other (h : One w n v t) {p : Addr} (hp : n ≠ p.block) (u : Value) : One (w.setCell p u) n v t := h.stay (Below.heap_setCell _ _ _ _ hp)
end
abbrev flushV (B : Nat) : Value := .func (.func 13) #[] #[.pointer (some ⟨B + 2, 0, none⟩), .pointer (some ⟨B + 1, 0, none⟩)]
/-- What the blocks of 'tokens' hold. -/
structure TS (B : Nat) (w wx : World) (s : ByteArray) (out : List TTok) (text : Bytes) (tv : Value) : Prop where
  of ::
  b0 : One wx B (.string s) 9
  b1 : One wx (B + 1) tv 22
  b2 : One wx (B + 2) (.string (mk text)) 9
  b3 : One wx (B + 3) (flushV B) 1
  own : TokOwn (B + 4) wx tv out
  bel : Below B w wx
section
variable {B : Nat} {w wx w' : World} {s : ByteArray} {out : List TTok} {text : Bytes} {tv : Value}
theorem TS.older (h : TS B w wx s out text tv) (hb : Below wx.heap.size wx w') : TS B w w' s out text tv := by
  have h3 := h.b3.all.2.2
  exact ⟨h.b0.stay (hb.block _ (by omega)), h.b1.stay (hb.block _ (by omega)), h.b2.stay (hb.block _ (by omega)), h.b3.stay (hb.block _ h3), h.own.older (.of_below hb), h.bel.trans (hb.mono (by omega))⟩
theorem TS.drew (h : TS B w wx s out text tv) : TS B w wx.drew s out text tv := h.older ⟨rfl, rfl, rfl, Nat.le_refl _, fun _ _ => rfl⟩
theorem TS.alloc (h : TS B w wx s out text tv) (o : Obj) : TS B w (wx.alloc o) s out text tv := h.older ((Below.refl _ _).alloc (Nat.le_refl _) o)
theorem TS.setText (h : TS B w wx s out text tv) (x : Bytes) : TS B w (wx.setCell ⟨B + 2, 0, none⟩ (.string (mk x))) s out x tv := by
  refine ⟨h.b0.other (by show B ≠ B + 2; omega) _, h.b1.other (by show B + 1 ≠ B + 2; omega) _, h.b2.set _, h.b3.other (by show B + 3 ≠ B + 2; omega) _, ?_, h.bel.setCell (p := ⟨B + 2, 0, none⟩) (by show B ≤ B + 2; omega) _⟩
  have hb2 := h.b2
  obtain ⟨ps, h1, h2, h3⟩ := h.own
  have hk : ∀ (g : Nat) (c : Array Value) (e : TypeId), e ≠ 9 → wx.heap[g]? = some (.cells c e (0, 0)) → (wx.setCell ⟨B + 2, 0, none⟩ (.string (mk x))).heap[g]? = wx.heap[g]? := fun g c e he hg => Below.heap_setCell _ _ _ _ (by
    rintro rfl
    unfold One at hb2
    rw [hb2] at hg
    injection hg with hg; injection hg with _ hg _
    exact he hg.symm)
  exact ⟨ps, h1, ownsRow_kept h2 fun g c _ hg => (hk g c _ (by decide) hg).trans hg, fun p hp => (h3 p hp).stay fun g cs hg => hk g cs _ (by decide) hg⟩
theorem TokOwn.base (h : TokOwn B w tv out) {k : Nat} (hk : some k = tv.ownBlock) : B ≤ k := by
  obtain ⟨ps, _, h2, _⟩ := h
  rcases h2.2 with ⟨hv0, _⟩ | ⟨g0, cap0, cur0, hv0, hB0, _⟩
  · rw [hv0] at hk; cases hk
  · rw [hv0] at hk
    have e' : k = g0 := by injection hk
    omega
theorem TokOwn.stay (h : TokOwn B w tv out) {n : Nat} {u v : Value} {t : TypeId} (hn : One w n u t) (ht1 : t ≠ 31) (ht2 : t ≠ 45) : TokOwn B (w.setCell ⟨n, 0, none⟩ v) tv out := by
  obtain ⟨ps, h1, h2, h3⟩ := h
  have hk : ∀ (g : Nat) (c : Array Value) (e : TypeId), e ≠ t → w.heap[g]? = some (.cells c e (0, 0)) → (w.setCell ⟨n, 0, none⟩ v).heap[g]? = w.heap[g]? := fun g c e he hg => Below.heap_setCell _ _ _ _ (by
    rintro rfl
    unfold One at hn
    rw [hn] at hg
    injection hg with hg; injection hg with _ hg _
    exact he hg.symm)
  exact ⟨ps, h1, ownsRow_kept h2 fun g c _ hg => (hk g c _ (fun e => ht1 e.symm) hg).trans hg, fun p hp => (h3 p hp).stay fun g cs hg => hk g cs _ (fun e => ht2 e.symm) hg⟩
/-- Tokens were appended, and the row is stored. -/
theorem TS.push (h : TS B w wx s out text tv) {wa : World} (ha : Below wx.heap.size wx wa) (hg : wa.grownBy w' tv.ownBlock) {out2 : List TTok} {v : Value} (hown : TokOwn (B + 4) w' v out2) :
    One w' (B + 1) tv 22 ∧ One w' (B + 2) (.string (mk text)) 9 ∧ One w' B (.string s) 9 ∧ TS B w (w'.setCell ⟨B + 1, 0, none⟩ v) s out2 text v := by
  have h3 := h.b3.all.2.2
  have hz := ha.size
  have hblk : ∀ k, k < B + 4 → w'.heap[k]? = wx.heap[k]? := fun k hk => by
    rw [hg.block k (by omega) (fun e => by have := h.own.base e; omega), ha.block k (by omega)]
  have hb1 : One w' (B + 1) tv 22 := h.b1.stay (hblk _ (by omega))
  refine ⟨hb1, h.b2.stay (hblk _ (by omega)), h.b0.stay (hblk _ (by omega)), ⟨(h.b0.stay (hblk _ (by omega))).other (by show B ≠ B + 1; omega) _, hb1.set _, (h.b2.stay (hblk _ (by omega))).other (by show B + 2 ≠ B + 1; omega) _, (h.b3.stay (hblk _ (by omega))).other (by show B + 3 ≠ B + 1; omega) _, hown.stay hb1 (by decide) (by decide), ?_⟩⟩
  have hg2 : Below B wx w' := ⟨hg.os.trans ha.os, hg.tape.trans ha.tape, hg.output.trans ha.output, Nat.le_trans hz hg.size, fun k hk => hblk k (by omega)⟩
  exact (h.bel.trans hg2).setCell (p := ⟨B + 1, 0, none⟩) (by show B ≤ B + 1; omega) _
end
/-- A box of the call's own is written. -/
theorem TS.box {B : Nat} {w wx : World} {s : ByteArray} {out : List TTok} {text : Bytes} {tv : Value} (h : TS B w wx s out text tv) {p : Addr} (hn : B + 4 ≤ p.block) (hne : some p.block ≠ tv.ownBlock) {c : Array Value} (hc : wx.heap[p.block]? = some (.cells c 31 (0, 0))) (u : Value) : TS B w (wx.setCell p u) s out text tv := by
  refine ⟨h.b0.other (by omega) _, h.b1.other (by omega) _, h.b2.other (by omega) _, h.b3.other (by omega) _, ?_, h.bel.setCell (by omega) _⟩
  obtain ⟨ps, h1, h2, h3⟩ := h.own
  refine ⟨ps, h1, ownsRow_kept h2 fun g c' hv hg => ?_, fun q hq => (h3 q hq).stay fun g cs hg => Below.heap_setCell _ _ _ _ ?_⟩
  · rw [Below.heap_setCell _ _ _ _ (by intro e; exact hne (by rw [hv, e]))]; exact hg
  · intro e
    rw [e, hc] at hg
    injection hg with hg; injection hg with _ hg _
    exact absurd hg (by decide)
theorem TS.own_lt {B : Nat} {w wx : World} {s : ByteArray} {out : List TTok} {text : Bytes} {tv : Value} (h : TS B w wx s out text tv) {k : Nat} (hk : some k = tv.ownBlock) : k < wx.heap.size := by
  obtain ⟨ps, _, h2, _⟩ := h.own
  rcases h2.2 with ⟨hv0, _⟩ | ⟨g0, cap0, cur0, hv0, _, hg, _⟩
  · rw [hv0] at hk; cases hk
  · rw [hv0] at hk
    have e' : k = g0 := by injection hk
    rw [e']; exact lt_of_block hg
theorem Below.drewW {B : Nat} {w w' : World} (h : Below B w w') : Below B w w'.drew := ⟨h.os, h.tape, h.output, h.size, h.block⟩
/-- One token, laid in a block of its own. -/
theorem tokView1 (w : World) (t : TTok) (av : Value) {x1 x2 : ByteArray} (h1 : x1 = mk t.name) (h2 : x2 = mk t.text) (hav : AttrView w av t.attrs) :
    TokView (w.alloc (.cells #[.int .i64 t.kind, .string x1, av, .bool t.self, .string x2] 31)) (.slice (some ⟨w.heap.size, 0, none⟩) 1 1) [t] := by
  subst h1 h2
  have h := heap_alloc_new w (.cells #[.int .i64 t.kind, .string (mk t.name), av, .bool t.self, .string (mk t.text)] 31)
  have hb := (Below.refl w.heap.size w).alloc (Nat.le_refl _) (.cells #[.int .i64 t.kind, .string (mk t.name), av, .bool t.self, .string (mk t.text)] 31)
  have hown : TokOwn w.heap.size (w.alloc (.cells #[.int .i64 t.kind, .string (mk t.name), av, .bool t.self, .string (mk t.text)] 31)) (.slice (some ⟨w.heap.size, 0, none⟩) 1 1) [t] := by
    refine ⟨[(t, av)], rfl, ⟨rfl, .inr ⟨w.heap.size, 1, _, rfl, Nat.le_refl _, h, Nat.le_refl 1, by decide, rfl, rfl⟩⟩, fun p hp => ?_⟩
    cases List.mem_singleton.1 hp
    exact hav.older (.of_below hb)
  exact hown.view
theorem attrNone (w : World) : AttrView w (.slice none 0 0) [] := ⟨⟨_, _, rfl⟩, fun i t hi => by simp at hi⟩
theorem TokView.drew {w : World} {xv : Value} {m : List TTok} (h : TokView w xv m) : TokView w.drew xv m := h.older ⟨Nat.le_refl _, fun _ _ => rfl⟩
/-- append(out, token): the row's new form. -/
theorem run_toks (B : Nat) (w : World) (tv xv : Value) (l m : List TTok) (ty : TypeId) (h1 : TokOwn B w tv l) (h2 : TokView w xv m) (hl : l.length ≤ 1000000) (hm : m.length ≤ 1000000) (hB : B ≤ w.heap.size) :
    ∃ A C w', (Builtin.append_ #[22, 22] ty #[tv, xv]).run Tryd.prog w = .ok (.slice A (l.length + m.length) C) w' ∧ TokOwn B w' (.slice A (l.length + m.length) C) (l ++ m) ∧ w.grownBy w' tv.ownBlock := by
  obtain ⟨v', w', hr, k1, k2⟩ := run_append_toks B w tv xv l m ty h1 h2 hl hm hB
  obtain ⟨A, C, hv⟩ := k1.view.form
  rw [List.length_append] at hv
  subst hv
  exact ⟨A, C, w', hr, k1, k2⟩
theorem wpList_toks {ops : Array Oper} {rest : List Oper} {o : Oper} {a : Act} {Q : Exit → Act → World → Prop} {w : World} (hw : Region.wanted o (yielded ops a.tmps) = true) (s x : Operand)
    (ho : o.op = .call { callee := .builtin .append, args := #[s, x], argTypes := #[22, 22] })
    (B : Nat) (tv xv : Value) (l m : List TTok) (hs : a.eval s = tv) (hx : a.eval x = xv) (h1 : TokOwn B w tv l) (h2 : TokView w xv m) (hl : l.length ≤ 1000000) (hm : m.length ≤ 1000000) (hB : B ≤ w.heap.size)
    (h : ∀ A C w', TokOwn B w' (.slice A (l.length + m.length) C) (l ++ m) → w.grownBy w' tv.ownBlock → wpList Tryd.prog ops Q rest (a.put o.dst (.slice A (l.length + m.length) C)) w') : wpList Tryd.prog ops Q (o :: rest) a w := by
  refine wpList_guarded hw fun K hK => ?_
  obtain ⟨A, C, w', hr, k1, k2⟩ := run_toks B w tv xv l m o.type h1 h2 hl hm hB
  unfold Oper.wp execOp
  simp only [ho, resolve, invoke, builtin, Sem.run_bind, Sem.run_pure, Result.andThen_ok, List.map_toArray, List.map_cons, List.map_nil, hs, hx, hr]
  exact hK _ _ (h A C w' k1 k2)
theorem step_toks {ops : Array Oper} {o : Oper} {a : Act} {K : Act → World → Prop} {Q : Exit → Act → World → Prop} {E : Prop} {w : World} (hgd : o.guard = none) (s x : Operand)
    (ho : o.op = .call { callee := .builtin .append, args := #[s, x], argTypes := #[22, 22] })
    (B : Nat) (tv xv : Value) (l m : List TTok) (hs : a.eval s = tv) (hx : a.eval x = xv) (h1 : TokOwn B w tv l) (h2 : TokView w xv m) (hl : l.length ≤ 1000000) (hm : m.length ≤ 1000000) (hB : B ≤ w.heap.size)
    (h : ∀ A C w', TokOwn B w' (.slice A (l.length + m.length) C) (l ++ m) → w.grownBy w' tv.ownBlock → K (a.put o.dst (.slice A (l.length + m.length) C)) w') : if Region.wanted o (yielded ops a.tmps) = true then Oper.wp Tryd.prog o a w K Q else E := by
  have hw : Region.wanted o (yielded ops a.tmps) = true := by simp [Region.wanted, hgd]
  rw [if_pos hw]
  obtain ⟨A, C, w', hr, k1, k2⟩ := run_toks B w tv xv l m o.type h1 h2 hl hm hB
  unfold Oper.wp execOp
  simp only [ho, resolve, invoke, builtin, Sem.run_bind, Sem.run_pure, Result.andThen_ok, List.map_toArray, List.map_cons, List.map_nil, hs, hx, hr]
  exact h A C w' k1 k2

/-- One token appended: where the row lies then. -/
theorem run_tok1 (B : Nat) (w : World) (tv : Value) (l : List TTok) (t : TTok) (ty : TypeId) (n : Nat) (va : Value) (x1 x2 : ByteArray) (hn : w.heap[n]? = some (.cells #[.int .i64 t.kind, .string x1, va, .bool t.self, .string x2] 31 (0, 0))) (hva : va.oneCell' = true)
    (h1 : TokOwn B w tv l) (h2 : TokView w (.slice (some ⟨n, 0, none⟩) 1 1) [t]) (hl : l.length ≤ 1000000) (hB : B ≤ w.heap.size) :
    ∃ A C w', (Builtin.append_ #[22, 22] ty #[tv, .slice (some ⟨n, 0, none⟩) 1 1]).run Tryd.prog w = .ok (.slice A (l.length + 1) C) w' ∧ TokOwn B w' (.slice A (l.length + 1) C) (l ++ [t]) ∧ w.grownBy w' tv.ownBlock ∧ ∀ k, some k = (Value.slice A (l.length + 1) C).ownBlock → some k = tv.ownBlock ∨ k = w.heap.size := by
  obtain ⟨A, C, w', hr, k1, k2⟩ := run_toks B w tv _ l [t] ty h1 h2 hl (by simp) hB
  obtain ⟨ps, hps, hown, _⟩ := h1
  have hpl : ps.length = l.length := by rw [← hps, List.length_map]
  obtain ⟨i0, hi0, hz0, hz1, hz2⟩ := info_parts infoTok
  obtain ⟨g, cap, w2, hr2, _, _, hlie, _⟩ := run_append_lies (P := Tryd.prog) w 22 ty B 31 i0 _ 5 72 Tryd.underlying22 hi0 hz0 hz1 hz2 rfl (by decide) tv ps.length (tokCells ps) hown ⟨n, 0, none⟩ 1 1 [.int .i64 t.kind, .string x1, va, .bool t.self, .string x2] rfl
    (World.news_of_block (cs := #[.int .i64 t.kind, .string x1, va, .bool t.self, .string x2]) (t := 31) (fr := (0, 0)) hn) (fun u hu => by
      simp only [List.mem_cons, List.not_mem_nil, or_false] at hu
      rcases hu with rfl | rfl | rfl | rfl | rfl <;> first | rfl | exact hva) (by omega) (by unfold maxLen; omega) (by omega) hB w.heap.size rfl
  have he := hr.symm.trans hr2
  injection he with he1 he2
  injection he1 with hA hL hC
  refine ⟨A, C, w', hr, k1, k2, fun k hk => ?_⟩
  rw [hA] at hk
  have e' : k = g := by injection hk
  subst e'
  rcases hlie with hlie | hlie
  · exact .inl hlie.symm
  · exact .inr hlie
theorem step_tok1 {ops : Array Oper} {o : Oper} {a : Act} {K : Act → World → Prop} {Q : Exit → Act → World → Prop} {E : Prop} {w : World} (hgd : o.guard = none) (s x : Operand)
    (ho : o.op = .call { callee := .builtin .append, args := #[s, x], argTypes := #[22, 22] })
    (B : Nat) (tv : Value) (l : List TTok) (t : TTok) (n : Nat) (va : Value) (x1 x2 : ByteArray) (hs : a.eval s = tv) (hx : a.eval x = .slice (some ⟨n, 0, none⟩) 1 1) (hn : w.heap[n]? = some (.cells #[.int .i64 t.kind, .string x1, va, .bool t.self, .string x2] 31 (0, 0))) (hva : va.oneCell' = true)
    (h1 : TokOwn B w tv l) (h2 : TokView w (.slice (some ⟨n, 0, none⟩) 1 1) [t]) (hl : l.length ≤ 1000000) (hB : B ≤ w.heap.size)
    (h : ∀ A C w', TokOwn B w' (.slice A (l.length + 1) C) (l ++ [t]) → w.grownBy w' tv.ownBlock → (∀ k, some k = (Value.slice A (l.length + 1) C).ownBlock → some k = tv.ownBlock ∨ k = w.heap.size) → K (a.put o.dst (.slice A (l.length + 1) C)) w') : if Region.wanted o (yielded ops a.tmps) = true then Oper.wp Tryd.prog o a w K Q else E := by
  have hw : Region.wanted o (yielded ops a.tmps) = true := by simp [Region.wanted, hgd]
  rw [if_pos hw]
  obtain ⟨A, C, w', hr, k1, k2, k3⟩ := run_tok1 B w tv l t o.type n va x1 x2 hn hva h1 h2 hl hB
  unfold Oper.wp execOp
  simp only [ho, resolve, invoke, builtin, Sem.run_bind, Sem.run_pure, Result.andThen_ok, List.map_toArray, List.map_cons, List.map_nil, hs, hx, hr]
  exact h A C w' k1 k2 k3

set_option maxHeartbeats 2000000 in
set_option maxRecDepth 100000 in
theorem flush_any (B : Nat) (w wx : World) (s : ByteArray) (out : List TTok) (text : Bytes) (tv : Value) (h : TS B w wx s out text tv) (hl : out.length ≤ 900000) (ht : text.length ≤ 900000) :
    Calls Tryd.prog 13 #[.pointer (some ⟨B + 2, 0, none⟩), .pointer (some ⟨B + 1, 0, none⟩)] wx fun e w' => e = .returned (.tuple #[]) ∧ ∃ tv', TS B w w' s (out ++ textToks text) [] tv' ∧ ∀ k, k < wx.heap.size → k ≠ B + 1 → k ≠ B + 2 → some k ≠ tv.ownBlock → w'.heap[k]? = wx.heap[k]? ∧ some k ≠ tv'.ownBlock := by
  have HT := Lib.hid h
  obtain ⟨c2, _, _⟩ := h.b2.all
  obtain ⟨c1, _, _⟩ := h.b1.all
  clear h
  by_cases hte : text = []
  · have HTE := Lib.hid hte
    have he : (mk text).toList.isEmpty = true := by rw [hte, toList_mk]; rfl
    clear hte c1
    go_enter Tryd.func13, Tryd.ntmps13
    go_wp2_with fail
    go_end0
    refine ⟨rfl, tv, ?_, fun _ _ _ _ h => ⟨rfl, h⟩⟩
    have := HT.out
    rw [HTE.out] at this ⊢
    rw [textToks_nil, List.append_nil]; exact this
  · have HTE := Lib.hid (textToks_some text hte)
    have he : (mk text).toList.isEmpty = false := by rw [toList_mk]; cases text with
      | nil => exact absurd rfl hte
      | cons a l => rfl
    have hru := fun (W : World) => refUnescape_any (mk text) W (by rw [mk_size]; omega)
    simp only [lst_mk] at hru
    have HRU := Lib.hid hru
    clear hte hru
    go_enter Tryd.func13, Tryd.ntmps13
    go_upto_region 1 with fail
    clear c2 he
    obtain ⟨c2, _, _⟩ := HT.out.drew.b2.all
    obtain ⟨c1, _, _⟩ := HT.out.drew.b1.all
    go_region_law (first
      | (refine step_at 14 (by rfl) ?_; go_simp; go_loud (refine (HRU.out _).mono ?_; rintro e w5 ⟨rfl, hb5⟩; have HT5 := Lib.hid (HT.out.drew.older hb5); have HB5 := Lib.hid hb5; clear hb5; obtain ⟨d1, _, _⟩ := HT5.out.b1.all; have hz5 : ∀ o : Obj, B + 4 ≤ (w5.alloc o).heap.size := (fun o => by have := HT5.out.b3.all.2.2; simp; omega); have HV5 := Lib.hid (tokView1 w5 (chars (unesc text)) (.slice none 0 0) (x1 := ⟨#[]⟩) (x2 := mk (unesc text)) rfl rfl (attrNone _)); have HO5 := Lib.hid (fun o : Obj => (HT5.out.alloc o).own); have HN5 := Lib.hid (heap_alloc_new w5 (.cells #[.int .i64 3, .string ⟨#[]⟩, .slice none 0 0, .bool false, .string (mk (unesc text))] 31)); have hl1 : out.length ≤ 1000000 := (by omega)))
      | (go_loud (refine step_tok1 (by rfl) (.tmp 4) (.tmp 8) (by rfl) (B + 4) tv out (chars (unesc text)) w5.heap.size (.slice none 0 0) ⟨#[]⟩ (mk (unesc text)) (by rfl) (by rfl) HN5.out (by rfl) (HO5.out _) HV5.out hl1 (hz5 _) ?_; intro A C w6 hown hgr hlie; have HLI := Lib.hid hlie; clear hlie; have HP := Lib.hid (HT5.out.push ((Below.refl _ _).alloc (Nat.le_refl _) _) hgr hown); have HG := Lib.hid hgr; clear hown hgr; obtain ⟨q1, qf1, _⟩ := HP.out.1.all)))
    all_goals
      obtain ⟨d2, df2, _⟩ := HP.out.2.1.all
      go_wp2_with fail
      go_end0
      refine ⟨rfl, _, by rw [HTE.out]; exact HP.out.2.2.2.setText [], fun k hk h1 h2 h3 => ?_⟩
      have hz5 : wx.heap.size ≤ w5.heap.size := HB5.out.size
      refine ⟨?_, fun e => ?_⟩
      · rw [Below.heap_setCell _ _ _ _ (by show k ≠ B + 2; exact h2), Below.heap_setCell _ _ _ _ (by show k ≠ B + 1; exact h1), HG.out.block k (by simp; omega) h3, Below.heap_alloc _ _ _ (by omega), HB5.out.block k hk]
        rfl
      · rcases HLI.out k e with e | e
        · exact h3 e
        · simp at e; omega

theorem placeM_le (e : Bytes) : ∀ (l : Bytes) (k : Nat), placeM e l = some k → k + e.length ≤ l.length
  | [], k, h => by cases h
  | c :: r, k, h => by
    rw [placeM] at h
    split at h
    · rename_i hp
      cases h
      have := (List.isPrefixOf_iff_prefix.1 hp).length_le
      omega
    · obtain ⟨j, hj, rfl⟩ := Option.map_eq_some_iff.1 h
      have := placeM_le e r j hj
      simp only [List.length_cons]; omega

set_option maxHeartbeats 4000000 in
set_option maxRecDepth 100000 in
theorem refRemark_any (B : Nat) (w wx : World) (s e : ByteArray) (fr : Nat) (out : List TTok) (text : Bytes) (tv : Value) (h : TS B w wx s out text tv) (hl : out.length ≤ 900000) (ht : text.length ≤ 900000) (hs : s.size ≤ 1000000) (hf : fr ≤ s.size) (he : 0 < e.size) (he2 : e.size ≤ 10) :
    Calls Tryd.prog 15 #[.int .i64 fr, .string e, .pointer (some ⟨B + 3, 0, none⟩), .pointer (some ⟨B, 0, none⟩), .pointer (some ⟨B + 1, 0, none⟩)] wx fun x w' =>
      x = .returned (.int .i64 (s.size - (upToM (lst e) ((lst s).drop fr)).2.length : Nat)) ∧ ∃ tv', TS B w w' s (out ++ textToks text ++ [comment (upToM (lst e) ((lst s).drop fr)).1]) [] tv' := by
  have HF := Lib.hid (flush_any B w wx s out text tv h hl ht)
  obtain ⟨c3, _, _⟩ := h.b3.all
  have HPL := Lib.hid (fun W : World => placeOf_any s e fr W (by omega) he he2 hf)
  have hll : (textToks text).length ≤ 1 := by unfold textToks; split <;> simp
  clear h
  go_enter Tryd.func15, Tryd.ntmps15
  go_wp2_with fail
  refine HF.out.mono ?_
  rintro e1 w1 ⟨rfl, tv1, hts1, _⟩
  have HT1 := Lib.hid hts1
  clear hts1 c3
  obtain ⟨c0, _, _⟩ := HT1.out.b0.all
  go_wp2_with fail
  refine (HPL.out w1).mono ?_
  rintro e2 w2 ⟨rfl, hw⟩
  rw [← hw]
  clear hw w2
  obtain ⟨tA, tC, htv⟩ := HT1.out.own.view.form
  subst htv
  obtain ⟨X, hX⟩ : ∃ X, out ++ textToks text = X := ⟨_, rfl⟩
  have hXl : X.length ≤ 1000000 - 2 := by rw [← hX, List.length_append]; omega
  rw [hX] at HT1
  have HXX := Lib.hid hX
  clear hX
  unfold placeR
  cases hp : placeM (lst e) ((lst s).drop fr) with
  | none =>
    have HU := Lib.hid (show upToM (lst e) ((lst s).drop fr) = ((lst s).drop fr, []) by rw [place_upTo, hp])
    clear hp
    have hx : mk ((lst s).drop fr) = s.extract fr s.size := ext_lst (by rw [lst_mk, lst_rest])
    obtain ⟨c1, _, _⟩ := HT1.out.drew.b1.all
    clear c0
    obtain ⟨c0, _, _⟩ := HT1.out.drew.b0.all
    have hf1 : (fr : Int) ≤ s.size := by omega
    have hz1 : ∀ o : Obj, B + 4 ≤ (w1.alloc o).drew.heap.size := fun o => by have := HT1.out.b3.all.2.2; show B + 4 ≤ (w1.alloc o).heap.size; simp; omega
    have HV1 := Lib.hid (tokView1 w1 (comment ((lst s).drop fr)) (.slice none 0 0) (x1 := ⟨#[]⟩) (x2 := s.extract fr s.size) rfl hx.symm (attrNone _)).drew
    have HO1 := Lib.hid (fun o : Obj => (HT1.out.alloc o).drew.own)
    have hl1 : X.length ≤ 1000000 := by omega
    have hm1 : [comment ((lst s).drop fr)].length ≤ 1000000 := by simp
    have c1o := fun o : Obj => (HT1.out.alloc o).b1.all.1
    have c0o := fun o : Obj => (HT1.out.alloc o).b0.all.1
    clear hx hXl
    go_upto_region 4 with fail
    go_region_law (go_loud (refine step_toks (by rfl) (.tmp 17) (.tmp 22) (by rfl) (B + 4) _ _ X [comment ((lst s).drop fr)] (by rfl) (by rfl) (HO1.out _) HV1.out hl1 hm1 (hz1 _) ?_; intro A C w6 hown hgr; have HP := Lib.hid (HT1.out.push (Below.drewW ((Below.refl _ _).alloc (Nat.le_refl _) _)) hgr hown); clear hown hgr; obtain ⟨q1, qf1, _⟩ := HP.out.1.all))
    all_goals
      obtain ⟨d0, _, _⟩ := HP.out.2.2.1.all
      go_wp2_with fail
      go_ret
      exact ⟨by rw [HU.out]; rfl, _, by rw [HU.out, HXX.out]; exact HP.out.2.2.2⟩
  | some k =>
    have hkl := placeM_le _ _ _ hp
    rw [List.length_drop, lst_length, lst_length] at hkl
    have HU := Lib.hid (show upToM (lst e) ((lst s).drop fr) = (((lst s).drop fr).take k, ((lst s).drop fr).drop (k + (lst e).length)) by rw [place_upTo, hp])
    have hx : mk (((lst s).drop fr).take k) = s.extract fr (fr + k) := ext_lst (by rw [lst_mk, lst_extract]; congr 1; omega)
    obtain ⟨c1, _, _⟩ := HT1.out.drew.b1.all
    clear c0 hp
    obtain ⟨c0, _, _⟩ := HT1.out.drew.b0.all
    have hf1 : (fr : Int) + (k : Int) ≤ s.size := by omega
    have hf2 : (fr : Int) ≤ (fr : Int) + (k : Int) := by omega
    have htn : ((fr : Int) + (k : Int)).toNat = fr + k := by omega
    have hz1 : ∀ o : Obj, B + 4 ≤ (w1.alloc o).drew.heap.size := fun o => by have := HT1.out.b3.all.2.2; show B + 4 ≤ (w1.alloc o).heap.size; simp; omega
    have HV1 := Lib.hid (tokView1 w1 (comment (((lst s).drop fr).take k)) (.slice none 0 0) (x1 := ⟨#[]⟩) (x2 := s.extract fr (fr + k)) rfl hx.symm (attrNone _)).drew
    have HO1 := Lib.hid (fun o : Obj => (HT1.out.alloc o).drew.own)
    have hl1 : X.length ≤ 1000000 := by omega
    have hm1 : [comment (((lst s).drop fr).take k)].length ≤ 1000000 := by simp
    have HL := Lib.hid (show s.size - (((lst s).drop fr).drop (k + (lst e).length)).length = fr + k + e.size by rw [List.length_drop, List.length_drop, lst_length, lst_length]; omega)
    have c1o := fun o : Obj => (HT1.out.alloc o).b1.all.1
    have c0o := fun o : Obj => (HT1.out.alloc o).b0.all.1
    clear hx hXl
    go_upto_region 6 with fail
    go_region_law (go_loud (refine step_toks (by rfl) (.tmp 26) (.tmp 32) (by rfl) (B + 4) _ _ X [comment (((lst s).drop fr).take k)] (by rfl) (by rfl) (HO1.out _) HV1.out hl1 hm1 (hz1 _) ?_; intro A C w6 hown hgr; have HP := Lib.hid (HT1.out.push (Below.drewW ((Below.refl _ _).alloc (Nat.le_refl _) _)) hgr hown); clear hown hgr; obtain ⟨q1, qf1, _⟩ := HP.out.1.all))
    all_goals
      go_wp2_with fail
      go_ret
      exact ⟨by rw [HU.out]; show _ = _; rw [HL.out]; go_num, _, by rw [HU.out, HXX.out]; exact HP.out.2.2.2⟩

end Go.Proofs.YtbgonaacheemcaaDoor
