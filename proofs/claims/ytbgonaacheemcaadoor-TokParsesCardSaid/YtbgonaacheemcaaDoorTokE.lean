/- Walks of the scanner's methods: upTo, remark. -/
import Derived.Test.YtbgonaacheemcaaDoorTag
import Derived.Lib.IndexMore
import Derived.Deep.RegionWith
namespace Go.Proofs.YtbgonaacheemcaaDoor
open Go Go.RowKit

theorem upToM_cons (e : Bytes) (c : UInt8) (r : Bytes) : upToM e (c :: r) = if e.isPrefixOf (c :: r) then ([], (c :: r).drop e.length) else (c :: (upToM e r).1, (upToM e r).2) := rfl
theorem upTo_spec (e : Bytes) (he : e ≠ []) : ∀ l : Bytes, (Lib.index l e = -1 ∧ upToM e l = (l, [])) ∨
    ∃ k : Nat, Lib.index l e = k ∧ k + e.length ≤ l.length ∧ upToM e l = (l.take k, l.drop (k + e.length))
  | [] => by
    left
    refine ⟨?_, rfl⟩
    unfold Lib.index
    cases e with
    | nil => exact absurd rfl he
    | cons x e => rfl
  | c :: l => by
    rw [upToM_cons]
    unfold Lib.index
    cases hp : e.isPrefixOf (c :: l) with
    | true =>
      right
      refine ⟨0, by simp, ?_, by simp⟩
      have := (List.isPrefixOf_iff_prefix.1 hp).length_le
      omega
    | false =>
      rcases upTo_spec e he l with ⟨h1, h2⟩ | ⟨k, h1, h2, h3⟩
      · left; rw [h1, h2]; simp
      · right
        refine ⟨k + 1, ?_, by simp; omega, ?_⟩
        · rw [h1]
          have : ((k : Int) == -1) = false := by rw [beq_eq_false_iff_ne]; omega
          simp [this]
        · rw [h3]
          have e1 : k + 1 + e.length = (k + e.length) + 1 := by omega
          rw [e1]
          simp

set_option maxHeartbeats 1000000 in
set_option maxRecDepth 100000 in
theorem upTo_any (b : Nat) (text e : ByteArray) (at_ : Nat) (tv : Value) (w : World) (hg : Glob w) (hsc : Sc w b text at_ tv) (hat : at_ ≤ text.size) (h3 : text.size ≤ 1000000000) (he : lst e ≠ []) (hez : e.size ≤ 100) :
    Calls Tryd.prog 41 #[.pointer (some ⟨b, 0, none⟩), .string e] w fun en w' =>
      en = .returned (.string (mk (upToM (lst e) ((lst text).drop at_)).1)) ∧ Sc w' b text (text.size - (upToM (lst e) ((lst text).drop at_)).2.length) tv ∧ Only b w w' := by
  obtain ⟨c0, c1, c2, f1, f2, hlt⟩ := hsc.all
  have HS := Lib.hid hsc
  clear hsc c2 f1 f2
  have hati : (0 : Int) ≤ (at_ : Int) := by omega
  have hati2 : (at_ : Int) ≤ (text.size : Int) := by omega
  obtain ⟨m, hm⟩ := hg.maxLen
  have hez1 : (text.extract at_ text.size).size < 4294967281 := by rw [← lst_length, lst_rest, List.length_drop, lst_length]; omega
  have hIx := Tryd.strings_Index (text.extract at_ text.size) e m w.drew hez1 hm
  have e2 : (text.extract at_ text.size).data.toList = (lst text).drop at_ := lst_rest text at_
  have e3 : e.data.toList = lst e := rfl
  rw [e2, e3] at hIx
  clear hm hg e2 e3 hez1
  have hsp := upTo_spec (lst e) he ((lst text).drop at_)
  have hrl : ((lst text).drop at_).length = text.size - at_ := by rw [List.length_drop, lst_length]
  have hel : (lst e).length = e.size := lst_length e
  have HEz := Lib.hid hez
  clear hez he
  rcases hsp with ⟨h1, h2⟩ | ⟨k, h1, hk, h2⟩
  · rw [h1] at hIx
    rw [h2]
    have hx : text.extract at_ (at_ + (text.size - at_)) = mk ((lst text).drop at_) := by rw [ext_take, List.take_of_length_le (by omega)]
    have HX := Lib.hid hx
    have HIx := Lib.hid hIx
    clear hIx h1 h2 hrl hel hx
    go_enter Tryd.func41, Tryd.ntmps41
    go_wp2
    go_still_tail 10, (by kernel_rfl)
    change wpList _ _ _ _ _ w.drew
    go_wp2_with fail
    refine HIx.out.mono ?_
    rintro en w1 ⟨rfl, hb⟩
    rw [hb]; clear hb HIx
    have HSd := Lib.hid (HS.out.drewN 1)
    have HOd := Lib.hid ((Kept.refl (fun k => k = b) w.heap.size w).drewN 1)
    change Hid (Sc w.drew b text at_ tv) at HSd
    change Hid (Only b w w.drew) at HOd
    clear c0 c1
    generalize w.drew = wd at *
    obtain ⟨c0, c1, _, _, _, hld⟩ := HSd.out.all
    have hwr : IntKind.i64.wrap ((text.size : Int) - at_) = (text.size : Int) - at_ := IntWalk.i64_in _ (by omega)
    go_wp2_with fail
    go_still_tail 11, (by kernel_rfl)
    clear hwr
    obtain ⟨wq, hwq⟩ : ∃ wq, wq = wd.drew := ⟨_, rfl⟩
    have HS2 := Lib.hid (show Sc wq b text at_ tv by rw [hwq]; exact HSd.out.drewN 1)
    have HO2 := Lib.hid (show Only b w wq by rw [hwq]; exact HOd.out.drew)
    change wpList _ _ _ _ _ wd.drew
    rw [← hwq]
    clear hwq c0 c1
    go_wp2_with fail
    refine (pass_any b text at_ ((text.size : Int) - at_) tv wq HS2.out (by omega) (by omega) h3).mono ?_
    rintro en w2 ⟨rfl, hs3, ho3⟩
    have e1 : at_ + ((text.size : Int) - at_).toNat = text.size := by omega
    rw [e1] at hs3
    have HS3 := Lib.hid hs3
    have HO3 := Lib.hid (HO2.out.trans ho3)
    clear hs3 ho3
    go_wp2_with fail
    go_ret
    refine ⟨?_, HS3.out, HO3.out⟩
    rw [← HX.out]
    have e4 : at_ + (text.size - at_) = text.size := by omega
    rw [e4]
    rfl
  · rw [h1] at hIx
    rw [h2]
    have hkz : at_ + k + e.size ≤ text.size := by omega
    have hx : text.extract at_ (at_ + k) = mk (((lst text).drop at_).take k) := ext_take text at_ k
    have hy : text.size - (((lst text).drop at_).drop (k + (lst e).length)).length = at_ + k + e.size := by
      rw [List.length_drop, hrl, hel]; omega
    have HX := Lib.hid hx
    have HY := Lib.hid hy
    have HIx := Lib.hid hIx
    have hk0 : (0 : Int) ≤ (k : Int) := by omega
    clear hIx h1 h2 hrl hel hx hy hk
    go_enter Tryd.func41, Tryd.ntmps41
    go_wp2
    go_still_tail 10, (by kernel_rfl)
    change wpList _ _ _ _ _ w.drew
    go_wp2_with fail
    refine HIx.out.mono ?_
    rintro en w1 ⟨rfl, hb⟩
    rw [hb]; clear hb
    go_wp2_with fail
    refine (pass_any b text at_ k tv w.drew (HS.out.drewN 1) (by omega) (by omega) h3).mono ?_
    rintro en w2 ⟨rfl, hs3, ho3⟩
    have HS3 := Lib.hid hs3
    have HO3 := Lib.hid (Only.trans ((Kept.refl (fun k => k = b) _ w).drew) ho3)
    clear hs3 ho3
    go_wp2_with fail
    refine (pass_any b text (at_ + (k : Int).toNat) e.size tv w2 HS3.out (by omega) (by omega) h3).mono ?_
    rintro en w3 ⟨rfl, hs4, ho4⟩
    have HS4 := Lib.hid hs4
    have HO4 := Lib.hid (HO3.out.trans ho4)
    clear hs4 ho4
    go_wp2_with fail
    go_ret
    refine ⟨?_, HS4.out.at_eq (by have := HY.out; omega), HO4.out⟩
    rw [← HX.out]
    rfl

theorem own_ne {B b n : Nat} {w : World} {text : ByteArray} {a : Nat} {tv : Value} {xs : List Value} (h1 : Sc w b text a tv) (hown : w.ownsRow B 31 5 tv n xs) : some b ≠ tv.ownBlock := by
  intro e
  rcases hown.2 with ⟨hv0, _⟩ | ⟨g0, cap0, cur0, hv0, _, hg0, _⟩
  · rw [hv0] at e; cases e
  · rw [hv0] at e
    injection e with e
    unfold Sc at h1
    have e' : b = g0 := e
    rw [e', hg0] at h1
    injection h1 with h1
    injection h1 with _ h2 _
    exact absurd h2 (by decide)

/-- At a step of a region: is it the call of this function? -/
theorem step_at {P : Program} {ops : Array Oper} {o : Oper} {a : Act} {w : World} {K : Act → World → Prop} {Q : Exit → Act → World → Prop} {E : Prop} (f : FuncId)
    (_h : (match o.op with | .call c => (match c.callee with | .value (.func g) => g == f | _ => false) | _ => false) = true)
    (hG : if Region.wanted o (yielded ops a.tmps) = true then Oper.wp P o a w K Q else E) : if Region.wanted o (yielded ops a.tmps) = true then Oper.wp P o a w K Q else E := hG

/-- A step of a region that draws: a token laid out in a block of its own is appended. -/
theorem step_push {ops : Array Oper} {o : Oper} {a : Act} {K : Act → World → Prop} {Q : Exit → Act → World → Prop} {E : Prop} (hgd : o.guard = none) (s x : Operand)
    (ho : o.op = .call { callee := .builtin .append, args := #[s, x], argTypes := #[22, 22] })
    (B : Nat) (v : Value) (n : Nat) (xs : List Value) (w2 w : World) (cs : Array Value) (hw : w = w2.alloc (.cells cs 31 (0, 0))) (hs : a.eval s = v) (hown : w2.ownsRow B 31 5 v n xs)
    (hx : a.eval x = .slice (some ⟨w2.heap.size, 0, none⟩) 1 1) (hl : cs.size = 5) (h1 : ∀ u ∈ cs.toList, u.oneCell' = true) (hn : n ≤ 1000000) (hbase : B ≤ w2.heap.size)
    (h : ∀ g cap w', w'.ownsRow B 31 5 (.slice (some ⟨g, 0, none⟩) (n + 1) cap) (n + 1) (xs ++ cs.toList) → (w2.alloc (.cells cs 31 (0, 0))).drew.grownBy w' v.ownBlock → K (a.put o.dst (.slice (some ⟨g, 0, none⟩) (n + 1) cap)) w') :
    if Region.wanted o (yielded ops a.tmps) = true then Oper.wp Tryd.prog o a w K Q else E := by
  subst hw
  obtain ⟨i0, hi0, hz0, hz1, hz2⟩ := info_parts infoTok
  refine step_append_lies _ hgd _ _ _ ho B 31 i0 _ 5 72 Tryd.underlying22 hi0 hz0 hz1 hz2 rfl (by decide) v n xs hs (hown.alloc _) ⟨w2.heap.size, 0, none⟩ 1 1 cs.toList hx (by simp [hl]) ?_ h1 (by omega) (by unfold maxLen; omega) (by omega) (by simp; omega) (w2.heap.size + 1) (by simp) ?_
  · exact World.news_of_block (cs := cs) (t := 31) (fr := (0, 0)) (heap_alloc_new w2 _)
  · intro g cap w' k1 k2 _ _
    exact h g cap w' k1 ⟨k2.os, k2.tape, k2.output, k2.size, k2.block⟩

/-- A token was pushed, the place moved. -/
def Pushed (B b : Nat) (text : ByteArray) (l : List TTok) (r : Bytes) (w w' : World) : Prop :=
  Below B w w' ∧ ∃ tv, Sc w' b text (text.size - r.length) tv ∧ TokRow B w' tv l

set_option maxHeartbeats 2000000 in
set_option maxRecDepth 100000 in
theorem remark_any (B b : Nat) (text en : ByteArray) (at_ : Nat) (hd_ : Nat) (tv : Value) (l : List TTok) (w : World) (hg : Glob w) (hb10 : 10 ≤ B) (hBb : B ≤ b) (hsc : Sc w b text at_ tv) (hrow : TokRow B w tv l)
    (hll : l.length ≤ 1000000) (hat : at_ + hd_ ≤ text.size) (h3 : text.size ≤ 1000000) (he : lst en ≠ []) (hez : en.size ≤ 100) :
    Calls Tryd.prog 28 #[.pointer (some ⟨b, 0, none⟩), .int .i64 hd_, .string en] w fun e w' => e = .returned (.tuple #[]) ∧
      Pushed B b text (l ++ [comment (upToM (lst en) ((lst text).drop (at_ + hd_))).1]) (upToM (lst en) ((lst text).drop (at_ + hd_))).2 w w' := by
  have HS0 := Lib.hid hsc
  have HG := Lib.hid hg
  have HR := Lib.hid hrow
  have HEn := Lib.hid he
  have hbw := lt_of_block hsc
  clear hsc hg hrow he
  have hUp := fun W h1 h2 => upTo_any b text en (at_ + hd_) tv W h1 h2 hat (by omega) HEn.out hez
  generalize upToM (lst en) ((lst text).drop (at_ + hd_)) = U at *
  have HUp := Lib.hid hUp
  clear hUp
  go_enter Tryd.func28, Tryd.ntmps28
  go_wp2_with fail
  refine (pass_any b text at_ hd_ tv w HS0.out (by omega) (by omega) (by omega)).mono ?_
  rintro e w1 ⟨rfl, hs1, ho1⟩
  have e1 : at_ + (hd_ : Int).toNat = at_ + hd_ := by omega
  rw [e1] at hs1
  have HS1 := Lib.hid hs1
  have HO1 := Lib.hid ho1
  clear hs1 ho1 e1
  obtain ⟨d0, d1, d2, _, df2, hbz⟩ := HS1.out.all
  clear d0 d1
  obtain ⟨ps, hps, hown0, hat0⟩ := HR.out
  have hpl : ps.length = l.length := by rw [← hps, List.length_map]
  obtain ⟨av, capv, htv⟩ := ownsRow_slice hown0
  have HTV := Lib.hid htv
  have HPS := Lib.hid hps
  have HPL := Lib.hid hpl
  have HAT := Lib.hid hat0
  have HOWN0 := Lib.hid hown0
  obtain ⟨i0, hi0, hz0, hz1, hz2⟩ := info_parts infoTok
  have hpz : ps.length ≤ 1000000 := by omega
  have hBw : B ≤ w.heap.size := by omega
  have hzw := HO1.out.size
  clear hps hpl hat0 hown0 htv
  have hG1 : Glob w1.drew := HG.out.kept (HO1.out.drew) HG.out.size (by intro k hk e; omega)
  have HG1 := Lib.hid hG1
  clear hG1
  have hone : ∀ u ∈ (#[.int .i64 4, .string ⟨#[]⟩, .slice none 0 0, .bool false, .string (mk U.1)] : Array Value).toList, u.oneCell' = true := by
    intro u hu
    simp only [List.mem_cons, List.not_mem_nil, or_false] at hu
    rcases hu with rfl | rfl | rfl | rfl | rfl <;> rfl
  have HONE := Lib.hid hone
  clear hone
  go_wp2_with fail
  go_region_law (first
    | (refine step_at 41 (by rfl) ?_; go_simp; go_loud (refine (HUp.out w1.drew HG1.out (HS1.out.drewN 1)).mono ?_; rintro e w2 ⟨rfl, hs2, ho2⟩; have HS2 := Lib.hid hs2; have HO2 := Lib.hid (Only.trans (HO1.out.drew) ho2); obtain ⟨_, _, c2, _, cf2, hb2⟩ := hs2.all; have hBz2 : B ≤ w2.heap.size := Nat.le_trans hBw HO2.out.size; have HOWN2 := Lib.hid (ownsRow_kept HOWN0.out fun g c _ hg => RowsKept.of_only HS0.out HO2.out g c _ (.inl rfl) hg); have HBT := Lib.hid (show some b ≠ tv.ownBlock from own_ne HS2.out HOWN2.out); clear hs2 ho2))
    | (refine step_push (by rfl) _ _ (by rfl) B tv ps.length (tokCells ps) w2 _ #[.int .i64 4, .string ⟨#[]⟩, .slice none 0 0, .bool false, .string (mk U.1)] (by rfl) (by rfl) HOWN2.out (by rfl) (by rfl) HONE.out hpz hBz2 ?_; intro g cap w11 hown1 hgrow; have HOWN := Lib.hid hown1; have HGR := Lib.hid hgrow; have hs11 := sc_grown HS2.out hgrow HBT.out; obtain ⟨_, _, q2, _, q3, _⟩ := hs11.all; clear hs11 hown1 hgrow))
  all_goals
    go_end0
    refine ⟨rfl, ?_⟩
    obtain ⟨p1, p2, p3⟩ := push_tok (t := comment U.1) (va := .slice none 0 0) HS2.out hBb HPS.out (fun p hp => ownsRow_kept (HAT.out p hp) fun g c _ hg => RowsKept.of_only HS0.out HO2.out g c _ (.inr rfl) hg) (AttrRow.nil _ _) HOWN2.out HBT.out HGR.out HOWN.out
    exact ⟨Below.trans (Kept.below HO2.out (fun k hk e => by omega) (by omega)) p3, _, p1, p2⟩

theorem letB_isLet (c : UInt8) : letB (c.toNat : Int) = isLet c := by
  unfold letB isLet
  rw [Bool.eq_iff_iff]
  simp only [Bool.or_eq_true, Bool.and_eq_true, decide_eq_true_eq, UInt8.le_iff_toNat_le]
  have h1 : (97 : UInt8).toNat = 97 := rfl
  have h2 : (122 : UInt8).toNat = 122 := rfl
  have h3 : (65 : UInt8).toNat = 65 := rfl
  have h4 : (90 : UInt8).toNat = 90 := rfl
  omega

theorem opensM_cons (c0 c : UInt8) (r : Bytes) : opensM (c0 :: c :: r) = (c0 == 60 && (isLet c || c == 33 || c == 63 || (c == 47 && !r.isEmpty))) := by
  by_cases h : c0 = 60
  · subst h; rfl
  · have h1 : (c0 == 60) = false := by rw [beq_eq_false_iff_ne]; exact h
    rw [h1, Bool.false_and]
    unfold opensM
    split
    · rename_i e; injection e with e _; exact absurd e h
    · rfl
theorem opensM_one (c0 : UInt8) : opensM [c0] = false := by
  unfold opensM
  split
  · rename_i e; injection e with _ e; injection e
  · rfl

set_option maxHeartbeats 1000000 in
set_option maxRecDepth 100000 in
theorem opens_any (b : Nat) (text : ByteArray) (at_ k : Nat) (tv : Value) (w : World) (hsc : Sc w b text at_ tv) (hk : k < text.size) (h3 : text.size ≤ 1000000) :
    Calls Tryd.prog 10 #[.pointer (some ⟨b, 0, none⟩), .int .i64 k] w fun e w' => e = .returned (.bool (opensM ((lst text).drop k))) ∧ ∃ n, w' = w.drewN n := by
  obtain ⟨c0, c1, c2, f1, f2, hlt⟩ := hsc.all
  clear hsc c1 c2 f1 f2
  have hk0 : (0 : Int) ≤ (k : Int) := by omega
  have hki : (k : Int) < text.size := by omega
  have hwr : IntKind.i64.wrap ((k : Int) + 1) = (k : Int) + 1 := IntWalk.i64_in _ (by omega)
  obtain ⟨x0, hx0⟩ : ∃ x0, text[k]'hk = x0 := ⟨_, rfl⟩
  by_cases hl : k + 1 < text.size
  · obtain ⟨x1, hx1⟩ : ∃ x1, text[k + 1]'hl = x1 := ⟨_, rfl⟩
    have hd2 : (lst text).drop k = x0 :: x1 :: (lst text).drop (k + 2) := by
      have y0 : (lst text)[k]'(by rw [lst_length]; exact hk) = x0 := hx0
      have y1 : (lst text)[k + 1]'(by rw [lst_length]; exact hl) = x1 := hx1
      rw [List.drop_eq_getElem_cons (by rw [lst_length]; exact hk), List.drop_eq_getElem_cons (by rw [lst_length]; exact hl), y0, y1]
    rw [hd2, opensM_cons]
    clear hd2
    have hend : ((k : Int) + 1 == (text.size : Int)) = false := by rw [beq_eq_false_iff_ne]; omega
    by_cases hc : x0 = 60
    · subst hc
      rw [show ((60 : UInt8) == 60) = true from rfl, Bool.true_and]
      have hL := fun W => letter_any (x1.toNat : Int) W (by omega) (by have := x1.toNat_lt; omega)
      rw [letB_isLet] at hL
      have HL := Lib.hid hL
      clear hL
      have hem : (!((lst text).drop (k + 2)).isEmpty) = decide ((k : Int) + 2 < (text.size : Int)) := by
        rw [Bool.eq_iff_iff]
        simp only [Bool.not_eq_true', List.isEmpty_eq_false_iff, decide_eq_true_eq, ne_eq, List.drop_eq_nil_iff, lst_length]
        omega
      rw [hem, byteEq x1 33, byteEq x1 63, byteEq x1 47]
      rw [show ((33 : UInt8).toNat : Int) = 33 from rfl, show ((63 : UInt8).toNat : Int) = 63 from rfl, show ((47 : UInt8).toNat : Int) = 47 from rfl]
      clear hem
      have hwr2 : IntKind.i64.wrap ((k : Int) + 2) = (k : Int) + 2 := IntWalk.i64_in _ (by omega)
      generalize isLet x1 = i0 at *
      have hall : ∀ d : Bool, decide ((k : Int) + 2 < (text.size : Int)) = d → ∀ i1 i2 i3 : Bool, ((x1.toNat : Int) == 33) = i1 → ((x1.toNat : Int) == 63) = i2 → ((x1.toNat : Int) == 47) = i3 →
          Calls Tryd.prog 10 #[.pointer (some ⟨b, 0, none⟩), .int .i64 k] w fun e w' => e = .returned (.bool (i0 || i1 || i2 || (i3 && d))) ∧ ∃ n, w' = w.drewN n := by
        intro d hd0 i1 i2 i3 h1 h2 h3'
        cases i0 with
        | true =>
          clear hd0 h1 h2 h3'
          go_enter Tryd.func10, Tryd.ntmps10
          go_wp2_with fail
          refine (HL.out w).mono ?_
          rintro e w1 ⟨rfl, hw⟩
          rw [← hw]
          clear hw
          go_wp2_with fail
          go_ret
          exact ⟨by simp, 0, rfl⟩
        | false =>
          cases i1 <;> cases i2 <;> cases i3 <;> cases d
          all_goals
            go_enter Tryd.func10, Tryd.ntmps10
            go_wp2_with fail
            refine (HL.out w).mono ?_
            rintro e w1 ⟨rfl, hw⟩
            rw [← hw]
            clear hw
            go_wp2_with fail
            go_ret
            exact ⟨by simp, 0, rfl⟩
      exact hall _ rfl _ _ _ rfl rfl rfl
    · have hcI : ((x0.toNat : Int) != 60) = true := by
        rw [bne_iff_ne]; intro h; exact hc (by rw [← UInt8.toNat_inj]; have : (60 : UInt8).toNat = 60 := rfl; omega)
      rw [show (x0 == 60) = false from by rw [beq_eq_false_iff_ne]; exact hc, Bool.false_and]
      go_enter Tryd.func10, Tryd.ntmps10
      go_wp2_with fail
      all_goals (go_ret; exact ⟨rfl, 0, rfl⟩)
  · have hd2 : (lst text).drop k = [x0] := by
      have y0 : (lst text)[k]'(by rw [lst_length]; exact hk) = x0 := hx0
      rw [List.drop_eq_getElem_cons (by rw [lst_length]; exact hk), y0, List.drop_eq_nil_of_le (by rw [lst_length]; omega)]
    rw [hd2, opensM_one]
    clear hd2
    have hend : ((k : Int) + 1 == (text.size : Int)) = true := by rw [beq_iff_eq]; omega
    go_enter Tryd.func10, Tryd.ntmps10
    go_wp2_with fail
    all_goals (go_ret; exact ⟨rfl, 0, rfl⟩)

end Go.Proofs.YtbgonaacheemcaaDoor
