/- Joined texts: TokE TokF. -/
import Derived.Lib.IndexMore
import Derived.Deep.RegionWith
import Derived.Deep.CutBlock
import Derived.Test.YtjkgmdnkejjppaaGreatDoorJTag
/- Walks of the scanner's methods: upTo, remark. -/
namespace Go.Proofs.YtjkgmdnkejjppaaGreatDoor
open Go Go.RowKit

theorem upToM_cons (e : Bytes) (c : UInt8) (r : Bytes) : upToM e (c :: r) = if e.isPrefixOf (c :: r) then ([], (c :: r).drop e.length) else (c :: (upToM e r).1, (upToM e r).2) := rfl
theorem upTo_spec (e : Bytes) (he : e ≠ []) : ∀ l : Bytes, (Lib.index l e = -1 ∧ upToM e l = (l, [])) ∨
    ∃ k : Nat, Lib.index l e = k ∧ k + e.length ≤ l.length ∧ upToM e l = (l.take k, l.drop (k + e.length))
  | [] => by
    left
    refine ⟨?_, rfl⟩
    unfold Lib.index
    cases e with
    | nil => exact absurd rfl he
    | cons x e => rfl
  | c :: l => by
    rw [upToM_cons]
    unfold Lib.index
    cases hp : e.isPrefixOf (c :: l) with
    | true =>
      right
      refine ⟨0, by simp, ?_, by simp⟩
      have := (List.isPrefixOf_iff_prefix.1 hp).length_le
      omega
    | false =>
      rcases upTo_spec e he l with ⟨h1, h2⟩ | ⟨k, h1, h2, h3⟩
      · left; rw [h1, h2]; simp
      · right
        refine ⟨k + 1, ?_, by simp; omega, ?_⟩
        · rw [h1]
          have : ((k : Int) == -1) = false := by rw [beq_eq_false_iff_ne]; omega
          simp [this]
        · rw [h3]
          have e1 : k + 1 + e.length = (k + e.length) + 1 := by omega
          rw [e1]
          simp

set_option maxHeartbeats 1000000 in
set_option maxRecDepth 100000 in
theorem upTo_any (b : Nat) (text e : ByteArray) (at_ : Nat) (tv : Value) (w : World) (hg : Glob w) (hsc : Sc w b text at_ tv) (hat : at_ ≤ text.size) (h3 : text.size ≤ 1000000000) (he : lst e ≠ []) (hez : e.size ≤ 100) :
    Calls Tryz.prog 99 #[.pointer (some ⟨b, 0, none⟩), .string e] w fun en w' =>
      en = .returned (.string (mk (upToM (lst e) ((lst text).drop at_)).1)) ∧ Sc w' b text (text.size - (upToM (lst e) ((lst text).drop at_)).2.length) tv ∧ Only b w w' := by
  obtain ⟨c0, c1, c2, f1, f2, hlt⟩ := hsc.all
  have HS := Lib.hid hsc
  clear hsc c2 f1 f2
  have hati : (0 : Int) ≤ (at_ : Int) := by omega
  have hati2 : (at_ : Int) ≤ (text.size : Int) := by omega
  obtain ⟨m, hm⟩ := hg.maxLen
  have hez1 : (text.extract at_ text.size).size < 4294967281 := by rw [← lst_length, lst_rest, List.length_drop, lst_length]; omega
  have hIx := Tryz.strings_Index (text.extract at_ text.size) e m w.drew hez1 hm
  have e2 : (text.extract at_ text.size).data.toList = (lst text).drop at_ := lst_rest text at_
  have e3 : e.data.toList = lst e := rfl
  rw [e2, e3] at hIx
  clear hm hg e2 e3 hez1
  have hsp := upTo_spec (lst e) he ((lst text).drop at_)
  have hrl : ((lst text).drop at_).length = text.size - at_ := by rw [List.length_drop, lst_length]
  have hel : (lst e).length = e.size := lst_length e
  have HEz := Lib.hid hez
  clear hez he
  rcases hsp with ⟨h1, h2⟩ | ⟨k, h1, hk, h2⟩
  · rw [h1] at hIx
    rw [h2]
    have hx : text.extract at_ (at_ + (text.size - at_)) = mk ((lst text).drop at_) := by rw [ext_take, List.take_of_length_le (by omega)]
    have HX := Lib.hid hx
    have HIx := Lib.hid hIx
    clear hIx h1 h2 hrl hel hx
    go_enter Tryz.func99, Tryz.ntmps99
    go_wp2
    go_still_tail 10, (by kernel_rfl)
    change wpList _ _ _ _ _ w.drew
    go_wp2_with fail
    refine HIx.out.mono ?_
    rintro en w1 ⟨rfl, hb⟩
    rw [hb]; clear hb HIx
    have HSd := Lib.hid (HS.out.drewN 1)
    have HOd := Lib.hid ((Kept.refl (fun k => k = b) w.heap.size w).drewN 1)
    change Hid (Sc w.drew b text at_ tv) at HSd
    change Hid (Only b w w.drew) at HOd
    clear c0 c1
    generalize w.drew = wd at *
    obtain ⟨c0, c1, _, _, _, hld⟩ := HSd.out.all
    have hwr : IntKind.i64.wrap ((text.size : Int) - at_) = (text.size : Int) - at_ := IntWalk.i64_in _ (by omega)
    go_wp2_with fail
    go_still_tail 11, (by kernel_rfl)
    clear hwr
    obtain ⟨wq, hwq⟩ : ∃ wq, wq = wd.drew := ⟨_, rfl⟩
    have HS2 := Lib.hid (show Sc wq b text at_ tv by rw [hwq]; exact HSd.out.drewN 1)
    have HO2 := Lib.hid (show Only b w wq by rw [hwq]; exact HOd.out.drew)
    change wpList _ _ _ _ _ wd.drew
    rw [← hwq]
    clear hwq c0 c1
    go_wp2_with fail
    refine (pass_any b text at_ ((text.size : Int) - at_) tv wq HS2.out (by omega) (by omega) h3).mono ?_
    rintro en w2 ⟨rfl, hs3, ho3⟩
    have e1 : at_ + ((text.size : Int) - at_).toNat = text.size := by omega
    rw [e1] at hs3
    have HS3 := Lib.hid hs3
    have HO3 := Lib.hid (HO2.out.trans ho3)
    clear hs3 ho3
    go_wp2_with fail
    go_ret
    refine ⟨?_, HS3.out, HO3.out⟩
    rw [← HX.out]
    have e4 : at_ + (text.size - at_) = text.size := by omega
    rw [e4]
    rfl
  · rw [h1] at hIx
    rw [h2]
    have hkz : at_ + k + e.size ≤ text.size := by omega
    have hx : text.extract at_ (at_ + k) = mk (((lst text).drop at_).take k) := ext_take text at_ k
    have hy : text.size - (((lst text).drop at_).drop (k + (lst e).length)).length = at_ + k + e.size := by
      rw [List.length_drop, hrl, hel]; omega
    have HX := Lib.hid hx
    have HY := Lib.hid hy
    have HIx := Lib.hid hIx
    have hk0 : (0 : Int) ≤ (k : Int) := by omega
    clear hIx h1 h2 hrl hel hx hy hk
    go_enter Tryz.func99, Tryz.ntmps99
    go_wp2
    go_still_tail 10, (by kernel_rfl)
    change wpList _ _ _ _ _ w.drew
    go_wp2_with fail
    refine HIx.out.mono ?_
    rintro en w1 ⟨rfl, hb⟩
    rw [hb]; clear hb
    go_wp2_with fail
    refine (pass_any b text at_ k tv w.drew (HS.out.drewN 1) (by omega) (by omega) h3).mono ?_
    rintro en w2 ⟨rfl, hs3, ho3⟩
    have HS3 := Lib.hid hs3
    have HO3 := Lib.hid (Only.trans ((Kept.refl (fun k => k = b) _ w).drew) ho3)
    clear hs3 ho3
    go_wp2_with fail
    refine (pass_any b text (at_ + (k : Int).toNat) e.size tv w2 HS3.out (by omega) (by omega) h3).mono ?_
    rintro en w3 ⟨rfl, hs4, ho4⟩
    have HS4 := Lib.hid hs4
    have HO4 := Lib.hid (HO3.out.trans ho4)
    clear hs4 ho4
    go_wp2_with fail
    go_ret
    refine ⟨?_, HS4.out.at_eq (by have := HY.out; omega), HO4.out⟩
    rw [← HX.out]
    rfl

theorem own_ne {B b n : Nat} {w : World} {text : ByteArray} {a : Nat} {tv : Value} {xs : List Value} (h1 : Sc w b text a tv) (hown : w.ownsRow B 70 5 tv n xs) : some b ≠ tv.ownBlock := by
  intro e
  rcases hown.2 with ⟨hv0, _⟩ | ⟨g0, cap0, cur0, hv0, _, hg0, _⟩
  · rw [hv0] at e; cases e
  · rw [hv0] at e
    injection e with e
    unfold Sc at h1
    have e' : b = g0 := e
    rw [e', hg0] at h1
    injection h1 with h1
    injection h1 with _ h2 _
    exact absurd h2 (by decide)

/-- At a step of a region: is it the call of this function? -/
theorem step_at {P : Program} {ops : Array Oper} {o : Oper} {a : Act} {w : World} {K : Act → World → Prop} {Q : Exit → Act → World → Prop} {E : Prop} (f : FuncId)
    (_h : (match o.op with | .call c => (match c.callee with | .value (.func g) => g == f | _ => false) | _ => false) = true)
    (hG : if Region.wanted o (yielded ops a.tmps) = true then Oper.wp P o a w K Q else E) : if Region.wanted o (yielded ops a.tmps) = true then Oper.wp P o a w K Q else E := hG

/-- A step of a region that draws: a token laid out in a block of its own is appended. -/
theorem step_push {ops : Array Oper} {o : Oper} {a : Act} {K : Act → World → Prop} {Q : Exit → Act → World → Prop} {E : Prop} (hgd : o.guard = none) (s x : Operand)
    (ho : o.op = .call { callee := .builtin .append, args := #[s, x], argTypes := #[37, 37] })
    (B : Nat) (v : Value) (n : Nat) (xs : List Value) (w2 w : World) (cs : Array Value) (hw : w = w2.alloc (.cells cs 70 (0, 0))) (hs : a.eval s = v) (hown : w2.ownsRow B 70 5 v n xs)
    (hx : a.eval x = .slice (some ⟨w2.heap.size, 0, none⟩) 1 1) (hl : cs.size = 5) (h1 : ∀ u ∈ cs.toList, u.oneCell' = true) (hn : n ≤ 1000000) (hbase : B ≤ w2.heap.size)
    (h : ∀ g cap w', w'.ownsRow B 70 5 (.slice (some ⟨g, 0, none⟩) (n + 1) cap) (n + 1) (xs ++ cs.toList) → (w2.alloc (.cells cs 70 (0, 0))).drew.grownBy w' v.ownBlock → K (a.put o.dst (.slice (some ⟨g, 0, none⟩) (n + 1) cap)) w') :
    if Region.wanted o (yielded ops a.tmps) = true then Oper.wp Tryz.prog o a w K Q else E := by
  subst hw
  obtain ⟨i0, hi0, hz0, hz1, hz2⟩ := info_parts infoTok
  refine step_append_lies _ hgd _ _ _ ho B 70 i0 _ 5 72 Tryz.underlying37 hi0 hz0 hz1 hz2 rfl (by decide) v n xs hs (hown.alloc _) ⟨w2.heap.size, 0, none⟩ 1 1 cs.toList hx (by simp [hl]) ?_ h1 (by omega) (by unfold maxLen; omega) (by omega) (by simp; omega) (w2.heap.size + 1) (by simp) ?_
  · exact World.news_of_block (cs := cs) (t := 70) (fr := (0, 0)) (heap_alloc_new w2 _)
  · intro g cap w' k1 k2 _ _
    exact h g cap w' k1 ⟨k2.os, k2.tape, k2.output, k2.size, k2.block⟩

/-- A token was pushed, the place moved. -/
def Pushed (B b : Nat) (text : ByteArray) (l : List TTok) (r : Bytes) (w w' : World) : Prop :=
  Below B w w' ∧ ∃ tv, Sc w' b text (text.size - r.length) tv ∧ TokRow B w' tv l

set_option maxHeartbeats 2000000 in
set_option maxRecDepth 100000 in
theorem remark_any (B b : Nat) (text en : ByteArray) (at_ : Nat) (hd_ : Nat) (tv : Value) (l : List TTok) (w : World) (hg : Glob w) (hb10 : 10 ≤ B) (hBb : B ≤ b) (hsc : Sc w b text at_ tv) (hrow : TokRow B w tv l)
    (hll : l.length ≤ 1000000) (hat : at_ + hd_ ≤ text.size) (h3 : text.size ≤ 1000000) (he : lst en ≠ []) (hez : en.size ≤ 100) :
    Calls Tryz.prog 77 #[.pointer (some ⟨b, 0, none⟩), .int .i64 hd_, .string en] w fun e w' => e = .returned (.tuple #[]) ∧
      Pushed B b text (l ++ [comment (upToM (lst en) ((lst text).drop (at_ + hd_))).1]) (upToM (lst en) ((lst text).drop (at_ + hd_))).2 w w' := by
  have HS0 := Lib.hid hsc
  have HG := Lib.hid hg
  have HR := Lib.hid hrow
  have HEn := Lib.hid he
  have hbw := lt_of_block hsc
  clear hsc hg hrow he
  have hUp := fun W h1 h2 => upTo_any b text en (at_ + hd_) tv W h1 h2 hat (by omega) HEn.out hez
  generalize upToM (lst en) ((lst text).drop (at_ + hd_)) = U at *
  have HUp := Lib.hid hUp
  clear hUp
  go_enter Tryz.func77, Tryz.ntmps77
  go_wp2_with fail
  refine (pass_any b text at_ hd_ tv w HS0.out (by omega) (by omega) (by omega)).mono ?_
  rintro e w1 ⟨rfl, hs1, ho1⟩
  have e1 : at_ + (hd_ : Int).toNat = at_ + hd_ := by omega
  rw [e1] at hs1
  have HS1 := Lib.hid hs1
  have HO1 := Lib.hid ho1
  clear hs1 ho1 e1
  obtain ⟨d0, d1, d2, _, df2, hbz⟩ := HS1.out.all
  clear d0 d1
  obtain ⟨ps, hps, hown0, hat0⟩ := HR.out
  have hpl : ps.length = l.length := by rw [← hps, List.length_map]
  obtain ⟨av, capv, htv⟩ := ownsRow_slice hown0
  have HTV := Lib.hid htv
  have HPS := Lib.hid hps
  have HPL := Lib.hid hpl
  have HAT := Lib.hid hat0
  have HOWN0 := Lib.hid hown0
  obtain ⟨i0, hi0, hz0, hz1, hz2⟩ := info_parts infoTok
  have hpz : ps.length ≤ 1000000 := by omega
  have hBw : B ≤ w.heap.size := by omega
  have hzw := HO1.out.size
  clear hps hpl hat0 hown0 htv
  have hG1 : Glob w1.drew := HG.out.kept (HO1.out.drew) HG.out.size (by intro k hk e; omega)
  have HG1 := Lib.hid hG1
  clear hG1
  have hone : ∀ u ∈ (#[.int .i64 4, .string ⟨#[]⟩, .slice none 0 0, .bool false, .string (mk U.1)] : Array Value).toList, u.oneCell' = true := by
    intro u hu
    simp only [List.mem_cons, List.not_mem_nil, or_false] at hu
    rcases hu with rfl | rfl | rfl | rfl | rfl <;> rfl
  have HONE := Lib.hid hone
  clear hone
  go_wp2_with fail
  go_region_law (first
    | (refine step_at 99 (by rfl) ?_; go_simp; go_loud (refine (HUp.out w1.drew HG1.out (HS1.out.drewN 1)).mono ?_; rintro e w2 ⟨rfl, hs2, ho2⟩; have HS2 := Lib.hid hs2; have HO2 := Lib.hid (Only.trans (HO1.out.drew) ho2); obtain ⟨_, _, c2, _, cf2, hb2⟩ := hs2.all; have hBz2 : B ≤ w2.heap.size := Nat.le_trans hBw HO2.out.size; have HOWN2 := Lib.hid (ownsRow_kept HOWN0.out fun g c _ hg => RowsKept.of_only HS0.out HO2.out g c _ (.inl rfl) hg); have HBT := Lib.hid (show some b ≠ tv.ownBlock from own_ne HS2.out HOWN2.out); clear hs2 ho2))
    | (refine step_push (by rfl) _ _ (by rfl) B tv ps.length (tokCells ps) w2 _ #[.int .i64 4, .string ⟨#[]⟩, .slice none 0 0, .bool false, .string (mk U.1)] (by rfl) (by rfl) HOWN2.out (by rfl) (by rfl) HONE.out hpz hBz2 ?_; intro g cap w11 hown1 hgrow; have HOWN := Lib.hid hown1; have HGR := Lib.hid hgrow; have hs11 := sc_grown HS2.out hgrow HBT.out; obtain ⟨_, _, q2, _, q3, _⟩ := hs11.all; clear hs11 hown1 hgrow))
  all_goals
    go_end0
    refine ⟨rfl, ?_⟩
    obtain ⟨p1, p2, p3⟩ := push_tok (t := comment U.1) (va := .slice none 0 0) HS2.out hBb HPS.out (fun p hp => ownsRow_kept (HAT.out p hp) fun g c _ hg => RowsKept.of_only HS0.out HO2.out g c _ (.inr rfl) hg) (AttrRow.nil _ _) HOWN2.out HBT.out HGR.out HOWN.out
    exact ⟨Below.trans (Kept.below HO2.out (fun k hk e => by omega) (by omega)) p3, _, p1, p2⟩

theorem letB_isLet (c : UInt8) : letB (c.toNat : Int) = isLet c := by
  unfold letB isLet
  rw [Bool.eq_iff_iff]
  simp only [Bool.or_eq_true, Bool.and_eq_true, decide_eq_true_eq, UInt8.le_iff_toNat_le]
  have h1 : (97 : UInt8).toNat = 97 := rfl
  have h2 : (122 : UInt8).toNat = 122 := rfl
  have h3 : (65 : UInt8).toNat = 65 := rfl
  have h4 : (90 : UInt8).toNat = 90 := rfl
  omega

theorem opensM_cons (c0 c : UInt8) (r : Bytes) : opensM (c0 :: c :: r) = (c0 == 60 && (isLet c || c == 33 || c == 63 || (c == 47 && !r.isEmpty))) := by
  by_cases h : c0 = 60
  · subst h; rfl
  · have h1 : (c0 == 60) = false := by rw [beq_eq_false_iff_ne]; exact h
    rw [h1, Bool.false_and]
    unfold opensM
    split
    · rename_i e; injection e with e _; exact absurd e h
    · rfl
theorem opensM_one (c0 : UInt8) : opensM [c0] = false := by
  unfold opensM
  split
  · rename_i e; injection e with _ e; injection e
  · rfl

set_option maxHeartbeats 1000000 in
set_option maxRecDepth 100000 in
theorem opens_any (b : Nat) (text : ByteArray) (at_ k : Nat) (tv : Value) (w : World) (hsc : Sc w b text at_ tv) (hk : k < text.size) (h3 : text.size ≤ 1000000) :
    Calls Tryz.prog 50 #[.pointer (some ⟨b, 0, none⟩), .int .i64 k] w fun e w' => e = .returned (.bool (opensM ((lst text).drop k))) ∧ ∃ n, w' = w.drewN n := by
  obtain ⟨c0, c1, c2, f1, f2, hlt⟩ := hsc.all
  clear hsc c1 c2 f1 f2
  have hk0 : (0 : Int) ≤ (k : Int) := by omega
  have hki : (k : Int) < text.size := by omega
  have hwr : IntKind.i64.wrap ((k : Int) + 1) = (k : Int) + 1 := IntWalk.i64_in _ (by omega)
  obtain ⟨x0, hx0⟩ : ∃ x0, text[k]'hk = x0 := ⟨_, rfl⟩
  by_cases hl : k + 1 < text.size
  · obtain ⟨x1, hx1⟩ : ∃ x1, text[k + 1]'hl = x1 := ⟨_, rfl⟩
    have hd2 : (lst text).drop k = x0 :: x1 :: (lst text).drop (k + 2) := by
      have y0 : (lst text)[k]'(by rw [lst_length]; exact hk) = x0 := hx0
      have y1 : (lst text)[k + 1]'(by rw [lst_length]; exact hl) = x1 := hx1
      rw [List.drop_eq_getElem_cons (by rw [lst_length]; exact hk), List.drop_eq_getElem_cons (by rw [lst_length]; exact hl), y0, y1]
    rw [hd2, opensM_cons]
    clear hd2
    have hend : ((k : Int) + 1 == (text.size : Int)) = false := by rw [beq_eq_false_iff_ne]; omega
    by_cases hc : x0 = 60
    · subst hc
      rw [show ((60 : UInt8) == 60) = true from rfl, Bool.true_and]
      have hL := fun W => letter_any (x1.toNat : Int) W (by omega) (by have := x1.toNat_lt; omega)
      rw [letB_isLet] at hL
      have HL := Lib.hid hL
      clear hL
      have hem : (!((lst text).drop (k + 2)).isEmpty) = decide ((k : Int) + 2 < (text.size : Int)) := by
        rw [Bool.eq_iff_iff]
        simp only [Bool.not_eq_true', List.isEmpty_eq_false_iff, decide_eq_true_eq, ne_eq, List.drop_eq_nil_iff, lst_length]
        omega
      rw [hem, byteEq x1 33, byteEq x1 63, byteEq x1 47]
      rw [show ((33 : UInt8).toNat : Int) = 33 from rfl, show ((63 : UInt8).toNat : Int) = 63 from rfl, show ((47 : UInt8).toNat : Int) = 47 from rfl]
      clear hem
      have hwr2 : IntKind.i64.wrap ((k : Int) + 2) = (k : Int) + 2 := IntWalk.i64_in _ (by omega)
      generalize isLet x1 = i0 at *
      have hall : ∀ d : Bool, decide ((k : Int) + 2 < (text.size : Int)) = d → ∀ i1 i2 i3 : Bool, ((x1.toNat : Int) == 33) = i1 → ((x1.toNat : Int) == 63) = i2 → ((x1.toNat : Int) == 47) = i3 →
          Calls Tryz.prog 50 #[.pointer (some ⟨b, 0, none⟩), .int .i64 k] w fun e w' => e = .returned (.bool (i0 || i1 || i2 || (i3 && d))) ∧ ∃ n, w' = w.drewN n := by
        intro d hd0 i1 i2 i3 h1 h2 h3'
        cases i0 with
        | true =>
          clear hd0 h1 h2 h3'
          go_enter Tryz.func50, Tryz.ntmps50
          go_wp2_with fail
          refine (HL.out w).mono ?_
          rintro e w1 ⟨rfl, hw⟩
          rw [← hw]
          clear hw
          go_wp2_with fail
          go_ret
          exact ⟨by simp, 0, rfl⟩
        | false =>
          cases i1 <;> cases i2 <;> cases i3 <;> cases d
          all_goals
            go_enter Tryz.func50, Tryz.ntmps50
            go_wp2_with fail
            refine (HL.out w).mono ?_
            rintro e w1 ⟨rfl, hw⟩
            rw [← hw]
            clear hw
            go_wp2_with fail
            go_ret
            exact ⟨by simp, 0, rfl⟩
      exact hall _ rfl _ _ _ rfl rfl rfl
    · have hcI : ((x0.toNat : Int) != 60) = true := by
        rw [bne_iff_ne]; intro h; exact hc (by rw [← UInt8.toNat_inj]; have : (60 : UInt8).toNat = 60 := rfl; omega)
      rw [show (x0 == 60) = false from by rw [beq_eq_false_iff_ne]; exact hc, Bool.false_and]
      go_enter Tryz.func50, Tryz.ntmps50
      go_wp2_with fail
      all_goals (go_ret; exact ⟨rfl, 0, rfl⟩)
  · have hd2 : (lst text).drop k = [x0] := by
      have y0 : (lst text)[k]'(by rw [lst_length]; exact hk) = x0 := hx0
      rw [List.drop_eq_getElem_cons (by rw [lst_length]; exact hk), y0, List.drop_eq_nil_of_le (by rw [lst_length]; omega)]
    rw [hd2, opensM_one]
    clear hd2
    have hend : ((k : Int) + 1 == (text.size : Int)) = true := by rw [beq_iff_eq]; omega
    go_enter Tryz.func50, Tryz.ntmps50
    go_wp2_with fail
    all_goals (go_ret; exact ⟨rfl, 0, rfl⟩)

end Go.Proofs.YtjkgmdnkejjppaaGreatDoor
/- Walks of the scanner's methods: raw. -/
namespace Go.Proofs.YtjkgmdnkejjppaaGreatDoor
open Go Go.RowKit

theorem rawM_cons (name : Bytes) (c : UInt8) (r : Bytes) : rawM name (c :: r) = if rawStop name (c :: r) then ([], c :: r) else (c :: (rawM name r).1, (rawM name r).2) := rfl
/-- No end of the element stands ahead of place j. -/
def RawAt (name R : Bytes) (j : Nat) : Prop := rawM name R = (R.take j ++ (rawM name (R.drop j)).1, (rawM name (R.drop j)).2)
theorem RawAt.zero (name R : Bytes) : RawAt name R 0 := by unfold RawAt; simp
theorem RawAt.succ {name R : Bytes} {j : Nat} (h : RawAt name R j) (hj : j < R.length) (hs : rawStop name (R.drop j) = false) : RawAt name R (j + 1) := by
  unfold RawAt at *
  rw [List.drop_eq_getElem_cons hj] at h hs
  rw [rawM_cons, hs] at h
  have e : R.take (j + 1) = R.take j ++ [R[j]] := (List.take_append_getElem hj).symm
  rw [h, e]
  simp only [Bool.false_eq_true, if_false, List.append_assoc, List.cons_append, List.nil_append]
theorem RawAt.stop {name R : Bytes} {j : Nat} (h : RawAt name R j) (hj : j < R.length) (hs : rawStop name (R.drop j) = true) : rawM name R = (R.take j, R.drop j) := by
  unfold RawAt at h
  rw [List.drop_eq_getElem_cons hj] at h hs
  rw [rawM_cons, hs] at h
  rw [h, List.drop_eq_getElem_cons hj]
  simp
theorem RawAt.end {name R : Bytes} (h : RawAt name R R.length) : rawM name R = (R, []) := by
  unfold RawAt at h
  rw [h]
  simp [rawM]

/-- At a plain region's list: a token laid out in a block of its own is appended. -/
theorem wpList_push {ops : Array Oper} {rest : List Oper} {o : Oper} {a : Act} {Q : Exit → Act → World → Prop} (hgd : o.guard = none) (s x : Operand)
    (ho : o.op = .call { callee := .builtin .append, args := #[s, x], argTypes := #[37, 37] })
    (B : Nat) (v : Value) (n : Nat) (xs : List Value) (w2 w : World) (cs : Array Value) (hw : w = w2.alloc (.cells cs 70 (0, 0))) (hs : a.eval s = v) (hown : w2.ownsRow B 70 5 v n xs)
    (hx : a.eval x = .slice (some ⟨w2.heap.size, 0, none⟩) 1 1) (hl : cs.size = 5) (h1 : ∀ u ∈ cs.toList, u.oneCell' = true) (hn : n ≤ 1000000) (hbase : B ≤ w2.heap.size)
    (h : ∀ g cap w', w'.ownsRow B 70 5 (.slice (some ⟨g, 0, none⟩) (n + 1) cap) (n + 1) (xs ++ cs.toList) → (w2.alloc (.cells cs 70 (0, 0))).drew.grownBy w' v.ownBlock → wpList Tryz.prog ops Q rest (a.put o.dst (.slice (some ⟨g, 0, none⟩) (n + 1) cap)) w') :
    wpList Tryz.prog ops Q (o :: rest) a w := by
  subst hw
  obtain ⟨i0, hi0, hz0, hz1, hz2⟩ := info_parts infoTok
  refine wpList_append_lies _ hgd _ _ _ ho B 70 i0 _ 5 72 Tryz.underlying37 hi0 hz0 hz1 hz2 rfl (by decide) v n xs hs (hown.alloc _) ⟨w2.heap.size, 0, none⟩ 1 1 cs.toList hx (by simp [hl]) ?_ h1 (by omega) (by unfold maxLen; omega) (by omega) (by simp; omega) (w2.heap.size + 1) (by simp) ?_
  · exact World.news_of_block (cs := cs) (t := 70) (fr := (0, 0)) (heap_alloc_new w2 _)
  · intro g cap w' k1 k2 _ _
    exact h g cap w' k1 ⟨k2.os, k2.tape, k2.output, k2.size, k2.block⟩

/-- Does the end of a raw element stand at place j of the rest? As the code asks it. -/
theorem rawStop_drop (name R : Bytes) (j : Nat) : rawStop name (R.drop j) =
    ((R.drop j).take 2 == [60, 47] && (decide (j + 2 + name.length < R.length) && (small ((R.drop (j + 2)).take name.length) == name && nameEnd.contains (R.getD (j + 2 + name.length) 0)))) := by
  have e1 : R.drop (j + 2) = (R.drop j).drop 2 := by rw [List.drop_drop]
  have e2 : R.getD (j + 2 + name.length) 0 = ((R.drop j).drop 2).getD name.length 0 := by
    simp [List.getD, List.getElem?_drop, Nat.add_assoc]
  have e3 : decide (j + 2 + name.length < R.length) = decide (name.length < ((R.drop j).drop 2).length) := by
    rw [List.length_drop, List.length_drop]
    rw [Bool.eq_iff_iff]; simp only [decide_eq_true_eq]; omega
  rw [e1, e2, e3]
  generalize R.drop j = X
  unfold rawStop
  split
  · rename_i r
    simp only [List.take_succ_cons, List.take_zero, List.drop_succ_cons, List.drop_zero, beq_self_eq_true, Bool.true_and]
    by_cases h : name.length < r.length
    · rw [decide_eq_true h, Bool.true_and, List.drop_eq_getElem_cons h]
      simp [hd, List.getD, h]
    · rw [decide_eq_false h, List.drop_eq_nil_of_le (by omega)]
      simp [hd]
  · rename_i hne
    have : (X.take 2 == [60, 47]) = false := by
      rw [beq_eq_false_iff_ne]
      intro e
      match X, e, hne with
      | [], e, _ => simp at e
      | [a], e, _ => simp at e
      | a :: c :: r, e, hne =>
        simp at e
        exact hne r (by rw [e.1, e.2])
    rw [this, Bool.false_and]

theorem hasPrefix_end (l : Bytes) : Lib.hasPrefix l [60, 47] = (l.take 2 == [60, 47]) := by
  unfold Lib.hasPrefix
  match l with
  | [] => rfl
  | [a] => simp [List.isPrefixOf]
  | a :: c :: r =>
    rw [Bool.eq_iff_iff]
    constructor
    · intro h
      simp only [List.isPrefixOf, Bool.and_eq_true, beq_iff_eq] at h
      obtain ⟨rfl, rfl, _⟩ := h
      rfl
    · intro h
      rw [beq_iff_eq] at h
      simp only [List.take_succ_cons, List.take_zero] at h
      injection h with h1 h
      injection h with h2
      subst h1 h2
      rfl

set_option maxHeartbeats 2000000 in
set_option maxRecDepth 100000 in
theorem raw_any (B b : Nat) (text name : ByteArray) (at_ : Nat) (tv : Value) (l : List TTok) (w : World) (hg : Glob w) (hb10 : 10 ≤ B) (hBb : B ≤ b) (hsc : Sc w b text at_ tv) (hrow : TokRow B w tv l)
    (hll : l.length ≤ 1000000) (hat : at_ ≤ text.size) (h3 : text.size ≤ 1000000) (hn0 : 0 < name.size) (hnz : name.size ≤ 100) :
    Calls Tryz.prog 80 #[.pointer (some ⟨b, 0, none⟩), .string name] w fun e w' => e = .returned (.tuple #[]) ∧
      Pushed B b text (l ++ rawToks (lst name) (rawM (lst name) ((lst text).drop at_)).1) (rawM (lst name) ((lst text).drop at_)).2 w w' := by
  have HS0 := Lib.hid hsc
  have HG := Lib.hid hg
  have HR := Lib.hid hrow
  have hbw := lt_of_block hsc
  obtain ⟨c0, c1, _, f1, _, _⟩ := hsc.all
  clear hsc hg hrow
  have hrl : ((lst text).drop at_).length = text.size - at_ := by rw [List.length_drop, lst_length]
  have hrs := lst_rest text at_
  generalize hRe : text.extract at_ text.size = Re at *
  have hRz : Re.size = text.size - at_ := by rw [← lst_length, hrs, hrl]
  rw [← hrs]
  have HRe := Lib.hid hRe
  have HRz := Lib.hid hRz
  have hati : (0 : Int) ≤ (at_ : Int) := by omega
  have hati2 : (at_ : Int) ≤ (text.size : Int) := by omega
  have hwz : IntKind.i64.wrap ((Re.size : Nat) : Int) = Re.size := IntWalk.i64_in _ (by omega)
  have HRs := Lib.hid hrs
  clear hrs hrl
  go_enter Tryz.func80, Tryz.ntmps80
  go_wp2_with fail
  go_still_tail 9, (by kernel_rfl)
  have HS1 := Lib.hid (show Sc w.drew b text at_ tv from HS0.out.drewN 1)
  have HO1 := Lib.hid (show Only b w w.drew from (Kept.refl (fun k => k = b) _ w).drewN 1)
  change wpList _ _ _ _ _ w.drew
  obtain ⟨w1, hw1⟩ : ∃ w1, w1 = w.drew := ⟨_, rfl⟩
  rw [← hw1] at HS1 HO1 ⊢
  clear hw1 c0 c1 f1 hwz hRe hati hati2
  have hRz1 : Re.size ≤ 1000000 := by omega
  clear hRz
  go_upto_block 0 with fail
  go_cut [5] (fun n wx => ∃ j : Nat, n = .int .i64 j ∧ j ≤ Re.size ∧ Hid (rawM (lst name) (lst Re) = ((lst Re).take j, (lst Re).drop j)) ∧ Hid (Below w1.heap.size w1 wx))
  case first =>
    go_wp2_with fail
    go_loopg [5, 22] (Re.size + 1) (fun g n i wx => ∃ (W : World) (j : Nat), W = wx ∧ n = .int .i64 Re.size ∧ i = .int .i64 j ∧ j ≤ Re.size ∧ Re.size - j < g ∧ Hid (RawAt (lst name) (lst Re) j) ∧ Hid (Below w1.heap.size w1 wx))
    case atStart => exact ⟨_, 0, rfl, rfl, rfl, by omega, by omega, Lib.hid (RawAt.zero _ _), Lib.hid (Below.refl _ _)⟩
    case round =>
      obtain ⟨wr, j, rfl, rfl, rfl, hj, hg, hra, hbe⟩ := hrel
      by_cases hlt : j < Re.size
      · have hwj2 : IntKind.i64.wrap ((j : Int) + 2) = (j : Int) + 2 := IntWalk.i64_in _ (by omega)
        have hst := rawStop_drop (lst name) (lst Re) j
        obtain ⟨n, rfl⟩ : ∃ n, gk = n + 1 := ⟨gk - 1, by omega⟩
        go_upto_region 6 with fail
        go_cut [56] (fun v wx => v = .bool (rawStop (lst name) ((lst Re).drop j)) ∧ Hid (Below w1.heap.size w1 wx))
        case first =>
          have hpf := fun W => Tryz.strings_HasPrefix (Re.extract j Re.size) ⟨#[60, 47]⟩ W
          rw [show (Re.extract j Re.size).data.toList = (lst Re).drop j from lst_rest Re j, show (⟨#[60, 47]⟩ : ByteArray).data.toList = [60, 47] from rfl, hasPrefix_end] at hpf
          have HPF := Lib.hid hpf
          have hji : (j : Int) ≤ Re.size := by omega
          have HBE := hbe
          clear hpf hbe
          cases hp1 : (((lst Re).drop j).take 2 == [60, 47])
          · rw [hp1] at HPF
            rw [hp1, Bool.false_and] at hst
            have HST := Lib.hid hst
            clear hst hp1
            go_wp2_with fail
            refine (HPF.out wr).mono ?_
            rintro e wz ⟨rfl, hw⟩
            rw [hw]; clear hw
            go_wp2_with fail
            go_meet
            exact ⟨congrArg Value.bool HST.out.symm, HBE⟩
          · rw [hp1] at HPF
            rw [hp1, Bool.true_and] at hst
            clear hp1
            by_cases h2 : (j : Int) + 2 + name.size < Re.size
            · have e2 : decide (j + 2 + (lst name).length < (lst Re).length) = true := decide_eq_true (by rw [lst_length, lst_length]; omega)
              rw [e2, Bool.true_and] at hst
              have HST := Lib.hid hst
              clear e2 hst
              have t1 : ((j : Int) + 2).toNat = j + 2 := by omega
              have t2 : ((j : Int) + 2 + name.size).toNat = j + 2 + name.size := by omega
              have u1 : (0 : Int) ≤ (j : Int) + 2 := by omega
              have u2 : (j : Int) + 2 ≤ (j : Int) + 2 + name.size := by omega
              have u3 : (j : Int) + 2 + name.size ≤ Re.size := by omega
              have u4 : (0 : Int) ≤ (j : Int) + 2 + name.size := by omega
              have hsm := fun W => small_any (Re.extract (j + 2) (j + 2 + name.size)) W (by rw [ByteArray.size_extract]; omega)
              rw [lst_extract, show j + 2 + name.size - (j + 2) = (lst name).length by rw [lst_length]; omega] at hsm
              have HSM := Lib.hid hsm
              clear hsm
              have hq : j + 2 + name.size < Re.size := by omega
              obtain ⟨x, hx⟩ : ∃ x, Re[j + 2 + name.size]'hq = x := ⟨_, rfl⟩
              have hgx : (lst Re).getD (j + 2 + (lst name).length) 0 = x := by
                rw [lst_length name, ← hx]
                simp [List.getD, lst_get Re _ hq]
              rw [hgx] at HST
              obtain ⟨X, hX⟩ : ∃ X, X = Lib.indexByte nameEnd x := ⟨_, rfl⟩
              have hix := fun W => Tryz.strings_IndexByte ⟨#[32, 9, 10, 12, 47, 62]⟩ (x.toNat : Int) W
              rw [show (⟨#[32, 9, 10, 12, 47, 62]⟩ : ByteArray).data.toList = nameEnd from rfl, show (x.toNat : Int).toNat.toUInt8 = x by simp, ← hX] at hix
              have HIX := Lib.hid hix
              have h4 : nameEnd.contains x = decide (0 ≤ X) := by rw [hX, ← Lib.contains_iff_indexByte]
              rw [h4] at HST
              clear hgx hX hix h4
              generalize small (((lst Re).drop (j + 2)).take (lst name).length) = Y at *
              by_cases h3' : (mk Y).toList = name.toList
              · have e3 : (Y == lst name) = true := by
                  rw [beq_iff_eq]
                  rw [toList_mk, Lib.toList_data] at h3'
                  exact h3'
                rw [e3, Bool.true_and] at HST
                clear e3
                by_cases h4 : 0 ≤ X
                all_goals
                  go_wp2_with fail
                  refine (HPF.out wr).mono ?_
                  rintro e wz ⟨rfl, hw⟩
                  rw [hw]; clear hw
                  go_wp2_with fail
                  refine (HSM.out wr).mono ?_
                  rintro e wz ⟨rfl, hw⟩
                  have HBE2 := Lib.hid (Below.trans HBE.out (hw.mono HBE.out.size))
                  clear hw
                  go_wp2_with fail
                  refine (HIX.out wz).mono ?_
                  rintro e wy ⟨rfl, hw⟩
                  rw [hw]; clear hw
                  go_wp2_with fail
                  go_meet
                  exact ⟨congrArg Value.bool (by rw [HST.out] <;> simp [h4]), HBE2⟩
              · have e3 : (Y == lst name) = false := by
                  rw [beq_eq_false_iff_ne]
                  rw [toList_mk, Lib.toList_data] at h3'
                  exact h3'
                rw [e3, Bool.false_and] at HST
                clear e3
                go_wp2_with fail
                refine (HPF.out wr).mono ?_
                rintro e wz ⟨rfl, hw⟩
                rw [hw]; clear hw
                go_wp2_with fail
                refine (HSM.out wr).mono ?_
                rintro e wz ⟨rfl, hw⟩
                have HBE2 := Lib.hid (Below.trans HBE.out (hw.mono HBE.out.size))
                clear hw
                go_wp2_with fail
                go_meet
                exact ⟨congrArg Value.bool HST.out.symm, HBE2⟩
            · have e2 : decide (j + 2 + (lst name).length < (lst Re).length) = false := decide_eq_false (by rw [lst_length, lst_length]; omega)
              rw [e2, Bool.false_and] at hst
              have HST := Lib.hid hst
              clear e2 hst
              go_wp2_with fail
              refine (HPF.out wr).mono ?_
              rintro e wz ⟨rfl, hw⟩
              rw [hw]; clear hw
              go_wp2_with fail
              go_meet
              exact ⟨congrArg Value.bool HST.out.symm, HBE⟩
        case rest =>
          obtain ⟨rfl, hbe2⟩ := hcut
          cases hrs : rawStop (lst name) ((lst Re).drop j) with
          | true =>
            have hrr := Lib.hid (hra.out.stop (by rw [lst_length]; exact hlt) hrs)
            clear hst hra hrs
            go_wp2_with fail
            go_meet
            exact ⟨j, rfl, by omega, hrr, hbe2⟩
          | false =>
            have hra2 := Lib.hid (hra.out.succ (by rw [lst_length]; exact hlt) hrs)
            clear hst hra hrs
            have hwj1 : IntKind.i64.wrap ((j : Int) + 1) = (j : Int) + 1 := IntWalk.i64_in _ (by omega)
            go_wp2_with fail
            go_roundg n
            case measure => omega
            case rel => exact ⟨_, j + 1, rfl, rfl, by go_num, by omega, by omega, hra2, hbe2⟩
      · obtain rfl : j = Re.size := by omega
        have hrr := Lib.hid (show rawM (lst name) (lst Re) = ((lst Re).take Re.size, (lst Re).drop Re.size) by
          have h := hra.out
          rw [← lst_length Re] at h
          rw [h.end, ← lst_length Re, List.take_length, List.drop_length])
        go_wp2_with fail
        go_meet
        exact ⟨_, rfl, Nat.le_refl _, hrr, hbe⟩
  case rest =>
    obtain ⟨j, rfl, hj, hrr, hbe⟩ := hcut
    have HSc := Lib.hid (HS1.out.below hbe.out (lt_of_block HS1.out))
    have HOc := Lib.hid (Only.below HO1.out hbe.out)
    clear hbe
    have hjt : at_ + j ≤ text.size := by have := HRz.out; omega
    have hx : text.extract at_ (at_ + j) = mk ((lst Re).take j) := by rw [HRs.out]; exact ext_take text at_ j
    have HX := Lib.hid hx
    clear hx
    go_wp2_with fail
    refine (pass_any b text at_ j tv wc HSc.out (by omega) (by omega) (by omega)).mono ?_
    rintro e w2 ⟨rfl, hs2, ho2⟩
    rw [show at_ + (j : Int).toNat = at_ + j by omega, HX.out]
    have HS2 := Lib.hid (hs2.at_eq (show at_ + (j : Int).toNat = at_ + j by omega))
    have HO2 := Lib.hid (HOc.out.trans ho2)
    clear hs2 ho2
    have htz : ((lst Re).take j).length ≤ 1000000 := by rw [List.length_take]; omega
    generalize hT : (lst Re).take j = T at *
    have htr : rawToks (lst name) T = if rawText (lst name) T = [] then [] else [chars (rawText (lst name) T)] := rfl
    have HTR := Lib.hid htr
    have hun := fun W h => unescape_any (mk T) (by rw [mk_size]; omega) W h
    rw [lst_mk] at hun
    have HUN := Lib.hid hun
    clear htr hun
    go_upto_region 10 with fail
    go_cut [67] (fun v wx => v = .bool (lst name == sTextarea || lst name == sTitle) ∧ wx = w2)
    case first =>
      have ea : (lst name == sTextarea) = decide (name.toList = [116, 101, 120, 116, 97, 114, 101, 97]) := by
        rw [Lib.toList_data, Bool.eq_iff_iff, beq_iff_eq, decide_eq_true_eq]; rfl
      have eb : (lst name == sTitle) = decide (name.toList = [116, 105, 116, 108, 101]) := by
        rw [Lib.toList_data, Bool.eq_iff_iff, beq_iff_eq, decide_eq_true_eq]; rfl
      have EA := Lib.hid ea
      have EB := Lib.hid eb
      clear ea eb
      by_cases h1 : name.toList = [116, 101, 120, 116, 97, 114, 101, 97]
      · go_wp2_with fail
        go_meet
        exact ⟨congrArg Value.bool (by rw [EA.out]; simp [h1]), rfl⟩
      · by_cases h2 : name.toList = [116, 105, 116, 108, 101]
        all_goals
          go_wp2_with fail
          go_meet
          exact ⟨congrArg Value.bool (by rw [EA.out, EB.out]; simp [h1, h2]), rfl⟩
    case rest =>
      obtain ⟨rfl, hw⟩ := hcut
      rw [hw]; clear hw
      have hrt : rawText (lst name) T = if (lst name == sTextarea || lst name == sTitle) = true then unesc T else T := rfl
      have HRT := Lib.hid hrt
      clear hrt
      generalize (lst name == sTextarea || lst name == sTitle) = isU at *
      go_upto_if 67 with (fail)
      go_cut [8] (fun v wx => v = .string (mk (rawText (lst name) T)) ∧ Hid (Below w2.heap.size w2 wx))
      case first =>
        cases isU with
        | true =>
          go_wp2_with fail
          refine (HUN.out w2 (HG.out.kept HO2.out HG.out.size (by intro k hk e; omega))).mono ?_
          rintro e w3 ⟨rfl, hb3⟩
          have HB3 := Lib.hid hb3
          clear hb3
          go_wp2_with fail
          go_meet
          exact ⟨by rw [HRT.out]; rfl, HB3⟩
        | false =>
          go_wp2_with fail
          go_meet
          exact ⟨by rw [HRT.out]; rfl, Lib.hid (Below.refl _ _)⟩
      case rest =>
        obtain ⟨rfl, hb3⟩ := hcut
        have HS3 := Lib.hid (HS2.out.below hb3.out (lt_of_block HS2.out))
        have HO3 := Lib.hid (Only.below HO2.out hb3.out)
        have hpos : at_ + j = text.size - ((lst Re).drop j).length := by
          have := HRz.out
          rw [List.length_drop, lst_length]; omega
        have HPOS := Lib.hid hpos
        clear hpos HRT HUN hb3 HS2 HO2 htz hT
        generalize rawText (lst name) T = Y at *
        by_cases hy : (mk Y).toList = []
        · have hY : Y = [] := by rw [toList_mk] at hy; exact hy
          rw [if_pos hY] at HTR
          clear hY
          go_wp2_with fail
          go_end0
          rw [hrr.out]
          refine ⟨rfl, Kept.below HO3.out (fun k hk e => by omega) (by omega), tv, HS3.out.at_eq HPOS.out, ?_⟩
          show TokRow B _ tv (l ++ rawToks (lst name) T)
          rw [HTR.out, List.append_nil]
          exact HR.out.kept (RowsKept.of_only HS0.out HO3.out)
        · have hY : Y ≠ [] := by rw [toList_mk] at hy; exact hy
          rw [if_neg hY] at HTR
          clear hY
          obtain ⟨ps, hps, hown0, hat0⟩ := HR.out
          have hpl : ps.length = l.length := by rw [← hps, List.length_map]
          obtain ⟨av, capv, htv⟩ := ownsRow_slice hown0
          have HTV := Lib.hid htv
          have HPS := Lib.hid hps
          have HAT := Lib.hid hat0
          have HOWN2 := Lib.hid (ownsRow_kept hown0 fun g c _ hg => RowsKept.of_only HS0.out HO3.out g c _ (.inl rfl) hg)
          have hpz : ps.length ≤ 1000000 := by omega
          have hBz2 : B ≤ wc.heap.size := by have := HO3.out.size; omega
          have HBT := Lib.hid (show some b ≠ tv.ownBlock from own_ne HS3.out HOWN2.out)
          have hone : ∀ u ∈ (#[.int .i64 3, .string ⟨#[]⟩, .slice none 0 0, .bool false, .string (mk Y)] : Array Value).toList, u.oneCell' = true := by
            intro u hu
            simp only [List.mem_cons, List.not_mem_nil, or_false] at hu
            rcases hu with rfl | rfl | rfl | rfl | rfl <;> rfl
          have HONE := Lib.hid hone
          obtain ⟨d0, d1, d2, df1, df2, hbz⟩ := HS3.out.all
          have hy2 : (!(mk Y).toList.isEmpty) = true := by rw [Bool.not_eq_true', List.isEmpty_eq_false_iff]; exact hy
          clear hps hpl hat0 hown0 htv hone d0 d1 df1
          go_wp2_with (at_builtin; refine wpList_push rfl _ _ rfl B tv ps.length (tokCells ps) wc _ #[.int .i64 3, .string ⟨#[]⟩, .slice none 0 0, .bool false, .string (mk Y)] rfl rfl HOWN2.out rfl rfl HONE.out hpz hBz2 ?_)
          intro g cap w11 hown1 hgrow
          have HOWN := Lib.hid hown1
          have HGR := Lib.hid hgrow
          have hs11 := sc_grown HS3.out hgrow HBT.out
          obtain ⟨_, _, q2, _, q3, _⟩ := hs11.all
          clear hs11 hown1 hgrow
          go_wp2_with fail
          go_end0
          rw [hrr.out]
          refine ⟨rfl, ?_⟩
          obtain ⟨p1, p2, p3⟩ := push_tok (t := chars Y) (va := .slice none 0 0) HS3.out hBb HPS.out (fun p hp => ownsRow_kept (HAT.out p hp) fun g c _ hg => RowsKept.of_only HS0.out HO3.out g c _ (.inr rfl) hg) (AttrRow.nil _ _) HOWN2.out HBT.out HGR.out HOWN.out
          refine ⟨Below.trans (Kept.below HO3.out (fun k hk e => by omega) (by omega)) p3, _, p1.at_eq HPOS.out, ?_⟩
          show TokRow B _ _ (l ++ rawToks (lst name) T)
          rw [HTR.out]
          exact p2

end Go.Proofs.YtjkgmdnkejjppaaGreatDoor
