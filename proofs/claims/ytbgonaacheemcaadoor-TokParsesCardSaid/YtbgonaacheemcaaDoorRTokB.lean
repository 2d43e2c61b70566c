/- Walk of the reference's tokens. -/
import Derived.Test.YtbgonaacheemcaaDoorRTokA
import Derived.Test.YtbgonaacheemcaaDoorOrdV
import Derived.Test.YtbgonaacheemcaaDoorRWalkE
import Derived.Test.YtbgonaacheemcaaDoorRLawE
import Derived.Test.YtbgonaacheemcaaDoorTokG
import Derived.Test.YtbgonaacheemcaaDoorTokH
import Derived.Laws.EntriesVeiled
namespace Go.Proofs.YtbgonaacheemcaaDoor
open Go Go.RowKit

theorem textToks_le (t : Bytes) : (textToks t).length ≤ t.length := by
  unfold textToks; split
  · simp
  · rename_i h
    cases t with
    | nil => exact absurd rfl h
    | cons a l => simp
/-- What tagAt gives, in plain words. -/
def TagHyp (s : ByteArray) : Prop := ∀ (at0 : Nat) (W : World), at0 ≤ s.size → Calls Tryd.prog 18 #[.string s, .int .i64 at0] W fun e w' => Below W.heap.size W w' ∧ match mName [] ((lst s).drop at0) with
    | none => e = .returned (.tuple #[.agg #[.int .i64 0, .string ⟨#[]⟩, .slice none 0 0, .bool false, .string ⟨#[]⟩], .int .i64 0, .bool false])
    | some (y, r2) => ∃ va, e = .returned (.tuple #[.agg #[.int .i64 0, .string (mk y.name), va, .bool y.self, .string ⟨#[]⟩], .int .i64 (s.size - r2.length : Nat), .bool true]) ∧ AttrRow W.heap.size w' va y.attrs

theorem rel_mark {A L : List TTok} {out : List TTok} {text : Bytes} {x : List TTok} {X : List TTok} (hE : out ++ L = A) (hm : L = textToks text ++ (x ++ X)) : out ++ textToks text ++ x ++ X = A := by
  rw [← hE, hm]; simp [List.append_assoc]
theorem suf_pos {s : ByteArray} {k : Nat} {r : Bytes} (h : r <:+ (lst s).drop k) (hk : k ≤ s.size) : k ≤ s.size - r.length ∧ s.size - r.length ≤ s.size ∧ (lst s).drop (s.size - r.length) = r := by
  have hl := h.length_le
  rw [List.length_drop, lst_length] at hl
  refine ⟨by omega, by omega, ?_⟩
  have h2 := suf_drop (h.trans (List.drop_suffix k (lst s)))
  rw [lst_length] at h2; exact h2
theorem isRaw_len (n : Bytes) (h : isRaw n = true) : n.length ≤ 8 := by
  unfold isRaw at h
  rw [Bool.or_eq_true, Bool.or_eq_true, Bool.or_eq_true] at h
  rcases h with ((h | h) | h) | h <;> (rw [beq_iff_eq] at h; subst h; decide)
/-- One token appended, at a plain region's list. -/
theorem wpList_one {ops : Array Oper} {rest : List Oper} {o : Oper} {a : Act} {Q : Exit → Act → World → Prop} {w : World} (hw : Region.wanted o (yielded ops a.tmps) = true) (s x : Operand)
    (ho : o.op = .call { callee := .builtin .append, args := #[s, x], argTypes := #[22, 22] })
    (B : Nat) (tv xv : Value) (l : List TTok) (t : TTok) (hs : a.eval s = tv) (hx : a.eval x = xv) (h1 : TokOwn B w tv l) (h2 : TokView w xv [t]) (hl : l.length ≤ 1000000) (hB : B ≤ w.heap.size)
    (h : ∀ A C w', TokOwn B w' (.slice A (l.length + 1) C) (l ++ [t]) → w.grownBy w' tv.ownBlock → wpList Tryd.prog ops Q rest (a.put o.dst (.slice A (l.length + 1) C)) w') : wpList Tryd.prog ops Q (o :: rest) a w :=
  wpList_toks hw s x ho B tv xv l [t] hs hx h1 h2 hl (by simp) hB fun A C w' => h A C w'

set_option maxHeartbeats 64000000 in
set_option maxRecDepth 100000 in
theorem refToks_of (s : ByteArray) (w : World) (hs : s.size ≤ 100000) (htag : TagHyp s) :
    Calls Tryd.prog 8 #[.string s] w fun e w' => ∃ tv, e = .returned tv ∧ TokOwn w.heap.size w' tv (allM (lst s)) ∧ Below w.heap.size w w' := by
  have HTAG := Lib.hid htag
  clear htag
  go_enter Tryd.func8, Tryd.ntmps8
  go_wp2_with fail
  rw [show w.heap.size + 1 + 1 + 1 = w.heap.size + 3 from rfl, show w.heap.size + 1 + 1 = w.heap.size + 2 from rfl]
  obtain ⟨W0, hW0⟩ : ∃ W0, W0 = (((w.alloc (.cells #[.string s] 9)).alloc (.cells #[.slice none 0 0] 22)).alloc (.cells #[.string ⟨#[]⟩] 9)).alloc (.cells #[flushV w.heap.size] 1) := ⟨_, rfl⟩
  rw [← hW0]
  have HT0 := Lib.hid (show TS w.heap.size w W0 s [] [] (.slice none 0 0) by
    have g0 := heap_alloc_new w (.cells #[.string s] 9)
    have g1 := heap_alloc_new (w.alloc (.cells #[.string s] 9)) (.cells #[.slice none 0 0] 22)
    have g2 := heap_alloc_new ((w.alloc (.cells #[.string s] 9)).alloc (.cells #[.slice none 0 0] 22)) (.cells #[.string ⟨#[]⟩] 9)
    have g3 := heap_alloc_new (((w.alloc (.cells #[.string s] 9)).alloc (.cells #[.slice none 0 0] 22)).alloc (.cells #[.string ⟨#[]⟩] 9)) (.cells #[flushV w.heap.size] 1)
    have n1 : (w.alloc (.cells #[.string s] 9)).heap.size = w.heap.size + 1 := by simp
    have n2 : ((w.alloc (.cells #[.string s] 9)).alloc (.cells #[.slice none 0 0] 22)).heap.size = w.heap.size + 2 := by simp
    have n3 : (((w.alloc (.cells #[.string s] 9)).alloc (.cells #[.slice none 0 0] 22)).alloc (.cells #[.string ⟨#[]⟩] 9)).heap.size = w.heap.size + 3 := by simp
    rw [n1] at g1
    rw [n2] at g2
    rw [n3] at g3
    have hb : ∀ (x : World) (o : Obj), Below x.heap.size x (x.alloc o) := fun x o => (Below.refl _ _).alloc (Nat.le_refl _) o
    have b1 := hb w (.cells #[.string s] 9)
    have b2 := hb (w.alloc (.cells #[.string s] 9)) (.cells #[.slice none 0 0] 22)
    have b3 := hb ((w.alloc (.cells #[.string s] 9)).alloc (.cells #[.slice none 0 0] 22)) (.cells #[.string ⟨#[]⟩] 9)
    have b4 := hb (((w.alloc (.cells #[.string s] 9)).alloc (.cells #[.slice none 0 0] 22)).alloc (.cells #[.string ⟨#[]⟩] 9)) (.cells #[flushV w.heap.size] 1)
    rw [n1] at b2
    rw [n2] at b3
    rw [n3] at b4
    rw [hW0]
    exact ⟨((b4.block _ (by omega)).trans ((b3.block _ (by omega)).trans (b2.block _ (by omega)))).trans g0, ((b4.block _ (by omega)).trans (b3.block _ (by omega))).trans g1, (b4.block _ (by omega)).trans g2, g3, TokOwn.nil _ _, ((b1.trans (b2.mono (by omega))).trans (b3.mono (by omega))).trans (b4.mono (by omega))⟩)
  clear hW0
  go_loopw [7] (fun vat wr => ∃ (W : World) (a : Nat) (out : List TTok) (text : Bytes) (tv : Value), W = wr ∧ vat = .int .i64 a ∧ a ≤ s.size ∧ out.length + text.length ≤ 2 * a ∧ Hid (TS w.heap.size w wr s out text tv) ∧ Hid (out ++ mText text ((lst s).drop a) = allM (lst s))) (fun vat _ => s.size - (intOf vat).toNat)
  case atStart => exact ⟨_, 0, [], [], _, rfl, rfl, by omega, by simp, HT0, Lib.hid (mText_all (lst s))⟩
  case round =>
    obtain ⟨W, a, out, text, tv, rfl, rfl, ha, hol, HT, HEQ⟩ := hrel
    obtain ⟨c0, _, _⟩ := HT.out.b0.all
    by_cases hlt : a < s.size
    · have hdr : (lst s).drop a = s[a]'hlt :: (lst s).drop (a + 1) := List.drop_eq_getElem_cons (by rw [lst_length]; exact hlt)
      rw [hdr] at HEQ
      obtain ⟨c, hcc⟩ : ∃ c, s[a]'hlt = c := ⟨_, rfl⟩
      rw [hcc] at HEQ hdr
      have hx : s.extract a (a + 1) = mk [c] := by rw [ext_take, hdr]; rfl
      have HX := Lib.hid (show mk text ++ s.extract a (a + 1) = mk (text ++ [c]) by rw [hx, mk_append])
      have hcat : ¬ 9223372036854775807 < (mk text).size + (s.extract a (a + 1)).size := by rw [hx, mk_size, mk_size]; simp only [List.length_cons, List.length_nil]; omega
      have HCC := Lib.hid hcc
      obtain ⟨r, hr⟩ : ∃ r, (lst s).drop (a + 1) = r := ⟨_, rfl⟩
      rw [hr] at HEQ
      have HR1 := Lib.hid hr
      clear hdr hx HT0
      by_cases h60 : c = 60
      · have f60 : ((c.toNat : Int) == 60) = true := (u8eq (n := 60) (by decide) h60).1
        have HTAG0 := HTAG
        by_cases h2 : a + 1 < s.size
        · have hdr1 : (lst s).drop (a + 1) = s[a + 1]'h2 :: (lst s).drop (a + 1 + 1) := List.drop_eq_getElem_cons (by rw [lst_length]; exact h2)
          obtain ⟨d, hdd⟩ : ∃ d, s[a + 1]'h2 = d := ⟨_, rfl⟩
          rw [hdd] at hdr1
          obtain ⟨r1, hr1⟩ : ∃ r1, (lst s).drop (a + 2) = r1 := ⟨_, rfl⟩
          have hd1 : (lst s).drop (a + 1) = d :: r1 := by rw [hdr1, ← hr1]
          have hrd : r = d :: r1 := by rw [← HR1.out]; exact hd1
          have hcd : c :: r = 60 :: d :: r1 := by rw [h60, hrd]
          have h2I : (a : Int) + 1 < s.size := by omega
          have HD1 := Lib.hid hd1
          have HRD := Lib.hid hrd
          have HCD := Lib.hid hcd
          have HRR := Lib.hid hr1
          have HDD := Lib.hid hdd
          clear hdr1 hd1 hrd hr1
          by_cases h33 : d = 33
          · as_aux_lemma =>
            have f33d : (((d).toNat : Int) == 33) = true := (u8eq (n := 33) (by decide) h33).1
            by_cases h3 : a + 3 < s.size
            · have h3I : (a : Int) + 3 < s.size := by omega
              have h4I : (a : Int) + 4 ≤ s.size := by omega
              have h24 : (a : Int) + 2 ≤ (a : Int) + 4 := by omega
              have hE : s.extract (a + 2) (a + 4) = mk (r1.take 2) := ext_lst (by rw [lst_mk, lst_extract, HRR.out]; congr 1; omega)
              have htl := toList_mk (r1.take 2)
              by_cases hda : r1.take 2 = [45, 45]
              · have hr3 : r1 = 45 :: 45 :: (lst s).drop (a + 4) := by
                  have h5 : (lst s).drop (a + 4) = r1.drop 2 := by rw [← HRR.out, List.drop_drop]
                  rw [h5]
                  conv => lhs; rw [← List.take_append_drop 2 r1, hda]
                  rfl
                rw [hda] at hE htl
                clear hcd
                obtain ⟨p1, p2, p3⟩ := suf_pos (upToM_suf [45, 45, 62] ((lst s).drop (a + 4))) (by omega)
                have HRM := Lib.hid (refRemark_any w.heap.size w W s ⟨#[45, 45, 62]⟩ (a + 4) out text tv HT.out (by omega) (by omega) (by omega) (by omega) (by decide) (by decide))
                have hm : mText text (c :: r) = textToks text ++ ([comment (upToM [45, 45, 62] ((lst s).drop (a + 4))).1] ++ mText [] (upToM [45, 45, 62] ((lst s).drop (a + 4))).2) := by
                  rw [HCD.out, h33, hr3]
                  exact mText_dash text _
                have HEQ2 := Lib.hid (show out ++ textToks text ++ [comment (upToM [45, 45, 62] ((lst s).drop (a + 4))).1] ++ mText [] ((lst s).drop (s.size - (upToM [45, 45, 62] ((lst s).drop (a + 4))).2.length)) = allM (lst s) by rw [p3]; exact rel_mark HEQ.out hm)
                have hll := textToks_le text
                clear hm p3
                obtain ⟨P, hP⟩ : ∃ P, s.size - (upToM [45, 45, 62] ((lst s).drop (a + 4))).2.length = P := ⟨_, rfl⟩
                have HRM2 := Lib.hid (show Calls Tryd.prog 15 #[.int .i64 ((a : Int) + 4), .string ⟨#[45, 45, 62]⟩, .pointer (some ⟨w.heap.size + 3, 0, none⟩), .pointer (some ⟨w.heap.size, 0, none⟩), .pointer (some ⟨w.heap.size + 1, 0, none⟩)] W fun x w' =>
                      x = .returned (.int .i64 P) ∧ ∃ tv', TS w.heap.size w w' s (out ++ textToks text ++ [comment (upToM [45, 45, 62] ((lst s).drop (a + 4))).1]) [] tv' from hP ▸ HRM.out)
                rw [hP] at p1 p2 HEQ2
                generalize (upToM [45, 45, 62] ((lst s).drop (a + 4))).1 = body at *
                clear HRM hP
                go_wp2_with fail
                refine HRM2.out.mono ?_
                rintro e1 w1 ⟨rfl, tv1, hts⟩
                have HT1 := Lib.hid hts
                clear hts
                go_wp2_with fail
                go_roundw
                case rel => exact ⟨_, P, _, [], tv1, rfl, rfl, p2, by rw [List.length_append, List.length_append]; simp; omega, HT1, HEQ2⟩
                case measure => simp [intOf]; omega
              · have hne : (r1.take 2 == [45, 45]) = false := beq_eq_false_iff_ne.2 hda
                have hnd : ∀ r', r1 ≠ 45 :: 45 :: r' := fun r' e => hda (by rw [e]; rfl)
                have HND := Lib.hid hnd
                obtain ⟨T2, hT2⟩ : ∃ T2, r1.take 2 = T2 := ⟨_, rfl⟩
                rw [hT2] at hE htl hne hda
                clear hcd hnd hT2
                obtain ⟨p1, p2, p3⟩ := suf_pos (upToM_suf [62] ((lst s).drop (a + 2))) (by omega)
                have HRM := Lib.hid (refRemark_any w.heap.size w W s ⟨#[62]⟩ (a + 2) out text tv HT.out (by omega) (by omega) (by omega) (by omega) (by decide) (by decide))
                have hm : mText text (c :: r) = textToks text ++ ([comment (upToM [62] ((lst s).drop (a + 2))).1] ++ mText [] (upToM [62] ((lst s).drop (a + 2))).2) := by
                  rw [HCD.out, h33, HRR.out]
                  exact mText_bang text r1 HND.out
                have HEQ2 := Lib.hid (show out ++ textToks text ++ [comment (upToM [62] ((lst s).drop (a + 2))).1] ++ mText [] ((lst s).drop (s.size - (upToM [62] ((lst s).drop (a + 2))).2.length)) = allM (lst s) by rw [p3]; exact rel_mark HEQ.out hm)
                have hll := textToks_le text
                clear hm p3
                obtain ⟨P, hP⟩ : ∃ P, s.size - (upToM [62] ((lst s).drop (a + 2))).2.length = P := ⟨_, rfl⟩
                have HRM2 := Lib.hid (show Calls Tryd.prog 15 #[.int .i64 ((a : Int) + 2), .string ⟨#[62]⟩, .pointer (some ⟨w.heap.size + 3, 0, none⟩), .pointer (some ⟨w.heap.size, 0, none⟩), .pointer (some ⟨w.heap.size + 1, 0, none⟩)] W fun x w' =>
                      x = .returned (.int .i64 P) ∧ ∃ tv', TS w.heap.size w w' s (out ++ textToks text ++ [comment (upToM [62] ((lst s).drop (a + 2))).1]) [] tv' from hP ▸ HRM.out)
                rw [hP] at p1 p2 HEQ2
                generalize (upToM [62] ((lst s).drop (a + 2))).1 = body at *
                clear HRM hP
                go_wp2_with fail
                refine HRM2.out.mono ?_
                rintro e1 w1 ⟨rfl, tv1, hts⟩
                have HT1 := Lib.hid hts
                clear hts
                go_wp2_with fail
                go_roundw
                case rel => exact ⟨_, P, _, [], tv1, rfl, rfl, p2, by rw [List.length_append, List.length_append]; simp; omega, HT1, HEQ2⟩
                case measure => simp [intOf]; omega
            · have h3I : ¬ (a : Int) + 3 < s.size := by omega
              have hnd : ∀ r', r1 ≠ 45 :: 45 :: r' := fun r' e => by
                have : r1.length = s.size - (a + 2) := by rw [← HRR.out, List.length_drop, lst_length]
                rw [e] at this; simp at this; omega
              have HND := Lib.hid hnd
              clear hcd hnd
              obtain ⟨p1, p2, p3⟩ := suf_pos (upToM_suf [62] ((lst s).drop (a + 2))) (by omega)
              have HRM := Lib.hid (refRemark_any w.heap.size w W s ⟨#[62]⟩ (a + 2) out text tv HT.out (by omega) (by omega) (by omega) (by omega) (by decide) (by decide))
              have hm : mText text (c :: r) = textToks text ++ ([comment (upToM [62] ((lst s).drop (a + 2))).1] ++ mText [] (upToM [62] ((lst s).drop (a + 2))).2) := by
                rw [HCD.out, h33, HRR.out]
                exact mText_bang text r1 HND.out
              have HEQ2 := Lib.hid (show out ++ textToks text ++ [comment (upToM [62] ((lst s).drop (a + 2))).1] ++ mText [] ((lst s).drop (s.size - (upToM [62] ((lst s).drop (a + 2))).2.length)) = allM (lst s) by rw [p3]; exact rel_mark HEQ.out hm)
              have hll := textToks_le text
              clear hm p3
              obtain ⟨P, hP⟩ : ∃ P, s.size - (upToM [62] ((lst s).drop (a + 2))).2.length = P := ⟨_, rfl⟩
              have HRM2 := Lib.hid (show Calls Tryd.prog 15 #[.int .i64 ((a : Int) + 2), .string ⟨#[62]⟩, .pointer (some ⟨w.heap.size + 3, 0, none⟩), .pointer (some ⟨w.heap.size, 0, none⟩), .pointer (some ⟨w.heap.size + 1, 0, none⟩)] W fun x w' =>
                    x = .returned (.int .i64 P) ∧ ∃ tv', TS w.heap.size w w' s (out ++ textToks text ++ [comment (upToM [62] ((lst s).drop (a + 2))).1]) [] tv' from hP ▸ HRM.out)
              rw [hP] at p1 p2 HEQ2
              generalize (upToM [62] ((lst s).drop (a + 2))).1 = body at *
              clear HRM hP
              go_wp2_with fail
              refine HRM2.out.mono ?_
              rintro e1 w1 ⟨rfl, tv1, hts⟩
              have HT1 := Lib.hid hts
              clear hts
              go_wp2_with fail
              go_roundw
              case rel => exact ⟨_, P, _, [], tv1, rfl, rfl, p2, by rw [List.length_append, List.length_append]; simp; omega, HT1, HEQ2⟩
              case measure => simp [intOf]; omega
          · have f33d : (((d).toNat : Int) == 33) = false := (u8ne (n := 33) (by decide) h33).1
            by_cases h63 : d = 63
            · as_aux_lemma =>
              have f63d : (((d).toNat : Int) == 63) = true := (u8eq (n := 63) (by decide) h63).1
              clear hcd
              obtain ⟨p1, p2, p3⟩ := suf_pos (upToM_suf [62] ((lst s).drop (a + 1))) (by omega)
              have HRM := Lib.hid (refRemark_any w.heap.size w W s ⟨#[62]⟩ (a + 1) out text tv HT.out (by omega) (by omega) (by omega) (by omega) (by decide) (by decide))
              have hm : mText text (c :: r) = textToks text ++ ([comment (upToM [62] ((lst s).drop (a + 1))).1] ++ mText [] (upToM [62] ((lst s).drop (a + 1))).2) := by
                rw [HCD.out, HD1.out, h63]
                exact mText_quest text r1
              have HEQ2 := Lib.hid (show out ++ textToks text ++ [comment (upToM [62] ((lst s).drop (a + 1))).1] ++ mText [] ((lst s).drop (s.size - (upToM [62] ((lst s).drop (a + 1))).2.length)) = allM (lst s) by rw [p3]; exact rel_mark HEQ.out hm)
              have hll := textToks_le text
              clear hm p3
              obtain ⟨P, hP⟩ : ∃ P, s.size - (upToM [62] ((lst s).drop (a + 1))).2.length = P := ⟨_, rfl⟩
              have HRM2 := Lib.hid (show Calls Tryd.prog 15 #[.int .i64 ((a : Int) + 1), .string ⟨#[62]⟩, .pointer (some ⟨w.heap.size + 3, 0, none⟩), .pointer (some ⟨w.heap.size, 0, none⟩), .pointer (some ⟨w.heap.size + 1, 0, none⟩)] W fun x w' =>
                    x = .returned (.int .i64 P) ∧ ∃ tv', TS w.heap.size w w' s (out ++ textToks text ++ [comment (upToM [62] ((lst s).drop (a + 1))).1]) [] tv' from hP ▸ HRM.out)
              rw [hP] at p1 p2 HEQ2
              generalize (upToM [62] ((lst s).drop (a + 1))).1 = body at *
              clear HRM hP
              go_wp2_with fail
              refine HRM2.out.mono ?_
              rintro e1 w1 ⟨rfl, tv1, hts⟩
              have HT1 := Lib.hid hts
              clear hts
              go_wp2_with fail
              go_roundw
              case rel => exact ⟨_, P, _, [], tv1, rfl, rfl, p2, by rw [List.length_append, List.length_append]; simp; omega, HT1, HEQ2⟩
              case measure => simp [intOf]; omega
            · have f63d : (((d).toNat : Int) == 63) = false := (u8ne (n := 63) (by decide) h63).1
              by_cases h47 : d = 47
              · as_aux_lemma =>
                have f47d : (((d).toNat : Int) == 47) = true := (u8eq (n := 47) (by decide) h47).1
                by_cases h3 : a + 2 < s.size
                · have h3I : (a : Int) + 2 < s.size := by omega
                  have hdr2 : (lst s).drop (a + 2) = s[a + 2]'h3 :: (lst s).drop (a + 2 + 1) := List.drop_eq_getElem_cons (by rw [lst_length]; exact h3)
                  obtain ⟨d2, hd2⟩ : ∃ d2, s[a + 2]'h3 = d2 := ⟨_, rfl⟩
                  rw [hd2] at hdr2
                  obtain ⟨r3, hr3⟩ : ∃ r3, (lst s).drop (a + 2 + 1) = r3 := ⟨_, rfl⟩
                  have hde : (lst s).drop (a + 2) = d2 :: r3 := by rw [hdr2, hr3]
                  have hr2 : r1 = d2 :: r3 := by rw [← HRR.out]; exact hde
                  have HAl := Lib.hid (fun W => isAlpha_int d2.toNat W (by omega) (by have := d2.toNat_lt; omega))
                  rw [letB_isLet] at HAl
                  rw [h47] at hcd
                  have HDE := Lib.hid hde
                  have HR2 := Lib.hid hr2
                  have HCD2 := Lib.hid hcd
                  clear hdr2 hr3 hde hr2 hcd
                  cases hle : isLet d2 with
                  | false =>
                    rw [hle] at HAl
                    have HLE := Lib.hid hle
                    clear hle
                    obtain ⟨p1, p2, p3⟩ := suf_pos (upToM_suf [62] ((lst s).drop (a + 2))) (by omega)
                    have HRM := Lib.hid (refRemark_any w.heap.size w W s ⟨#[62]⟩ (a + 2) out text tv HT.out (by omega) (by omega) (by omega) (by omega) (by decide) (by decide))
                    have hm : mText text (c :: r) = textToks text ++ ([comment (upToM [62] ((lst s).drop (a + 2))).1] ++ mText [] (upToM [62] ((lst s).drop (a + 2))).2) := by
                      rw [HCD2.out, HR2.out, HDE.out]
                      exact mText_odd text d2 r3 HLE.out
                    have HEQ2 := Lib.hid (show out ++ textToks text ++ [comment (upToM [62] ((lst s).drop (a + 2))).1] ++ mText [] ((lst s).drop (s.size - (upToM [62] ((lst s).drop (a + 2))).2.length)) = allM (lst s) by rw [p3]; exact rel_mark HEQ.out hm)
                    have hll := textToks_le text
                    clear hm p3
                    obtain ⟨P, hP⟩ : ∃ P, s.size - (upToM [62] ((lst s).drop (a + 2))).2.length = P := ⟨_, rfl⟩
                    have HRM2 := Lib.hid (show Calls Tryd.prog 15 #[.int .i64 ((a : Int) + 2), .string ⟨#[62]⟩, .pointer (some ⟨w.heap.size + 3, 0, none⟩), .pointer (some ⟨w.heap.size, 0, none⟩), .pointer (some ⟨w.heap.size + 1, 0, none⟩)] W fun x w' =>
                          x = .returned (.int .i64 P) ∧ ∃ tv', TS w.heap.size w w' s (out ++ textToks text ++ [comment (upToM [62] ((lst s).drop (a + 2))).1]) [] tv' from hP ▸ HRM.out)
                    rw [hP] at p1 p2 HEQ2
                    generalize (upToM [62] ((lst s).drop (a + 2))).1 = body at *
                    clear HRM hP
                    go_wp2_with fail
                    refine (HAl.out _).mono ?_
                    rintro e w' ⟨rfl, hw⟩
                    rw [← hw]
                    clear hw w'
                    go_wp2_with fail
                    refine HRM2.out.mono ?_
                    rintro e1 w1 ⟨rfl, tv1, hts⟩
                    have HT1 := Lib.hid hts
                    clear hts
                    go_wp2_with fail
                    go_roundw
                    case rel => exact ⟨_, P, _, [], tv1, rfl, rfl, p2, by rw [List.length_append, List.length_append]; simp; omega, HT1, HEQ2⟩
                    case measure => simp [intOf]; omega
                  | true =>
                    rw [hle] at HAl
                    go_wp2_with fail
                    refine (HAl.out _).mono ?_
                    rintro e w' ⟨rfl, hw⟩
                    rw [← hw]
                    clear hw w'
                    have hde := HDE.out
                    have hr2 := HR2.out
                    have hcd := HCD2.out
                    have HTG := HTAG0.out (a + 2) W (by omega)
                    have hll := textToks_le text
                    cases hmn : mName [] ((lst s).drop (a + 2)) with
                    | none => as_aux_lemma =>
                      have HTG2 := Lib.hid (show Calls Tryd.prog 18 #[.string s, .int .i64 ((a : Int) + 2)] W fun e w' => Below W.heap.size W w' ∧ e = .returned (.tuple #[.agg #[.int .i64 0, .string ⟨#[]⟩, .slice none 0 0, .bool false, .string ⟨#[]⟩], .int .i64 0, .bool false]) by rw [hmn] at HTG; exact HTG)
                      have hm : mText text (c :: r) = textToks text := by
                        rw [hcd, hr2]
                        rw [hde] at hmn
                        exact mText_end0 text d2 r3 hle hmn
                      have HEQ2 := Lib.hid (show out ++ textToks text ++ mText [] ((lst s).drop s.size) = allM (lst s) by
                        rw [List.drop_eq_nil_of_le (by rw [lst_length]; omega), mText_nil, ← HEQ.out, hm]; simp [textToks_nil])
                      clear hm hmn HTG
                      go_wp2_with fail
                      refine HTG2.out.mono ?_
                      rintro e1 w1 ⟨hb1, rfl⟩
                      have HT1 := Lib.hid (HT.out.older hb1)
                      clear hb1
                      have c3o := fun o : Obj => (HT1.out.alloc o).b3.all.1
                      go_wp2_with fail
                      refine (flush_any w.heap.size w _ s out text tv (HT1.out.alloc _) (by omega) (by omega)).mono ?_
                      rintro e2 w2 ⟨rfl, tv2, hts, _⟩
                      have HT2 := Lib.hid hts
                      obtain ⟨d0, _, _⟩ := hts.b0.all
                      clear hts c3o
                      go_wp2_with fail
                      go_roundw
                      case rel => exact ⟨_, s.size, _, [], tv2, rfl, rfl, by omega, by rw [List.length_append]; simp; omega, HT2, HEQ2⟩
                      case measure => simp [intOf]; omega
                    | some z => as_aux_lemma =>
                      obtain ⟨y, r2⟩ := z
                      obtain ⟨p1, p2, p3⟩ := suf_pos (mName_suf hmn) (by omega)
                      obtain ⟨P, hP⟩ : ∃ P, s.size - r2.length = P := ⟨_, rfl⟩
                      rw [hP] at p1 p2 p3
                      have HTG2 := Lib.hid (show Calls Tryd.prog 18 #[.string s, .int .i64 ((a : Int) + 2)] W fun e w' => Below W.heap.size W w' ∧ ∃ va, e = .returned (.tuple #[.agg #[.int .i64 0, .string (mk y.name), va, .bool y.self, .string ⟨#[]⟩], .int .i64 P, .bool true]) ∧ AttrRow W.heap.size w' va y.attrs by rw [hmn] at HTG; rw [← hP]; exact HTG)
                      have hm : mText text (c :: r) = textToks text ++ ([⟨2, y.name, [], false, []⟩] ++ mText [] r2) := by
                        rw [hcd, hr2]
                        rw [hde] at hmn
                        exact mText_end text d2 r3 hle y r2 hmn
                      have HEQ2 := Lib.hid (show out ++ textToks text ++ [⟨2, y.name, [], false, []⟩] ++ mText [] ((lst s).drop P) = allM (lst s) by rw [p3]; exact rel_mark HEQ.out hm)
                      clear hm
                      have HP3 := Lib.hid p3
                      clear hmn HTG hP p3
                      go_wp2_with fail
                      refine HTG2.out.mono ?_
                      rintro e1 w1 ⟨hb1, va, rfl, har⟩
                      have HT1 := Lib.hid (HT.out.older hb1)
                      obtain ⟨vA, vC, hva⟩ := ownsRow_slice har
                      subst hva
                      have HAR := Lib.hid har.view
                      clear hb1 har
                      have c3o := fun o : Obj => (HT1.out.alloc o).b3.all.1
                      obtain ⟨Wb, hWb⟩ : ∃ Wb, Wb = w1.alloc (.cells #[.int .i64 0, .string (mk y.name), .slice vA y.attrs.length vC, .bool y.self, .string ⟨#[]⟩] 31) := ⟨_, rfl⟩
                      have HTb := Lib.hid (show TS w.heap.size w Wb s out text tv by rw [hWb]; exact HT1.out.alloc _)
                      have hbx := heap_alloc_new w1 (.cells #[.int .i64 0, .string (mk y.name), .slice vA y.attrs.length vC, .bool y.self, .string ⟨#[]⟩] 31)
                      rw [← hWb] at hbx
                      have HBX := Lib.hid (show TokBlk Wb w1.heap.size 0 (mk y.name) (.slice vA y.attrs.length vC) y.self from hbx)
                      have HARb := Lib.hid (show AttrView Wb (.slice vA y.attrs.length vC) y.attrs by rw [hWb]; exact HAR.out.older (.of_below ((Below.refl _ _).alloc (Nat.le_refl _) _)))
                      have hnb : w.heap.size + 4 ≤ w1.heap.size := HT1.out.b3.all.2.2
                      have HNO := Lib.hid (show some w1.heap.size ≠ tv.ownBlock from fun e => by have := HT1.out.own_lt e; omega)
                      have HWb := Lib.hid hWb.symm
                      clear hWb hbx
                      go_wp2_with fail
                      rw [HWb.out]
                      refine (flush_any w.heap.size w Wb s out text tv HTb.out (by omega) (by omega)).mono ?_
                      rintro e2 w2 ⟨rfl, tv2, hts, hkeep⟩
                      have HT2 := Lib.hid hts
                      have HK := Lib.hid hkeep
                      have HBX2 := Lib.hid (show TokBlk w2 w1.heap.size 0 (mk y.name) (.slice vA y.attrs.length vC) y.self by
                        have hx := HBX.out
                        unfold TokBlk at hx ⊢
                        rw [(HK.out _ (lt_of_block hx) (by omega) (by omega) HNO.out).1]; exact hx)
                      have HAR2 := Lib.hid (show AttrView w2 (.slice vA y.attrs.length vC) y.attrs from HARb.out.stay fun g cs hg => (HK.out g (lt_of_block hg) (by
                        rintro rfl
                        have hx := HTb.out.b1
                        unfold One at hx
                        rw [hx] at hg; injection hg with hg; injection hg with _ hg _; exact absurd hg (by decide)) (by
                        rintro rfl
                        have hx := HTb.out.b2
                        unfold One at hx
                        rw [hx] at hg; injection hg with hg; injection hg with _ hg _; exact absurd hg (by decide)) (by
                        intro e
                        obtain ⟨ps, _, hown, _⟩ := HTb.out.own
                        rcases hown.2 with ⟨hv0, _⟩ | ⟨g0, cap0, cur0, hv0, _, hg0, _⟩
                        · rw [hv0] at e; cases e
                        · rw [hv0] at e
                          have e' : g = g0 := by injection e
                          rw [e', hg0] at hg
                          injection hg with hg; injection hg with _ hg _; exact absurd hg (by decide))).1)
                      obtain ⟨X0, hX0⟩ : ∃ X0, out ++ textToks text = X0 := ⟨_, rfl⟩
                      have hX0l : X0.length ≤ 2 * a := by rw [← hX0, List.length_append]; omega
                      rw [hX0] at HT2
                      have HX0 := Lib.hid hX0
                      clear hX0
                      obtain ⟨tA, tC, htv2⟩ := HT2.out.own.view.form
                      subst htv2
                      clear hts hkeep c3o
                      obtain ⟨d0, _, _⟩ := HT2.out.b0.all
                      obtain ⟨d1, df1, _⟩ := HT2.out.b1.all
                      obtain ⟨_, n1, _, _, _, _, _, _⟩ := HBX2.out.all
                      have hl2 : X0.length ≤ 1000000 := by omega
                      have hz2 : ∀ o : Obj, w.heap.size + 4 ≤ (w2.alloc o).heap.size := fun o => by have := HT2.out.b3.all.2.2; simp; omega
                      have HV2 := Lib.hid (tokView1 w2 ⟨2, y.name, [], false, []⟩ (.slice none 0 0) (x1 := mk y.name) (x2 := ⟨#[]⟩) rfl rfl (attrNone _))
                      have HO2 := Lib.hid (fun o : Obj => (HT2.out.alloc o).own)
                      go_wp2_with (at_builtin; refine wpList_one (by rfl) (.tmp 130) (.tmp 134) (by rfl) (w.heap.size + 4) _ _ X0 ⟨2, y.name, [], false, []⟩ (by rfl) (by rfl) (HO2.out _) HV2.out hl2 (hz2 _) ?_; intro A C w6 hown hgr; have HP := Lib.hid (HT2.out.push ((Below.refl _ _).alloc (Nat.le_refl _) _) hgr hown); clear hown hgr; obtain ⟨q1, qf1, _⟩ := HP.out.1.all)
                      go_wp2_with fail
                      go_roundw
                      case rel => exact ⟨_, P, _, [], _, rfl, rfl, p2, by rw [List.length_append]; simp; omega, Lib.hid HP.out.2.2.2, Lib.hid (by rw [← HX0.out]; exact HEQ2.out)⟩
                      case measure => simp [intOf]; omega
                · have h3I : ¬ (a : Int) + 2 < s.size := by omega
                  have hr0 : r1 = [] := by rw [← HRR.out]; exact List.drop_eq_nil_of_le (by rw [lst_length]; omega)
                  clear hcd
                  have hop : opensM (c :: r) = false := by rw [HCD.out, h47, hr0]; rfl
                  have HEQ2 := Lib.hid (show out ++ mText (text ++ [c]) ((lst s).drop (a + 1)) = allM (lst s) by rw [HR1.out, ← mText_in _ _ _ hop]; exact HEQ.out)
                  clear hop
                  have HAl := Lib.hid (fun W => isAlpha_int d.toNat W (by omega) (by have := d.toNat_lt; omega))
                  rw [letB_isLet, show isLet d = false by rw [h47]; decide] at HAl
                  clear hr0 h47
                  go_wp2_with fail
                  refine (HAl.out _).mono ?_
                  rintro e w' ⟨rfl, hw⟩
                  rw [← hw]
                  clear hw w'
                  go_upto_region 10 with fail
                  obtain ⟨c2, f2, _⟩ := HT.out.b2.all
                  go_region
                  all_goals
                    go_wp2_with fail
                    go_roundw
                    case rel => exact ⟨_, a + 1, out, text ++ [c], tv, rfl, by go_num, by omega, by rw [List.length_append]; simp; omega, Lib.hid (by rw [HX.out]; exact HT.out.drew.setText _), HEQ2⟩
                    case measure => simp [intOf]; omega
              · have f47d : (((d).toNat : Int) == 47) = false := (u8ne (n := 47) (by decide) h47).1
                have HAl := Lib.hid (fun W => isAlpha_int d.toNat W (by omega) (by have := d.toNat_lt; omega))
                rw [letB_isLet] at HAl
                cases hld : isLet d with
                | true =>
                  rw [hld] at HAl
                  clear hcd
                  go_wp2_with fail
                  refine (HAl.out _).mono ?_
                  rintro e w' ⟨rfl, hw⟩
                  rw [← hw]
                  clear hw w'
                  have hcd := HCD.out
                  have hd1 := HD1.out
                  have HTG := HTAG0.out (a + 1) W (by omega)
                  have hll := textToks_le text
                  cases hmn : mName [] ((lst s).drop (a + 1)) with
                  | none => as_aux_lemma =>
                    have HTG2 := Lib.hid (show Calls Tryd.prog 18 #[.string s, .int .i64 ((a : Int) + 1)] W fun e w' => Below W.heap.size W w' ∧ e = .returned (.tuple #[.agg #[.int .i64 0, .string ⟨#[]⟩, .slice none 0 0, .bool false, .string ⟨#[]⟩], .int .i64 0, .bool false]) by rw [hmn] at HTG; exact HTG)
                    have hm : mText text (c :: r) = textToks text := by
                      rw [hcd]
                      rw [hd1] at hmn
                      exact mText_start0 text d r1 hld hmn
                    have HEQ2 := Lib.hid (show out ++ textToks text ++ mText [] ((lst s).drop s.size) = allM (lst s) by
                      rw [List.drop_eq_nil_of_le (by rw [lst_length]; omega), mText_nil, ← HEQ.out, hm]; simp [textToks_nil])
                    clear hm hmn HTG
                    go_wp2_with fail
                    refine HTG2.out.mono ?_
                    rintro e1 w1 ⟨hb1, rfl⟩
                    have HT1 := Lib.hid (HT.out.older hb1)
                    clear hb1
                    have c3o := fun o : Obj => (HT1.out.alloc o).b3.all.1
                    go_wp2_with fail
                    refine (flush_any w.heap.size w _ s out text tv (HT1.out.alloc _) (by omega) (by omega)).mono ?_
                    rintro e2 w2 ⟨rfl, tv2, hts, _⟩
                    have HT2 := Lib.hid hts
                    obtain ⟨d0, _, _⟩ := hts.b0.all
                    clear hts c3o
                    go_wp2_with fail
                    go_roundw
                    case rel => exact ⟨_, s.size, _, [], tv2, rfl, rfl, by omega, by rw [List.length_append]; simp; omega, HT2, HEQ2⟩
                    case measure => simp [intOf]; omega
                  | some z => as_aux_lemma =>
                    obtain ⟨y, r2⟩ := z
                    obtain ⟨p1, p2, p3⟩ := suf_pos (mName_suf hmn) (by omega)
                    obtain ⟨P, hP⟩ : ∃ P, s.size - r2.length = P := ⟨_, rfl⟩
                    rw [hP] at p1 p2 p3
                    have HTG2 := Lib.hid (show Calls Tryd.prog 18 #[.string s, .int .i64 ((a : Int) + 1)] W fun e w' => Below W.heap.size W w' ∧ ∃ va, e = .returned (.tuple #[.agg #[.int .i64 0, .string (mk y.name), va, .bool y.self, .string ⟨#[]⟩], .int .i64 P, .bool true]) ∧ AttrRow W.heap.size w' va y.attrs by rw [hmn] at HTG; rw [← hP]; exact HTG)
                    have hm0 : ∀ ts X, markupM (60 :: d :: r1) = some (ts, X) → mText text (c :: r) = textToks text ++ (ts ++ mText [] X) := fun ts X h => by
                      rw [hcd]; exact mText_mark text (60 :: d :: r1) (opens_let d r1 hld) ts X h
                    have hmk := markup_start d r1 hld
                    rw [hd1] at hmn
                    rw [hmn] at hmk
                    have HMK := Lib.hid hmk
                    have HM0 := Lib.hid hm0
                    clear hmk hm0
                    have HP3 := Lib.hid p3
                    clear hmn HTG hP p3
                    go_wp2_with fail
                    refine HTG2.out.mono ?_
                    rintro e1 w1 ⟨hb1, va, rfl, har⟩
                    have HT1 := Lib.hid (HT.out.older hb1)
                    obtain ⟨vA, vC, hva⟩ := ownsRow_slice har
                    subst hva
                    have HAR := Lib.hid har.view
                    clear hb1 har
                    have c3o := fun o : Obj => (HT1.out.alloc o).b3.all.1
                    obtain ⟨Wb, hWb⟩ : ∃ Wb, Wb = w1.alloc (.cells #[.int .i64 0, .string (mk y.name), .slice vA y.attrs.length vC, .bool y.self, .string ⟨#[]⟩] 31) := ⟨_, rfl⟩
                    have HTb := Lib.hid (show TS w.heap.size w Wb s out text tv by rw [hWb]; exact HT1.out.alloc _)
                    have hbx := heap_alloc_new w1 (.cells #[.int .i64 0, .string (mk y.name), .slice vA y.attrs.length vC, .bool y.self, .string ⟨#[]⟩] 31)
                    rw [← hWb] at hbx
                    have HBX := Lib.hid (show TokBlk Wb w1.heap.size 0 (mk y.name) (.slice vA y.attrs.length vC) y.self from hbx)
                    have HARb := Lib.hid (show AttrView Wb (.slice vA y.attrs.length vC) y.attrs by rw [hWb]; exact HAR.out.older (.of_below ((Below.refl _ _).alloc (Nat.le_refl _) _)))
                    have hnb : w.heap.size + 4 ≤ w1.heap.size := HT1.out.b3.all.2.2
                    have HNO := Lib.hid (show some w1.heap.size ≠ tv.ownBlock from fun e => by have := HT1.out.own_lt e; omega)
                    have HWb := Lib.hid hWb.symm
                    clear hWb hbx
                    go_wp2_with fail
                    rw [HWb.out]
                    refine (flush_any w.heap.size w Wb s out text tv HTb.out (by omega) (by omega)).mono ?_
                    rintro e2 w2 ⟨rfl, tv2, hts, hkeep⟩
                    have HT2 := Lib.hid hts
                    have HK := Lib.hid hkeep
                    have HBX2 := Lib.hid (show TokBlk w2 w1.heap.size 0 (mk y.name) (.slice vA y.attrs.length vC) y.self by
                      have hx := HBX.out
                      unfold TokBlk at hx ⊢
                      rw [(HK.out _ (lt_of_block hx) (by omega) (by omega) HNO.out).1]; exact hx)
                    have HAR2 := Lib.hid (show AttrView w2 (.slice vA y.attrs.length vC) y.attrs from HARb.out.stay fun g cs hg => (HK.out g (lt_of_block hg) (by
                      rintro rfl
                      have hx := HTb.out.b1
                      unfold One at hx
                      rw [hx] at hg; injection hg with hg; injection hg with _ hg _; exact absurd hg (by decide)) (by
                      rintro rfl
                      have hx := HTb.out.b2
                      unfold One at hx
                      rw [hx] at hg; injection hg with hg; injection hg with _ hg _; exact absurd hg (by decide)) (by
                      intro e
                      obtain ⟨ps, _, hown, _⟩ := HTb.out.own
                      rcases hown.2 with ⟨hv0, _⟩ | ⟨g0, cap0, cur0, hv0, _, hg0, _⟩
                      · rw [hv0] at e; cases e
                      · rw [hv0] at e
                        have e' : g = g0 := by injection e
                        rw [e', hg0] at hg
                        injection hg with hg; injection hg with _ hg _; exact absurd hg (by decide))).1)
                    obtain ⟨X0, hX0⟩ : ∃ X0, out ++ textToks text = X0 := ⟨_, rfl⟩
                    have hX0l : X0.length ≤ 2 * a := by rw [← hX0, List.length_append]; omega
                    rw [hX0] at HT2
                    have HX0 := Lib.hid hX0
                    clear hX0
                    obtain ⟨tA, tC, htv2⟩ := HT2.out.own.view.form
                    subst htv2
                    clear hts hkeep c3o
                    have HNO2 := Lib.hid (HK.out _ (lt_of_block HBX.out) (by omega) (by omega) HNO.out).2
                    obtain ⟨n0, _, _, _, _, _, _, _⟩ := HBX2.out.all
                    have nf0 := Lib.frozen_of_heap HBX2.out 0
                    obtain ⟨W3, hW3⟩ : ∃ W3, W3 = w2.setCell ⟨w1.heap.size, 0, none⟩ (.int .i64 1) := ⟨_, rfl⟩
                    have HT3 := Lib.hid (show TS w.heap.size w W3 s X0 [] (.slice tA X0.length tC) by rw [hW3]; exact HT2.out.box (p := ⟨w1.heap.size, 0, none⟩) hnb HNO2.out HBX2.out _)
                    have HBX3 := Lib.hid (show TokBlk W3 w1.heap.size 1 (mk y.name) (.slice vA y.attrs.length vC) y.self by
                      have hx := HBX2.out
                      unfold TokBlk at hx ⊢
                      rw [hW3]
                      simp [World.setCell, Array.getElem?_modify, hx])
                    have HAR3 := Lib.hid (show AttrView W3 (.slice vA y.attrs.length vC) y.attrs by
                      rw [hW3]
                      exact HAR2.out.stay fun g cs hg => Below.heap_setCell _ _ _ _ (by
                        intro e
                        have hx := HBX2.out
                        unfold TokBlk at hx
                        rw [e, hx] at hg; injection hg with hg; injection hg with _ hg _; exact absurd hg (by decide)))
                    have HW3 := Lib.hid hW3.symm
                    clear hW3
                    go_upto_region 33 with fail
                    rw [HW3.out]
                    clear n0 nf0
                    obtain ⟨d1, df1, _⟩ := HT3.out.b1.all
                    obtain ⟨n0, n1, n2, n3, n4, _, _, _⟩ := HBX3.out.all
                    have hl2 : X0.length ≤ 1000000 := by omega
                    have hz2 : ∀ o : Obj, w.heap.size + 4 ≤ (W3.alloc o).heap.size := fun o => by have := HT3.out.b3.all.2.2; simp; omega
                    have HV2 := Lib.hid (tokView1 W3 ⟨1, y.name, y.attrs, y.self, []⟩ (.slice vA y.attrs.length vC) (x1 := mk y.name) (x2 := ⟨#[]⟩) rfl rfl HAR3.out)
                    have HO2 := Lib.hid (fun o : Obj => (HT3.out.alloc o).own)
                    go_upto_region 35 with (at_builtin; refine wpList_one (by rfl) (.tmp 155) (.tmp 157) (by rfl) (w.heap.size + 4) _ _ X0 ⟨1, y.name, y.attrs, y.self, []⟩ (by rfl) (by rfl) (HO2.out _) HV2.out hl2 (hz2 _) ?_; intro A C w6 hown hgr; have HP := Lib.hid (HT3.out.push ((Below.refl _ _).alloc (Nat.le_refl _) _) hgr hown); have HG := Lib.hid hgr; clear hown hgr; obtain ⟨q1, qf1, _⟩ := HP.out.1.all)
                    obtain ⟨W7, hW7⟩ : ∃ W7, W7 = w6.setCell ⟨w.heap.size + 1, 0, none⟩ (.slice A (X0.length + 1) C) := ⟨_, rfl⟩
                    have HT7 := Lib.hid (show TS w.heap.size w W7 s (X0 ++ [⟨1, y.name, y.attrs, y.self, []⟩]) [] (.slice A (X0.length + 1) C) by rw [hW7]; exact HP.out.2.2.2)
                    have HBX7 := Lib.hid (show TokBlk W7 w1.heap.size 1 (mk y.name) (.slice vA y.attrs.length vC) y.self by
                      have hx := HBX3.out
                      have hlt9 := lt_of_block hx
                      unfold TokBlk at hx ⊢
                      rw [hW7, Below.heap_setCell _ _ _ _ (by show w1.heap.size ≠ w.heap.size + 1; omega), HG.out.block _ (by simp; omega) HNO2.out, Below.heap_alloc _ _ _ hlt9]; exact hx)
                    have HW7 := Lib.hid hW7.symm
                    clear hW7 d1 df1 n0 n1 n2 n3 n4 q1 qf1 hz2
                    obtain ⟨X, hX⟩ : ∃ X, X0 ++ [(⟨1, y.name, y.attrs, y.self, []⟩ : TTok)] = X := ⟨_, rfl⟩
                    have hXl : X.length ≤ 2 * P := by rw [← hX, List.length_append]; simp; omega
                    rw [hX] at HT7
                    obtain ⟨tv7, htv7⟩ : ∃ tv7, (Value.slice A (X0.length + 1) C) = tv7 := ⟨_, rfl⟩
                    rw [htv7] at HT7
                    have HXX := Lib.hid hX
                    rw [HW7.out]
                    clear hX htv7
                    obtain ⟨_, n1, _, _, _, _, _, _⟩ := HBX7.out.all
                    have htl := toList_mk y.name
                    go_cut [177] (fun v wx => wx = W7 ∧ v = .bool (!isRaw y.name))
                    case first => as_aux_lemma =>
                      by_cases e1 : y.name = sScript
                      · have k1 : (y.name == sScript) = true := beq_iff_eq.2 e1
                        have HRw := Lib.hid (show isRaw y.name = true by unfold isRaw; rw [k1]; rfl)
                        unfold sScript at e1 k1
                        rw [e1] at n1 htl
                        clear e1 k1
                        go_wp2_with fail
                        go_meet
                        exact ⟨rfl, by rw [HRw.out]; rfl⟩
                      · have k1 : (y.name == sScript) = false := beq_eq_false_iff_ne.2 e1
                        by_cases e2 : y.name = sStyle
                        · have HRw := Lib.hid (show isRaw y.name = true by unfold isRaw; rw [beq_iff_eq.2 e2]; simp)
                          unfold sStyle at e2
                          rw [e2] at n1 htl
                          clear e1 k1 e2
                          go_wp2_with fail
                          go_meet
                          exact ⟨rfl, by rw [HRw.out]; rfl⟩
                        · have k2 : (y.name == sStyle) = false := beq_eq_false_iff_ne.2 e2
                          by_cases e3 : y.name = sTextarea
                          · have HRw := Lib.hid (show isRaw y.name = true by unfold isRaw; rw [beq_iff_eq.2 e3]; simp)
                            unfold sTextarea at e3
                            rw [e3] at n1 htl
                            clear e1 k1 e2 k2 e3
                            go_wp2_with fail
                            go_meet
                            exact ⟨rfl, by rw [HRw.out]; rfl⟩
                          · have k3 : (y.name == sTextarea) = false := beq_eq_false_iff_ne.2 e3
                            by_cases e4 : y.name = sTitle
                            · have HRw := Lib.hid (show isRaw y.name = true by unfold isRaw; rw [beq_iff_eq.2 e4]; simp)
                              unfold sTitle at e4
                              rw [e4] at n1 htl
                              clear e1 k1 e2 k2 e3 k3 e4
                              go_wp2_with fail
                              go_meet
                              exact ⟨rfl, by rw [HRw.out]; rfl⟩
                            · have k4 : (y.name == sTitle) = false := beq_eq_false_iff_ne.2 e4
                              have HRw := Lib.hid (show isRaw y.name = false by unfold isRaw; rw [k1, k2, k3, k4]; rfl)
                              unfold sScript at e1 k1
                              unfold sStyle at e2 k2
                              unfold sTextarea at e3 k3
                              unfold sTitle at e4 k4
                              go_wp2_with fail
                              go_meet
                              exact ⟨rfl, by rw [HRw.out]; rfl⟩
                    case rest => as_aux_lemma =>
                      obtain ⟨hwc, hv177⟩ := hcut
                      have hwc2 := hwc.symm
                      clear hwc
                      subst hwc2
                      cases hraw : isRaw y.name with
                      | false =>
                        have hw177 : u177 = .bool true := by rw [hv177, hraw]; rfl
                        clear hv177
                        subst hw177
                        have HEQ2 := Lib.hid (show X ++ mText [] ((lst s).drop P) = allM (lst s) by
                          have hk := HMK.out
                          simp only [Option.map_some, hraw] at hk
                          have hm := HM0.out _ _ hk
                          rw [HP3.out, ← HXX.out, ← HX0.out]; exact rel_mark HEQ.out hm)
                        clear hraw
                        go_wp2_with fail
                        go_roundw
                        case rel => exact ⟨_, P, X, [], tv7, rfl, rfl, p2, by simp; omega, HT7, HEQ2⟩
                        case measure => simp [intOf]; omega
                      | true =>
                        have hw177 : u177 = .bool false := by rw [hv177, hraw]; rfl
                        clear hv177
                        subst hw177
                        have HEQ3 := Lib.hid (show X ++ (rawToks y.name (rawM y.name r2).1 ++ mText [] (rawM y.name r2).2) = allM (lst s) by
                          have hk := HMK.out
                          simp only [Option.map_some, hraw, if_true] at hk
                          have hm := HM0.out _ _ hk
                          rw [← HXX.out, ← HX0.out]
                          have he := HEQ.out
                          rw [hm] at he
                          rw [← he]; simp [List.append_assoc])
                        have hTV := rawM_len y.name r2
                        obtain ⟨pv1, pv2, pv3⟩ := suf_pos (s := s) (k := P) (r := (rawM y.name r2).2) (by rw [HP3.out]; exact rawM_suf _ _) p2
                        have hr2e : r2.length = s.size - P := by rw [← HP3.out, List.length_drop, lst_length]
                        have hr2l : r2.length ≤ s.size := by omega
                        obtain ⟨rb, rl, hnm, hrt⟩ := raw_head y.name hraw
                        have hnl := isRaw_len y.name hraw
                        have HNM := Lib.hid hnm
                        have HRT := Lib.hid hrt
                        obtain ⟨T, hT⟩ : ∃ T, (rawM y.name r2).1 = T := ⟨_, rfl⟩
                        obtain ⟨V, hV⟩ : ∃ V, (rawM y.name r2).2 = V := ⟨_, rfl⟩
                        have HTVp := Lib.hid (show (rawM y.name ((lst s).drop P)).1 = T ∧ (rawM y.name ((lst s).drop P)).2 = V by rw [HP3.out]; exact ⟨hT, hV⟩)
                        rw [hT, hV] at HEQ3
                        rw [hT, hV] at hTV
                        rw [hV] at pv1 pv2 pv3
                        have HPV3 := Lib.hid pv3
                        obtain ⟨PV, hPV⟩ : ∃ PV, s.size - V.length = PV := ⟨_, rfl⟩
                        rw [hPV] at HPV3 pv1 pv2
                        have HPVe := Lib.hid hPV
                        have hVl : V.length ≤ s.size := by omega
                        have HVl := Lib.hid hVl
                        have hTl : T.length ≤ s.size := by omega
                        have hPT : P + T.length ≤ PV := by omega
                        clear hr2e hraw hnm hrt hT hV pv3 hPV hTV HMK HM0 hVl
                        go_upto_block 3 with fail
                        go_cut [7, 15] (fun vat vraw wx => vat = .int .i64 PV ∧ vraw = .string (mk T) ∧ Hid (TS w.heap.size w wx s X [] tv7) ∧ Hid (TokBlk wx w1.heap.size 1 (mk y.name) (.slice vA y.attrs.length vC) y.self))
                        case first => as_aux_lemma =>
                          go_wp2_with fail
                          go_loopw [7, 15] (fun vat vraw wx => ∃ (W : World) (j : Nat) (rw_ : Bytes), W = wx ∧ vat = .int .i64 j ∧ vraw = .string (mk rw_) ∧ j ≤ s.size ∧ rw_.length ≤ j ∧ Hid (rw_ ++ (rawM y.name ((lst s).drop j)).1 = T ∧ (rawM y.name ((lst s).drop j)).2 = V) ∧ Hid (TS w.heap.size w wx s X [] tv7) ∧ Hid (TokBlk wx w1.heap.size 1 (mk y.name) (.slice vA y.attrs.length vC) y.self)) (fun vat _ _ => s.size - (intOf vat).toNat)
                          case atStart => exact ⟨_, P, [], rfl, rfl, rfl, p2, by simp, HTVp, HT7, HBX7⟩
                          case round =>
                            obtain ⟨Wr, j, rw_, rfl, rfl, rfl, hj, hrwl, HJ, HTr, HBr⟩ := hrel
                            obtain ⟨x0, _, _⟩ := HTr.out.b0.all
                            obtain ⟨_, x1, _, _, _, _, _, _⟩ := HBr.out.all
                            by_cases hjl : j < s.size
                            · have hms : (mk y.name).size = y.name.length := mk_size _
                              go_upto_region 39 with fail
                              go_cut [233] (fun v wx => v = .bool (rawStop y.name ((lst s).drop j)) ∧ Hid (TS w.heap.size w wx s X [] tv7) ∧ Hid (TokBlk wx w1.heap.size 1 (mk y.name) (.slice vA y.attrs.length vC) y.self))
                              case first => as_aux_lemma =>
                                by_cases hk : j + 2 + y.name.length < s.size
                                · have HRS := rawStop_s s y.name j hk
                                  have hkI : (j : Int) + 2 + (y.name.length : Int) < s.size := by omega
                                  have htn : ((j : Int) + 2 + (y.name.length : Int)).toNat = j + 2 + y.name.length := by omega
                                  have hlo : (j : Int) + 2 ≤ (j : Int) + 2 + (y.name.length : Int) := by omega
                                  have hhi : (j : Int) + 2 + (y.name.length : Int) ≤ s.size := by omega
                                  have h1I : (j : Int) + 1 < s.size := by omega
                                  have h20 : (0 : Int) ≤ (j : Int) + 2 := by omega
                                  have hk0 : (0 : Int) ≤ (j : Int) + 2 + (y.name.length : Int) := by omega
                                  have hj1 : j + 1 < s.size := by omega
                                  have hwr1 : IntKind.i64.wrap ((j : Int) + 1) = (j : Int) + 1 := IntWalk.i64_in _ (by omega)
                                  have hwr2 : IntKind.i64.wrap ((j : Int) + 2) = (j : Int) + 2 := IntWalk.i64_in _ (by omega)
                                  have htn1 : ((j : Int) + 1).toNat = j + 1 := by omega
                                  have htn2 : ((j : Int) + 2).toNat = j + 2 := by omega
                                  obtain ⟨c9, hc9⟩ : ∃ c9, s[j]'hjl = c9 := ⟨_, rfl⟩
                                  obtain ⟨d9, hd9⟩ : ∃ d9, s[j + 1]'hj1 = d9 := ⟨_, rfl⟩
                                  obtain ⟨e9, he9⟩ : ∃ e9, s[j + 2 + y.name.length]'hk = e9 := ⟨_, rfl⟩
                                  rw [hc9, hd9, he9] at HRS
                                  have HRS := Lib.hid HRS
                                  by_cases hc : c9 = 60
                                  · have g1 : ((c9.toNat : Int) == 60) = true := (u8eq (n := 60) (by decide) hc).1
                                    by_cases hd : d9 = 47
                                    · have g2 : ((d9.toNat : Int) == 47) = true := (u8eq (n := 47) (by decide) hd).1
                                      have HLow := Lib.hid (fun W : World => lowered_any (s.extract (j + 2) (j + 2 + y.name.length)) W (by rw [← lst_length, lst_extract, List.length_take, List.length_drop, lst_length]; omega))
                                      obtain ⟨SL, hSL⟩ : ∃ SL, small (lst (s.extract (j + 2) (j + 2 + y.name.length))) = SL := ⟨_, rfl⟩
                                      rw [hSL] at HLow HRS
                                      have ht1 := toList_mk SL
                                      have ht2 := toList_mk y.name
                                      clear hSL
                                      cases hq : (SL == y.name) with
                                      | true =>
                                        have hq2 : SL = y.name := beq_iff_eq.1 hq
                                        rw [hq2] at HLow ht1 HRS
                                        have HRS := Lib.hid (show rawStop y.name ((lst s).drop j) = nameEnd.contains e9 by rw [HRS.out, hc, hd]; simp)
                                        clear hq hq2 ht1
                                        cases hsp : spaces.contains e9 with
                                        | true =>
                                          have HRS := Lib.hid (show rawStop y.name ((lst s).drop j) = true by rw [HRS.out, nameEnd_eq, hsp]; simp)
                                          have HSp := Lib.hid (isSpace_any e9)
                                          rw [hsp] at HSp
                                          clear hsp hc hd
                                          obtain ⟨VL, hVL⟩ : ∃ VL : List Value, VL = [.int .i64 ((j : Int) + 2 + (y.name.length : Int)), .string s, .int .i64 s.size, .bool true, .bool true, .string s, .int .i64 j, .int .u8 c9.toNat, .bool true, .bool true, .bool true, .string s, .int .i64 j, .int .i64 ((j : Int) + 1), .int .u8 d9.toNat, .bool true, .bool true, .bool true, .string s, .int .i64 j, .int .i64 ((j : Int) + 2), .int .i64 ((j : Int) + 2 + (y.name.length : Int)), .string (s.extract (j + 2) (j + 2 + y.name.length)), .string (mk y.name), .pointer (some ⟨w1.heap.size, 1, none⟩), .string (mk y.name), .bool true, .bool true, .bool true, .string s, .int .i64 ((j : Int) + 2 + (y.name.length : Int)), .int .u8 e9.toNat, .bool true, .bool true, undef, undef, undef, undef, .bool true, .bool true, undef, undef, undef, undef, .bool true, .bool true] := ⟨_, rfl⟩
                                          have vq : ∀ (i : Nat) (v : Value), VL[i]? = some v → VL.getD i undef = v := fun i v h => by simp [List.getD, h]
                                          have VQ := Lib.hid vq
                                          have HVL := Lib.hid hVL
                                          clear vq hVL
                                          refine wp_region_vals (by kernel_rfl) (fun i o hi => ?hac) 188 46 (fun i => VL.getD i undef) (fun w' => Hid (TS w.heap.size w w' s X [] tv7) ∧ Hid (TokBlk w' w1.heap.size 1 (mk y.name) (.slice vA y.attrs.length vC) y.self)) ?hn ?hz (fun i o hi => ?hdst) ⟨Lib.hid HTr.out.drew, HBr⟩ (fun i o hi => ?hstep) (fun w' hS' => ?hend)
                                          case hn => rfl
                                          case hz => exact Nat.le_of_ble_eq_true rfl
                                          case hac => as_aux_lemma =>
                                            have hlt : i < 46 := (Array.getElem?_eq_some_iff.1 hi).1
                                            have hw46 : i = 0 ∨ i = 1 ∨ i = 2 ∨ i = 3 ∨ i = 4 ∨ i = 5 ∨ i = 6 ∨ i = 7 ∨ i = 8 ∨ i = 9 ∨ i = 10 ∨ i = 11 ∨ i = 12 ∨ i = 13 ∨ i = 14 ∨ i = 15 ∨ i = 16 ∨ i = 17 ∨ i = 18 ∨ i = 19 ∨ i = 20 ∨ i = 21 ∨ i = 22 ∨ i = 23 ∨ i = 24 ∨ i = 25 ∨ i = 26 ∨ i = 27 ∨ i = 28 ∨ i = 29 ∨ i = 30 ∨ i = 31 ∨ i = 32 ∨ i = 33 ∨ i = 34 ∨ i = 35 ∨ i = 36 ∨ i = 37 ∨ i = 38 ∨ i = 39 ∨ i = 40 ∨ i = 41 ∨ i = 42 ∨ i = 43 ∨ i = 44 ∨ i = 45 := by omega
                                            rcases hw46 with rfl | rfl | rfl | rfl | rfl | rfl | rfl | rfl | rfl | rfl | rfl | rfl | rfl | rfl | rfl | rfl | rfl | rfl | rfl | rfl | rfl | rfl | rfl | rfl | rfl | rfl | rfl | rfl | rfl | rfl | rfl | rfl | rfl | rfl | rfl | rfl | rfl | rfl | rfl | rfl | rfl | rfl | rfl | rfl | rfl | rfl <;> (change some _ = some o at hi; cases hi; simp)
                                          case hdst => as_aux_lemma =>
                                            have hlt : i < 46 := (Array.getElem?_eq_some_iff.1 hi).1
                                            have hw46 : i = 0 ∨ i = 1 ∨ i = 2 ∨ i = 3 ∨ i = 4 ∨ i = 5 ∨ i = 6 ∨ i = 7 ∨ i = 8 ∨ i = 9 ∨ i = 10 ∨ i = 11 ∨ i = 12 ∨ i = 13 ∨ i = 14 ∨ i = 15 ∨ i = 16 ∨ i = 17 ∨ i = 18 ∨ i = 19 ∨ i = 20 ∨ i = 21 ∨ i = 22 ∨ i = 23 ∨ i = 24 ∨ i = 25 ∨ i = 26 ∨ i = 27 ∨ i = 28 ∨ i = 29 ∨ i = 30 ∨ i = 31 ∨ i = 32 ∨ i = 33 ∨ i = 34 ∨ i = 35 ∨ i = 36 ∨ i = 37 ∨ i = 38 ∨ i = 39 ∨ i = 40 ∨ i = 41 ∨ i = 42 ∨ i = 43 ∨ i = 44 ∨ i = 45 := by omega
                                            rcases hw46 with rfl | rfl | rfl | rfl | rfl | rfl | rfl | rfl | rfl | rfl | rfl | rfl | rfl | rfl | rfl | rfl | rfl | rfl | rfl | rfl | rfl | rfl | rfl | rfl | rfl | rfl | rfl | rfl | rfl | rfl | rfl | rfl | rfl | rfl | rfl | rfl | rfl | rfl | rfl | rfl | rfl | rfl | rfl | rfl | rfl | rfl <;> (change some _ = some o at hi; cases hi; rfl)
                                          case hend => as_aux_lemma =>
                                            have h45 : VL.getD 45 undef = .bool true := VQ.out 45 _ (by rw [HVL.out]; rfl)
                                            obtain ⟨VV, hVV⟩ : ∃ VV : Nat → Value, (fun i => VL.getD i undef) = VV := ⟨_, rfl⟩
                                            have h45b : VV 45 = .bool true := by rw [← hVV]; exact h45
                                            rw [hVV]
                                            clear hVV h45
                                            simp only [fillB, Act.put, Nat.reduceAdd, List.setIfInBounds_toArray, List.set_cons_zero, List.set_cons_succ]
                                            go_step
                                            go_step
                                            go_meet
                                            exact ⟨by rw [h45b, HRS.out], hS'.1, hS'.2⟩
                                          case hstep => as_aux_lemma =>
                                            intro ax wx hS ho hd K9 hK
                                            have e1 : ax.tmps[1]? = some (.pointer (some ⟨w.heap.size, 0, none⟩)) := (ho 1 (by omega)).trans rfl
                                            have e7 : ax.tmps[7]? = some (.int .i64 j) := (ho 7 (by omega)).trans rfl
                                            have e12 : ax.tmps[12]? = some (.pointer (some ⟨w1.heap.size, 0, none⟩)) := (ho 12 (by omega)).trans rfl
                                            have e16 : ax.tmps[16]? = some (.int .i64 ((j : Int) + 2 + (y.name.length : Int))) := (ho 16 (by omega)).trans rfl
                                            have y0 := hS.1.out.b0.all.1
                                            have y1 := hS.2.out.all.2.1
                                            clear x0 x1 ho
                                            have hlt : i < 46 := (Array.getElem?_eq_some_iff.1 hi).1
                                            have hw46 : i = 0 ∨ i = 1 ∨ i = 2 ∨ i = 3 ∨ i = 4 ∨ i = 5 ∨ i = 6 ∨ i = 7 ∨ i = 8 ∨ i = 9 ∨ i = 10 ∨ i = 11 ∨ i = 12 ∨ i = 13 ∨ i = 14 ∨ i = 15 ∨ i = 16 ∨ i = 17 ∨ i = 18 ∨ i = 19 ∨ i = 20 ∨ i = 21 ∨ i = 22 ∨ i = 23 ∨ i = 24 ∨ i = 25 ∨ i = 26 ∨ i = 27 ∨ i = 28 ∨ i = 29 ∨ i = 30 ∨ i = 31 ∨ i = 32 ∨ i = 33 ∨ i = 34 ∨ i = 35 ∨ i = 36 ∨ i = 37 ∨ i = 38 ∨ i = 39 ∨ i = 40 ∨ i = 41 ∨ i = 42 ∨ i = 43 ∨ i = 44 ∨ i = 45 := by omega
                                            clear hlt
                                            rcases hw46 with rfl | rfl | rfl | rfl | rfl | rfl | rfl | rfl | rfl | rfl | rfl | rfl | rfl | rfl | rfl | rfl | rfl | rfl | rfl | rfl | rfl | rfl | rfl | rfl | rfl | rfl | rfl | rfl | rfl | rfl | rfl | rfl | rfl | rfl | rfl | rfl | rfl | rfl | rfl | rfl | rfl | rfl | rfl | rfl | rfl | rfl
                                            · change some _ = some o at hi
                                              cases hi
                                              have hv : VL.getD 0 undef = .int .i64 ((j : Int) + 2 + (y.name.length : Int)) := VQ.out 0 _ (by rw [HVL.out]; rfl)
                                              rw [hv] at hK
                                              have HK9 := Lib.hid hK
                                              clear hd hK hv
                                              go_simp
                                              exact HK9.out _ hS
                                            · change some _ = some o at hi
                                              cases hi
                                              have hv : VL.getD 1 undef = .string s := VQ.out 1 _ (by rw [HVL.out]; rfl)
                                              rw [hv] at hK
                                              have HK9 := Lib.hid hK
                                              clear hd hK hv
                                              go_simp
                                              exact HK9.out _ hS
                                            · change some _ = some o at hi
                                              cases hi
                                              have q1 : ax.tmps[189]? = some (.string s) := by rw [← VQ.out 1 (.string s) (by rw [HVL.out]; rfl)]; exact hd ⟨1, .data⟩ (by simp) rfl
                                              have hv : VL.getD 2 undef = .int .i64 s.size := VQ.out 2 _ (by rw [HVL.out]; rfl)
                                              rw [hv] at hK
                                              have HK9 := Lib.hid hK
                                              clear hd hK hv
                                              go_simp
                                              exact HK9.out _ hS
                                            · change some _ = some o at hi
                                              cases hi
                                              have q0 : ax.tmps[188]? = some (.int .i64 ((j : Int) + 2 + (y.name.length : Int))) := by rw [← VQ.out 0 (.int .i64 ((j : Int) + 2 + (y.name.length : Int))) (by rw [HVL.out]; rfl)]; exact hd ⟨0, .data⟩ (by simp) rfl
                                              have q2 : ax.tmps[190]? = some (.int .i64 s.size) := by rw [← VQ.out 2 (.int .i64 s.size) (by rw [HVL.out]; rfl)]; exact hd ⟨2, .data⟩ (by simp) rfl
                                              have hv : VL.getD 3 undef = .bool true := VQ.out 3 _ (by rw [HVL.out]; rfl)
                                              rw [hv] at hK
                                              have HK9 := Lib.hid hK
                                              clear hd hK hv
                                              go_simp
                                              exact HK9.out _ hS
                                            · change some _ = some o at hi
                                              cases hi
                                              have q3 : ax.tmps[191]? = some (.bool true) := by rw [← VQ.out 3 (.bool true) (by rw [HVL.out]; rfl)]; exact hd ⟨3, .data⟩ (by simp) rfl
                                              have hv : VL.getD 4 undef = .bool true := VQ.out 4 _ (by rw [HVL.out]; rfl)
                                              rw [hv] at hK
                                              have HK9 := Lib.hid hK
                                              clear hd hK hv
                                              go_simp
                                              exact HK9.out _ hS
                                            · change some _ = some o at hi
                                              cases hi
                                              have q4 : ax.tmps[192]? = some (.bool true) := by rw [← VQ.out 4 (.bool true) (by rw [HVL.out]; rfl)]; exact hd ⟨4, .guard⟩ (by simp) rfl
                                              have hv : VL.getD 5 undef = .string s := VQ.out 5 _ (by rw [HVL.out]; rfl)
                                              rw [hv] at hK
                                              have HK9 := Lib.hid hK
                                              clear hd hK hv
                                              go_simp
                                              exact HK9.out _ hS
                                            · change some _ = some o at hi
                                              cases hi
                                              have q4 : ax.tmps[192]? = some (.bool true) := by rw [← VQ.out 4 (.bool true) (by rw [HVL.out]; rfl)]; exact hd ⟨4, .guard⟩ (by simp) rfl
                                              have hv : VL.getD 6 undef = .int .i64 j := VQ.out 6 _ (by rw [HVL.out]; rfl)
                                              rw [hv] at hK
                                              have HK9 := Lib.hid hK
                                              clear hd hK hv
                                              go_simp
                                              exact HK9.out _ hS
                                            · change some _ = some o at hi
                                              cases hi
                                              have q5 : ax.tmps[193]? = some (.string s) := by rw [← VQ.out 5 (.string s) (by rw [HVL.out]; rfl)]; exact hd ⟨5, .data⟩ (by simp) rfl
                                              have q6 : ax.tmps[194]? = some (.int .i64 j) := by rw [← VQ.out 6 (.int .i64 j) (by rw [HVL.out]; rfl)]; exact hd ⟨6, .data⟩ (by simp) rfl
                                              have q4 : ax.tmps[192]? = some (.bool true) := by rw [← VQ.out 4 (.bool true) (by rw [HVL.out]; rfl)]; exact hd ⟨4, .guard⟩ (by simp) rfl
                                              have hv : VL.getD 7 undef = .int .u8 c9.toNat := VQ.out 7 _ (by rw [HVL.out]; rfl)
                                              rw [hv] at hK
                                              have HK9 := Lib.hid hK
                                              clear hd hK hv
                                              go_simp
                                              exact HK9.out _ hS
                                            · change some _ = some o at hi
                                              cases hi
                                              have q7 : ax.tmps[195]? = some (.int .u8 c9.toNat) := by rw [← VQ.out 7 (.int .u8 c9.toNat) (by rw [HVL.out]; rfl)]; exact hd ⟨7, .data⟩ (by simp) rfl
                                              have q4 : ax.tmps[192]? = some (.bool true) := by rw [← VQ.out 4 (.bool true) (by rw [HVL.out]; rfl)]; exact hd ⟨4, .guard⟩ (by simp) rfl
                                              have hv : VL.getD 8 undef = .bool true := VQ.out 8 _ (by rw [HVL.out]; rfl)
                                              rw [hv] at hK
                                              have HK9 := Lib.hid hK
                                              clear hd hK hv
                                              go_simp
                                              exact HK9.out _ hS
                                            · change some _ = some o at hi
                                              cases hi
                                              have q4 : ax.tmps[192]? = some (.bool true) := by rw [← VQ.out 4 (.bool true) (by rw [HVL.out]; rfl)]; exact hd ⟨4, .data⟩ (by simp) rfl
                                              have q8 : ax.tmps[196]? = some (.bool true) := by rw [← VQ.out 8 (.bool true) (by rw [HVL.out]; rfl)]; exact hd ⟨8, .data⟩ (by simp) rfl
                                              have hv : VL.getD 9 undef = .bool true := VQ.out 9 _ (by rw [HVL.out]; rfl)
                                              rw [hv] at hK
                                              have HK9 := Lib.hid hK
                                              clear hd hK hv
                                              go_simp
                                              exact HK9.out _ hS
                                            · change some _ = some o at hi
                                              cases hi
                                              have q9 : ax.tmps[197]? = some (.bool true) := by rw [← VQ.out 9 (.bool true) (by rw [HVL.out]; rfl)]; exact hd ⟨9, .data⟩ (by simp) rfl
                                              have hv : VL.getD 10 undef = .bool true := VQ.out 10 _ (by rw [HVL.out]; rfl)
                                              rw [hv] at hK
                                              have HK9 := Lib.hid hK
                                              clear hd hK hv
                                              go_simp
                                              exact HK9.out _ hS
                                            · change some _ = some o at hi
                                              cases hi
                                              have q10 : ax.tmps[198]? = some (.bool true) := by rw [← VQ.out 10 (.bool true) (by rw [HVL.out]; rfl)]; exact hd ⟨10, .guard⟩ (by simp) rfl
                                              have hv : VL.getD 11 undef = .string s := VQ.out 11 _ (by rw [HVL.out]; rfl)
                                              rw [hv] at hK
                                              have HK9 := Lib.hid hK
                                              clear hd hK hv
                                              go_simp
                                              exact HK9.out _ hS
                                            · change some _ = some o at hi
                                              cases hi
                                              have q10 : ax.tmps[198]? = some (.bool true) := by rw [← VQ.out 10 (.bool true) (by rw [HVL.out]; rfl)]; exact hd ⟨10, .guard⟩ (by simp) rfl
                                              have hv : VL.getD 12 undef = .int .i64 j := VQ.out 12 _ (by rw [HVL.out]; rfl)
                                              rw [hv] at hK
                                              have HK9 := Lib.hid hK
                                              clear hd hK hv
                                              go_simp
                                              exact HK9.out _ hS
                                            · change some _ = some o at hi
                                              cases hi
                                              have q12 : ax.tmps[200]? = some (.int .i64 j) := by rw [← VQ.out 12 (.int .i64 j) (by rw [HVL.out]; rfl)]; exact hd ⟨12, .data⟩ (by simp) rfl
                                              have q10 : ax.tmps[198]? = some (.bool true) := by rw [← VQ.out 10 (.bool true) (by rw [HVL.out]; rfl)]; exact hd ⟨10, .guard⟩ (by simp) rfl
                                              have hv : VL.getD 13 undef = .int .i64 ((j : Int) + 1) := VQ.out 13 _ (by rw [HVL.out]; rfl)
                                              rw [hv] at hK
                                              have HK9 := Lib.hid hK
                                              clear hd hK hv
                                              go_simp
                                              exact HK9.out _ hS
                                            · change some _ = some o at hi
                                              cases hi
                                              have q11 : ax.tmps[199]? = some (.string s) := by rw [← VQ.out 11 (.string s) (by rw [HVL.out]; rfl)]; exact hd ⟨11, .data⟩ (by simp) rfl
                                              have q13 : ax.tmps[201]? = some (.int .i64 ((j : Int) + 1)) := by rw [← VQ.out 13 (.int .i64 ((j : Int) + 1)) (by rw [HVL.out]; rfl)]; exact hd ⟨13, .data⟩ (by simp) rfl
                                              have q10 : ax.tmps[198]? = some (.bool true) := by rw [← VQ.out 10 (.bool true) (by rw [HVL.out]; rfl)]; exact hd ⟨10, .guard⟩ (by simp) rfl
                                              have hv : VL.getD 14 undef = .int .u8 d9.toNat := VQ.out 14 _ (by rw [HVL.out]; rfl)
                                              rw [hv] at hK
                                              have HK9 := Lib.hid hK
                                              clear hd hK hv
                                              go_simp
                                              exact HK9.out _ hS
                                            · change some _ = some o at hi
                                              cases hi
                                              have q14 : ax.tmps[202]? = some (.int .u8 d9.toNat) := by rw [← VQ.out 14 (.int .u8 d9.toNat) (by rw [HVL.out]; rfl)]; exact hd ⟨14, .data⟩ (by simp) rfl
                                              have q10 : ax.tmps[198]? = some (.bool true) := by rw [← VQ.out 10 (.bool true) (by rw [HVL.out]; rfl)]; exact hd ⟨10, .guard⟩ (by simp) rfl
                                              have hv : VL.getD 15 undef = .bool true := VQ.out 15 _ (by rw [HVL.out]; rfl)
                                              rw [hv] at hK
                                              have HK9 := Lib.hid hK
                                              clear hd hK hv
                                              go_simp
                                              exact HK9.out _ hS
                                            · change some _ = some o at hi
                                              cases hi
                                              have q10 : ax.tmps[198]? = some (.bool true) := by rw [← VQ.out 10 (.bool true) (by rw [HVL.out]; rfl)]; exact hd ⟨10, .data⟩ (by simp) rfl
                                              have q15 : ax.tmps[203]? = some (.bool true) := by rw [← VQ.out 15 (.bool true) (by rw [HVL.out]; rfl)]; exact hd ⟨15, .data⟩ (by simp) rfl
                                              have hv : VL.getD 16 undef = .bool true := VQ.out 16 _ (by rw [HVL.out]; rfl)
                                              rw [hv] at hK
                                              have HK9 := Lib.hid hK
                                              clear hd hK hv
                                              go_simp
                                              exact HK9.out _ hS
                                            · change some _ = some o at hi
                                              cases hi
                                              have q16 : ax.tmps[204]? = some (.bool true) := by rw [← VQ.out 16 (.bool true) (by rw [HVL.out]; rfl)]; exact hd ⟨16, .data⟩ (by simp) rfl
                                              have hv : VL.getD 17 undef = .bool true := VQ.out 17 _ (by rw [HVL.out]; rfl)
                                              rw [hv] at hK
                                              have HK9 := Lib.hid hK
                                              clear hd hK hv
                                              go_simp
                                              exact HK9.out _ hS
                                            · change some _ = some o at hi
                                              cases hi
                                              have q17 : ax.tmps[205]? = some (.bool true) := by rw [← VQ.out 17 (.bool true) (by rw [HVL.out]; rfl)]; exact hd ⟨17, .guard⟩ (by simp) rfl
                                              have hv : VL.getD 18 undef = .string s := VQ.out 18 _ (by rw [HVL.out]; rfl)
                                              rw [hv] at hK
                                              have HK9 := Lib.hid hK
                                              clear hd hK hv
                                              go_simp
                                              exact HK9.out _ hS
                                            · change some _ = some o at hi
                                              cases hi
                                              have q17 : ax.tmps[205]? = some (.bool true) := by rw [← VQ.out 17 (.bool true) (by rw [HVL.out]; rfl)]; exact hd ⟨17, .guard⟩ (by simp) rfl
                                              have hv : VL.getD 19 undef = .int .i64 j := VQ.out 19 _ (by rw [HVL.out]; rfl)
                                              rw [hv] at hK
                                              have HK9 := Lib.hid hK
                                              clear hd hK hv
                                              go_simp
                                              exact HK9.out _ hS
                                            · change some _ = some o at hi
                                              cases hi
                                              have q19 : ax.tmps[207]? = some (.int .i64 j) := by rw [← VQ.out 19 (.int .i64 j) (by rw [HVL.out]; rfl)]; exact hd ⟨19, .data⟩ (by simp) rfl
                                              have q17 : ax.tmps[205]? = some (.bool true) := by rw [← VQ.out 17 (.bool true) (by rw [HVL.out]; rfl)]; exact hd ⟨17, .guard⟩ (by simp) rfl
                                              have hv : VL.getD 20 undef = .int .i64 ((j : Int) + 2) := VQ.out 20 _ (by rw [HVL.out]; rfl)
                                              rw [hv] at hK
                                              have HK9 := Lib.hid hK
                                              clear hd hK hv
                                              go_simp
                                              exact HK9.out _ hS
                                            · change some _ = some o at hi
                                              cases hi
                                              have q17 : ax.tmps[205]? = some (.bool true) := by rw [← VQ.out 17 (.bool true) (by rw [HVL.out]; rfl)]; exact hd ⟨17, .guard⟩ (by simp) rfl
                                              have hv : VL.getD 21 undef = .int .i64 ((j : Int) + 2 + (y.name.length : Int)) := VQ.out 21 _ (by rw [HVL.out]; rfl)
                                              rw [hv] at hK
                                              have HK9 := Lib.hid hK
                                              clear hd hK hv
                                              go_simp
                                              exact HK9.out _ hS
                                            · change some _ = some o at hi
                                              cases hi
                                              have q18 : ax.tmps[206]? = some (.string s) := by rw [← VQ.out 18 (.string s) (by rw [HVL.out]; rfl)]; exact hd ⟨18, .data⟩ (by simp) rfl
                                              have q20 : ax.tmps[208]? = some (.int .i64 ((j : Int) + 2)) := by rw [← VQ.out 20 (.int .i64 ((j : Int) + 2)) (by rw [HVL.out]; rfl)]; exact hd ⟨20, .data⟩ (by simp) rfl
                                              have q21 : ax.tmps[209]? = some (.int .i64 ((j : Int) + 2 + (y.name.length : Int))) := by rw [← VQ.out 21 (.int .i64 ((j : Int) + 2 + (y.name.length : Int))) (by rw [HVL.out]; rfl)]; exact hd ⟨21, .data⟩ (by simp) rfl
                                              have q17 : ax.tmps[205]? = some (.bool true) := by rw [← VQ.out 17 (.bool true) (by rw [HVL.out]; rfl)]; exact hd ⟨17, .guard⟩ (by simp) rfl
                                              have hv : VL.getD 22 undef = .string (s.extract (j + 2) (j + 2 + y.name.length)) := VQ.out 22 _ (by rw [HVL.out]; rfl)
                                              rw [hv] at hK
                                              have HK9 := Lib.hid hK
                                              clear hd hK hv
                                              go_simp
                                              exact HK9.out _ hS
                                            · change some _ = some o at hi
                                              cases hi
                                              have q22 : ax.tmps[210]? = some (.string (s.extract (j + 2) (j + 2 + y.name.length))) := by rw [← VQ.out 22 (.string (s.extract (j + 2) (j + 2 + y.name.length))) (by rw [HVL.out]; rfl)]; exact hd ⟨22, .data⟩ (by simp) rfl
                                              have q17 : ax.tmps[205]? = some (.bool true) := by rw [← VQ.out 17 (.bool true) (by rw [HVL.out]; rfl)]; exact hd ⟨17, .guard⟩ (by simp) rfl
                                              have hv : VL.getD 23 undef = .string (mk y.name) := VQ.out 23 _ (by rw [HVL.out]; rfl)
                                              rw [hv] at hK
                                              have HK9 := Lib.hid hK
                                              clear hd hK hv
                                              go_simp
                                              refine (HLow.out _).mono ?_
                                              rintro e w4 ⟨rfl, hb4⟩
                                              exact HK9.out _ ⟨Lib.hid (hS.1.out.older hb4), Lib.hid (TokBlk.older hS.2.out hb4)⟩
                                            · change some _ = some o at hi
                                              cases hi
                                              have q17 : ax.tmps[205]? = some (.bool true) := by rw [← VQ.out 17 (.bool true) (by rw [HVL.out]; rfl)]; exact hd ⟨17, .guard⟩ (by simp) rfl
                                              have hv : VL.getD 24 undef = .pointer (some ⟨w1.heap.size, 1, none⟩) := VQ.out 24 _ (by rw [HVL.out]; rfl)
                                              rw [hv] at hK
                                              have HK9 := Lib.hid hK
                                              clear hd hK hv
                                              go_simp
                                              exact HK9.out _ hS
                                            · change some _ = some o at hi
                                              cases hi
                                              have q24 : ax.tmps[212]? = some (.pointer (some ⟨w1.heap.size, 1, none⟩)) := by rw [← VQ.out 24 (.pointer (some ⟨w1.heap.size, 1, none⟩)) (by rw [HVL.out]; rfl)]; exact hd ⟨24, .data⟩ (by simp) rfl
                                              have q17 : ax.tmps[205]? = some (.bool true) := by rw [← VQ.out 17 (.bool true) (by rw [HVL.out]; rfl)]; exact hd ⟨17, .guard⟩ (by simp) rfl
                                              have hv : VL.getD 25 undef = .string (mk y.name) := VQ.out 25 _ (by rw [HVL.out]; rfl)
                                              rw [hv] at hK
                                              have HK9 := Lib.hid hK
                                              clear hd hK hv
                                              go_simp
                                              exact HK9.out _ hS
                                            · change some _ = some o at hi
                                              cases hi
                                              have q23 : ax.tmps[211]? = some (.string (mk y.name)) := by rw [← VQ.out 23 (.string (mk y.name)) (by rw [HVL.out]; rfl)]; exact hd ⟨23, .data⟩ (by simp) rfl
                                              have q25 : ax.tmps[213]? = some (.string (mk y.name)) := by rw [← VQ.out 25 (.string (mk y.name)) (by rw [HVL.out]; rfl)]; exact hd ⟨25, .data⟩ (by simp) rfl
                                              have q17 : ax.tmps[205]? = some (.bool true) := by rw [← VQ.out 17 (.bool true) (by rw [HVL.out]; rfl)]; exact hd ⟨17, .guard⟩ (by simp) rfl
                                              have hv : VL.getD 26 undef = .bool true := VQ.out 26 _ (by rw [HVL.out]; rfl)
                                              rw [hv] at hK
                                              have HK9 := Lib.hid hK
                                              clear hd hK hv
                                              go_simp
                                              exact HK9.out _ hS
                                            · change some _ = some o at hi
                                              cases hi
                                              have q17 : ax.tmps[205]? = some (.bool true) := by rw [← VQ.out 17 (.bool true) (by rw [HVL.out]; rfl)]; exact hd ⟨17, .data⟩ (by simp) rfl
                                              have q26 : ax.tmps[214]? = some (.bool true) := by rw [← VQ.out 26 (.bool true) (by rw [HVL.out]; rfl)]; exact hd ⟨26, .data⟩ (by simp) rfl
                                              have hv : VL.getD 27 undef = .bool true := VQ.out 27 _ (by rw [HVL.out]; rfl)
                                              rw [hv] at hK
                                              have HK9 := Lib.hid hK
                                              clear hd hK hv
                                              go_simp
                                              exact HK9.out _ hS
                                            · change some _ = some o at hi
                                              cases hi
                                              have q27 : ax.tmps[215]? = some (.bool true) := by rw [← VQ.out 27 (.bool true) (by rw [HVL.out]; rfl)]; exact hd ⟨27, .data⟩ (by simp) rfl
                                              have hv : VL.getD 28 undef = .bool true := VQ.out 28 _ (by rw [HVL.out]; rfl)
                                              rw [hv] at hK
                                              have HK9 := Lib.hid hK
                                              clear hd hK hv
                                              go_simp
                                              exact HK9.out _ hS
                                            · change some _ = some o at hi
                                              cases hi
                                              have q28 : ax.tmps[216]? = some (.bool true) := by rw [← VQ.out 28 (.bool true) (by rw [HVL.out]; rfl)]; exact hd ⟨28, .guard⟩ (by simp) rfl
                                              have hv : VL.getD 29 undef = .string s := VQ.out 29 _ (by rw [HVL.out]; rfl)
                                              rw [hv] at hK
                                              have HK9 := Lib.hid hK
                                              clear hd hK hv
                                              go_simp
                                              exact HK9.out _ hS
                                            · change some _ = some o at hi
                                              cases hi
                                              have q28 : ax.tmps[216]? = some (.bool true) := by rw [← VQ.out 28 (.bool true) (by rw [HVL.out]; rfl)]; exact hd ⟨28, .guard⟩ (by simp) rfl
                                              have hv : VL.getD 30 undef = .int .i64 ((j : Int) + 2 + (y.name.length : Int)) := VQ.out 30 _ (by rw [HVL.out]; rfl)
                                              rw [hv] at hK
                                              have HK9 := Lib.hid hK
                                              clear hd hK hv
                                              go_simp
                                              exact HK9.out _ hS
                                            · change some _ = some o at hi
                                              cases hi
                                              have q29 : ax.tmps[217]? = some (.string s) := by rw [← VQ.out 29 (.string s) (by rw [HVL.out]; rfl)]; exact hd ⟨29, .data⟩ (by simp) rfl
                                              have q30 : ax.tmps[218]? = some (.int .i64 ((j : Int) + 2 + (y.name.length : Int))) := by rw [← VQ.out 30 (.int .i64 ((j : Int) + 2 + (y.name.length : Int))) (by rw [HVL.out]; rfl)]; exact hd ⟨30, .data⟩ (by simp) rfl
                                              have q28 : ax.tmps[216]? = some (.bool true) := by rw [← VQ.out 28 (.bool true) (by rw [HVL.out]; rfl)]; exact hd ⟨28, .guard⟩ (by simp) rfl
                                              have hv : VL.getD 31 undef = .int .u8 e9.toNat := VQ.out 31 _ (by rw [HVL.out]; rfl)
                                              rw [hv] at hK
                                              have HK9 := Lib.hid hK
                                              clear hd hK hv
                                              go_simp
                                              exact HK9.out _ hS
                                            · change some _ = some o at hi
                                              cases hi
                                              have q31 : ax.tmps[219]? = some (.int .u8 e9.toNat) := by rw [← VQ.out 31 (.int .u8 e9.toNat) (by rw [HVL.out]; rfl)]; exact hd ⟨31, .data⟩ (by simp) rfl
                                              have q28 : ax.tmps[216]? = some (.bool true) := by rw [← VQ.out 28 (.bool true) (by rw [HVL.out]; rfl)]; exact hd ⟨28, .guard⟩ (by simp) rfl
                                              have hv : VL.getD 32 undef = .bool true := VQ.out 32 _ (by rw [HVL.out]; rfl)
                                              rw [hv] at hK
                                              have HK9 := Lib.hid hK
                                              clear hd hK hv
                                              go_simp
                                              refine (HSp.out _).mono ?_
                                              rintro e w5 ⟨rfl, hw5⟩
                                              rw [← hw5]
                                              exact HK9.out _ hS
                                            · change some _ = some o at hi
                                              cases hi
                                              have q32 : ax.tmps[220]? = some (.bool true) := by rw [← VQ.out 32 (.bool true) (by rw [HVL.out]; rfl)]; exact hd ⟨32, .data⟩ (by simp) rfl
                                              have q28 : ax.tmps[216]? = some (.bool true) := by rw [← VQ.out 28 (.bool true) (by rw [HVL.out]; rfl)]; exact hd ⟨28, .guard⟩ (by simp) rfl
                                              have hv : VL.getD 33 undef = .bool true := VQ.out 33 _ (by rw [HVL.out]; rfl)
                                              rw [hv] at hK
                                              have HK9 := Lib.hid hK
                                              clear hd hK hv
                                              go_simp
                                              exact HK9.out _ hS
                                            · change some _ = some o at hi
                                              cases hi
                                              have q33 : ax.tmps[221]? = some (.bool true) := by rw [← VQ.out 33 (.bool true) (by rw [HVL.out]; rfl)]; exact hd ⟨33, .guard⟩ (by simp) rfl
                                              have hv : VL.getD 34 undef = undef := VQ.out 34 _ (by rw [HVL.out]; rfl)
                                              clear hd hK
                                              go_simp
                                              exact hv
                                            · change some _ = some o at hi
                                              cases hi
                                              have q33 : ax.tmps[221]? = some (.bool true) := by rw [← VQ.out 33 (.bool true) (by rw [HVL.out]; rfl)]; exact hd ⟨33, .guard⟩ (by simp) rfl
                                              have hv : VL.getD 35 undef = undef := VQ.out 35 _ (by rw [HVL.out]; rfl)
                                              clear hd hK
                                              go_simp
                                              exact hv
                                            · change some _ = some o at hi
                                              cases hi
                                              have q34 : ax.tmps[222]? = some (undef) := by rw [← VQ.out 34 (undef) (by rw [HVL.out]; rfl)]; exact hd ⟨34, .data⟩ (by simp) rfl
                                              have q35 : ax.tmps[223]? = some (undef) := by rw [← VQ.out 35 (undef) (by rw [HVL.out]; rfl)]; exact hd ⟨35, .data⟩ (by simp) rfl
                                              have q33 : ax.tmps[221]? = some (.bool true) := by rw [← VQ.out 33 (.bool true) (by rw [HVL.out]; rfl)]; exact hd ⟨33, .guard⟩ (by simp) rfl
                                              have hv : VL.getD 36 undef = undef := VQ.out 36 _ (by rw [HVL.out]; rfl)
                                              clear hd hK
                                              go_simp
                                              exact hv
                                            · change some _ = some o at hi
                                              cases hi
                                              have q36 : ax.tmps[224]? = some (undef) := by rw [← VQ.out 36 (undef) (by rw [HVL.out]; rfl)]; exact hd ⟨36, .data⟩ (by simp) rfl
                                              have q33 : ax.tmps[221]? = some (.bool true) := by rw [← VQ.out 33 (.bool true) (by rw [HVL.out]; rfl)]; exact hd ⟨33, .guard⟩ (by simp) rfl
                                              have hv : VL.getD 37 undef = undef := VQ.out 37 _ (by rw [HVL.out]; rfl)
                                              clear hd hK
                                              go_simp
                                              exact hv
                                            · change some _ = some o at hi
                                              cases hi
                                              have q33 : ax.tmps[221]? = some (.bool true) := by rw [← VQ.out 33 (.bool true) (by rw [HVL.out]; rfl)]; exact hd ⟨33, .data⟩ (by simp) rfl
                                              have q37 : ax.tmps[225]? = some (undef) := by rw [← VQ.out 37 (undef) (by rw [HVL.out]; rfl)]; exact hd ⟨37, .data⟩ (by simp) rfl
                                              have q28 : ax.tmps[216]? = some (.bool true) := by rw [← VQ.out 28 (.bool true) (by rw [HVL.out]; rfl)]; exact hd ⟨28, .guard⟩ (by simp) rfl
                                              have hv : VL.getD 38 undef = .bool true := VQ.out 38 _ (by rw [HVL.out]; rfl)
                                              rw [hv] at hK
                                              have HK9 := Lib.hid hK
                                              clear hd hK hv
                                              go_simp
                                              exact HK9.out _ hS
                                            · change some _ = some o at hi
                                              cases hi
                                              have q38 : ax.tmps[226]? = some (.bool true) := by rw [← VQ.out 38 (.bool true) (by rw [HVL.out]; rfl)]; exact hd ⟨38, .data⟩ (by simp) rfl
                                              have q28 : ax.tmps[216]? = some (.bool true) := by rw [← VQ.out 28 (.bool true) (by rw [HVL.out]; rfl)]; exact hd ⟨28, .guard⟩ (by simp) rfl
                                              have hv : VL.getD 39 undef = .bool true := VQ.out 39 _ (by rw [HVL.out]; rfl)
                                              rw [hv] at hK
                                              have HK9 := Lib.hid hK
                                              clear hd hK hv
                                              go_simp
                                              exact HK9.out _ hS
                                            · change some _ = some o at hi
                                              cases hi
                                              have q39 : ax.tmps[227]? = some (.bool true) := by rw [← VQ.out 39 (.bool true) (by rw [HVL.out]; rfl)]; exact hd ⟨39, .guard⟩ (by simp) rfl
                                              have hv : VL.getD 40 undef = undef := VQ.out 40 _ (by rw [HVL.out]; rfl)
                                              clear hd hK
                                              go_simp
                                              exact hv
                                            · change some _ = some o at hi
                                              cases hi
                                              have q39 : ax.tmps[227]? = some (.bool true) := by rw [← VQ.out 39 (.bool true) (by rw [HVL.out]; rfl)]; exact hd ⟨39, .guard⟩ (by simp) rfl
                                              have hv : VL.getD 41 undef = undef := VQ.out 41 _ (by rw [HVL.out]; rfl)
                                              clear hd hK
                                              go_simp
                                              exact hv
                                            · change some _ = some o at hi
                                              cases hi
                                              have q40 : ax.tmps[228]? = some (undef) := by rw [← VQ.out 40 (undef) (by rw [HVL.out]; rfl)]; exact hd ⟨40, .data⟩ (by simp) rfl
                                              have q41 : ax.tmps[229]? = some (undef) := by rw [← VQ.out 41 (undef) (by rw [HVL.out]; rfl)]; exact hd ⟨41, .data⟩ (by simp) rfl
                                              have q39 : ax.tmps[227]? = some (.bool true) := by rw [← VQ.out 39 (.bool true) (by rw [HVL.out]; rfl)]; exact hd ⟨39, .guard⟩ (by simp) rfl
                                              have hv : VL.getD 42 undef = undef := VQ.out 42 _ (by rw [HVL.out]; rfl)
                                              clear hd hK
                                              go_simp
                                              exact hv
                                            · change some _ = some o at hi
                                              cases hi
                                              have q42 : ax.tmps[230]? = some (undef) := by rw [← VQ.out 42 (undef) (by rw [HVL.out]; rfl)]; exact hd ⟨42, .data⟩ (by simp) rfl
                                              have q39 : ax.tmps[227]? = some (.bool true) := by rw [← VQ.out 39 (.bool true) (by rw [HVL.out]; rfl)]; exact hd ⟨39, .guard⟩ (by simp) rfl
                                              have hv : VL.getD 43 undef = undef := VQ.out 43 _ (by rw [HVL.out]; rfl)
                                              clear hd hK
                                              go_simp
                                              exact hv
                                            · change some _ = some o at hi
                                              cases hi
                                              have q39 : ax.tmps[227]? = some (.bool true) := by rw [← VQ.out 39 (.bool true) (by rw [HVL.out]; rfl)]; exact hd ⟨39, .data⟩ (by simp) rfl
                                              have q43 : ax.tmps[231]? = some (undef) := by rw [← VQ.out 43 (undef) (by rw [HVL.out]; rfl)]; exact hd ⟨43, .data⟩ (by simp) rfl
                                              have q28 : ax.tmps[216]? = some (.bool true) := by rw [← VQ.out 28 (.bool true) (by rw [HVL.out]; rfl)]; exact hd ⟨28, .guard⟩ (by simp) rfl
                                              have hv : VL.getD 44 undef = .bool true := VQ.out 44 _ (by rw [HVL.out]; rfl)
                                              rw [hv] at hK
                                              have HK9 := Lib.hid hK
                                              clear hd hK hv
                                              go_simp
                                              exact HK9.out _ hS
                                            · change some _ = some o at hi
                                              cases hi
                                              have q28 : ax.tmps[216]? = some (.bool true) := by rw [← VQ.out 28 (.bool true) (by rw [HVL.out]; rfl)]; exact hd ⟨28, .data⟩ (by simp) rfl
                                              have q44 : ax.tmps[232]? = some (.bool true) := by rw [← VQ.out 44 (.bool true) (by rw [HVL.out]; rfl)]; exact hd ⟨44, .data⟩ (by simp) rfl
                                              have hv : VL.getD 45 undef = .bool true := VQ.out 45 _ (by rw [HVL.out]; rfl)
                                              rw [hv] at hK
                                              have HK9 := Lib.hid hK
                                              clear hd hK hv
                                              go_simp
                                              exact HK9.out _ hS
                                        | false =>
                                          by_cases h47 : e9 = 47
                                          · have HRS := Lib.hid (show rawStop y.name ((lst s).drop j) = true by rw [HRS.out, nameEnd_eq, h47]; simp)
                                            have g3 : ((e9.toNat : Int) == 47) = true := (u8eq (n := 47) (by decide) h47).1
                                            have HSp := Lib.hid (isSpace_any e9)
                                            rw [hsp] at HSp
                                            clear hsp hc hd h47
                                            obtain ⟨VL, hVL⟩ : ∃ VL : List Value, VL = [.int .i64 ((j : Int) + 2 + (y.name.length : Int)), .string s, .int .i64 s.size, .bool true, .bool true, .string s, .int .i64 j, .int .u8 c9.toNat, .bool true, .bool true, .bool true, .string s, .int .i64 j, .int .i64 ((j : Int) + 1), .int .u8 d9.toNat, .bool true, .bool true, .bool true, .string s, .int .i64 j, .int .i64 ((j : Int) + 2), .int .i64 ((j : Int) + 2 + (y.name.length : Int)), .string (s.extract (j + 2) (j + 2 + y.name.length)), .string (mk y.name), .pointer (some ⟨w1.heap.size, 1, none⟩), .string (mk y.name), .bool true, .bool true, .bool true, .string s, .int .i64 ((j : Int) + 2 + (y.name.length : Int)), .int .u8 e9.toNat, .bool false, .bool false, .string s, .int .i64 ((j : Int) + 2 + (y.name.length : Int)), .int .u8 e9.toNat, .bool true, .bool true, .bool true, undef, undef, undef, undef, .bool true, .bool true] := ⟨_, rfl⟩
                                            have vq : ∀ (i : Nat) (v : Value), VL[i]? = some v → VL.getD i undef = v := fun i v h => by simp [List.getD, h]
                                            have VQ := Lib.hid vq
                                            have HVL := Lib.hid hVL
                                            clear vq hVL
                                            refine wp_region_vals (by kernel_rfl) (fun i o hi => ?hac) 188 46 (fun i => VL.getD i undef) (fun w' => Hid (TS w.heap.size w w' s X [] tv7) ∧ Hid (TokBlk w' w1.heap.size 1 (mk y.name) (.slice vA y.attrs.length vC) y.self)) ?hn ?hz (fun i o hi => ?hdst) ⟨Lib.hid HTr.out.drew, HBr⟩ (fun i o hi => ?hstep) (fun w' hS' => ?hend)
                                            case hn => rfl
                                            case hz => exact Nat.le_of_ble_eq_true rfl
                                            case hac => as_aux_lemma =>
                                              have hlt : i < 46 := (Array.getElem?_eq_some_iff.1 hi).1
                                              have hw46 : i = 0 ∨ i = 1 ∨ i = 2 ∨ i = 3 ∨ i = 4 ∨ i = 5 ∨ i = 6 ∨ i = 7 ∨ i = 8 ∨ i = 9 ∨ i = 10 ∨ i = 11 ∨ i = 12 ∨ i = 13 ∨ i = 14 ∨ i = 15 ∨ i = 16 ∨ i = 17 ∨ i = 18 ∨ i = 19 ∨ i = 20 ∨ i = 21 ∨ i = 22 ∨ i = 23 ∨ i = 24 ∨ i = 25 ∨ i = 26 ∨ i = 27 ∨ i = 28 ∨ i = 29 ∨ i = 30 ∨ i = 31 ∨ i = 32 ∨ i = 33 ∨ i = 34 ∨ i = 35 ∨ i = 36 ∨ i = 37 ∨ i = 38 ∨ i = 39 ∨ i = 40 ∨ i = 41 ∨ i = 42 ∨ i = 43 ∨ i = 44 ∨ i = 45 := by omega
                                              rcases hw46 with rfl | rfl | rfl | rfl | rfl | rfl | rfl | rfl | rfl | rfl | rfl | rfl | rfl | rfl | rfl | rfl | rfl | rfl | rfl | rfl | rfl | rfl | rfl | rfl | rfl | rfl | rfl | rfl | rfl | rfl | rfl | rfl | rfl | rfl | rfl | rfl | rfl | rfl | rfl | rfl | rfl | rfl | rfl | rfl | rfl | rfl <;> (change some _ = some o at hi; cases hi; simp)
                                            case hdst => as_aux_lemma =>
                                              have hlt : i < 46 := (Array.getElem?_eq_some_iff.1 hi).1
                                              have hw46 : i = 0 ∨ i = 1 ∨ i = 2 ∨ i = 3 ∨ i = 4 ∨ i = 5 ∨ i = 6 ∨ i = 7 ∨ i = 8 ∨ i = 9 ∨ i = 10 ∨ i = 11 ∨ i = 12 ∨ i = 13 ∨ i = 14 ∨ i = 15 ∨ i = 16 ∨ i = 17 ∨ i = 18 ∨ i = 19 ∨ i = 20 ∨ i = 21 ∨ i = 22 ∨ i = 23 ∨ i = 24 ∨ i = 25 ∨ i = 26 ∨ i = 27 ∨ i = 28 ∨ i = 29 ∨ i = 30 ∨ i = 31 ∨ i = 32 ∨ i = 33 ∨ i = 34 ∨ i = 35 ∨ i = 36 ∨ i = 37 ∨ i = 38 ∨ i = 39 ∨ i = 40 ∨ i = 41 ∨ i = 42 ∨ i = 43 ∨ i = 44 ∨ i = 45 := by omega
                                              rcases hw46 with rfl | rfl | rfl | rfl | rfl | rfl | rfl | rfl | rfl | rfl | rfl | rfl | rfl | rfl | rfl | rfl | rfl | rfl | rfl | rfl | rfl | rfl | rfl | rfl | rfl | rfl | rfl | rfl | rfl | rfl | rfl | rfl | rfl | rfl | rfl | rfl | rfl | rfl | rfl | rfl | rfl | rfl | rfl | rfl | rfl | rfl <;> (change some _ = some o at hi; cases hi; rfl)
                                            case hend => as_aux_lemma =>
                                              have h45 : VL.getD 45 undef = .bool true := VQ.out 45 _ (by rw [HVL.out]; rfl)
                                              obtain ⟨VV, hVV⟩ : ∃ VV : Nat → Value, (fun i => VL.getD i undef) = VV := ⟨_, rfl⟩
                                              have h45b : VV 45 = .bool true := by rw [← hVV]; exact h45
                                              rw [hVV]
                                              clear hVV h45
                                              simp only [fillB, Act.put, Nat.reduceAdd, List.setIfInBounds_toArray, List.set_cons_zero, List.set_cons_succ]
                                              go_step
                                              go_step
                                              go_meet
                                              exact ⟨by rw [h45b, HRS.out], hS'.1, hS'.2⟩
                                            case hstep => as_aux_lemma =>
                                              intro ax wx hS ho hd K9 hK
                                              have e1 : ax.tmps[1]? = some (.pointer (some ⟨w.heap.size, 0, none⟩)) := (ho 1 (by omega)).trans rfl
                                              have e7 : ax.tmps[7]? = some (.int .i64 j) := (ho 7 (by omega)).trans rfl
                                              have e12 : ax.tmps[12]? = some (.pointer (some ⟨w1.heap.size, 0, none⟩)) := (ho 12 (by omega)).trans rfl
                                              have e16 : ax.tmps[16]? = some (.int .i64 ((j : Int) + 2 + (y.name.length : Int))) := (ho 16 (by omega)).trans rfl
                                              have y0 := hS.1.out.b0.all.1
                                              have y1 := hS.2.out.all.2.1
                                              clear x0 x1 ho
                                              have hlt : i < 46 := (Array.getElem?_eq_some_iff.1 hi).1
                                              have hw46 : i = 0 ∨ i = 1 ∨ i = 2 ∨ i = 3 ∨ i = 4 ∨ i = 5 ∨ i = 6 ∨ i = 7 ∨ i = 8 ∨ i = 9 ∨ i = 10 ∨ i = 11 ∨ i = 12 ∨ i = 13 ∨ i = 14 ∨ i = 15 ∨ i = 16 ∨ i = 17 ∨ i = 18 ∨ i = 19 ∨ i = 20 ∨ i = 21 ∨ i = 22 ∨ i = 23 ∨ i = 24 ∨ i = 25 ∨ i = 26 ∨ i = 27 ∨ i = 28 ∨ i = 29 ∨ i = 30 ∨ i = 31 ∨ i = 32 ∨ i = 33 ∨ i = 34 ∨ i = 35 ∨ i = 36 ∨ i = 37 ∨ i = 38 ∨ i = 39 ∨ i = 40 ∨ i = 41 ∨ i = 42 ∨ i = 43 ∨ i = 44 ∨ i = 45 := by omega
                                              clear hlt
                                              rcases hw46 with rfl | rfl | rfl | rfl | rfl | rfl | rfl | rfl | rfl | rfl | rfl | rfl | rfl | rfl | rfl | rfl | rfl | rfl | rfl | rfl | rfl | rfl | rfl | rfl | rfl | rfl | rfl | rfl | rfl | rfl | rfl | rfl | rfl | rfl | rfl | rfl | rfl | rfl | rfl | rfl | rfl | rfl | rfl | rfl | rfl | rfl
                                              · change some _ = some o at hi
                                                cases hi
                                                have hv : VL.getD 0 undef = .int .i64 ((j : Int) + 2 + (y.name.length : Int)) := VQ.out 0 _ (by rw [HVL.out]; rfl)
                                                rw [hv] at hK
                                                have HK9 := Lib.hid hK
                                                clear hd hK hv
                                                go_simp
                                                exact HK9.out _ hS
                                              · change some _ = some o at hi
                                                cases hi
                                                have hv : VL.getD 1 undef = .string s := VQ.out 1 _ (by rw [HVL.out]; rfl)
                                                rw [hv] at hK
                                                have HK9 := Lib.hid hK
                                                clear hd hK hv
                                                go_simp
                                                exact HK9.out _ hS
                                              · change some _ = some o at hi
                                                cases hi
                                                have q1 : ax.tmps[189]? = some (.string s) := by rw [← VQ.out 1 (.string s) (by rw [HVL.out]; rfl)]; exact hd ⟨1, .data⟩ (by simp) rfl
                                                have hv : VL.getD 2 undef = .int .i64 s.size := VQ.out 2 _ (by rw [HVL.out]; rfl)
                                                rw [hv] at hK
                                                have HK9 := Lib.hid hK
                                                clear hd hK hv
                                                go_simp
                                                exact HK9.out _ hS
                                              · change some _ = some o at hi
                                                cases hi
                                                have q0 : ax.tmps[188]? = some (.int .i64 ((j : Int) + 2 + (y.name.length : Int))) := by rw [← VQ.out 0 (.int .i64 ((j : Int) + 2 + (y.name.length : Int))) (by rw [HVL.out]; rfl)]; exact hd ⟨0, .data⟩ (by simp) rfl
                                                have q2 : ax.tmps[190]? = some (.int .i64 s.size) := by rw [← VQ.out 2 (.int .i64 s.size) (by rw [HVL.out]; rfl)]; exact hd ⟨2, .data⟩ (by simp) rfl
                                                have hv : VL.getD 3 undef = .bool true := VQ.out 3 _ (by rw [HVL.out]; rfl)
                                                rw [hv] at hK
                                                have HK9 := Lib.hid hK
                                                clear hd hK hv
                                                go_simp
                                                exact HK9.out _ hS
                                              · change some _ = some o at hi
                                                cases hi
                                                have q3 : ax.tmps[191]? = some (.bool true) := by rw [← VQ.out 3 (.bool true) (by rw [HVL.out]; rfl)]; exact hd ⟨3, .data⟩ (by simp) rfl
                                                have hv : VL.getD 4 undef = .bool true := VQ.out 4 _ (by rw [HVL.out]; rfl)
                                                rw [hv] at hK
                                                have HK9 := Lib.hid hK
                                                clear hd hK hv
                                                go_simp
                                                exact HK9.out _ hS
                                              · change some _ = some o at hi
                                                cases hi
                                                have q4 : ax.tmps[192]? = some (.bool true) := by rw [← VQ.out 4 (.bool true) (by rw [HVL.out]; rfl)]; exact hd ⟨4, .guard⟩ (by simp) rfl
                                                have hv : VL.getD 5 undef = .string s := VQ.out 5 _ (by rw [HVL.out]; rfl)
                                                rw [hv] at hK
                                                have HK9 := Lib.hid hK
                                                clear hd hK hv
                                                go_simp
                                                exact HK9.out _ hS
                                              · change some _ = some o at hi
                                                cases hi
                                                have q4 : ax.tmps[192]? = some (.bool true) := by rw [← VQ.out 4 (.bool true) (by rw [HVL.out]; rfl)]; exact hd ⟨4, .guard⟩ (by simp) rfl
                                                have hv : VL.getD 6 undef = .int .i64 j := VQ.out 6 _ (by rw [HVL.out]; rfl)
                                                rw [hv] at hK
                                                have HK9 := Lib.hid hK
                                                clear hd hK hv
                                                go_simp
                                                exact HK9.out _ hS
                                              · change some _ = some o at hi
                                                cases hi
                                                have q5 : ax.tmps[193]? = some (.string s) := by rw [← VQ.out 5 (.string s) (by rw [HVL.out]; rfl)]; exact hd ⟨5, .data⟩ (by simp) rfl
                                                have q6 : ax.tmps[194]? = some (.int .i64 j) := by rw [← VQ.out 6 (.int .i64 j) (by rw [HVL.out]; rfl)]; exact hd ⟨6, .data⟩ (by simp) rfl
                                                have q4 : ax.tmps[192]? = some (.bool true) := by rw [← VQ.out 4 (.bool true) (by rw [HVL.out]; rfl)]; exact hd ⟨4, .guard⟩ (by simp) rfl
                                                have hv : VL.getD 7 undef = .int .u8 c9.toNat := VQ.out 7 _ (by rw [HVL.out]; rfl)
                                                rw [hv] at hK
                                                have HK9 := Lib.hid hK
                                                clear hd hK hv
                                                go_simp
                                                exact HK9.out _ hS
                                              · change some _ = some o at hi
                                                cases hi
                                                have q7 : ax.tmps[195]? = some (.int .u8 c9.toNat) := by rw [← VQ.out 7 (.int .u8 c9.toNat) (by rw [HVL.out]; rfl)]; exact hd ⟨7, .data⟩ (by simp) rfl
                                                have q4 : ax.tmps[192]? = some (.bool true) := by rw [← VQ.out 4 (.bool true) (by rw [HVL.out]; rfl)]; exact hd ⟨4, .guard⟩ (by simp) rfl
                                                have hv : VL.getD 8 undef = .bool true := VQ.out 8 _ (by rw [HVL.out]; rfl)
                                                rw [hv] at hK
                                                have HK9 := Lib.hid hK
                                                clear hd hK hv
                                                go_simp
                                                exact HK9.out _ hS
                                              · change some _ = some o at hi
                                                cases hi
                                                have q4 : ax.tmps[192]? = some (.bool true) := by rw [← VQ.out 4 (.bool true) (by rw [HVL.out]; rfl)]; exact hd ⟨4, .data⟩ (by simp) rfl
                                                have q8 : ax.tmps[196]? = some (.bool true) := by rw [← VQ.out 8 (.bool true) (by rw [HVL.out]; rfl)]; exact hd ⟨8, .data⟩ (by simp) rfl
                                                have hv : VL.getD 9 undef = .bool true := VQ.out 9 _ (by rw [HVL.out]; rfl)
                                                rw [hv] at hK
                                                have HK9 := Lib.hid hK
                                                clear hd hK hv
                                                go_simp
                                                exact HK9.out _ hS
                                              · change some _ = some o at hi
                                                cases hi
                                                have q9 : ax.tmps[197]? = some (.bool true) := by rw [← VQ.out 9 (.bool true) (by rw [HVL.out]; rfl)]; exact hd ⟨9, .data⟩ (by simp) rfl
                                                have hv : VL.getD 10 undef = .bool true := VQ.out 10 _ (by rw [HVL.out]; rfl)
                                                rw [hv] at hK
                                                have HK9 := Lib.hid hK
                                                clear hd hK hv
                                                go_simp
                                                exact HK9.out _ hS
                                              · change some _ = some o at hi
                                                cases hi
                                                have q10 : ax.tmps[198]? = some (.bool true) := by rw [← VQ.out 10 (.bool true) (by rw [HVL.out]; rfl)]; exact hd ⟨10, .guard⟩ (by simp) rfl
                                                have hv : VL.getD 11 undef = .string s := VQ.out 11 _ (by rw [HVL.out]; rfl)
                                                rw [hv] at hK
                                                have HK9 := Lib.hid hK
                                                clear hd hK hv
                                                go_simp
                                                exact HK9.out _ hS
                                              · change some _ = some o at hi
                                                cases hi
                                                have q10 : ax.tmps[198]? = some (.bool true) := by rw [← VQ.out 10 (.bool true) (by rw [HVL.out]; rfl)]; exact hd ⟨10, .guard⟩ (by simp) rfl
                                                have hv : VL.getD 12 undef = .int .i64 j := VQ.out 12 _ (by rw [HVL.out]; rfl)
                                                rw [hv] at hK
                                                have HK9 := Lib.hid hK
                                                clear hd hK hv
                                                go_simp
                                                exact HK9.out _ hS
                                              · change some _ = some o at hi
                                                cases hi
                                                have q12 : ax.tmps[200]? = some (.int .i64 j) := by rw [← VQ.out 12 (.int .i64 j) (by rw [HVL.out]; rfl)]; exact hd ⟨12, .data⟩ (by simp) rfl
                                                have q10 : ax.tmps[198]? = some (.bool true) := by rw [← VQ.out 10 (.bool true) (by rw [HVL.out]; rfl)]; exact hd ⟨10, .guard⟩ (by simp) rfl
                                                have hv : VL.getD 13 undef = .int .i64 ((j : Int) + 1) := VQ.out 13 _ (by rw [HVL.out]; rfl)
                                                rw [hv] at hK
                                                have HK9 := Lib.hid hK
                                                clear hd hK hv
                                                go_simp
                                                exact HK9.out _ hS
                                              · change some _ = some o at hi
                                                cases hi
                                                have q11 : ax.tmps[199]? = some (.string s) := by rw [← VQ.out 11 (.string s) (by rw [HVL.out]; rfl)]; exact hd ⟨11, .data⟩ (by simp) rfl
                                                have q13 : ax.tmps[201]? = some (.int .i64 ((j : Int) + 1)) := by rw [← VQ.out 13 (.int .i64 ((j : Int) + 1)) (by rw [HVL.out]; rfl)]; exact hd ⟨13, .data⟩ (by simp) rfl
                                                have q10 : ax.tmps[198]? = some (.bool true) := by rw [← VQ.out 10 (.bool true) (by rw [HVL.out]; rfl)]; exact hd ⟨10, .guard⟩ (by simp) rfl
                                                have hv : VL.getD 14 undef = .int .u8 d9.toNat := VQ.out 14 _ (by rw [HVL.out]; rfl)
                                                rw [hv] at hK
                                                have HK9 := Lib.hid hK
                                                clear hd hK hv
                                                go_simp
                                                exact HK9.out _ hS
                                              · change some _ = some o at hi
                                                cases hi
                                                have q14 : ax.tmps[202]? = some (.int .u8 d9.toNat) := by rw [← VQ.out 14 (.int .u8 d9.toNat) (by rw [HVL.out]; rfl)]; exact hd ⟨14, .data⟩ (by simp) rfl
                                                have q10 : ax.tmps[198]? = some (.bool true) := by rw [← VQ.out 10 (.bool true) (by rw [HVL.out]; rfl)]; exact hd ⟨10, .guard⟩ (by simp) rfl
                                                have hv : VL.getD 15 undef = .bool true := VQ.out 15 _ (by rw [HVL.out]; rfl)
                                                rw [hv] at hK
                                                have HK9 := Lib.hid hK
                                                clear hd hK hv
                                                go_simp
                                                exact HK9.out _ hS
                                              · change some _ = some o at hi
                                                cases hi
                                                have q10 : ax.tmps[198]? = some (.bool true) := by rw [← VQ.out 10 (.bool true) (by rw [HVL.out]; rfl)]; exact hd ⟨10, .data⟩ (by simp) rfl
                                                have q15 : ax.tmps[203]? = some (.bool true) := by rw [← VQ.out 15 (.bool true) (by rw [HVL.out]; rfl)]; exact hd ⟨15, .data⟩ (by simp) rfl
                                                have hv : VL.getD 16 undef = .bool true := VQ.out 16 _ (by rw [HVL.out]; rfl)
                                                rw [hv] at hK
                                                have HK9 := Lib.hid hK
                                                clear hd hK hv
                                                go_simp
                                                exact HK9.out _ hS
                                              · change some _ = some o at hi
                                                cases hi
                                                have q16 : ax.tmps[204]? = some (.bool true) := by rw [← VQ.out 16 (.bool true) (by rw [HVL.out]; rfl)]; exact hd ⟨16, .data⟩ (by simp) rfl
                                                have hv : VL.getD 17 undef = .bool true := VQ.out 17 _ (by rw [HVL.out]; rfl)
                                                rw [hv] at hK
                                                have HK9 := Lib.hid hK
                                                clear hd hK hv
                                                go_simp
                                                exact HK9.out _ hS
                                              · change some _ = some o at hi
                                                cases hi
                                                have q17 : ax.tmps[205]? = some (.bool true) := by rw [← VQ.out 17 (.bool true) (by rw [HVL.out]; rfl)]; exact hd ⟨17, .guard⟩ (by simp) rfl
                                                have hv : VL.getD 18 undef = .string s := VQ.out 18 _ (by rw [HVL.out]; rfl)
                                                rw [hv] at hK
                                                have HK9 := Lib.hid hK
                                                clear hd hK hv
                                                go_simp
                                                exact HK9.out _ hS
                                              · change some _ = some o at hi
                                                cases hi
                                                have q17 : ax.tmps[205]? = some (.bool true) := by rw [← VQ.out 17 (.bool true) (by rw [HVL.out]; rfl)]; exact hd ⟨17, .guard⟩ (by simp) rfl
                                                have hv : VL.getD 19 undef = .int .i64 j := VQ.out 19 _ (by rw [HVL.out]; rfl)
                                                rw [hv] at hK
                                                have HK9 := Lib.hid hK
                                                clear hd hK hv
                                                go_simp
                                                exact HK9.out _ hS
                                              · change some _ = some o at hi
                                                cases hi
                                                have q19 : ax.tmps[207]? = some (.int .i64 j) := by rw [← VQ.out 19 (.int .i64 j) (by rw [HVL.out]; rfl)]; exact hd ⟨19, .data⟩ (by simp) rfl
                                                have q17 : ax.tmps[205]? = some (.bool true) := by rw [← VQ.out 17 (.bool true) (by rw [HVL.out]; rfl)]; exact hd ⟨17, .guard⟩ (by simp) rfl
                                                have hv : VL.getD 20 undef = .int .i64 ((j : Int) + 2) := VQ.out 20 _ (by rw [HVL.out]; rfl)
                                                rw [hv] at hK
                                                have HK9 := Lib.hid hK
                                                clear hd hK hv
                                                go_simp
                                                exact HK9.out _ hS
                                              · change some _ = some o at hi
                                                cases hi
                                                have q17 : ax.tmps[205]? = some (.bool true) := by rw [← VQ.out 17 (.bool true) (by rw [HVL.out]; rfl)]; exact hd ⟨17, .guard⟩ (by simp) rfl
                                                have hv : VL.getD 21 undef = .int .i64 ((j : Int) + 2 + (y.name.length : Int)) := VQ.out 21 _ (by rw [HVL.out]; rfl)
                                                rw [hv] at hK
                                                have HK9 := Lib.hid hK
                                                clear hd hK hv
                                                go_simp
                                                exact HK9.out _ hS
                                              · change some _ = some o at hi
                                                cases hi
                                                have q18 : ax.tmps[206]? = some (.string s) := by rw [← VQ.out 18 (.string s) (by rw [HVL.out]; rfl)]; exact hd ⟨18, .data⟩ (by simp) rfl
                                                have q20 : ax.tmps[208]? = some (.int .i64 ((j : Int) + 2)) := by rw [← VQ.out 20 (.int .i64 ((j : Int) + 2)) (by rw [HVL.out]; rfl)]; exact hd ⟨20, .data⟩ (by simp) rfl
                                                have q21 : ax.tmps[209]? = some (.int .i64 ((j : Int) + 2 + (y.name.length : Int))) := by rw [← VQ.out 21 (.int .i64 ((j : Int) + 2 + (y.name.length : Int))) (by rw [HVL.out]; rfl)]; exact hd ⟨21, .data⟩ (by simp) rfl
                                                have q17 : ax.tmps[205]? = some (.bool true) := by rw [← VQ.out 17 (.bool true) (by rw [HVL.out]; rfl)]; exact hd ⟨17, .guard⟩ (by simp) rfl
                                                have hv : VL.getD 22 undef = .string (s.extract (j + 2) (j + 2 + y.name.length)) := VQ.out 22 _ (by rw [HVL.out]; rfl)
                                                rw [hv] at hK
                                                have HK9 := Lib.hid hK
                                                clear hd hK hv
                                                go_simp
                                                exact HK9.out _ hS
                                              · change some _ = some o at hi
                                                cases hi
                                                have q22 : ax.tmps[210]? = some (.string (s.extract (j + 2) (j + 2 + y.name.length))) := by rw [← VQ.out 22 (.string (s.extract (j + 2) (j + 2 + y.name.length))) (by rw [HVL.out]; rfl)]; exact hd ⟨22, .data⟩ (by simp) rfl
                                                have q17 : ax.tmps[205]? = some (.bool true) := by rw [← VQ.out 17 (.bool true) (by rw [HVL.out]; rfl)]; exact hd ⟨17, .guard⟩ (by simp) rfl
                                                have hv : VL.getD 23 undef = .string (mk y.name) := VQ.out 23 _ (by rw [HVL.out]; rfl)
                                                rw [hv] at hK
                                                have HK9 := Lib.hid hK
                                                clear hd hK hv
                                                go_simp
                                                refine (HLow.out _).mono ?_
                                                rintro e w4 ⟨rfl, hb4⟩
                                                exact HK9.out _ ⟨Lib.hid (hS.1.out.older hb4), Lib.hid (TokBlk.older hS.2.out hb4)⟩
                                              · change some _ = some o at hi
                                                cases hi
                                                have q17 : ax.tmps[205]? = some (.bool true) := by rw [← VQ.out 17 (.bool true) (by rw [HVL.out]; rfl)]; exact hd ⟨17, .guard⟩ (by simp) rfl
                                                have hv : VL.getD 24 undef = .pointer (some ⟨w1.heap.size, 1, none⟩) := VQ.out 24 _ (by rw [HVL.out]; rfl)
                                                rw [hv] at hK
                                                have HK9 := Lib.hid hK
                                                clear hd hK hv
                                                go_simp
                                                exact HK9.out _ hS
                                              · change some _ = some o at hi
                                                cases hi
                                                have q24 : ax.tmps[212]? = some (.pointer (some ⟨w1.heap.size, 1, none⟩)) := by rw [← VQ.out 24 (.pointer (some ⟨w1.heap.size, 1, none⟩)) (by rw [HVL.out]; rfl)]; exact hd ⟨24, .data⟩ (by simp) rfl
                                                have q17 : ax.tmps[205]? = some (.bool true) := by rw [← VQ.out 17 (.bool true) (by rw [HVL.out]; rfl)]; exact hd ⟨17, .guard⟩ (by simp) rfl
                                                have hv : VL.getD 25 undef = .string (mk y.name) := VQ.out 25 _ (by rw [HVL.out]; rfl)
                                                rw [hv] at hK
                                                have HK9 := Lib.hid hK
                                                clear hd hK hv
                                                go_simp
                                                exact HK9.out _ hS
                                              · change some _ = some o at hi
                                                cases hi
                                                have q23 : ax.tmps[211]? = some (.string (mk y.name)) := by rw [← VQ.out 23 (.string (mk y.name)) (by rw [HVL.out]; rfl)]; exact hd ⟨23, .data⟩ (by simp) rfl
                                                have q25 : ax.tmps[213]? = some (.string (mk y.name)) := by rw [← VQ.out 25 (.string (mk y.name)) (by rw [HVL.out]; rfl)]; exact hd ⟨25, .data⟩ (by simp) rfl
                                                have q17 : ax.tmps[205]? = some (.bool true) := by rw [← VQ.out 17 (.bool true) (by rw [HVL.out]; rfl)]; exact hd ⟨17, .guard⟩ (by simp) rfl
                                                have hv : VL.getD 26 undef = .bool true := VQ.out 26 _ (by rw [HVL.out]; rfl)
                                                rw [hv] at hK
                                                have HK9 := Lib.hid hK
                                                clear hd hK hv
                                                go_simp
                                                exact HK9.out _ hS
                                              · change some _ = some o at hi
                                                cases hi
                                                have q17 : ax.tmps[205]? = some (.bool true) := by rw [← VQ.out 17 (.bool true) (by rw [HVL.out]; rfl)]; exact hd ⟨17, .data⟩ (by simp) rfl
                                                have q26 : ax.tmps[214]? = some (.bool true) := by rw [← VQ.out 26 (.bool true) (by rw [HVL.out]; rfl)]; exact hd ⟨26, .data⟩ (by simp) rfl
                                                have hv : VL.getD 27 undef = .bool true := VQ.out 27 _ (by rw [HVL.out]; rfl)
                                                rw [hv] at hK
                                                have HK9 := Lib.hid hK
                                                clear hd hK hv
                                                go_simp
                                                exact HK9.out _ hS
                                              · change some _ = some o at hi
                                                cases hi
                                                have q27 : ax.tmps[215]? = some (.bool true) := by rw [← VQ.out 27 (.bool true) (by rw [HVL.out]; rfl)]; exact hd ⟨27, .data⟩ (by simp) rfl
                                                have hv : VL.getD 28 undef = .bool true := VQ.out 28 _ (by rw [HVL.out]; rfl)
                                                rw [hv] at hK
                                                have HK9 := Lib.hid hK
                                                clear hd hK hv
                                                go_simp
                                                exact HK9.out _ hS
                                              · change some _ = some o at hi
                                                cases hi
                                                have q28 : ax.tmps[216]? = some (.bool true) := by rw [← VQ.out 28 (.bool true) (by rw [HVL.out]; rfl)]; exact hd ⟨28, .guard⟩ (by simp) rfl
                                                have hv : VL.getD 29 undef = .string s := VQ.out 29 _ (by rw [HVL.out]; rfl)
                                                rw [hv] at hK
                                                have HK9 := Lib.hid hK
                                                clear hd hK hv
                                                go_simp
                                                exact HK9.out _ hS
                                              · change some _ = some o at hi
                                                cases hi
                                                have q28 : ax.tmps[216]? = some (.bool true) := by rw [← VQ.out 28 (.bool true) (by rw [HVL.out]; rfl)]; exact hd ⟨28, .guard⟩ (by simp) rfl
                                                have hv : VL.getD 30 undef = .int .i64 ((j : Int) + 2 + (y.name.length : Int)) := VQ.out 30 _ (by rw [HVL.out]; rfl)
                                                rw [hv] at hK
                                                have HK9 := Lib.hid hK
                                                clear hd hK hv
                                                go_simp
                                                exact HK9.out _ hS
                                              · change some _ = some o at hi
                                                cases hi
                                                have q29 : ax.tmps[217]? = some (.string s) := by rw [← VQ.out 29 (.string s) (by rw [HVL.out]; rfl)]; exact hd ⟨29, .data⟩ (by simp) rfl
                                                have q30 : ax.tmps[218]? = some (.int .i64 ((j : Int) + 2 + (y.name.length : Int))) := by rw [← VQ.out 30 (.int .i64 ((j : Int) + 2 + (y.name.length : Int))) (by rw [HVL.out]; rfl)]; exact hd ⟨30, .data⟩ (by simp) rfl
                                                have q28 : ax.tmps[216]? = some (.bool true) := by rw [← VQ.out 28 (.bool true) (by rw [HVL.out]; rfl)]; exact hd ⟨28, .guard⟩ (by simp) rfl
                                                have hv : VL.getD 31 undef = .int .u8 e9.toNat := VQ.out 31 _ (by rw [HVL.out]; rfl)
                                                rw [hv] at hK
                                                have HK9 := Lib.hid hK
                                                clear hd hK hv
                                                go_simp
                                                exact HK9.out _ hS
                                              · change some _ = some o at hi
                                                cases hi
                                                have q31 : ax.tmps[219]? = some (.int .u8 e9.toNat) := by rw [← VQ.out 31 (.int .u8 e9.toNat) (by rw [HVL.out]; rfl)]; exact hd ⟨31, .data⟩ (by simp) rfl
                                                have q28 : ax.tmps[216]? = some (.bool true) := by rw [← VQ.out 28 (.bool true) (by rw [HVL.out]; rfl)]; exact hd ⟨28, .guard⟩ (by simp) rfl
                                                have hv : VL.getD 32 undef = .bool false := VQ.out 32 _ (by rw [HVL.out]; rfl)
                                                rw [hv] at hK
                                                have HK9 := Lib.hid hK
                                                clear hd hK hv
                                                go_simp
                                                refine (HSp.out _).mono ?_
                                                rintro e w5 ⟨rfl, hw5⟩
                                                rw [← hw5]
                                                exact HK9.out _ hS
                                              · change some _ = some o at hi
                                                cases hi
                                                have q32 : ax.tmps[220]? = some (.bool false) := by rw [← VQ.out 32 (.bool false) (by rw [HVL.out]; rfl)]; exact hd ⟨32, .data⟩ (by simp) rfl
                                                have q28 : ax.tmps[216]? = some (.bool true) := by rw [← VQ.out 28 (.bool true) (by rw [HVL.out]; rfl)]; exact hd ⟨28, .guard⟩ (by simp) rfl
                                                have hv : VL.getD 33 undef = .bool false := VQ.out 33 _ (by rw [HVL.out]; rfl)
                                                rw [hv] at hK
                                                have HK9 := Lib.hid hK
                                                clear hd hK hv
                                                go_simp
                                                exact HK9.out _ hS
                                              · change some _ = some o at hi
                                                cases hi
                                                have q33 : ax.tmps[221]? = some (.bool false) := by rw [← VQ.out 33 (.bool false) (by rw [HVL.out]; rfl)]; exact hd ⟨33, .guard⟩ (by simp) rfl
                                                have hv : VL.getD 34 undef = .string s := VQ.out 34 _ (by rw [HVL.out]; rfl)
                                                rw [hv] at hK
                                                have HK9 := Lib.hid hK
                                                clear hd hK hv
                                                go_simp
                                                exact HK9.out _ hS
                                              · change some _ = some o at hi
                                                cases hi
                                                have q33 : ax.tmps[221]? = some (.bool false) := by rw [← VQ.out 33 (.bool false) (by rw [HVL.out]; rfl)]; exact hd ⟨33, .guard⟩ (by simp) rfl
                                                have hv : VL.getD 35 undef = .int .i64 ((j : Int) + 2 + (y.name.length : Int)) := VQ.out 35 _ (by rw [HVL.out]; rfl)
                                                rw [hv] at hK
                                                have HK9 := Lib.hid hK
                                                clear hd hK hv
                                                go_simp
                                                exact HK9.out _ hS
                                              · change some _ = some o at hi
                                                cases hi
                                                have q34 : ax.tmps[222]? = some (.string s) := by rw [← VQ.out 34 (.string s) (by rw [HVL.out]; rfl)]; exact hd ⟨34, .data⟩ (by simp) rfl
                                                have q35 : ax.tmps[223]? = some (.int .i64 ((j : Int) + 2 + (y.name.length : Int))) := by rw [← VQ.out 35 (.int .i64 ((j : Int) + 2 + (y.name.length : Int))) (by rw [HVL.out]; rfl)]; exact hd ⟨35, .data⟩ (by simp) rfl
                                                have q33 : ax.tmps[221]? = some (.bool false) := by rw [← VQ.out 33 (.bool false) (by rw [HVL.out]; rfl)]; exact hd ⟨33, .guard⟩ (by simp) rfl
                                                have hv : VL.getD 36 undef = .int .u8 e9.toNat := VQ.out 36 _ (by rw [HVL.out]; rfl)
                                                rw [hv] at hK
                                                have HK9 := Lib.hid hK
                                                clear hd hK hv
                                                go_simp
                                                exact HK9.out _ hS
                                              · change some _ = some o at hi
                                                cases hi
                                                have q36 : ax.tmps[224]? = some (.int .u8 e9.toNat) := by rw [← VQ.out 36 (.int .u8 e9.toNat) (by rw [HVL.out]; rfl)]; exact hd ⟨36, .data⟩ (by simp) rfl
                                                have q33 : ax.tmps[221]? = some (.bool false) := by rw [← VQ.out 33 (.bool false) (by rw [HVL.out]; rfl)]; exact hd ⟨33, .guard⟩ (by simp) rfl
                                                have hv : VL.getD 37 undef = .bool true := VQ.out 37 _ (by rw [HVL.out]; rfl)
                                                rw [hv] at hK
                                                have HK9 := Lib.hid hK
                                                clear hd hK hv
                                                go_simp
                                                exact HK9.out _ hS
                                              · change some _ = some o at hi
                                                cases hi
                                                have q33 : ax.tmps[221]? = some (.bool false) := by rw [← VQ.out 33 (.bool false) (by rw [HVL.out]; rfl)]; exact hd ⟨33, .data⟩ (by simp) rfl
                                                have q37 : ax.tmps[225]? = some (.bool true) := by rw [← VQ.out 37 (.bool true) (by rw [HVL.out]; rfl)]; exact hd ⟨37, .data⟩ (by simp) rfl
                                                have q28 : ax.tmps[216]? = some (.bool true) := by rw [← VQ.out 28 (.bool true) (by rw [HVL.out]; rfl)]; exact hd ⟨28, .guard⟩ (by simp) rfl
                                                have hv : VL.getD 38 undef = .bool true := VQ.out 38 _ (by rw [HVL.out]; rfl)
                                                rw [hv] at hK
                                                have HK9 := Lib.hid hK
                                                clear hd hK hv
                                                go_simp
                                                exact HK9.out _ hS
                                              · change some _ = some o at hi
                                                cases hi
                                                have q38 : ax.tmps[226]? = some (.bool true) := by rw [← VQ.out 38 (.bool true) (by rw [HVL.out]; rfl)]; exact hd ⟨38, .data⟩ (by simp) rfl
                                                have q28 : ax.tmps[216]? = some (.bool true) := by rw [← VQ.out 28 (.bool true) (by rw [HVL.out]; rfl)]; exact hd ⟨28, .guard⟩ (by simp) rfl
                                                have hv : VL.getD 39 undef = .bool true := VQ.out 39 _ (by rw [HVL.out]; rfl)
                                                rw [hv] at hK
                                                have HK9 := Lib.hid hK
                                                clear hd hK hv
                                                go_simp
                                                exact HK9.out _ hS
                                              · change some _ = some o at hi
                                                cases hi
                                                have q39 : ax.tmps[227]? = some (.bool true) := by rw [← VQ.out 39 (.bool true) (by rw [HVL.out]; rfl)]; exact hd ⟨39, .guard⟩ (by simp) rfl
                                                have hv : VL.getD 40 undef = undef := VQ.out 40 _ (by rw [HVL.out]; rfl)
                                                clear hd hK
                                                go_simp
                                                exact hv
                                              · change some _ = some o at hi
                                                cases hi
                                                have q39 : ax.tmps[227]? = some (.bool true) := by rw [← VQ.out 39 (.bool true) (by rw [HVL.out]; rfl)]; exact hd ⟨39, .guard⟩ (by simp) rfl
                                                have hv : VL.getD 41 undef = undef := VQ.out 41 _ (by rw [HVL.out]; rfl)
                                                clear hd hK
                                                go_simp
                                                exact hv
                                              · change some _ = some o at hi
                                                cases hi
                                                have q40 : ax.tmps[228]? = some (undef) := by rw [← VQ.out 40 (undef) (by rw [HVL.out]; rfl)]; exact hd ⟨40, .data⟩ (by simp) rfl
                                                have q41 : ax.tmps[229]? = some (undef) := by rw [← VQ.out 41 (undef) (by rw [HVL.out]; rfl)]; exact hd ⟨41, .data⟩ (by simp) rfl
                                                have q39 : ax.tmps[227]? = some (.bool true) := by rw [← VQ.out 39 (.bool true) (by rw [HVL.out]; rfl)]; exact hd ⟨39, .guard⟩ (by simp) rfl
                                                have hv : VL.getD 42 undef = undef := VQ.out 42 _ (by rw [HVL.out]; rfl)
                                                clear hd hK
                                                go_simp
                                                exact hv
                                              · change some _ = some o at hi
                                                cases hi
                                                have q42 : ax.tmps[230]? = some (undef) := by rw [← VQ.out 42 (undef) (by rw [HVL.out]; rfl)]; exact hd ⟨42, .data⟩ (by simp) rfl
                                                have q39 : ax.tmps[227]? = some (.bool true) := by rw [← VQ.out 39 (.bool true) (by rw [HVL.out]; rfl)]; exact hd ⟨39, .guard⟩ (by simp) rfl
                                                have hv : VL.getD 43 undef = undef := VQ.out 43 _ (by rw [HVL.out]; rfl)
                                                clear hd hK
                                                go_simp
                                                exact hv
                                              · change some _ = some o at hi
                                                cases hi
                                                have q39 : ax.tmps[227]? = some (.bool true) := by rw [← VQ.out 39 (.bool true) (by rw [HVL.out]; rfl)]; exact hd ⟨39, .data⟩ (by simp) rfl
                                                have q43 : ax.tmps[231]? = some (undef) := by rw [← VQ.out 43 (undef) (by rw [HVL.out]; rfl)]; exact hd ⟨43, .data⟩ (by simp) rfl
                                                have q28 : ax.tmps[216]? = some (.bool true) := by rw [← VQ.out 28 (.bool true) (by rw [HVL.out]; rfl)]; exact hd ⟨28, .guard⟩ (by simp) rfl
                                                have hv : VL.getD 44 undef = .bool true := VQ.out 44 _ (by rw [HVL.out]; rfl)
                                                rw [hv] at hK
                                                have HK9 := Lib.hid hK
                                                clear hd hK hv
                                                go_simp
                                                exact HK9.out _ hS
                                              · change some _ = some o at hi
                                                cases hi
                                                have q28 : ax.tmps[216]? = some (.bool true) := by rw [← VQ.out 28 (.bool true) (by rw [HVL.out]; rfl)]; exact hd ⟨28, .data⟩ (by simp) rfl
                                                have q44 : ax.tmps[232]? = some (.bool true) := by rw [← VQ.out 44 (.bool true) (by rw [HVL.out]; rfl)]; exact hd ⟨44, .data⟩ (by simp) rfl
                                                have hv : VL.getD 45 undef = .bool true := VQ.out 45 _ (by rw [HVL.out]; rfl)
                                                rw [hv] at hK
                                                have HK9 := Lib.hid hK
                                                clear hd hK hv
                                                go_simp
                                                exact HK9.out _ hS
                                          · have g3 : ((e9.toNat : Int) == 47) = false := (u8ne (n := 47) (by decide) h47).1
                                            by_cases h62 : e9 = 62
                                            · have HRS := Lib.hid (show rawStop y.name ((lst s).drop j) = true by rw [HRS.out, nameEnd_eq, h62]; simp)
                                              have g4 : ((e9.toNat : Int) == 62) = true := (u8eq (n := 62) (by decide) h62).1
                                              have HSp := Lib.hid (isSpace_any e9)
                                              rw [hsp] at HSp
                                              clear hsp hc hd h47 h62
                                              go_region_held3 (fun w' => w'.cell? ⟨w.heap.size, 0, none⟩ = some (.string s) ∧ w'.cell? ⟨w1.heap.size, 1, none⟩ = some (.string (mk y.name))) (first | (refine ⟨?_, ?_⟩ <;> assumption) | go_keep) (first | (go_at_call 19; (refine (HLow.out _).mono ?_; rintro e w4 ⟨rfl, hb4⟩; have HT9 := Lib.hid (HTr.out.drew.older hb4); have HB9 := Lib.hid (TokBlk.older (w := Wr.drew) HBr.out hb4); have y0 := HT9.out.b0.all.1; have y1 := HB9.out.all.2.1; clear hb4)) | (go_at_call 20; (refine (HSp.out _).mono ?_; rintro e w5 ⟨rfl, hw5⟩; rw [← hw5]; clear hw5)))
                                              go_wp2_with fail
                                              go_meet
                                              exact ⟨by rw [HRS.out], HT9, HB9⟩
                                            · have HRS := Lib.hid (show rawStop y.name ((lst s).drop j) = false by rw [HRS.out, nameEnd_eq, hsp, beq_eq_false_iff_ne.2 h47, beq_eq_false_iff_ne.2 h62]; simp)
                                              have g4 : ((e9.toNat : Int) == 62) = false := (u8ne (n := 62) (by decide) h62).1
                                              have HSp := Lib.hid (isSpace_any e9)
                                              rw [hsp] at HSp
                                              clear hsp hc hd h47 h62
                                              go_region_held3 (fun w' => w'.cell? ⟨w.heap.size, 0, none⟩ = some (.string s) ∧ w'.cell? ⟨w1.heap.size, 1, none⟩ = some (.string (mk y.name))) (first | (refine ⟨?_, ?_⟩ <;> assumption) | go_keep) (first | (go_at_call 19; (refine (HLow.out _).mono ?_; rintro e w4 ⟨rfl, hb4⟩; have HT9 := Lib.hid (HTr.out.drew.older hb4); have HB9 := Lib.hid (TokBlk.older (w := Wr.drew) HBr.out hb4); have y0 := HT9.out.b0.all.1; have y1 := HB9.out.all.2.1; clear hb4)) | (go_at_call 20; (refine (HSp.out _).mono ?_; rintro e w5 ⟨rfl, hw5⟩; rw [← hw5]; clear hw5)))
                                              go_wp2_with fail
                                              go_meet
                                              exact ⟨by rw [HRS.out], HT9, HB9⟩
                                      | false =>
                                        have HRS := Lib.hid (show rawStop y.name ((lst s).drop j) = false by rw [HRS.out, hq]; simp)
                                        have hq3 : ¬ SL = y.name := beq_eq_false_iff_ne.1 hq
                                        have hb0 : ¬ mk SL = mk y.name := fun e => hq3 (mk_inj e)
                                        have hb2 : decide (mk SL = mk y.name) = false := decide_eq_false hb0
                                        have hb3 : ((mk SL).toList == (mk y.name).toList) = false := by rw [ht1, ht2]; exact hq
                                        have hb4 : decide (SL = y.name) = false := decide_eq_false hq3
                                        have HSp := Lib.hid (isSpace_any e9)
                                        clear hc hd
                                        obtain ⟨VL, hVL⟩ : ∃ VL : List Value, VL = [.int .i64 ((j : Int) + 2 + (y.name.length : Int)), .string s, .int .i64 s.size, .bool true, .bool true, .string s, .int .i64 j, .int .u8 c9.toNat, .bool true, .bool true, .bool true, .string s, .int .i64 j, .int .i64 ((j : Int) + 1), .int .u8 d9.toNat, .bool true, .bool true, .bool true, .string s, .int .i64 j, .int .i64 ((j : Int) + 2), .int .i64 ((j : Int) + 2 + (y.name.length : Int)), .string (s.extract (j + 2) (j + 2 + y.name.length)), .string (mk SL), .pointer (some ⟨w1.heap.size, 1, none⟩), .string (mk y.name), .bool false, .bool false, .bool false, undef, undef, undef, undef, undef, undef, undef, undef, undef, undef, undef, undef, undef, undef, undef, undef, .bool false] := ⟨_, rfl⟩
                                        have vq : ∀ (i : Nat) (v : Value), VL[i]? = some v → VL.getD i undef = v := fun i v h => by simp [List.getD, h]
                                        have VQ := Lib.hid vq
                                        have HVL := Lib.hid hVL
                                        clear vq hVL
                                        refine wp_region_vals (by kernel_rfl) (fun i o hi => ?hac) 188 46 (fun i => VL.getD i undef) (fun w' => Hid (TS w.heap.size w w' s X [] tv7) ∧ Hid (TokBlk w' w1.heap.size 1 (mk y.name) (.slice vA y.attrs.length vC) y.self)) ?hn ?hz (fun i o hi => ?hdst) ⟨Lib.hid HTr.out.drew, HBr⟩ (fun i o hi => ?hstep) (fun w' hS' => ?hend)
                                        case hn => rfl
                                        case hz => exact Nat.le_of_ble_eq_true rfl
                                        case hac => as_aux_lemma =>
                                          have hlt : i < 46 := (Array.getElem?_eq_some_iff.1 hi).1
                                          have hw46 : i = 0 ∨ i = 1 ∨ i = 2 ∨ i = 3 ∨ i = 4 ∨ i = 5 ∨ i = 6 ∨ i = 7 ∨ i = 8 ∨ i = 9 ∨ i = 10 ∨ i = 11 ∨ i = 12 ∨ i = 13 ∨ i = 14 ∨ i = 15 ∨ i = 16 ∨ i = 17 ∨ i = 18 ∨ i = 19 ∨ i = 20 ∨ i = 21 ∨ i = 22 ∨ i = 23 ∨ i = 24 ∨ i = 25 ∨ i = 26 ∨ i = 27 ∨ i = 28 ∨ i = 29 ∨ i = 30 ∨ i = 31 ∨ i = 32 ∨ i = 33 ∨ i = 34 ∨ i = 35 ∨ i = 36 ∨ i = 37 ∨ i = 38 ∨ i = 39 ∨ i = 40 ∨ i = 41 ∨ i = 42 ∨ i = 43 ∨ i = 44 ∨ i = 45 := by omega
                                          rcases hw46 with rfl | rfl | rfl | rfl | rfl | rfl | rfl | rfl | rfl | rfl | rfl | rfl | rfl | rfl | rfl | rfl | rfl | rfl | rfl | rfl | rfl | rfl | rfl | rfl | rfl | rfl | rfl | rfl | rfl | rfl | rfl | rfl | rfl | rfl | rfl | rfl | rfl | rfl | rfl | rfl | rfl | rfl | rfl | rfl | rfl | rfl <;> (change some _ = some o at hi; cases hi; simp)
                                        case hdst => as_aux_lemma =>
                                          have hlt : i < 46 := (Array.getElem?_eq_some_iff.1 hi).1
                                          have hw46 : i = 0 ∨ i = 1 ∨ i = 2 ∨ i = 3 ∨ i = 4 ∨ i = 5 ∨ i = 6 ∨ i = 7 ∨ i = 8 ∨ i = 9 ∨ i = 10 ∨ i = 11 ∨ i = 12 ∨ i = 13 ∨ i = 14 ∨ i = 15 ∨ i = 16 ∨ i = 17 ∨ i = 18 ∨ i = 19 ∨ i = 20 ∨ i = 21 ∨ i = 22 ∨ i = 23 ∨ i = 24 ∨ i = 25 ∨ i = 26 ∨ i = 27 ∨ i = 28 ∨ i = 29 ∨ i = 30 ∨ i = 31 ∨ i = 32 ∨ i = 33 ∨ i = 34 ∨ i = 35 ∨ i = 36 ∨ i = 37 ∨ i = 38 ∨ i = 39 ∨ i = 40 ∨ i = 41 ∨ i = 42 ∨ i = 43 ∨ i = 44 ∨ i = 45 := by omega
                                          rcases hw46 with rfl | rfl | rfl | rfl | rfl | rfl | rfl | rfl | rfl | rfl | rfl | rfl | rfl | rfl | rfl | rfl | rfl | rfl | rfl | rfl | rfl | rfl | rfl | rfl | rfl | rfl | rfl | rfl | rfl | rfl | rfl | rfl | rfl | rfl | rfl | rfl | rfl | rfl | rfl | rfl | rfl | rfl | rfl | rfl | rfl | rfl <;> (change some _ = some o at hi; cases hi; rfl)
                                        case hend => as_aux_lemma =>
                                          have h45 : VL.getD 45 undef = .bool false := VQ.out 45 _ (by rw [HVL.out]; rfl)
                                          obtain ⟨VV, hVV⟩ : ∃ VV : Nat → Value, (fun i => VL.getD i undef) = VV := ⟨_, rfl⟩
                                          have h45b : VV 45 = .bool false := by rw [← hVV]; exact h45
                                          rw [hVV]
                                          clear hVV h45
                                          simp only [fillB, Act.put, Nat.reduceAdd, List.setIfInBounds_toArray, List.set_cons_zero, List.set_cons_succ]
                                          go_step
                                          go_step
                                          go_meet
                                          exact ⟨by rw [h45b, HRS.out], hS'.1, hS'.2⟩
                                        case hstep => as_aux_lemma =>
                                          intro ax wx hS ho hd K9 hK
                                          have e1 : ax.tmps[1]? = some (.pointer (some ⟨w.heap.size, 0, none⟩)) := (ho 1 (by omega)).trans rfl
                                          have e7 : ax.tmps[7]? = some (.int .i64 j) := (ho 7 (by omega)).trans rfl
                                          have e12 : ax.tmps[12]? = some (.pointer (some ⟨w1.heap.size, 0, none⟩)) := (ho 12 (by omega)).trans rfl
                                          have e16 : ax.tmps[16]? = some (.int .i64 ((j : Int) + 2 + (y.name.length : Int))) := (ho 16 (by omega)).trans rfl
                                          have y0 := hS.1.out.b0.all.1
                                          have y1 := hS.2.out.all.2.1
                                          clear x0 x1 ho
                                          have hlt : i < 46 := (Array.getElem?_eq_some_iff.1 hi).1
                                          have hw46 : i = 0 ∨ i = 1 ∨ i = 2 ∨ i = 3 ∨ i = 4 ∨ i = 5 ∨ i = 6 ∨ i = 7 ∨ i = 8 ∨ i = 9 ∨ i = 10 ∨ i = 11 ∨ i = 12 ∨ i = 13 ∨ i = 14 ∨ i = 15 ∨ i = 16 ∨ i = 17 ∨ i = 18 ∨ i = 19 ∨ i = 20 ∨ i = 21 ∨ i = 22 ∨ i = 23 ∨ i = 24 ∨ i = 25 ∨ i = 26 ∨ i = 27 ∨ i = 28 ∨ i = 29 ∨ i = 30 ∨ i = 31 ∨ i = 32 ∨ i = 33 ∨ i = 34 ∨ i = 35 ∨ i = 36 ∨ i = 37 ∨ i = 38 ∨ i = 39 ∨ i = 40 ∨ i = 41 ∨ i = 42 ∨ i = 43 ∨ i = 44 ∨ i = 45 := by omega
                                          clear hlt
                                          rcases hw46 with rfl | rfl | rfl | rfl | rfl | rfl | rfl | rfl | rfl | rfl | rfl | rfl | rfl | rfl | rfl | rfl | rfl | rfl | rfl | rfl | rfl | rfl | rfl | rfl | rfl | rfl | rfl | rfl | rfl | rfl | rfl | rfl | rfl | rfl | rfl | rfl | rfl | rfl | rfl | rfl | rfl | rfl | rfl | rfl | rfl | rfl
                                          · change some _ = some o at hi
                                            cases hi
                                            have hv : VL.getD 0 undef = .int .i64 ((j : Int) + 2 + (y.name.length : Int)) := VQ.out 0 _ (by rw [HVL.out]; rfl)
                                            rw [hv] at hK
                                            have HK9 := Lib.hid hK
                                            clear hd hK hv
                                            go_simp
                                            exact HK9.out _ hS
                                          · change some _ = some o at hi
                                            cases hi
                                            have hv : VL.getD 1 undef = .string s := VQ.out 1 _ (by rw [HVL.out]; rfl)
                                            rw [hv] at hK
                                            have HK9 := Lib.hid hK
                                            clear hd hK hv
                                            go_simp
                                            exact HK9.out _ hS
                                          · change some _ = some o at hi
                                            cases hi
                                            have q1 : ax.tmps[189]? = some (.string s) := by rw [← VQ.out 1 (.string s) (by rw [HVL.out]; rfl)]; exact hd ⟨1, .data⟩ (by simp) rfl
                                            have hv : VL.getD 2 undef = .int .i64 s.size := VQ.out 2 _ (by rw [HVL.out]; rfl)
                                            rw [hv] at hK
                                            have HK9 := Lib.hid hK
                                            clear hd hK hv
                                            go_simp
                                            exact HK9.out _ hS
                                          · change some _ = some o at hi
                                            cases hi
                                            have q0 : ax.tmps[188]? = some (.int .i64 ((j : Int) + 2 + (y.name.length : Int))) := by rw [← VQ.out 0 (.int .i64 ((j : Int) + 2 + (y.name.length : Int))) (by rw [HVL.out]; rfl)]; exact hd ⟨0, .data⟩ (by simp) rfl
                                            have q2 : ax.tmps[190]? = some (.int .i64 s.size) := by rw [← VQ.out 2 (.int .i64 s.size) (by rw [HVL.out]; rfl)]; exact hd ⟨2, .data⟩ (by simp) rfl
                                            have hv : VL.getD 3 undef = .bool true := VQ.out 3 _ (by rw [HVL.out]; rfl)
                                            rw [hv] at hK
                                            have HK9 := Lib.hid hK
                                            clear hd hK hv
                                            go_simp
                                            exact HK9.out _ hS
                                          · change some _ = some o at hi
                                            cases hi
                                            have q3 : ax.tmps[191]? = some (.bool true) := by rw [← VQ.out 3 (.bool true) (by rw [HVL.out]; rfl)]; exact hd ⟨3, .data⟩ (by simp) rfl
                                            have hv : VL.getD 4 undef = .bool true := VQ.out 4 _ (by rw [HVL.out]; rfl)
                                            rw [hv] at hK
                                            have HK9 := Lib.hid hK
                                            clear hd hK hv
                                            go_simp
                                            exact HK9.out _ hS
                                          · change some _ = some o at hi
                                            cases hi
                                            have q4 : ax.tmps[192]? = some (.bool true) := by rw [← VQ.out 4 (.bool true) (by rw [HVL.out]; rfl)]; exact hd ⟨4, .guard⟩ (by simp) rfl
                                            have hv : VL.getD 5 undef = .string s := VQ.out 5 _ (by rw [HVL.out]; rfl)
                                            rw [hv] at hK
                                            have HK9 := Lib.hid hK
                                            clear hd hK hv
                                            go_simp
                                            exact HK9.out _ hS
                                          · change some _ = some o at hi
                                            cases hi
                                            have q4 : ax.tmps[192]? = some (.bool true) := by rw [← VQ.out 4 (.bool true) (by rw [HVL.out]; rfl)]; exact hd ⟨4, .guard⟩ (by simp) rfl
                                            have hv : VL.getD 6 undef = .int .i64 j := VQ.out 6 _ (by rw [HVL.out]; rfl)
                                            rw [hv] at hK
                                            have HK9 := Lib.hid hK
                                            clear hd hK hv
                                            go_simp
                                            exact HK9.out _ hS
                                          · change some _ = some o at hi
                                            cases hi
                                            have q5 : ax.tmps[193]? = some (.string s) := by rw [← VQ.out 5 (.string s) (by rw [HVL.out]; rfl)]; exact hd ⟨5, .data⟩ (by simp) rfl
                                            have q6 : ax.tmps[194]? = some (.int .i64 j) := by rw [← VQ.out 6 (.int .i64 j) (by rw [HVL.out]; rfl)]; exact hd ⟨6, .data⟩ (by simp) rfl
                                            have q4 : ax.tmps[192]? = some (.bool true) := by rw [← VQ.out 4 (.bool true) (by rw [HVL.out]; rfl)]; exact hd ⟨4, .guard⟩ (by simp) rfl
                                            have hv : VL.getD 7 undef = .int .u8 c9.toNat := VQ.out 7 _ (by rw [HVL.out]; rfl)
                                            rw [hv] at hK
                                            have HK9 := Lib.hid hK
                                            clear hd hK hv
                                            go_simp
                                            exact HK9.out _ hS
                                          · change some _ = some o at hi
                                            cases hi
                                            have q7 : ax.tmps[195]? = some (.int .u8 c9.toNat) := by rw [← VQ.out 7 (.int .u8 c9.toNat) (by rw [HVL.out]; rfl)]; exact hd ⟨7, .data⟩ (by simp) rfl
                                            have q4 : ax.tmps[192]? = some (.bool true) := by rw [← VQ.out 4 (.bool true) (by rw [HVL.out]; rfl)]; exact hd ⟨4, .guard⟩ (by simp) rfl
                                            have hv : VL.getD 8 undef = .bool true := VQ.out 8 _ (by rw [HVL.out]; rfl)
                                            rw [hv] at hK
                                            have HK9 := Lib.hid hK
                                            clear hd hK hv
                                            go_simp
                                            exact HK9.out _ hS
                                          · change some _ = some o at hi
                                            cases hi
                                            have q4 : ax.tmps[192]? = some (.bool true) := by rw [← VQ.out 4 (.bool true) (by rw [HVL.out]; rfl)]; exact hd ⟨4, .data⟩ (by simp) rfl
                                            have q8 : ax.tmps[196]? = some (.bool true) := by rw [← VQ.out 8 (.bool true) (by rw [HVL.out]; rfl)]; exact hd ⟨8, .data⟩ (by simp) rfl
                                            have hv : VL.getD 9 undef = .bool true := VQ.out 9 _ (by rw [HVL.out]; rfl)
                                            rw [hv] at hK
                                            have HK9 := Lib.hid hK
                                            clear hd hK hv
                                            go_simp
                                            exact HK9.out _ hS
                                          · change some _ = some o at hi
                                            cases hi
                                            have q9 : ax.tmps[197]? = some (.bool true) := by rw [← VQ.out 9 (.bool true) (by rw [HVL.out]; rfl)]; exact hd ⟨9, .data⟩ (by simp) rfl
                                            have hv : VL.getD 10 undef = .bool true := VQ.out 10 _ (by rw [HVL.out]; rfl)
                                            rw [hv] at hK
                                            have HK9 := Lib.hid hK
                                            clear hd hK hv
                                            go_simp
                                            exact HK9.out _ hS
                                          · change some _ = some o at hi
                                            cases hi
                                            have q10 : ax.tmps[198]? = some (.bool true) := by rw [← VQ.out 10 (.bool true) (by rw [HVL.out]; rfl)]; exact hd ⟨10, .guard⟩ (by simp) rfl
                                            have hv : VL.getD 11 undef = .string s := VQ.out 11 _ (by rw [HVL.out]; rfl)
                                            rw [hv] at hK
                                            have HK9 := Lib.hid hK
                                            clear hd hK hv
                                            go_simp
                                            exact HK9.out _ hS
                                          · change some _ = some o at hi
                                            cases hi
                                            have q10 : ax.tmps[198]? = some (.bool true) := by rw [← VQ.out 10 (.bool true) (by rw [HVL.out]; rfl)]; exact hd ⟨10, .guard⟩ (by simp) rfl
                                            have hv : VL.getD 12 undef = .int .i64 j := VQ.out 12 _ (by rw [HVL.out]; rfl)
                                            rw [hv] at hK
                                            have HK9 := Lib.hid hK
                                            clear hd hK hv
                                            go_simp
                                            exact HK9.out _ hS
                                          · change some _ = some o at hi
                                            cases hi
                                            have q12 : ax.tmps[200]? = some (.int .i64 j) := by rw [← VQ.out 12 (.int .i64 j) (by rw [HVL.out]; rfl)]; exact hd ⟨12, .data⟩ (by simp) rfl
                                            have q10 : ax.tmps[198]? = some (.bool true) := by rw [← VQ.out 10 (.bool true) (by rw [HVL.out]; rfl)]; exact hd ⟨10, .guard⟩ (by simp) rfl
                                            have hv : VL.getD 13 undef = .int .i64 ((j : Int) + 1) := VQ.out 13 _ (by rw [HVL.out]; rfl)
                                            rw [hv] at hK
                                            have HK9 := Lib.hid hK
                                            clear hd hK hv
                                            go_simp
                                            exact HK9.out _ hS
                                          · change some _ = some o at hi
                                            cases hi
                                            have q11 : ax.tmps[199]? = some (.string s) := by rw [← VQ.out 11 (.string s) (by rw [HVL.out]; rfl)]; exact hd ⟨11, .data⟩ (by simp) rfl
                                            have q13 : ax.tmps[201]? = some (.int .i64 ((j : Int) + 1)) := by rw [← VQ.out 13 (.int .i64 ((j : Int) + 1)) (by rw [HVL.out]; rfl)]; exact hd ⟨13, .data⟩ (by simp) rfl
                                            have q10 : ax.tmps[198]? = some (.bool true) := by rw [← VQ.out 10 (.bool true) (by rw [HVL.out]; rfl)]; exact hd ⟨10, .guard⟩ (by simp) rfl
                                            have hv : VL.getD 14 undef = .int .u8 d9.toNat := VQ.out 14 _ (by rw [HVL.out]; rfl)
                                            rw [hv] at hK
                                            have HK9 := Lib.hid hK
                                            clear hd hK hv
                                            go_simp
                                            exact HK9.out _ hS
                                          · change some _ = some o at hi
                                            cases hi
                                            have q14 : ax.tmps[202]? = some (.int .u8 d9.toNat) := by rw [← VQ.out 14 (.int .u8 d9.toNat) (by rw [HVL.out]; rfl)]; exact hd ⟨14, .data⟩ (by simp) rfl
                                            have q10 : ax.tmps[198]? = some (.bool true) := by rw [← VQ.out 10 (.bool true) (by rw [HVL.out]; rfl)]; exact hd ⟨10, .guard⟩ (by simp) rfl
                                            have hv : VL.getD 15 undef = .bool true := VQ.out 15 _ (by rw [HVL.out]; rfl)
                                            rw [hv] at hK
                                            have HK9 := Lib.hid hK
                                            clear hd hK hv
                                            go_simp
                                            exact HK9.out _ hS
                                          · change some _ = some o at hi
                                            cases hi
                                            have q10 : ax.tmps[198]? = some (.bool true) := by rw [← VQ.out 10 (.bool true) (by rw [HVL.out]; rfl)]; exact hd ⟨10, .data⟩ (by simp) rfl
                                            have q15 : ax.tmps[203]? = some (.bool true) := by rw [← VQ.out 15 (.bool true) (by rw [HVL.out]; rfl)]; exact hd ⟨15, .data⟩ (by simp) rfl
                                            have hv : VL.getD 16 undef = .bool true := VQ.out 16 _ (by rw [HVL.out]; rfl)
                                            rw [hv] at hK
                                            have HK9 := Lib.hid hK
                                            clear hd hK hv
                                            go_simp
                                            exact HK9.out _ hS
                                          · change some _ = some o at hi
                                            cases hi
                                            have q16 : ax.tmps[204]? = some (.bool true) := by rw [← VQ.out 16 (.bool true) (by rw [HVL.out]; rfl)]; exact hd ⟨16, .data⟩ (by simp) rfl
                                            have hv : VL.getD 17 undef = .bool true := VQ.out 17 _ (by rw [HVL.out]; rfl)
                                            rw [hv] at hK
                                            have HK9 := Lib.hid hK
                                            clear hd hK hv
                                            go_simp
                                            exact HK9.out _ hS
                                          · change some _ = some o at hi
                                            cases hi
                                            have q17 : ax.tmps[205]? = some (.bool true) := by rw [← VQ.out 17 (.bool true) (by rw [HVL.out]; rfl)]; exact hd ⟨17, .guard⟩ (by simp) rfl
                                            have hv : VL.getD 18 undef = .string s := VQ.out 18 _ (by rw [HVL.out]; rfl)
                                            rw [hv] at hK
                                            have HK9 := Lib.hid hK
                                            clear hd hK hv
                                            go_simp
                                            exact HK9.out _ hS
                                          · change some _ = some o at hi
                                            cases hi
                                            have q17 : ax.tmps[205]? = some (.bool true) := by rw [← VQ.out 17 (.bool true) (by rw [HVL.out]; rfl)]; exact hd ⟨17, .guard⟩ (by simp) rfl
                                            have hv : VL.getD 19 undef = .int .i64 j := VQ.out 19 _ (by rw [HVL.out]; rfl)
                                            rw [hv] at hK
                                            have HK9 := Lib.hid hK
                                            clear hd hK hv
                                            go_simp
                                            exact HK9.out _ hS
                                          · change some _ = some o at hi
                                            cases hi
                                            have q19 : ax.tmps[207]? = some (.int .i64 j) := by rw [← VQ.out 19 (.int .i64 j) (by rw [HVL.out]; rfl)]; exact hd ⟨19, .data⟩ (by simp) rfl
                                            have q17 : ax.tmps[205]? = some (.bool true) := by rw [← VQ.out 17 (.bool true) (by rw [HVL.out]; rfl)]; exact hd ⟨17, .guard⟩ (by simp) rfl
                                            have hv : VL.getD 20 undef = .int .i64 ((j : Int) + 2) := VQ.out 20 _ (by rw [HVL.out]; rfl)
                                            rw [hv] at hK
                                            have HK9 := Lib.hid hK
                                            clear hd hK hv
                                            go_simp
                                            exact HK9.out _ hS
                                          · change some _ = some o at hi
                                            cases hi
                                            have q17 : ax.tmps[205]? = some (.bool true) := by rw [← VQ.out 17 (.bool true) (by rw [HVL.out]; rfl)]; exact hd ⟨17, .guard⟩ (by simp) rfl
                                            have hv : VL.getD 21 undef = .int .i64 ((j : Int) + 2 + (y.name.length : Int)) := VQ.out 21 _ (by rw [HVL.out]; rfl)
                                            rw [hv] at hK
                                            have HK9 := Lib.hid hK
                                            clear hd hK hv
                                            go_simp
                                            exact HK9.out _ hS
                                          · change some _ = some o at hi
                                            cases hi
                                            have q18 : ax.tmps[206]? = some (.string s) := by rw [← VQ.out 18 (.string s) (by rw [HVL.out]; rfl)]; exact hd ⟨18, .data⟩ (by simp) rfl
                                            have q20 : ax.tmps[208]? = some (.int .i64 ((j : Int) + 2)) := by rw [← VQ.out 20 (.int .i64 ((j : Int) + 2)) (by rw [HVL.out]; rfl)]; exact hd ⟨20, .data⟩ (by simp) rfl
                                            have q21 : ax.tmps[209]? = some (.int .i64 ((j : Int) + 2 + (y.name.length : Int))) := by rw [← VQ.out 21 (.int .i64 ((j : Int) + 2 + (y.name.length : Int))) (by rw [HVL.out]; rfl)]; exact hd ⟨21, .data⟩ (by simp) rfl
                                            have q17 : ax.tmps[205]? = some (.bool true) := by rw [← VQ.out 17 (.bool true) (by rw [HVL.out]; rfl)]; exact hd ⟨17, .guard⟩ (by simp) rfl
                                            have hv : VL.getD 22 undef = .string (s.extract (j + 2) (j + 2 + y.name.length)) := VQ.out 22 _ (by rw [HVL.out]; rfl)
                                            rw [hv] at hK
                                            have HK9 := Lib.hid hK
                                            clear hd hK hv
                                            go_simp
                                            exact HK9.out _ hS
                                          · change some _ = some o at hi
                                            cases hi
                                            have q22 : ax.tmps[210]? = some (.string (s.extract (j + 2) (j + 2 + y.name.length))) := by rw [← VQ.out 22 (.string (s.extract (j + 2) (j + 2 + y.name.length))) (by rw [HVL.out]; rfl)]; exact hd ⟨22, .data⟩ (by simp) rfl
                                            have q17 : ax.tmps[205]? = some (.bool true) := by rw [← VQ.out 17 (.bool true) (by rw [HVL.out]; rfl)]; exact hd ⟨17, .guard⟩ (by simp) rfl
                                            have hv : VL.getD 23 undef = .string (mk SL) := VQ.out 23 _ (by rw [HVL.out]; rfl)
                                            rw [hv] at hK
                                            have HK9 := Lib.hid hK
                                            clear hd hK hv
                                            go_simp
                                            refine (HLow.out _).mono ?_
                                            rintro e w4 ⟨rfl, hb4⟩
                                            exact HK9.out _ ⟨Lib.hid (hS.1.out.older hb4), Lib.hid (TokBlk.older hS.2.out hb4)⟩
                                          · change some _ = some o at hi
                                            cases hi
                                            have q17 : ax.tmps[205]? = some (.bool true) := by rw [← VQ.out 17 (.bool true) (by rw [HVL.out]; rfl)]; exact hd ⟨17, .guard⟩ (by simp) rfl
                                            have hv : VL.getD 24 undef = .pointer (some ⟨w1.heap.size, 1, none⟩) := VQ.out 24 _ (by rw [HVL.out]; rfl)
                                            rw [hv] at hK
                                            have HK9 := Lib.hid hK
                                            clear hd hK hv
                                            go_simp
                                            exact HK9.out _ hS
                                          · change some _ = some o at hi
                                            cases hi
                                            have q24 : ax.tmps[212]? = some (.pointer (some ⟨w1.heap.size, 1, none⟩)) := by rw [← VQ.out 24 (.pointer (some ⟨w1.heap.size, 1, none⟩)) (by rw [HVL.out]; rfl)]; exact hd ⟨24, .data⟩ (by simp) rfl
                                            have q17 : ax.tmps[205]? = some (.bool true) := by rw [← VQ.out 17 (.bool true) (by rw [HVL.out]; rfl)]; exact hd ⟨17, .guard⟩ (by simp) rfl
                                            have hv : VL.getD 25 undef = .string (mk y.name) := VQ.out 25 _ (by rw [HVL.out]; rfl)
                                            rw [hv] at hK
                                            have HK9 := Lib.hid hK
                                            clear hd hK hv
                                            go_simp
                                            exact HK9.out _ hS
                                          · change some _ = some o at hi
                                            cases hi
                                            have q23 : ax.tmps[211]? = some (.string (mk SL)) := by rw [← VQ.out 23 (.string (mk SL)) (by rw [HVL.out]; rfl)]; exact hd ⟨23, .data⟩ (by simp) rfl
                                            have q25 : ax.tmps[213]? = some (.string (mk y.name)) := by rw [← VQ.out 25 (.string (mk y.name)) (by rw [HVL.out]; rfl)]; exact hd ⟨25, .data⟩ (by simp) rfl
                                            have q17 : ax.tmps[205]? = some (.bool true) := by rw [← VQ.out 17 (.bool true) (by rw [HVL.out]; rfl)]; exact hd ⟨17, .guard⟩ (by simp) rfl
                                            have hv : VL.getD 26 undef = .bool false := VQ.out 26 _ (by rw [HVL.out]; rfl)
                                            rw [hv] at hK
                                            have HK9 := Lib.hid hK
                                            clear hd hK hv
                                            go_simp
                                            exact HK9.out _ hS
                                          · change some _ = some o at hi
                                            cases hi
                                            have q17 : ax.tmps[205]? = some (.bool true) := by rw [← VQ.out 17 (.bool true) (by rw [HVL.out]; rfl)]; exact hd ⟨17, .data⟩ (by simp) rfl
                                            have q26 : ax.tmps[214]? = some (.bool false) := by rw [← VQ.out 26 (.bool false) (by rw [HVL.out]; rfl)]; exact hd ⟨26, .data⟩ (by simp) rfl
                                            have hv : VL.getD 27 undef = .bool false := VQ.out 27 _ (by rw [HVL.out]; rfl)
                                            rw [hv] at hK
                                            have HK9 := Lib.hid hK
                                            clear hd hK hv
                                            go_simp
                                            exact HK9.out _ hS
                                          · change some _ = some o at hi
                                            cases hi
                                            have q27 : ax.tmps[215]? = some (.bool false) := by rw [← VQ.out 27 (.bool false) (by rw [HVL.out]; rfl)]; exact hd ⟨27, .data⟩ (by simp) rfl
                                            have hv : VL.getD 28 undef = .bool false := VQ.out 28 _ (by rw [HVL.out]; rfl)
                                            rw [hv] at hK
                                            have HK9 := Lib.hid hK
                                            clear hd hK hv
                                            go_simp
                                            exact HK9.out _ hS
                                          · change some _ = some o at hi
                                            cases hi
                                            have q28 : ax.tmps[216]? = some (.bool false) := by rw [← VQ.out 28 (.bool false) (by rw [HVL.out]; rfl)]; exact hd ⟨28, .guard⟩ (by simp) rfl
                                            have hv : VL.getD 29 undef = undef := VQ.out 29 _ (by rw [HVL.out]; rfl)
                                            clear hd hK
                                            go_simp
                                            exact hv
                                          · change some _ = some o at hi
                                            cases hi
                                            have q28 : ax.tmps[216]? = some (.bool false) := by rw [← VQ.out 28 (.bool false) (by rw [HVL.out]; rfl)]; exact hd ⟨28, .guard⟩ (by simp) rfl
                                            have hv : VL.getD 30 undef = undef := VQ.out 30 _ (by rw [HVL.out]; rfl)
                                            clear hd hK
                                            go_simp
                                            exact hv
                                          · change some _ = some o at hi
                                            cases hi
                                            have q29 : ax.tmps[217]? = some (undef) := by rw [← VQ.out 29 (undef) (by rw [HVL.out]; rfl)]; exact hd ⟨29, .data⟩ (by simp) rfl
                                            have q30 : ax.tmps[218]? = some (undef) := by rw [← VQ.out 30 (undef) (by rw [HVL.out]; rfl)]; exact hd ⟨30, .data⟩ (by simp) rfl
                                            have q28 : ax.tmps[216]? = some (.bool false) := by rw [← VQ.out 28 (.bool false) (by rw [HVL.out]; rfl)]; exact hd ⟨28, .guard⟩ (by simp) rfl
                                            have hv : VL.getD 31 undef = undef := VQ.out 31 _ (by rw [HVL.out]; rfl)
                                            clear hd hK
                                            go_simp
                                            exact hv
                                          · change some _ = some o at hi
                                            cases hi
                                            have q31 : ax.tmps[219]? = some (undef) := by rw [← VQ.out 31 (undef) (by rw [HVL.out]; rfl)]; exact hd ⟨31, .data⟩ (by simp) rfl
                                            have q28 : ax.tmps[216]? = some (.bool false) := by rw [← VQ.out 28 (.bool false) (by rw [HVL.out]; rfl)]; exact hd ⟨28, .guard⟩ (by simp) rfl
                                            have hv : VL.getD 32 undef = undef := VQ.out 32 _ (by rw [HVL.out]; rfl)
                                            clear hd hK
                                            go_simp
                                            exact hv
                                          · change some _ = some o at hi
                                            cases hi
                                            have q32 : ax.tmps[220]? = some (undef) := by rw [← VQ.out 32 (undef) (by rw [HVL.out]; rfl)]; exact hd ⟨32, .data⟩ (by simp) rfl
                                            have q28 : ax.tmps[216]? = some (.bool false) := by rw [← VQ.out 28 (.bool false) (by rw [HVL.out]; rfl)]; exact hd ⟨28, .guard⟩ (by simp) rfl
                                            have hv : VL.getD 33 undef = undef := VQ.out 33 _ (by rw [HVL.out]; rfl)
                                            clear hd hK
                                            go_simp
                                            exact hv
                                          · change some _ = some o at hi
                                            cases hi
                                            have q33 : ax.tmps[221]? = some (undef) := by rw [← VQ.out 33 (undef) (by rw [HVL.out]; rfl)]; exact hd ⟨33, .guard⟩ (by simp) rfl
                                            have hv : VL.getD 34 undef = undef := VQ.out 34 _ (by rw [HVL.out]; rfl)
                                            clear hd hK
                                            go_simp
                                            exact hv
                                          · change some _ = some o at hi
                                            cases hi
                                            have q33 : ax.tmps[221]? = some (undef) := by rw [← VQ.out 33 (undef) (by rw [HVL.out]; rfl)]; exact hd ⟨33, .guard⟩ (by simp) rfl
                                            have hv : VL.getD 35 undef = undef := VQ.out 35 _ (by rw [HVL.out]; rfl)
                                            clear hd hK
                                            go_simp
                                            exact hv
                                          · change some _ = some o at hi
                                            cases hi
                                            have q34 : ax.tmps[222]? = some (undef) := by rw [← VQ.out 34 (undef) (by rw [HVL.out]; rfl)]; exact hd ⟨34, .data⟩ (by simp) rfl
                                            have q35 : ax.tmps[223]? = some (undef) := by rw [← VQ.out 35 (undef) (by rw [HVL.out]; rfl)]; exact hd ⟨35, .data⟩ (by simp) rfl
                                            have q33 : ax.tmps[221]? = some (undef) := by rw [← VQ.out 33 (undef) (by rw [HVL.out]; rfl)]; exact hd ⟨33, .guard⟩ (by simp) rfl
                                            have hv : VL.getD 36 undef = undef := VQ.out 36 _ (by rw [HVL.out]; rfl)
                                            clear hd hK
                                            go_simp
                                            exact hv
                                          · change some _ = some o at hi
                                            cases hi
                                            have q36 : ax.tmps[224]? = some (undef) := by rw [← VQ.out 36 (undef) (by rw [HVL.out]; rfl)]; exact hd ⟨36, .data⟩ (by simp) rfl
                                            have q33 : ax.tmps[221]? = some (undef) := by rw [← VQ.out 33 (undef) (by rw [HVL.out]; rfl)]; exact hd ⟨33, .guard⟩ (by simp) rfl
                                            have hv : VL.getD 37 undef = undef := VQ.out 37 _ (by rw [HVL.out]; rfl)
                                            clear hd hK
                                            go_simp
                                            exact hv
                                          · change some _ = some o at hi
                                            cases hi
                                            have q33 : ax.tmps[221]? = some (undef) := by rw [← VQ.out 33 (undef) (by rw [HVL.out]; rfl)]; exact hd ⟨33, .data⟩ (by simp) rfl
                                            have q37 : ax.tmps[225]? = some (undef) := by rw [← VQ.out 37 (undef) (by rw [HVL.out]; rfl)]; exact hd ⟨37, .data⟩ (by simp) rfl
                                            have q28 : ax.tmps[216]? = some (.bool false) := by rw [← VQ.out 28 (.bool false) (by rw [HVL.out]; rfl)]; exact hd ⟨28, .guard⟩ (by simp) rfl
                                            have hv : VL.getD 38 undef = undef := VQ.out 38 _ (by rw [HVL.out]; rfl)
                                            clear hd hK
                                            go_simp
                                            exact hv
                                          · change some _ = some o at hi
                                            cases hi
                                            have q38 : ax.tmps[226]? = some (undef) := by rw [← VQ.out 38 (undef) (by rw [HVL.out]; rfl)]; exact hd ⟨38, .data⟩ (by simp) rfl
                                            have q28 : ax.tmps[216]? = some (.bool false) := by rw [← VQ.out 28 (.bool false) (by rw [HVL.out]; rfl)]; exact hd ⟨28, .guard⟩ (by simp) rfl
                                            have hv : VL.getD 39 undef = undef := VQ.out 39 _ (by rw [HVL.out]; rfl)
                                            clear hd hK
                                            go_simp
                                            exact hv
                                          · change some _ = some o at hi
                                            cases hi
                                            have q39 : ax.tmps[227]? = some (undef) := by rw [← VQ.out 39 (undef) (by rw [HVL.out]; rfl)]; exact hd ⟨39, .guard⟩ (by simp) rfl
                                            have hv : VL.getD 40 undef = undef := VQ.out 40 _ (by rw [HVL.out]; rfl)
                                            clear hd hK
                                            go_simp
                                            exact hv
                                          · change some _ = some o at hi
                                            cases hi
                                            have q39 : ax.tmps[227]? = some (undef) := by rw [← VQ.out 39 (undef) (by rw [HVL.out]; rfl)]; exact hd ⟨39, .guard⟩ (by simp) rfl
                                            have hv : VL.getD 41 undef = undef := VQ.out 41 _ (by rw [HVL.out]; rfl)
                                            clear hd hK
                                            go_simp
                                            exact hv
                                          · change some _ = some o at hi
                                            cases hi
                                            have q40 : ax.tmps[228]? = some (undef) := by rw [← VQ.out 40 (undef) (by rw [HVL.out]; rfl)]; exact hd ⟨40, .data⟩ (by simp) rfl
                                            have q41 : ax.tmps[229]? = some (undef) := by rw [← VQ.out 41 (undef) (by rw [HVL.out]; rfl)]; exact hd ⟨41, .data⟩ (by simp) rfl
                                            have q39 : ax.tmps[227]? = some (undef) := by rw [← VQ.out 39 (undef) (by rw [HVL.out]; rfl)]; exact hd ⟨39, .guard⟩ (by simp) rfl
                                            have hv : VL.getD 42 undef = undef := VQ.out 42 _ (by rw [HVL.out]; rfl)
                                            clear hd hK
                                            go_simp
                                            exact hv
                                          · change some _ = some o at hi
                                            cases hi
                                            have q42 : ax.tmps[230]? = some (undef) := by rw [← VQ.out 42 (undef) (by rw [HVL.out]; rfl)]; exact hd ⟨42, .data⟩ (by simp) rfl
                                            have q39 : ax.tmps[227]? = some (undef) := by rw [← VQ.out 39 (undef) (by rw [HVL.out]; rfl)]; exact hd ⟨39, .guard⟩ (by simp) rfl
                                            have hv : VL.getD 43 undef = undef := VQ.out 43 _ (by rw [HVL.out]; rfl)
                                            clear hd hK
                                            go_simp
                                            exact hv
                                          · change some _ = some o at hi
                                            cases hi
                                            have q39 : ax.tmps[227]? = some (undef) := by rw [← VQ.out 39 (undef) (by rw [HVL.out]; rfl)]; exact hd ⟨39, .data⟩ (by simp) rfl
                                            have q43 : ax.tmps[231]? = some (undef) := by rw [← VQ.out 43 (undef) (by rw [HVL.out]; rfl)]; exact hd ⟨43, .data⟩ (by simp) rfl
                                            have q28 : ax.tmps[216]? = some (.bool false) := by rw [← VQ.out 28 (.bool false) (by rw [HVL.out]; rfl)]; exact hd ⟨28, .guard⟩ (by simp) rfl
                                            have hv : VL.getD 44 undef = undef := VQ.out 44 _ (by rw [HVL.out]; rfl)
                                            clear hd hK
                                            go_simp
                                            exact hv
                                          · change some _ = some o at hi
                                            cases hi
                                            have q28 : ax.tmps[216]? = some (.bool false) := by rw [← VQ.out 28 (.bool false) (by rw [HVL.out]; rfl)]; exact hd ⟨28, .data⟩ (by simp) rfl
                                            have q44 : ax.tmps[232]? = some (undef) := by rw [← VQ.out 44 (undef) (by rw [HVL.out]; rfl)]; exact hd ⟨44, .data⟩ (by simp) rfl
                                            have hv : VL.getD 45 undef = .bool false := VQ.out 45 _ (by rw [HVL.out]; rfl)
                                            rw [hv] at hK
                                            have HK9 := Lib.hid hK
                                            clear hd hK hv
                                            go_simp
                                            exact HK9.out _ hS
                                    · have g2 : ((d9.toNat : Int) == 47) = false := (u8ne (n := 47) (by decide) hd).1
                                      have HRS := Lib.hid (show rawStop y.name ((lst s).drop j) = false by rw [HRS.out, beq_eq_false_iff_ne.2 hd]; simp)
                                      clear hc hd
                                      go_quiet (fail)
                                      go_wp2_with fail
                                      go_meet
                                      exact ⟨by rw [HRS.out], Lib.hid (HTr.out.older ⟨rfl, rfl, rfl, Nat.le_refl _, fun _ _ => rfl⟩), Lib.hid (TokBlk.older HBr.out ⟨rfl, rfl, rfl, Nat.le_refl _, fun _ _ => rfl⟩)⟩
                                  · have g1 : ((c9.toNat : Int) == 60) = false := (u8ne (n := 60) (by decide) hc).1
                                    have HRS := Lib.hid (show rawStop y.name ((lst s).drop j) = false by rw [HRS.out, beq_eq_false_iff_ne.2 hc]; simp)
                                    clear hc
                                    go_quiet (fail)
                                    go_wp2_with fail
                                    go_meet
                                    exact ⟨by rw [HRS.out], Lib.hid (HTr.out.older ⟨rfl, rfl, rfl, Nat.le_refl _, fun _ _ => rfl⟩), Lib.hid (TokBlk.older HBr.out ⟨rfl, rfl, rfl, Nat.le_refl _, fun _ _ => rfl⟩)⟩
                                · have HRS := Lib.hid (rawStop_short s y.name j hk)
                                  have hkI : ¬ (j : Int) + 2 + (y.name.length : Int) < s.size := by omega
                                  clear hk
                                  go_quiet (fail)
                                  go_wp2_with fail
                                  go_meet
                                  exact ⟨by rw [HRS.out], Lib.hid (HTr.out.older ⟨rfl, rfl, rfl, Nat.le_refl _, fun _ _ => rfl⟩), Lib.hid (TokBlk.older HBr.out ⟨rfl, rfl, rfl, Nat.le_refl _, fun _ _ => rfl⟩)⟩
                              case rest => as_aux_lemma =>
                                obtain ⟨rfl, HTq, HBq⟩ := hcut
                                clear x0 x1 HTr HBr
                                obtain ⟨Wq, hWq⟩ : ∃ Wq, Wq = wc := ⟨_, rfl⟩
                                subst hWq
                                obtain ⟨x0, _, _⟩ := HTq.out.b0.all
                                have hdj : (lst s).drop j = s[j]'hjl :: (lst s).drop (j + 1) := List.drop_eq_getElem_cons (by rw [lst_length]; exact hjl)
                                cases hst : rawStop y.name ((lst s).drop j) with
                                | true =>
                                  have HJ2 := Lib.hid (show rw_ = T ∧ PV = j by
                                    have hh := HJ.out
                                    rw [hdj, rawM_cons, ← hdj, hst] at hh
                                    simp only [if_true, List.append_nil] at hh
                                    refine ⟨hh.1, ?_⟩
                                    rw [← HPVe.out, ← hh.2, List.length_drop, lst_length]; omega)
                                  clear hdj hst
                                  go_wp2_with fail
                                  go_meet
                                  exact ⟨by rw [HJ2.out.2], by rw [HJ2.out.1], HTq, HBq⟩
                                | false =>
                                  have hx9 : s.extract j (j + 1) = mk [s[j]'hjl] := by rw [ext_take, hdj]; rfl
                                  have HX9 := Lib.hid (show mk rw_ ++ s.extract j (j + 1) = mk (rw_ ++ [s[j]'hjl]) by rw [hx9, mk_append])
                                  have hcat9 : ¬ 9223372036854775807 < (mk rw_).size + (s.extract j (j + 1)).size := by rw [hx9, mk_size, mk_size]; simp only [List.length_cons, List.length_nil]; omega
                                  have HJ2 := Lib.hid (show (rw_ ++ [s[j]'hjl]) ++ (rawM y.name ((lst s).drop (j + 1))).1 = T ∧ (rawM y.name ((lst s).drop (j + 1))).2 = V by
                                    have hh := HJ.out
                                    rw [hdj, rawM_cons, ← hdj, hst] at hh
                                    simpa using hh)
                                  clear hdj hst hx9
                                  go_wp2_with fail
                                  go_roundw
                                  case rel => exact ⟨_, j + 1, rw_ ++ [s[j]'hjl], rfl, by go_num, by rw [HX9.out], by omega, by rw [List.length_append]; simp; omega, HJ2, HTq, HBq⟩
                                  case measure => simp [intOf]; omega
                            · have HJ2 := Lib.hid (show rw_ = T ∧ PV = j by
                                have hh := HJ.out
                                rw [List.drop_eq_nil_of_le (by rw [lst_length]; omega)] at hh
                                simp only [rawM, List.append_nil] at hh
                                refine ⟨hh.1, ?_⟩
                                rw [← HPVe.out, ← hh.2]; simp; omega)
                              go_wp2_with fail
                              go_meet
                              exact ⟨by rw [HJ2.out.2], by rw [HJ2.out.1], HTr, HBr⟩
                        case rest => as_aux_lemma =>
                          obtain ⟨rfl, rfl, HT8, HBX8⟩ := hcut
                          clear HT7 HBX7 n1
                          obtain ⟨W8, hW8⟩ : ∃ W8, W8 = wc := ⟨_, rfl⟩
                          subst hW8
                          obtain ⟨_, n1, _, _, _, _, _, _⟩ := HBX8.out.all
                          obtain ⟨d1, df1, _⟩ := HT8.out.b1.all
                          have hidx : ∀ h, (mk y.name)[0]'h = rb := fun h => by
                            have h5 : (mk y.name)[0]'h = (lst (mk y.name))[0]'(by rw [lst_length]; exact h) := rfl
                            have h6 : (lst (mk y.name))[0]? = some rb := by rw [lst_mk, HNM.out]; rfl
                            rw [h5]; exact (List.getElem?_eq_some_iff.1 h6).2
                          have hsz0 : (0 : Int) < (mk y.name).size := by rw [mk_size, HNM.out]; simp only [List.length_cons]; omega
                          have hl2x : X.length ≤ 1000000 := by omega
                          obtain ⟨tA7, tC7, htv7⟩ := HT8.out.own.view.form
                          subst htv7
                          have hru := fun (W : World) => refUnescape_any (mk T) W (by rw [mk_size]; omega)
                          simp only [lst_mk] at hru
                          have HRU := Lib.hid hru
                          clear hru
                          have hrt := HRT.out
                          rcases hrt with ⟨hb, hrt⟩ | ⟨hb, hrt⟩
                          · as_aux_lemma =>
                            have f116 : ((rb.toNat : Int) == 116) = true := (u8eq (n := 116) (by decide) hb).1
                            have HRX := Lib.hid (hrt T)
                            have hTu := unesc_le T
                            clear hb hrt
                            obtain ⟨U, hU⟩ : ∃ U, unesc T = U := ⟨_, rfl⟩
                            rw [hU] at HRX hTu HRU
                            clear hU
                            go_wp2_with fail
                            refine (HRU.out _).mono ?_
                            rintro e5 w5 ⟨rfl, hb5⟩
                            have HT5 := Lib.hid (HT8.out.older hb5)
                            clear hb5 d1 df1 n1 hidx f116 hsz0
                            obtain ⟨d1, df1, _⟩ := HT5.out.b1.all
                            by_cases hU0 : U = []
                            · have heU : (mk U).toList.isEmpty = true := by rw [hU0, toList_mk]; rfl
                              have HEQ4 := Lib.hid (show X ++ mText [] ((lst s).drop PV) = allM (lst s) by
                                have h := HEQ3.out
                                unfold rawToks at h
                                rw [HRX.out, if_pos hU0] at h
                                rw [HPV3.out]; simpa using h)
                              clear hU0
                              go_wp2_with fail
                              go_roundw
                              case rel => exact ⟨_, PV, X, [], _, rfl, rfl, pv2, by simp; omega, HT5, HEQ4⟩
                              case measure => simp [intOf]; omega
                            · have hU1 : 1 ≤ U.length := by
                                cases U with
                                | nil => exact absurd rfl hU0
                                | cons a l => simp
                              have heU : (mk U).toList.isEmpty = false := by rw [toList_mk]; cases U with
                                | nil => exact absurd rfl hU0
                                | cons a l => rfl
                              have HEQ4 := Lib.hid (show X ++ [chars U] ++ mText [] ((lst s).drop PV) = allM (lst s) by
                                have h := HEQ3.out
                                unfold rawToks at h
                                rw [HRX.out, if_neg hU0] at h
                                rw [HPV3.out]; simpa using h)
                              have hz5 : ∀ o : Obj, w.heap.size + 4 ≤ (w5.alloc o).heap.size := fun o => by have := HT5.out.b3.all.2.2; simp; omega
                              have HV5 := Lib.hid (tokView1 w5 (chars U) (.slice none 0 0) (x1 := ⟨#[]⟩) (x2 := mk U) rfl rfl (attrNone _))
                              have HO5 := Lib.hid (fun o : Obj => (HT5.out.alloc o).own)
                              clear hU0
                              go_upto_region 45 with fail
                              iterate 13 go_step
                              refine wpList_one (by rfl) (.tmp 251) (.tmp 254) (by rfl) (w.heap.size + 4) _ _ X (chars U) (by rfl) (by rfl) (HO5.out _) HV5.out hl2x (hz5 _) ?_
                              intro A2 C2 w6 hown hgr
                              have HP5 := Lib.hid (HT5.out.push ((Below.refl _ _).alloc (Nat.le_refl _) _) hgr hown)
                              clear hown hgr
                              obtain ⟨q1, qf1, _⟩ := HP5.out.1.all
                              go_wp2_with fail
                              go_roundw
                              case rel => exact ⟨_, PV, _, [], _, rfl, rfl, pv2, by rw [List.length_append]; simp; omega, Lib.hid HP5.out.2.2.2, HEQ4⟩
                              case measure => simp [intOf]; omega
                          · as_aux_lemma =>
                            have f116 : ((rb.toNat : Int) == 116) = false := (u8ne (n := 116) (by decide) hb).1
                            have HRX := Lib.hid (hrt T)
                            have HT5 := HT8
                            obtain ⟨w5, hw5⟩ : ∃ w5, w5 = W8 := ⟨_, rfl⟩
                            subst hw5
                            obtain ⟨U, hU⟩ : ∃ U, U = T := ⟨_, rfl⟩
                            subst hU
                            have hTu : U.length ≤ s.size := hTl
                            have hTu2 : P + U.length ≤ PV := hPT
                            clear hb hrt
                            by_cases hU0 : U = []
                            · have heU : (mk U).toList.isEmpty = true := by rw [hU0, toList_mk]; rfl
                              have HEQ4 := Lib.hid (show X ++ mText [] ((lst s).drop PV) = allM (lst s) by
                                have h := HEQ3.out
                                unfold rawToks at h
                                rw [HRX.out, if_pos hU0] at h
                                rw [HPV3.out]; simpa using h)
                              clear hU0
                              go_wp2_with fail
                              go_roundw
                              case rel => exact ⟨_, PV, X, [], _, rfl, rfl, pv2, by simp; omega, HT5, HEQ4⟩
                              case measure => simp [intOf]; omega
                            · have hU1 : 1 ≤ U.length := by
                                cases U with
                                | nil => exact absurd rfl hU0
                                | cons a l => simp
                              have heU : (mk U).toList.isEmpty = false := by rw [toList_mk]; cases U with
                                | nil => exact absurd rfl hU0
                                | cons a l => rfl
                              have HEQ4 := Lib.hid (show X ++ [chars U] ++ mText [] ((lst s).drop PV) = allM (lst s) by
                                have h := HEQ3.out
                                unfold rawToks at h
                                rw [HRX.out, if_neg hU0] at h
                                rw [HPV3.out]; simpa using h)
                              have hz5 : ∀ o : Obj, w.heap.size + 4 ≤ (w5.alloc o).heap.size := fun o => by have := HT5.out.b3.all.2.2; simp; omega
                              have HV5 := Lib.hid (tokView1 w5 (chars U) (.slice none 0 0) (x1 := ⟨#[]⟩) (x2 := mk U) rfl rfl (attrNone _))
                              have HO5 := Lib.hid (fun o : Obj => (HT5.out.alloc o).own)
                              clear hU0
                              go_upto_region 45 with fail
                              iterate 13 go_step
                              refine wpList_one (by rfl) (.tmp 251) (.tmp 254) (by rfl) (w.heap.size + 4) _ _ X (chars U) (by rfl) (by rfl) (HO5.out _) HV5.out hl2x (hz5 _) ?_
                              intro A2 C2 w6 hown hgr
                              have HP5 := Lib.hid (HT5.out.push ((Below.refl _ _).alloc (Nat.le_refl _) _) hgr hown)
                              clear hown hgr
                              obtain ⟨q1, qf1, _⟩ := HP5.out.1.all
                              go_wp2_with fail
                              go_roundw
                              case rel => exact ⟨_, PV, _, [], _, rfl, rfl, pv2, by rw [List.length_append]; simp; omega, Lib.hid HP5.out.2.2.2, HEQ4⟩
                              case measure => simp [intOf]; omega
                | false => as_aux_lemma =>
                  rw [hld] at HAl
                  clear hcd
                  have hop : opensM (c :: r) = false := by rw [HCD.out, opensM_cons2, hld, beq_eq_false_iff_ne.2 h33, beq_eq_false_iff_ne.2 h63, beq_eq_false_iff_ne.2 h47]; rfl
                  have HEQ2 := Lib.hid (show out ++ mText (text ++ [c]) ((lst s).drop (a + 1)) = allM (lst s) by rw [HR1.out, ← mText_in _ _ _ hop]; exact HEQ.out)
                  clear hop
                  clear hld
                  go_wp2_with fail
                  refine (HAl.out _).mono ?_
                  rintro e w' ⟨rfl, hw⟩
                  rw [← hw]
                  clear hw w'
                  go_upto_region 10 with fail
                  obtain ⟨c2, f2, _⟩ := HT.out.b2.all
                  go_region
                  all_goals
                    go_wp2_with fail
                    go_roundw
                    case rel => exact ⟨_, a + 1, out, text ++ [c], tv, rfl, by go_num, by omega, by rw [List.length_append]; simp; omega, Lib.hid (by rw [HX.out]; exact HT.out.drew.setText _), HEQ2⟩
                    case measure => simp [intOf]; omega
        · as_aux_lemma =>
          have h2I : ¬ (a : Int) + 1 < s.size := by omega
          have hop : opensM (c :: r) = false := by rw [h60, show r = [] by rw [← HR1.out]; exact List.drop_eq_nil_of_le (by rw [lst_length]; omega)]; rfl
          have HEQ2 := Lib.hid (show out ++ mText (text ++ [c]) ((lst s).drop (a + 1)) = allM (lst s) by rw [HR1.out, ← mText_in _ _ _ hop]; exact HEQ.out)
          clear hop
          have HAl := Lib.hid (fun W => isAlpha_int 0 W (by decide) (by decide))
          rw [show letB 0 = false from by decide] at HAl
          go_wp2_with fail
          refine (HAl.out _).mono ?_
          rintro e w' ⟨rfl, hw⟩
          rw [← hw]
          clear hw w'
          go_upto_region 10 with fail
          obtain ⟨c2, f2, _⟩ := HT.out.b2.all
          go_region
          all_goals
            go_wp2_with fail
            go_roundw
            case rel => exact ⟨_, a + 1, out, text ++ [c], tv, rfl, by go_num, by omega, by rw [List.length_append]; simp; omega, Lib.hid (by rw [HX.out]; exact HT.out.drew.setText _), HEQ2⟩
            case measure => simp [intOf]; omega
      · as_aux_lemma =>
        have f60 : ((c.toNat : Int) == 60) = false := (u8ne (n := 60) (by decide) h60).1
        have hop := opensM_head c r h60
        have HEQ2 := Lib.hid (show out ++ mText (text ++ [c]) ((lst s).drop (a + 1)) = allM (lst s) by rw [HR1.out, ← mText_in _ _ _ hop]; exact HEQ.out)
        have HAl := Lib.hid (fun W => isAlpha_int 0 W (by decide) (by decide))
        rw [show letB 0 = false from by decide] at HAl
        clear hop h60
        go_wp2_with fail
        refine (HAl.out _).mono ?_
        rintro e w' ⟨rfl, hw⟩
        rw [← hw]
        clear hw w'
        go_upto_region 10 with fail
        obtain ⟨c2, f2, _⟩ := HT.out.b2.all
        go_region
        all_goals
          go_wp2_with fail
          go_roundw
          case rel => exact ⟨_, a + 1, out, text ++ [c], tv, rfl, by go_num, by omega, by rw [List.length_append]; simp; omega, Lib.hid (by rw [HX.out]; exact HT.out.drew.setText _), HEQ2⟩
          case measure => simp [intOf]; omega
    · as_aux_lemma =>
      have hE : out ++ textToks text = allM (lst s) := by
        have := HEQ.out
        rw [List.drop_eq_nil_of_le (by rw [lst_length]; omega), mText_nil] at this; exact this
      have HE := Lib.hid hE
      obtain ⟨c3, _, _⟩ := HT.out.b3.all
      clear hE
      go_wp2_with fail
      refine (flush_any w.heap.size w _ s out text tv HT.out (by omega) (by omega)).mono ?_
      rintro e2 w2 ⟨rfl, tv2, hts, _⟩
      have HT2 := Lib.hid hts
      obtain ⟨d1, _, _⟩ := hts.b1.all
      clear hts
      go_wp2_with fail
      go_ret
      refine ⟨tv2, rfl, ?_, HT2.out.bel⟩
      rw [← HE.out]
      obtain ⟨ps, k1, k2, k3⟩ := HT2.out.own
      exact ⟨ps, k1, ownsRow_base k2 (by omega), k3⟩

end Go.Proofs.YtbgonaacheemcaaDoor
