/- Walks of the scanner's methods: markup. -/
import Derived.Test.YtbgonaacheemcaaDoorTokF
namespace Go.Proofs.YtbgonaacheemcaaDoor
open Go Go.RowKit

theorem markupM_dash (r : Bytes) : markupM (60 :: 33 :: 45 :: 45 :: r) = some ([comment (upToM [45, 45, 62] r).1], (upToM [45, 45, 62] r).2) := rfl
theorem markupM_bang : ∀ r : Bytes, Lib.hasPrefix r [45, 45] = false → markupM (60 :: 33 :: r) = some ([comment (upToM [62] r).1], (upToM [62] r).2)
  | [], _ => rfl
  | [a], _ => by
    unfold markupM
    split
    · simp_all
    · simp_all
    · simp_all
    · simp_all
    · rename_i x2 _ _ he
      injection he with _ he
      exact absurd he.symm (x2 _)
    · simp_all
  | a :: c :: r, h => by
    unfold markupM
    split
    · rename_i r' e
      injection e with _ e
      injection e with _ e
      injection e with e1 e
      injection e with e2 e
      subst e1 e2
      exact absurd h (by simp [Lib.hasPrefix, List.isPrefixOf])
    · rename_i e
      injection e with _ e
      injection e with _ e
      rw [e]
    · simp_all
    · simp_all
    · rename_i x2 _ _ he
      injection he with _ he
      exact absurd he.symm (x2 _)
    · simp_all
theorem markupM_ask (r : Bytes) : markupM (60 :: 63 :: r) = some ([comment (upToM [62] (63 :: r)).1], (upToM [62] (63 :: r)).2) := rfl
theorem markupM_slash (c : UInt8) (r : Bytes) : markupM (60 :: 47 :: c :: r) = if isLet c then (tagM 2 (c :: r)).map fun x => ([x.1], x.2) else some ([comment (upToM [62] (c :: r)).1], (upToM [62] (c :: r)).2) := rfl
theorem markupM_tag (c : UInt8) (r : Bytes) (h : isLet c = true) : markupM (60 :: c :: r) = (tagM 1 (c :: r)).map fun x => if isRaw x.1.name then (x.1 :: rawToks x.1.name (rawM x.1.name x.2).1, (rawM x.1.name x.2).2) else ([x.1], x.2) := by
  unfold markupM
  split
  · rename_i e; injection e with _ e; injection e with e _; subst e; exact absurd h (by decide)
  · rename_i e; injection e with _ e; injection e with e _; subst e; exact absurd h (by decide)
  · rename_i e; injection e with _ e; injection e with e _; subst e; exact absurd h (by decide)
  · rename_i e; injection e with _ e; injection e with e _; subst e; exact absurd h (by decide)
  · rename_i e; injection e with _ e; rw [e]
  · rename_i h5; exact absurd rfl (h5 (c :: r))

theorem Below.undrew {B : Nat} {w w' : World} (h : Below B w.drew w') : Below B w w' := ⟨h.os, h.tape, h.output, h.size, h.block⟩
theorem Pushed.undrew {B b : Nat} {text : ByteArray} {l : List TTok} {r : Bytes} {w w' : World} (h : Pushed B b text l r w.drew w') : Pushed B b text l r w w' := ⟨Below.undrew h.1, h.2⟩

theorem tagLoop_suf : ∀ (n : Nat) (r : Bytes) (l l' : List TAttr) (s : Bool) (r2 : Bytes), tagLoop n r l = some (l', s, r2) → r2 <:+ r
  | 0, _, _, _, _, _, h => by cases h
  | n + 1, r, l, l', s, r2, h => by
    rw [tagLoop_succ] at h
    have h0 : skp tagGap r <:+ r := List.dropWhile_suffix _
    cases hs : skp tagGap r with
    | nil => rw [hs] at h; cases h
    | cons c r3 =>
      rw [hs] at h h0
      have h1 : r3 <:+ r := List.IsSuffix.trans (List.suffix_cons c r3) h0
      simp only at h
      split at h
      · injection h with h
        injection h with _ h
        injection h with _ h
        subst h
        exact h1
      · split at h
        · exact List.IsSuffix.trans (tagLoop_suf n _ _ _ _ _ h) (List.IsSuffix.trans (attrM_suf c r3) h1)
        · cases h
theorem tagM_suf (kind : Int) (r : Bytes) (t : TTok) (r2 : Bytes) (h : tagM kind r = some (t, r2)) : r2 <:+ r := by
  unfold tagM at h
  have h0 : brkR nameEnd r <:+ r := List.dropWhile_suffix _
  cases hl : tagLoop (r.length + 1) (brkR nameEnd r) [] with
  | none => rw [hl] at h; cases h
  | some V =>
    obtain ⟨l', s, r3⟩ := V
    rw [hl] at h
    unfold tagOf at h
    injection h with h
    injection h with _ h
    subst h
    exact List.IsSuffix.trans (tagLoop_suf _ _ _ _ _ _ hl) h0

/-- The name of the last token. -/
theorem last_name {B : Nat} {w : World} {tv : Value} {l : List TTok} {t : TTok} (h : TokRow B w tv (l ++ [t])) :
    ∃ g cap, tv = .slice (some ⟨g, 0, none⟩) (l.length + 1) cap ∧ w.cell? ⟨g, l.length * 5 + 1, none⟩ = some (.string (mk t.name)) := by
  obtain ⟨ps, hps, hown, _⟩ := h
  rcases List.eq_nil_or_concat ps with rfl | ⟨ps', p, rfl⟩
  · simp at hps
  · rw [List.concat_eq_append] at *
    have hl : (ps' ++ [p]).length = l.length + 1 := by rw [← List.length_map (f := Prod.fst), hps]; simp
    have hl' : ps'.length = l.length := by simpa using hl
    rw [List.map_append] at hps
    have hp : p.1 = t := by
      have h := (List.append_inj' hps (by simp)).2
      simpa using h
    obtain ⟨g, cap, hv, _, _, _, _, hc, _⟩ := ownsRow_cells hown (by omega)
    refine ⟨g, cap, by rw [hv, hl], hc _ _ ?_⟩
    have e : tokCells (ps' ++ [p]) = tokCells ps' ++ tokCell p := by simp [tokCells]
    rw [e, List.getElem?_append_right (by rw [tokCells_length]; omega), tokCells_length, hl', show l.length * 5 + 1 - l.length * 5 = 1 by omega, ← hp]
    rfl

/-- What 'markup' comes to. -/
def MarkPost (B b : Nat) (text : ByteArray) (l : List TTok) (w : World) (o : Option (List TTok × Bytes)) (e : Ending) (w' : World) : Prop := match o with
  | some (ts, r) => e = .returned (.bool true) ∧ Pushed B b text (l ++ ts) r w w'
  | none => e = .returned (.bool false) ∧ Below B w w' ∧ ∃ a tv, a ≤ text.size ∧ Sc w' b text a tv ∧ TokRow B w' tv l

set_option maxHeartbeats 4000000 in
set_option maxRecDepth 100000 in
theorem markup_any (B b : Nat) (text : ByteArray) (at_ : Nat) (tv : Value) (l : List TTok) (w : World) (hg : Glob w) (hb10 : 10 ≤ B) (hBb : B ≤ b) (hsc : Sc w b text at_ tv) (hrow : TokRow B w tv l)
    (hll : l.length + 1 ≤ 1000000) (hat : at_ ≤ text.size) (h3 : text.size ≤ 1000000) (ho : opensM ((lst text).drop at_) = true) :
    Calls Tryd.prog 12 #[.pointer (some ⟨b, 0, none⟩)] w fun e w' => MarkPost B b text l w (markupM ((lst text).drop at_)) e w' := by
  have HS0 := Lib.hid hsc
  have HG := Lib.hid hg
  have HR := Lib.hid hrow
  have hbw := lt_of_block hsc
  obtain ⟨c0, c1, _, _, _, _⟩ := hsc.all
  clear hsc hg hrow
  have hrl : ((lst text).drop at_).length = text.size - at_ := by rw [List.length_drop, lst_length]
  obtain ⟨c, r, hd2⟩ : ∃ c r, (lst text).drop at_ = 60 :: c :: r := by
    unfold opensM at ho
    split at ho
    · rename_i c r e; exact ⟨c, r, e⟩
    · exact absurd ho (by decide)
  have hrs : lst (text.extract (at_ + 1) text.size) = c :: r := by rw [lst_rest, ← List.drop_drop, hd2]; rfl
  rw [hd2] at hrl
  simp only [List.length_cons] at hrl
  obtain ⟨Re, hRe⟩ : ∃ Re, text.extract (at_ + 1) text.size = Re := ⟨_, rfl⟩
  rw [hRe] at hrs
  have hRz : Re.size = r.length + 1 := by rw [← lst_length, hrs]; rfl
  have hpf := fun W => Tryd.strings_HasPrefix Re ⟨#[33, 45, 45]⟩ W
  rw [show Re.data.toList = c :: r from hrs, show (⟨#[33, 45, 45]⟩ : ByteArray).data.toList = [33, 45, 45] from rfl] at hpf
  have HPF := Lib.hid hpf
  have HRs := Lib.hid hrs
  have HD2 := Lib.hid hd2
  have hwr : IntKind.i64.wrap ((at_ : Int) + 1) = (at_ : Int) + 1 := IntWalk.i64_in _ (by omega)
  have i0 : (0 : Int) ≤ (at_ : Int) + 1 := by omega
  have i1 : (at_ : Int) + 1 ≤ text.size := by omega
  have i2 : ((at_ : Int) + 1).toNat = at_ + 1 := by omega
  have hgd : Glob w.drew := HG.out.kept (S := fun _ => False) ((Kept.refl _ w.heap.size w).drewN 1) HG.out.size (fun _ _ => id)
  have HGD := Lib.hid hgd
  have HSD := Lib.hid (show Sc w.drew b text at_ tv from HS0.out.drewN 1)
  have HRD := Lib.hid (show TokRow B w.drew tv l from HR.out.kept (RowsKept.of_below (Below.refl w.heap.size w).drew))
  clear hgd hpf hrs
  rw [hd2]
  clear hd2
  by_cases hp : Lib.hasPrefix (c :: r) [33, 45, 45] = true
  · rw [hp] at HPF
    obtain ⟨r', hcr⟩ : ∃ r', c :: r = 33 :: 45 :: 45 :: r' := by
      have h := List.isPrefixOf_iff_prefix.1 hp
      obtain ⟨t, ht⟩ := h
      exact ⟨t, ht.symm⟩
    injection hcr with e1 e2
    subst e1 e2
    have hdr : (lst text).drop (at_ + 4) = r' := by rw [← List.drop_drop, HD2.out]; rfl
    have hrm := remark_any B b text ⟨#[45, 45, 62]⟩ at_ 4 tv l w.drew HGD.out hb10 hBb HSD.out HRD.out (by omega) (by simp only [List.length_cons] at hrl; omega) h3 (by decide) (by decide)
    rw [hdr, show lst ⟨#[45, 45, 62]⟩ = [45, 45, 62] from rfl] at hrm
    have HRM := Lib.hid hrm
    rw [markupM_dash]
    clear hrm hdr hp hrl
    go_enter Tryd.func12, Tryd.ntmps12
    go_wp2_with fail
    go_still_tail 10, (by kernel_rfl)
    change wpList _ _ _ _ _ w.drew
    clear i0 i1 i2 hwr c0 c1 hRe
    go_wp2_with fail
    refine (HPF.out w.drew).mono ?_
    rintro e w1 ⟨rfl, hw⟩
    rw [hw]; clear hw
    go_wp2_with fail
    refine HRM.out.mono ?_
    rintro e w2 ⟨rfl, hpu⟩
    have HPU := Lib.hid hpu
    clear hpu
    go_wp2_with fail
    go_ret
    exact ⟨rfl, HPU.out.undrew⟩
  · rw [Bool.not_eq_true] at hp
    rw [hp] at HPF
    have hz0 : (0 : Int) < Re.size := by omega
    have hzn : 0 < Re.size := by omega
    have hx0 : Re[0]'hzn = c := by
      have h := lst_get Re 0 hzn
      rw [HRs.out] at h
      simpa using h.symm
    have ho' : opensM (60 :: c :: r) = true := by rw [← HD2.out]; exact ho
    clear ho
    by_cases h33 : c = 33
    · subst h33
      have hdr : (lst text).drop (at_ + 2) = r := by rw [← List.drop_drop, HD2.out]; rfl
      have hrm := remark_any B b text ⟨#[62]⟩ at_ 2 tv l w.drew HGD.out hb10 hBb HSD.out HRD.out (by omega) (by omega) h3 (by decide) (by decide)
      rw [hdr, show lst ⟨#[62]⟩ = [62] from rfl] at hrm
      have HRM := Lib.hid hrm
      rw [markupM_bang r (by simpa [Lib.hasPrefix, List.isPrefixOf] using hp)]
      clear hrm hdr hp hrl ho'
      go_enter Tryd.func12, Tryd.ntmps12
      go_wp2_with fail
      go_still_tail 10, (by kernel_rfl)
      change wpList _ _ _ _ _ w.drew
      clear i0 i1 i2 hwr c0 c1 hRe
      go_wp2_with fail
      refine (HPF.out w.drew).mono ?_
      rintro e w1 ⟨rfl, hw⟩
      rw [hw]; clear hw
      go_wp2_with fail
      refine HRM.out.mono ?_
      rintro e w2 ⟨rfl, hpu⟩
      have HPU := Lib.hid hpu
      clear hpu
      go_wp2_with fail
      go_ret
      exact ⟨rfl, HPU.out.undrew⟩
    · have b33 : ((c.toNat : Int) == 33) = false := by
        rw [beq_eq_false_iff_ne]; intro h; exact h33 (by rw [← UInt8.toNat_inj]; have : (33 : UInt8).toNat = 33 := rfl; omega)
      by_cases h63 : c = 63
      · subst h63
        have hdr : (lst text).drop (at_ + 1) = 63 :: r := by rw [← List.drop_drop, HD2.out]; rfl
        have hrm := remark_any B b text ⟨#[62]⟩ at_ 1 tv l w.drew HGD.out hb10 hBb HSD.out HRD.out (by omega) (by omega) h3 (by decide) (by decide)
        rw [hdr, show lst ⟨#[62]⟩ = [62] from rfl] at hrm
        have HRM := Lib.hid hrm
        rw [markupM_ask]
        clear hrm hdr hp hrl ho' h33 b33
        go_enter Tryd.func12, Tryd.ntmps12
        go_wp2_with fail
        go_still_tail 10, (by kernel_rfl)
        change wpList _ _ _ _ _ w.drew
        clear i0 i1 i2 hwr c0 c1 hRe
        go_wp2_with fail
        refine (HPF.out w.drew).mono ?_
        rintro e w1 ⟨rfl, hw⟩
        rw [hw]; clear hw
        go_wp2_with fail
        refine HRM.out.mono ?_
        rintro e w2 ⟨rfl, hpu⟩
        have HPU := Lib.hid hpu
        clear hpu
        go_wp2_with fail
        go_ret
        exact ⟨rfl, HPU.out.undrew⟩
      · have b63 : ((c.toNat : Int) == 63) = false := by
          rw [beq_eq_false_iff_ne]; intro h; exact h63 (by rw [← UInt8.toNat_inj]; have : (63 : UInt8).toNat = 63 := rfl; omega)
        by_cases h47 : c = 47
        · subst h47
          cases r with
          | nil => exact absurd ho' (by decide)
          | cons d r' =>
            simp only [List.length_cons] at hrl hRz
            have hz1 : (1 : Int) < Re.size := by omega
            have hz1n : 1 < Re.size := by omega
            have hx1 : Re[1]'hz1n = d := by
              have h := lst_get Re 1 hz1n
              rw [HRs.out] at h
              simpa using h.symm
            have hL := fun W => letter_any (d.toNat : Int) W (by omega) (by have := d.toNat_lt; omega)
            rw [letB_isLet] at hL
            have hdr : (lst text).drop (at_ + 2) = d :: r' := by rw [← List.drop_drop, HD2.out]; rfl
            rw [markupM_slash]
            cases hlet : isLet d with
            | false =>
              rw [hlet] at hL
              have HL := Lib.hid hL
              have hrm := remark_any B b text ⟨#[62]⟩ at_ 2 tv l w.drew HGD.out hb10 hBb HSD.out HRD.out (by omega) (by omega) h3 (by decide) (by decide)
              rw [hdr, show lst ⟨#[62]⟩ = [62] from rfl] at hrm
              have HRM := Lib.hid hrm
              rw [if_neg (by decide)]
              clear hL hrm hdr hp hrl ho' h33 b33 h63 b63 hlet
              go_enter Tryd.func12, Tryd.ntmps12
              go_wp2_with fail
              go_still_tail 10, (by kernel_rfl)
              change wpList _ _ _ _ _ w.drew
              clear i0 i1 i2 hwr c0 c1 hRe
              go_wp2_with fail
              refine (HPF.out w.drew).mono ?_
              rintro e w1 ⟨rfl, hw⟩
              rw [hw]; clear hw
              go_wp2_with fail
              refine (HL.out w.drew).mono ?_
              rintro e w2 ⟨rfl, hw⟩
              rw [← hw]; clear hw
              go_wp2_with fail
              refine HRM.out.mono ?_
              rintro e w2 ⟨rfl, hpu⟩
              have HPU := Lib.hid hpu
              clear hpu
              go_wp2_with fail
              go_ret
              exact ⟨rfl, HPU.out.undrew⟩
            | true =>
              rw [hlet] at hL
              have HL := Lib.hid hL
              rw [if_pos rfl]
              have htg := fun W h1 h2 h4 => tag_any B b text (at_ + 2) tv l 2 (.inr rfl) W h1 hb10 hBb h2 h4 (by omega) (by omega) h3
              rw [hdr] at htg
              generalize tagM 2 (d :: r') = O at *
              have HTG := Lib.hid htg
              clear hL htg hdr hp ho' h33 b33 h63 b63 hlet
              go_enter Tryd.func12, Tryd.ntmps12
              go_wp2_with fail
              go_still_tail 10, (by kernel_rfl)
              change wpList _ _ _ _ _ w.drew
              clear i0 i1 i2 hwr c0 c1 hRe
              go_wp2_with fail
              refine (HPF.out w.drew).mono ?_
              rintro e w1 ⟨rfl, hw⟩
              rw [hw]; clear hw
              go_wp2_with fail
              refine (HL.out w.drew).mono ?_
              rintro e w2 ⟨rfl, hw⟩
              rw [← hw]; clear hw
              go_wp2_with fail
              refine (pass_any b text at_ 2 tv w.drew HSD.out (by omega) (by omega) (by omega)).mono ?_
              rintro e w2 ⟨rfl, hs2, ho2⟩
              have HS2 := Lib.hid (hs2.at_eq (show at_ + (2 : Int).toNat = at_ + 2 by omega))
              have HO2 := Lib.hid ho2
              clear hs2 ho2
              go_wp2_with fail
              refine (HTG.out w2 (HGD.out.kept HO2.out HGD.out.size (by intro k hk e; omega)) HS2.out (HRD.out.kept (RowsKept.of_only HSD.out HO2.out))).mono ?_
              rintro e w3 htp
              cases O with
              | none =>
                obtain ⟨rfl, hb3, a3, tv3, h3a, hs3, hr3⟩ := htp
                have HB3 := Lib.hid hb3
                have HS3 := Lib.hid hs3
                have HR3 := Lib.hid hr3
                clear hb3 hs3 hr3
                go_wp2_with fail
                go_ret
                exact ⟨rfl, Below.undrew (Below.trans (Kept.below HO2.out (fun k hk e => by omega) (by show B ≤ w.heap.size; omega)) HB3.out), a3, tv3, h3a, HS3.out, HR3.out⟩
              | some V =>
                obtain ⟨t, r2⟩ := V
                obtain ⟨rfl, hb3, tv3, hs3, hr3⟩ := htp
                have HB3 := Lib.hid hb3
                have HS3 := Lib.hid hs3
                have HR3 := Lib.hid hr3
                clear hb3 hs3 hr3
                go_wp2_with fail
                go_ret
                exact ⟨rfl, Below.undrew (Below.trans (Kept.below HO2.out (fun k hk e => by omega) (by show B ≤ w.heap.size; omega)) HB3.out), tv3, HS3.out, HR3.out⟩
        · have b47 : ((c.toNat : Int) == 47) = false := by
            rw [beq_eq_false_iff_ne]; intro h; exact h47 (by rw [← UInt8.toNat_inj]; have : (47 : UInt8).toNat = 47 := rfl; omega)
          have hlet : isLet c = true := by
            cases r with
            | nil => rw [opensM_cons] at ho'; have e1 : (c == 33) = false := by { rw [beq_eq_false_iff_ne]; exact h33 }; have e2 : (c == 63) = false := by { rw [beq_eq_false_iff_ne]; exact h63 }; rw [e1, e2] at ho'; simpa using ho'
            | cons d r' =>
              rw [opensM_cons] at ho'
              have e1 : (c == 33) = false := by rw [beq_eq_false_iff_ne]; exact h33
              have e2 : (c == 63) = false := by rw [beq_eq_false_iff_ne]; exact h63
              have e3 : (c == 47) = false := by rw [beq_eq_false_iff_ne]; exact h47
              rw [e1, e2, e3] at ho'
              simpa using ho'
          have hdr : (lst text).drop (at_ + 1) = c :: r := by rw [← List.drop_drop, HD2.out]; rfl
          have htg := fun W h1 h2 h4 => tag_any B b text (at_ + 1) tv l 1 (.inl rfl) W h1 hb10 hBb h2 h4 (by omega) (by omega) h3
          rw [hdr] at htg
          rw [markupM_tag c r hlet]
          have hsu : ∀ t r2, tagM 1 (c :: r) = some (t, r2) → (lst text).drop (text.size - r2.length) = r2 := fun t r2 h => by
            rw [← lst_length]
            refine suf_drop (List.IsSuffix.trans (tagM_suf 1 _ t r2 h) ?_)
            rw [← hdr]; exact List.drop_suffix _ _
          generalize tagM 1 (c :: r) = O at *
          have HSU := Lib.hid hsu
          clear hsu
          have HTG := Lib.hid htg
          clear htg hdr hp ho' h33 h63 h47 hlet
          go_enter Tryd.func12, Tryd.ntmps12
          go_wp2_with fail
          go_still_tail 10, (by kernel_rfl)
          change wpList _ _ _ _ _ w.drew
          clear i0 i1 i2 hwr c0 c1 hRe
          go_wp2_with fail
          refine (HPF.out w.drew).mono ?_
          rintro e w1 ⟨rfl, hw⟩
          rw [hw]; clear hw
          go_wp2_with fail
          refine (pass_any b text at_ 1 tv w.drew HSD.out (by omega) (by omega) (by omega)).mono ?_
          rintro e w2 ⟨rfl, hs2, ho2⟩
          have HS2 := Lib.hid (hs2.at_eq (show at_ + (1 : Int).toNat = at_ + 1 by omega))
          have HO2 := Lib.hid ho2
          clear hs2 ho2
          go_wp2_with fail
          refine (HTG.out w2 (HGD.out.kept HO2.out HGD.out.size (by intro k hk e; omega)) HS2.out (HRD.out.kept (RowsKept.of_only HSD.out HO2.out))).mono ?_
          rintro e w3 htp
          cases O with
          | none =>
            obtain ⟨rfl, hb3, a3, tv3, h3a, hs3, hr3⟩ := htp
            have HB3 := Lib.hid hb3
            have HS3 := Lib.hid hs3
            have HR3 := Lib.hid hr3
            clear hb3 hs3 hr3
            go_wp2_with fail
            go_ret
            exact ⟨rfl, Below.undrew (Below.trans (Kept.below HO2.out (fun k hk e => by omega) (by show B ≤ w.heap.size; omega)) HB3.out), a3, tv3, h3a, HS3.out, HR3.out⟩
          | some V =>
            obtain ⟨t, r2⟩ := V
            obtain ⟨rfl, hb3, tv3, hs3, hr3⟩ := htp
            have HB3 := Lib.hid (Below.undrew (Below.trans (Kept.below HO2.out (fun k hk e => by omega) (by show B ≤ w.heap.size; omega)) hb3))
            have HS3 := Lib.hid hs3
            have HR3 := Lib.hid hr3
            obtain ⟨g, cap, htv, hcn⟩ := last_name hr3
            have HTV := Lib.hid htv
            clear hb3 hs3 hr3 b47 HPF HRs HD2
            obtain ⟨d0, d1, d2, _, _, hb3z⟩ := HS3.out.all
            rw [htv] at d2
            clear htv d0 d1
            have hli : IntKind.i64.wrap ((l.length : Int) + 1 - 1) = (l.length : Int) := by rw [IntWalk.i64_in _ (by omega)]; omega
            have hli2 : IntKind.i64.wrap (l.length : Int) = (l.length : Int) := IntWalk.i64_in _ (by omega)
            have hli3 : (0 : Int) ≤ l.length := by omega
            have hli4 : (l.length : Int) < (l.length : Int) + 1 := by omega
            go_wp2_with fail
            go_still_tail 13, (by kernel_rfl)
            clear hli hli2 hli3 hli4 hcn d2
            change wpList _ _ _ _ _ w3.drew
            have HS4 := Lib.hid (show Sc w3.drew b text (text.size - r2.length) tv3 from HS3.out.drewN 1)
            have HR4 := Lib.hid (HR3.out.kept (RowsKept.of_below (Below.refl w3.heap.size w3).drew))
            have HB4 := Lib.hid (show Below B w w3.drew from ⟨HB3.out.os, HB3.out.tape, HB3.out.output, HB3.out.size, HB3.out.block⟩)
            clear HS3 HR3 HB3 hb3z
            generalize w3.drew = w4 at *
            by_cases q1 : (mk t.name).toList = [115, 99, 114, 105, 112, 116]
            · have q := q1
              have hn : t.name = sScript := by rw [toList_mk] at q; exact q
              have hraw : isRaw t.name = true := by rw [hn]; decide
              have hrw := raw_any B b text (mk t.name) (text.size - r2.length) tv3 (l ++ [t]) w4 (HG.out.below HB4.out hb10) hb10 hBb HS4.out HR4.out (by simp; omega) (by omega) h3 (by rw [mk_size, hn]; decide) (by rw [mk_size, hn]; decide)
              rw [lst_mk, HSU.out t r2 rfl] at hrw
              have HRW := Lib.hid hrw
              have HRAW := Lib.hid hraw
              clear hrw hraw hn
              go_wp2_with fail
              refine HRW.out.mono ?_
              rintro e w5 ⟨rfl, hpu⟩
              have HPU := Lib.hid hpu
              clear hpu
              go_wp2_with fail
              go_ret
              show MarkPost B b text l w (some (if isRaw t.name = true then (t :: rawToks t.name (rawM t.name r2).1, (rawM t.name r2).2) else ([t], r2))) _ _
              rw [if_pos HRAW.out]
              obtain ⟨p1, tv5, s5, r5⟩ := HPU.out
              rw [List.append_assoc] at r5
              exact ⟨rfl, Below.trans HB4.out p1, tv5, s5, r5⟩
            · by_cases q2 : (mk t.name).toList = [115, 116, 121, 108, 101]
              · have q := q2
                have hn : t.name = sStyle := by rw [toList_mk] at q; exact q
                have hraw : isRaw t.name = true := by rw [hn]; decide
                have hrw := raw_any B b text (mk t.name) (text.size - r2.length) tv3 (l ++ [t]) w4 (HG.out.below HB4.out hb10) hb10 hBb HS4.out HR4.out (by simp; omega) (by omega) h3 (by rw [mk_size, hn]; decide) (by rw [mk_size, hn]; decide)
                rw [lst_mk, HSU.out t r2 rfl] at hrw
                have HRW := Lib.hid hrw
                have HRAW := Lib.hid hraw
                clear hrw hraw hn
                go_wp2_with fail
                refine HRW.out.mono ?_
                rintro e w5 ⟨rfl, hpu⟩
                have HPU := Lib.hid hpu
                clear hpu
                go_wp2_with fail
                go_ret
                show MarkPost B b text l w (some (if isRaw t.name = true then (t :: rawToks t.name (rawM t.name r2).1, (rawM t.name r2).2) else ([t], r2))) _ _
                rw [if_pos HRAW.out]
                obtain ⟨p1, tv5, s5, r5⟩ := HPU.out
                rw [List.append_assoc] at r5
                exact ⟨rfl, Below.trans HB4.out p1, tv5, s5, r5⟩
              · by_cases q3 : (mk t.name).toList = [116, 101, 120, 116, 97, 114, 101, 97]
                · have q := q3
                  have hn : t.name = sTextarea := by rw [toList_mk] at q; exact q
                  have hraw : isRaw t.name = true := by rw [hn]; decide
                  have hrw := raw_any B b text (mk t.name) (text.size - r2.length) tv3 (l ++ [t]) w4 (HG.out.below HB4.out hb10) hb10 hBb HS4.out HR4.out (by simp; omega) (by omega) h3 (by rw [mk_size, hn]; decide) (by rw [mk_size, hn]; decide)
                  rw [lst_mk, HSU.out t r2 rfl] at hrw
                  have HRW := Lib.hid hrw
                  have HRAW := Lib.hid hraw
                  clear hrw hraw hn
                  go_wp2_with fail
                  refine HRW.out.mono ?_
                  rintro e w5 ⟨rfl, hpu⟩
                  have HPU := Lib.hid hpu
                  clear hpu
                  go_wp2_with fail
                  go_ret
                  show MarkPost B b text l w (some (if isRaw t.name = true then (t :: rawToks t.name (rawM t.name r2).1, (rawM t.name r2).2) else ([t], r2))) _ _
                  rw [if_pos HRAW.out]
                  obtain ⟨p1, tv5, s5, r5⟩ := HPU.out
                  rw [List.append_assoc] at r5
                  exact ⟨rfl, Below.trans HB4.out p1, tv5, s5, r5⟩
                · by_cases q4 : (mk t.name).toList = [116, 105, 116, 108, 101]
                  · have q := q4
                    have hn : t.name = sTitle := by rw [toList_mk] at q; exact q
                    have hraw : isRaw t.name = true := by rw [hn]; decide
                    have hrw := raw_any B b text (mk t.name) (text.size - r2.length) tv3 (l ++ [t]) w4 (HG.out.below HB4.out hb10) hb10 hBb HS4.out HR4.out (by simp; omega) (by omega) h3 (by rw [mk_size, hn]; decide) (by rw [mk_size, hn]; decide)
                    rw [lst_mk, HSU.out t r2 rfl] at hrw
                    have HRW := Lib.hid hrw
                    have HRAW := Lib.hid hraw
                    clear hrw hraw hn
                    go_wp2_with fail
                    refine HRW.out.mono ?_
                    rintro e w5 ⟨rfl, hpu⟩
                    have HPU := Lib.hid hpu
                    clear hpu
                    go_wp2_with fail
                    go_ret
                    show MarkPost B b text l w (some (if isRaw t.name = true then (t :: rawToks t.name (rawM t.name r2).1, (rawM t.name r2).2) else ([t], r2))) _ _
                    rw [if_pos HRAW.out]
                    obtain ⟨p1, tv5, s5, r5⟩ := HPU.out
                    rw [List.append_assoc] at r5
                    exact ⟨rfl, Below.trans HB4.out p1, tv5, s5, r5⟩
                  · have hraw : isRaw t.name = false := by
                      rw [toList_mk] at q1 q2 q3 q4
                      unfold isRaw
                      rw [Bool.or_eq_false_iff, Bool.or_eq_false_iff, Bool.or_eq_false_iff]
                      exact ⟨⟨⟨beq_eq_false_iff_ne.2 q1, beq_eq_false_iff_ne.2 q2⟩, beq_eq_false_iff_ne.2 q3⟩, beq_eq_false_iff_ne.2 q4⟩
                    have HRAW := Lib.hid hraw
                    clear hraw
                    have z1 := beq_eq_false_iff_ne.2 q1
                    have z2 := beq_eq_false_iff_ne.2 q2
                    have z3 := beq_eq_false_iff_ne.2 q3
                    have z4 := beq_eq_false_iff_ne.2 q4
                    go_wp2_with fail
                    go_ret
                    show MarkPost B b text l w (some (if isRaw t.name = true then (t :: rawToks t.name (rawM t.name r2).1, (rawM t.name r2).2) else ([t], r2))) _ _
                    rw [HRAW.out, if_neg (by decide)]
                    exact ⟨rfl, HB4.out, tv3, HS4.out, HR4.out⟩

end Go.Proofs.YtbgonaacheemcaaDoor
