/- Joined texts: TokG TokH TokI. -/
import Derived.Deep.CutBlock
import Derived.Test.YtjkgmdnkejjppaaGreatDoorGf
/- Walks of the scanner's methods: markup. -/
namespace Go.Proofs.YtjkgmdnkejjppaaGreatDoor
open Go Go.RowKit

theorem markupM_dash (r : Bytes) : markupM (60 :: 33 :: 45 :: 45 :: r) = some ([comment (upToM [45, 45, 62] r).1], (upToM [45, 45, 62] r).2) := rfl
theorem markupM_bang : ∀ r : Bytes, Lib.hasPrefix r [45, 45] = false → markupM (60 :: 33 :: r) = some ([comment (upToM [62] r).1], (upToM [62] r).2)
  | [], _ => rfl
  | [a], _ => by
    unfold markupM
    split
    · simp_all
    · simp_all
    · simp_all
    · simp_all
    · rename_i x2 _ _ he
      injection he with _ he
      exact absurd he.symm (x2 _)
    · simp_all
  | a :: c :: r, h => by
    unfold markupM
    split
    · rename_i r' e
      injection e with _ e
      injection e with _ e
      injection e with e1 e
      injection e with e2 e
      subst e1 e2
      exact absurd h (by simp [Lib.hasPrefix, List.isPrefixOf])
    · rename_i e
      injection e with _ e
      injection e with _ e
      rw [e]
    · simp_all
    · simp_all
    · rename_i x2 _ _ he
      injection he with _ he
      exact absurd he.symm (x2 _)
    · simp_all
theorem markupM_ask (r : Bytes) : markupM (60 :: 63 :: r) = some ([comment (upToM [62] (63 :: r)).1], (upToM [62] (63 :: r)).2) := rfl
theorem markupM_slash (c : UInt8) (r : Bytes) : markupM (60 :: 47 :: c :: r) = if isLet c then (tagM 2 (c :: r)).map fun x => ([x.1], x.2) else some ([comment (upToM [62] (c :: r)).1], (upToM [62] (c :: r)).2) := rfl
theorem markupM_tag (c : UInt8) (r : Bytes) (h : isLet c = true) : markupM (60 :: c :: r) = (tagM 1 (c :: r)).map fun x => if isRaw x.1.name then (x.1 :: rawToks x.1.name (rawM x.1.name x.2).1, (rawM x.1.name x.2).2) else ([x.1], x.2) := by
  unfold markupM
  split
  · rename_i e; injection e with _ e; injection e with e _; subst e; exact absurd h (by decide)
  · rename_i e; injection e with _ e; injection e with e _; subst e; exact absurd h (by decide)
  · rename_i e; injection e with _ e; injection e with e _; subst e; exact absurd h (by decide)
  · rename_i e; injection e with _ e; injection e with e _; subst e; exact absurd h (by decide)
  · rename_i e; injection e with _ e; rw [e]
  · rename_i h5; exact absurd rfl (h5 (c :: r))

theorem Below.undrew {B : Nat} {w w' : World} (h : Below B w.drew w') : Below B w w' := ⟨h.os, h.tape, h.output, h.size, h.block⟩
theorem Pushed.undrew {B b : Nat} {text : ByteArray} {l : List TTok} {r : Bytes} {w w' : World} (h : Pushed B b text l r w.drew w') : Pushed B b text l r w w' := ⟨Below.undrew h.1, h.2⟩

theorem tagLoop_suf : ∀ (n : Nat) (r : Bytes) (l l' : List TAttr) (s : Bool) (r2 : Bytes), tagLoop n r l = some (l', s, r2) → r2 <:+ r
  | 0, _, _, _, _, _, h => by cases h
  | n + 1, r, l, l', s, r2, h => by
    rw [tagLoop_succ] at h
    have h0 : skp tagGap r <:+ r := List.dropWhile_suffix _
    cases hs : skp tagGap r with
    | nil => rw [hs] at h; cases h
    | cons c r3 =>
      rw [hs] at h h0
      have h1 : r3 <:+ r := List.IsSuffix.trans (List.suffix_cons c r3) h0
      simp only at h
      split at h
      · injection h with h
        injection h with _ h
        injection h with _ h
        subst h
        exact h1
      · split at h
        · exact List.IsSuffix.trans (tagLoop_suf n _ _ _ _ _ h) (List.IsSuffix.trans (attrM_suf c r3) h1)
        · cases h
theorem tagM_suf (kind : Int) (r : Bytes) (t : TTok) (r2 : Bytes) (h : tagM kind r = some (t, r2)) : r2 <:+ r := by
  unfold tagM at h
  have h0 : brkR nameEnd r <:+ r := List.dropWhile_suffix _
  cases hl : tagLoop (r.length + 1) (brkR nameEnd r) [] with
  | none => rw [hl] at h; cases h
  | some V =>
    obtain ⟨l', s, r3⟩ := V
    rw [hl] at h
    unfold tagOf at h
    injection h with h
    injection h with _ h
    subst h
    exact List.IsSuffix.trans (tagLoop_suf _ _ _ _ _ _ hl) h0

/-- The name of the last token. -/
theorem last_name {B : Nat} {w : World} {tv : Value} {l : List TTok} {t : TTok} (h : TokRow B w tv (l ++ [t])) :
    ∃ g cap, tv = .slice (some ⟨g, 0, none⟩) (l.length + 1) cap ∧ w.cell? ⟨g, l.length * 5 + 1, none⟩ = some (.string (mk t.name)) := by
  obtain ⟨ps, hps, hown, _⟩ := h
  rcases List.eq_nil_or_concat ps with rfl | ⟨ps', p, rfl⟩
  · simp at hps
  · rw [List.concat_eq_append] at *
    have hl : (ps' ++ [p]).length = l.length + 1 := by rw [← List.length_map (f := Prod.fst), hps]; simp
    have hl' : ps'.length = l.length := by simpa using hl
    rw [List.map_append] at hps
    have hp : p.1 = t := by
      have h := (List.append_inj' hps (by simp)).2
      simpa using h
    obtain ⟨g, cap, hv, _, _, _, _, hc, _⟩ := ownsRow_cells hown (by omega)
    refine ⟨g, cap, by rw [hv, hl], hc _ _ ?_⟩
    have e : tokCells (ps' ++ [p]) = tokCells ps' ++ tokCell p := by simp [tokCells]
    rw [e, List.getElem?_append_right (by rw [tokCells_length]; omega), tokCells_length, hl', show l.length * 5 + 1 - l.length * 5 = 1 by omega, ← hp]
    rfl

/-- What 'markup' comes to. -/
def MarkPost (B b : Nat) (text : ByteArray) (l : List TTok) (w : World) (o : Option (List TTok × Bytes)) (e : Ending) (w' : World) : Prop := match o with
  | some (ts, r) => e = .returned (.bool true) ∧ Pushed B b text (l ++ ts) r w w'
  | none => e = .returned (.bool false) ∧ Below B w w' ∧ ∃ a tv, a ≤ text.size ∧ Sc w' b text a tv ∧ TokRow B w' tv l

set_option maxHeartbeats 4000000 in
set_option maxRecDepth 100000 in
theorem markup_any (B b : Nat) (text : ByteArray) (at_ : Nat) (tv : Value) (l : List TTok) (w : World) (hg : Glob w) (hb10 : 10 ≤ B) (hBb : B ≤ b) (hsc : Sc w b text at_ tv) (hrow : TokRow B w tv l)
    (hll : l.length + 1 ≤ 1000000) (hat : at_ ≤ text.size) (h3 : text.size ≤ 1000000) (ho : opensM ((lst text).drop at_) = true) :
    Calls Tryz.prog 52 #[.pointer (some ⟨b, 0, none⟩)] w fun e w' => MarkPost B b text l w (markupM ((lst text).drop at_)) e w' := by
  have HS0 := Lib.hid hsc
  have HG := Lib.hid hg
  have HR := Lib.hid hrow
  have hbw := lt_of_block hsc
  obtain ⟨c0, c1, _, _, _, _⟩ := hsc.all
  clear hsc hg hrow
  have hrl : ((lst text).drop at_).length = text.size - at_ := by rw [List.length_drop, lst_length]
  obtain ⟨c, r, hd2⟩ : ∃ c r, (lst text).drop at_ = 60 :: c :: r := by
    unfold opensM at ho
    split at ho
    · rename_i c r e; exact ⟨c, r, e⟩
    · exact absurd ho (by decide)
  have hrs : lst (text.extract (at_ + 1) text.size) = c :: r := by rw [lst_rest, ← List.drop_drop, hd2]; rfl
  rw [hd2] at hrl
  simp only [List.length_cons] at hrl
  obtain ⟨Re, hRe⟩ : ∃ Re, text.extract (at_ + 1) text.size = Re := ⟨_, rfl⟩
  rw [hRe] at hrs
  have hRz : Re.size = r.length + 1 := by rw [← lst_length, hrs]; rfl
  have hpf := fun W => Tryz.strings_HasPrefix Re ⟨#[33, 45, 45]⟩ W
  rw [show Re.data.toList = c :: r from hrs, show (⟨#[33, 45, 45]⟩ : ByteArray).data.toList = [33, 45, 45] from rfl] at hpf
  have HPF := Lib.hid hpf
  have HRs := Lib.hid hrs
  have HD2 := Lib.hid hd2
  have hwr : IntKind.i64.wrap ((at_ : Int) + 1) = (at_ : Int) + 1 := IntWalk.i64_in _ (by omega)
  have i0 : (0 : Int) ≤ (at_ : Int) + 1 := by omega
  have i1 : (at_ : Int) + 1 ≤ text.size := by omega
  have i2 : ((at_ : Int) + 1).toNat = at_ + 1 := by omega
  have hgd : Glob w.drew := HG.out.kept (S := fun _ => False) ((Kept.refl _ w.heap.size w).drewN 1) HG.out.size (fun _ _ => id)
  have HGD := Lib.hid hgd
  have HSD := Lib.hid (show Sc w.drew b text at_ tv from HS0.out.drewN 1)
  have HRD := Lib.hid (show TokRow B w.drew tv l from HR.out.kept (RowsKept.of_below (Below.refl w.heap.size w).drew))
  clear hgd hpf hrs
  rw [hd2]
  clear hd2
  by_cases hp : Lib.hasPrefix (c :: r) [33, 45, 45] = true
  · rw [hp] at HPF
    obtain ⟨r', hcr⟩ : ∃ r', c :: r = 33 :: 45 :: 45 :: r' := by
      have h := List.isPrefixOf_iff_prefix.1 hp
      obtain ⟨t, ht⟩ := h
      exact ⟨t, ht.symm⟩
    injection hcr with e1 e2
    subst e1 e2
    have hdr : (lst text).drop (at_ + 4) = r' := by rw [← List.drop_drop, HD2.out]; rfl
    have hrm := remark_any B b text ⟨#[45, 45, 62]⟩ at_ 4 tv l w.drew HGD.out hb10 hBb HSD.out HRD.out (by omega) (by simp only [List.length_cons] at hrl; omega) h3 (by decide) (by decide)
    rw [hdr, show lst ⟨#[45, 45, 62]⟩ = [45, 45, 62] from rfl] at hrm
    have HRM := Lib.hid hrm
    rw [markupM_dash]
    clear hrm hdr hp hrl
    go_enter Tryz.func52, Tryz.ntmps52
    go_wp2_with fail
    go_still_tail 10, (by kernel_rfl)
    change wpList _ _ _ _ _ w.drew
    clear i0 i1 i2 hwr c0 c1 hRe
    go_wp2_with fail
    refine (HPF.out w.drew).mono ?_
    rintro e w1 ⟨rfl, hw⟩
    rw [hw]; clear hw
    go_wp2_with fail
    refine HRM.out.mono ?_
    rintro e w2 ⟨rfl, hpu⟩
    have HPU := Lib.hid hpu
    clear hpu
    go_wp2_with fail
    go_ret
    exact ⟨rfl, HPU.out.undrew⟩
  · rw [Bool.not_eq_true] at hp
    rw [hp] at HPF
    have hz0 : (0 : Int) < Re.size := by omega
    have hzn : 0 < Re.size := by omega
    have hx0 : Re[0]'hzn = c := by
      have h := lst_get Re 0 hzn
      rw [HRs.out] at h
      simpa using h.symm
    have ho' : opensM (60 :: c :: r) = true := by rw [← HD2.out]; exact ho
    clear ho
    by_cases h33 : c = 33
    · subst h33
      have hdr : (lst text).drop (at_ + 2) = r := by rw [← List.drop_drop, HD2.out]; rfl
      have hrm := remark_any B b text ⟨#[62]⟩ at_ 2 tv l w.drew HGD.out hb10 hBb HSD.out HRD.out (by omega) (by omega) h3 (by decide) (by decide)
      rw [hdr, show lst ⟨#[62]⟩ = [62] from rfl] at hrm
      have HRM := Lib.hid hrm
      rw [markupM_bang r (by simpa [Lib.hasPrefix, List.isPrefixOf] using hp)]
      clear hrm hdr hp hrl ho'
      go_enter Tryz.func52, Tryz.ntmps52
      go_wp2_with fail
      go_still_tail 10, (by kernel_rfl)
      change wpList _ _ _ _ _ w.drew
      clear i0 i1 i2 hwr c0 c1 hRe
      go_wp2_with fail
      refine (HPF.out w.drew).mono ?_
      rintro e w1 ⟨rfl, hw⟩
      rw [hw]; clear hw
      go_wp2_with fail
      refine HRM.out.mono ?_
      rintro e w2 ⟨rfl, hpu⟩
      have HPU := Lib.hid hpu
      clear hpu
      go_wp2_with fail
      go_ret
      exact ⟨rfl, HPU.out.undrew⟩
    · have b33 : ((c.toNat : Int) == 33) = false := by
        rw [beq_eq_false_iff_ne]; intro h; exact h33 (by rw [← UInt8.toNat_inj]; have : (33 : UInt8).toNat = 33 := rfl; omega)
      by_cases h63 : c = 63
      · subst h63
        have hdr : (lst text).drop (at_ + 1) = 63 :: r := by rw [← List.drop_drop, HD2.out]; rfl
        have hrm := remark_any B b text ⟨#[62]⟩ at_ 1 tv l w.drew HGD.out hb10 hBb HSD.out HRD.out (by omega) (by omega) h3 (by decide) (by decide)
        rw [hdr, show lst ⟨#[62]⟩ = [62] from rfl] at hrm
        have HRM := Lib.hid hrm
        rw [markupM_ask]
        clear hrm hdr hp hrl ho' h33 b33
        go_enter Tryz.func52, Tryz.ntmps52
        go_wp2_with fail
        go_still_tail 10, (by kernel_rfl)
        change wpList _ _ _ _ _ w.drew
        clear i0 i1 i2 hwr c0 c1 hRe
        go_wp2_with fail
        refine (HPF.out w.drew).mono ?_
        rintro e w1 ⟨rfl, hw⟩
        rw [hw]; clear hw
        go_wp2_with fail
        refine HRM.out.mono ?_
        rintro e w2 ⟨rfl, hpu⟩
        have HPU := Lib.hid hpu
        clear hpu
        go_wp2_with fail
        go_ret
        exact ⟨rfl, HPU.out.undrew⟩
      · have b63 : ((c.toNat : Int) == 63) = false := by
          rw [beq_eq_false_iff_ne]; intro h; exact h63 (by rw [← UInt8.toNat_inj]; have : (63 : UInt8).toNat = 63 := rfl; omega)
        by_cases h47 : c = 47
        · subst h47
          cases r with
          | nil => exact absurd ho' (by decide)
          | cons d r' =>
            simp only [List.length_cons] at hrl hRz
            have hz1 : (1 : Int) < Re.size := by omega
            have hz1n : 1 < Re.size := by omega
            have hx1 : Re[1]'hz1n = d := by
              have h := lst_get Re 1 hz1n
              rw [HRs.out] at h
              simpa using h.symm
            have hL := fun W => letter_any (d.toNat : Int) W (by omega) (by have := d.toNat_lt; omega)
            rw [letB_isLet] at hL
            have hdr : (lst text).drop (at_ + 2) = d :: r' := by rw [← List.drop_drop, HD2.out]; rfl
            rw [markupM_slash]
            cases hlet : isLet d with
            | false =>
              rw [hlet] at hL
              have HL := Lib.hid hL
              have hrm := remark_any B b text ⟨#[62]⟩ at_ 2 tv l w.drew HGD.out hb10 hBb HSD.out HRD.out (by omega) (by omega) h3 (by decide) (by decide)
              rw [hdr, show lst ⟨#[62]⟩ = [62] from rfl] at hrm
              have HRM := Lib.hid hrm
              rw [if_neg (by decide)]
              clear hL hrm hdr hp hrl ho' h33 b33 h63 b63 hlet
              go_enter Tryz.func52, Tryz.ntmps52
              go_wp2_with fail
              go_still_tail 10, (by kernel_rfl)
              change wpList _ _ _ _ _ w.drew
              clear i0 i1 i2 hwr c0 c1 hRe
              go_wp2_with fail
              refine (HPF.out w.drew).mono ?_
              rintro e w1 ⟨rfl, hw⟩
              rw [hw]; clear hw
              go_wp2_with fail
              refine (HL.out w.drew).mono ?_
              rintro e w2 ⟨rfl, hw⟩
              rw [← hw]; clear hw
              go_wp2_with fail
              refine HRM.out.mono ?_
              rintro e w2 ⟨rfl, hpu⟩
              have HPU := Lib.hid hpu
              clear hpu
              go_wp2_with fail
              go_ret
              exact ⟨rfl, HPU.out.undrew⟩
            | true =>
              rw [hlet] at hL
              have HL := Lib.hid hL
              rw [if_pos rfl]
              have htg := fun W h1 h2 h4 => tag_any B b text (at_ + 2) tv l 2 (.inr rfl) W h1 hb10 hBb h2 h4 (by omega) (by omega) h3
              rw [hdr] at htg
              generalize tagM 2 (d :: r') = O at *
              have HTG := Lib.hid htg
              clear hL htg hdr hp ho' h33 b33 h63 b63 hlet
              go_enter Tryz.func52, Tryz.ntmps52
              go_wp2_with fail
              go_still_tail 10, (by kernel_rfl)
              change wpList _ _ _ _ _ w.drew
              clear i0 i1 i2 hwr c0 c1 hRe
              go_wp2_with fail
              refine (HPF.out w.drew).mono ?_
              rintro e w1 ⟨rfl, hw⟩
              rw [hw]; clear hw
              go_wp2_with fail
              refine (HL.out w.drew).mono ?_
              rintro e w2 ⟨rfl, hw⟩
              rw [← hw]; clear hw
              go_wp2_with fail
              refine (pass_any b text at_ 2 tv w.drew HSD.out (by omega) (by omega) (by omega)).mono ?_
              rintro e w2 ⟨rfl, hs2, ho2⟩
              have HS2 := Lib.hid (hs2.at_eq (show at_ + (2 : Int).toNat = at_ + 2 by omega))
              have HO2 := Lib.hid ho2
              clear hs2 ho2
              go_wp2_with fail
              refine (HTG.out w2 (HGD.out.kept HO2.out HGD.out.size (by intro k hk e; omega)) HS2.out (HRD.out.kept (RowsKept.of_only HSD.out HO2.out))).mono ?_
              rintro e w3 htp
              cases O with
              | none =>
                obtain ⟨rfl, hb3, a3, tv3, h3a, hs3, hr3⟩ := htp
                have HB3 := Lib.hid hb3
                have HS3 := Lib.hid hs3
                have HR3 := Lib.hid hr3
                clear hb3 hs3 hr3
                go_wp2_with fail
                go_ret
                exact ⟨rfl, Below.undrew (Below.trans (Kept.below HO2.out (fun k hk e => by omega) (by show B ≤ w.heap.size; omega)) HB3.out), a3, tv3, h3a, HS3.out, HR3.out⟩
              | some V =>
                obtain ⟨t, r2⟩ := V
                obtain ⟨rfl, hb3, tv3, hs3, hr3⟩ := htp
                have HB3 := Lib.hid hb3
                have HS3 := Lib.hid hs3
                have HR3 := Lib.hid hr3
                clear hb3 hs3 hr3
                go_wp2_with fail
                go_ret
                exact ⟨rfl, Below.undrew (Below.trans (Kept.below HO2.out (fun k hk e => by omega) (by show B ≤ w.heap.size; omega)) HB3.out), tv3, HS3.out, HR3.out⟩
        · have b47 : ((c.toNat : Int) == 47) = false := by
            rw [beq_eq_false_iff_ne]; intro h; exact h47 (by rw [← UInt8.toNat_inj]; have : (47 : UInt8).toNat = 47 := rfl; omega)
          have hlet : isLet c = true := by
            cases r with
            | nil => rw [opensM_cons] at ho'; have e1 : (c == 33) = false := by { rw [beq_eq_false_iff_ne]; exact h33 }; have e2 : (c == 63) = false := by { rw [beq_eq_false_iff_ne]; exact h63 }; rw [e1, e2] at ho'; simpa using ho'
            | cons d r' =>
              rw [opensM_cons] at ho'
              have e1 : (c == 33) = false := by rw [beq_eq_false_iff_ne]; exact h33
              have e2 : (c == 63) = false := by rw [beq_eq_false_iff_ne]; exact h63
              have e3 : (c == 47) = false := by rw [beq_eq_false_iff_ne]; exact h47
              rw [e1, e2, e3] at ho'
              simpa using ho'
          have hdr : (lst text).drop (at_ + 1) = c :: r := by rw [← List.drop_drop, HD2.out]; rfl
          have htg := fun W h1 h2 h4 => tag_any B b text (at_ + 1) tv l 1 (.inl rfl) W h1 hb10 hBb h2 h4 (by omega) (by omega) h3
          rw [hdr] at htg
          rw [markupM_tag c r hlet]
          have hsu : ∀ t r2, tagM 1 (c :: r) = some (t, r2) → (lst text).drop (text.size - r2.length) = r2 := fun t r2 h => by
            rw [← lst_length]
            refine suf_drop (List.IsSuffix.trans (tagM_suf 1 _ t r2 h) ?_)
            rw [← hdr]; exact List.drop_suffix _ _
          generalize tagM 1 (c :: r) = O at *
          have HSU := Lib.hid hsu
          clear hsu
          have HTG := Lib.hid htg
          clear htg hdr hp ho' h33 h63 h47 hlet
          go_enter Tryz.func52, Tryz.ntmps52
          go_wp2_with fail
          go_still_tail 10, (by kernel_rfl)
          change wpList _ _ _ _ _ w.drew
          clear i0 i1 i2 hwr c0 c1 hRe
          go_wp2_with fail
          refine (HPF.out w.drew).mono ?_
          rintro e w1 ⟨rfl, hw⟩
          rw [hw]; clear hw
          go_wp2_with fail
          refine (pass_any b text at_ 1 tv w.drew HSD.out (by omega) (by omega) (by omega)).mono ?_
          rintro e w2 ⟨rfl, hs2, ho2⟩
          have HS2 := Lib.hid (hs2.at_eq (show at_ + (1 : Int).toNat = at_ + 1 by omega))
          have HO2 := Lib.hid ho2
          clear hs2 ho2
          go_wp2_with fail
          refine (HTG.out w2 (HGD.out.kept HO2.out HGD.out.size (by intro k hk e; omega)) HS2.out (HRD.out.kept (RowsKept.of_only HSD.out HO2.out))).mono ?_
          rintro e w3 htp
          cases O with
          | none =>
            obtain ⟨rfl, hb3, a3, tv3, h3a, hs3, hr3⟩ := htp
            have HB3 := Lib.hid hb3
            have HS3 := Lib.hid hs3
            have HR3 := Lib.hid hr3
            clear hb3 hs3 hr3
            go_wp2_with fail
            go_ret
            exact ⟨rfl, Below.undrew (Below.trans (Kept.below HO2.out (fun k hk e => by omega) (by show B ≤ w.heap.size; omega)) HB3.out), a3, tv3, h3a, HS3.out, HR3.out⟩
          | some V =>
            obtain ⟨t, r2⟩ := V
            obtain ⟨rfl, hb3, tv3, hs3, hr3⟩ := htp
            have HB3 := Lib.hid (Below.undrew (Below.trans (Kept.below HO2.out (fun k hk e => by omega) (by show B ≤ w.heap.size; omega)) hb3))
            have HS3 := Lib.hid hs3
            have HR3 := Lib.hid hr3
            obtain ⟨g, cap, htv, hcn⟩ := last_name hr3
            have HTV := Lib.hid htv
            clear hb3 hs3 hr3 b47 HPF HRs HD2
            obtain ⟨d0, d1, d2, _, _, hb3z⟩ := HS3.out.all
            rw [htv] at d2
            clear htv d0 d1
            have hli : IntKind.i64.wrap ((l.length : Int) + 1 - 1) = (l.length : Int) := by rw [IntWalk.i64_in _ (by omega)]; omega
            have hli2 : IntKind.i64.wrap (l.length : Int) = (l.length : Int) := IntWalk.i64_in _ (by omega)
            have hli3 : (0 : Int) ≤ l.length := by omega
            have hli4 : (l.length : Int) < (l.length : Int) + 1 := by omega
            go_wp2_with fail
            go_still_tail 13, (by kernel_rfl)
            clear hli hli2 hli3 hli4 hcn d2
            change wpList _ _ _ _ _ w3.drew
            have HS4 := Lib.hid (show Sc w3.drew b text (text.size - r2.length) tv3 from HS3.out.drewN 1)
            have HR4 := Lib.hid (HR3.out.kept (RowsKept.of_below (Below.refl w3.heap.size w3).drew))
            have HB4 := Lib.hid (show Below B w w3.drew from ⟨HB3.out.os, HB3.out.tape, HB3.out.output, HB3.out.size, HB3.out.block⟩)
            clear HS3 HR3 HB3 hb3z
            generalize w3.drew = w4 at *
            by_cases q1 : (mk t.name).toList = [115, 99, 114, 105, 112, 116]
            · have q := q1
              have hn : t.name = sScript := by rw [toList_mk] at q; exact q
              have hraw : isRaw t.name = true := by rw [hn]; decide
              have hrw := raw_any B b text (mk t.name) (text.size - r2.length) tv3 (l ++ [t]) w4 (HG.out.below HB4.out hb10) hb10 hBb HS4.out HR4.out (by simp; omega) (by omega) h3 (by rw [mk_size, hn]; decide) (by rw [mk_size, hn]; decide)
              rw [lst_mk, HSU.out t r2 rfl] at hrw
              have HRW := Lib.hid hrw
              have HRAW := Lib.hid hraw
              clear hrw hraw hn
              go_wp2_with fail
              refine HRW.out.mono ?_
              rintro e w5 ⟨rfl, hpu⟩
              have HPU := Lib.hid hpu
              clear hpu
              go_wp2_with fail
              go_ret
              show MarkPost B b text l w (some (if isRaw t.name = true then (t :: rawToks t.name (rawM t.name r2).1, (rawM t.name r2).2) else ([t], r2))) _ _
              rw [if_pos HRAW.out]
              obtain ⟨p1, tv5, s5, r5⟩ := HPU.out
              rw [List.append_assoc] at r5
              exact ⟨rfl, Below.trans HB4.out p1, tv5, s5, r5⟩
            · by_cases q2 : (mk t.name).toList = [115, 116, 121, 108, 101]
              · have q := q2
                have hn : t.name = sStyle := by rw [toList_mk] at q; exact q
                have hraw : isRaw t.name = true := by rw [hn]; decide
                have hrw := raw_any B b text (mk t.name) (text.size - r2.length) tv3 (l ++ [t]) w4 (HG.out.below HB4.out hb10) hb10 hBb HS4.out HR4.out (by simp; omega) (by omega) h3 (by rw [mk_size, hn]; decide) (by rw [mk_size, hn]; decide)
                rw [lst_mk, HSU.out t r2 rfl] at hrw
                have HRW := Lib.hid hrw
                have HRAW := Lib.hid hraw
                clear hrw hraw hn
                go_wp2_with fail
                refine HRW.out.mono ?_
                rintro e w5 ⟨rfl, hpu⟩
                have HPU := Lib.hid hpu
                clear hpu
                go_wp2_with fail
                go_ret
                show MarkPost B b text l w (some (if isRaw t.name = true then (t :: rawToks t.name (rawM t.name r2).1, (rawM t.name r2).2) else ([t], r2))) _ _
                rw [if_pos HRAW.out]
                obtain ⟨p1, tv5, s5, r5⟩ := HPU.out
                rw [List.append_assoc] at r5
                exact ⟨rfl, Below.trans HB4.out p1, tv5, s5, r5⟩
              · by_cases q3 : (mk t.name).toList = [116, 101, 120, 116, 97, 114, 101, 97]
                · have q := q3
                  have hn : t.name = sTextarea := by rw [toList_mk] at q; exact q
                  have hraw : isRaw t.name = true := by rw [hn]; decide
                  have hrw := raw_any B b text (mk t.name) (text.size - r2.length) tv3 (l ++ [t]) w4 (HG.out.below HB4.out hb10) hb10 hBb HS4.out HR4.out (by simp; omega) (by omega) h3 (by rw [mk_size, hn]; decide) (by rw [mk_size, hn]; decide)
                  rw [lst_mk, HSU.out t r2 rfl] at hrw
                  have HRW := Lib.hid hrw
                  have HRAW := Lib.hid hraw
                  clear hrw hraw hn
                  go_wp2_with fail
                  refine HRW.out.mono ?_
                  rintro e w5 ⟨rfl, hpu⟩
                  have HPU := Lib.hid hpu
                  clear hpu
                  go_wp2_with fail
                  go_ret
                  show MarkPost B b text l w (some (if isRaw t.name = true then (t :: rawToks t.name (rawM t.name r2).1, (rawM t.name r2).2) else ([t], r2))) _ _
                  rw [if_pos HRAW.out]
                  obtain ⟨p1, tv5, s5, r5⟩ := HPU.out
                  rw [List.append_assoc] at r5
                  exact ⟨rfl, Below.trans HB4.out p1, tv5, s5, r5⟩
                · by_cases q4 : (mk t.name).toList = [116, 105, 116, 108, 101]
                  · have q := q4
                    have hn : t.name = sTitle := by rw [toList_mk] at q; exact q
                    have hraw : isRaw t.name = true := by rw [hn]; decide
                    have hrw := raw_any B b text (mk t.name) (text.size - r2.length) tv3 (l ++ [t]) w4 (HG.out.below HB4.out hb10) hb10 hBb HS4.out HR4.out (by simp; omega) (by omega) h3 (by rw [mk_size, hn]; decide) (by rw [mk_size, hn]; decide)
                    rw [lst_mk, HSU.out t r2 rfl] at hrw
                    have HRW := Lib.hid hrw
                    have HRAW := Lib.hid hraw
                    clear hrw hraw hn
                    go_wp2_with fail
                    refine HRW.out.mono ?_
                    rintro e w5 ⟨rfl, hpu⟩
                    have HPU := Lib.hid hpu
                    clear hpu
                    go_wp2_with fail
                    go_ret
                    show MarkPost B b text l w (some (if isRaw t.name = true then (t :: rawToks t.name (rawM t.name r2).1, (rawM t.name r2).2) else ([t], r2))) _ _
                    rw [if_pos HRAW.out]
                    obtain ⟨p1, tv5, s5, r5⟩ := HPU.out
                    rw [List.append_assoc] at r5
                    exact ⟨rfl, Below.trans HB4.out p1, tv5, s5, r5⟩
                  · have hraw : isRaw t.name = false := by
                      rw [toList_mk] at q1 q2 q3 q4
                      unfold isRaw
                      rw [Bool.or_eq_false_iff, Bool.or_eq_false_iff, Bool.or_eq_false_iff]
                      exact ⟨⟨⟨beq_eq_false_iff_ne.2 q1, beq_eq_false_iff_ne.2 q2⟩, beq_eq_false_iff_ne.2 q3⟩, beq_eq_false_iff_ne.2 q4⟩
                    have HRAW := Lib.hid hraw
                    clear hraw
                    have z1 := beq_eq_false_iff_ne.2 q1
                    have z2 := beq_eq_false_iff_ne.2 q2
                    have z3 := beq_eq_false_iff_ne.2 q3
                    have z4 := beq_eq_false_iff_ne.2 q4
                    go_wp2_with fail
                    go_ret
                    show MarkPost B b text l w (some (if isRaw t.name = true then (t :: rawToks t.name (rawM t.name r2).1, (rawM t.name r2).2) else ([t], r2))) _ _
                    rw [HRAW.out, if_neg (by decide)]
                    exact ⟨rfl, HB4.out, tv3, HS4.out, HR4.out⟩

end Go.Proofs.YtjkgmdnkejjppaaGreatDoor
/- Walks of the tokenizer: All. -/
namespace Go.Proofs.YtjkgmdnkejjppaaGreatDoor
open Go Go.RowKit

theorem textM_cons (c : UInt8) (r : Bytes) : textM (c :: r) = if opensM (c :: r) then ([], c :: r) else (c :: (textM r).1, (textM r).2) := rfl
/-- No markup begins ahead of place j. -/
def TextAt (R : Bytes) (j : Nat) : Prop := textM R = (R.take j ++ (textM (R.drop j)).1, (textM (R.drop j)).2)
theorem TextAt.zero (R : Bytes) : TextAt R 0 := by unfold TextAt; simp
theorem TextAt.succ {R : Bytes} {j : Nat} (h : TextAt R j) (hj : j < R.length) (hs : opensM (R.drop j) = false) : TextAt R (j + 1) := by
  unfold TextAt at *
  rw [List.drop_eq_getElem_cons hj] at h hs
  rw [textM_cons, hs] at h
  have e : R.take (j + 1) = R.take j ++ [R[j]] := (List.take_append_getElem hj).symm
  rw [h, e]
  simp only [Bool.false_eq_true, if_false, List.append_assoc, List.cons_append, List.nil_append]
theorem TextAt.stop {R : Bytes} {j : Nat} (h : TextAt R j) (hj : j < R.length) (hs : opensM (R.drop j) = true) : textM R = (R.take j, R.drop j) := by
  unfold TextAt at h
  rw [List.drop_eq_getElem_cons hj] at h hs
  rw [textM_cons, hs] at h
  rw [h, List.drop_eq_getElem_cons hj]
  simp
theorem TextAt.end {R : Bytes} (h : TextAt R R.length) : textM R = (R, []) := by
  unfold TextAt at h
  rw [h]
  simp [textM]

theorem upToM_len (e : Bytes) (l : Bytes) : (upToM e l).2.length ≤ l.length := by
  induction l with
  | nil => simp [upToM]
  | cons c r ih =>
    rw [upToM_cons]
    split
    · simp only [List.length_drop, List.length_cons]; omega
    · simp only [List.length_cons]; omega
theorem rawM_len (n : Bytes) (l : Bytes) : (rawM n l).1.length + (rawM n l).2.length = l.length := by
  induction l with
  | nil => rfl
  | cons c r ih =>
    rw [rawM_cons]
    split
    · simp
    · simp only [List.length_cons]; omega
theorem rawToks_len (n t : Bytes) : (rawToks n t).length ≤ t.length := by
  unfold rawToks
  split
  · simp
  · rename_i h
    cases t with
    | nil =>
      exfalso
      apply h
      unfold rawText
      split <;> rfl
    | cons a t => simp

/-- Markup is paid by its bytes. -/
theorem markupM_len (X : Bytes) (ts : List TTok) (r2 : Bytes) (h : markupM X = some (ts, r2)) : ts.length + r2.length ≤ X.length := by
  unfold markupM at h
  split at h
  · injection h with h; injection h with h1 h2; subst h1 h2
    have := upToM_len [45, 45, 62] ‹_›
    simp only [List.length_cons, List.length_nil]; omega
  · injection h with h; injection h with h1 h2; subst h1 h2
    have := upToM_len [62] ‹_›
    simp only [List.length_cons, List.length_nil]; omega
  · rename_i r
    injection h with h; injection h with h1 h2; subst h1 h2
    have := upToM_len [62] (63 :: r)
    simp only [List.length_cons, List.length_nil] at *; omega
  · rename_i c r
    split at h
    · cases ht : tagM 2 (c :: r) with
      | none => rw [ht] at h; cases h
      | some V =>
        obtain ⟨t, r3⟩ := V
        rw [ht] at h
        have hl := (tagM_suf 2 _ t r3 ht).length_le
        injection h with h; injection h with h1 h2; subst h1 h2
        simp only [List.length_cons, List.length_nil] at *; omega
    · injection h with h; injection h with h1 h2; subst h1 h2
      have := upToM_len [62] (c :: r)
      simp only [List.length_cons, List.length_nil] at *; omega
  · rename_i r _ _ _ _
    cases ht : tagM 1 r with
    | none => rw [ht] at h; cases h
    | some V =>
      obtain ⟨t, r3⟩ := V
      rw [ht] at h
      have hl := (tagM_suf 1 _ t r3 ht).length_le
      simp only [Option.map_some] at h
      split at h
      · injection h with h; injection h with h1 h2; subst h1 h2
        have e1 := rawM_len t.name r3
        have e2 := rawToks_len t.name (rawM t.name r3).1
        simp only [List.length_cons]; omega
      · injection h with h; injection h with h1 h2; subst h1 h2
        simp only [List.length_cons, List.length_nil]; omega
  · cases h

theorem upToM_suf (e : Bytes) (l : Bytes) : (upToM e l).2 <:+ l := by
  induction l with
  | nil => exact List.suffix_refl _
  | cons c r ih =>
    rw [upToM_cons]
    split
    · exact List.drop_suffix _ _
    · exact List.IsSuffix.trans ih (List.suffix_cons c r)
theorem rawM_suf (n : Bytes) (l : Bytes) : (rawM n l).2 <:+ l := by
  induction l with
  | nil => exact List.suffix_refl _
  | cons c r ih =>
    rw [rawM_cons]
    split
    · exact List.suffix_refl _
    · exact List.IsSuffix.trans ih (List.suffix_cons c r)
theorem suf_cons {r l : Bytes} (c : UInt8) (h : r <:+ l) : r <:+ c :: l := List.IsSuffix.trans h (List.suffix_cons c l)
theorem markupM_suf (X : Bytes) (ts : List TTok) (r2 : Bytes) (h : markupM X = some (ts, r2)) : r2 <:+ X := by
  unfold markupM at h
  split at h
  · injection h with h; injection h with h1 h2; subst h1 h2
    exact suf_cons _ (suf_cons _ (suf_cons _ (suf_cons _ (upToM_suf _ _))))
  · injection h with h; injection h with h1 h2; subst h1 h2
    exact suf_cons _ (suf_cons _ (upToM_suf _ _))
  · injection h with h; injection h with h1 h2; subst h1 h2
    exact suf_cons _ (upToM_suf _ _)
  · rename_i c r
    split at h
    · cases ht : tagM 2 (c :: r) with
      | none => rw [ht] at h; cases h
      | some V =>
        obtain ⟨t, r3⟩ := V
        rw [ht] at h
        have hl := tagM_suf 2 _ t r3 ht
        injection h with h; injection h with h1 h2; subst h1 h2
        exact suf_cons _ (suf_cons _ hl)
    · injection h with h; injection h with h1 h2; subst h1 h2
      exact suf_cons _ (suf_cons _ (upToM_suf _ _))
  · rename_i r _ _ _ _
    cases ht : tagM 1 r with
    | none => rw [ht] at h; cases h
    | some V =>
      obtain ⟨t, r3⟩ := V
      rw [ht] at h
      have hl := tagM_suf 1 _ t r3 ht
      simp only [Option.map_some] at h
      split at h
      · injection h with h; injection h with h1 h2; subst h1 h2
        exact suf_cons _ (List.IsSuffix.trans (rawM_suf _ _) hl)
      · injection h with h; injection h with h1 h2; subst h1 h2
        exact suf_cons _ hl
  · cases h

theorem markupM_pos (X : Bytes) (ts : List TTok) (r2 : Bytes) (h : markupM X = some (ts, r2)) : 0 < ts.length := by
  unfold markupM at h
  split at h
  · injection h with h; injection h with h1 _; subst h1; simp
  · injection h with h; injection h with h1 _; subst h1; simp
  · injection h with h; injection h with h1 _; subst h1; simp
  · rename_i c r
    split at h
    · cases ht : tagM 2 (c :: r) with
      | none => rw [ht] at h; cases h
      | some V =>
        rw [ht] at h
        injection h with h; injection h with h1 _; subst h1; simp
    · injection h with h; injection h with h1 _; subst h1; simp
  · rename_i r _ _ _ _
    cases ht : tagM 1 r with
    | none => rw [ht] at h; cases h
    | some V =>
      rw [ht] at h
      simp only [Option.map_some] at h
      split at h
      · injection h with h; injection h with h1 _; subst h1; simp
      · injection h with h; injection h with h1 _; subst h1; simp
  · cases h

theorem allN_succ (n : Nat) (X : Bytes) (h : X ≠ []) : allN (n + 1) X = textToks (textM X).1 ++ (if (textM X).2 = [] then [] else match markupM (textM X).2 with
    | none => []
    | some (l, r2) => l ++ allN n r2) := by
  cases X with
  | nil => exact absurd rfl h
  | cons c r => rfl

set_option maxHeartbeats 4000000 in
set_option maxRecDepth 100000 in
theorem all_any (text : ByteArray) (w : World) (hg : Glob w) (h3 : text.size ≤ 100000) :
    Calls Tryz.prog 25 #[.string text] w fun e w' => ∃ tv, e = .returned tv ∧ TokRow w.heap.size w' tv (allM (lst text)) ∧ Below w.heap.size w w' := by
  have HG := Lib.hid hg
  have hb10 := hg.size
  clear hg
  have hst : Hid (allM (lst text) = allN (text.size + 1) ((lst text).drop 0)) := Lib.hid (by rw [List.drop_zero]; unfold allM; rw [lst_length])
  generalize allM (lst text) = R at *
  obtain ⟨b, hb⟩ : ∃ b, b = w.heap.size := ⟨_, rfl⟩
  have HB := Lib.hid hb
  rw [← hb] at hb10 ⊢
  clear hb
  have hA := Lib.hid (((Below.refl b w).alloc (Nat.le_of_eq HB.out) (.cells #[.string text, .int .i64 0, .slice none 0 0] 93)))
  have hS := Lib.hid (show Sc (w.alloc (.cells #[.string text, .int .i64 0, .slice none 0 0] 93)) b text 0 (.slice none 0 0) by rw [HB.out]; exact heap_alloc_new w _)
  go_enter Tryz.func25, Tryz.ntmps25
  go_wp2_with fail
  rw [← HB.out]
  generalize w.alloc (.cells #[.string text, .int .i64 0, .slice none 0 0] 93) = w0 at *
  go_loopg [] (text.size + 1) (fun g wx => ∃ (W : World) (a : Nat) (tv : Value) (l : List TTok), W = wx ∧ a ≤ text.size ∧ text.size - a < g ∧ l.length ≤ a ∧ Sc wx b text a tv ∧ TokRow b wx tv l ∧ Below b w wx ∧ Hid (R = l ++ allN g ((lst text).drop a)))
  case atStart => exact ⟨_, 0, _, [], rfl, Nat.zero_le _, by omega, by simp, hS.out, ⟨[], rfl, World.ownsRow_nil _ _ _ _, by simp⟩, hA.out, Lib.hid (by rw [hst.out]; rfl)⟩
  case round =>
    obtain ⟨wr, a, tv, l, rfl, ha, hg, hla, hs, hr, hbe, hh⟩ := hrel
    have HS := Lib.hid hs
    have HR := Lib.hid hr
    have HBE := Lib.hid hbe
    obtain ⟨c0, c1, c2, _, _, hbz⟩ := hs.all
    clear hs hr hbe hst hA hS
    by_cases hlt : a < text.size
    · obtain ⟨n, rfl⟩ : ∃ n, gk = n + 1 := ⟨gk - 1, by omega⟩
      have hXl : ((lst text).drop a).length = text.size - a := by rw [List.length_drop, lst_length]
      have hXn : (lst text).drop a ≠ [] := by intro e; rw [e] at hXl; simp at hXl; omega
      have hun := hh.out
      rw [allN_succ n _ hXn] at hun
      have HUN := Lib.hid hun
      have hwj : ∀ j : Nat, a + j < text.size → IntKind.i64.wrap ((a : Int) + (j : Int) + 1) = (a : Int) + (j : Int) + 1 := fun j hj => IntWalk.i64_in _ (by omega)
      have HWJ := Lib.hid hwj
      have HXL := Lib.hid hXl
      clear hun hXn hh hwj hXl
      have haI : (a : Int) < text.size := by omega
      go_upto_block 2 with fail
      go_cut [] (fun wx => ∃ j : Nat, a + j ≤ text.size ∧ Sc wx b text (a + j) tv ∧ TokRow b wx tv l ∧ Below b w wx ∧ Hid (textM ((lst text).drop a) = (((lst text).drop a).take j, (lst text).drop (a + j))) ∧ Hid (a + j < text.size → opensM ((lst text).drop (a + j)) = true))
      case first =>
        go_wp2_with fail
        go_loopg [] (text.size - a + 1) (fun g wx => ∃ (W : World) (j : Nat), W = wx ∧ a + j ≤ text.size ∧ text.size - (a + j) < g ∧ Sc wx b text (a + j) tv ∧ TokRow b wx tv l ∧ Below b w wx ∧ Hid (TextAt ((lst text).drop a) j))
        case atStart => exact ⟨_, 0, rfl, by omega, by omega, HS.out, HR.out, HBE.out, Lib.hid (TextAt.zero _)⟩
        case round =>
          obtain ⟨wi, j, rfl, hj, hg2, hs2, hr2, hb2, hta⟩ := hrel
          have HS2 := Lib.hid hs2
          have HR2 := Lib.hid hr2
          have HB2 := Lib.hid hb2
          clear c0 c1 c2
          obtain ⟨c0, c1, _, f1, _, _⟩ := hs2.all
          clear hs2 hr2 hb2
          have hdj : ((lst text).drop a).drop j = (lst text).drop (a + j) := by rw [List.drop_drop]
          have HDJ := Lib.hid hdj
          clear hdj
          by_cases hlt2 : a + j < text.size
          · obtain ⟨m, rfl⟩ : ∃ m, gk = m + 1 := ⟨gk - 1, by omega⟩
            have hjI : (a : Int) + (j : Int) < text.size := by omega
            have hw1 := HWJ.out j hlt2
            have hop := opens_any b text (a + j) (a + j) tv wi HS2.out hlt2 (by omega)
            rw [Int.natCast_add] at hop
            cases hov : opensM ((lst text).drop (a + j)) with
            | true =>
              rw [hov] at hop
              have HOP := Lib.hid hop
              have hst2 := Lib.hid (hta.out.stop (by rw [HXL.out]; omega) (by rw [HDJ.out]; exact hov))
              rw [HDJ.out] at hst2
              have HOV := Lib.hid hov
              clear hop hov hta
              go_wp2_with fail
              refine HOP.out.mono ?_
              rintro e wz ⟨rfl, nz, rfl⟩
              generalize hwz : wi.drewN nz = wz
              have HS3 := Lib.hid (show Sc wz b text (a + j) tv by rw [← hwz]; exact HS2.out.drewN _)
              have HR3 := Lib.hid (show TokRow b wz tv l by rw [← hwz]; exact HR2.out.kept (fun _ _ _ _ h => h))
              have HB3 := Lib.hid (show Below b w wz by rw [← hwz]; exact ⟨HB2.out.os, HB2.out.tape, HB2.out.output, HB2.out.size, HB2.out.block⟩)
              clear hwz
              go_wp2_with fail
              go_meet
              exact ⟨j, hj, HS3.out, HR3.out, HB3.out, hst2, Lib.hid (fun _ => HOV.out)⟩
            | false =>
              rw [hov] at hop
              have HOP := Lib.hid hop
              have hsu2 := Lib.hid (hta.out.succ (by rw [HXL.out]; omega) (by rw [HDJ.out]; exact hov))
              clear hop hov hta
              go_wp2_with fail
              refine HOP.out.mono ?_
              rintro e wz ⟨rfl, nz, rfl⟩
              generalize hwz : wi.drewN nz = wz
              have HS3 := Lib.hid (show Sc wz b text (a + j) tv by rw [← hwz]; exact HS2.out.drewN _)
              have HR3 := Lib.hid (show TokRow b wz tv l by rw [← hwz]; exact HR2.out.kept (fun _ _ _ _ h => h))
              have HB3 := Lib.hid (show Below b w wz by rw [← hwz]; exact ⟨HB2.out.os, HB2.out.tape, HB2.out.output, HB2.out.size, HB2.out.block⟩)
              clear hwz c0 c1 f1
              obtain ⟨c0, c1, _, f1, _, _⟩ := HS3.out.all
              go_wp2_with fail
              go_roundg m
              case measure => omega
              case rel =>
                have hs4 : Sc (wz.setCell ⟨b, 1, none⟩ (.int .i64 ((a + (j + 1) : Nat) : Int))) b text (a + (j + 1)) tv := HS3.out.setAt _
                have e1 : ((a + (j + 1) : Nat) : Int) = (a : Int) + (j : Int) + 1 := by omega
                rw [e1] at hs4
                exact ⟨_, j + 1, rfl, by omega, by omega, hs4, HR3.out.kept (RowsKept.of_only HS3.out ((Kept.refl (fun k => k = b) wz.heap.size wz).setCell (p := ⟨b, 1, none⟩) (.inl rfl) _)), Below.setCell HB3.out (Nat.le_refl b) _, hsu2⟩
          · have hje : j = ((lst text).drop a).length := by rw [HXL.out]; omega
            have hen := hta.out
            rw [hje] at hen
            have hen2 := hen.end
            have ht : ((lst text).drop a).take j = (lst text).drop a := List.take_of_length_le (by rw [HXL.out]; omega)
            have hdz : (lst text).drop (a + j) = [] := List.drop_eq_nil_of_le (by rw [lst_length]; omega)
            have hst2 := Lib.hid (show textM ((lst text).drop a) = (((lst text).drop a).take j, (lst text).drop (a + j)) by
              rw [hen2, ht, hdz])
            have hjI : ¬ ((a : Int) + (j : Int) < text.size) := by omega
            clear hen hen2 hta hje ht hdz
            go_wp2_with fail
            go_meet
            exact ⟨j, hj, HS2.out, HR2.out, HB2.out, hst2, Lib.hid (fun h => absurd h hlt2)⟩
      case rest =>
        obtain ⟨j, hj, hs2, hr2, hb2, htm, hop⟩ := hcut
        have HS2 := Lib.hid hs2
        have HR2 := Lib.hid hr2
        have HB2 := Lib.hid hb2
        clear c0 c1 c2 hbz HS HR HBE
        obtain ⟨c0, c1, c2, f1, f2, hbz⟩ := hs2.all
        clear hs2 hr2 hb2
        rw [htm.out] at HUN
        simp only at HUN
        go_upto_if 47 with (fail)
        go_cut [] (fun wx => ∃ tv', Sc wx b text (a + j) tv' ∧ TokRow b wx tv' (l ++ textToks (((lst text).drop a).take j)) ∧ Below b w wx)
        case first =>
          by_cases hj0 : j = 0
          · subst hj0
            go_wp2_with fail
            go_meet
            exact ⟨tv, HS2.out, by rw [List.take_zero]; show TokRow b _ tv (l ++ []); rw [List.append_nil]; exact HR2.out, HB2.out⟩
          · have hjp : (a : Int) < (a : Int) + (j : Int) := by omega
            have hT : textToks (((lst text).drop a).take j) = [chars (unesc (((lst text).drop a).take j))] := by
              unfold textToks
              rw [if_neg]
              intro e
              have h := congrArg List.length e
              rw [List.length_take, HXL.out] at h
              simp at h; omega
            have HT := Lib.hid hT
            have hun := fun W h => unescape_any (text.extract a (a + j)) (by rw [ByteArray.size_extract]; omega) W h
            rw [ext_take, lst_mk, ← ext_take] at hun
            generalize unesc (((lst text).drop a).take j) = Y at *
            have HUE := Lib.hid hun
            have b0 : (0 : Int) ≤ a := by omega
            have b1 : (a : Int) ≤ (a : Int) + (j : Int) := by omega
            have b2 : (a : Int) + (j : Int) ≤ text.size := by omega
            have b3 : ((a : Int) + (j : Int)).toNat = a + j := by omega
            obtain ⟨ps, hps, hown0, hat0⟩ := HR2.out
            have hpl : ps.length = l.length := by rw [← hps, List.length_map]
            obtain ⟨av, capv, htv⟩ := ownsRow_slice hown0
            have HTV := Lib.hid htv
            have HPS := Lib.hid hps
            have HAT := Lib.hid hat0
            have HOWN0 := Lib.hid hown0
            have hpz : ps.length ≤ 1000000 := by omega
            have hone : ∀ u ∈ (#[.int .i64 3, .string ⟨#[]⟩, .slice none 0 0, .bool false, .string (mk Y)] : Array Value).toList, u.oneCell' = true := by
              intro u hu
              simp only [List.mem_cons, List.not_mem_nil, or_false] at hu
              rcases hu with rfl | rfl | rfl | rfl | rfl <;> rfl
            have HONE := Lib.hid hone
            have hGd : Glob wc.drew := HG.out.below (B := b) ⟨HB2.out.os, HB2.out.tape, HB2.out.output, HB2.out.size, HB2.out.block⟩ hb10
            have HGD := Lib.hid hGd
            have hbz9 : b < wc.heap.size := hbz
            clear hps hpl hat0 hown0 htv hone hGd hT hun htm hop
            go_wp2_with fail
            go_region_law (first
              | (refine step_at 51 (by rfl) ?_; go_simp; go_loud (refine (HUE.out wc.drew HGD.out).mono ?_; rintro e w2 ⟨rfl, hbl⟩; have HBL := Lib.hid (show Below wc.heap.size wc w2 from Below.undrew hbl); have HS9 := Lib.hid (HS2.out.below HBL.out hbz9); have HOWN2 := Lib.hid (ownsRow_kept HOWN0.out fun g c _ hg => RowsKept.of_below HBL.out g c _ (.inl rfl) hg); have hBz2 : b ≤ w2.heap.size := Nat.le_trans (Nat.le_of_lt hbz9) HBL.out.size; have HBT := Lib.hid (show some b ≠ tv.ownBlock from own_ne HS9.out HOWN2.out); obtain ⟨g0, g1, g2, _, g3, _⟩ := HS9.out.all; clear hbl))
              | (refine step_push (by rfl) _ _ (by rfl) b tv ps.length (tokCells ps) w2 _ #[.int .i64 3, .string ⟨#[]⟩, .slice none 0 0, .bool false, .string (mk Y)] (by rfl) (by rfl) HOWN2.out (by rfl) (by rfl) HONE.out hpz hBz2 ?_; intro g cap w11 hown1 hgrow; have HOWN := Lib.hid hown1; have HGR := Lib.hid hgrow; have hs11 := sc_grown HS9.out hgrow HBT.out; obtain ⟨_, _, q2, _, q3, _⟩ := hs11.all; clear hs11 hown1 hgrow))
            all_goals
              go_wp2_with fail
              go_meet
              obtain ⟨p1, p2, p3⟩ := push_tok (t := chars Y) (va := .slice none 0 0) HS9.out (Nat.le_refl b) HPS.out (fun p hp => ownsRow_kept (HAT.out p hp) fun g c _ hg => RowsKept.of_below HBL.out g c _ (.inr rfl) hg) (AttrRow.nil _ _) HOWN2.out HBT.out HGR.out HOWN.out
              exact ⟨_, p1, by rw [HT.out]; exact p2, Below.trans HB2.out (Below.trans (HBL.out.mono (Nat.le_of_lt hbz9)) p3)⟩
        case rest =>
          obtain ⟨tv', hs3, hr3, hb3⟩ := hcut
          have HS3 := Lib.hid hs3
          have HR3 := Lib.hid hr3
          have HB3 := Lib.hid hb3
          clear c0 c1 c2 f1 f2 hbz HS2 HR2 HB2
          obtain ⟨c0, c1, c2, _, _, hbz⟩ := hs3.all
          clear hs3 hr3 hb3
          have htl : (textToks (((lst text).drop a).take j)).length ≤ j := by
            unfold textToks
            split
            · simp
            · rename_i hne
              cases j with
              | zero => simp at hne
              | succ j => simp
          by_cases hlt2 : a + j < text.size
          · have hne : (lst text).drop (a + j) ≠ [] := by
              intro e
              have h := congrArg List.length e
              rw [List.length_drop, lst_length] at h
              simp at h; omega
            rw [if_neg hne] at HUN
            have hlen := fun ts r2 => markupM_len ((lst text).drop (a + j)) ts r2
            have hmk := markup_any b b text (a + j) tv' (l ++ textToks (((lst text).drop a).take j)) wc (HG.out.below HB3.out hb10) hb10 (Nat.le_refl _) HS3.out HR3.out (by rw [List.length_append]; omega) hj (by omega) (hop.out hlt2)
            rw [List.length_drop, lst_length] at hlen
            have hsf : ∀ ts r2, markupM ((lst text).drop (a + j)) = some (ts, r2) → (lst text).drop (text.size - r2.length) = r2 := fun ts r2 h => by
              rw [← lst_length]
              exact suf_drop (List.IsSuffix.trans (markupM_suf _ ts r2 h) (List.drop_suffix _ _))
            have hpo := fun ts r2 => markupM_pos ((lst text).drop (a + j)) ts r2
            have HPO := Lib.hid hpo
            have HSF := Lib.hid hsf
            have HLEN := Lib.hid hlen
            clear hsf hlen hpo
            have hjI : (a : Int) + (j : Int) < text.size := by omega
            generalize markupM ((lst text).drop (a + j)) = O at *
            have HMK := Lib.hid hmk
            clear hmk hop htm hne
            go_wp2_with fail
            refine HMK.out.mono ?_
            rintro e w5 hmp
            cases O with
            | none =>
              obtain ⟨rfl, hb5, a5, tv5, h5a, hs5, hr5⟩ := hmp
              have HR5 := Lib.hid hr5
              have HB5 := Lib.hid (Below.trans HB3.out hb5)
              have HU2 := Lib.hid (show R = l ++ textToks (((lst text).drop a).take j) by rw [HUN.out, List.append_nil])
              clear c0 c1 c2 hbz hb5 hr5 HUN
              obtain ⟨c0, c1, c2, _, _, hbz⟩ := hs5.all
              clear hs5
              go_wp2_with fail
              go_ret
              exact ⟨tv5, rfl, by rw [HU2.out]; exact HR5.out, HB5.out⟩
            | some V =>
              obtain ⟨ts, r2⟩ := V
              obtain ⟨rfl, hb5, tv5, hs5, hr5⟩ := hmp
              have HS5 := Lib.hid hs5
              have HR5 := Lib.hid hr5
              have HB5 := Lib.hid (Below.trans HB3.out hb5)
              have hl5 := HLEN.out ts r2 rfl
              have HU2 := Lib.hid (show R = l ++ textToks (((lst text).drop a).take j) ++ ts ++ allN n ((lst text).drop (text.size - r2.length)) by
                rw [HSF.out ts r2 rfl, HUN.out]; simp)
              have hp5 := HPO.out ts r2 rfl
              clear hb5 hs5 hr5 HUN
              go_wp2_with fail
              go_roundg n
              case measure => omega
              case rel => exact ⟨_, text.size - r2.length, tv5, l ++ textToks (((lst text).drop a).take j) ++ ts, rfl, by omega, by omega, by rw [List.length_append, List.length_append]; omega, HS5.out, HR5.out, HB5.out, HU2⟩
          · have hdz : (lst text).drop (a + j) = [] := List.drop_eq_nil_of_le (by rw [lst_length]; omega)
            have hjI : ¬ ((a : Int) + (j : Int) < text.size) := by omega
            rw [if_pos hdz, List.append_nil] at HUN
            have HU2 := Lib.hid (show R = l ++ textToks (((lst text).drop a).take j) ++ allN n ((lst text).drop (a + j)) by
              rw [HUN.out, hdz]; cases n <;> simp [allN])
            clear hdz HUN hop htm
            go_wp2_with fail
            go_roundg n
            case measure => omega
            case rel => exact ⟨_, a + j, tv', l ++ textToks (((lst text).drop a).take j), rfl, hj, by omega, by rw [List.length_append]; omega, HS3.out, HR3.out, HB3.out, HU2⟩
    · obtain rfl : a = text.size := by omega
      have hR : R = l := by
        rw [hh.out, List.drop_eq_nil_of_le (by rw [lst_length]; omega)]
        cases gk <;> simp [allN]
      have HR2 := Lib.hid hR
      clear hR hh
      go_wp2_with fail
      go_ret
      exact ⟨tv, rfl, by rw [HR2.out]; exact HR.out, HBE.out⟩

end Go.Proofs.YtjkgmdnkejjppaaGreatDoor
/- Walks of the tokenizer: Parse. -/
namespace Go.Proofs.YtjkgmdnkejjppaaGreatDoor
open Go Go.RowKit

set_option maxHeartbeats 1000000 in
theorem parse_any (text : ByteArray) (w : World) (hg : Glob w) (h3 : text.size ≤ 600) :
    Calls Tryz.prog 12 #[.string text] w fun e w' => ∃ tv, e = .returned (.tuple #[tv, .int .i64 0]) ∧ TokRow w.heap.size w' tv (allM (lst text)) ∧ Below w.heap.size w w' := by
  have hal := all_any text w hg (by omega)
  have HAL := Lib.hid hal
  have hz : (text.size : Int) ≤ 600 := by omega
  clear hal hg h3
  go_enter Tryz.func12, Tryz.ntmps12
  go_wp2_with fail
  refine HAL.out.mono ?_
  rintro e w1 ⟨tv, rfl, htr, hbe⟩
  have HTR := Lib.hid htr
  have HBE := Lib.hid hbe
  clear htr hbe
  go_wp2_with fail
  exact bodyPost_ret (v := .tuple #[tv, .int .i64 0]) (by simp [results, Tryz.results12, go_sem]) rfl ⟨tv, rfl, HTR.out, HBE.out⟩

set_option maxHeartbeats 1000000 in
theorem parse_long (text : ByteArray) (w : World) (h3 : 600 < text.size) :
    Calls Tryz.prog 12 #[.string text] w fun e w' => e = .returned (.tuple #[.slice none 0 0, .int .i64 1]) ∧ w' = w := by
  have hz : (600 : Int) < text.size := by omega
  clear h3
  go_enter Tryz.func12, Tryz.ntmps12
  go_wp2_with fail
  exact bodyPost_ret (v := .tuple #[.slice none 0 0, .int .i64 1]) (by simp [results, Tryz.results12, go_sem]) rfl ⟨rfl, rfl⟩

end Go.Proofs.YtjkgmdnkejjppaaGreatDoor
