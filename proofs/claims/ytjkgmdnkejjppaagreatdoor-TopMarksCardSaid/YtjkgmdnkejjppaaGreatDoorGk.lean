/- Joined texts: TWalkF. -/
import Derived.Test.YtjkgmdnkejjppaaGreatDoorGj
import Derived.Test.YtjkgmdnkejjppaaGreatDoorGb
/- Walk of tree.Build. -/
namespace Go.Proofs.YtjkgmdnkejjppaaGreatDoor
open Go Go.RowKit

/-- The builder as it is laid at first. -/
def world0 (w : World) : World := ((w.alloc (.cells #[.pointer none, .slice none 0 0, .string ⟨#[]⟩, .bool false] 66)).alloc (.cells #[.pointer (some ⟨w.heap.size, 0, none⟩), .slice (some ⟨w.heap.size + 1 + 1, 0, none⟩) 1 1, .int .i64 0, .string ⟨#[]⟩] 68)).alloc
  (.cells #[.pointer (some ⟨w.heap.size, 0, none⟩)] 62)
def map0 (root : Nat) : OMap := fun x => if x = root then some ⟨none, [], [], [], []⟩ else none
theorem build_init (w : World) : BInv w.heap.size (w.heap.size + 1) w.heap.size (world0 w) initM ∧ Below w.heap.size w (world0 w) := by
  have b1 := (Below.refl w.heap.size w).alloc (Nat.le_refl _) (.cells #[.pointer none, .slice none 0 0, .string ⟨#[]⟩, .bool false] 66)
  have h1 := heap_alloc_new w (.cells #[.pointer none, .slice none 0 0, .string ⟨#[]⟩, .bool false] 66)
  have z1 : (w.alloc (.cells #[.pointer none, .slice none 0 0, .string ⟨#[]⟩, .bool false] 66)).heap.size = w.heap.size + 1 := by simp
  unfold world0
  generalize w.alloc (.cells #[.pointer none, .slice none 0 0, .string ⟨#[]⟩, .bool false] 66) = w1 at *
  have b2 := (Below.refl w1.heap.size w1).alloc (Nat.le_refl _) (.cells #[.pointer (some ⟨w.heap.size, 0, none⟩), .slice (some ⟨w.heap.size + 1 + 1, 0, none⟩) 1 1, .int .i64 0, .string ⟨#[]⟩] 68)
  have h2 := heap_alloc_new w1 (.cells #[.pointer (some ⟨w.heap.size, 0, none⟩), .slice (some ⟨w.heap.size + 1 + 1, 0, none⟩) 1 1, .int .i64 0, .string ⟨#[]⟩] 68)
  have z2 : (w1.alloc (.cells #[.pointer (some ⟨w.heap.size, 0, none⟩), .slice (some ⟨w.heap.size + 1 + 1, 0, none⟩) 1 1, .int .i64 0, .string ⟨#[]⟩] 68)).heap.size = w.heap.size + 1 + 1 := by simp [z1]
  generalize w1.alloc (.cells #[.pointer (some ⟨w.heap.size, 0, none⟩), .slice (some ⟨w.heap.size + 1 + 1, 0, none⟩) 1 1, .int .i64 0, .string ⟨#[]⟩] 68) = w2 at *
  have b3 := (Below.refl w2.heap.size w2).alloc (Nat.le_refl _) (.cells #[.pointer (some ⟨w.heap.size, 0, none⟩)] 62)
  have h3 := heap_alloc_new w2 (.cells #[.pointer (some ⟨w.heap.size, 0, none⟩)] 62)
  have z3 : (w2.alloc (.cells #[.pointer (some ⟨w.heap.size, 0, none⟩)] 62)).heap.size = w.heap.size + 1 + 1 + 1 := by simp [z2]
  generalize w2.alloc (.cells #[.pointer (some ⟨w.heap.size, 0, none⟩)] 62) = w3 at *
  rw [z1] at h2
  rw [z2] at h3
  have k2 : w3.heap[w.heap.size + 1]? = _ := (b3.block _ (by omega)).trans h2
  have k1 : w3.heap[w.heap.size]? = _ := (b3.block _ (by omega)).trans ((b2.block _ (by omega)).trans h1)
  refine ⟨⟨map0 w.heap.size, fun _ => .slice none 0 0, [w.heap.size], .slice (some ⟨w.heap.size + 1 + 1, 0, none⟩) 1 1, ⟨k2, ⟨rfl, .inr ⟨w.heap.size + 1 + 1, 1, _, rfl, by omega, h3, Nat.le_refl 1, by decide, rfl, rfl⟩⟩, fun b r hr => ?_, fun b c r s hb hc hne => ?_, fun b r _ g _ h => (by cases h), by omega⟩, ?_, rfl⟩, (b1.trans (b2.mono (by omega))).trans (b3.mono (by omega))⟩
  · unfold map0 at hr
    split at hr
    · rename_i hb
      cases hr
      subst hb
      exact ⟨k1, World.ownsRow_nil _ _ _ _, fun nb hn => (by cases hn), Nat.le_refl _⟩
    · cases hr
  · intro g hg
    cases hg
  · exact .root _ _ [] none _ (if_pos rfl) (.nil _ _ _ (by omega)) rfl

theorem root_count (l : List TTok) : ∃ n, n ≤ (stepsM l).count ∧ countL (buildM l) = n := by
  have h := counted_steps l
  refine ⟨_, ?_, rfl⟩
  have h1 := countS_popN ((stepsM l).stack.length - 1) (stepsM l).stack
  have h2 := popN_ne ((stepsM l).stack.length - 1) (stepsM l).stack h.2
  unfold buildM rootDone
  generalize popN ((stepsM l).stack.length - 1) (stepsM l).stack = s at *
  cases s with
  | nil => exact absurd rfl h2
  | cons f r =>
    have h3 : countL f.done + countS r + (r.length + 1) = countS (stepsM l).stack + (stepsM l).stack.length := h1
    have h4 := h.1
    show countL f.done ≤ _
    omega

theorem textSum_mem {l : List TTok} {t : TTok} (h : t ∈ l) : t.text.length ≤ textSum l := by
  induction l with
  | nil => cases h
  | cons x l ih =>
    have e : textSum (x :: l) = x.text.length + textSum l := rfl
    rcases List.mem_cons.1 h with rfl | h
    · omega
    · have := ih h; omega

set_option maxHeartbeats 4000000 in
set_option maxRecDepth 100000 in
theorem build_any (tv : Value) (l : List TTok) (w : World) (htab : Tabs w) (hv : TokView w tv l) (hok : BuildOk l) :
    Calls Tryz.prog 13 #[tv] w fun e w' => ∃ v, e = .returned (.tuple #[v, .int .i64 0]) ∧ NodeIn (fun g => w.heap.size ≤ g) 12 w' v (buildM l) ∧ Below w.heap.size w w' := by
  obtain ⟨a, cap, hform⟩ := hv.form
  subst hform
  have HV := Lib.hid hv
  have HT := Lib.hid htab
  have HOK := Lib.hid hok
  have hln := hok.len
  have hx : ¬ (300 : Int) < l.length := by omega
  clear hv htab hok
  go_enter Tryz.func13, Tryz.ntmps13
  go_upto_region 5 with fail
  obtain ⟨w1, hw1⟩ : ∃ w1, w1 = world0 w := ⟨_, rfl⟩
  change Code.wp _ _ _ _ (world0 w)
  obtain ⟨hi1, hi2⟩ := build_init w
  rw [← hw1] at hi1 hi2 ⊢
  have HI := Lib.hid hi1
  have HBL := Lib.hid hi2
  clear hw1 hi1 hi2
  go_wp2_with fail
  go_loopg [24] l.length (fun g i wx => ∃ (W : World) (j : Nat), W = wx ∧ i = .int .i64 j ∧ j + g = l.length ∧ Hid (BInv w.heap.size (w.heap.size + 1) w.heap.size wx (stepsM (l.take j))) ∧ Hid (Below w.heap.size w wx))
  case atStart => exact ⟨_, 0, rfl, rfl, by omega, HI, HBL⟩
  case round =>
    obtain ⟨wr, j, rfl, rfl, hj, hin, hbl⟩ := hrel
    by_cases hlt : j < l.length
    · obtain ⟨n, rfl⟩ : ∃ n, gk = n + 1 := ⟨gk - 1, by omega⟩
      obtain ⟨t, ht⟩ : ∃ t, l[j]? = some t := ⟨_, List.getElem?_eq_getElem hlt⟩
      obtain ⟨g0, capx, va, hv0, hc0, hm0, hg0, hat, hav⟩ := HV.out.get j t ht
      have hmem := List.mem_of_getElem? ht
      have hstep := stepsM_take l j t ht
      have hcnt := counted_steps (l.take j)
      have hc1 := stepsM_mono l j
      have hc2 := stepsM_mono l (j + 1)
      have hcl := HOK.out.count
      have hws := wordsS_steps l j
      rw [hstep] at hc2
      have cel := fun o => hbl.out.cell (p := ⟨g0, o, none⟩) (show g0 < w.heap.size from hg0)
      have q0 := (cel _).trans hat.kind
      have q1 := (cel _).trans hat.name
      have q2 := (cel _).trans hat.attrs
      have q3 := (cel _).trans hat.self
      have q4 := (cel _).trans hat.text
      have hOl : Older w wr := .of_below hbl.out
      have HAV := Lib.hid (hav.older hOl)
      obtain ⟨⟨aa, ca, hform⟩, -⟩ := id hav
      subst hform
      cases hv0
      have hz1 : (j : Int) < l.length := by omega
      have hz0 : (0 : Int) ≤ j := by omega
      have HSTEP := Lib.hid hstep
      have HMEM := Lib.hid hmem
      clear ht hat hav hmem hstep cel hOl
      go_upto_region 8 with fail
      obtain ⟨w2, hw2⟩ : ∃ w2, w2 = wr.alloc (.cells #[.int .i64 t.kind, .string (mk t.name), .slice aa t.attrs.length ca, .bool t.self, .string (mk t.text)] 70) := ⟨_, rfl⟩
      rw [← hw2]
      have hb2 : Below wr.heap.size wr w2 := by rw [hw2]; exact (Below.refl _ _).alloc (Nat.le_refl _) _
      have hbox : TokBox w2 wr.heap.size t (.slice aa t.attrs.length ca) := by rw [hw2]; exact heap_alloc_new _ _
      obtain ⟨H, pv, bs, sv, hbw, hst, hlast⟩ := hin.out
      have HBW := Lib.hid (hbw.older (.of_below hb2))
      have HST := Lib.hid (hst.mono hb2.size)
      have HB2 := Lib.hid (hbl.out.trans (hb2.mono hbl.out.size))
      have HAV2 := Lib.hid (HAV.out.older (.of_below hb2))
      have HBOX := Lib.hid hbox
      have HLA := Lib.hid hlast
      clear hw2 hb2 hbox hbw hst hlast hin hbl HAV q0 q1 q2 q3 q4
      generalize stepsM (l.take j) = st at *
      obtain ⟨fs, c, m⟩ := st
      obtain ⟨t0, t1, t2, t3, t4, tz⟩ := HBOX.out.cells
      have hkind := HOK.out.kinds t HMEM.out
      have hnm := HOK.out.names t HMEM.out
      have hatl := HOK.out.attrs t HMEM.out
      have htx := textSum_mem HMEM.out
      have htxs := HOK.out.texts
      have hlen : bs.length = fs.length := HST.out.len
      have hB10 := HT.out.size
      have hBz := HB2.out.size
      have hcl1 : countS fs + fs.length = c + 1 := hcnt.1
      have hcz : c ≤ 150 := by have h1 : c ≤ (stepsM l).count := hc1; omega
      have hbsl : bs.length ≤ 1000000 := by omega
      have HCNT := Lib.hid hcnt
      rcases hkind with hk | hk | hk | hk
      · have hs : stepM ⟨fs, c, m⟩ t = startM ⟨fs, c, m⟩ t := by unfold stepM; rw [if_pos hk]
        have HCALL := Lib.hid (start_any t (.slice aa t.attrs.length ca) HBW.out HST.out HLA.out hbsl (by omega) HAV2.out hatl (hnm hk) (HT.out.below HB2.out hB10) hB10 hBz
          (fun f hf => by have h1 : countS (startB (startA ⟨fs, c, m⟩ t) t) + (startB (startA ⟨fs, c, m⟩ t) t).length = c + 1 := (startAB_count t HCNT.out).1; have h2 := countS_mem (show f ∈ startB (startA ⟨fs, c, m⟩ t) t from hf); omega))
        rw [hs] at hc2 HSTEP
        rw [hk] at t0 HCALL
        clear hcnt hws hs hk hnm hlen
        unfold ptr at HCALL
        generalize startM ⟨fs, c, m⟩ t = st2 at *
        go_wp2_with fail
        refine HCALL.out.mono ?_
        rintro e w3 ⟨rfl, hin3, hb3⟩
        have HI3 := Lib.hid hin3
        obtain ⟨H3, pv3, bs3, sv3, hbw3, -, -⟩ := hin3
        have HB3 := Lib.hid (HB2.out.trans hb3)
        obtain ⟨-, -, e2, -, -, -⟩ := hbw3.cells
        have z1 : (st2.count : Int) ≤ 150 := by omega
        clear hb3 hbw3
        go_wp2_with fail
        go_roundg n
        case measure => omega
        case rel => exact ⟨_, j + 1, rfl, by go_num, by omega, by rw [HSTEP.out]; exact HI3, HB3⟩
      · have hs : stepM ⟨fs, c, m⟩ t = endM ⟨fs, c, m⟩ t := by unfold stepM; rw [if_neg (by omega), if_pos hk]
        have HF := Lib.hid (find_any t.name HBW.out HST.out hbsl)
        have HC := Lib.hid (closeAt_any HBW.out (findM_lt t.name HST.out) HST.out.pos)
        rw [hs] at hc2 HSTEP
        rw [hk] at t0
        clear hcnt hws hs hk hnm hlen
        unfold ptr at HF HC
        go_wp2_with fail
        refine HF.out.mono ?_
        rintro e w' ⟨rfl, hw⟩
        rw [← hw]
        clear hw
        go_wp2_with fail
        refine HC.out.mono ?_
        rintro e w3 ⟨rfl, sv', hb4, hbl4, hz4, hk4⟩
        have HBW4 := Lib.hid hb4
        have hbox4 := HBOX.out.keep (hk4 _ (type_ne HBOX.out HBW.out.blk (by decide)))
        obtain ⟨-, u1, -, -, -, -⟩ := hbox4.cells
        obtain ⟨-, -, e2, e3, -, -⟩ := hb4.cells
        have HS4 := Lib.hid (show Stk H none w3.heap.size (cutBs (findM t.name fs) bs) (closeM (findM t.name fs) fs) by rw [hz4]; exact HST.out.closeF t.name)
        have HB4 := Lib.hid (HB2.out.trans hbl4)
        have z1 : (c : Int) ≤ 150 := by omega
        have HLA4 := Lib.hid ((cutBs_last (findM t.name fs) bs).trans HLA.out)
        clear hb4 hbl4 hz4 hk4 hbox4 t0 t1 t2 t3 t4
        by_cases hm : t.name = m
        · have s1 : ((mk t.name).toList == (mk m).toList) = true := by rw [hm]; exact beq_self_eq_true _
          have s2 : (mk t.name).toList = (mk m).toList := by rw [hm]
          have HE := Lib.hid (show endM ⟨fs, c, m⟩ t = ⟨closeM (findM t.name fs) fs, c, []⟩ by unfold endM; rw [if_pos hm])
          clear hm
          go_wp2_with fail
          go_quiet (fail)
          have HBW5 := Lib.hid (HBW4.out.older (.of_below (below_drew w3 nq)))
          obtain ⟨-, -, -, -, f3, -⟩ := HBW5.out.cells
          have f33 := f3 3
          have HB6 := Lib.hid (HBW5.out.set3 [])
          obtain ⟨-, -, g2, -, -, -⟩ := HB6.out.cells
          have HB5 := Lib.hid ((HB4.out.trans ((below_drew w3 nq).mono HB4.out.size)).setCell (p := ⟨w.heap.size + 1, 3, none⟩) (by show w.heap.size ≤ w.heap.size + 1; omega) (.string (mk [])))
          clear f3
          have hm0 : mk [] = ⟨#[]⟩ := rfl
          rw [hm0] at HB6 g2 HB5
          go_wp2_with fail
          go_roundg n
          case measure => omega
          case rel => exact ⟨_, j + 1, rfl, by go_num, by omega, by rw [HSTEP.out, HE.out]; exact Lib.hid ⟨_, _, _, _, HB6.out, by simpa [World.setCell] using HS4.out, HLA4.out⟩, HB5⟩
        · have s1 : ((mk t.name).toList == (mk m).toList) = false := beq_eq_false_iff_ne.2 (by rw [toList_mk, toList_mk]; exact hm)
          have s2 : ¬ (mk t.name).toList = (mk m).toList := by rw [toList_mk, toList_mk]; exact hm
          have HE := Lib.hid (show endM ⟨fs, c, m⟩ t = ⟨closeM (findM t.name fs) fs, c, m⟩ by unfold endM; rw [if_neg hm])
          clear hm
          go_wp2_with fail
          go_quiet (fail)
          go_wp2_with fail
          go_roundg n
          case measure => omega
          case rel => exact ⟨_, j + 1, rfl, by go_num, by omega, by rw [HSTEP.out, HE.out]; exact Lib.hid ⟨_, _, _, _, HBW4.out.older (.of_below (below_drew w3 nq)), HS4.out, HLA4.out⟩, Lib.hid (HB4.out.trans ((below_drew w3 nq).mono HB4.out.size))⟩
      · have hs : stepM ⟨fs, c, m⟩ t = charsM ⟨fs, c, m⟩ t.text := by unfold stepM; rw [if_neg (by omega), if_neg (by omega), if_pos hk]
        rw [hs] at hc2 HSTEP
        rw [hk] at t0
        have hwz : (wordsS fs).length ≤ 1000000 := Nat.le_trans hws (by omega)
        have hpos := HST.out.pos
        cases fs with
        | nil => exact absurd rfl HCNT.out.2
        | cons f fs =>
          cases bs with
          | nil => simp at hpos
          | cons b bs =>
            have hfd : f.done.length ≤ 1000000 := by have := countS_mem (List.mem_cons_self (a := f) (l := fs)); omega
            have HCALL := Lib.hid (chars_any t.text HBW.out HST.out (by simp only [List.length_cons] at hbsl; omega) hfd (by omega) (by omega) hwz hBz)
            clear hcnt hws hs hk hnm hlen hwz hpos hfd
            unfold ptr at HCALL
            generalize charsM ⟨f :: fs, c, m⟩ t.text = st2 at *
            go_wp2_with fail
            refine HCALL.out.mono ?_
            rintro e w3 ⟨rfl, H3, pv3, hbw3, hst3, hb3⟩
            have HI3 := Lib.hid (show BInv w.heap.size (w.heap.size + 1) w.heap.size w3 st2 from ⟨H3, pv3, _, _, hbw3, hst3, HLA.out⟩)
            have HB3 := Lib.hid (HB2.out.trans hb3)
            obtain ⟨-, -, e2, -, -, -⟩ := hbw3.cells
            have z1 : (st2.count : Int) ≤ 150 := by omega
            clear hb3 hbw3 hst3
            go_wp2_with fail
            go_roundg n
            case measure => omega
            case rel => exact ⟨_, j + 1, rfl, by go_num, by omega, by rw [HSTEP.out]; exact HI3, HB3⟩
      · have hs : stepM ⟨fs, c, m⟩ t = ⟨fs, c, m⟩ := by unfold stepM; rw [if_neg (by omega), if_neg (by omega), if_neg (by omega)]
        rw [hs] at HSTEP
        rw [hk] at t0
        obtain ⟨-, -, e2, -, -, -⟩ := HBW.out.cells
        have z1 : (c : Int) ≤ 150 := by omega
        clear hcnt hws hs hk hnm hlen
        go_wp2_with fail
        go_roundg n
        case measure => omega
        case rel => exact ⟨_, j + 1, rfl, by go_num, by omega, by rw [HSTEP.out]; exact Lib.hid ⟨H, pv, bs, sv, HBW.out, HST.out, HLA.out⟩, HB2⟩
    · obtain rfl : j = l.length := by omega
      obtain ⟨H, pv, bs, sv, hbw, hst, hlast⟩ := hin.out
      rw [stepsM_all] at hbw hst
      obtain ⟨r, hr, hk⟩ := stk_root hst hlast
      have hdp := Go.Proofs.YtjkgmdnkejjppaaGreatDoor.deep_law l HOK.out.names
      have hcb : countL (buildM l) ≤ 1000000 := by
        obtain ⟨n, h1, h2⟩ := root_count l
        have := HOK.out.count
        omega
      have HCALL := Lib.hid (nodes_any 11 wr hbw w.heap.size r (buildM l) _ hr hk hdp.1 hcb)
      have c0 := hbw.cells.1
      unfold ptr at HCALL c0
      clear hin hbw hst hlast hr hk hdp hcb
      go_wp2_with fail
      refine HCALL.out.mono ?_
      rintro e w2 ⟨v, rfl, hv2, hb2⟩
      have HV2 := Lib.hid hv2
      have HB2 := Lib.hid (hbl.out.trans (hb2.mono hbl.out.size))
      have hz := hbl.out.size
      clear hv2 hb2
      go_wp2_with fail
      refine bodyPost_ret (v := .tuple #[v, .int .i64 0]) (by simp [results, Tryz.results13, go_sem]) rfl ?_
      exact ⟨v, rfl, HV2.out.stay (fun _ _ _ => rfl) fun g _ hp _ => ⟨by have hp' : wr.heap.size ≤ g := hp; omega, rfl⟩, HB2.out⟩

end Go.Proofs.YtjkgmdnkejjppaaGreatDoor
