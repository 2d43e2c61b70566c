/- Joined texts: TWalkF TKeepA KeepA TKeepB. -/
import Derived.Test.YtemomhanchiipaaGreatDoorGj
import Derived.Test.YtemomhanchiipaaGreatDoorGb
import Derived.Test.YtemomhanchiipaaGreatDoorGg
import Derived.Test.YtemomhanchiipaaGreatDoorGa
/- Walk of tree.Build. -/
namespace Go.Proofs.YtemomhanchiipaaGreatDoor
open Go Go.RowKit

/-- The builder as it is laid at first. -/
def world0 (w : World) : World := ((w.alloc (.cells #[.pointer none, .slice none 0 0, .string ⟨#[]⟩, .bool false] 78)).alloc (.cells #[.pointer (some ⟨w.heap.size, 0, none⟩), .slice (some ⟨w.heap.size + 1 + 1, 0, none⟩) 1 1, .int .i64 0, .string ⟨#[]⟩] 80)).alloc
  (.cells #[.pointer (some ⟨w.heap.size, 0, none⟩)] 74)
def map0 (root : Nat) : OMap := fun x => if x = root then some ⟨none, [], [], [], []⟩ else none
theorem build_init (w : World) : BInv w.heap.size (w.heap.size + 1) w.heap.size (world0 w) initM ∧ Below w.heap.size w (world0 w) := by
  have b1 := (Below.refl w.heap.size w).alloc (Nat.le_refl _) (.cells #[.pointer none, .slice none 0 0, .string ⟨#[]⟩, .bool false] 78)
  have h1 := heap_alloc_new w (.cells #[.pointer none, .slice none 0 0, .string ⟨#[]⟩, .bool false] 78)
  have z1 : (w.alloc (.cells #[.pointer none, .slice none 0 0, .string ⟨#[]⟩, .bool false] 78)).heap.size = w.heap.size + 1 := by simp
  unfold world0
  generalize w.alloc (.cells #[.pointer none, .slice none 0 0, .string ⟨#[]⟩, .bool false] 78) = w1 at *
  have b2 := (Below.refl w1.heap.size w1).alloc (Nat.le_refl _) (.cells #[.pointer (some ⟨w.heap.size, 0, none⟩), .slice (some ⟨w.heap.size + 1 + 1, 0, none⟩) 1 1, .int .i64 0, .string ⟨#[]⟩] 80)
  have h2 := heap_alloc_new w1 (.cells #[.pointer (some ⟨w.heap.size, 0, none⟩), .slice (some ⟨w.heap.size + 1 + 1, 0, none⟩) 1 1, .int .i64 0, .string ⟨#[]⟩] 80)
  have z2 : (w1.alloc (.cells #[.pointer (some ⟨w.heap.size, 0, none⟩), .slice (some ⟨w.heap.size + 1 + 1, 0, none⟩) 1 1, .int .i64 0, .string ⟨#[]⟩] 80)).heap.size = w.heap.size + 1 + 1 := by simp [z1]
  generalize w1.alloc (.cells #[.pointer (some ⟨w.heap.size, 0, none⟩), .slice (some ⟨w.heap.size + 1 + 1, 0, none⟩) 1 1, .int .i64 0, .string ⟨#[]⟩] 80) = w2 at *
  have b3 := (Below.refl w2.heap.size w2).alloc (Nat.le_refl _) (.cells #[.pointer (some ⟨w.heap.size, 0, none⟩)] 74)
  have h3 := heap_alloc_new w2 (.cells #[.pointer (some ⟨w.heap.size, 0, none⟩)] 74)
  have z3 : (w2.alloc (.cells #[.pointer (some ⟨w.heap.size, 0, none⟩)] 74)).heap.size = w.heap.size + 1 + 1 + 1 := by simp [z2]
  generalize w2.alloc (.cells #[.pointer (some ⟨w.heap.size, 0, none⟩)] 74) = w3 at *
  rw [z1] at h2
  rw [z2] at h3
  have k2 : w3.heap[w.heap.size + 1]? = _ := (b3.block _ (by omega)).trans h2
  have k1 : w3.heap[w.heap.size]? = _ := (b3.block _ (by omega)).trans ((b2.block _ (by omega)).trans h1)
  refine ⟨⟨map0 w.heap.size, fun _ => .slice none 0 0, [w.heap.size], .slice (some ⟨w.heap.size + 1 + 1, 0, none⟩) 1 1, ⟨k2, ⟨rfl, .inr ⟨w.heap.size + 1 + 1, 1, _, rfl, by omega, h3, Nat.le_refl 1, by decide, rfl, rfl⟩⟩, fun b r hr => ?_, fun b c r s hb hc hne => ?_, fun b r _ g _ h => (by cases h), by omega⟩, ?_, rfl⟩, (b1.trans (b2.mono (by omega))).trans (b3.mono (by omega))⟩
  · unfold map0 at hr
    split at hr
    · rename_i hb
      cases hr
      subst hb
      exact ⟨k1, World.ownsRow_nil _ _ _ _, fun nb hn => (by cases hn), Nat.le_refl _⟩
    · cases hr
  · intro g hg
    cases hg
  · exact .root _ _ [] none _ (if_pos rfl) (.nil _ _ _ (by omega)) rfl

theorem root_count (l : List TTok) : ∃ n, n ≤ (stepsM l).count ∧ countL (buildM l) = n := by
  have h := counted_steps l
  refine ⟨_, ?_, rfl⟩
  have h1 := countS_popN ((stepsM l).stack.length - 1) (stepsM l).stack
  have h2 := popN_ne ((stepsM l).stack.length - 1) (stepsM l).stack h.2
  unfold buildM rootDone
  generalize popN ((stepsM l).stack.length - 1) (stepsM l).stack = s at *
  cases s with
  | nil => exact absurd rfl h2
  | cons f r =>
    have h3 : countL f.done + countS r + (r.length + 1) = countS (stepsM l).stack + (stepsM l).stack.length := h1
    have h4 := h.1
    show countL f.done ≤ _
    omega

theorem textSum_mem {l : List TTok} {t : TTok} (h : t ∈ l) : t.text.length ≤ textSum l := by
  induction l with
  | nil => cases h
  | cons x l ih =>
    have e : textSum (x :: l) = x.text.length + textSum l := rfl
    rcases List.mem_cons.1 h with rfl | h
    · omega
    · have := ih h; omega

set_option maxHeartbeats 4000000 in
set_option maxRecDepth 100000 in
theorem build_any (tv : Value) (l : List TTok) (w : World) (htab : Tabs w) (hv : TokView w tv l) (hok : BuildOk l) :
    Calls Tryz.prog 14 #[tv] w fun e w' => ∃ v, e = .returned (.tuple #[v, .int .i64 0]) ∧ NodeIn (fun g => w.heap.size ≤ g) 12 w' v (buildM l) ∧ Below w.heap.size w w' := by
  obtain ⟨a, cap, hform⟩ := hv.form
  subst hform
  have HV := Lib.hid hv
  have HT := Lib.hid htab
  have HOK := Lib.hid hok
  have hln := hok.len
  have hx : ¬ (300 : Int) < l.length := by omega
  clear hv htab hok
  go_enter Tryz.func14, Tryz.ntmps14
  go_upto_region 5 with fail
  obtain ⟨w1, hw1⟩ : ∃ w1, w1 = world0 w := ⟨_, rfl⟩
  change Code.wp _ _ _ _ (world0 w)
  obtain ⟨hi1, hi2⟩ := build_init w
  rw [← hw1] at hi1 hi2 ⊢
  have HI := Lib.hid hi1
  have HBL := Lib.hid hi2
  clear hw1 hi1 hi2
  go_wp2_with fail
  go_loopg [24] l.length (fun g i wx => ∃ (W : World) (j : Nat), W = wx ∧ i = .int .i64 j ∧ j + g = l.length ∧ Hid (BInv w.heap.size (w.heap.size + 1) w.heap.size wx (stepsM (l.take j))) ∧ Hid (Below w.heap.size w wx))
  case atStart => exact ⟨_, 0, rfl, rfl, by omega, HI, HBL⟩
  case round =>
    obtain ⟨wr, j, rfl, rfl, hj, hin, hbl⟩ := hrel
    by_cases hlt : j < l.length
    · obtain ⟨n, rfl⟩ : ∃ n, gk = n + 1 := ⟨gk - 1, by omega⟩
      obtain ⟨t, ht⟩ : ∃ t, l[j]? = some t := ⟨_, List.getElem?_eq_getElem hlt⟩
      obtain ⟨g0, capx, va, hv0, hc0, hm0, hg0, hat, hav⟩ := HV.out.get j t ht
      have hmem := List.mem_of_getElem? ht
      have hstep := stepsM_take l j t ht
      have hcnt := counted_steps (l.take j)
      have hc1 := stepsM_mono l j
      have hc2 := stepsM_mono l (j + 1)
      have hcl := HOK.out.count
      have hws := wordsS_steps l j
      rw [hstep] at hc2
      have cel := fun o => hbl.out.cell (p := ⟨g0, o, none⟩) (show g0 < w.heap.size from hg0)
      have q0 := (cel _).trans hat.kind
      have q1 := (cel _).trans hat.name
      have q2 := (cel _).trans hat.attrs
      have q3 := (cel _).trans hat.self
      have q4 := (cel _).trans hat.text
      have hOl : Older w wr := .of_below hbl.out
      have HAV := Lib.hid (hav.older hOl)
      obtain ⟨⟨aa, ca, hform⟩, -⟩ := id hav
      subst hform
      cases hv0
      have hz1 : (j : Int) < l.length := by omega
      have hz0 : (0 : Int) ≤ j := by omega
      have HSTEP := Lib.hid hstep
      have HMEM := Lib.hid hmem
      clear ht hat hav hmem hstep cel hOl
      go_upto_region 8 with fail
      obtain ⟨w2, hw2⟩ : ∃ w2, w2 = wr.alloc (.cells #[.int .i64 t.kind, .string (mk t.name), .slice aa t.attrs.length ca, .bool t.self, .string (mk t.text)] 42) := ⟨_, rfl⟩
      rw [← hw2]
      have hb2 : Below wr.heap.size wr w2 := by rw [hw2]; exact (Below.refl _ _).alloc (Nat.le_refl _) _
      have hbox : TokBox w2 wr.heap.size t (.slice aa t.attrs.length ca) := by rw [hw2]; exact heap_alloc_new _ _
      obtain ⟨H, pv, bs, sv, hbw, hst, hlast⟩ := hin.out
      have HBW := Lib.hid (hbw.older (.of_below hb2))
      have HST := Lib.hid (hst.mono hb2.size)
      have HB2 := Lib.hid (hbl.out.trans (hb2.mono hbl.out.size))
      have HAV2 := Lib.hid (HAV.out.older (.of_below hb2))
      have HBOX := Lib.hid hbox
      have HLA := Lib.hid hlast
      clear hw2 hb2 hbox hbw hst hlast hin hbl HAV q0 q1 q2 q3 q4
      generalize stepsM (l.take j) = st at *
      obtain ⟨fs, c, m⟩ := st
      obtain ⟨t0, t1, t2, t3, t4, tz⟩ := HBOX.out.cells
      have hkind := HOK.out.kinds t HMEM.out
      have hnm := HOK.out.names t HMEM.out
      have hatl := HOK.out.attrs t HMEM.out
      have htx := textSum_mem HMEM.out
      have htxs := HOK.out.texts
      have hlen : bs.length = fs.length := HST.out.len
      have hB10 := HT.out.size
      have hBz := HB2.out.size
      have hcl1 : countS fs + fs.length = c + 1 := hcnt.1
      have hcz : c ≤ 150 := by have h1 : c ≤ (stepsM l).count := hc1; omega
      have hbsl : bs.length ≤ 1000000 := by omega
      have HCNT := Lib.hid hcnt
      rcases hkind with hk | hk | hk | hk
      · have hs : stepM ⟨fs, c, m⟩ t = startM ⟨fs, c, m⟩ t := by unfold stepM; rw [if_pos hk]
        have HCALL := Lib.hid (start_any t (.slice aa t.attrs.length ca) HBW.out HST.out HLA.out hbsl (by omega) HAV2.out hatl (hnm hk) (HT.out.below HB2.out hB10) hB10 hBz
          (fun f hf => by have h1 : countS (startB (startA ⟨fs, c, m⟩ t) t) + (startB (startA ⟨fs, c, m⟩ t) t).length = c + 1 := (startAB_count t HCNT.out).1; have h2 := countS_mem (show f ∈ startB (startA ⟨fs, c, m⟩ t) t from hf); omega))
        rw [hs] at hc2 HSTEP
        rw [hk] at t0 HCALL
        clear hcnt hws hs hk hnm hlen
        unfold ptr at HCALL
        generalize startM ⟨fs, c, m⟩ t = st2 at *
        go_wp2_with fail
        refine HCALL.out.mono ?_
        rintro e w3 ⟨rfl, hin3, hb3⟩
        have HI3 := Lib.hid hin3
        obtain ⟨H3, pv3, bs3, sv3, hbw3, -, -⟩ := hin3
        have HB3 := Lib.hid (HB2.out.trans hb3)
        obtain ⟨-, -, e2, -, -, -⟩ := hbw3.cells
        have z1 : (st2.count : Int) ≤ 150 := by omega
        clear hb3 hbw3
        go_wp2_with fail
        go_roundg n
        case measure => omega
        case rel => exact ⟨_, j + 1, rfl, by go_num, by omega, by rw [HSTEP.out]; exact HI3, HB3⟩
      · have hs : stepM ⟨fs, c, m⟩ t = endM ⟨fs, c, m⟩ t := by unfold stepM; rw [if_neg (by omega), if_pos hk]
        have HF := Lib.hid (find_any t.name HBW.out HST.out hbsl)
        have HC := Lib.hid (closeAt_any HBW.out (findM_lt t.name HST.out) HST.out.pos)
        rw [hs] at hc2 HSTEP
        rw [hk] at t0
        clear hcnt hws hs hk hnm hlen
        unfold ptr at HF HC
        go_wp2_with fail
        refine HF.out.mono ?_
        rintro e w' ⟨rfl, hw⟩
        rw [← hw]
        clear hw
        go_wp2_with fail
        refine HC.out.mono ?_
        rintro e w3 ⟨rfl, sv', hb4, hbl4, hz4, hk4⟩
        have HBW4 := Lib.hid hb4
        have hbox4 := HBOX.out.keep (hk4 _ (type_ne HBOX.out HBW.out.blk (by decide)))
        obtain ⟨-, u1, -, -, -, -⟩ := hbox4.cells
        obtain ⟨-, -, e2, e3, -, -⟩ := hb4.cells
        have HS4 := Lib.hid (show Stk H none w3.heap.size (cutBs (findM t.name fs) bs) (closeM (findM t.name fs) fs) by rw [hz4]; exact HST.out.closeF t.name)
        have HB4 := Lib.hid (HB2.out.trans hbl4)
        have z1 : (c : Int) ≤ 150 := by omega
        have HLA4 := Lib.hid ((cutBs_last (findM t.name fs) bs).trans HLA.out)
        clear hb4 hbl4 hz4 hk4 hbox4 t0 t1 t2 t3 t4
        by_cases hm : t.name = m
        · have s1 : ((mk t.name).toList == (mk m).toList) = true := by rw [hm]; exact beq_self_eq_true _
          have s2 : (mk t.name).toList = (mk m).toList := by rw [hm]
          have HE := Lib.hid (show endM ⟨fs, c, m⟩ t = ⟨closeM (findM t.name fs) fs, c, []⟩ by unfold endM; rw [if_pos hm])
          clear hm
          go_wp2_with fail
          go_quiet (fail)
          have HBW5 := Lib.hid (HBW4.out.older (.of_below (below_drew w3 nq)))
          obtain ⟨-, -, -, -, f3, -⟩ := HBW5.out.cells
          have f33 := f3 3
          have HB6 := Lib.hid (HBW5.out.set3 [])
          obtain ⟨-, -, g2, -, -, -⟩ := HB6.out.cells
          have HB5 := Lib.hid ((HB4.out.trans ((below_drew w3 nq).mono HB4.out.size)).setCell (p := ⟨w.heap.size + 1, 3, none⟩) (by show w.heap.size ≤ w.heap.size + 1; omega) (.string (mk [])))
          clear f3
          have hm0 : mk [] = ⟨#[]⟩ := rfl
          rw [hm0] at HB6 g2 HB5
          go_wp2_with fail
          go_roundg n
          case measure => omega
          case rel => exact ⟨_, j + 1, rfl, by go_num, by omega, by rw [HSTEP.out, HE.out]; exact Lib.hid ⟨_, _, _, _, HB6.out, by simpa [World.setCell] using HS4.out, HLA4.out⟩, HB5⟩
        · have s1 : ((mk t.name).toList == (mk m).toList) = false := beq_eq_false_iff_ne.2 (by rw [toList_mk, toList_mk]; exact hm)
          have s2 : ¬ (mk t.name).toList = (mk m).toList := by rw [toList_mk, toList_mk]; exact hm
          have HE := Lib.hid (show endM ⟨fs, c, m⟩ t = ⟨closeM (findM t.name fs) fs, c, m⟩ by unfold endM; rw [if_neg hm])
          clear hm
          go_wp2_with fail
          go_quiet (fail)
          go_wp2_with fail
          go_roundg n
          case measure => omega
          case rel => exact ⟨_, j + 1, rfl, by go_num, by omega, by rw [HSTEP.out, HE.out]; exact Lib.hid ⟨_, _, _, _, HBW4.out.older (.of_below (below_drew w3 nq)), HS4.out, HLA4.out⟩, Lib.hid (HB4.out.trans ((below_drew w3 nq).mono HB4.out.size))⟩
      · have hs : stepM ⟨fs, c, m⟩ t = charsM ⟨fs, c, m⟩ t.text := by unfold stepM; rw [if_neg (by omega), if_neg (by omega), if_pos hk]
        rw [hs] at hc2 HSTEP
        rw [hk] at t0
        have hwz : (wordsS fs).length ≤ 1000000 := Nat.le_trans hws (by omega)
        have hpos := HST.out.pos
        cases fs with
        | nil => exact absurd rfl HCNT.out.2
        | cons f fs =>
          cases bs with
          | nil => simp at hpos
          | cons b bs =>
            have hfd : f.done.length ≤ 1000000 := by have := countS_mem (List.mem_cons_self (a := f) (l := fs)); omega
            have HCALL := Lib.hid (chars_any t.text HBW.out HST.out (by simp only [List.length_cons] at hbsl; omega) hfd (by omega) (by omega) hwz hBz)
            clear hcnt hws hs hk hnm hlen hwz hpos hfd
            unfold ptr at HCALL
            generalize charsM ⟨f :: fs, c, m⟩ t.text = st2 at *
            go_wp2_with fail
            refine HCALL.out.mono ?_
            rintro e w3 ⟨rfl, H3, pv3, hbw3, hst3, hb3⟩
            have HI3 := Lib.hid (show BInv w.heap.size (w.heap.size + 1) w.heap.size w3 st2 from ⟨H3, pv3, _, _, hbw3, hst3, HLA.out⟩)
            have HB3 := Lib.hid (HB2.out.trans hb3)
            obtain ⟨-, -, e2, -, -, -⟩ := hbw3.cells
            have z1 : (st2.count : Int) ≤ 150 := by omega
            clear hb3 hbw3 hst3
            go_wp2_with fail
            go_roundg n
            case measure => omega
            case rel => exact ⟨_, j + 1, rfl, by go_num, by omega, by rw [HSTEP.out]; exact HI3, HB3⟩
      · have hs : stepM ⟨fs, c, m⟩ t = ⟨fs, c, m⟩ := by unfold stepM; rw [if_neg (by omega), if_neg (by omega), if_neg (by omega)]
        rw [hs] at HSTEP
        rw [hk] at t0
        obtain ⟨-, -, e2, -, -, -⟩ := HBW.out.cells
        have z1 : (c : Int) ≤ 150 := by omega
        clear hcnt hws hs hk hnm hlen
        go_wp2_with fail
        go_roundg n
        case measure => omega
        case rel => exact ⟨_, j + 1, rfl, by go_num, by omega, by rw [HSTEP.out]; exact Lib.hid ⟨H, pv, bs, sv, HBW.out, HST.out, HLA.out⟩, HB2⟩
    · obtain rfl : j = l.length := by omega
      obtain ⟨H, pv, bs, sv, hbw, hst, hlast⟩ := hin.out
      rw [stepsM_all] at hbw hst
      obtain ⟨r, hr, hk⟩ := stk_root hst hlast
      have hdp := Go.Proofs.YtemomhanchiipaaGreatDoor.deep_law l HOK.out.names
      have hcb : countL (buildM l) ≤ 1000000 := by
        obtain ⟨n, h1, h2⟩ := root_count l
        have := HOK.out.count
        omega
      have HCALL := Lib.hid (nodes_any 11 wr hbw w.heap.size r (buildM l) _ hr hk hdp.1 hcb)
      have c0 := hbw.cells.1
      unfold ptr at HCALL c0
      clear hin hbw hst hlast hr hk hdp hcb
      go_wp2_with fail
      refine HCALL.out.mono ?_
      rintro e w2 ⟨v, rfl, hv2, hb2⟩
      have HV2 := Lib.hid hv2
      have HB2 := Lib.hid (hbl.out.trans (hb2.mono hbl.out.size))
      have hz := hbl.out.size
      clear hv2 hb2
      go_wp2_with fail
      refine bodyPost_ret (v := .tuple #[v, .int .i64 0]) (by simp [results, Tryz.results14, go_sem]) rfl ?_
      exact ⟨v, rfl, HV2.out.stay (fun _ _ _ => rfl) fun g _ hp _ => ⟨by have hp' : wr.heap.size ≤ g := hp; omega, rfl⟩, HB2.out⟩

end Go.Proofs.YtemomhanchiipaaGreatDoor
/- Walks of the keep's readers of trees: words, closedTree, apartTexts; tree.Count. -/
namespace Go.Proofs.YtemomhanchiipaaGreatDoor
open Go Go.RowKit

set_option maxHeartbeats 1000000 in
set_option maxRecDepth 100000 in
theorem words_any : ∀ (d : Nat) (v : Value) (l : List TNode) (w : World), NodeView d w v l → countL l ≤ 1000000 → (wordsL l).length ≤ 1000000 →
    Calls Tryz.prog 28 #[v] w fun e w' => e = .returned (.string (mk (wordsL l))) ∧ ∃ n, w' = w.drewN n := by
  intro d
  induction d using Nat.strongRecOn with
  | _ d ih =>
  intro v l w hv hct hwl
  obtain ⟨a, cap, rfl⟩ := hv.form
  have hln := Nat.le_trans (len_countL l) hct
  have HIH := Lib.hid ih
  have HV := Lib.hid hv
  have HCT := Lib.hid hct
  have HWL := Lib.hid hwl
  clear ih hv hct hwl
  go_enter Tryz.func28, Tryz.ntmps28
  go_wp2_with fail
  go_loopw [3, 4] (fun s i wr => ∃ (W : World) (k : Nat), W = wr ∧ k ≤ l.length ∧ i = .int .i64 k ∧ s = .string (mk (wordsL (l.take k))) ∧ Hid (∃ n, W = w.drewN n)) (fun _ i _ => l.length - (intOf i).toNat)
  case atStart => exact ⟨_, 0, rfl, by omega, rfl, rfl, Lib.hid ⟨0, rfl⟩⟩
  case round =>
    obtain ⟨W, k, rfl, hk, rfl, rfl, hW⟩ := hrel
    by_cases hlt : k < l.length
    · obtain ⟨t, ht⟩ : ∃ t, l[k]? = some t := ⟨_, List.getElem?_eq_getElem hlt⟩
      have hOl : Older w W := by obtain ⟨n, hn⟩ := hW.out; rw [hn]; exact ⟨Nat.le_refl _, fun _ _ => rfl⟩
      obtain ⟨d', hd', g, c, av, pv, hf, hc1, hc2, hg, hat, hav, hpv⟩ := (HV.out.older hOl).get k t ht
      obtain rfl : a = some ⟨g, 0, none⟩ := by simp at hf; exact hf.1
      obtain ⟨a1, a2, a3, a4⟩ := hat
      obtain ⟨pa, pc, hpf⟩ := hpv.form
      subst hpf
      have h1 := wordsL_take l k t ht
      have h2 := wordsL_take_len l (k + 1)
      have h3 := countN_mem (List.mem_of_getElem? ht)
      rw [countN_of] at h3
      rw [h1, List.length_append, List.length_append] at h2
      have hwz := HWL.out
      have HCALL := Lib.hid (fun n => HIH.out d' (by omega) _ t.parts (W.drewN n) (hpv.older ⟨Nat.le_refl _, fun _ _ => rfl⟩) (by have := HCT.out; omega) (by omega))
      have HTK := Lib.hid h1
      generalize wordsL (l.take k) = D at *
      generalize wordsL t.parts = R at *
      have z1 : (mk D).size ≤ 1000000 := by rw [mk_size]; omega
      have z2 : (mk R).size ≤ 1000000 := by rw [mk_size]; omega
      have z3 : (mk t.text).size ≤ 1000000 := by rw [mk_size]; omega
      have k0 : (0 : Int) ≤ k := by omega
      have k1 : (k : Int) < l.length := by omega
      clear hf hpv hav ht h1 h3 hOl hwz
      go_wp2_with fail
      go_quiet ((go_at_call 28; exact qd (HCALL.out _)))
      have hW2 := Lib.hid (show ∃ n, W.drewN nq = w.drewN n by obtain ⟨n, hn⟩ := hW.out; exact ⟨n + nq, by rw [hn, World.drewN_drewN]⟩)
      go_wp2_with fail
      go_roundw
      case rel => exact ⟨_, k + 1, rfl, by omega, by go_num, by rw [HTK.out, ← cat_mk, ← cat_mk], hW2⟩
      case measure => simp [intOf]; omega
    · obtain rfl : k = l.length := by omega
      rw [List.take_length]
      go_wp2_with fail
      go_ret
      exact ⟨rfl, hW.out⟩

set_option maxHeartbeats 2000000 in
set_option maxRecDepth 100000 in
theorem count_any : ∀ (d : Nat) (v : Value) (l : List TNode) (w : World), NodeView d w v l → countL l ≤ 1000000 → deepL l ≤ 1000000 →
    Calls Tryz.prog 54 #[v] w fun e w' => e = .returned (.tuple #[.int .i64 (countL l), .int .i64 (deepL l)]) ∧ Below w.heap.size w w' := by
  intro d
  induction d using Nat.strongRecOn with
  | _ d ih =>
  intro v l w hv hct hdp
  obtain ⟨a, cap, rfl⟩ := hv.form
  have hln := Nat.le_trans (len_countL l) hct
  have HIH := Lib.hid ih
  have HV := Lib.hid hv
  have HCT := Lib.hid hct
  have HDP := Lib.hid hdp
  clear ih hv hct hdp
  go_enter Tryz.func54, Tryz.ntmps54
  go_wp2_with fail
  go_loopw [2, 3, 10] (fun x y i wr => ∃ (W : World) (k : Nat), W = wr ∧ k ≤ l.length ∧ i = .int .i64 k ∧ x = .int .i64 (countL (l.take k)) ∧ y = .int .i64 (deepL (l.take k)) ∧ Hid (Below w.heap.size w W)) (fun _ _ i _ => l.length - (intOf i).toNat)
  case atStart => exact ⟨_, 0, rfl, by omega, rfl, by rw [List.take_zero, countL]; rfl, by rw [List.take_zero, deepL]; rfl, Lib.hid (Below.refl _ _)⟩
  case round =>
    obtain ⟨W, k, rfl, hk, rfl, rfl, rfl, hW⟩ := hrel
    by_cases hlt : k < l.length
    · obtain ⟨t, ht⟩ : ∃ t, l[k]? = some t := ⟨_, List.getElem?_eq_getElem hlt⟩
      obtain ⟨d', hd', g, c, av, pv, hf, hc1, hc2, hg, hat, hav, hpv⟩ := (HV.out.older (.of_below hW.out)).get k t ht
      obtain rfl : a = some ⟨g, 0, none⟩ := by simp at hf; exact hf.1
      obtain ⟨a1, a2, a3, a4⟩ := hat
      obtain ⟨pa, pc, hpf⟩ := hpv.form
      subst hpf
      obtain ⟨⟨aa, ac, haf⟩, -⟩ := id hav
      subst haf
      have h1 := countL_take l k t ht
      have h2 := countL_take_le l (k + 1)
      have h3 := deepL_take l k t ht
      have h4 := deepL_take_le l (k + 1)
      have hc0 := HCT.out
      have hd0 := HDP.out
      obtain ⟨w1, hw1⟩ : ∃ w1, w1 = W.alloc (.cells #[.string (mk t.name), .slice aa t.attrs.length ac, .string (mk t.text), .slice pa t.parts.length pc] 35) := ⟨_, rfl⟩
      have hb1 : Below W.heap.size W w1 := by rw [hw1]; exact (Below.refl _ _).alloc (Nat.le_refl _) _
      have hN1 : w1.heap[W.heap.size]? = some (.cells #[.string (mk t.name), .slice aa t.attrs.length ac, .string (mk t.text), .slice pa t.parts.length pc] 35 (0, 0)) := by rw [hw1]; exact heap_alloc_new _ _
      have m3 : w1.cell? ⟨W.heap.size, 3, none⟩ = some (.slice pa t.parts.length pc) := by rw [Lib.cell_of_heap hN1]; rfl
      have HCALL := Lib.hid (HIH.out d' (by omega) _ t.parts w1 (hpv.older (.of_below hb1)) (by omega) (by omega))
      have HB1 := Lib.hid (hW.out.trans (hb1.mono hW.out.size))
      have HW1 := Lib.hid hw1
      have hm : max (deepL (l.take k) : Int) ((deepL t.parts : Int) + 1) = (deepL (l.take (k + 1)) : Int) := by rw [h3]; omega
      have hs : (countL (l.take k) : Int) + ((countL t.parts : Int) + 1) = (countL (l.take (k + 1)) : Int) := by rw [h1]; omega
      have HM := Lib.hid hm
      have HS := Lib.hid hs
      rw [h1] at h2
      rw [h3] at h4
      have y1 : countL (l.take k) ≤ 1000000 := by omega
      have y2 : countL t.parts ≤ 1000000 := by omega
      have y3 : deepL (l.take k) ≤ 1000000 := by omega
      have y4 : deepL t.parts ≤ 1000000 := by omega
      have k0 : (0 : Int) ≤ k := by omega
      have k1 : (k : Int) < l.length := by omega
      clear hf hpv hav ht h1 h2 h3 h4 hc0 hd0 hb1 hN1 hw1 hm hs
      generalize countL (l.take k) = x at *
      generalize countL t.parts = x' at *
      generalize deepL (l.take k) = y at *
      generalize deepL t.parts = y' at *
      go_upto_region 4 with fail
      rw [← HW1.out]
      go_wp2_with fail
      refine HCALL.out.mono ?_
      rintro e w2 ⟨rfl, hb2⟩
      have HB2 := Lib.hid (HB1.out.trans (hb2.mono HB1.out.size))
      clear hb2 m3
      go_wp2_with fail
      go_roundw
      case rel => exact ⟨_, k + 1, rfl, by omega, by go_num, by rw [← HS.out], by rw [← HM.out], HB2⟩
      case measure => simp [intOf]; omega
    · obtain rfl : k = l.length := by omega
      rw [List.take_length]
      go_wp2_with fail
      exact bodyPost_ret (v := .tuple #[.int .i64 (countL l), .int .i64 (deepL l)]) (by simp [results, Tryz.results54, go_sem]) rfl ⟨rfl, hW.out⟩

set_option maxHeartbeats 2000000 in
set_option maxRecDepth 100000 in
theorem apart_any : ∀ (d : Nat) (v : Value) (l : List TNode) (w : World), NodeView d w v l → countL l ≤ 1000000 → apartL false l = true →
    Calls Tryz.prog 26 #[v] w fun e w' => e = .returned (.bool true) ∧ w = w' := by
  intro d
  induction d using Nat.strongRecOn with
  | _ d ih =>
  intro v l w hv hct hcl
  obtain ⟨a, cap, rfl⟩ := hv.form
  have hln := Nat.le_trans (len_countL l) hct
  have HIH := Lib.hid ih
  have HV := Lib.hid hv
  have HCT := Lib.hid hct
  have HCL := Lib.hid hcl
  clear ih hv hct hcl
  go_enter Tryz.func26, Tryz.ntmps26
  go_wp2_with fail
  go_loop [3] (fun i => ∃ k : Nat, k ≤ l.length ∧ i = .int .i64 k) (fun i => l.length - (intOf i).toNat)
  case atStart => exact ⟨0, by omega, rfl⟩
  case round =>
    obtain ⟨k, hk, rfl⟩ := hrel
    by_cases hlt : k < l.length
    · obtain ⟨t, ht⟩ : ∃ t, l[k]? = some t := ⟨_, List.getElem?_eq_getElem hlt⟩
      obtain ⟨d', hd', g, c, av, pv, hf, hc1, hc2, hg, hat, hav, hpv⟩ := HV.out.get k t ht
      obtain rfl : a = some ⟨g, 0, none⟩ := by simp at hf; exact hf.1
      obtain ⟨a1, a2, a3, a4⟩ := hat
      obtain ⟨pa, pc, hpf⟩ := hpv.form
      subst hpf
      obtain ⟨⟨aa, ac, haf⟩, -⟩ := id hav
      subst haf
      obtain ⟨g1, g2⟩ := apart_get l false k t HCL.out ht
      have h3 := countN_mem (List.mem_of_getElem? ht)
      rw [countN_of] at h3
      have k0 : (0 : Int) ≤ k := by omega
      have k1 : (k : Int) < l.length := by omega
      by_cases hn : t.name = []
      · obtain ⟨⟨q1, q2, q3⟩, -, q4⟩ := g1 hn
        rw [hn] at a1
        rw [q2] at a4
        rw [q3] at a2
        have a1' : w.cell? ⟨g, k * 4, none⟩ = some (.string ⟨#[]⟩) := a1
        have a2' : w.cell? ⟨g, k * 4 + 1, none⟩ = some (.slice aa 0 ac) := a2
        have a4' : w.cell? ⟨g, k * 4 + 3, none⟩ = some (.slice pa 0 pc) := a4
        have f1 := sBeqF q1
        have f2 := sEqF q1
        have f3 := sEmpF q1
        clear hf hpv hav ht h3 g1 g2 hn q1 q2 q3 a1 a2 a4
        cases k with
        | zero =>
          clear q4
          go_wp2_with fail
          go_round
          case rel => exact ⟨0 + 1, by omega, by go_num⟩
          case measure => simp [intOf]; omega
        | succ j =>
          obtain ⟨u, hu⟩ : ∃ u, l[j]? = some u := ⟨_, List.getElem?_eq_getElem (by omega)⟩
          have hun := q4 j u rfl hu
          obtain ⟨_, _, g', c', _, _, hf', _, _, _, hat', _, _⟩ := HV.out.get j u hu
          obtain rfl : g = g' := by simp at hf'; exact hf'.1
          obtain ⟨b1, -, -, -⟩ := hat'
          have u1 := sBeqF hun
          have u2 := sEqF hun
          have u3 := sEmpF hun
          have j0 : (0 : Int) < ((j + 1 : Nat) : Int) := by omega
          have j1 : IntKind.i64.wrap (((j + 1 : Nat) : Int) - 1) = (j : Int) := by rw [IntWalk.i64_in _ (by omega)]; omega
          have j2 : (j : Int) < l.length := by omega
          have j3 : (0 : Int) ≤ j := by omega
          clear hf' hu hun q4
          go_wp2_with fail
          go_round
          case rel => exact ⟨j + 1 + 1, by omega, by go_num⟩
          case measure => simp [intOf]; omega
      · obtain ⟨q1, q2⟩ := g2 hn
        rw [q1] at a3
        have a3' : w.cell? ⟨g, k * 4 + 2, none⟩ = some (.string ⟨#[]⟩) := a3
        have f1 := sBeqF hn
        have f2 := sEqF hn
        have f3 := sEmpF hn
        have HCALL := Lib.hid (HIH.out d' (by omega) _ t.parts w hpv (by have := HCT.out; omega) q2)
        clear hf hpv hav ht h3 g1 g2 hn q1 q2 a3 a2
        go_wp2_with fail
        refine HCALL.out.mono ?_
        rintro e w' ⟨rfl, hw⟩
        rw [← hw]
        clear hw
        go_wp2_with fail
        go_round
        case rel => exact ⟨k + 1, by omega, by go_num⟩
        case measure => simp [intOf]; omega
    · obtain rfl : k = l.length := by omega
      go_wp2_with fail
      go_ret
      exact ⟨rfl, rfl⟩

end Go.Proofs.YtemomhanchiipaaGreatDoor
/- Walks of the keep's helpers: parsed. -/
namespace Go.Proofs.YtemomhanchiipaaGreatDoor
open Go Go.RowKit

theorem allM_b : allM [60, 98, 62] = [⟨1, [98], [], false, []⟩] := by decide

set_option maxHeartbeats 1000000 in
set_option maxRecDepth 100000 in
theorem parsed_any (text : ByteArray) (w : World) (hg : Glob w) (h3 : text.size ≤ 600) :
    Calls Tryz.prog 21 #[.string text] w fun e w' => ∃ tv, e = .returned (.tuple #[tv, .bool true]) ∧ TokRow w.heap.size w' tv (allM (lst text)) ∧ Below w.heap.size w w' := by
  have HG := Lib.hid hg
  have hal := parse_any text w hg h3
  have HAL := Lib.hid hal
  have hpb := fun W h => parse_any ⟨#[60, 98, 62]⟩ W h (by decide)
  rw [show lst ⟨#[60, 98, 62]⟩ = [60, 98, 62] from rfl, allM_b] at hpb
  have HPB := Lib.hid hpb
  clear hal hg h3 hpb
  go_enter Tryz.func21, Tryz.ntmps21
  go_wp2_with fail
  refine HAL.out.mono ?_
  rintro e w1 ⟨tv, rfl, htr, hbe⟩
  have HTR := Lib.hid htr
  have HBE := Lib.hid hbe
  clear htr hbe
  go_wp2_with fail
  refine (HPB.out w1 (HG.out.below HBE.out HG.out.size)).mono ?_
  rintro e w2 ⟨tv2, rfl, htr, hbe⟩
  have HTR2 := Lib.hid (HTR.out.kept (RowsKept.of_below hbe))
  have HBE2 := Lib.hid (Below.trans HBE.out (hbe.mono HBE.out.size))
  obtain ⟨g, cap, htv, hcn⟩ := last_name (l := []) htr
  have hcn2 : w2.cell? ⟨g, 1, none⟩ = some (.string ⟨#[98]⟩) := hcn
  have htv2 : tv2 = .slice (some ⟨g, 0, none⟩) 1 cap := htv
  clear htr hbe hcn htv
  subst htv2
  go_wp2_with fail
  go_quiet (fail)
  go_wp2_with fail
  exact bodyPost_ret (v := .tuple #[tv, .bool true]) (by simp [results, Tryz.results21, go_sem]) rfl ⟨tv, rfl, HTR2.out.kept (fun _ _ _ _ h => h), ⟨HBE2.out.os, HBE2.out.tape, HBE2.out.output, HBE2.out.size, HBE2.out.block⟩⟩

end Go.Proofs.YtemomhanchiipaaGreatDoor
/- Walks of the keep's helpers: built. -/
namespace Go.Proofs.YtemomhanchiipaaGreatDoor
open Go Go.RowKit

def tokB : TTok := ⟨1, [98], [], false, []⟩
theorem buildOk_b : BuildOk [tokB] := ⟨by decide, fun t ht => by cases List.mem_singleton.1 ht; exact .inl rfl, fun t ht _ => by cases List.mem_singleton.1 ht; decide, by decide, fun t ht => by cases List.mem_singleton.1 ht; decide, by decide⟩
theorem buildM_b : buildM [tokB] = [tElem [98] [] []] := rfl
/-- A token laid in a row of its own. -/
theorem tokView_b (w : World) : TokView (w.alloc (.cells #[.int .i64 1, .string ⟨#[98]⟩, .slice none 0 0, .bool false, .string ⟨#[]⟩] 42)) (.slice (some ⟨w.heap.size, 0, none⟩) 1 1) [tokB] := by
  have h : (w.alloc (.cells #[.int .i64 1, .string ⟨#[98]⟩, .slice none 0 0, .bool false, .string ⟨#[]⟩] 42)).heap[w.heap.size]? = some (.cells #[.int .i64 1, .string ⟨#[98]⟩, .slice none 0 0, .bool false, .string ⟨#[]⟩] 42 (0, 0)) := heap_alloc_new _ _
  refine ⟨[(tokB, .slice none 0 0)], rfl, ⟨_, _, rfl⟩, fun i p hi => ?_⟩
  cases i with
  | succ i => simp at hi
  | zero =>
    cases hi
    exact ⟨_, _, rfl, Nat.le_refl _, by unfold maxLen; omega, ⟨_, h⟩, ⟨by rw [Lib.cell_of_heap h]; rfl, by rw [Lib.cell_of_heap h]; rfl, by rw [Lib.cell_of_heap h]; rfl, by rw [Lib.cell_of_heap h]; rfl, by rw [Lib.cell_of_heap h]; rfl⟩, attrView_nil _⟩

set_option maxHeartbeats 2000000 in
set_option maxRecDepth 100000 in
theorem built_any (s : ByteArray) (w : World) (hg : Glob w) (ht : Tabs w) (h6 : s.size ≤ 600) (hok : BuildOk (allM (lst s))) :
    Calls Tryz.prog 22 #[.string s] w fun e w' => ∃ v, e = .returned (.tuple #[v, .bool true]) ∧ NodeView 12 w' v (buildM (allM (lst s))) ∧ Below w.heap.size w w' := by
  have HT := Lib.hid ht
  have HP := Lib.hid (parsed_any s w hg h6)
  have HOK := Lib.hid hok
  clear hg ht hok
  go_enter Tryz.func22, Tryz.ntmps22
  go_wp2_with fail
  refine HP.out.mono ?_
  rintro e w1 ⟨tv, rfl, htr, hb1⟩
  have HB1 := Lib.hid hb1
  have HC1 := Lib.hid (build_any tv _ w1 (HT.out.below hb1 HT.out.size) htr.view HOK.out)
  clear htr hb1
  go_wp2_with fail
  refine HC1.out.mono ?_
  rintro e w2 ⟨v, rfl, hv, hb2⟩
  have HV2 := Lib.hid hv.any
  have HB2 := Lib.hid (HB1.out.trans (hb2.mono HB1.out.size))
  clear hv hb2
  obtain ⟨w3, hw3⟩ : ∃ w3, w3 = w2.alloc (.cells #[.int .i64 1, .string ⟨#[98]⟩, .slice none 0 0, .bool false, .string ⟨#[]⟩] 42) := ⟨_, rfl⟩
  have hb3 : Below w2.heap.size w2 w3 := by rw [hw3]; exact (Below.refl _ _).alloc (Nat.le_refl _) _
  have HB3 := Lib.hid (HB2.out.trans (hb3.mono HB2.out.size))
  have HV3 := Lib.hid (HV2.out.older (.of_below hb3))
  have HC3 := Lib.hid (build_any (.slice (some ⟨w2.heap.size, 0, none⟩) 1 1) [tokB] w3 (HT.out.below HB3.out HT.out.size) (by rw [hw3]; exact tokView_b w2) buildOk_b)
  rw [buildM_b] at HC3
  have HW3 := Lib.hid hw3
  clear hw3 hb3
  go_wp2_with fail
  rw [← HW3.out]
  refine HC3.out.mono ?_
  rintro e w4 ⟨v1, rfl, hv1, hb4⟩
  have HV4 := Lib.hid (HV3.out.older (.of_below hb4))
  have HB4 := Lib.hid (HB3.out.trans (hb4.mono HB3.out.size))
  obtain ⟨d', hd', g, cap, av, pv, hf, hc1, hc2, hg, hat, -, -⟩ := hv1.get 0 _ rfl
  have hf' : v1 = .slice (some ⟨g, 0, none⟩) 1 cap := hf
  subst hf'
  have e0 : w4.cell? ⟨g, 0, none⟩ = some (.string ⟨#[98]⟩) := hat.nm
  clear hv1 hb4 hat hf
  go_wp2_with fail
  go_quiet (fail)
  go_wp2_with fail
  exact bodyPost_ret (v := .tuple #[v, .bool true]) (by simp [results, Tryz.results22, go_sem]) rfl ⟨v, rfl, HV4.out.older ⟨Nat.le_refl _, fun _ _ => rfl⟩, ⟨HB4.out.os, HB4.out.tape, HB4.out.output, HB4.out.size, HB4.out.block⟩⟩

end Go.Proofs.YtemomhanchiipaaGreatDoor
