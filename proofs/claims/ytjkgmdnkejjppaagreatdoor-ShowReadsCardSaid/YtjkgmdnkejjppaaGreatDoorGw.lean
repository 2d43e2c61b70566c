/- Joined texts: Tab TabB VWalkC VWalkD. -/
import Derived.Test.YtjkgmdnkejjppaaGreatDoorGu
import Derived.Test.YtjkgmdnkejjppaaGreatDoorGa
import Derived.Test.YtjkgmdnkejjppaaGreatDoorJYRow
import Derived.Test.YtjkgmdnkejjppaaGreatDoorGt
import Derived.Test.YtjkgmdnkejjppaaGreatDoorGx
import Derived.Test.YtjkgmdnkejjppaaGreatDoorGe
/- A table of strings that is laid: buildSlice of constants, at once. -/
namespace Go.Proofs.YtjkgmdnkejjppaaGreatDoor
open Go Go.RowKit

theorem fill_strs : ∀ (ps : List Bytes) (k : Nat) (cells : Array Value), k + ps.length ≤ cells.size →
    ∃ R, Instr.fill (fun i => some (i * 1, 1)) cells ((ps.zipIdx k).map fun x => (x.2, Value.string (mk x.1))) = some R ∧ R.size = cells.size ∧ ∀ j, R[j]? = if k ≤ j ∧ j < k + ps.length then some (.string (mk (ps.getD (j - k) []))) else cells[j]?
  | [], k, cells, _ => ⟨cells, rfl, rfl, fun j => by rw [if_neg (by simp)]⟩
  | p :: ps, k, cells, h => by
    have h1 : k + 1 ≤ cells.size := by simp only [List.length_cons] at h; omega
    obtain ⟨R, hR, hs, hg⟩ := fill_strs ps (k + 1) (cells.setIfInBounds k (.string (mk p))) (by simp only [List.length_cons] at h; simp; omega)
    refine ⟨R, ?_, by rw [hs]; simp, fun j => ?_⟩
    · rw [List.zipIdx_cons, List.map_cons, Instr.fill]
      simp only [Nat.mul_one]
      have hc : (Value.string (mk p)).cells = #[.string (mk p)] := rfl
      simp only [hc]
      rw [if_neg (by simp; omega)]
      simpa using hR
    · rw [hg j]
      by_cases hj : j = k
      · subst hj
        have hjl : j < cells.size := by omega
        rw [if_neg (by omega), if_pos (by simp)]
        simp [hjl]
      · by_cases h2 : k + 1 ≤ j ∧ j < k + 1 + ps.length
        · rw [if_pos h2, if_pos (by simp only [List.length_cons]; omega)]
          rw [show j - k = (j - (k + 1)) + 1 by omega]; rfl
        · rw [if_neg h2, if_neg (by simp only [List.length_cons]; omega)]
          rw [Array.getElem?_setIfInBounds_ne (by omega)]

/-- What a table of strings comes to. -/
theorem run_table (t : TypeId) (hu : Tryz.prog.underlying t = some (.slice 9)) (ps : List Bytes) (hn : ps.length ≤ 1000) (hpos : 0 < ps.length) (parts : Array (Nat × Value)) (hp : parts.toList = (ps.zipIdx 0).map fun x => (x.2, Value.string (mk x.1))) (w : World) :
    (Instr.buildSlice t ps.length parts).run Tryz.prog w = .ok (.slice (some ⟨w.heap.size, 0, none⟩) ps.length ps.length) (w.alloc (.cells (ps.map fun p => Value.string (mk p)).toArray 9)) := by
  have hinfo : ∃ i, Tryz.prog.info? 9 = some i ∧ i.size = 1 ∧ i.zero = some (.string ⟨#[]⟩) := by
    have h : (Tryz.prog.info? 9).map (fun i => (i.zero, i.size)) = some (some (.string ⟨#[]⟩), 1) := by kernel_rfl
    obtain ⟨i, hi, he⟩ := Option.map_eq_some_iff.1 h
    exact ⟨i, hi, (Prod.mk.inj he).2, (Prod.mk.inj he).1⟩
  obtain ⟨i, hi, h1, h2⟩ := hinfo
  obtain ⟨R, hR, hs, hg⟩ := fill_strs ps 0 ((Array.range (ps.length * 1)).map ((Value.string ⟨#[]⟩).cells[· % (Value.string ⟨#[]⟩).cells.size]!)) (by simp)
  have hRe : R = (ps.map fun p => Value.string (mk p)).toArray := by
    apply Array.ext_getElem?
    intro j
    rw [hg j]
    by_cases hj : j < ps.length
    · rw [if_pos ⟨Nat.zero_le _, by omega⟩]
      simp [hj, List.getD]
    · rw [if_neg (by omega)]
      rw [Array.getElem?_eq_none (by simp; omega), Array.getElem?_eq_none (by simp; omega)]
  have e1 : (sizeOf 9).run Tryz.prog w = .ok 1 w := by simp [sizeOf, typeInfo, hi, h1]
  have e2 : (zeroValue 9).run Tryz.prog w = .ok (.string ⟨#[]⟩) w := by simp [zeroValue, typeInfo, hi, h2]
  have e3 : (newRow 9 (ps.map fun p => Value.string (mk p)).toArray).run Tryz.prog w = .ok ⟨w.heap.size, 0, none⟩ (w.alloc (.cells (ps.map fun p => Value.string (mk p)).toArray 9)) := rfl
  rw [hRe] at hR
  have z1 : (Value.string ⟨#[]⟩).cells = #[.string ⟨#[]⟩] := rfl
  rw [z1] at hR
  simp only [Nat.mul_one] at hR
  unfold Instr.buildSlice
  rw [Sem.run_bind, run_underlying hu, Result.andThen_ok]
  simp only [Sem.run_bind, e1, Result.andThen_ok, Nat.mul_one]
  rw [if_neg (by omega), if_neg (by omega), Sem.run_bind]
  simp only [Sem.run_bind, e2, Result.andThen_ok, Sem.run_pure, z1]
  rw [hp, hR]
  simp only [Sem.run_bind, e3, Result.andThen_ok, Sem.run_pure]
/-- .. at one step of a drawn region. -/
theorem step_table {ops : Array Oper} {o : Oper} {a : Act} {K : Act → World → Prop} {Q : Exit → Act → World → Prop} {E : Prop} {w : World} (hgd : o.guard = none)
    (t : TypeId) (hu : Tryz.prog.underlying t = some (.slice 9)) (ps : List Bytes) (hn : ps.length ≤ 1000) (hpos : 0 < ps.length) (n : Nat) (hnn : n = ps.length) (V : Array Value) (hV : (ps.map fun p => Value.string (mk p)).toArray = V) (parts : Array (Nat × Operand)) (ho : o.op = .buildSlice t n parts)
    (hp : (parts.map fun x => (x.1, a.eval x.2)).toList = (ps.zipIdx 0).map fun x => (x.2, Value.string (mk x.1)))
    (h : K (a.put o.dst (.slice (some ⟨w.heap.size, 0, none⟩) n n)) (w.alloc (.cells V 9))) : if Region.wanted o (yielded ops a.tmps) = true then Oper.wp Tryz.prog o a w K Q else E := by
  have hw : Region.wanted o (yielded ops a.tmps) = true := by simp [Region.wanted, hgd]
  rw [if_pos hw]
  have hr := run_table t hu ps hn hpos _ hp w
  rw [← hnn, hV] at hr
  unfold Oper.wp execOp
  simp only [ho, Sem.run_bind, Sem.run_pure, Result.andThen_ok, hr]
  exact h
end Go.Proofs.YtjkgmdnkejjppaaGreatDoor
/- A table of strings laid at a plain region's list. -/
namespace Go.Proofs.YtjkgmdnkejjppaaGreatDoor
open Go Go.RowKit

theorem wpList_table {ops : Array Oper} {rest : List Oper} {o : Oper} {a : Act} {Q : Exit → Act → World → Prop} {w : World} (hgd : o.guard = none)
    (t : TypeId) (hu : Tryz.prog.underlying t = some (.slice 9)) (ps : List Bytes) (hn : ps.length ≤ 1000) (hpos : 0 < ps.length) (n : Nat) (hnn : n = ps.length) (V : Array Value) (hV : (ps.map fun p => Value.string (mk p)).toArray = V) (parts : Array (Nat × Operand)) (ho : o.op = .buildSlice t n parts)
    (hp : (parts.map fun x => (x.1, a.eval x.2)).toList = (ps.zipIdx 0).map fun x => (x.2, Value.string (mk x.1)))
    (h : wpList Tryz.prog ops Q rest (a.put o.dst (.slice (some ⟨w.heap.size, 0, none⟩) n n)) (w.alloc (.cells V 9))) : wpList Tryz.prog ops Q (o :: rest) a w := by
  have hw : Region.wanted o (yielded ops a.tmps) = true := by simp [Region.wanted, hgd]
  refine wpList_guarded hw fun K hK => ?_
  have hr := run_table t hu ps hn hpos _ hp w
  rw [← hnn, hV] at hr
  unfold Oper.wp execOp
  simp only [ho, Sem.run_bind, Sem.run_pure, Result.andThen_ok, hr]
  exact hK _ _ h
/-- .. where one part is a value of the frame. -/
theorem wpList_one {ops : Array Oper} {rest : List Oper} {o : Oper} {a : Act} {Q : Exit → Act → World → Prop} {w : World} (hgd : o.guard = none)
    (t : TypeId) (hu : Tryz.prog.underlying t = some (.slice 9)) (p : Bytes) (parts : Array (Nat × Operand)) (ho : o.op = .buildSlice t 1 parts)
    (hp : (parts.map fun x => (x.1, a.eval x.2)).toList = [(0, Value.string (mk p))])
    (h : wpList Tryz.prog ops Q rest (a.put o.dst (.slice (some ⟨w.heap.size, 0, none⟩) 1 1)) (w.alloc (.cells #[.string (mk p)] 9))) : wpList Tryz.prog ops Q (o :: rest) a w :=
  wpList_table hgd t hu [p] (by simp) (by simp) 1 rfl _ rfl parts ho hp h
end Go.Proofs.YtjkgmdnkejjppaaGreatDoor
/- Walks of the reference's small functions of show: oneOf, isVoid, RefEscape. -/
namespace Go.Proofs.YtjkgmdnkejjppaaGreatDoor
open Go Go.RowKit

set_option maxHeartbeats 1000000 in
theorem oneOf_any (v : Value) (l : List Bytes) (s : Bytes) (hl : l.length ≤ 1000000) (w : World) (h : SView w v l) :
    Calls Tryz.prog 65 #[.string (mk s), v] w fun e w' => e = .returned (.bool (l.contains s)) ∧ w = w' := by
  obtain ⟨⟨a, e0, rfl⟩, hcells⟩ := h
  have HS := Lib.hid hcells
  obtain ⟨R, hR⟩ : ∃ R, l.contains s = R := ⟨_, rfl⟩
  rw [hR]
  have HR := Lib.hid hR
  clear hcells hR
  go_enter Tryz.func65, Tryz.ntmps65
  go_wp2_with fail
  go_loop [9] (fun i => ∃ k : Nat, k ≤ l.length ∧ i = .int .i64 k ∧ Hid (∀ j, j < k → l[j]? ≠ some s)) (fun i => l.length - (intOf i).toNat)
  case atStart => exact ⟨0, by omega, rfl, Lib.hid (fun j hj => by omega)⟩
  case round =>
    obtain ⟨k, hk, rfl, hno⟩ := hrel
    by_cases hlt : k < l.length
    · obtain ⟨x, hx⟩ : ∃ x, l[k]? = some x := ⟨_, List.getElem?_eq_getElem hlt⟩
      obtain ⟨g, o, e1, hv, _, hc⟩ := HS.out k x hx
      obtain rfl : a = some ⟨g, o, none⟩ := by simp at hv; exact hv.1
      have HX := Lib.hid hx
      clear hx hv
      have k0 : (0 : Int) ≤ k := by omega
      have k1 : (k : Int) < l.length := by omega
      by_cases he : s = x
      · have he1 : ((mk s).toList == (mk x).toList) = true := by rw [he]; exact beq_self_eq_true _
        have he2 : (mk s).toList = (mk x).toList := by rw [he]
        have HRT := Lib.hid (show R = true by rw [← HR.out, List.contains_iff_mem, he]; exact List.mem_of_getElem? HX.out)
        clear he
        go_wp2_with fail
        go_ret
        exact ⟨by rw [HRT.out]; rfl, rfl⟩
      · have he1 : ((mk s).toList == (mk x).toList) = false := beq_eq_false_iff_ne.2 (by rw [toList_mk, toList_mk]; exact he)
        have he2 : ¬ (mk s).toList = (mk x).toList := by rw [toList_mk, toList_mk]; exact he
        have HN := Lib.hid (show ∀ j, j < k + 1 → l[j]? ≠ some s from fun j hj => by
          by_cases hjk : j = k
          · subst hjk; rw [HX.out]; intro h; exact he (Option.some.inj h).symm
          · exact hno.out j (by omega))
        clear he
        go_wp2_with fail
        go_round
        case rel => exact ⟨k + 1, by omega, by go_num, HN⟩
        case measure => simp [intOf]; omega
    · obtain rfl : k = l.length := by omega
      have HRF := Lib.hid (show R = false by
        rw [← HR.out]
        cases hh : l.contains s with
        | false => rfl
        | true =>
          rw [List.contains_iff_mem] at hh
          obtain ⟨j, hj⟩ := List.getElem?_of_mem hh
          exact absurd hj (hno.out j (List.getElem?_eq_some_iff.1 hj).1))
      go_wp2_with fail
      go_ret
      exact ⟨by rw [HRF.out]; rfl, rfl⟩

abbrev voidsVQ : Array Value := #[.string ⟨#[98, 114]⟩, .string ⟨#[104, 114]⟩, .string ⟨#[105, 109, 103]⟩, .string ⟨#[105, 110, 112, 117, 116]⟩]
theorem voidsVQ_v : voidsVQ.toList = voidsM.map (fun p => .string (mk p)) := rfl
/-- A table that is laid, as a reader sees it. -/
theorem SView.table {w : World} {V : Array Value} {l : List Bytes} (hV : V.toList = l.map fun p => .string (mk p)) : SView (w.alloc (.cells V 9)) (.slice (some ⟨w.heap.size, 0, none⟩) l.length l.length) l := by
  have h := heap_alloc_new w (.cells V 9)
  refine ⟨⟨_, 0, rfl⟩, fun i p hi => ⟨w.heap.size, 0, 0, rfl, ⟨_, h⟩, ?_⟩⟩
  rw [Nat.zero_add, Lib.cell_of_heap h, ← Array.getElem?_toList, hV, List.getElem?_map, hi]; rfl

theorem risVoid_any (n : Bytes) (w : World) :
    Calls Tryz.prog 41 #[.string (mk n)] w fun e w' => e = .returned (.bool (isVoid n)) ∧ Below w.heap.size w w' := by
  have HC := Lib.hid (oneOf_any _ voidsM n (by decide) (w.alloc (.cells voidsVQ 9)) (SView.table voidsVQ_v))
  rw [show voidsM.contains n = isVoid n from rfl] at HC
  have HB := Lib.hid ((Below.refl w.heap.size w).alloc (Nat.le_refl _) (.cells voidsVQ 9))
  go_enter Tryz.func41, Tryz.ntmps41
  go_wp2_with fail
  refine HC.out.mono ?_
  rintro e w' ⟨rfl, hw⟩
  rw [← hw]
  clear hw
  go_wp2_with fail
  go_ret
  exact ⟨rfl, HB.out⟩
end Go.Proofs.YtjkgmdnkejjppaaGreatDoor
/- Walks of the reference's small functions of show: nameMay, RefEscape. -/
namespace Go.Proofs.YtjkgmdnkejjppaaGreatDoor
open Go Go.RowKit

theorem escM_takeV (q : Bool) (l : Bytes) (k : Nat) (x : UInt8) (h : l[k]? = some x) : escM q (l.take (k + 1)) = escM q (l.take k) ++ escB q x := by
  rw [List.take_add_one, h, escM_append]
  show _ ++ escM q [x] = _
  rw [escM, escM, List.append_nil]

set_option maxHeartbeats 4000000 in
set_option maxRecDepth 100000 in
theorem rescape_any (s : ByteArray) (q : Bool) (w : World) (hs : s.size ≤ 1000000) :
    Calls Tryz.prog 68 #[.string s, .bool q] w fun e w' => e = .returned (.string (mk (escM q (lst s)))) ∧ ∃ n, w' = w.drewN n := by
  go_enter Tryz.func68, Tryz.ntmps68
  go_wp2_with fail
  go_loopw [5, 6] (fun o i wr => ∃ (Wr : World) (k : Nat), Wr = wr ∧ k ≤ s.size ∧ i = .int .i64 k ∧ o = .string (mk (escM q ((lst s).take k))) ∧ Hid (∃ n, Wr = w.drewN n)) (fun _ i _ => s.size - (intOf i).toNat)
  case atStart => exact ⟨_, 0, rfl, Nat.zero_le _, rfl, rfl, Lib.hid ⟨0, rfl⟩⟩
  case round =>
    obtain ⟨Wr, k, rfl, hk, rfl, rfl, hW⟩ := hrel
    by_cases hlt : k < s.size
    · obtain ⟨x, hx⟩ : ∃ x, (lst s)[k]? = some x := ⟨_, List.getElem?_eq_getElem (by rw [lst_length]; exact hlt)⟩
      have hext : s.extract k (k + 1) = mk [x] := by
        rw [ext_take, List.take_one, List.head?_drop, hx]; rfl
      have k0 : (0 : Int) ≤ k := by omega
      have k1 : (k : Int) + 1 ≤ s.size := by omega
      have k2 : (k : Int) < s.size := by omega
      have k3 : (k : Int) ≤ (k : Int) + 1 := by omega
      have HET := Lib.hid (escM_takeV q (lst s) k x hx)
      have hz := (escM_len q ((lst s).take k)).2.1
      have hzz : ((lst s).take k).length ≤ 1000000 := by rw [List.length_take, lst_length]; omega
      have hsz : (mk (escM q ((lst s).take k))).size ≤ 6000000 := by rw [mk_size]; omega
      have hx1 : (mk [x]).size ≤ 1 := by rw [mk_size]; simp
      clear hx hz hzz
      generalize escM q ((lst s).take k) = E at *
      by_cases c38 : x = 38
      · skip
        have p38 : ((mk [x]).toList == [38]) = true := by rw [toList_mk, c38]; rfl
        have q38 : (mk [x]).toList = [38] := by rw [toList_mk, c38]
        have HE : Hid (escB q x = [38, 97, 109, 112, 59]) := Lib.hid (by unfold escB; simp [*])
        clear c38
        go_wp2_with fail
        refine ⟨⟨_, k + 1, rfl, by omega, by go_num, ?_, hW⟩, by simp [intOf]; omega⟩
        rw [HET.out, HE.out, ← cat_mk]; rfl
      · by_cases c60 : x = 60
        · skip
          have p38 : ((mk [x]).toList == [38]) = false := by rw [toList_mk]; simpa using c38
          have q38 : ¬ (mk [x]).toList = [38] := by rw [toList_mk]; simpa using c38
          have p60 : ((mk [x]).toList == [60]) = true := by rw [toList_mk, c60]; rfl
          have q60 : (mk [x]).toList = [60] := by rw [toList_mk, c60]
          have HE : Hid (escB q x = [38, 108, 116, 59]) := Lib.hid (by unfold escB; simp [*])
          clear c38 c60
          go_wp2_with fail
          refine ⟨⟨_, k + 1, rfl, by omega, by go_num, ?_, hW⟩, by simp [intOf]; omega⟩
          rw [HET.out, HE.out, ← cat_mk]; rfl
        · by_cases c62 : x = 62
          · skip
            have p38 : ((mk [x]).toList == [38]) = false := by rw [toList_mk]; simpa using c38
            have q38 : ¬ (mk [x]).toList = [38] := by rw [toList_mk]; simpa using c38
            have p60 : ((mk [x]).toList == [60]) = false := by rw [toList_mk]; simpa using c60
            have q60 : ¬ (mk [x]).toList = [60] := by rw [toList_mk]; simpa using c60
            have p62 : ((mk [x]).toList == [62]) = true := by rw [toList_mk, c62]; rfl
            have q62 : (mk [x]).toList = [62] := by rw [toList_mk, c62]
            have HE : Hid (escB q x = [38, 103, 116, 59]) := Lib.hid (by unfold escB; simp [*])
            clear c38 c60 c62
            go_wp2_with fail
            refine ⟨⟨_, k + 1, rfl, by omega, by go_num, ?_, hW⟩, by simp [intOf]; omega⟩
            rw [HET.out, HE.out, ← cat_mk]; rfl
          · by_cases c34 : x = 34
            · cases q with
              | true =>
                have p38 : ((mk [x]).toList == [38]) = false := by rw [toList_mk]; simpa using c38
                have q38 : ¬ (mk [x]).toList = [38] := by rw [toList_mk]; simpa using c38
                have p60 : ((mk [x]).toList == [60]) = false := by rw [toList_mk]; simpa using c60
                have q60 : ¬ (mk [x]).toList = [60] := by rw [toList_mk]; simpa using c60
                have p62 : ((mk [x]).toList == [62]) = false := by rw [toList_mk]; simpa using c62
                have q62 : ¬ (mk [x]).toList = [62] := by rw [toList_mk]; simpa using c62
                have p34 : ((mk [x]).toList == [34]) = true := by rw [toList_mk, c34]; rfl
                have q34 : (mk [x]).toList = [34] := by rw [toList_mk, c34]
                have HE : Hid (escB true x = [38, 113, 117, 111, 116, 59]) := Lib.hid (by unfold escB; simp [*])
                clear c38 c60 c62 c34
                go_wp2_with fail
                refine ⟨⟨_, k + 1, rfl, by omega, by go_num, ?_, hW⟩, by simp [intOf]; omega⟩
                rw [HET.out, HE.out, ← cat_mk]; rfl
              | false =>
                have p38 : ((mk [x]).toList == [38]) = false := by rw [toList_mk]; simpa using c38
                have q38 : ¬ (mk [x]).toList = [38] := by rw [toList_mk]; simpa using c38
                have p60 : ((mk [x]).toList == [60]) = false := by rw [toList_mk]; simpa using c60
                have q60 : ¬ (mk [x]).toList = [60] := by rw [toList_mk]; simpa using c60
                have p62 : ((mk [x]).toList == [62]) = false := by rw [toList_mk]; simpa using c62
                have q62 : ¬ (mk [x]).toList = [62] := by rw [toList_mk]; simpa using c62
                have p34 : ((mk [x]).toList == [34]) = true := by rw [toList_mk, c34]; rfl
                have q34 : (mk [x]).toList = [34] := by rw [toList_mk, c34]
                have HE : Hid (escB false x = [x]) := Lib.hid (by unfold escB; simp [*])
                clear c38 c60 c62 c34
                go_wp2_with fail
                refine ⟨⟨_, k + 1, rfl, by omega, by go_num, ?_, hW⟩, by simp [intOf]; omega⟩
                rw [HET.out, HE.out, ← cat_mk]
            · skip
              have p38 : ((mk [x]).toList == [38]) = false := by rw [toList_mk]; simpa using c38
              have q38 : ¬ (mk [x]).toList = [38] := by rw [toList_mk]; simpa using c38
              have p60 : ((mk [x]).toList == [60]) = false := by rw [toList_mk]; simpa using c60
              have q60 : ¬ (mk [x]).toList = [60] := by rw [toList_mk]; simpa using c60
              have p62 : ((mk [x]).toList == [62]) = false := by rw [toList_mk]; simpa using c62
              have q62 : ¬ (mk [x]).toList = [62] := by rw [toList_mk]; simpa using c62
              have p34 : ((mk [x]).toList == [34]) = false := by rw [toList_mk]; simpa using c34
              have q34 : ¬ (mk [x]).toList = [34] := by rw [toList_mk]; simpa using c34
              have HE : Hid (escB q x = [x]) := Lib.hid (by unfold escB; simp [*])
              clear c38 c60 c62 c34
              go_wp2_with fail
              refine ⟨⟨_, k + 1, rfl, by omega, by go_num, ?_, hW⟩, by simp [intOf]; omega⟩
              rw [HET.out, HE.out, ← cat_mk]
    · obtain rfl : k = s.size := by omega
      have HE := Lib.hid (show (lst s).take s.size = lst s by rw [← lst_length, List.take_length])
      go_wp2_with fail
      go_ret
      exact ⟨by rw [HE.out]; rfl, hW.out⟩

theorem nameC_intD (c : UInt8) : nameC c = true ↔ (c.toNat = 45 ∨ (97 ≤ c.toNat ∧ c.toNat ≤ 122) ∨ (48 ≤ c.toNat ∧ c.toNat ≤ 57)) := by
  unfold nameC
  simp only [Bool.or_eq_true, Bool.and_eq_true, decide_eq_true_eq, beq_iff_eq, UInt8.le_iff_toNat_le, ← UInt8.toNat_inj]
  have e1 : (97 : UInt8).toNat = 97 := rfl
  have e2 : (122 : UInt8).toNat = 122 := rfl
  have e3 : (48 : UInt8).toNat = 48 := rfl
  have e4 : (57 : UInt8).toNat = 57 := rfl
  have e5 : (45 : UInt8).toNat = 45 := rfl
  rw [e1, e2, e3, e4, e5]
  omega
theorem nameM_iff (l : Bytes) (hl : l.length ≤ 12) (h0 : l ≠ []) : nameM l = true ↔ (∀ c ∈ l, nameC c = true) ∧ ∀ c, l[0]? = some c → 97 ≤ c.toNat ∧ c.toNat ≤ 122 := by
  cases l with
  | nil => exact absurd rfl h0
  | cons c r =>
    unfold nameM
    have e1 : (97 : UInt8).toNat = 97 := rfl
    have e2 : (122 : UInt8).toNat = 122 := rfl
    simp only [Bool.and_eq_true, decide_eq_true_eq, List.all_eq_true, UInt8.le_iff_toNat_le, e1, e2]
    constructor
    · rintro ⟨⟨_, h2⟩, h3⟩
      exact ⟨h3, fun d hd => by cases hd; exact h2⟩
    · rintro ⟨h1, h2⟩
      exact ⟨⟨hl, h2 c rfl⟩, h1⟩
set_option maxHeartbeats 4000000 in
set_option maxRecDepth 100000 in
theorem nameMay_any (s : ByteArray) (w : World) (hs : s.size ≤ 1000000) :
    Calls Tryz.prog 91 #[.string s] w fun e w' => e = .returned (.bool (nameM (lst s))) ∧ ∃ n, w' = w.drewN n := by
  by_cases h0 : s.size = 0
  · have l0 : (s.size : Int) = 0 := by omega
    have l1 : (s.size : Int) < 1 := by omega
    have hl : lst s = [] := List.eq_nil_of_length_eq_zero (by rw [lst_length]; exact h0)
    rw [hl]
    clear hl
    go_enter Tryz.func91, Tryz.ntmps91
    go_wp2_with fail
    go_ret
    exact ⟨rfl, 0, rfl⟩
  · have l1 : ¬ (s.size : Int) < 1 := by omega
    by_cases h12 : 12 < s.size
    · have l2 : (12 : Int) < s.size := by omega
      have hn : nameM (lst s) = false := by
        cases hh : nameM (lst s) with
        | false => rfl
        | true => have := (nameM_all hh).2.2.1; rw [lst_length] at this; omega
      rw [hn]
      clear hn
      go_enter Tryz.func91, Tryz.ntmps91
      go_wp2_with fail
      go_ret
      exact ⟨rfl, 0, rfl⟩
    · have l2 : ¬ (12 : Int) < s.size := by omega
      have hl0 : lst s ≠ [] := by intro e; have := congrArg List.length e; rw [lst_length] at this; exact h0 this
      have hll : (lst s).length ≤ 12 := by rw [lst_length]; omega
      obtain ⟨R, hR⟩ : ∃ R, nameM (lst s) = R := ⟨_, rfl⟩
      rw [hR]
      have HR := Lib.hid hR
      clear hR
      go_enter Tryz.func91, Tryz.ntmps91
      go_wp2_with fail
      go_loop [3] (fun i => ∃ k : Nat, k ≤ s.size ∧ i = .int .i64 k ∧ Hid (∀ c ∈ (lst s).take k, nameC c = true) ∧ Hid (∀ c, 0 < k → (lst s)[0]? = some c → 97 ≤ c.toNat ∧ c.toNat ≤ 122)) (fun i => s.size - (intOf i).toNat)
      case atStart => exact ⟨0, by omega, rfl, Lib.hid (by simp), Lib.hid (fun c h => by omega)⟩
      case round =>
        obtain ⟨k, hk, rfl, hA, hB⟩ := hrel
        by_cases hlt : k < s.size
        · obtain ⟨x, hc⟩ : ∃ x, x = s[k]'hlt := ⟨_, rfl⟩
          have hx : (lst s)[k]? = some x := by rw [hc]; exact List.getElem?_eq_getElem (by rw [lst_length]; exact hlt)
          have hwx : x.toNat = (s[k]'hlt).toNat := by rw [hc]
          have k0 : (0 : Int) ≤ k := by omega
          have k1 : (k : Int) < s.size := by omega
          have HW : Hid (w = w) := Lib.hid rfl
          by_cases s1 : 97 ≤ (s[k]'hlt).toNat
          · have e1 : (97 : Int) ≤ ((s[k]'hlt).toNat : Int) := by omega
            by_cases s2 : (s[k]'hlt).toNat ≤ 122
            · have e2 : ((s[k]'hlt).toNat : Int) ≤ 122 := by omega
              have HA2 : Hid (∀ c ∈ (lst s).take (k + 1), nameC c = true) := Lib.hid fun y hy => by
                rw [List.take_add_one, hx] at hy
                rcases List.mem_append.1 hy with hy | hy
                · exact hA.out y hy
                · simp at hy; subst hy; exact (nameC_intD y).2 (by omega)
              have HB2 : Hid (∀ c, 0 < k + 1 → (lst s)[0]? = some c → 97 ≤ c.toNat ∧ c.toNat ≤ 122) := Lib.hid fun y _ hy => by
                by_cases hk0 : k = 0
                · subst hk0; rw [hx] at hy; cases hy; omega
                · exact hB.out y (by omega) hy
              clear hx hc hA hB hwx
              go_wp2_with fail
              go_round
              case rel => exact ⟨k + 1, by omega, by go_num, HA2, HB2⟩
              case measure => simp [intOf]; omega
            · have e2 : ¬ ((s[k]'hlt).toNat : Int) ≤ 122 := by omega
              have e3 : ¬ ((s[k]'hlt).toNat : Int) = 45 := by omega
              have e3b : (((s[k]'hlt).toNat : Int) == 45) = false := beq_eq_false_iff_ne.2 e3
              have e4 : ¬ ((s[k]'hlt).toNat : Int) < 48 := by omega
              have e5 : (57 : Int) < ((s[k]'hlt).toNat : Int) := by omega
              have hno : ¬ nameC x = true := fun h => by have := (nameC_intD x).1 h; omega
              by_cases hk0 : k = 0
              · subst hk0
                have HF := Lib.hid (show R = false by
                  rw [← HR.out]
                  cases hh : nameM (lst s) with
                  | false => rfl
                  | true =>
                    have hm := (nameM_iff (lst s) hll hl0).1 hh
                    exfalso
                    exact hno (hm.1 x (List.mem_of_getElem? hx)))
                clear hx hc hwx
                go_wp2_with fail
                go_ret
                exact ⟨by rw [HF.out]; rfl, 0, rfl⟩
              · have z0 : ¬ (k : Int) = 0 := by omega
                have z1 : ((k : Int) == 0) = false := beq_eq_false_iff_ne.2 z0
                have HF := Lib.hid (show R = false by
                  rw [← HR.out]
                  cases hh : nameM (lst s) with
                  | false => rfl
                  | true =>
                    have hm := (nameM_iff (lst s) hll hl0).1 hh
                    exfalso
                    exact hno (hm.1 x (List.mem_of_getElem? hx)))
                clear hx hc hwx
                go_wp2_with fail
                go_ret
                exact ⟨by rw [HF.out]; rfl, 0, rfl⟩
          · have e1 : ¬ (97 : Int) ≤ ((s[k]'hlt).toNat : Int) := by omega
            by_cases hk0 : k = 0
            · subst hk0
              have HF := Lib.hid (show R = false by
                rw [← HR.out]
                cases hh : nameM (lst s) with
                | false => rfl
                | true =>
                  have hm := (nameM_iff (lst s) hll hl0).1 hh
                  exfalso
                  have := hm.2 x hx; omega)
              clear hx hc hwx
              go_wp2_with fail
              go_ret
              exact ⟨by rw [HF.out]; rfl, 0, rfl⟩
            · have z0 : ¬ (k : Int) = 0 := by omega
              have z1 : ((k : Int) == 0) = false := beq_eq_false_iff_ne.2 z0
              by_cases s3 : (s[k]'hlt).toNat = 45
              · have e3 : ((s[k]'hlt).toNat : Int) = 45 := by omega
                have e3b : (((s[k]'hlt).toNat : Int) == 45) = true := beq_iff_eq.2 e3
                have HA2 : Hid (∀ c ∈ (lst s).take (k + 1), nameC c = true) := Lib.hid fun y hy => by
                  rw [List.take_add_one, hx] at hy
                  rcases List.mem_append.1 hy with hy | hy
                  · exact hA.out y hy
                  · simp at hy; subst hy; exact (nameC_intD y).2 (by omega)
                have HB2 : Hid (∀ c, 0 < k + 1 → (lst s)[0]? = some c → 97 ≤ c.toNat ∧ c.toNat ≤ 122) := Lib.hid fun y _ hy => by
                  exact hB.out y (by omega) hy
                clear hx hc hA hB hwx
                go_wp2_with fail
                go_round
                case rel => exact ⟨k + 1, by omega, by go_num, HA2, HB2⟩
                case measure => simp [intOf]; omega
              · have e3 : ¬ ((s[k]'hlt).toNat : Int) = 45 := by omega
                have e3b : (((s[k]'hlt).toNat : Int) == 45) = false := beq_eq_false_iff_ne.2 e3
                by_cases s4 : (s[k]'hlt).toNat < 48
                · have e4 : ((s[k]'hlt).toNat : Int) < 48 := by omega
                  have hno : ¬ nameC x = true := fun h => by have := (nameC_intD x).1 h; omega
                  have HF := Lib.hid (show R = false by
                    rw [← HR.out]
                    cases hh : nameM (lst s) with
                    | false => rfl
                    | true =>
                      have hm := (nameM_iff (lst s) hll hl0).1 hh
                      exfalso
                      exact hno (hm.1 x (List.mem_of_getElem? hx)))
                  clear hx hc hwx
                  go_wp2_with fail
                  go_ret
                  exact ⟨by rw [HF.out]; rfl, 0, rfl⟩
                · have e4 : ¬ ((s[k]'hlt).toNat : Int) < 48 := by omega
                  by_cases s5 : 57 < (s[k]'hlt).toNat
                  · have e5 : (57 : Int) < ((s[k]'hlt).toNat : Int) := by omega
                    have hno : ¬ nameC x = true := fun h => by have := (nameC_intD x).1 h; omega
                    have HF := Lib.hid (show R = false by
                      rw [← HR.out]
                      cases hh : nameM (lst s) with
                      | false => rfl
                      | true =>
                        have hm := (nameM_iff (lst s) hll hl0).1 hh
                        exfalso
                        exact hno (hm.1 x (List.mem_of_getElem? hx)))
                    clear hx hc hwx
                    go_wp2_with fail
                    go_ret
                    exact ⟨by rw [HF.out]; rfl, 0, rfl⟩
                  · have e5 : ¬ (57 : Int) < ((s[k]'hlt).toNat : Int) := by omega
                    have HA2 : Hid (∀ c ∈ (lst s).take (k + 1), nameC c = true) := Lib.hid fun y hy => by
                      rw [List.take_add_one, hx] at hy
                      rcases List.mem_append.1 hy with hy | hy
                      · exact hA.out y hy
                      · simp at hy; subst hy; exact (nameC_intD y).2 (by omega)
                    have HB2 : Hid (∀ c, 0 < k + 1 → (lst s)[0]? = some c → 97 ≤ c.toNat ∧ c.toNat ≤ 122) := Lib.hid fun y _ hy => by
                      exact hB.out y (by omega) hy
                    clear hx hc hA hB hwx
                    go_wp2_with fail
                    go_round
                    case rel => exact ⟨k + 1, by omega, by go_num, HA2, HB2⟩
                    case measure => simp [intOf]; omega
        · obtain rfl : k = s.size := by omega
          have HT := Lib.hid (show R = true by
            rw [← HR.out]
            refine (nameM_iff (lst s) hll hl0).2 ⟨fun c hc => hA.out c (by rw [← lst_length, List.take_length]; exact hc), fun c hc => hB.out c (by omega) hc⟩)
          go_wp2_with fail
          go_ret
          exact ⟨by rw [HT.out]; rfl, 0, rfl⟩
end Go.Proofs.YtjkgmdnkejjppaaGreatDoor
