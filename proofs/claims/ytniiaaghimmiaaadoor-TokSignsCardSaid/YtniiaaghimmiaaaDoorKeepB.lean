/- Walks of the rows' functions: TokPlain. -/
import Derived.Test.YtniiaaghimmiaaaDoorKeepA
namespace Go.Proofs.YtniiaaghimmiaaaDoor
open Go Go.RowKit

def plainOf (l : Bytes) : Bytes := (l.take 200).filter (fun c => c != 60 && c != 38)

theorem row_nil {B : Nat} {w : World} {tv : Value} (h : TokRow B w tv []) : ∃ a cap, tv = .slice a 0 cap := by
  obtain ⟨ps, hps, hown, _⟩ := h
  have hp : ps = [] := List.map_eq_nil_iff.1 hps
  subst hp
  exact ownsRow_slice hown
theorem row_one {B : Nat} {w : World} {tv : Value} {t : TTok} (h : TokRow B w tv [t]) :
    ∃ g cap, tv = .slice (some ⟨g, 0, none⟩) 1 cap ∧ w.cell? ⟨g, 0, none⟩ = some (.int .i64 t.kind) ∧ w.cell? ⟨g, 4, none⟩ = some (.string (mk t.text)) := by
  obtain ⟨ps, hps, hown, _⟩ := h
  obtain ⟨p, rfl, rfl⟩ := List.map_eq_singleton_iff.1 hps
  obtain ⟨g, cap, hv, _, _, _, _, hc, _⟩ := ownsRow_cells hown (by simp)
  exact ⟨g, cap, hv, hc 0 _ rfl, hc 4 _ rfl⟩

set_option maxHeartbeats 1000000 in
set_option maxRecDepth 100000 in
theorem tokPlain_any (s : ByteArray) (w : World) (hg : Glob w) :
    Calls Tryd.prog 4 #[.string s] w fun e w' => e = .returned (.bool true) ∧ Below w.heap.size w w' := by
  have HG := Lib.hid hg
  clear hg
  go_enter Tryd.func4, Tryd.ntmps4
  go_wp2_with fail
  go_loopg [3, 4] 201 (fun g t i wx => ∃ (W : World) (k : Nat), W = wx ∧ t = .string (mk (((lst s).take k).filter (fun c => c != 60 && c != 38))) ∧ i = .int .i64 k ∧ k ≤ 200 ∧ k ≤ s.size ∧ 200 - k < g ∧ wx = w)
  case atStart => exact ⟨_, 0, rfl, by rw [List.take_zero]; rfl, rfl, by omega, by omega, by omega, rfl⟩
  case round =>
    obtain ⟨wr, k, rfl, rfl, rfl, hk, hks, hg2, hw⟩ := hrel
    have HW := Lib.hid hw
    clear hw
    by_cases hlt : k < s.size ∧ k < 200
    · obtain ⟨hl1, hl2⟩ := hlt
      obtain ⟨n, rfl⟩ : ∃ n, gk = n + 1 := ⟨gk - 1, by omega⟩
      obtain ⟨x, hx⟩ : ∃ x, s[k]'hl1 = x := ⟨_, rfl⟩
      have hst : ((lst s).take (k + 1)).filter (fun c => c != 60 && c != 38) = ((lst s).take k).filter (fun c => c != 60 && c != 38) ++ (if (x != 60 && x != 38) = true then [x] else []) := by
        rw [List.take_add_one, lst_get s k hl1, hx, List.filter_append]
        congr 1
        simp only [Option.toList_some, List.filter_cons, List.filter_nil]
      have e1 : (x != 60) = ((x.toNat : Int) != 60) := congrArg (! ·) (byteEq x 60)
      have e2 : (x != 38) = ((x.toNat : Int) != 38) := congrArg (! ·) (byteEq x 38)
      rw [e1, e2] at hst
      clear e1 e2
      have hTz : (((lst s).take k).filter (fun c => c != 60 && c != 38)).length ≤ 200 := by
        have h1 := List.length_filter_le (fun c : UInt8 => c != 60 && c != 38) ((lst s).take k)
        rw [List.length_take] at h1; omega
      generalize ((lst s).take k).filter (fun c => c != 60 && c != 38) = T at *
      have hcat : mk T ++ s.extract k (k + 1) = mk (T ++ [x]) := by
        apply ext_lst
        have h1 : lst (mk T ++ s.extract k (k + 1)) = lst (mk T) ++ lst (s.extract k (k + 1)) := by simp [lst, ByteArray.data_append]
        rw [h1, lst_mk, lst_mk, lst_extract, List.drop_eq_getElem_cons (by rw [lst_length]; exact hl1)]
        have y0 : (lst s)[k]'(by rw [lst_length]; exact hl1) = x := hx
        rw [y0, show k + 1 - k = 1 by omega]
        rfl
      have HCAT := Lib.hid hcat
      have HST := Lib.hid hst
      have k0 : (0 : Int) ≤ k := by omega
      have k1 : (k : Int) < s.size := by omega
      have k2 : (k : Int) < 200 := by omega
      have k3 : (k : Int) + 1 ≤ s.size := by omega
      have k4 : IntKind.i64.wrap ((k : Int) + 1) = (k : Int) + 1 := IntWalk.i64_in _ (by omega)
      have k5 : ((k : Int) + 1).toNat = k + 1 := by omega
      have hTz2 : (mk T).size ≤ 200 := by rw [mk_size]; exact hTz
      clear hst hcat
      cases h1 : ((x.toNat : Int) != 60) <;> cases h2 : ((x.toNat : Int) != 38)
      all_goals
        rw [h1, h2] at HST
        go_wp2_with fail
        go_roundg n
        case measure => omega
        case rel => exact ⟨_, k + 1, rfl, by rw [HST.out] <;> simp <;> exact HCAT.out, by go_num, by omega, by omega, by omega, HW.out⟩
    · have hx : ((k : Int) < s.size → ¬ (k : Int) < 200) := by omega
      have hT1 : ∀ c ∈ ((lst s).take k).filter (fun c => c != 60 && c != 38), c ≠ 60 ∧ c ≠ 38 := by
        intro c hc
        have h := (List.mem_filter.1 hc).2
        simpa using h
      have hTz : (((lst s).take k).filter (fun c => c != 60 && c != 38)).length ≤ 200 := by
        have h1 := List.length_filter_le (fun c : UInt8 => c != 60 && c != 38) ((lst s).take k)
        rw [List.length_take] at h1; omega
      generalize ((lst s).take k).filter (fun c => c != 60 && c != 38) = T at *
      have hpl := allM_plain T (fun c hc => (hT1 c hc).1) (fun c hc => (hT1 c hc).2)
      have hpa := parsed_any (mk T) wr (by rw [HW.out]; exact HG.out) (by rw [mk_size]; omega)
      rw [lst_mk, hpl] at hpa
      have HPA := Lib.hid hpa
      clear hpa hpl hT1
      by_cases hks2 : (k : Int) < s.size
      · have hx2 := hx hks2
        clear hx
        go_wp2_with fail
        refine HPA.out.mono ?_
        rintro e w2 ⟨tv, rfl, htr, hbe⟩
        have HBE := Lib.hid hbe
        rw [HW.out] at HBE
        clear hbe
        by_cases hT : T = []
        · subst hT
          rw [if_pos rfl] at htr
          obtain ⟨a0, cap0, hv⟩ := row_nil htr
          subst hv
          have hm0 : mk [] = ⟨#[]⟩ := rfl
          clear htr
          rw [hm0]
          clear hm0
          go_wp2_with fail
          go_ret
          exact ⟨rfl, HBE.out⟩
        · rw [if_neg hT] at htr
          obtain ⟨g, cap, hv, hc0, hc4⟩ := row_one htr
          subst hv
          have hc0' : w2.cell? ⟨g, 0, none⟩ = some (.int .i64 3) := hc0
          have hc4' : w2.cell? ⟨g, 4, none⟩ = some (.string (mk T)) := hc4
          have hy : ¬ (mk T).toList = [] := by rw [toList_mk]; exact hT
          have hy2 : ((mk T).toList == []) = false := beq_eq_false_iff_ne.2 hy
          have hy3 : (mk T).toList.isEmpty = false := by rw [List.isEmpty_eq_false_iff]; exact hy
          clear htr hc0 hc4 hT
          go_wp2_with fail
          go_ret
          exact ⟨rfl, HBE.out⟩
      · clear hx
        go_wp2_with fail
        refine HPA.out.mono ?_
        rintro e w2 ⟨tv, rfl, htr, hbe⟩
        have HBE := Lib.hid hbe
        rw [HW.out] at HBE
        clear hbe
        by_cases hT : T = []
        · subst hT
          rw [if_pos rfl] at htr
          obtain ⟨a0, cap0, hv⟩ := row_nil htr
          subst hv
          have hm0 : mk [] = ⟨#[]⟩ := rfl
          clear htr
          rw [hm0]
          clear hm0
          go_wp2_with fail
          go_ret
          exact ⟨rfl, HBE.out⟩
        · rw [if_neg hT] at htr
          obtain ⟨g, cap, hv, hc0, hc4⟩ := row_one htr
          subst hv
          have hc0' : w2.cell? ⟨g, 0, none⟩ = some (.int .i64 3) := hc0
          have hc4' : w2.cell? ⟨g, 4, none⟩ = some (.string (mk T)) := hc4
          have hy : ¬ (mk T).toList = [] := by rw [toList_mk]; exact hT
          have hy2 : ((mk T).toList == []) = false := beq_eq_false_iff_ne.2 hy
          have hy3 : (mk T).toList.isEmpty = false := by rw [List.isEmpty_eq_false_iff]; exact hy
          clear htr hc0 hc4 hT
          go_wp2_with fail
          go_ret
          exact ⟨rfl, HBE.out⟩

end Go.Proofs.YtniiaaghimmiaaaDoor
