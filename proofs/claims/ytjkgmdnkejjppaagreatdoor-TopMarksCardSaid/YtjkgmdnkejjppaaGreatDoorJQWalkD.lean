/- Walks of marks: Check, fault. -/
import Derived.Test.YtjkgmdnkejjppaaGreatDoorJQWalkC
import Derived.Test.YtjkgmdnkejjppaaGreatDoorJQViewB
import Derived.Test.YtjkgmdnkejjppaaGreatDoorJQLawB
import Derived.Test.YtjkgmdnkejjppaaGreatDoorGl
import Derived.Test.YtjkgmdnkejjppaaGreatDoorShelfC
import Derived.Lib.LaidTab
namespace Go.Proofs.YtjkgmdnkejjppaaGreatDoor
open Go Go.RowKit

/-- The table of spaces that strings.Fields reads. -/
def SpTab (w : World) : Prop := Lib.TabIs Tryz.prog w "strings.asciiSpace" .u8 Lib.asciiSpaceTab ∧ 10 ≤ w.heap.size
theorem gSpace : Tryz.prog.globalNamed "strings.asciiSpace" = some 2 := by kernel_rfl
theorem SpTab.below {B : Nat} {w w' : World} (h : SpTab w) (hb : Below B w w') (hB : 10 ≤ B) : SpTab w' := by
  refine ⟨?_, Nat.le_trans h.2 hb.size⟩
  have h1 := h.1
  unfold Lib.TabIs World.var? at *
  rw [gSpace] at *
  simp only [Option.bind_some] at *
  rw [hb.block 2 (by omega)]
  exact h1

/-- Names that no mark may have. -/
def markOdd : List Bytes := [[98, 114], [104, 114], [105, 109, 103], [105, 110, 112, 117, 116], [115, 99, 114, 105, 112, 116], [115, 116, 121, 108, 101], [116, 101, 120, 116, 97, 114, 101, 97], [116, 105, 116, 108, 101]]
abbrev markOddV : Array Value := #[.string ⟨#[98, 114]⟩, .string ⟨#[104, 114]⟩, .string ⟨#[105, 109, 103]⟩, .string ⟨#[105, 110, 112, 117, 116]⟩, .string ⟨#[115, 99, 114, 105, 112, 116]⟩, .string ⟨#[115, 116, 121, 108, 101]⟩, .string ⟨#[116, 101, 120, 116, 97, 114, 101, 97]⟩, .string ⟨#[116, 105, 116, 108, 101]⟩]
abbrev oddText : ByteArray := ⟨#[98, 114, 32, 104, 114, 32, 105, 109, 103, 32, 105, 110, 112, 117, 116, 32, 115, 99, 114, 105, 112, 116, 32, 115, 116, 121, 108, 101, 32, 116, 101, 120, 116, 97, 114, 101, 97, 32, 116, 105, 116, 108, 101]⟩
theorem oddText_fields : Lib.fields oddText.data.toList = markOdd := by decide
theorem oddText_ascii : ∀ (j : Nat) b, oddText.data.toList[j]? = some b → b.toNat < 128 := by
  intro j b h
  have h1 : ∀ b ∈ oddText.data.toList, b.toNat < 128 := by decide
  exact h1 b (List.mem_of_getElem? h)
theorem fields_any (w : World) (h : SpTab w) :
    Calls Tryz.prog 55 #[.string oddText] w fun e w' => e = .returned (.slice (some ⟨w.heap.size, 0, none⟩) 8 8) ∧ w' = w.alloc (.cells markOddV 9) := by
  have h1 := Any.strings_Fields Tryz.lays157 (by kernel_rfl) (by kernel_rfl) oddText w (by decide) oddText_ascii h.1
  rw [oddText_fields] at h1
  exact h1

theorem enter_check1 : ∀ args w, (callFunc 56 args).run Tryz.prog w = .ok (.enter 56 args) w := enters_of Tryz.func56 (by kernel_rfl) rfl
theorem enter_norm1 : ∀ args w, (callFunc 45 args).run Tryz.prog w = .ok (.enter 45 args) w := enters_of Tryz.func45 (by kernel_rfl) rfl
theorem enter_nest1 : ∀ args w, (callFunc 49 args).run Tryz.prog w = .ok (.enter 49 args) w := enters_of Tryz.func49 (by kernel_rfl) rfl

theorem check1_any (m : Bytes) (n : Nat) (ov : Value) (l : List Bytes) (hl : l.length ≤ 1000000) (w : World) (hn : w.cell? ⟨n, 0, none⟩ = some ov) (hv : SView w ov l) :
    Calls Tryz.prog 56 (#[.string (mk m)] ++ #[.pointer (some ⟨n, 0, none⟩)]) w fun e w' => e = .returned (.bool (!nameM m || l.contains m)) ∧ Below w.heap.size w w' := by
  have HN := Lib.hid (name_any (mk m) w)
  rw [lst_mk] at HN
  have HV := Lib.hid hv
  have hlt := block_lt_of_cell hn
  change Calls Tryz.prog _ #[.string (mk m), .pointer (some ⟨n, 0, none⟩)] w _
  cases hm : nameM m with
  | false =>
    rw [hm] at HN
    clear hv hm
    go_enter Tryz.func56, Tryz.ntmps56
    go_wp2_with fail
    refine HN.out.mono ?_
    rintro e w1 ⟨rfl, hb⟩
    have HB := Lib.hid hb
    clear hb
    go_wp2_with fail
    go_ret
    exact ⟨rfl, HB.out⟩
  | true =>
    rw [hm] at HN
    clear hv hm
    go_enter Tryz.func56, Tryz.ntmps56
    go_wp2_with fail
    refine HN.out.mono ?_
    rintro e w1 ⟨rfl, hb⟩
    have hn1 : w1.cell? ⟨n, 0, none⟩ = some ov := (hb.cell (p := ⟨n, 0, none⟩) hlt).trans hn
    have HC := Lib.hid (containsV_any ov l m hl w1 (HV.out.older (Older.of_below hb)))
    have HB := Lib.hid hb
    clear hb hn
    go_wp2_with fail
    refine HC.out.mono ?_
    rintro e w2 ⟨rfl, hw⟩
    rw [← hw]
    clear hw
    go_wp2_with fail
    go_ret
    exact ⟨by simp, HB.out⟩

set_option maxHeartbeats 4000000 in
set_option maxRecDepth 100000 in
theorem mcheck_any (v : Value) (l : List Bytes) (hl : l.length ≤ 4) (hok : ∀ m ∈ l, nameM m = true ∧ m ∉ markOdd) (hnd : l.Nodup) (w : World) (hv : SView w v l) (ht : SpTab w) :
    Calls Tryz.prog 31 #[v] w fun e w' => e = .returned (.int .i64 0) ∧ Below w.heap.size w w' := by
  obtain ⟨⟨a, e0, rfl⟩, -⟩ := id hv
  have HV := Lib.hid hv
  have HT := Lib.hid ht
  have HOK := Lib.hid hok
  have HND := Lib.hid hnd
  clear hv ht hok hnd
  have hl4 : ¬ (4 : Int) < l.length := by omega
  go_enter Tryz.func31, Tryz.ntmps31
  go_wp2_with fail
  refine (fields_any _ (HT.out.below (B := w.heap.size) (by first | exact (Below.refl _ _).alloc (Nat.le_refl _) _ | exact Below.refl _ _) HT.out.2)).mono ?_
  rintro e w' ⟨rfl, rfl⟩
  obtain ⟨w2, hw2⟩ : ∃ w2, w2 = (w.alloc (.cells markOddV 9)).alloc (.cells #[.slice (some ⟨w.heap.size, 0, none⟩) 8 8] 29) := ⟨_, rfl⟩
  have hb2 : Below w.heap.size w w2 := by rw [hw2]; exact ((Below.refl _ _).alloc (Nat.le_refl _) _).alloc (by simp) _
  have hodd : w2.cell? ⟨w.heap.size + 1, 0, none⟩ = some (.slice (some ⟨w.heap.size, 0, none⟩) 8 8) := by
    have h := heap_alloc_new (w.alloc (.cells markOddV 9)) (.cells #[.slice (some ⟨w.heap.size, 0, none⟩) 8 8] 29)
    rw [← hw2] at h
    have e : (w.alloc (.cells markOddV 9)).heap.size = w.heap.size + 1 := by simp
    rw [e] at h
    rw [Lib.cell_of_heap h]; rfl
  have hov : SView w2 (.slice (some ⟨w.heap.size, 0, none⟩) 8 8) markOdd := by
    refine ⟨⟨_, 0, rfl⟩, fun i p hi => ⟨w.heap.size, 0, 0, rfl, ?_⟩⟩
    have h := heap_alloc_new w (.cells markOddV 9)
    have h' : w2.heap[w.heap.size]? = some (.cells markOddV 9 (0, 0)) := by
      rw [hw2]
      exact (((Below.refl _ (w.alloc (.cells markOddV 9))).alloc (Nat.le_refl _) _).block _ (by simp)).trans h
    refine ⟨⟨_, h'⟩, ?_⟩
    rw [Nat.zero_add, Lib.cell_of_heap h', ← Array.getElem?_toList, show markOddV.toList = markOdd.map (fun p => .string (mk p)) from rfl, List.getElem?_map, hi]; rfl
  have hanyF : (l.any fun m => !nameM m || markOdd.contains m) = false := by
    rw [List.any_eq_false]
    intro m hm
    obtain ⟨h1, h2⟩ := HOK.out m hm
    rw [h1]
    simpa using h2
  have hcl : ∀ W m, m ∈ l → Below w2.heap.size w2 W → Calls Tryz.prog 56 (#[.string (mk m)] ++ #[.pointer (some ⟨w.heap.size + 1, 0, none⟩)]) W fun e w' => e = .returned (.bool (!nameM m || markOdd.contains m)) ∧ Below W.heap.size W w' := fun W m _ hb =>
    check1_any m (w.heap.size + 1) _ markOdd (by decide) W ((hb.cell (p := ⟨w.heap.size + 1, 0, none⟩) (block_lt_of_cell hodd)).trans hodd) (hov.older (Older.of_below hb))
  have HCF := Lib.hid (containsFuncV_any 56 #[.pointer (some ⟨w.heap.size + 1, 0, none⟩)] enter_check1 (fun m => !nameM m || markOdd.contains m) _ l (by omega) w2 (HV.out.older (Older.of_below hb2)) hcl)
  rw [hanyF] at HCF
  have HB2 := Lib.hid hb2
  have HW2 := Lib.hid hw2
  clear hb2 hodd hov hanyF hcl hw2
  go_wp2_with fail
  rw [← HW2.out]
  refine HCF.out.mono ?_
  rintro e w3 ⟨rfl, hb3⟩
  have HB3 := Lib.hid (HB2.out.trans (hb3.mono HB2.out.size))
  have HV3 := Lib.hid (HV.out.older (Older.of_below HB3.out))
  clear hb3 HCF HW2
  go_wp2_with fail
  go_loop [15] (fun i => ∃ k : Nat, k ≤ l.length ∧ i = .int .i64 k) (fun i => l.length - (intOf i).toNat)
  case atStart => exact ⟨0, by omega, rfl⟩
  case round =>
    obtain ⟨k, hk, rfl⟩ := hrel
    by_cases hlt : k < l.length
    · obtain ⟨m, hm⟩ : ∃ x, l[k]? = some x := ⟨_, List.getElem?_eq_getElem hlt⟩
      obtain ⟨g, o, e1, hv, _, hc⟩ := HV3.out.2 k m hm
      obtain rfl : a = some ⟨g, o, none⟩ := by simp at hv; exact hv.1
      have k0 : (0 : Int) ≤ k := by omega
      have k1 : (k : Int) < l.length := by omega
      have HCV := Lib.hid (containsV_any _ (l.take k) m (by rw [List.length_take]; omega) w3 (HV3.out.take k hk))
      have hnot : (l.take k).contains m = false := by
        cases h : (l.take k).contains m with
        | false => rfl
        | true =>
          rw [List.contains_iff_mem] at h
          obtain ⟨j, hj, he⟩ := List.mem_take_iff_getElem.1 h
          have hjl : j < l.length := by omega
          have h1 : l[j]? = some m := by rw [List.getElem?_eq_getElem hjl, he]
          have := (List.getElem?_inj hjl HND.out).1 (h1.trans hm.symm)
          omega
      rw [hnot] at HCV
      clear hv hm hnot
      go_wp2_with fail
      refine HCV.out.mono ?_
      rintro e w' ⟨rfl, hw⟩
      rw [← hw]
      clear hw
      go_wp2_with fail
      go_round
      case rel => exact ⟨k + 1, by omega, by go_num⟩
      case measure => simp [intOf]; omega
    · obtain rfl : k = l.length := by omega
      go_wp2_with fail
      go_ret
      exact ⟨rfl, HB3.out⟩
end Go.Proofs.YtjkgmdnkejjppaaGreatDoor
