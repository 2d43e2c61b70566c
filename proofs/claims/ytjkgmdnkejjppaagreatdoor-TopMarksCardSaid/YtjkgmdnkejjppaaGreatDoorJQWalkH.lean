/- Walks of marks: Norm, Nest, Flat, at the marks of the row. -/
import Derived.Test.YtjkgmdnkejjppaaGreatDoorJQWalkE
import Derived.Test.YtjkgmdnkejjppaaGreatDoorJQWalkF
import Derived.Test.YtjkgmdnkejjppaaGreatDoorJQWalkG
namespace Go.Proofs.YtjkgmdnkejjppaaGreatDoor
open Go Go.RowKit

theorem rMarks_names : ∀ m ∈ rMarks, nameM m = true ∧ m ∉ markOdd := by decide
theorem rMarks_nodup : rMarks.Nodup := by decide

theorem mfault_any (mv v : Value) (l : List TRun) (hl : l.length ≤ 60) (w : World) (hmv : SView w mv rMarks) (hv : RView w v l) (ht : SpTab w) :
    Calls Tryz.prog 22 #[mv, v] w fun e w' => e = .returned (.int .i64 0) ∧ Below w.heap.size w w' := by
  obtain ⟨⟨a, e0, rfl⟩, -⟩ := id hv
  have HC := Lib.hid (mcheck_any mv rMarks (by decide) rMarks_names rMarks_nodup w hmv ht)
  have hl4 : ¬ (60 : Int) < l.length := by omega
  clear hv hmv ht
  go_enter Tryz.func22, Tryz.ntmps22
  go_wp2_with fail
  refine HC.out.mono ?_
  rintro e w1 ⟨rfl, hb⟩
  have HB := Lib.hid hb
  clear hb
  go_wp2_with fail
  go_ret
  exact ⟨rfl, HB.out⟩

theorem mnorm_any (mv v : Value) (l : List TRun) (hl : l.length ≤ 60) (hin : ∀ r ∈ l, r.marks.length ≤ 1000 ∧ ∀ m ∈ r.marks, m ∈ rMarks) (hsz : (l.map fun r => r.text.length).sum ≤ 1000000) (w : World) (hmv : SView w mv rMarks) (hv : RView w v l) (ht : SpTab w) :
    Calls Tryz.prog 9 #[mv, v] w fun e w' => ∃ tv, e = .returned (.tuple #[tv, .int .i64 0]) ∧ RunOwn w.heap.size w' tv (normM rMarks l) ∧ Below w.heap.size w w' := by
  have HC := Lib.hid (mfault_any mv v l hl w hmv hv ht)
  have HN := Lib.hid (fun W (hb : Below w.heap.size w W) => norm_any mv v rMarks l (by decide) (by omega) hin hsz W (hmv.older (Older.of_below hb)) (hv.older (Older.of_below hb)))
  clear hv hmv ht hin
  go_enter Tryz.func9, Tryz.ntmps9
  go_wp2_with fail
  refine HC.out.mono ?_
  rintro e w1 ⟨rfl, hb⟩
  have HB := Lib.hid hb
  have HN1 := Lib.hid (HN.out w1 hb)
  clear hb
  go_wp2_with fail
  refine HN1.out.mono ?_
  rintro e w2 ⟨tv, rfl, hown, hb2⟩
  have HB2 := Lib.hid (HB.out.trans (hb2.mono HB.out.size))
  have HO := Lib.hid (show RunOwn w.heap.size w2 tv (normM rMarks l) from hown.mono HB.out.size)
  clear hb2 hown
  go_wp2_with fail
  exact bodyPost_ret (v := .tuple #[tv, .int .i64 0]) (by simp [results, Tryz.results9, go_sem]) rfl ⟨_, rfl, HO.out, HB2.out⟩

theorem mnest_any (mv v : Value) (l : List TRun) (hl : l.length ≤ 60) (hin : ∀ r ∈ l, r.marks.length ≤ 1000 ∧ ∀ m ∈ r.marks, m ∈ rMarks) (hok : ∀ r ∈ normM rMarks l, RunIn 0 4 r) (hsz : (l.map fun r => r.text.length).sum ≤ 1000000) (w : World) (hmv : SView w mv rMarks) (hv : RView w v l) (ht : SpTab w) :
    Calls Tryz.prog 10 #[mv, v] w fun e w' => ∃ tv, e = .returned (.tuple #[tv, .int .i64 0]) ∧ NodeView 5 w' tv (nestD 4 (normM rMarks l) 0) ∧ Below w.heap.size w w' := by
  have HC := Lib.hid (mnorm_any mv v l hl hin hsz w hmv hv ht)
  have HN := Lib.hid (fun W tv (h : RView W tv (normM rMarks l)) => nest_any 4 0 tv (normM rMarks l) W hok (by have := (normR_len rMarks l); unfold normM; rw [List.length_reverse]; omega) (by omega) h)
  clear hv hmv ht hin hok
  go_enter Tryz.func10, Tryz.ntmps10
  go_wp2_with fail
  refine HC.out.mono ?_
  rintro e w1 ⟨tv, rfl, hown, hb⟩
  have HB := Lib.hid hb
  have HN1 := Lib.hid (HN.out w1 tv hown.view)
  clear hb hown
  go_wp2_with fail
  refine HN1.out.mono ?_
  rintro e w2 ⟨nv, rfl, hown, hb2⟩
  have HB2 := Lib.hid (HB.out.trans (hb2.mono HB.out.size))
  have HO := Lib.hid (show NodeView 5 w2 nv (nestD 4 (normM rMarks l) 0) from hown.view.any)
  clear hb2 hown
  go_wp2_with fail
  exact bodyPost_ret (v := .tuple #[nv, .int .i64 0]) (by simp [results, Tryz.results10, go_sem]) rfl ⟨_, rfl, HO.out, HB2.out⟩

theorem mflat_any (d : Nat) (mv v : Value) (l : List TNode) (hg : GoodM 4 l) (hc : countL l ≤ 500) (w : World) (hmv : SView w mv rMarks) (hv : NodeView d w v l) (ht : SpTab w)
    (hl : (flatL [] l).length ≤ 60) (hin : ∀ r ∈ flatL [] l, r.marks.length ≤ 1000 ∧ ∀ m ∈ r.marks, m ∈ rMarks) (hsz : ((flatL [] l).map fun r => r.text.length).sum ≤ 1000000) :
    Calls Tryz.prog 14 #[mv, v] w fun e w' => ∃ tv, e = .returned (.tuple #[tv, .int .i64 0]) ∧ RunOwn w.heap.size w' tv (normM rMarks (flatL [] l)) ∧ Below w.heap.size w w' := by
  have HC := Lib.hid (mcheck_any mv rMarks (by decide) rMarks_names rMarks_nodup w hmv ht)
  have HF := Lib.hid (fun W (hb : Below w.heap.size w W) => flat_any 4 d mv v (.slice none 0 0) l [] W hg (by omega) (by simp) (hmv.older (Older.of_below hb)) (SView.nil W) (NodeIn.older hv (Older.of_below hb)))
  have HN := Lib.hid (fun W tv (hb : Below w.heap.size w W) (h : RView W tv (flatL [] l)) => mnorm_any mv tv (flatL [] l) hl hin hsz W (hmv.older (Older.of_below hb)) h (ht.below hb ht.2))
  clear hv hmv ht hin hg
  go_enter Tryz.func14, Tryz.ntmps14
  go_wp2_with fail
  refine HC.out.mono ?_
  rintro e w1 ⟨rfl, hb⟩
  have HB := Lib.hid hb
  have HF1 := Lib.hid (HF.out w1 hb)
  clear hb
  go_wp2_with fail
  refine HF1.out.mono ?_
  rintro e w2 ⟨tv, rfl, hown, hb2⟩
  have HB2 := Lib.hid (HB.out.trans (hb2.mono HB.out.size))
  have HN2 := Lib.hid (HN.out w2 tv HB2.out hown.view)
  clear hb2 hown
  go_wp2_with fail
  refine HN2.out.mono ?_
  rintro e w3 ⟨yv, rfl, hown, hb3⟩
  have HB3 := Lib.hid (HB2.out.trans (hb3.mono HB2.out.size))
  have HO := Lib.hid (show RunOwn w.heap.size w3 yv (normM rMarks (flatL [] l)) from hown.mono HB2.out.size)
  clear hb3 hown
  go_wp2_with fail
  exact bodyPost_ret (v := .tuple #[yv, .int .i64 0]) (by simp [results, Tryz.results14, go_sem]) rfl ⟨_, rfl, HO.out, HB3.out⟩
end Go.Proofs.YtjkgmdnkejjppaaGreatDoor
