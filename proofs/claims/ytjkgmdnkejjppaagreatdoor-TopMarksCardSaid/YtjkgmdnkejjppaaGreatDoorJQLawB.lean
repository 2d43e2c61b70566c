/- The runs that are drawn. Nothing of the program here. -/
import Derived.Test.YtjkgmdnkejjppaaGreatDoorJQLaw
namespace Go.Proofs.YtjkgmdnkejjppaaGreatDoor

def rTexts : List Bytes := [[], [120], [121, 122], [32]]
def rMarks : List Bytes := [[98], [101, 109], [105]]
def pickI (ps : List Bytes) (a : Int) : Bytes := ps.getD (a % ps.length).toNat []
def runOf (x : Int) : TRun := ⟨pickI rTexts x, (List.range (x.tdiv 4 % 4).toNat).map fun (k : Nat) => pickI rMarks (x.tdiv (16 + (k : Int)))⟩
def runsM (l : List Int) (n : Nat) : List TRun := (l.take n).map runOf
theorem pickI_mem {ps : List Bytes} (h : ps ≠ []) (a : Int) : pickI ps a ∈ ps := by
  unfold pickI
  have h0 : 0 < ps.length := List.length_pos_iff.2 h
  have h1 := Int.emod_nonneg a (show (ps.length : Int) ≠ 0 by omega)
  have h2 := Int.emod_lt_of_pos a (show (0 : Int) < ps.length by omega)
  have h3 : (a % ps.length).toNat < ps.length := by omega
  rw [List.getD_eq_getElem?_getD, List.getElem?_eq_getElem h3]
  exact List.getElem_mem h3
theorem pickI_get {ps : List Bytes} (h : ps ≠ []) (a : Int) : ps[(a % ps.length).toNat]? = some (pickI ps a) := by
  unfold pickI
  have h0 : 0 < ps.length := List.length_pos_iff.2 h
  have h1 := Int.emod_nonneg a (show (ps.length : Int) ≠ 0 by omega)
  have h2 := Int.emod_lt_of_pos a (show (0 : Int) < ps.length by omega)
  have h3 : (a % ps.length).toNat < ps.length := by omega
  rw [List.getD_eq_getElem?_getD, List.getElem?_eq_getElem h3]; rfl
theorem runOf_text (x : Int) : (runOf x).text.length ≤ 2 := by
  have h := pickI_mem (ps := rTexts) (by decide) x
  have : ∀ t ∈ rTexts, t.length ≤ 2 := by decide
  exact this _ h
theorem runOf_marks (x : Int) : (runOf x).marks.length ≤ 3 ∧ ∀ m ∈ (runOf x).marks, m ∈ rMarks := by
  constructor
  · show ((List.range (x.tdiv 4 % 4).toNat).map _).length ≤ 3
    have h2 := Int.emod_lt_of_pos (x.tdiv 4) (show (0 : Int) < 4 by omega)
    rw [List.length_map, List.length_range]; omega
  · intro m hm
    obtain ⟨k, _, rfl⟩ := List.mem_map.1 hm
    exact pickI_mem (by decide) _
theorem rMarks_ok : ∀ m ∈ rMarks, markOk m = true := by decide
end Go.Proofs.YtjkgmdnkejjppaaGreatDoor
