/- The reference's machine for tags: what each of its states means for the bytes that are left. Nothing of the program here. -/
import Derived.Test.YtbgonaacheemcaaDoorTag
namespace Go.Proofs.YtbgonaacheemcaaDoor

theorem brkR_hit {c : Bytes} {b : UInt8} (l : Bytes) (h : c.contains b = true) : brkR c (b :: l) = b :: l := by
  unfold brkR; rw [List.dropWhile_cons, h]; rfl
theorem brkR_miss {c : Bytes} {b : UInt8} (l : Bytes) (h : c.contains b = false) : brkR c (b :: l) = brkR c l := by
  unfold brkR; rw [List.dropWhile_cons, h]; rfl
theorem skp_hit {c : Bytes} {b : UInt8} (l : Bytes) (h : c.contains b = true) : skp c (b :: l) = skp c l := by
  unfold skp; rw [List.dropWhile_cons, h]; rfl
theorem skp_miss {c : Bytes} {b : UInt8} (l : Bytes) (h : c.contains b = false) : skp c (b :: l) = b :: l := by
  unfold skp; rw [List.dropWhile_cons, h]; rfl
theorem skd_hit {c : Bytes} {b : UInt8} (l : Bytes) (h : c.contains b = true) : skd c (b :: l) = b :: skd c l := by
  unfold skd; rw [List.takeWhile_cons, h]; rfl
theorem skd_miss {c : Bytes} {b : UInt8} (l : Bytes) (h : c.contains b = false) : skd c (b :: l) = [] := by
  unfold skd; rw [List.takeWhile_cons, h]; rfl
theorem skp_le' (c l : Bytes) : (skp c l).length ≤ l.length := (List.dropWhile_suffix _).length_le

abbrev Out := Option (List TAttr × Bool × Bytes)
def tagT (r : Bytes) (l : List TAttr) : Out := tagLoop (r.length + 1) r l
theorem tagLoop_fuel : ∀ (n m : Nat) (r : Bytes) (l : List TAttr), r.length < n → r.length < m → tagLoop n r l = tagLoop m r l
  | 0, _, _, _, h, _ => by omega
  | _ + 1, 0, _, _, _, h => by omega
  | n + 1, m + 1, r, l, h1, h2 => by
    rw [tagLoop_succ, tagLoop_succ]
    have hs := skp_le' tagGap r
    cases hx : skp tagGap r with
    | nil => rfl
    | cons c r2 =>
      rw [hx, List.length_cons] at hs
      have ha := attrM_le c r2
      have ih := tagLoop_fuel n m (attrM (c :: r2)).2.2 (addAttr l (attrM (c :: r2)).1) (by omega) (by omega)
      dsimp only
      rw [ih]
/-- Ahead of an attribute. -/
def mAhead (l : List TAttr) (s : Bool) (r : Bytes) : Out := match skp tagGap r with
  | [] => none
  | c :: r2 => if c = 62 then some (l, (if skd tagGap r = [] then s else (skd tagGap r).getLast? == some 47), r2)
    else if (attrM (c :: r2)).2.1 then tagT (attrM (c :: r2)).2.2 (addAttr l (attrM (c :: r2)).1) else none
def mVal (l : List TAttr) (nm : Bytes) (x : Bytes × Bool × Bytes) : Out := if x.2.1 then mAhead (addAttr l ⟨small nm, x.1⟩) false x.2.2 else none
def mBehind (l : List TAttr) (nm r : Bytes) : Out := match skp spaces r with
  | [] => none
  | e :: r4 => if e = 61 then mVal l nm (valueM r4) else mAhead (addAttr l ⟨small nm, []⟩) false (e :: r4)
def mAttr (l : List TAttr) (nm r : Bytes) : Out := mBehind l (nm ++ brk attrEnd r) (brkR attrEnd r)
def mQuote (l : List TAttr) (nm : Bytes) (q : UInt8) (v r : Bytes) : Out := match brkR [q] r with
  | [] => none
  | _ :: r3 => mAhead (addAttr l ⟨small nm, unesc (v ++ brk [q] r)⟩) false r3
def bareEnd : Bytes := spaces ++ [62]
def mBare (l : List TAttr) (nm v r : Bytes) : Out := mAhead (addAttr l ⟨small nm, unesc (v ++ brk bareEnd r)⟩) false (brkR bareEnd r)

theorem tagT_ahead (r : Bytes) (l : List TAttr) : tagT r l = mAhead l false r := by
  unfold tagT mAhead
  rw [tagLoop_succ]
  have hs := skp_le' tagGap r
  cases hx : skp tagGap r with
  | nil => rfl
  | cons c r2 =>
    rw [hx, List.length_cons] at hs
    have ha := attrM_le c r2
    dsimp only
    split
    · by_cases h : skd tagGap r = []
      · rw [if_pos h, h]; rfl
      · rw [if_neg h]
    · rw [tagLoop_fuel r.length ((attrM (c :: r2)).2.2.length + 1) (attrM (c :: r2)).2.2 _ (by omega) (by omega)]
      rfl
theorem mAhead_nil (l : List TAttr) (s : Bool) : mAhead l s [] = none := rfl
theorem mAhead_gap (l : List TAttr) (s : Bool) (b : UInt8) (r : Bytes) (h : tagGap.contains b = true) : mAhead l s (b :: r) = mAhead l (b == 47) r := by
  unfold mAhead
  rw [skp_hit r h, skd_hit r h]
  cases skp tagGap r with
  | nil => rfl
  | cons c r2 =>
    dsimp only
    split
    · by_cases h2 : skd tagGap r = []
      · simp [h2]
      · rw [if_neg (by simp), if_neg h2]
        cases hy : skd tagGap r with
        | nil => exact absurd hy h2
        | cons x y => rw [List.getLast?_cons_cons]
    · rfl
theorem mAhead_end (l : List TAttr) (s : Bool) (r : Bytes) : mAhead l s (62 :: r) = some (l, s, r) := by
  unfold mAhead
  rw [skp_miss r (by decide), skd_miss r (by decide)]
  rfl
theorem mAhead_skip (l : List TAttr) : ∀ r : Bytes, mAhead l false r = mAhead l false (skp spaces r)
  | [] => rfl
  | b :: r => by
    by_cases h : spaces.contains b = true
    · rw [skp_hit r h, ← mAhead_skip l r, mAhead_gap l false b r (by unfold tagGap; rw [List.contains_eq_mem] at *; simp only [decide_eq_true_eq, List.mem_append] at *; exact .inl h)]
      have : (b == 47) = false := by
        rw [beq_eq_false_iff_ne]; rintro rfl; revert h; decide
      rw [this]
    · rw [skp_miss r (Bool.eq_false_iff.2 h)]
theorem mAhead_attr (l : List TAttr) (s : Bool) (b : UInt8) (r : Bytes) (h : tagGap.contains b = false) (h2 : b ≠ 62) : mAhead l s (b :: r) = mAttr l [b] r := by
  unfold mAttr mBehind
  conv => lhs; unfold mAhead
  rw [skp_miss r h, skd_miss r h]
  dsimp only
  rw [if_neg h2, attrM_cons]
  cases hx : skp spaces (brkR attrEnd r) with
  | nil =>
    dsimp only
    rw [if_pos rfl, tagT_ahead, mAhead_skip, hx, mAhead_nil]
  | cons e r4 =>
    dsimp only
    by_cases he : e = 61
    · simp only [if_pos he]
      unfold mVal
      simp only [tagT_ahead]
      rfl
    · simp only [if_neg he, if_true]
      rw [tagT_ahead, mAhead_skip, hx]
      rfl
theorem mAttr_nil (l : List TAttr) (nm : Bytes) : mAttr l nm [] = none := rfl
theorem mAttr_in (l : List TAttr) (nm : Bytes) (b : UInt8) (r : Bytes) (h : attrEnd.contains b = false) : mAttr l nm (b :: r) = mAttr l (nm ++ [b]) r := by
  unfold mAttr
  rw [brk_miss r h, brkR_miss r h, List.append_assoc]; rfl
theorem mAttr_out (l : List TAttr) (nm : Bytes) (b : UInt8) (r : Bytes) (h : attrEnd.contains b = true) : mAttr l nm (b :: r) = mBehind l nm (b :: r) := by
  unfold mAttr
  rw [brk_hit r h, brkR_hit r h, List.append_nil]
theorem mBehind_nil (l : List TAttr) (nm : Bytes) : mBehind l nm [] = none := rfl
theorem mBehind_sp (l : List TAttr) (nm : Bytes) (b : UInt8) (r : Bytes) (h : spaces.contains b = true) : mBehind l nm (b :: r) = mBehind l nm r := by
  unfold mBehind
  rw [skp_hit r h]
theorem mBehind_eq (l : List TAttr) (nm r : Bytes) : mBehind l nm (61 :: r) = mVal l nm (valueM r) := by
  unfold mBehind
  rw [skp_miss r (by decide)]
  rfl
theorem mBehind_else (l : List TAttr) (nm : Bytes) (b : UInt8) (r : Bytes) (h : spaces.contains b = false) (h2 : b ≠ 61) : mBehind l nm (b :: r) = mAhead (addAttr l ⟨small nm, []⟩) false (b :: r) := by
  unfold mBehind
  rw [skp_miss r h]
  dsimp only
  rw [if_neg h2]
theorem mVal_nil (l : List TAttr) (nm : Bytes) : mVal l nm (valueM []) = none := rfl
theorem valueM_sp (b : UInt8) (r : Bytes) (h : spaces.contains b = true) : valueM (b :: r) = valueM r := by
  unfold valueM
  rw [skp_hit r h]
theorem mVal_quote (l : List TAttr) (nm : Bytes) (b : UInt8) (r : Bytes) (h : b = 34 ∨ b = 39) : mVal l nm (valueM (b :: r)) = mQuote l nm b [] r := by
  have hs : spaces.contains b = false := by rcases h with rfl | rfl <;> decide
  unfold valueM mQuote
  rw [skp_miss r hs, valueT, if_pos h]
  cases brkR [b] r with
  | nil => rfl
  | cons c r3 => rfl
theorem mVal_bare (l : List TAttr) (nm : Bytes) (b : UInt8) (r : Bytes) (hs : spaces.contains b = false) (h : ¬ (b = 34 ∨ b = 39)) : mVal l nm (valueM (b :: r)) = mBare l nm [] (b :: r) := by
  unfold valueM
  rw [skp_miss r hs, valueT, if_neg h]
  rfl
theorem mQuote_nil (l : List TAttr) (nm : Bytes) (q : UInt8) (v : Bytes) : mQuote l nm q v [] = none := rfl
theorem mQuote_end (l : List TAttr) (nm : Bytes) (q : UInt8) (v r : Bytes) : mQuote l nm q v (q :: r) = mAhead (addAttr l ⟨small nm, unesc v⟩) false r := by
  unfold mQuote
  rw [brkR_hit r (by simp), brk_hit r (by simp), List.append_nil]
theorem mQuote_in (l : List TAttr) (nm : Bytes) (q : UInt8) (v : Bytes) (b : UInt8) (r : Bytes) (h : b ≠ q) : mQuote l nm q v (b :: r) = mQuote l nm q (v ++ [b]) r := by
  have hc : ([q] : Bytes).contains b = false := by simp [h]
  unfold mQuote
  rw [brkR_miss r hc, brk_miss r hc, List.append_assoc]; rfl
theorem mBare_nil (l : List TAttr) (nm v : Bytes) : mBare l nm v [] = none := rfl
theorem mBare_end (l : List TAttr) (nm v : Bytes) (b : UInt8) (r : Bytes) (h : bareEnd.contains b = true) : mBare l nm v (b :: r) = mAhead (addAttr l ⟨small nm, unesc v⟩) false (b :: r) := by
  unfold mBare
  rw [brkR_hit r h, brk_hit r h, List.append_nil]
theorem mBare_in (l : List TAttr) (nm v : Bytes) (b : UInt8) (r : Bytes) (h : bareEnd.contains b = false) : mBare l nm v (b :: r) = mBare l nm (v ++ [b]) r := by
  unfold mBare
  rw [brkR_miss r h, brk_miss r h, List.append_assoc]; rfl

/-- A tag: its name, and what the loop says. -/
def tagR (nm : Bytes) (x : Out) : Option (TTok × Bytes) := x.map fun y => (⟨0, small nm, y.1, y.2.1, []⟩, y.2.2)
def mName (nm r : Bytes) : Option (TTok × Bytes) := tagR (nm ++ brk nameEnd r) (tagT (brkR nameEnd r) [])
theorem mName_nil (nm : Bytes) : mName nm [] = none := rfl
theorem mName_in (nm : Bytes) (b : UInt8) (r : Bytes) (h : nameEnd.contains b = false) : mName nm (b :: r) = mName (nm ++ [b]) r := by
  unfold mName
  rw [brk_miss r h, brkR_miss r h, List.append_assoc]; rfl
theorem mName_out (nm : Bytes) (b : UInt8) (r : Bytes) (h : nameEnd.contains b = true) : mName nm (b :: r) = tagR nm (mAhead [] false (b :: r)) := by
  unfold mName
  rw [brk_hit r h, brkR_hit r h, List.append_nil, tagT_ahead]
/-- The tags of the program are these. -/
theorem tag_loop (r : Bytes) : tagLoop (r.length + 1) (brkR nameEnd r) [] = tagT (brkR nameEnd r) [] :=
  tagLoop_fuel _ _ _ _ (Nat.lt_succ_of_le (List.dropWhile_suffix _).length_le) (Nat.lt_succ_self _)
theorem tagM_start (r : Bytes) : tagM 1 r = (mName [] r).map fun y => (⟨1, y.1.name, y.1.attrs, y.1.self, []⟩, y.2) := by
  unfold tagM mName tagR
  rw [tag_loop, List.nil_append]
  cases tagT (brkR nameEnd r) [] with
  | none => rfl
  | some x => rfl
theorem tagM_end (r : Bytes) : tagM 2 r = (mName [] r).map fun y => (⟨2, y.1.name, [], false, []⟩, y.2) := by
  unfold tagM mName tagR
  rw [tag_loop, List.nil_append]
  cases tagT (brkR nameEnd r) [] with
  | none => rfl
  | some x => rfl
def dedup (l : List TAttr) : List TAttr := l.foldl addAttr []
theorem dedup_snoc (l : List TAttr) (a : TAttr) : dedup (l ++ [a]) = addAttr (dedup l) a := by
  unfold dedup; rw [List.foldl_append]; rfl

end Go.Proofs.YtbgonaacheemcaaDoor
