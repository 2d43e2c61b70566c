/- Joined texts: RLawA RWalkA0. -/
import Derived.Test.YtjkgmdnkejjppaaGreatDoorGd
import Derived.Test.YtjkgmdnkejjppaaGreatDoorGe
/- What the reference says of the letters' names: it is what the program's names say. Nothing of the program here. -/
namespace Go.Proofs.YtjkgmdnkejjppaaGreatDoor

def digR (c : UInt8) : Nat := if 48 ≤ c ∧ c ≤ 57 then c.toNat - 48 else if 97 ≤ c ∧ c ≤ 102 then c.toNat - 87 else if 65 ≤ c ∧ c ≤ 70 then c.toNat - 55 else 99
def isLetR (n : Nat) : Bool := decide (n ≤ 1114111 ∧ (n < 55296 ∨ 57343 < n))
/-- The number that is read: its value, how many digits, the rest. -/
def scanR (base most : Nat) : Nat → Nat → Bytes → Nat × Nat × Bytes
  | n, k, [] => (n, k, [])
  | n, k, c :: r => if digR c < base then scanR base most (if k ≤ most then n * base + digR c else n) (k + 1) r else (n, k, c :: r)
def endR (most at0 : Nat) (x : Nat × Nat × Bytes) : Nat × Nat :=
  if x.2.1 = 0 ∨ most < x.2.1 ∨ x.2.2.head? ≠ some 59 then (0, 0) else (if x.1 = 0 ∨ isLetR x.1 = false then 65533 else x.1, at0 + x.2.1 + 1)
def numR : Bytes → Nat × Nat
  | 38 :: 35 :: x :: r => if x = 120 ∨ x = 88 then endR 6 3 (scanR 16 6 0 0 r) else endR 7 2 (scanR 10 7 0 0 (x :: r))
  | _ => (0, 0)
def namesR : List (Bytes × Nat) := [([38, 97, 109, 112, 59], 38), ([38, 108, 116, 59], 60), ([38, 103, 116, 59], 62), ([38, 113, 117, 111, 116, 59], 34), ([38, 110, 98, 115, 112, 59], 160), ([38, 99, 111, 112, 121, 59], 169)]
def refAtM (l : Bytes) : Nat × Nat := match namesR.find? (fun p => p.1.isPrefixOf l) with
  | some p => (p.2, p.1.length)
  | none => numR l
/-- What the program's names say of a place. -/
def letAt (l : Bytes) : Option (Int × Nat) := match l with
  | [] => none
  | c :: r => if c = 38 ∧ (brk [59] r).length < r.length then (letterM (brk [59] r)).map fun x => (x, (brk [59] r).length + 2) else none

theorem u8nat (a b : UInt8) : (a ≤ b) = (a.toNat ≤ b.toNat) := rfl
theorem dig_eq (base : Nat) (hb : base = 10 ∨ base = 16) (c : UInt8) : digitOf base c = if digR c < base then some (digR c) else none := by
  unfold digitOf digR
  simp only [u8nat]
  have h9 : (57 : UInt8).toNat = 57 := rfl
  have h0 : (48 : UInt8).toNat = 48 := rfl
  have ha : (97 : UInt8).toNat = 97 := rfl
  have hz : (122 : UInt8).toNat = 122 := rfl
  have hf : (102 : UInt8).toNat = 102 := rfl
  have hA : (65 : UInt8).toNat = 65 := rfl
  have hZ : (90 : UInt8).toNat = 90 := rfl
  have hF : (70 : UInt8).toNat = 70 := rfl
  simp only [h9, h0, ha, hz, hf, hA, hZ, hF]
  generalize c.toNat = n
  rcases hb with rfl | rfl
  · repeat' split
    all_goals first | rfl | omega
  · repeat' split
    all_goals first | rfl | omega
theorem dig_semi : ∀ base, base = 10 ∨ base = 16 → ¬ digR 59 < base := by
  intro base h
  rcases h with rfl | rfl <;> decide

/-- All digits: the value is that of digitsFrom, as long as they are not too many. -/
theorem scan_all (base most : Nat) (hb : base = 10 ∨ base = 16) : ∀ (ds r : Bytes) (n k : Nat), (∀ c ∈ ds, digR c < base) → (∀ c, r.head? = some c → ¬ digR c < base) →
    (scanR base most n k (ds ++ r)).2 = (k + ds.length, r) ∧ (k + ds.length ≤ most + 1 → digitsFrom base n ds = some (scanR base most n k (ds ++ r)).1)
  | [], r, n, k, _, hr => by
    cases r with
    | nil => exact ⟨rfl, fun _ => rfl⟩
    | cons c r =>
      have := hr c rfl
      simp [scanR, this, digitsFrom]
  | c :: ds, r, n, k, hd, hr => by
    have hc := hd c (by simp)
    rw [List.cons_append, scanR, if_pos hc]
    obtain ⟨h1, h2⟩ := scan_all base most hb ds r (if k ≤ most then n * base + digR c else n) (k + 1) (fun x hx => hd x (by simp [hx])) hr
    refine ⟨by rw [h1]; simp; omega, fun hk => ?_⟩
    rw [List.length_cons] at hk
    have hk2 : k ≤ most := by omega
    rw [if_pos hk2] at h2 ⊢
    rw [digitsFrom, dig_eq base hb, if_pos hc]
    exact h2 (by omega)
theorem digits_bad (base : Nat) (hb : base = 10 ∨ base = 16) : ∀ (ds : Bytes) (n : Nat), (∃ c ∈ ds, ¬ digR c < base) → digitsFrom base n ds = none
  | [], _, ⟨c, hc, _⟩ => by cases hc
  | x :: ds, n, ⟨c, hc, hn⟩ => by
    rw [digitsFrom, dig_eq base hb]
    split
    · rename_i d hd
      split at hd
      · rename_i hx
        rcases List.mem_cons.1 hc with rfl | hc
        · exact absurd hx hn
        · exact digits_bad base hb ds _ ⟨c, hc, hn⟩
      · cases hd
    · rfl
theorem valid_eq (n : Nat) : (n = 0 ∨ 1114111 < n ∨ Lib.validRune n = false) ↔ (n = 0 ∨ isLetR n = false) := by
  unfold Lib.validRune isLetR
  simp only [decide_eq_false_iff_not]
  omega
theorem not_all {base : Nat} {l : Bytes} (h : ¬ ∀ c ∈ l, digR c < base) : ∃ c ∈ l, ¬ digR c < base := by
  apply Classical.byContradiction
  intro h2
  exact h fun c hc => Classical.byContradiction fun h3 => h2 ⟨c, hc, h3⟩
/-- The numbered letters. -/
theorem num_law (base most at0 : Nat) (hb : base = 10 ∨ base = 16) (d : Bytes) :
    endR most at0 (scanR base most 0 0 d) = (match (if (brk [59] d).length < d.length then (numberedM (brk [59] d) base most).map fun x => (x, at0 + (brk [59] d).length + 1) else none) with | some (x, n) => (x.toNat, n) | none => (0, 0)) := by
  have hsp : brk [59] d ++ brkR [59] d = d := brk_split _ _
  have hrh : ∀ c, (brkR [59] d).head? = some c → c = 59 := by
    intro c hc
    have := List.head?_dropWhile_not (fun b => !([59] : Bytes).contains b) d
    unfold brkR at hc
    rw [hc] at this
    simpa using this
  have hnb : ∀ c ∈ brk [59] d, c ≠ 59 := by
    intro c hc
    have h2 : (fun b => !([59] : Bytes).contains b) c = true := List.all_eq_true.1 List.all_takeWhile c hc
    simpa using h2
  by_cases hlt : (brk [59] d).length < d.length
  · rw [if_pos hlt]
    obtain ⟨r, hr⟩ : ∃ r, brkR [59] d = 59 :: r := by
      cases hx : brkR [59] d with
      | nil => rw [hx, List.append_nil] at hsp; rw [hsp] at hlt; omega
      | cons c r => exact ⟨r, by rw [hrh c (by rw [hx]; rfl)]⟩
    by_cases hall : ∀ c ∈ brk [59] d, digR c < base
    · have hs := scan_all base most hb (brk [59] d) (59 :: r) 0 0 hall (fun c hc => by cases hc; exact dig_semi base hb)
      rw [← hr, hsp] at hs
      obtain ⟨h1, h2⟩ := hs
      generalize scanR base most 0 0 d = X at *
      obtain ⟨n, k, rest⟩ := X
      simp only [Prod.mk.injEq] at h1
      obtain ⟨rfl, rfl⟩ := h1
      unfold endR numberedM
      simp only [hr, List.head?_cons, ne_eq, not_true_eq_false, or_false, Nat.zero_add]
      by_cases h0 : brk [59] d = []
      · rw [h0]; simp
      · have hl0 : (brk [59] d).length ≠ 0 := fun h => h0 (List.eq_nil_of_length_eq_zero h)
        by_cases hmo : most < (brk [59] d).length
        · simp [hmo]
        · have hD := h2 (by omega)
          dsimp only at hD
          have e1 : ¬ ((brk [59] d).length = 0 ∨ most < (brk [59] d).length) := by omega
          have e2 : ¬ (brk [59] d = [] ∨ most < (brk [59] d).length) := by
            rintro (h | h)
            · exact h0 h
            · exact hmo h
          simp only [if_neg e1, if_neg e2, hD]
          have hv := valid_eq n
          by_cases hq : n = 0 ∨ isLetR n = false
          · simp only [if_pos hq, if_pos (hv.2 hq)]
            rfl
          · simp only [if_neg hq, if_neg (fun h => hq (hv.1 h))]
            rfl
    · have hbad := digits_bad base hb (brk [59] d) 0 (not_all hall)
      have hsl : (scanR base most 0 0 d).2.2.head? ≠ some 59 := by
        have hsplit : d.takeWhile (fun c => decide (digR c < base)) ++ d.dropWhile (fun c => decide (digR c < base)) = d := List.takeWhile_append_dropWhile
        have hs := (scan_all base most hb (d.takeWhile fun c => decide (digR c < base)) (d.dropWhile fun c => decide (digR c < base)) 0 0
          (fun c hc => by have h2 : (fun c => decide (digR c < base)) c = true := List.all_eq_true.1 List.all_takeWhile c hc; simpa using h2)
          (fun c hc => by
            have h2 := List.head?_dropWhile_not (fun c => decide (digR c < base)) d
            rw [hc] at h2
            simpa using h2)).1
        rw [hsplit] at hs
        rw [hs]
        intro hx
        -- then all ahead of the sign are digits
        apply hall
        intro c hc
        have hd2 : ∃ q, d.dropWhile (fun c => decide (digR c < base)) = 59 :: q := by
          cases hy : d.dropWhile (fun c => decide (digR c < base)) with
          | nil => rw [hy] at hx; cases hx
          | cons y q => rw [hy] at hx; cases hx; exact ⟨q, rfl⟩
        obtain ⟨q, hq⟩ := hd2
        have : brk [59] d = d.takeWhile (fun c => decide (digR c < base)) := by
          have hw : ∀ x ∈ d.takeWhile (fun c => decide (digR c < base)), (fun b => !([59] : Bytes).contains b) x = true := by
            intro x hx2
            have h2 : (fun c => decide (digR c < base)) x = true := List.all_eq_true.1 List.all_takeWhile x hx2
            have h3 : digR x < base := by simpa using h2
            have : x ≠ 59 := fun e => dig_semi base hb (e ▸ h3)
            simpa using this
          conv => lhs; rw [← hsplit, hq]
          unfold brk
          rw [List.takeWhile_append_of_pos hw]
          simp
        rw [this] at hc
        have h2 : (fun c => decide (digR c < base)) c = true := List.all_eq_true.1 List.all_takeWhile c hc
        simpa using h2
      unfold endR
      rw [if_pos (.inr (.inr hsl))]
      unfold numberedM
      rw [hbad]
      split <;> rename_i h
      · split at h <;> cases h
      · rfl
  · rw [if_neg hlt]
    have hnil : brkR [59] d = [] := by
      cases hx : brkR [59] d with
      | nil => rfl
      | cons c r =>
        have := congrArg List.length hsp
        rw [hx, List.length_append, List.length_cons] at this
        omega
    rw [hnil, List.append_nil] at hsp
    have hsl : (scanR base most 0 0 d).2.2.head? ≠ some 59 := by
      have hmem : ∀ (l : Bytes) n k, (∀ c ∈ l, c ≠ 59) → (scanR base most n k l).2.2.head? ≠ some 59 := by
        intro l
        induction l with
        | nil => intro n k _; simp [scanR]
        | cons c l ih =>
          intro n k h
          rw [scanR]
          split
          · exact ih _ _ fun x hx => h x (by simp [hx])
          · simp only [List.head?_cons]
            intro e
            cases e
            exact h 59 (by simp) rfl
      exact hmem d 0 0 (by rw [← hsp]; exact hnb)
    unfold endR
    rw [if_pos (.inr (.inr hsl))]

def pairOf (x : Option (Int × Nat)) : Nat × Nat := match x with
  | some (x, n) => (x.toNat, n)
  | none => (0, 0)
theorem brk_cons (c : UInt8) (r : Bytes) : brk [59] (c :: r) = if c = 59 then [] else c :: brk [59] r := by
  unfold brk
  rw [List.takeWhile_cons]
  by_cases h : c = 59
  · simp [h]
  · simp [h]
theorem pre_name : ∀ (nm r : Bytes), (∀ c ∈ nm, c ≠ 59) → (nm ++ [59]).isPrefixOf r = decide (brk [59] r = nm ∧ nm.length < r.length)
  | [], [], _ => by simp
  | [], c :: r, _ => by
    rw [brk_cons]
    by_cases h : c = 59
    · simp [h]
    · have h' : ((59 : UInt8) == c) = false := beq_eq_false_iff_ne.2 fun e => h e.symm
      simp only [h, if_false, List.nil_append, reduceCtorEq, false_and, decide_false]
      show ((59 : UInt8) == c && _) = false
      rw [h']; rfl
  | a :: nm, [], _ => by simp
  | a :: nm, c :: r, h => by
    have ha := h a (by simp)
    have ih := pre_name nm r fun x hx => h x (by simp [hx])
    rw [List.cons_append, List.isPrefixOf, ih, brk_cons]
    by_cases h2 : c = 59
    · subst h2
      have : (a == 59) = false := by simp [ha]
      simp [this]
    · rw [if_neg h2]
      by_cases h3 : a = c
      · subst h3; simp
      · have h4 : ¬ c = a := fun e => h3 e.symm
        simp [h3, h4]
theorem num_cons (x : UInt8) (r : Bytes) : numR (38 :: 35 :: x :: r) = if x = 120 ∨ x = 88 then endR 6 3 (scanR 16 6 0 0 r) else endR 7 2 (scanR 10 7 0 0 (x :: r)) := rfl
theorem refAt_law (l : Bytes) : refAtM l = pairOf (letAt l) := by
  cases l with
  | nil => rfl
  | cons c r =>
    by_cases hc : c = 38
    · subst hc
      unfold refAtM letAt
      have p1 := pre_name [97, 109, 112] r (by decide)
      have p2 := pre_name [108, 116] r (by decide)
      have p3 := pre_name [103, 116] r (by decide)
      have p4 := pre_name [113, 117, 111, 116] r (by decide)
      have p5 := pre_name [110, 98, 115, 112] r (by decide)
      have p6 := pre_name [99, 111, 112, 121] r (by decide)
      simp only [List.cons_append, List.nil_append] at p1 p2 p3 p4 p5 p6
      simp only [namesR, List.find?, List.isPrefixOf, p1, p2, p3, p4, p5, p6, beq_self_eq_true, Bool.true_and, true_and]
      by_cases hlt : (brk [59] r).length < r.length
      · rw [if_pos hlt]
        by_cases h1 : brk [59] r = [97, 109, 112]
        · rw [h1] at hlt ⊢
          have hl : 3 < r.length := hlt
          simp [hl, letterM, namedM, pairOf]
        by_cases h2 : brk [59] r = [108, 116]
        · rw [h2] at hlt ⊢
          have hl : 2 < r.length := hlt
          simp [hl, letterM, namedM, pairOf]
        by_cases h3 : brk [59] r = [103, 116]
        · rw [h3] at hlt ⊢
          have hl : 2 < r.length := hlt
          simp [hl, letterM, namedM, pairOf]
        by_cases h4 : brk [59] r = [113, 117, 111, 116]
        · rw [h4] at hlt ⊢
          have hl : 4 < r.length := hlt
          simp [hl, letterM, namedM, pairOf]
        by_cases h5 : brk [59] r = [110, 98, 115, 112]
        · rw [h5] at hlt ⊢
          have hl : 4 < r.length := hlt
          simp [hl, letterM, namedM, pairOf]
        by_cases h6 : brk [59] r = [99, 111, 112, 121]
        · rw [h6] at hlt ⊢
          have hl : 4 < r.length := hlt
          simp [hl, letterM, namedM, pairOf]
        simp only [h1, h2, h3, h4, h5, h6, false_and, decide_false]
        have hnm : namedM (brk [59] r) = none := by unfold namedM; simp only [h1, h2, h3, h4, h5, h6, if_false]
        clear h1 h2 h3 h4 h5 h6 p1 p2 p3 p4 p5 p6
        cases r with
        | nil => simp at hlt
        | cons y d =>
          by_cases hy : y = 35
          · subst hy
            have hB : brk [59] (35 :: d) = 35 :: brk [59] d := by rw [brk_cons, if_neg (by decide)]
            rw [hB] at hlt ⊢
            cases d with
            | nil => simp at hlt
            | cons x d =>
              have hx : brk [59] (x :: d) = if x = 59 then [] else x :: brk [59] d := brk_cons x d
              have n10 := num_law 10 7 2 (.inl rfl) (x :: d)
              have n16 := num_law 16 6 3 (.inr rfl) d
              simp only [List.length_cons] at hlt n10
              rw [num_cons]
              by_cases h59 : x = 59
              · subst h59
                rw [if_neg (by decide), n10, hx, if_pos rfl]
                rfl
              · rw [if_neg h59] at hx
                by_cases h16 : x = 120 ∨ x = 88
                · rw [if_pos h16, n16, hx]
                  rw [hx] at hlt
                  simp only [List.length_cons] at hlt
                  rw [if_pos (by omega)]
                  unfold letterM pairOf
                  simp only [if_pos h16, List.length_cons]
                  cases numberedM (brk [59] d) 16 6 with
                  | none => rfl
                  | some v => simp only [Option.map]; congr 1; omega
                · rw [if_neg h16, n10]
                  rw [hx] at hlt ⊢
                  rw [if_pos (by omega)]
                  unfold letterM pairOf
                  simp only [if_neg h16, List.length_cons]
                  cases numberedM (x :: brk [59] d) 10 7 with
                  | none => rfl
                  | some v => simp only [Option.map]; congr 1; omega
          · have hnum : numR (38 :: y :: d) = (0, 0) := by
              unfold numR
              split
              · rename_i h
                simp only [List.cons.injEq, true_and] at h
                exact absurd h.1 hy
              · rfl
            have hlet : letterM (brk [59] (y :: d)) = namedM (brk [59] (y :: d)) := by
              rw [brk_cons]
              by_cases h59 : y = 59
              · rw [if_pos h59]; rfl
              · rw [if_neg h59]
                unfold letterM
                split
                · rename_i h
                  simp only [List.cons.injEq] at h
                  exact absurd h.1 hy
                · rfl
            rw [hnum, hlet, hnm]; rfl
      · rw [if_neg hlt]
        have hz : ∀ nm : Bytes, ¬ (brk [59] r = nm ∧ nm.length < r.length) := by
          rintro nm ⟨rfl, h⟩; exact hlt h
        simp only [hz, decide_false]
        unfold pairOf numR
        split
        · rename_i x d h
          simp only [List.cons.injEq, true_and] at h
          subst h
          have n10 := num_law 10 7 2 (.inl rfl) (x :: d)
          have n16 := num_law 16 6 3 (.inr rfl) d
          rw [brk_cons, if_neg (by decide)] at hlt
          simp only [List.length_cons] at hlt n10
          have hx : brk [59] (x :: d) = if x = 59 then [] else x :: brk [59] d := brk_cons x d
          by_cases h16 : x = 120 ∨ x = 88
          · have h59 : ¬ x = 59 := by rintro rfl; revert h16; decide
            rw [if_neg h59] at hx
            rw [hx] at hlt
            simp only [List.length_cons] at hlt
            rw [if_pos h16, n16, if_neg (by omega)]
          · rw [if_neg h16, n10, if_neg (by omega)]
        · rfl
    · have e : ∀ t : Bytes, (38 :: t).isPrefixOf (c :: r) = false := by
        intro t
        have : ((38 : UInt8) == c) = false := by simp; exact fun e => hc e.symm
        simp [List.isPrefixOf, this]
      unfold refAtM letAt
      simp only [namesR, List.find?, e]
      rw [if_neg (fun h => hc h.1)]
      unfold numR
      split
      · rename_i h
        simp only [List.cons.injEq] at h
        exact absurd h.1 hc
      · rfl

end Go.Proofs.YtjkgmdnkejjppaaGreatDoor
/- Walks of the reference's small functions: spaces, letters, digits, lowered, places. -/
namespace Go.Proofs.YtjkgmdnkejjppaaGreatDoor
open Go Go.RowKit

def digI (c : Int) : Int := if 48 ≤ c ∧ c ≤ 57 then c - 48 else if 97 ≤ c ∧ c ≤ 102 then c - 87 else if 65 ≤ c ∧ c ≤ 70 then c - 55 else 99
theorem digI_of (b : UInt8) : digI b.toNat = (digR b : Nat) := by
  unfold digI digR
  simp only [UInt8.le_iff_toNat_le]
  have e1 : (48 : UInt8).toNat = 48 := rfl
  have e2 : (57 : UInt8).toNat = 57 := rfl
  have e3 : (97 : UInt8).toNat = 97 := rfl
  have e4 : (102 : UInt8).toNat = 102 := rfl
  have e5 : (65 : UInt8).toNat = 65 := rfl
  have e6 : (70 : UInt8).toNat = 70 := rfl
  rw [e1, e2, e3, e4, e5, e6]
  repeat' split
  all_goals omega
theorem digitOf_int (c : Int) (w : World) (h0 : 0 ≤ c) (h1 : c < 256) :
    Calls Tryz.prog 110 #[.int .u8 c] w fun e w' => e = .returned (.int .i64 (digI c)) ∧ w = w' := by
  go_enter Tryz.func110, Tryz.ntmps110
  go_wp2
  all_goals go_ret
  all_goals refine ⟨?_, rfl⟩
  all_goals (simp [digI, *]; try omega)
set_option maxRecDepth 100000 in
theorem isLetter_int (c : Int) (w : World) (h0 : 0 ≤ c) :
    Calls Tryz.prog 111 #[.int .i64 c] w fun e w' => e = .returned (.bool (decide (c ≤ 1114111 ∧ (c < 55296 ∨ 57343 < c)))) ∧ w = w' := by
  go_enter Tryz.func111, Tryz.ntmps111
  go_wp2
  all_goals go_ret
  all_goals refine ⟨?_, rfl⟩
  all_goals (simp [*]; try omega)
theorem isLetter_any (n : Nat) (w : World) :
    Calls Tryz.prog 111 #[.int .i64 n] w fun e w' => e = .returned (.bool (isLetR n)) ∧ w = w' := by
  refine (isLetter_int n w (by omega)).mono ?_
  rintro e w' ⟨rfl, h⟩
  refine ⟨?_, h⟩
  have : decide ((n : Int) ≤ 1114111 ∧ ((n : Int) < 55296 ∨ 57343 < (n : Int))) = isLetR n := by
    unfold isLetR
    rw [Bool.eq_iff_iff]; simp only [decide_eq_true_eq]; omega
  rw [this]
theorem digitOf_any (b : UInt8) (w : World) : Calls Tryz.prog 110 #[.int .u8 b.toNat] w fun e w' => e = .returned (.int .i64 (digR b : Nat)) ∧ w = w' := by
  rw [← digI_of]
  exact digitOf_int b.toNat w (by omega) (by have := b.toNat_lt; omega)

end Go.Proofs.YtjkgmdnkejjppaaGreatDoor
