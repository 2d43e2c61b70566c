/- Plain laws for the reference's tokens: raw text, places. Nothing of the program here. -/
import Derived.Test.YtbgonaacheemcaaDoorRLawC
import Derived.Test.YtbgonaacheemcaaDoorTokG
import Derived.Test.YtbgonaacheemcaaDoorTokH
namespace Go.Proofs.YtbgonaacheemcaaDoor
open Go Go.RowKit

theorem nameEnd_eq (e : UInt8) : nameEnd.contains e = (spaces.contains e || (e == 47 || e == 62)) := by
  unfold nameEnd
  rw [Bool.eq_iff_iff]
  simp only [List.contains_eq_mem, decide_eq_true_eq, List.mem_append, List.mem_cons, List.not_mem_nil, or_false, Bool.or_eq_true, beq_iff_eq]
theorem rawStop_short (s : ByteArray) (nm : Bytes) (j : Nat) (h : ¬ j + 2 + nm.length < s.size) : rawStop nm ((lst s).drop j) = false := by
  rw [rawStop_drop, lst_length, decide_eq_false h, Bool.false_and, Bool.and_false]
theorem rawStop_s (s : ByteArray) (nm : Bytes) (j : Nat) (h : j + 2 + nm.length < s.size) : rawStop nm ((lst s).drop j) = (s[j]'(by omega) == 60 && (s[j + 1]'(by omega) == 47 && (small (lst (s.extract (j + 2) (j + 2 + nm.length))) == nm && nameEnd.contains (s[j + 2 + nm.length]'h)))) := by
  have h0 : j < (lst s).length := by rw [lst_length]; omega
  have h1 : j + 1 < (lst s).length := by rw [lst_length]; omega
  have e1 : (lst s).drop j = s[j]'(by omega) :: s[j + 1]'(by omega) :: (lst s).drop (j + 1 + 1) := by
    rw [List.drop_eq_getElem_cons h0, List.drop_eq_getElem_cons h1]; rfl
  have e2 : (lst s).getD (j + 2 + nm.length) 0 = s[j + 2 + nm.length]'h := by simp [List.getD, lst_get s _ h]
  have e3 : lst (s.extract (j + 2) (j + 2 + nm.length)) = ((lst s).drop (j + 2)).take nm.length := by rw [lst_extract]; congr 1; omega
  rw [rawStop_drop, lst_length, decide_eq_true h, Bool.true_and, e2, e3, e1]
  simp only [List.take_succ_cons, List.take_zero]
  have e4 : ∀ x y : UInt8, (([x, y] : Bytes) == [60, 47]) = (x == 60 && y == 47) := fun x y => by
    rw [Bool.eq_iff_iff]; simp
  rw [e4, Bool.and_assoc]
theorem raw_head (n : Bytes) (h : isRaw n = true) : ∃ b l, n = b :: l ∧ ((b = 116 ∧ ∀ t, rawText n t = unesc t) ∨ (b ≠ 116 ∧ ∀ t, rawText n t = t)) := by
  unfold isRaw at h
  rw [Bool.or_eq_true, Bool.or_eq_true, Bool.or_eq_true] at h
  rcases h with ((h | h) | h) | h
  · rw [beq_iff_eq] at h; subst h; exact ⟨_, _, rfl, .inr ⟨by decide, fun t => rfl⟩⟩
  · rw [beq_iff_eq] at h; subst h; exact ⟨_, _, rfl, .inr ⟨by decide, fun t => rfl⟩⟩
  · rw [beq_iff_eq] at h; subst h; exact ⟨_, _, rfl, .inl ⟨rfl, fun t => rfl⟩⟩
  · rw [beq_iff_eq] at h; subst h; exact ⟨_, _, rfl, .inl ⟨rfl, fun t => rfl⟩⟩

theorem mName_suf {r : Bytes} {y : TTok} {r2 : Bytes} (h : mName [] r = some (y, r2)) : r2 <:+ r := by
  refine tagM_suf 1 r ⟨1, y.name, y.attrs, y.self, []⟩ r2 ?_
  rw [tagM_start, h]; rfl

end Go.Proofs.YtbgonaacheemcaaDoor
