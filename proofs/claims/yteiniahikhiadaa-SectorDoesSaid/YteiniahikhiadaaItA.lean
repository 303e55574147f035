/-
  items: goods and counts.
-/
import Derived.Test.YteiniahikhiadaaWords
import Derived.Laws.RangeAny
import Derived.Deep.QuietTactic
import Derived.BigQuiet
namespace Go.Proofs.Yteiniahikhiadaa
open Go.RowKit
namespace It

def okB (c : UInt8) : Bool := decide (97 ≤ c.toNat ∧ c.toNat ≤ 122) || decide (48 ≤ c.toNat ∧ c.toNat ≤ 57) || decide (c.toNat = 45)
def good (s : ByteArray) : Bool := s.data.toList.all okB && decide (1 ≤ s.size) && decide (s.size ≤ 16)
def countOk (n : Int) : Bool := decide (0 ≤ n) && decide (n ≤ 1099511627776)

theorem okB_cases (n : Nat) : n < 45 ∨ n = 45 ∨ (45 < n ∧ n < 48) ∨ (48 ≤ n ∧ n ≤ 57) ∨ (57 < n ∧ n < 97) ∨ (97 ≤ n ∧ n ≤ 122) ∨ 122 < n := by omega
theorem good_no {s : ByteArray} {k : Nat} (hk : k < s.size) (h : okB s[k] = false) : good s = false := by
  unfold good
  have : s.data.toList.all okB = false := by
    rw [List.all_eq_false]
    refine ⟨s[k], ?_, by simp [h]⟩
    exact Array.mem_toList_iff.2 (Array.getElem_mem hk)
  rw [this]; rfl
theorem good_all {s : ByteArray} (h : ∀ j, (hj : j < s.size) → okB s[j] = true) : good s = (decide (1 ≤ s.size) && decide (s.size ≤ 16)) := by
  unfold good
  have : s.data.toList.all okB = true := by
    rw [List.all_eq_true]
    intro x hx
    obtain ⟨i, hi, rfl⟩ := List.getElem_of_mem hx
    exact h i (by simpa using hi)
  rw [this]; rfl

theorem len_tests (n : Nat) : (!decide (n = 0) && decide ((n : Int) ≤ 16)) = (decide (1 ≤ n) && decide (n ≤ 16)) := by
  rw [Bool.eq_iff_iff]
  simp only [Bool.and_eq_true, Bool.not_eq_true', decide_eq_false_iff_not, decide_eq_true_eq]
  omega
theorem empty_iff (s : ByteArray) : s.toList.isEmpty = decide (s.size = 0) := by
  rw [ByteArray.toList_eq, Bool.eq_iff_iff]
  simp [← ByteArray.size_data]
theorem countOk_no {n : Int} (h : ¬ (0 ≤ n ∧ n ≤ 1099511627776)) : countOk n = false := by
  unfold countOk
  by_cases h1 : 0 ≤ n
  · rw [decide_eq_false (p := n ≤ 1099511627776) (by omega)]; simp
  · rw [decide_eq_false h1]; rfl
end It
end Go.Proofs.Yteiniahikhiadaa
