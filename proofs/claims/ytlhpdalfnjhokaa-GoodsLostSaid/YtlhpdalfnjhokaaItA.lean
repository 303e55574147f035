/-
  items: goods and counts.
-/
import Derived.Test.YtlhpdalfnjhokaaWords
import Derived.Laws.RangeAny
import Derived.Deep.QuietTactic
import Derived.BigQuiet
namespace Go.Proofs.Ytlhpdalfnjhokaa
open Go.RowKit
namespace It

def okB (c : UInt8) : Bool := decide (97 ≤ c.toNat ∧ c.toNat ≤ 122) || decide (48 ≤ c.toNat ∧ c.toNat ≤ 57) || decide (c.toNat = 45)
def good (s : ByteArray) : Bool := s.data.toList.all okB && decide (1 ≤ s.size) && decide (s.size ≤ 16)
def countOk (n : Int) : Bool := decide (0 ≤ n) && decide (n ≤ 1099511627776)

theorem okB_cases (n : Nat) : n < 45 ∨ n = 45 ∨ (45 < n ∧ n < 48) ∨ (48 ≤ n ∧ n ≤ 57) ∨ (57 < n ∧ n < 97) ∨ (97 ≤ n ∧ n ≤ 122) ∨ 122 < n := by omega
theorem good_no {s : ByteArray} {k : Nat} (hk : k < s.size) (h : okB s[k] = false) : good s = false := by
  unfold good
  have : s.data.toList.all okB = false := by
    rw [List.all_eq_false]
    refine ⟨s[k], ?_, by simp [h]⟩
    exact Array.mem_toList_iff.2 (Array.getElem_mem hk)
  rw [this]; rfl
theorem good_all {s : ByteArray} (h : ∀ j, (hj : j < s.size) → okB s[j] = true) : good s = (decide (1 ≤ s.size) && decide (s.size ≤ 16)) := by
  unfold good
  have : s.data.toList.all okB = true := by
    rw [List.all_eq_true]
    intro x hx
    obtain ⟨i, hi, rfl⟩ := List.getElem_of_mem hx
    exact h i (by simpa using hi)
  rw [this]; rfl

theorem len_tests (n : Nat) : (!decide (n = 0) && decide ((n : Int) ≤ 16)) = (decide (1 ≤ n) && decide (n ≤ 16)) := by
  rw [Bool.eq_iff_iff]
  simp only [Bool.and_eq_true, Bool.not_eq_true', decide_eq_false_iff_not, decide_eq_true_eq]
  omega
theorem empty_iff (s : ByteArray) : s.toList.isEmpty = decide (s.size = 0) := by
  rw [ByteArray.toList_eq, Bool.eq_iff_iff]
  simp [← ByteArray.size_data]
set_option maxHeartbeats 1000000 in
theorem good_calls (s : ByteArray) (w : World) (hs : s.size ≤ maxLen) :
    Calls Try.prog 58 #[.string s] w fun e w' => e = .returned (.bool (good s)) ∧ Below w.heap.size w w' := by
  unfold maxLen at hs
  have HNo := Lib.hid (fun k hk h => @good_no s k hk h)
  have HAll := Lib.hid (@good_all s)
  generalize good s = g at *
  have hni := fun (pos : Nat) (ty : TypeId) (h : pos < s.size) => run_next_any (P := Try.prog) w s pos ty h
  go_enter Try.func58, Try.ntmps58
  go_wp2
  go_loopw [4] (fun _ wr => ∃ k : Nat, k ≤ s.size ∧ wr = w.iter s k ∧ ∀ j, (hj : j < s.size) → j < k → okB s[j] = true) (fun _ wr => s.size - wr.iterPos w.heap.size)
  case atStart => exact ⟨0, by omega, rfl, fun j hj h => by omega⟩
  case round =>
    obtain ⟨k, hk, rfl, hN⟩ := hrel
    have HN := Lib.hid hN
    clear hN
    by_cases hlt : k < s.size
    · by_cases ha : (s[k]'hlt).toNat < 128
      · have hn := fun ty => hni k ty hlt
        rw [decode_ascii s k hlt ha] at hn
        have HB := Lib.hid (show okB (s[k]'hlt) = (decide (97 ≤ (s[k]'hlt).toNat ∧ (s[k]'hlt).toNat ≤ 122) || decide (48 ≤ (s[k]'hlt).toNat ∧ (s[k]'hlt).toNat ≤ 57) || decide ((s[k]'hlt).toNat = 45)) from rfl)
        have HC := Lib.hid (fun h => HNo.out k hlt h)
        have HD := Lib.hid (fun (h : okB (s[k]'hlt) = true) => show ∀ j, (hj : j < s.size) → j < k + 1 → okB s[j] = true from fun j hj hjk => by
          rcases Nat.lt_or_ge j k with h1 | h1
          · exact HN.out j hj h1
          · obtain rfl : j = k := by omega
            exact h)
        generalize okB (s[k]'hlt) = ob at *
        generalize (s[k]'hlt).toNat = n at *
        clear hni
        rcases okB_cases n with h | h | h | h | h | h | h
        all_goals try subst h
        case inr.inl | inr.inr.inr.inl | inr.inr.inr.inr.inr.inl =>
          have HT : ob = true := by rw [HB.out]; simp; try omega
          have HT2 := Lib.hid (HD.out HT)
          clear HT
          go_wp2
          go_roundw
          case rel => exact ⟨k + 1, by omega, rfl, HT2.out⟩
          case measure => simp; omega
        all_goals
          have HT : ob = false := by rw [HB.out]; simp; try omega
          have HT2 := Lib.hid (HC.out HT)
          clear HT
          have hne : ((n : Int) != 45) = true := by rw [bne_iff_ne]; omega
          go_wp2
          go_ret
          exact ⟨ret1 (boo HT2.out.symm), (Below.refl _ w).alloc (Nat.le_refl _) _⟩
      · have hn := fun ty => hni k ty hlt
        have hd := (decode_high s k hlt (by omega)).1
        have hd2 := decode_le s k
        have HB := Lib.hid (show okB (s[k]'hlt) = false by
          unfold okB
          simp only [Bool.or_eq_false_iff, decide_eq_false_iff_not]
          omega)
        have HT2 := Lib.hid (HNo.out k hlt HB.out)
        generalize (Utf8.decode s k).1 = r at *
        generalize (Utf8.decode s k).2 = q at *
        clear hni
        have hne : ((r : Int) != 45) = true := by rw [bne_iff_ne]; omega
        go_wp2
        go_ret
        exact ⟨ret1 (boo HT2.out.symm), (Below.refl _ w).alloc (Nat.le_refl _) _⟩
    · obtain rfl : k = s.size := by omega
      have hn := fun ty => run_next_end (P := Try.prog) w s s.size ty (by omega)
      have HT2 := Lib.hid (HAll.out (fun j hj => HN.out j hj hj))
      clear hni
      have HE := Lib.hid (empty_iff s)
      go_wp2
      · have h0 : s.toList = [] := by assumption
        go_ret
        refine ⟨ret1 (boo ?_), (Below.refl _ w).alloc (Nat.le_refl _) _⟩
        have h1 := HE.out
        rw [h0] at h1
        have h2 : s.size = 0 := by simpa using h1
        rw [HT2.out, h2]; rfl
      · go_ret
        refine ⟨ret1 (boo ?_), (Below.refl _ w).alloc (Nat.le_refl _) _⟩
        show (!s.toList.isEmpty && decide ((s.size : Int) ≤ 16)) = g
        rw [HE.out, HT2.out]
        exact len_tests _

set_option maxHeartbeats 1000000 in
theorem refgood_calls (s : ByteArray) (w : World) (hs : s.size ≤ maxLen) :
    Calls Try.prog 67 #[.string s] w fun e w' => e = .returned (.bool (good s)) ∧ w = w' := by
  unfold maxLen at hs
  have HNo := Lib.hid (fun k hk h => @good_no s k hk h)
  have HAll := Lib.hid (@good_all s)
  generalize good s = g at *
  go_enter Try.func67, Try.ntmps67
  go_wp2
  go_loop [3] (fun i => ∃ k : Nat, k ≤ s.size ∧ i = .int .i64 k ∧ ∀ j, (hj : j < s.size) → j < k → okB s[j] = true) (fun i => s.size - (intOf i).toNat)
  case atStart => exact ⟨0, by omega, rfl, fun j hj h => by omega⟩
  case round =>
    obtain ⟨k, hk, rfl, hN⟩ := hrel
    have HN := Lib.hid hN
    clear hN
    by_cases hlt : k < s.size
    · have HB := Lib.hid (show okB (s[k]'hlt) = (decide (97 ≤ (s[k]'hlt).toNat ∧ (s[k]'hlt).toNat ≤ 122) || decide (48 ≤ (s[k]'hlt).toNat ∧ (s[k]'hlt).toNat ≤ 57) || decide ((s[k]'hlt).toNat = 45)) from rfl)
      have HC := Lib.hid (fun h => HNo.out k hlt h)
      have HD := Lib.hid (fun (h : okB (s[k]'hlt) = true) => show ∀ j, (hj : j < s.size) → j < k + 1 → okB s[j] = true from fun j hj hjk => by
        rcases Nat.lt_or_ge j k with h1 | h1
        · exact HN.out j hj h1
        · obtain rfl : j = k := by omega
          exact h)
      have hnb := (s[k]'hlt).toNat_lt
      generalize okB (s[k]'hlt) = ob at *
      rcases okB_cases (s[k]'hlt).toNat with h | h | h | h | h | h | h
      case inr.inl =>
        have HT : ob = true := by rw [HB.out, h]; rfl
        have HT2 := Lib.hid (HD.out HT)
        clear HT
        go_wp2
        go_round
        case rel => exact ⟨k + 1, by omega, by go_num, HT2.out⟩
        case measure => simp [intOf]; omega
      case inr.inr.inr.inl | inr.inr.inr.inr.inr.inl =>
        have HT : ob = true := by rw [HB.out]; simp; try omega
        have HT2 := Lib.hid (HD.out HT)
        clear HT
        go_wp2
        go_round
        case rel => exact ⟨k + 1, by omega, by go_num, HT2.out⟩
        case measure => simp [intOf]; omega
      all_goals
        have HT : ob = false := by rw [HB.out]; simp; try omega
        have HT2 := Lib.hid (HC.out HT)
        clear HT
        have hne : (((s[k]'hlt).toNat : Int) == 45) = false := by rw [beq_eq_false_iff_ne]; omega
        go_wp2
        all_goals first
          | (go_ret; exact ⟨ret1 (boo HT2.out.symm), rfl⟩)
          | (exfalso; simp at *; omega)
    · obtain rfl : k = s.size := by omega
      have HT2 := Lib.hid (HAll.out (fun j hj => HN.out j hj hj))
      by_cases h1 : 1 ≤ s.size
      · go_wp2
        go_ret
        exact ⟨ret1 (boo (by rw [HT2.out, decide_eq_true h1, Bool.true_and]; exact decide_eq_decide.2 (by omega))), rfl⟩
      · go_wp2
        go_ret
        exact ⟨ret1 (boo (by rw [HT2.out, decide_eq_false h1]; rfl)), rfl⟩

theorem countOk_no {n : Int} (h : ¬ (0 ≤ n ∧ n ≤ 1099511627776)) : countOk n = false := by
  unfold countOk
  by_cases h1 : 0 ≤ n
  · rw [decide_eq_false (p := n ≤ 1099511627776) (by omega)]; simp
  · rw [decide_eq_false h1]; rfl
set_option maxHeartbeats 400000 in
theorem count_calls (n : Int) (w : World) :
    Calls Try.prog 37 #[.int .i64 n] w fun e w' => e = .returned (.bool (countOk n)) ∧ w = w' := by
  have HO := Lib.hid (show countOk n = (decide (0 ≤ n) && decide (n ≤ 1099511627776)) from rfl)
  by_cases h1 : 0 ≤ n
  all_goals
    go_enter Try.func37, Try.ntmps37
    go_wp2
    go_ret
    first
      | exact ⟨ret1 (boo (countOk_no (by omega)).symm), rfl⟩
      | exact ⟨ret1 (boo (by rw [HO.out, decide_eq_true h1]; rfl)), rfl⟩
set_option maxHeartbeats 400000 in
theorem refcount_calls (n : Int) (w : World) :
    Calls Try.prog 51 #[.int .i64 n] w fun e w' => e = .returned (.bool (countOk n)) ∧ w = w' := by
  have HO := Lib.hid (show countOk n = (decide (0 ≤ n) && decide (n ≤ 1099511627776)) from rfl)
  by_cases h1 : 0 ≤ n
  all_goals
    go_enter Try.func51, Try.ntmps51
    go_wp2
    go_ret
    first
      | exact ⟨ret1 (boo (countOk_no (by omega)).symm), rfl⟩
      | exact ⟨ret1 (boo (by rw [HO.out, decide_eq_true h1]; rfl)), rfl⟩
end It
end Go.Proofs.Ytlhpdalfnjhokaa
