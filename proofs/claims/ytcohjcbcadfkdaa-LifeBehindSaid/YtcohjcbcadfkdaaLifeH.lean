/-
  life: the walk of the law LifeEnds.
-/
import Derived.Test.YtcohjcbcadfkdaaLifeG
namespace Go.Proofs.Ytcohjcbcadfkdaa
open Go.RowKit Go.Maps
namespace Life

theorem reach_is {a b : Int} {r : Bool} (w : World) (h1 : -9223372036854775808 ≤ b) (h2 : b ≤ 9223372036854775807) (h : inL b (roundTo (behind a) 12) = r) :
    Calls Try.prog 16 #[.int .i64 a, .int .i64 b] w fun e w' => e = .returned (.bool r) ∧ Below w.heap.size w w' := by
  rw [← h, ← reach_same]; exact reach_calls a b w h1 h2
theorem over_is {a : Int} {r : Bool} (w : World) (h : over a = r) : Calls Try.prog 19 #[.int .i64 a] w fun e w' => e = .returned (.bool r) ∧ w = w' := by
  rw [← h]; exact over_calls a w
theorem name_is {a : Int} {r : ByteArray} (w : World) (h : nameOf a = r) : Calls Try.prog 11 #[.int .i64 a] w fun e w' => e = .returned (.string r) ∧ Below w.heap.size w w' := by
  rw [← h]; exact name_calls a w

set_option maxHeartbeats 2000000 in
theorem ends_a (n : Int) (w : World) (nm : ByteArray) (hne : nm.toList.isEmpty = false)
    (ho : over n = false) (hnm : nameOf n = nm) (r6 : inL 6 (roundTo (behind n) 12) = true) :
    Calls Try.prog 5 #[.int .i64 n] w fun e w' => e = .returned (.bool true) ∧ Below w.heap.size w w' := by
  have c1 := Lib.hid (fun W => over_is W ho)
  have c2 := Lib.hid (fun W => name_is W hnm)
  have d6 := Lib.hid (fun W => reach_is (b := 6) W (by omega) (by omega) r6)
  clear ho hnm r6
  go_enter Try.func5, Try.ntmps5
  go_wp2_with fail
  refine (c1.out _).mono ?_
  rintro e w0 ⟨rfl, rfl⟩
  go_wp2_with fail
  refine (d6.out _).mono ?_
  rintro e x6 ⟨rfl, h6⟩
  go_wp2_with fail
  refine (lives_calls _).mono ?_
  rintro e x1 ⟨rfl, h1⟩
  go_wp2_with fail
  refine (c2.out _).mono ?_
  rintro e x2 ⟨rfl, h2⟩
  go_wp2_with fail
  have sh6 := h6.size
  have sh1 := h1.size
  have sh2 := h2.size
  have HB : Below w.heap.size w x2 := h6.trans ((h1.mono (by omega)).trans ((h2.mono (by omega))))
  clear h6 h1 h2 sh6 sh1 sh2
  go_loopw [5] (fun i wr => ∃ k : Nat, k ≤ 12 ∧ i = .int .i64 k ∧ Below w.heap.size w wr) (fun i _ => 12 - (intOf i).toNat)
  case atStart => exact ⟨0, by omega, rfl, HB⟩
  case round =>
    obtain ⟨k, hk, rfl, hb⟩ := hrel
    obtain ⟨w4, rfl⟩ : ∃ w4 : World, w4 = wr := ⟨_, rfl⟩
    clear HB
    have s4 := hb.size
    by_cases hlt : k ≤ 11
    · go_wp2_with fail
      refine (c2.out _).mono ?_
      rintro e w5 ⟨rfl, h5⟩
      go_wp2_with fail
      go_roundw
      case rel => exact ⟨k + 1, by omega, by go_num, hb.trans (h5.mono s4)⟩
      case measure => simp [intOf]; omega
    · go_wp2_with fail
      go_ret
      exact ⟨rfl, hb⟩

set_option maxHeartbeats 2000000 in
theorem ends_b (n : Int) (w : World) (nm : ByteArray) (hne : nm.toList.isEmpty = false)
    (ho : over n = false) (hnm : nameOf n = nm) (r6 : inL 6 (roundTo (behind n) 12) = false) (r5 : inL 5 (roundTo (behind n) 12) = false) (r10 : inL 10 (roundTo (behind n) 12) = true) :
    Calls Try.prog 5 #[.int .i64 n] w fun e w' => e = .returned (.bool true) ∧ Below w.heap.size w w' := by
  have c1 := Lib.hid (fun W => over_is W ho)
  have c2 := Lib.hid (fun W => name_is W hnm)
  have d6 := Lib.hid (fun W => reach_is (b := 6) W (by omega) (by omega) r6)
  have d5 := Lib.hid (fun W => reach_is (b := 5) W (by omega) (by omega) r5)
  have d10 := Lib.hid (fun W => reach_is (b := 10) W (by omega) (by omega) r10)
  clear ho hnm r6 r5 r10
  go_enter Try.func5, Try.ntmps5
  go_wp2_with fail
  refine (c1.out _).mono ?_
  rintro e w0 ⟨rfl, rfl⟩
  go_wp2_with fail
  refine (d6.out _).mono ?_
  rintro e x6 ⟨rfl, h6⟩
  go_wp2_with fail
  refine (d5.out _).mono ?_
  rintro e x5 ⟨rfl, h5⟩
  go_wp2_with fail
  refine (d10.out _).mono ?_
  rintro e x10 ⟨rfl, h10⟩
  go_wp2_with fail
  refine (lives_calls _).mono ?_
  rintro e x1 ⟨rfl, h1⟩
  go_wp2_with fail
  refine (c2.out _).mono ?_
  rintro e x2 ⟨rfl, h2⟩
  go_wp2_with fail
  have sh6 := h6.size
  have sh5 := h5.size
  have sh10 := h10.size
  have sh1 := h1.size
  have sh2 := h2.size
  have HB : Below w.heap.size w x2 := h6.trans ((h5.mono (by omega)).trans ((h10.mono (by omega)).trans ((h1.mono (by omega)).trans ((h2.mono (by omega))))))
  clear h6 h5 h10 h1 h2 sh6 sh5 sh10 sh1 sh2
  go_loopw [5] (fun i wr => ∃ k : Nat, k ≤ 12 ∧ i = .int .i64 k ∧ Below w.heap.size w wr) (fun i _ => 12 - (intOf i).toNat)
  case atStart => exact ⟨0, by omega, rfl, HB⟩
  case round =>
    obtain ⟨k, hk, rfl, hb⟩ := hrel
    obtain ⟨w4, rfl⟩ : ∃ w4 : World, w4 = wr := ⟨_, rfl⟩
    clear HB
    have s4 := hb.size
    by_cases hlt : k ≤ 11
    · go_wp2_with fail
      refine (c2.out _).mono ?_
      rintro e w5 ⟨rfl, h5⟩
      go_wp2_with fail
      go_roundw
      case rel => exact ⟨k + 1, by omega, by go_num, hb.trans (h5.mono s4)⟩
      case measure => simp [intOf]; omega
    · go_wp2_with fail
      go_ret
      exact ⟨rfl, hb⟩

set_option maxHeartbeats 2000000 in
theorem ends_c (n : Int) (w : World) (nm : ByteArray) (hne : nm.toList.isEmpty = false) (hall : ∀ k : Nat, inL k (roundTo (behind n) 12) = false)
    (ho : over n = true) (hnm : nameOf n = nm) (r6 : inL 6 (roundTo (behind n) 12) = false) (r5 : inL 5 (roundTo (behind n) 12) = false) (r10 : inL 10 (roundTo (behind n) 12) = false) :
    Calls Try.prog 5 #[.int .i64 n] w fun e w' => e = .returned (.bool true) ∧ Below w.heap.size w w' := by
  have c1 := Lib.hid (fun W => over_is W ho)
  have c2 := Lib.hid (fun W => name_is W hnm)
  have d6 := Lib.hid (fun W => reach_is (b := 6) W (by omega) (by omega) r6)
  have d5 := Lib.hid (fun W => reach_is (b := 5) W (by omega) (by omega) r5)
  have d10 := Lib.hid (fun W => reach_is (b := 10) W (by omega) (by omega) r10)
  have c3 := Lib.hid (fun W => quiet_is n (by unfold quiet; rw [ho]; rfl) W)
  have c4 := Lib.hid (fun (k : Nat) (hk : k ≤ 11) W => reach_is (b := k) W (by omega) (by omega) (hall k))
  clear hall
  clear ho hnm r6 r5 r10
  go_enter Try.func5, Try.ntmps5
  go_wp2_with fail
  refine (c1.out _).mono ?_
  rintro e w0 ⟨rfl, rfl⟩
  go_wp2_with fail
  refine (d6.out _).mono ?_
  rintro e x6 ⟨rfl, h6⟩
  go_wp2_with fail
  refine (d5.out _).mono ?_
  rintro e x5 ⟨rfl, h5⟩
  go_wp2_with fail
  refine (d10.out _).mono ?_
  rintro e x10 ⟨rfl, h10⟩
  go_wp2_with fail
  refine (lives_calls _).mono ?_
  rintro e x1 ⟨rfl, h1⟩
  go_wp2_with fail
  refine (c2.out _).mono ?_
  rintro e x2 ⟨rfl, h2⟩
  go_wp2_with fail
  have sh6 := h6.size
  have sh5 := h5.size
  have sh10 := h10.size
  have sh1 := h1.size
  have sh2 := h2.size
  have HB : Below w.heap.size w x2 := h6.trans ((h5.mono (by omega)).trans ((h10.mono (by omega)).trans ((h1.mono (by omega)).trans ((h2.mono (by omega))))))
  clear h6 h5 h10 h1 h2 sh6 sh5 sh10 sh1 sh2
  go_loopw [5] (fun i wr => ∃ k : Nat, k ≤ 12 ∧ i = .int .i64 k ∧ Below w.heap.size w wr) (fun i _ => 12 - (intOf i).toNat)
  case atStart => exact ⟨0, by omega, rfl, HB⟩
  case round =>
    obtain ⟨k, hk, rfl, hb⟩ := hrel
    obtain ⟨w4, rfl⟩ : ∃ w4 : World, w4 = wr := ⟨_, rfl⟩
    clear HB
    have s4 := hb.size
    by_cases hlt : k ≤ 11
    · go_wp2_with fail
      refine (c4.out k hlt _).mono ?_
      rintro e w6 ⟨rfl, h6⟩
      go_wp2_with fail
      go_roundw
      case rel => exact ⟨k + 1, by omega, by go_num, hb.trans (h6.mono s4)⟩
      case measure => simp [intOf]; omega
    · go_wp2_with fail
      refine (c3.out _).mono ?_
      rintro e w6 ⟨rfl, rfl⟩
      go_wp2_with fail
      go_ret
      exact ⟨rfl, hb⟩

set_option maxHeartbeats 2000000 in
theorem ends_d (n : Int) (w : World) (nm : ByteArray) (hne : nm.toList.isEmpty = true) (hall : ∀ k : Nat, inL k (roundTo (behind n) 12) = false)
    (ho : over n = false) (hnm : nameOf n = nm) (r6 : inL 6 (roundTo (behind n) 12) = false) (r5 : inL 5 (roundTo (behind n) 12) = false) (r10 : inL 10 (roundTo (behind n) 12) = false) :
    Calls Try.prog 5 #[.int .i64 n] w fun e w' => e = .returned (.bool true) ∧ Below w.heap.size w w' := by
  have c1 := Lib.hid (fun W => over_is W ho)
  have c2 := Lib.hid (fun W => name_is W hnm)
  have d6 := Lib.hid (fun W => reach_is (b := 6) W (by omega) (by omega) r6)
  have d5 := Lib.hid (fun W => reach_is (b := 5) W (by omega) (by omega) r5)
  have d10 := Lib.hid (fun W => reach_is (b := 10) W (by omega) (by omega) r10)
  have c4 := Lib.hid (fun (k : Nat) (hk : k ≤ 11) W => reach_is (b := k) W (by omega) (by omega) (hall k))
  clear hall
  clear ho hnm r6 r5 r10
  go_enter Try.func5, Try.ntmps5
  go_wp2_with fail
  refine (c1.out _).mono ?_
  rintro e w0 ⟨rfl, rfl⟩
  go_wp2_with fail
  refine (d6.out _).mono ?_
  rintro e x6 ⟨rfl, h6⟩
  go_wp2_with fail
  refine (d5.out _).mono ?_
  rintro e x5 ⟨rfl, h5⟩
  go_wp2_with fail
  refine (d10.out _).mono ?_
  rintro e x10 ⟨rfl, h10⟩
  go_wp2_with fail
  refine (lives_calls _).mono ?_
  rintro e x1 ⟨rfl, h1⟩
  go_wp2_with fail
  refine (c2.out _).mono ?_
  rintro e x2 ⟨rfl, h2⟩
  go_wp2_with fail
  have sh6 := h6.size
  have sh5 := h5.size
  have sh10 := h10.size
  have sh1 := h1.size
  have sh2 := h2.size
  have HB : Below w.heap.size w x2 := h6.trans ((h5.mono (by omega)).trans ((h10.mono (by omega)).trans ((h1.mono (by omega)).trans ((h2.mono (by omega))))))
  clear h6 h5 h10 h1 h2 sh6 sh5 sh10 sh1 sh2
  go_loopw [5] (fun i wr => ∃ k : Nat, k ≤ 12 ∧ i = .int .i64 k ∧ Below w.heap.size w wr) (fun i _ => 12 - (intOf i).toNat)
  case atStart => exact ⟨0, by omega, rfl, HB⟩
  case round =>
    obtain ⟨k, hk, rfl, hb⟩ := hrel
    obtain ⟨w4, rfl⟩ : ∃ w4 : World, w4 = wr := ⟨_, rfl⟩
    clear HB
    have s4 := hb.size
    by_cases hlt : k ≤ 11
    · go_wp2_with fail
      refine (c2.out _).mono ?_
      rintro e w5 ⟨rfl, h5⟩
      go_wp2_with fail
      refine (c4.out k hlt _).mono ?_
      rintro e w6 ⟨rfl, h6⟩
      go_wp2_with fail
      have s5 := h5.size
      go_roundw
      case rel => exact ⟨k + 1, by omega, by go_num, hb.trans ((h5.mono s4).trans (h6.mono (by omega)))⟩
      case measure => simp [intOf]; omega
    · go_wp2_with fail
      go_ret
      exact ⟨rfl, hb⟩

theorem all_no {n : Int} (h : behind n = []) (k : Nat) : inL k (roundTo (behind n) 12) = false := by
  rw [h]
  have e : roundTo [] 12 = [] := by decide
  rw [e]; rfl
theorem ends_law (n : Int) (w : World) :
    Calls Try.prog 5 #[.int .i64 n] w fun e w' => e = .returned (.bool true) ∧ Below w.heap.size w w' := by
  by_cases h1 : 1 ≤ n
  · by_cases h2 : n ≤ 10
    · rcases ten h1 h2 with h | h | h | h | h | h | h | h | h | h <;> subst h
      · exact ends_a 1 w _ (by decide +kernel) rfl rfl (by decide +kernel)
      · exact ends_a 2 w _ (by decide +kernel) rfl rfl (by decide +kernel)
      · exact ends_a 3 w _ (by decide +kernel) rfl rfl (by decide +kernel)
      · exact ends_a 4 w _ (by decide +kernel) rfl rfl (by decide +kernel)
      · exact ends_c 5 w _ (by decide +kernel) (all_no rfl) rfl rfl (by decide +kernel) (by decide +kernel) (by decide +kernel)
      · exact ends_c 6 w _ (by decide +kernel) (all_no rfl) rfl rfl (by decide +kernel) (by decide +kernel) (by decide +kernel)
      · exact ends_b 7 w _ (by decide +kernel) rfl rfl (by decide +kernel) (by decide +kernel) (by decide +kernel)
      · exact ends_b 8 w _ (by decide +kernel) rfl rfl (by decide +kernel) (by decide +kernel) (by decide +kernel)
      · exact ends_b 9 w _ (by decide +kernel) rfl rfl (by decide +kernel) (by decide +kernel) (by decide +kernel)
      · exact ends_c 10 w _ (by decide +kernel) (all_no rfl) rfl rfl (by decide +kernel) (by decide +kernel) (by decide +kernel)
    · have hb := behind_out (n := n) (by omega)
      exact ends_d n w ⟨#[]⟩ (by decide +kernel) (all_no hb) (over_no (by omega)) (nameOf_out n (by omega)) (all_no hb 6) (all_no hb 5) (all_no hb 10)
  · have hb := behind_out (n := n) (by omega)
    exact ends_d n w ⟨#[]⟩ (by decide +kernel) (all_no hb) (over_no (by omega)) (nameOf_out n (by omega)) (all_no hb 6) (all_no hb 5) (all_no hb 10)
end Life
end Go.Proofs.Ytcohjcbcadfkdaa
