/-
  life: the walks of the laws LifeBehind and LifeEnds.
-/
import Derived.Test.YtcohjcbcadfkdaaLifeF
import Derived.Deep.QuietTactic
import Derived.BigQuiet
namespace Go.Proofs.Ytcohjcbcadfkdaa
open Go.RowKit Go.Maps
namespace Life

theorem quiet_is (n : Int) (h : quiet n = true) (w : World) : Calls Try.prog 18 #[.int .i64 n] w fun e w' => e = .returned (.bool true) ∧ w = w' := by
  rw [← h]; exact quiet_calls n w
theorem below_drewN {B : Nat} {a w : World} (h : Below B a w) (n : Nat) : Below B a (w.drewN n) := ⟨h.os, h.tape, h.output, h.size, h.block⟩

set_option maxHeartbeats 4000000 in
theorem behind_law (n b : Int) (w : World) (hb1 : -9223372036854775808 ≤ b) (hb2 : b ≤ 9223372036854775807) :
    Calls Try.prog 4 #[.int .i64 n, .int .i64 b] w fun e w' => e = .returned (.bool true) ∧ Below w.heap.size w w' := by
  have c1 := Lib.hid (fun W => behind_calls n W)
  have c2 := Lib.hid (fun W => refbehind_calls n W)
  have c3 := Lib.hid (fun W => may_calls n b W)
  have c4 := fun W => reach_calls n b W hb1 hb2
  have c5 := Lib.hid (fun W => refreach_calls n b W)
  rw [reach_same] at c4
  have C4 := Lib.hid c4
  clear c4 hb1 hb2
  have hl6 := behind_len n
  generalize behind n = bl at *
  generalize roundTo bl 12 = rl at *
  rcases @six n with h | h | h | h | h | h | h
  all_goals try subst h
  case inr.inr.inr.inr.inr.inr =>
    have c6 := fun W => quiet_calls n W
    rw [quiet_no h] at c6
    obtain ⟨q5, q6, q10, q2, q3, q8⟩ := h
    have e5 := ne q5
    have e6 := ne q6
    have e10 := ne q10
    have e2 := ne q2
    have e3 := ne q3
    have e8 := ne q8
    have c6 := Lib.hid c6
    go_enter Try.func4, Try.ntmps4
    go_wp2_with fail
    refine (c1.out _).mono ?_
    rintro e w1 ⟨⟨v, rfl, hv⟩, h1⟩
    obtain ⟨A, c, rfl, _, hcm, _⟩ := (IntsAt.of_own hv).form
    unfold maxLen at hcm
    go_wp2_with fail
    refine (c2.out _).mono ?_
    rintro e w2 ⟨⟨v', rfl, hv'⟩, h2⟩
    obtain ⟨A', c', rfl, _, hcm', _⟩ := (IntsAt.of_own hv').form
    unfold maxLen at hcm'
    go_wp2_with fail
    refine (lives_calls _).mono ?_
    rintro e w3 ⟨rfl, h3⟩
    go_wp2_with fail
    have hv3 := (IntsAt.of_own hv).mono (h2.trans (h3.mono h2.size)) (Nat.le_refl _)
    have hv3' := (IntsAt.of_own hv').mono h3 (Nat.le_refl _)
    have s1 := h1.size
    have s2 := h2.size
    have s3 := h3.size
    have HB := Lib.hid (h1.trans ((h2.mono s1).trans (h3.mono (Nat.le_trans s1 s2))))
    clear h1 h2 h3 hv hv'
    go_loopw [7] (fun i wr => ∃ k : Nat, k ≤ bl.length ∧ i = .int .i64 k ∧ Below w3.heap.size w3 wr) (fun i _ => bl.length - (intOf i).toNat)
    case atStart => exact ⟨0, by omega, rfl, Below.refl _ _⟩
    case round =>
      obtain ⟨k, hk, rfl, hbr⟩ := hrel
      obtain ⟨w4, rfl⟩ : ∃ w4 : World, w4 = wr := ⟨_, rfl⟩
      by_cases hlt : k < bl.length
      · obtain ⟨ba, oa, rfl, _, hba, hca⟩ := hv3.cellAt hlt
        obtain ⟨bb, ob, rfl, _, hbb, hcb⟩ := hv3'.cellAt hlt
        have hca4 := (hbr.cell (p := ⟨ba, oa + k, none⟩) (show ba < w3.heap.size by omega)).trans hca
        have hcb4 := (hbr.cell (p := ⟨bb, ob + k, none⟩) (show bb < w3.heap.size by omega)).trans hcb
        clear hca hcb
        generalize hy : bl.getD k 0 = y at hca4 hcb4
        clear hy
        go_wp2_with fail
        go_quiet (fail)
        go_wp2_with fail
        go_roundw
        case rel => exact ⟨k + 1, by omega, by go_num, below_drewN hbr _⟩
        case measure => simp [intOf]; omega
      · obtain rfl : k = bl.length := by omega
        clear hcm hcm'
        go_wp2_with fail
        refine (c3.out _).mono ?_
        rintro e w5 ⟨rfl, h5⟩
        go_wp2_with fail
        refine (in_calls bl b _ _ _ _ (((hv3'.wide (Nat.le_refl _) s3).mono hbr hbr.size).mono h5 (Nat.le_refl _))).mono ?_
        rintro e w6 ⟨rfl, rfl⟩
        go_wp2_with fail
        refine (C4.out _).mono ?_
        rintro e w7 ⟨rfl, h7⟩
        go_wp2_with fail
        refine (c5.out _).mono ?_
        rintro e w8 ⟨rfl, h8⟩
        go_wp2_with fail
        refine (c6.out _).mono ?_
        rintro e w9 ⟨rfl, rfl⟩
        go_wp2_with fail
        go_ret
        have s4 := hbr.size
        have s5 := h5.size
        have s7 := h7.size
        exact ⟨rfl, HB.out.trans ((hbr.mono (by omega)).trans ((h5.mono (by omega)).trans ((h7.mono (by omega)).trans (h8.mono (by omega)))))⟩
  case inl =>
    have c6 := Lib.hid (fun W => quiet_is 5 rfl W)
    go_enter Try.func4, Try.ntmps4
    go_wp2_with fail
    refine (c1.out _).mono ?_
    rintro e w1 ⟨⟨v, rfl, hv⟩, h1⟩
    obtain ⟨A, c, rfl, _, hcm, _⟩ := (IntsAt.of_own hv).form
    unfold maxLen at hcm
    go_wp2_with fail
    refine (c2.out _).mono ?_
    rintro e w2 ⟨⟨v', rfl, hv'⟩, h2⟩
    obtain ⟨A', c', rfl, _, hcm', _⟩ := (IntsAt.of_own hv').form
    unfold maxLen at hcm'
    go_wp2_with fail
    refine (lives_calls _).mono ?_
    rintro e w3 ⟨rfl, h3⟩
    go_wp2_with fail
    have hv3 := (IntsAt.of_own hv).mono (h2.trans (h3.mono h2.size)) (Nat.le_refl _)
    have hv3' := (IntsAt.of_own hv').mono h3 (Nat.le_refl _)
    have s1 := h1.size
    have s2 := h2.size
    have s3 := h3.size
    have HB := Lib.hid (h1.trans ((h2.mono s1).trans (h3.mono (Nat.le_trans s1 s2))))
    clear h1 h2 h3 hv hv'
    go_loopw [7] (fun i wr => ∃ k : Nat, k ≤ bl.length ∧ i = .int .i64 k ∧ Below w3.heap.size w3 wr) (fun i _ => bl.length - (intOf i).toNat)
    case atStart => exact ⟨0, by omega, rfl, Below.refl _ _⟩
    case round =>
      obtain ⟨k, hk, rfl, hbr⟩ := hrel
      obtain ⟨w4, rfl⟩ : ∃ w4 : World, w4 = wr := ⟨_, rfl⟩
      by_cases hlt : k < bl.length
      · obtain ⟨ba, oa, rfl, _, hba, hca⟩ := hv3.cellAt hlt
        obtain ⟨bb, ob, rfl, _, hbb, hcb⟩ := hv3'.cellAt hlt
        have hca4 := (hbr.cell (p := ⟨ba, oa + k, none⟩) (show ba < w3.heap.size by omega)).trans hca
        have hcb4 := (hbr.cell (p := ⟨bb, ob + k, none⟩) (show bb < w3.heap.size by omega)).trans hcb
        clear hca hcb
        generalize hy : bl.getD k 0 = y at hca4 hcb4
        clear hy
        go_wp2_with fail
        go_quiet (fail)
        go_wp2_with fail
        go_roundw
        case rel => exact ⟨k + 1, by omega, by go_num, below_drewN hbr _⟩
        case measure => simp [intOf]; omega
      · obtain rfl : k = bl.length := by omega
        clear hcm hcm'
        go_wp2_with fail
        refine (c3.out _).mono ?_
        rintro e w5 ⟨rfl, h5⟩
        go_wp2_with fail
        refine (in_calls bl b _ _ _ _ (((hv3'.wide (Nat.le_refl _) s3).mono hbr hbr.size).mono h5 (Nat.le_refl _))).mono ?_
        rintro e w6 ⟨rfl, rfl⟩
        go_wp2_with fail
        refine (C4.out _).mono ?_
        rintro e w7 ⟨rfl, h7⟩
        go_wp2_with fail
        refine (c5.out _).mono ?_
        rintro e w8 ⟨rfl, h8⟩
        go_wp2_with fail
        refine (c6.out _).mono ?_
        rintro e w9 ⟨rfl, rfl⟩
        go_wp2_with fail
        go_ret
        have s4 := hbr.size
        have s5 := h5.size
        have s7 := h7.size
        exact ⟨rfl, HB.out.trans ((hbr.mono (by omega)).trans ((h5.mono (by omega)).trans ((h7.mono (by omega)).trans (h8.mono (by omega)))))⟩
  case inr.inl =>
    have c6 := Lib.hid (fun W => quiet_is 6 rfl W)
    go_enter Try.func4, Try.ntmps4
    go_wp2_with fail
    refine (c1.out _).mono ?_
    rintro e w1 ⟨⟨v, rfl, hv⟩, h1⟩
    obtain ⟨A, c, rfl, _, hcm, _⟩ := (IntsAt.of_own hv).form
    unfold maxLen at hcm
    go_wp2_with fail
    refine (c2.out _).mono ?_
    rintro e w2 ⟨⟨v', rfl, hv'⟩, h2⟩
    obtain ⟨A', c', rfl, _, hcm', _⟩ := (IntsAt.of_own hv').form
    unfold maxLen at hcm'
    go_wp2_with fail
    refine (lives_calls _).mono ?_
    rintro e w3 ⟨rfl, h3⟩
    go_wp2_with fail
    have hv3 := (IntsAt.of_own hv).mono (h2.trans (h3.mono h2.size)) (Nat.le_refl _)
    have hv3' := (IntsAt.of_own hv').mono h3 (Nat.le_refl _)
    have s1 := h1.size
    have s2 := h2.size
    have s3 := h3.size
    have HB := Lib.hid (h1.trans ((h2.mono s1).trans (h3.mono (Nat.le_trans s1 s2))))
    clear h1 h2 h3 hv hv'
    go_loopw [7] (fun i wr => ∃ k : Nat, k ≤ bl.length ∧ i = .int .i64 k ∧ Below w3.heap.size w3 wr) (fun i _ => bl.length - (intOf i).toNat)
    case atStart => exact ⟨0, by omega, rfl, Below.refl _ _⟩
    case round =>
      obtain ⟨k, hk, rfl, hbr⟩ := hrel
      obtain ⟨w4, rfl⟩ : ∃ w4 : World, w4 = wr := ⟨_, rfl⟩
      by_cases hlt : k < bl.length
      · obtain ⟨ba, oa, rfl, _, hba, hca⟩ := hv3.cellAt hlt
        obtain ⟨bb, ob, rfl, _, hbb, hcb⟩ := hv3'.cellAt hlt
        have hca4 := (hbr.cell (p := ⟨ba, oa + k, none⟩) (show ba < w3.heap.size by omega)).trans hca
        have hcb4 := (hbr.cell (p := ⟨bb, ob + k, none⟩) (show bb < w3.heap.size by omega)).trans hcb
        clear hca hcb
        generalize hy : bl.getD k 0 = y at hca4 hcb4
        clear hy
        go_wp2_with fail
        go_quiet (fail)
        go_wp2_with fail
        go_roundw
        case rel => exact ⟨k + 1, by omega, by go_num, below_drewN hbr _⟩
        case measure => simp [intOf]; omega
      · obtain rfl : k = bl.length := by omega
        clear hcm hcm'
        go_wp2_with fail
        refine (c3.out _).mono ?_
        rintro e w5 ⟨rfl, h5⟩
        go_wp2_with fail
        refine (in_calls bl b _ _ _ _ (((hv3'.wide (Nat.le_refl _) s3).mono hbr hbr.size).mono h5 (Nat.le_refl _))).mono ?_
        rintro e w6 ⟨rfl, rfl⟩
        go_wp2_with fail
        refine (C4.out _).mono ?_
        rintro e w7 ⟨rfl, h7⟩
        go_wp2_with fail
        refine (c5.out _).mono ?_
        rintro e w8 ⟨rfl, h8⟩
        go_wp2_with fail
        refine (c6.out _).mono ?_
        rintro e w9 ⟨rfl, rfl⟩
        go_wp2_with fail
        go_ret
        have s4 := hbr.size
        have s5 := h5.size
        have s7 := h7.size
        exact ⟨rfl, HB.out.trans ((hbr.mono (by omega)).trans ((h5.mono (by omega)).trans ((h7.mono (by omega)).trans (h8.mono (by omega)))))⟩
  case inr.inr.inl =>
    have c6 := Lib.hid (fun W => quiet_is 10 rfl W)
    go_enter Try.func4, Try.ntmps4
    go_wp2_with fail
    refine (c1.out _).mono ?_
    rintro e w1 ⟨⟨v, rfl, hv⟩, h1⟩
    obtain ⟨A, c, rfl, _, hcm, _⟩ := (IntsAt.of_own hv).form
    unfold maxLen at hcm
    go_wp2_with fail
    refine (c2.out _).mono ?_
    rintro e w2 ⟨⟨v', rfl, hv'⟩, h2⟩
    obtain ⟨A', c', rfl, _, hcm', _⟩ := (IntsAt.of_own hv').form
    unfold maxLen at hcm'
    go_wp2_with fail
    refine (lives_calls _).mono ?_
    rintro e w3 ⟨rfl, h3⟩
    go_wp2_with fail
    have hv3 := (IntsAt.of_own hv).mono (h2.trans (h3.mono h2.size)) (Nat.le_refl _)
    have hv3' := (IntsAt.of_own hv').mono h3 (Nat.le_refl _)
    have s1 := h1.size
    have s2 := h2.size
    have s3 := h3.size
    have HB := Lib.hid (h1.trans ((h2.mono s1).trans (h3.mono (Nat.le_trans s1 s2))))
    clear h1 h2 h3 hv hv'
    go_loopw [7] (fun i wr => ∃ k : Nat, k ≤ bl.length ∧ i = .int .i64 k ∧ Below w3.heap.size w3 wr) (fun i _ => bl.length - (intOf i).toNat)
    case atStart => exact ⟨0, by omega, rfl, Below.refl _ _⟩
    case round =>
      obtain ⟨k, hk, rfl, hbr⟩ := hrel
      obtain ⟨w4, rfl⟩ : ∃ w4 : World, w4 = wr := ⟨_, rfl⟩
      by_cases hlt : k < bl.length
      · obtain ⟨ba, oa, rfl, _, hba, hca⟩ := hv3.cellAt hlt
        obtain ⟨bb, ob, rfl, _, hbb, hcb⟩ := hv3'.cellAt hlt
        have hca4 := (hbr.cell (p := ⟨ba, oa + k, none⟩) (show ba < w3.heap.size by omega)).trans hca
        have hcb4 := (hbr.cell (p := ⟨bb, ob + k, none⟩) (show bb < w3.heap.size by omega)).trans hcb
        clear hca hcb
        generalize hy : bl.getD k 0 = y at hca4 hcb4
        clear hy
        go_wp2_with fail
        go_quiet (fail)
        go_wp2_with fail
        go_roundw
        case rel => exact ⟨k + 1, by omega, by go_num, below_drewN hbr _⟩
        case measure => simp [intOf]; omega
      · obtain rfl : k = bl.length := by omega
        clear hcm hcm'
        go_wp2_with fail
        refine (c3.out _).mono ?_
        rintro e w5 ⟨rfl, h5⟩
        go_wp2_with fail
        refine (in_calls bl b _ _ _ _ (((hv3'.wide (Nat.le_refl _) s3).mono hbr hbr.size).mono h5 (Nat.le_refl _))).mono ?_
        rintro e w6 ⟨rfl, rfl⟩
        go_wp2_with fail
        refine (C4.out _).mono ?_
        rintro e w7 ⟨rfl, h7⟩
        go_wp2_with fail
        refine (c5.out _).mono ?_
        rintro e w8 ⟨rfl, h8⟩
        go_wp2_with fail
        refine (c6.out _).mono ?_
        rintro e w9 ⟨rfl, rfl⟩
        go_wp2_with fail
        go_ret
        have s4 := hbr.size
        have s5 := h5.size
        have s7 := h7.size
        exact ⟨rfl, HB.out.trans ((hbr.mono (by omega)).trans ((h5.mono (by omega)).trans ((h7.mono (by omega)).trans (h8.mono (by omega)))))⟩
  case inr.inr.inr.inl =>
    have c6 := Lib.hid (fun W => quiet_is 2 rfl W)
    go_enter Try.func4, Try.ntmps4
    go_wp2_with fail
    refine (c1.out _).mono ?_
    rintro e w1 ⟨⟨v, rfl, hv⟩, h1⟩
    obtain ⟨A, c, rfl, _, hcm, _⟩ := (IntsAt.of_own hv).form
    unfold maxLen at hcm
    go_wp2_with fail
    refine (c2.out _).mono ?_
    rintro e w2 ⟨⟨v', rfl, hv'⟩, h2⟩
    obtain ⟨A', c', rfl, _, hcm', _⟩ := (IntsAt.of_own hv').form
    unfold maxLen at hcm'
    go_wp2_with fail
    refine (lives_calls _).mono ?_
    rintro e w3 ⟨rfl, h3⟩
    go_wp2_with fail
    have hv3 := (IntsAt.of_own hv).mono (h2.trans (h3.mono h2.size)) (Nat.le_refl _)
    have hv3' := (IntsAt.of_own hv').mono h3 (Nat.le_refl _)
    have s1 := h1.size
    have s2 := h2.size
    have s3 := h3.size
    have HB := Lib.hid (h1.trans ((h2.mono s1).trans (h3.mono (Nat.le_trans s1 s2))))
    clear h1 h2 h3 hv hv'
    go_loopw [7] (fun i wr => ∃ k : Nat, k ≤ bl.length ∧ i = .int .i64 k ∧ Below w3.heap.size w3 wr) (fun i _ => bl.length - (intOf i).toNat)
    case atStart => exact ⟨0, by omega, rfl, Below.refl _ _⟩
    case round =>
      obtain ⟨k, hk, rfl, hbr⟩ := hrel
      obtain ⟨w4, rfl⟩ : ∃ w4 : World, w4 = wr := ⟨_, rfl⟩
      by_cases hlt : k < bl.length
      · obtain ⟨ba, oa, rfl, _, hba, hca⟩ := hv3.cellAt hlt
        obtain ⟨bb, ob, rfl, _, hbb, hcb⟩ := hv3'.cellAt hlt
        have hca4 := (hbr.cell (p := ⟨ba, oa + k, none⟩) (show ba < w3.heap.size by omega)).trans hca
        have hcb4 := (hbr.cell (p := ⟨bb, ob + k, none⟩) (show bb < w3.heap.size by omega)).trans hcb
        clear hca hcb
        generalize hy : bl.getD k 0 = y at hca4 hcb4
        clear hy
        go_wp2_with fail
        go_quiet (fail)
        go_wp2_with fail
        go_roundw
        case rel => exact ⟨k + 1, by omega, by go_num, below_drewN hbr _⟩
        case measure => simp [intOf]; omega
      · obtain rfl : k = bl.length := by omega
        clear hcm hcm'
        go_wp2_with fail
        refine (c3.out _).mono ?_
        rintro e w5 ⟨rfl, h5⟩
        go_wp2_with fail
        refine (in_calls bl b _ _ _ _ (((hv3'.wide (Nat.le_refl _) s3).mono hbr hbr.size).mono h5 (Nat.le_refl _))).mono ?_
        rintro e w6 ⟨rfl, rfl⟩
        go_wp2_with fail
        refine (C4.out _).mono ?_
        rintro e w7 ⟨rfl, h7⟩
        go_wp2_with fail
        refine (c5.out _).mono ?_
        rintro e w8 ⟨rfl, h8⟩
        go_wp2_with fail
        refine (c6.out _).mono ?_
        rintro e w9 ⟨rfl, rfl⟩
        go_wp2_with fail
        go_ret
        have s4 := hbr.size
        have s5 := h5.size
        have s7 := h7.size
        exact ⟨rfl, HB.out.trans ((hbr.mono (by omega)).trans ((h5.mono (by omega)).trans ((h7.mono (by omega)).trans (h8.mono (by omega)))))⟩
  case inr.inr.inr.inr.inl =>
    have c6 := Lib.hid (fun W => quiet_is 3 rfl W)
    go_enter Try.func4, Try.ntmps4
    go_wp2_with fail
    refine (c1.out _).mono ?_
    rintro e w1 ⟨⟨v, rfl, hv⟩, h1⟩
    obtain ⟨A, c, rfl, _, hcm, _⟩ := (IntsAt.of_own hv).form
    unfold maxLen at hcm
    go_wp2_with fail
    refine (c2.out _).mono ?_
    rintro e w2 ⟨⟨v', rfl, hv'⟩, h2⟩
    obtain ⟨A', c', rfl, _, hcm', _⟩ := (IntsAt.of_own hv').form
    unfold maxLen at hcm'
    go_wp2_with fail
    refine (lives_calls _).mono ?_
    rintro e w3 ⟨rfl, h3⟩
    go_wp2_with fail
    have hv3 := (IntsAt.of_own hv).mono (h2.trans (h3.mono h2.size)) (Nat.le_refl _)
    have hv3' := (IntsAt.of_own hv').mono h3 (Nat.le_refl _)
    have s1 := h1.size
    have s2 := h2.size
    have s3 := h3.size
    have HB := Lib.hid (h1.trans ((h2.mono s1).trans (h3.mono (Nat.le_trans s1 s2))))
    clear h1 h2 h3 hv hv'
    go_loopw [7] (fun i wr => ∃ k : Nat, k ≤ bl.length ∧ i = .int .i64 k ∧ Below w3.heap.size w3 wr) (fun i _ => bl.length - (intOf i).toNat)
    case atStart => exact ⟨0, by omega, rfl, Below.refl _ _⟩
    case round =>
      obtain ⟨k, hk, rfl, hbr⟩ := hrel
      obtain ⟨w4, rfl⟩ : ∃ w4 : World, w4 = wr := ⟨_, rfl⟩
      by_cases hlt : k < bl.length
      · obtain ⟨ba, oa, rfl, _, hba, hca⟩ := hv3.cellAt hlt
        obtain ⟨bb, ob, rfl, _, hbb, hcb⟩ := hv3'.cellAt hlt
        have hca4 := (hbr.cell (p := ⟨ba, oa + k, none⟩) (show ba < w3.heap.size by omega)).trans hca
        have hcb4 := (hbr.cell (p := ⟨bb, ob + k, none⟩) (show bb < w3.heap.size by omega)).trans hcb
        clear hca hcb
        generalize hy : bl.getD k 0 = y at hca4 hcb4
        clear hy
        go_wp2_with fail
        go_quiet (fail)
        go_wp2_with fail
        go_roundw
        case rel => exact ⟨k + 1, by omega, by go_num, below_drewN hbr _⟩
        case measure => simp [intOf]; omega
      · obtain rfl : k = bl.length := by omega
        clear hcm hcm'
        go_wp2_with fail
        refine (c3.out _).mono ?_
        rintro e w5 ⟨rfl, h5⟩
        go_wp2_with fail
        refine (in_calls bl b _ _ _ _ (((hv3'.wide (Nat.le_refl _) s3).mono hbr hbr.size).mono h5 (Nat.le_refl _))).mono ?_
        rintro e w6 ⟨rfl, rfl⟩
        go_wp2_with fail
        refine (C4.out _).mono ?_
        rintro e w7 ⟨rfl, h7⟩
        go_wp2_with fail
        refine (c5.out _).mono ?_
        rintro e w8 ⟨rfl, h8⟩
        go_wp2_with fail
        refine (c6.out _).mono ?_
        rintro e w9 ⟨rfl, rfl⟩
        go_wp2_with fail
        go_ret
        have s4 := hbr.size
        have s5 := h5.size
        have s7 := h7.size
        exact ⟨rfl, HB.out.trans ((hbr.mono (by omega)).trans ((h5.mono (by omega)).trans ((h7.mono (by omega)).trans (h8.mono (by omega)))))⟩
  case inr.inr.inr.inr.inr.inl =>
    have c6 := Lib.hid (fun W => quiet_is 8 rfl W)
    go_enter Try.func4, Try.ntmps4
    go_wp2_with fail
    refine (c1.out _).mono ?_
    rintro e w1 ⟨⟨v, rfl, hv⟩, h1⟩
    obtain ⟨A, c, rfl, _, hcm, _⟩ := (IntsAt.of_own hv).form
    unfold maxLen at hcm
    go_wp2_with fail
    refine (c2.out _).mono ?_
    rintro e w2 ⟨⟨v', rfl, hv'⟩, h2⟩
    obtain ⟨A', c', rfl, _, hcm', _⟩ := (IntsAt.of_own hv').form
    unfold maxLen at hcm'
    go_wp2_with fail
    refine (lives_calls _).mono ?_
    rintro e w3 ⟨rfl, h3⟩
    go_wp2_with fail
    have hv3 := (IntsAt.of_own hv).mono (h2.trans (h3.mono h2.size)) (Nat.le_refl _)
    have hv3' := (IntsAt.of_own hv').mono h3 (Nat.le_refl _)
    have s1 := h1.size
    have s2 := h2.size
    have s3 := h3.size
    have HB := Lib.hid (h1.trans ((h2.mono s1).trans (h3.mono (Nat.le_trans s1 s2))))
    clear h1 h2 h3 hv hv'
    go_loopw [7] (fun i wr => ∃ k : Nat, k ≤ bl.length ∧ i = .int .i64 k ∧ Below w3.heap.size w3 wr) (fun i _ => bl.length - (intOf i).toNat)
    case atStart => exact ⟨0, by omega, rfl, Below.refl _ _⟩
    case round =>
      obtain ⟨k, hk, rfl, hbr⟩ := hrel
      obtain ⟨w4, rfl⟩ : ∃ w4 : World, w4 = wr := ⟨_, rfl⟩
      by_cases hlt : k < bl.length
      · obtain ⟨ba, oa, rfl, _, hba, hca⟩ := hv3.cellAt hlt
        obtain ⟨bb, ob, rfl, _, hbb, hcb⟩ := hv3'.cellAt hlt
        have hca4 := (hbr.cell (p := ⟨ba, oa + k, none⟩) (show ba < w3.heap.size by omega)).trans hca
        have hcb4 := (hbr.cell (p := ⟨bb, ob + k, none⟩) (show bb < w3.heap.size by omega)).trans hcb
        clear hca hcb
        generalize hy : bl.getD k 0 = y at hca4 hcb4
        clear hy
        go_wp2_with fail
        go_quiet (fail)
        go_wp2_with fail
        go_roundw
        case rel => exact ⟨k + 1, by omega, by go_num, below_drewN hbr _⟩
        case measure => simp [intOf]; omega
      · obtain rfl : k = bl.length := by omega
        clear hcm hcm'
        go_wp2_with fail
        refine (c3.out _).mono ?_
        rintro e w5 ⟨rfl, h5⟩
        go_wp2_with fail
        refine (in_calls bl b _ _ _ _ (((hv3'.wide (Nat.le_refl _) s3).mono hbr hbr.size).mono h5 (Nat.le_refl _))).mono ?_
        rintro e w6 ⟨rfl, rfl⟩
        go_wp2_with fail
        refine (C4.out _).mono ?_
        rintro e w7 ⟨rfl, h7⟩
        go_wp2_with fail
        refine (c5.out _).mono ?_
        rintro e w8 ⟨rfl, h8⟩
        go_wp2_with fail
        refine (c6.out _).mono ?_
        rintro e w9 ⟨rfl, rfl⟩
        go_wp2_with fail
        go_ret
        have s4 := hbr.size
        have s5 := h5.size
        have s7 := h7.size
        exact ⟨rfl, HB.out.trans ((hbr.mono (by omega)).trans ((h5.mono (by omega)).trans ((h7.mono (by omega)).trans (h8.mono (by omega)))))⟩
end Life
end Go.Proofs.Ytcohjcbcadfkdaa
