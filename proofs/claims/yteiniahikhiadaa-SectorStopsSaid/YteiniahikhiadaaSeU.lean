/-
  sector: the law Stops.
-/
import Derived.Test.YteiniahikhiadaaSeT
namespace Go.Proofs.Yteiniahikhiadaa
open Go.RowKit Go.Maps
namespace Se
open Ce
theorem write_spent {D : Dv} {i : Int} {b : Blk} {m : Int} (hs : D.stops = true) (hl : D.left = m) (hm : 0 < m) (hi : 0 ≤ i ∧ i < D.sure.length) (hb : b.length = 64) :
    (writeD D i b).2 = 0 ∧ (writeD D i b).1.stops = true ∧ (writeD D i b).1.left = m - 1 ∧ (writeD D i b).1.sure.length = D.sure.length := by
  have ho : offD D = false := by unfold offD; rw [hs, hl]; simp; omega
  unfold writeD
  rw [if_neg (by omega), ho]
  simp only [Bool.false_eq_true, if_false]
  refine ⟨trivial, (spendD_stops D).trans hs, ?_, by rw [spendD_sure]⟩
  unfold spendD
  rw [hs]
  simp [hl]
theorem flush_spent {D : Dv} {m : Int} (hs : D.stops = true) (hl : D.left = m) (hm : 0 < m) :
    (flushD D).2 = 0 ∧ (flushD D).1.stops = true ∧ (flushD D).1.left = m - 1 ∧ (flushD D).1.sure.length = D.sure.length := by
  have ho : offD D = false := by unfold offD; rw [hs, hl]; simp; omega
  unfold flushD
  rw [ho]
  simp only [Bool.false_eq_true, if_false]
  refine ⟨trivial, (spendD_stops D).trans hs, ?_, by simp⟩
  unfold spendD
  rw [hs]
  simp [hl]
set_option maxRecDepth 100000 in
set_option maxHeartbeats 4000000 in
theorem stops_law (n : Int) (w : World) (b0 : -9223372036854775808 ≤ n) (b1 : n ≤ 9223372036854775807) : Calls Try.prog 9 #[.int .i64 n] w fun e w' => e = .returned (.bool true) ∧ Below w.heap.size w w' := by
  go_enter Try.func9, Try.ntmps9
  go_wp2_with fail
  refine (new_calls 1 w (by omega) (by omega)).mono ?_
  rintro e W1 ⟨⟨d, sb, mb, rfl, hD1⟩, hB1⟩
  go_wp2_with fail
  refine (lives_calls W1).mono ?_
  rintro e W2 ⟨rfl, hb2⟩
  have HD2 := Lib.hid (hD1.same hb2)
  have HB2 := Lib.hid (hB1.trans (hb2.mono hB1.size))
  clear hb2 hD1 hB1
  rcases Int.lt_or_le n 0 with hn0 | hn0
  · have hd : decide (n < 0) = true := by simpa using hn0
    clear hn0
    go_wp2_with fail
    refine (lives_calls W2).mono ?_
    rintro e W3 ⟨rfl, hb3⟩
    have HB3 := Lib.hid (HB2.out.trans (hb3.mono HB2.out.size))
    clear hb3
    go_wp2
    go_ret
    exact ⟨rfl, HB3.out⟩
  · have hd : decide (n < 0) = false := by simpa using hn0
    rcases Int.lt_or_le 500 n with hn5 | hn5
    · have hd5 : decide (n > 500) = true := by simpa using hn5
      clear hn0 hn5
      go_wp2_with fail
      refine (lives_calls W2).mono ?_
      rintro e W3 ⟨rfl, hb3⟩
      have HB3 := Lib.hid (HB2.out.trans (hb3.mono HB2.out.size))
      clear hb3
      go_wp2
      go_ret
      exact ⟨rfl, HB3.out⟩
    · have hd5 : decide (n > 500) = false := by simp; omega
      obtain ⟨m, rfl⟩ := Int.eq_ofNat_of_zero_le hn0
      have CS := Lib.hid (stop_calls HD2.out m b0 b1)
      have hlo := Lib.hid HD2.out.lo
      go_wp2_with fail
      refine CS.out.mono ?_
      rintro e W3 ⟨rfl, hD3, hg3⟩
      have HD3 := Lib.hid hD3
      have HB3 := Lib.hid (HB2.out.trans (Dev.below (Dev.of_own (sb := sb) (mb := mb) hg3) HB2.out.size hlo.out))
      clear hD3 hg3 CS HB2 HD2 hd hd5
      go_wp2_with fail
      go_loopw [5] (fun i wr => ∃ (k : Nat) (D : Dv), k ≤ m ∧ i = .int .i64 k ∧ DvAt wr w.heap.size d sb mb D ∧ D.stops = true ∧ D.left = (m : Int) - k ∧ D.sure.length = 1 ∧ Below w.heap.size w wr) (fun i _ => m - (intOf i).toNat)
      case atStart => exact ⟨0, _, by omega, rfl, HD3.out, by simp [stopD], by simp [stopD], rfl, HB3.out⟩
      case round =>
        obtain ⟨k, D, hk, rfl, hD, hs, hl, hn1, hB⟩ := hrel
        have HD := Lib.hid hD
        have HB := Lib.hid hB
        have HS := Lib.hid hs
        have HL := Lib.hid hl
        have HN := Lib.hid hn1
        have cO := Lib.hid (off_calls hD)
        clear hD hs hl hn1 hB
        by_cases hlt : k < m
        · have hd : decide ((k : Int) < (m : Int)) = true := by simp; omega
          have ho : offD D = false := by unfold offD; rw [HS.out, HL.out]; simp; omega
          rw [ho] at cO
          clear ho
          rcases Nat.mod_two_eq_zero_or_one k with h2 | h2
          · have he : ((k : Int) % 2 == 0) = true := by simp; omega
            have he1 : ((k : Int) % 2 == 1) = false := by simp; omega
            have HF := Lib.hid (write_spent (i := 0) (b := blockL 1) HS.out HL.out (by omega) (by rw [HN.out]; omega) (blockL_len 1))
            clear h2
            go_wp2_with fail
            refine cO.out.mono ?_
            rintro e W4 ⟨rfl, rfl⟩
            go_wp2_with fail
            refine (show Calls Try.prog 39 #[.int .u8 1] wr _ from block_calls 1 wr).mono ?_
            rintro e W5 ⟨⟨v1, rfl, hv1⟩, hb5⟩
            have CW := Lib.hid (write_calls (HD.out.same hb5) 0 (blockL 1) v1 wr.heap.size W5.heap.size (BytesAt.of_own hv1) (Nat.le_refl _) HD.out.ob.lt HD.out.map.lt)
            rw [HF.out.1] at CW
            have HB5 := Lib.hid (HB.out.trans (hb5.mono HB.out.size))
            clear hb5 hv1
            go_wp2_with fail
            refine CW.out.mono ?_
            rintro e W6 ⟨rfl, hD6, hdv⟩
            have HB6 := Lib.hid (HB5.out.trans (Dev.below hdv HB5.out.size hlo.out))
            have HFIN := Lib.hid (show ∃ (k' : Nat) (D : Dv), k' ≤ m ∧ Value.int .i64 ((k : Int) + 1) = .int .i64 k' ∧ DvAt W6 w.heap.size d sb mb D ∧ D.stops = true ∧ D.left = (m : Int) - k' ∧ D.sure.length = 1 ∧ Below w.heap.size w W6 from
              ⟨k + 1, _, by omega, by go_num, hD6, HF.out.2.1, by rw [HF.out.2.2.1]; omega, by rw [HF.out.2.2.2]; exact HN.out, HB6.out⟩)
            clear hD6 hdv CW
            go_wp2
            exact ⟨HFIN.out, by simp [intOf]; omega⟩
          · have he : ((k : Int) % 2 == 0) = false := by simp; omega
            have he1 : ((k : Int) % 2 == 1) = true := by simp; omega
            have HF := Lib.hid (flush_spent HS.out HL.out (by omega))
            have CW := Lib.hid (flush_calls HD.out)
            rw [HF.out.1] at CW
            clear h2
            go_wp2_with fail
            refine cO.out.mono ?_
            rintro e W4 ⟨rfl, rfl⟩
            go_wp2_with fail
            refine CW.out.mono ?_
            rintro e W6 ⟨rfl, hD6, hdv⟩
            have HB6 := Lib.hid (HB.out.trans (Dev.below hdv HB.out.size hlo.out))
            have HFIN := Lib.hid (show ∃ (k' : Nat) (D : Dv), k' ≤ m ∧ Value.int .i64 ((k : Int) + 1) = .int .i64 k' ∧ DvAt W6 w.heap.size d sb mb D ∧ D.stops = true ∧ D.left = (m : Int) - k' ∧ D.sure.length = 1 ∧ Below w.heap.size w W6 from
              ⟨k + 1, _, by omega, by go_num, hD6, HF.out.2.1, by rw [HF.out.2.2.1]; omega, by rw [HF.out.2.2.2]; exact HN.out, HB6.out⟩)
            clear hD6 hdv CW
            go_wp2
            exact ⟨HFIN.out, by simp [intOf]; omega⟩
        · have hd : decide ((k : Int) < (m : Int)) = false := by simp; omega
          have ho : offD D = true := by unfold offD; rw [HS.out, HL.out]; simp; omega
          rw [ho] at cO
          have hw1 : (writeD D 0 (blockL 1)) = (D, 30) := by unfold writeD; rw [if_neg (by rw [HN.out, blockL_len]; omega), ho]; rfl
          have hf1 : flushD D = (D, 30) := by unfold flushD; rw [ho]; rfl
          have hw2 : (writeD D 1 []) = (D, 1) := by unfold writeD; rw [if_pos (.inr (.inr (by simp)))]
          have HW1 := Lib.hid hw1
          have HF1 := Lib.hid hf1
          have HW2 := Lib.hid hw2
          clear ho hw1 hf1 hw2
          go_wp2_with fail
          refine cO.out.mono ?_
          rintro e W4 ⟨rfl, rfl⟩
          go_wp2_with fail
          refine (show Calls Try.prog 39 #[.int .u8 1] wr _ from block_calls 1 wr).mono ?_
          rintro e W5 ⟨⟨v1, rfl, hv1⟩, hb5⟩
          have CW := Lib.hid (write_calls (HD.out.same hb5) 0 (blockL 1) v1 wr.heap.size W5.heap.size (BytesAt.of_own hv1) (Nat.le_refl _) HD.out.ob.lt HD.out.map.lt)
          rw [HW1.out] at CW
          have HB5 := Lib.hid (HB.out.trans (hb5.mono HB.out.size))
          clear hb5 hv1
          go_wp2_with fail
          refine CW.out.mono ?_
          rintro e W6 ⟨rfl, hD6, hdv⟩
          have HB6 := Lib.hid (HB5.out.trans (Dev.below hdv HB5.out.size hlo.out))
          have CF := Lib.hid (flush_calls hD6)
          rw [HF1.out] at CF
          clear hD6 hdv CW
          go_wp2_with fail
          refine CF.out.mono ?_
          rintro e W7 ⟨rfl, hD7, hdv⟩
          have HB7 := Lib.hid (HB6.out.trans (Dev.below hdv HB6.out.size hlo.out))
          have CX := Lib.hid (write_calls hD7 1 [] (.slice none 0 0) W7.heap.size W7.heap.size (BytesAt.nil _ _ _) (Nat.le_refl _) hD7.ob.lt hD7.map.lt)
          rw [HW2.out] at CX
          clear hD7 hdv CF
          go_wp2_with fail
          refine CX.out.mono ?_
          rintro e W8 ⟨rfl, hD8, hdv⟩
          have HB8 := Lib.hid (HB7.out.trans (Dev.below hdv HB7.out.size hlo.out))
          clear hD8 hdv CX
          go_wp2
          go_ret
          exact ⟨rfl, HB8.out⟩
end Se
end Go.Proofs.Yteiniahikhiadaa
