/-
  cells of numbers: a number's cell, as the document makes it.
-/
import Derived.Test.YtloabanhoeaidaaCeC
namespace Go.Proofs.Ytloabanhoeaidaa
open Go.RowKit
namespace Ce

theorem rowWide {w : World} {lo lo' : Nat} {e : TypeId} {size n : Nat} {v : Value} {xs : List Value} (h : w.ownsRow lo e size v n xs) (hl : lo' ≤ lo) : w.ownsRow lo' e size v n xs := by
  refine ⟨h.1, h.2.elim Or.inl fun hx => .inr ?_⟩
  revert hx
  rintro ⟨g, cap, cur, rfl, hbg, hg⟩
  exact ⟨g, cap, cur, rfl, Nat.le_trans hl hbg, hg⟩

set_option maxRecDepth 100000 in
set_option maxHeartbeats 4000000 in
theorem digits_calls (u : Int) (w : World) (h0 : 0 ≤ u) (h1 : u ≤ 18446744073709551615) :
    Calls Try.prog 97 #[.int .u64 u] w fun e w' => (∃ v, e = .returned v ∧ w'.ownsRow w.heap.size 5 1 v (dig u.toNat).length (bytesV (dig u.toNat))) ∧ Below w.heap.size w w' := by
  obtain ⟨i0, hi0, hz0⟩ := Option.map_eq_some_iff.1 byte_info
  simp only [Prod.mk.injEq] at hz0
  obtain ⟨hz0, hz1, hz2⟩ := hz0
  have H8 := dig_len8 u.toNat
  have HD := Lib.hid (show dig u.toNat = dig u.toNat from rfl)
  go_enter Try.func97, Try.ntmps97
  go_wp2
  go_loopw [0, 3] (fun x o wr => ∃ (y : Int) (l : List UInt8), 0 ≤ y ∧ y ≤ 18446744073709551615 ∧ x = .int .u64 y ∧ dig u.toNat = dig y.toNat ++ l ∧ wr.ownsRow w.heap.size 5 1 o l.length (bytesV l) ∧ Below w.heap.size w wr) (fun x _ _ => (intOf x).toNat)
  case atStart => exact ⟨u, [], h0, h1, rfl, by simp, World.ownsRow_nil _ _ _ _, Below.refl _ _⟩
  case round =>
    obtain ⟨y, l, hy0, hy1, rfl, hl, hown, hB⟩ := hrel
    have hll : l.length ≤ 8 := by
      have := congrArg List.length hl
      simp at this
      omega
    by_cases hpos : 0 < y
    · have hd : decide (y > 0) = true := by simpa using hpos
      have HL := Lib.hid (show dig u.toNat = dig (y / 256).toNat ++ (UInt8.ofNat (y.toNat % 256) :: l) by
        rw [hl, dig_pos (by omega) (by omega), show (y / 256).toNat = y.toNat / 256 by omega]
        simp)
      have HV := Lib.hid (show bytesV (UInt8.ofNat (y.toNat % 256) :: l) = [.int .u8 (y % 256)] ++ bytesV l by
        simp only [bytesV, List.map_cons, List.cons_append, List.nil_append]
        rw [← byte_of (n := y % 256) (by omega) (Nat.mod_lt _ (by omega))])
      clear hl
      have hownE : (wr.alloc (.cells #[.int .u8 (y % 256)] 5)).ownsRow w.heap.size 5 1 (.slice (some ⟨wr.heap.size, 0, none⟩) 1 1) 1 [.int .u8 (y % 256)] := World.ownsRow_lit wr #[.int .u8 (y % 256)] 1 hB.size (by unfold maxLen; omega) rfl
      have hl2 := Sl.below (Sl.of_own hown) (((Below.refl wr.heap.size wr)).alloc (Nat.le_refl _) (.cells #[.int .u8 (y % 256)] 5))
      go_wp2_with (at_builtin
                   refine wpList_append_sl _ rfl (.tmp 9) (.tmp 10) _ rfl w.heap.size 5 i0 _ 1 1 Try.underlying41 hi0 hz0 hz1 hz2 rfl (by omega) (.slice (some ⟨wr.heap.size, 0, none⟩) 1 1) 1 _ rfl hownE w.heap.size wr.heap.size _ l.length (bytesV l) rfl hl2 (bytesV_one l) (by unfold maxLen; omega) (by omega) (by have := hB.size; simp; omega) ?_
                   intro v1 w5 hv1 hg1 hat1)
      have hB4 : Below w.heap.size w w5 := (hB.alloc hB.size _).grown hg1 (by have := hB.size; simp; omega) (fun g hg => by cases hg; exact hB.size)
      clear hg1 hat1 hown hownE hl2
      go_roundw
      case rel => exact ⟨y / 256, _, by omega, by omega, rfl, HL.out, by rw [HV.out, List.length_cons, Nat.add_comm]; exact hv1, hB4⟩
      case measure => simp only [intOf]; omega
    · obtain rfl : y = 0 := by omega
      have HL := Lib.hid (show dig u.toNat = l by rw [hl]; rfl)
      clear hl
      obtain ⟨A5, c5, rfl, -⟩ := (BytesAt.of_own hown).form
      go_wp2
      go_ret
      exact ⟨⟨_, rfl, by rw [HL.out]; exact hown⟩, hB⟩

set_option maxRecDepth 100000 in
set_option maxHeartbeats 4000000 in
theorem refnum_own (n : Int) (w : World) (h0 : -9223372036854775808 ≤ n) (h1 : n ≤ 9223372036854775807) :
    Calls Try.prog 80 #[.int .i64 n] w fun e w' => (∃ v, e = .returned v ∧ w'.ownsRow w.heap.size 5 1 v (numC n).length (bytesV (numC n))) ∧ Below w.heap.size w w' := by
  obtain ⟨i0, hi0, hz0⟩ := Option.map_eq_some_iff.1 byte_info
  simp only [Prod.mk.injEq] at hz0
  obtain ⟨hz0, hz1, hz2⟩ := hz0
  by_cases hs : 0 ≤ n ∧ n < 128
  · have HS := Lib.hid (numC_small hs)
    obtain ⟨hs1, hs2⟩ := hs
    have hd1 : decide (n ≥ 0) = true := by simpa using hs1
    have hd2 : decide (n < 128) = true := by simpa using hs2
    go_enter Try.func80, Try.ntmps80
    go_wp2
    go_ret
    refine ⟨⟨_, rfl, ?_⟩, (Below.refl _ w).alloc (Nat.le_refl _) _⟩
    rw [HS.out]
    have := World.ownsRow_lit (size := 1) (base := w.heap.size) (e := 5) w #[.int .u8 n] 1 (Nat.le_refl _) (by unfold maxLen; omega) rfl
    simp only [bytesV, List.map_cons, List.map_nil, List.length_singleton]
    rw [← byte_of (n := n) (by omega) (by omega)]
    exact this
  · by_cases hn : n < 0
    · have hd1 : decide (n ≥ 0) = false := by simp; omega
      have hd3 : decide (n < 0) = true := by simpa using hn
      have hx : IntKind.u64.wrap n = n + 18446744073709551616 := by rw [IntKind.wrap_u64]; omega
      have HNC := Lib.hid (numC_neg hn)
      have h8 := dig_len8 (-1 - n).toNat
      go_enter Try.func80, Try.ntmps80
      go_wp2_with fail
      refine (digits_calls (n + 18446744073709551616) _ (by omega) (by omega)).mono ?_
      rintro e W1 ⟨⟨v1, rfl, -⟩, hb1⟩
      go_wp2_with fail
      refine (digits_calls (-1 - n) _ (by omega) (by omega)).mono ?_
      rintro e W2 ⟨⟨v2, rfl, hv2⟩, hb2⟩
      have hB := hb1.trans (hb2.mono hb1.size)
      clear hb1 hb2
      have hx2 := BytesAt.of_own hv2
      obtain ⟨A2, c2, rfl, -⟩ := hx2.form
      generalize dig (-1 - n).toNat = D at *
      have hownE : (W2.alloc (.cells #[.int .u8 (144 + (D.length : Int))] 5)).ownsRow W2.heap.size 5 1 (.slice (some ⟨W2.heap.size, 0, none⟩) 1 1) 1 [.int .u8 (144 + (D.length : Int))] := World.ownsRow_lit W2 #[.int .u8 (144 + (D.length : Int))] 1 (Nat.le_refl _) (by unfold maxLen; omega) rfl
      have hl2 := Sl.below hx2 ((Below.refl W2.heap.size W2).alloc (Nat.le_refl _) (.cells #[.int .u8 (144 + (D.length : Int))] 5))
      have HV := Lib.hid (show bytesV (numC n) = [.int .u8 (144 + (D.length : Int))] ++ bytesV D by
        rw [HNC.out]
        simp only [bytesV, List.map_cons, List.cons_append, List.nil_append]
        rw [← byte_of (n := 144 + (D.length : Int)) (by omega) (by omega)])
      have HN := Lib.hid (show (numC n).length = 1 + D.length by rw [HNC.out, List.length_cons, Nat.add_comm])
      clear hv2 hx2 HNC
      go_wp2_with (at_builtin
                   refine wpList_append_sl _ rfl (.tmp 28) (.tmp 29) _ rfl W2.heap.size 5 i0 _ 1 1 Try.underlying41 hi0 hz0 hz1 hz2 rfl (by omega) (.slice (some ⟨W2.heap.size, 0, none⟩) 1 1) 1 _ rfl hownE W1.heap.size W2.heap.size _ D.length (bytesV D) rfl hl2 (bytesV_one D) (by unfold maxLen; omega) (by omega) (by simp) ?_
                   intro v5 w5 hv5 hg5 hat5)
      have hB4 : Below W2.heap.size W2 w5 := ((Below.refl _ W2).alloc (Nat.le_refl _) (.cells #[.int .u8 (144 + (D.length : Int))] 5)).grown hg5 (by simp) (fun g hg => by cases hg; exact Nat.le_refl _)
      clear hg5 hat5 hownE hl2
      have hx5 : w5.ownsRow w.heap.size 5 1 v5 (numC n).length (bytesV (numC n)) := by
        rw [← HV.out, ← HN.out] at hv5
        exact rowWide hv5 hB.size
      obtain ⟨A5, c5, rfl, -⟩ := (BytesAt.of_own hx5).form
      go_wp2
      go_ret
      exact ⟨⟨_, rfl, hx5⟩, hB.trans (hB4.mono hB.size)⟩
    · have hn2 : 128 ≤ n := by omega
      have hd1 : decide (n ≥ 0) = true := by simp; omega
      have hd2 : decide (n < 128) = false := by simp; omega
      have hd3 : decide (n < 0) = false := by simp; omega
      have HNC := Lib.hid (numC_big hn2)
      have h8 := dig_len8 n.toNat
      go_enter Try.func80, Try.ntmps80
      go_wp2_with fail
      refine (digits_calls n _ (by omega) (by omega)).mono ?_
      rintro e W2 ⟨⟨v2, rfl, hv2⟩, hB⟩
      have hx2 := BytesAt.of_own hv2
      obtain ⟨A2, c2, rfl, -⟩ := hx2.form
      generalize dig (n).toNat = D at *
      have hownE : (W2.alloc (.cells #[.int .u8 (128 + (D.length : Int))] 5)).ownsRow W2.heap.size 5 1 (.slice (some ⟨W2.heap.size, 0, none⟩) 1 1) 1 [.int .u8 (128 + (D.length : Int))] := World.ownsRow_lit W2 #[.int .u8 (128 + (D.length : Int))] 1 (Nat.le_refl _) (by unfold maxLen; omega) rfl
      have hl2 := Sl.below hx2 ((Below.refl W2.heap.size W2).alloc (Nat.le_refl _) (.cells #[.int .u8 (128 + (D.length : Int))] 5))
      have HV := Lib.hid (show bytesV (numC n) = [.int .u8 (128 + (D.length : Int))] ++ bytesV D by
        rw [HNC.out]
        simp only [bytesV, List.map_cons, List.cons_append, List.nil_append]
        rw [← byte_of (n := 128 + (D.length : Int)) (by omega) (by omega)])
      have HN := Lib.hid (show (numC n).length = 1 + D.length by rw [HNC.out, List.length_cons, Nat.add_comm])
      clear hv2 hx2 HNC
      go_wp2_with (at_builtin
                   refine wpList_append_sl _ rfl (.tmp 28) (.tmp 29) _ rfl W2.heap.size 5 i0 _ 1 1 Try.underlying41 hi0 hz0 hz1 hz2 rfl (by omega) (.slice (some ⟨W2.heap.size, 0, none⟩) 1 1) 1 _ rfl hownE w.heap.size W2.heap.size _ D.length (bytesV D) rfl hl2 (bytesV_one D) (by unfold maxLen; omega) (by omega) (by simp) ?_
                   intro v5 w5 hv5 hg5 hat5)
      have hB4 : Below W2.heap.size W2 w5 := ((Below.refl _ W2).alloc (Nat.le_refl _) (.cells #[.int .u8 (128 + (D.length : Int))] 5)).grown hg5 (by simp) (fun g hg => by cases hg; exact Nat.le_refl _)
      clear hg5 hat5 hownE hl2
      have hx5 : w5.ownsRow w.heap.size 5 1 v5 (numC n).length (bytesV (numC n)) := by
        rw [← HV.out, ← HN.out] at hv5
        exact rowWide hv5 hB.size
      obtain ⟨A5, c5, rfl, -⟩ := (BytesAt.of_own hx5).form
      go_wp2
      go_ret
      exact ⟨⟨_, rfl, hx5⟩, hB.trans (hB4.mono hB.size)⟩
theorem refnum_calls (n : Int) (w : World) (h0 : -9223372036854775808 ≤ n) (h1 : n ≤ 9223372036854775807) :
    Calls Try.prog 80 #[.int .i64 n] w fun e w' => (∃ v, e = .returned v ∧ BytesAt w' w.heap.size w'.heap.size v (numC n)) ∧ Below w.heap.size w w' :=
  (refnum_own n w h0 h1).mono fun _ _ ⟨⟨v, e, h⟩, hB⟩ => ⟨⟨v, e, BytesAt.of_own h⟩, hB⟩
end Ce
end Go.Proofs.Ytloabanhoeaidaa
