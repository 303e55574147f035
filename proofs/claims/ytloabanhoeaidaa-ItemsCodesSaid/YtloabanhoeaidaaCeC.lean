/-
  cells of numbers: a number's cell, as the program and as the document make it.
-/
import Derived.Test.YtloabanhoeaidaaCeB
import Derived.Test.YtloabanhoeaidaaReg
import Derived.Laws.OwnMore
import Derived.Lib.Zigzag
namespace Go.Proofs.Ytloabanhoeaidaa
open Go.RowKit
namespace Ce

/-- bytes in memory -/
def bytesV (l : List UInt8) : List Value := l.map fun c => Value.int .u8 (c.toNat : Int)
theorem bytesV_length (l : List UInt8) : (bytesV l).length = l.length := by simp [bytesV]
theorem bytesV_append (a b : List UInt8) : bytesV (a ++ b) = bytesV a ++ bytesV b := by simp [bytesV]
theorem bytesV_one (l : List UInt8) : ∀ y ∈ bytesV l, y.oneCell' = true := by
  intro y hy
  obtain ⟨x, _, rfl⟩ := List.mem_map.1 hy
  rfl
def BytesAt (w : World) (lo B : Nat) (v : Value) (l : List UInt8) : Prop := Sl w lo B 1 v l.length (bytesV l)
section
variable {w w' : World} {lo lo' B B' : Nat} {v : Value} {l : List UInt8}
theorem BytesAt.below (h : BytesAt w lo B v l) (hb : Below B w w') : BytesAt w' lo B v l := Sl.below h hb
theorem BytesAt.mono (h : BytesAt w lo B v l) (hb : Below B w w') (hB : B ≤ B') : BytesAt w' lo B' v l := Sl.mono h hb hB
theorem BytesAt.wide (h : BytesAt w lo B v l) (hl : lo' ≤ lo) (hB : B ≤ B') : BytesAt w lo' B' v l := Sl.wide h hl hB
theorem BytesAt.nil (w : World) (lo B : Nat) : BytesAt w lo B (.slice none 0 0) [] := Sl.nil w lo B 1
theorem BytesAt.form (h : BytesAt w lo B v l) : ∃ A c, v = .slice A l.length c ∧ l.length ≤ c ∧ c ≤ maxLen := by
  obtain ⟨A, c, e, h1, h2, _⟩ := h.at_
  exact ⟨A, c, e, h1, h2⟩
theorem BytesAt.cellAt {A : Option Addr} {n c j : Nat} (h : BytesAt w lo B (.slice A n c) l) (hj : j < l.length) :
    ∃ b o, A = some ⟨b, o, none⟩ ∧ lo ≤ b ∧ b < B ∧ w.cell? ⟨b, o + j, none⟩ = some (.int .u8 (l[j].toNat : Int)) := by
  obtain ⟨A', c', e, _, _, h3⟩ := h.at_
  cases e
  obtain ⟨b, o, e1, e2, e3, e4⟩ := h3 (by omega)
  refine ⟨b, o, e1, e2, e3, (e4 j (by omega)).trans ?_⟩
  simp [bytesV, hj]
theorem BytesAt.of_own {e : TypeId} {n : Nat} (h : w.ownsRow lo e 1 v n (bytesV l)) : BytesAt w lo w.heap.size v l := by
  have hn : n = l.length := by have := h.1; rw [bytesV_length] at this; omega
  subst hn
  exact Sl.of_own h
end
theorem byte_info : (Try.prog.info? 5).map (fun i => (i.zero, i.size, i.bytes)) = some (some (.int .u8 0), 1, 1) := by kernel_rfl

theorem byte_of {n : Int} {k : Nat} (h : n = k) (hk : k < 256) : Value.int .u8 n = .int .u8 ((UInt8.ofNat k).toNat : Int) := by
  rw [h, toNat_ofNat hk]
/-- how many bytes, from how many bits -/
theorem size_of {u : Int} {k : Nat} (h0 : 0 ≤ u) (h1 : u ≤ 18446744073709551615) (hk : k ≤ 64) (h2 : u < 2 ^ k) (h3 : k = 0 ∨ 2 ^ (k - 1) ≤ u) : (k + 7) / 8 = (dig u.toNat).length := by
  obtain ⟨n, rfl⟩ := Int.eq_ofNat_of_zero_le h0
  simp only [Int.toNat_natCast]
  have h2' : n < 2 ^ k := by exact_mod_cast h2
  have h3' : k = 0 ∨ 2 ^ (k - 1) ≤ n := by
    rcases h3 with h | h
    · exact .inl h
    · exact .inr (by exact_mod_cast h)
  refine Nat.le_antisymm ?_ ?_
  · have hg := dig_ge (u := n) (by omega)
    rcases h3' with rfl | h
    · simp
    · have hlt : 2 ^ (k - 1) < 2 ^ (8 * (dig n).length) := by
        rw [Nat.pow_mul]
        exact Nat.lt_of_le_of_lt h hg
      have := (Nat.pow_lt_pow_iff_right (a := 2) (by omega)).1 hlt
      omega
  · refine dig_len (by omega) ?_
    rw [show (256 : Nat) = 2 ^ 8 by rfl, ← Nat.pow_mul]
    exact Nat.lt_of_lt_of_le h2' (Nat.pow_le_pow_right (by omega) (by omega))

theorem flip_neg {n : Int} (h0 : -9223372036854775808 ≤ n) (h : n < 0) : bits .xor .u64 IntKind.u64.max (IntKind.u64.wrap n) = -1 - n := by
  have e1 : IntKind.u64.wrap n = (((n + 18446744073709551616).toNat : Nat) : Int) := by
    rw [IntKind.wrap_u64]
    omega
  have e2 : IntKind.u64.max = ((2 ^ 64 - 1 : Nat) : Int) := by decide
  rw [e1, e2, bits_xor_u64_nat _ _ (by decide) (by omega), Lib.xor_ones64 _ (by omega)]
  omega

theorem byte_shift {u : Int} {m : Nat} (h : 0 ≤ u) : u / 2 ^ (8 * m) % 256 = ((u.toNat / 256 ^ m % 256 : Nat) : Int) := by
  obtain ⟨x, rfl⟩ := Int.eq_ofNat_of_zero_le h
  simp only [Int.toNat_natCast]
  have h1 : ((2 : Nat) ^ (8 * m) : Nat) = 256 ^ m := by
    rw [Nat.pow_mul]
  have h2 : (2 : Int) ^ (8 * m) = ((2 ^ (8 * m) : Nat) : Int) := (Int.natCast_pow 2 (8 * m)).symm
  rw [h2, h1]
  generalize 256 ^ m = q
  omega
theorem BytesAt.clip {w : World} {lo B n c : Nat} {A : Option Addr} {l : List UInt8} (h : BytesAt w lo B (.slice A n c) l) : BytesAt w lo B (.slice A n n) l := by
  have h0 := h.len
  obtain ⟨A', c', e, h1, h2, h3⟩ := h.at_
  cases e
  exact ⟨h0, _, _, rfl, Nat.le_refl _, Nat.le_trans h1 h2, h3⟩
set_option maxHeartbeats 1000000 in
theorem clip_calls (A : Option Addr) (n c : Nat) (w : World) (h : n ≤ c) :
    Calls Try.prog 83 #[.slice A n c] w fun e w' => e = .returned (.slice A n n) ∧ w = w' := by
  have k1 : (0 : Int) ≤ (n : Int) := by omega
  have k2 : (n : Int) ≤ (c : Int) := by omega
  go_enter Try.func83, Try.ntmps83
  go_wp2
  go_ret
  exact ⟨rfl, rfl⟩

set_option maxRecDepth 100000 in
set_option maxHeartbeats 4000000 in
theorem num_calls (n : Int) (w : World) (h0 : -9223372036854775808 ≤ n) (h1 : n ≤ 9223372036854775807) :
    Calls Try.prog 73 #[.int .i64 n] w fun e w' => (∃ v, e = .returned v ∧ BytesAt w' w.heap.size w'.heap.size v (numC n)) ∧ Below w.heap.size w w' := by
  obtain ⟨i0, hi0, hz0⟩ := Option.map_eq_some_iff.1 byte_info
  simp only [Prod.mk.injEq] at hz0
  obtain ⟨hz0, hz1, hz2⟩ := hz0
  by_cases hs : 0 ≤ n ∧ n < 128
  · have HS := Lib.hid (numC_small hs)
    obtain ⟨hs1, hs2⟩ := hs
    have hd1 : decide (n ≥ 0) = true := by simpa using hs1
    have hd2 : decide (n < 128) = true := by simpa using hs2
    go_enter Try.func73, Try.ntmps73
    go_wp2
    go_ret
    refine ⟨⟨_, rfl, ?_⟩, (Below.refl _ w).alloc (Nat.le_refl _) _⟩
    rw [HS.out]
    have := Sl.new w #[.int .u8 n] 5 (n := 1) (size := 1) rfl (by unfold maxLen; omega)
    rw [World.size_alloc]
    unfold BytesAt
    simp only [bytesV, List.map_cons, List.map_nil, List.length_singleton]
    rw [← byte_of (n := n) (by omega) (by omega)]
    exact this
  · by_cases hn : n < 0
    · have hd1 : decide (n ≥ 0) = false := by simp; omega
      have hd3 : decide (n < 0) = true := by simpa using hn
      have hx := flip_neg h0 hn
      go_enter Try.func73, Try.ntmps73
      go_wp2_with fail
      refine (len64_calls (-1 - n) _ (by omega) (by omega)).mono ?_
      rintro e W ⟨⟨k, rfl, hk, hk2, hk3⟩, rfl⟩
      have hsz := size_of (by omega) (by omega) hk hk2 hk3
      have HSZ := Lib.hid hsz
      have h8 := dig_len8 (-1 - n).toNat
      clear hsz hk2 hk3
      go_wp2
      have hz : ((k : Int) + 8 - 1) / 8 = ((dig (-1 - n).toNat).length : Int) := by have := HSZ.out; omega
      rw [hz]
      clear hz HSZ
      have hown0 : (w.alloc (.cells #[.int .u8 (144 + ((dig (-1 - n).toNat).length : Int))] 5)).ownsRow w.heap.size 5 1 (.slice (some ⟨w.heap.size, 0, none⟩) 1 1) 1 (bytesV [UInt8.ofNat (144 + (dig (-1 - n).toNat).length)]) := by
        have := World.ownsRow_lit (size := 1) (base := w.heap.size) (e := 5) w #[.int .u8 (144 + ((dig (-1 - n).toNat).length : Int))] 1 (Nat.le_refl _) (by unfold maxLen; omega) rfl
        simp only [bytesV, List.map_cons, List.map_nil]
        rw [← byte_of (n := 144 + ((dig (-1 - n).toNat).length : Int)) (by omega) (by omega)]
        exact this
      have HG := Lib.hid (dig_get _ (-1 - n).toNat h8 rfl (by omega))
      have HNC := Lib.hid (show numC n = UInt8.ofNat (144 + (dig (-1 - n).toNat).length) :: dig (-1 - n).toNat from numC_neg hn)
      generalize UInt8.ofNat (144 + (dig (-1 - n).toNat).length) = hb at *
      generalize dig (-1 - n).toNat = D at *
      go_loopw [6, 7] (fun o i wr => ∃ j : Nat, j ≤ D.length ∧ i = .int .i64 ((D.length : Int) - 1 - j) ∧ wr.ownsRow w.heap.size 5 1 o (1 + j) (bytesV (hb :: D.take j)) ∧ Below w.heap.size w wr) (fun _ i _ => (intOf i + 1).toNat)
      case atStart => exact ⟨0, by omega, by go_num, hown0, (Below.refl _ w).alloc (Nat.le_refl _) _⟩
      case round =>
        obtain ⟨j, hj, rfl, hown, hB⟩ := hrel
        clear hown0
        by_cases hlt : j < D.length
        · obtain ⟨m, hm⟩ : ∃ m : Nat, (D.length : Int) - 1 - j = (m : Int) := ⟨D.length - 1 - j, by omega⟩
          rw [hm]
          have hm2 : m < 8 := by omega
          have HM := Lib.hid hm
          clear hm
          have hbyte : (-1 - n) / 2 ^ (8 * m) % 256 = ((D[j]'hlt).toNat : Int) := by
            have h1 := HG.out j hlt
            rw [List.getElem?_eq_getElem hlt, show D.length - 1 - j = m by have := HM.out; omega] at h1
            simp only [Option.some.injEq] at h1
            rw [h1, toNat_ofNat (Nat.mod_lt _ (by omega))]
            exact byte_shift (by omega)
          have hts : D.take (j + 1) = D.take j ++ [D[j]] := List.take_succ_eq_append_getElem hlt
          have HB := Lib.hid hbyte
          have HTS := Lib.hid (show bytesV (hb :: D.take (j + 1)) = bytesV (hb :: D.take j) ++ [.int .u8 ((D[j]'hlt).toNat : Int)] by simp only [bytesV, List.map_cons, hts, List.map_append, List.map_nil, List.cons_append])
          clear hbyte hts
          go_wp2_with (at_builtin
                       refine wpList_append_sl _ rfl (.tmp 39) (.tmp 45) _ rfl w.heap.size 5 i0 _ 1 1 Try.underlying41 hi0 hz0 hz1 hz2 rfl (by omega) u6 (1 + j) _ rfl (hown.alloc _) wr.heap.size (wr.heap.size + 1) _ 1 [.int .u8 ((-1 - n) / 2 ^ (8 * m) % 256)] rfl (Sl.new wr #[.int .u8 ((-1 - n) / 2 ^ (8 * m) % 256)] 5 (n := 1) rfl (by unfold maxLen; omega)) (by simp [Value.oneCell']) (by unfold maxLen; omega) (by omega) (by have := hB.size; simp; omega) ?_
                       intro v1 w5 hv1 hg1 hat1)
          have hB4 : Below w.heap.size w w5 := (hB.alloc hB.size _).grown hg1 (by have := hB.size; simp; omega) (fun g hg => (hown.lt g hg).1)
          clear hg1 hat1 hown
          go_roundw
          case rel =>
            refine ⟨j + 1, by omega, num (by have := HM.out; omega), ?_, hB4⟩
            rw [HTS.out, ← HB.out, ← Nat.add_assoc]
            exact hv1
          case measure => have := HM.out; simp only [intOf]; omega
        · obtain rfl : j = D.length := by omega
          rw [show (D.length : Int) - 1 - (D.length : Int) = -1 by omega]
          rw [List.take_length, show 1 + D.length = (hb :: D).length by rw [List.length_cons, Nat.add_comm]] at hown
          have hx := (BytesAt.of_own hown)
          obtain ⟨A5, c5, rfl, hc5, -⟩ := hx.form
          clear hown
          go_wp2_with (go_at_call 83; refine (clip_calls A5 _ c5 _ hc5).mono ?_; rintro e w9 ⟨rfl, rfl⟩)
          go_ret
          rw [HNC.out]
          exact ⟨⟨_, rfl, BytesAt.clip hx⟩, hB⟩
    · have hn2 : 128 ≤ n := by omega
      have hd1 : decide (n ≥ 0) = true := by simp; omega
      have hd2 : decide (n < 128) = false := by simp; omega
      have hd3 : decide (n < 0) = false := by simp; omega
      go_enter Try.func73, Try.ntmps73
      go_wp2_with fail
      refine (len64_calls (n) _ (by omega) (by omega)).mono ?_
      rintro e W ⟨⟨k, rfl, hk, hk2, hk3⟩, rfl⟩
      have hsz := size_of (by omega) (by omega) hk hk2 hk3
      have HSZ := Lib.hid hsz
      have h8 := dig_len8 (n).toNat
      clear hsz hk2 hk3
      go_wp2
      have hz : ((k : Int) + 8 - 1) / 8 = ((dig (n).toNat).length : Int) := by have := HSZ.out; omega
      rw [hz]
      clear hz HSZ
      have hown0 : (w.alloc (.cells #[.int .u8 (128 + ((dig (n).toNat).length : Int))] 5)).ownsRow w.heap.size 5 1 (.slice (some ⟨w.heap.size, 0, none⟩) 1 1) 1 (bytesV [UInt8.ofNat (128 + (dig (n).toNat).length)]) := by
        have := World.ownsRow_lit (size := 1) (base := w.heap.size) (e := 5) w #[.int .u8 (128 + ((dig (n).toNat).length : Int))] 1 (Nat.le_refl _) (by unfold maxLen; omega) rfl
        simp only [bytesV, List.map_cons, List.map_nil]
        rw [← byte_of (n := 128 + ((dig (n).toNat).length : Int)) (by omega) (by omega)]
        exact this
      have HG := Lib.hid (dig_get _ (n).toNat h8 rfl (by omega))
      have HNC := Lib.hid (show numC n = UInt8.ofNat (128 + (dig (n).toNat).length) :: dig (n).toNat from numC_big hn2)
      generalize UInt8.ofNat (128 + (dig (n).toNat).length) = hb at *
      generalize dig (n).toNat = D at *
      go_loopw [6, 7] (fun o i wr => ∃ j : Nat, j ≤ D.length ∧ i = .int .i64 ((D.length : Int) - 1 - j) ∧ wr.ownsRow w.heap.size 5 1 o (1 + j) (bytesV (hb :: D.take j)) ∧ Below w.heap.size w wr) (fun _ i _ => (intOf i + 1).toNat)
      case atStart => exact ⟨0, by omega, by go_num, hown0, (Below.refl _ w).alloc (Nat.le_refl _) _⟩
      case round =>
        obtain ⟨j, hj, rfl, hown, hB⟩ := hrel
        clear hown0
        by_cases hlt : j < D.length
        · obtain ⟨m, hm⟩ : ∃ m : Nat, (D.length : Int) - 1 - j = (m : Int) := ⟨D.length - 1 - j, by omega⟩
          rw [hm]
          have hm2 : m < 8 := by omega
          have HM := Lib.hid hm
          clear hm
          have hbyte : (n) / 2 ^ (8 * m) % 256 = ((D[j]'hlt).toNat : Int) := by
            have h1 := HG.out j hlt
            rw [List.getElem?_eq_getElem hlt, show D.length - 1 - j = m by have := HM.out; omega] at h1
            simp only [Option.some.injEq] at h1
            rw [h1, toNat_ofNat (Nat.mod_lt _ (by omega))]
            exact byte_shift (by omega)
          have hts : D.take (j + 1) = D.take j ++ [D[j]] := List.take_succ_eq_append_getElem hlt
          have HB := Lib.hid hbyte
          have HTS := Lib.hid (show bytesV (hb :: D.take (j + 1)) = bytesV (hb :: D.take j) ++ [.int .u8 ((D[j]'hlt).toNat : Int)] by simp only [bytesV, List.map_cons, hts, List.map_append, List.map_nil, List.cons_append])
          clear hbyte hts
          go_wp2_with (at_builtin
                       refine wpList_append_sl _ rfl (.tmp 39) (.tmp 45) _ rfl w.heap.size 5 i0 _ 1 1 Try.underlying41 hi0 hz0 hz1 hz2 rfl (by omega) u6 (1 + j) _ rfl (hown.alloc _) wr.heap.size (wr.heap.size + 1) _ 1 [.int .u8 ((n) / 2 ^ (8 * m) % 256)] rfl (Sl.new wr #[.int .u8 ((n) / 2 ^ (8 * m) % 256)] 5 (n := 1) rfl (by unfold maxLen; omega)) (by simp [Value.oneCell']) (by unfold maxLen; omega) (by omega) (by have := hB.size; simp; omega) ?_
                       intro v1 w5 hv1 hg1 hat1)
          have hB4 : Below w.heap.size w w5 := (hB.alloc hB.size _).grown hg1 (by have := hB.size; simp; omega) (fun g hg => (hown.lt g hg).1)
          clear hg1 hat1 hown
          go_roundw
          case rel =>
            refine ⟨j + 1, by omega, num (by have := HM.out; omega), ?_, hB4⟩
            rw [HTS.out, ← HB.out, ← Nat.add_assoc]
            exact hv1
          case measure => have := HM.out; simp only [intOf]; omega
        · obtain rfl : j = D.length := by omega
          rw [show (D.length : Int) - 1 - (D.length : Int) = -1 by omega]
          rw [List.take_length, show 1 + D.length = (hb :: D).length by rw [List.length_cons, Nat.add_comm]] at hown
          have hx := (BytesAt.of_own hown)
          obtain ⟨A5, c5, rfl, hc5, -⟩ := hx.form
          clear hown
          go_wp2_with (go_at_call 83; refine (clip_calls A5 _ c5 _ hc5).mono ?_; rintro e w9 ⟨rfl, rfl⟩)
          go_ret
          rw [HNC.out]
          exact ⟨⟨_, rfl, BytesAt.clip hx⟩, hB⟩
end Ce
end Go.Proofs.Ytloabanhoeaidaa
