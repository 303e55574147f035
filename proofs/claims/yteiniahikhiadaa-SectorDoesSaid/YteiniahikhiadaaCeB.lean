/-
  cells of numbers: how many bits a number has.
-/
import Derived.Test.YteiniahikhiadaaCeA
namespace Go.Proofs.Yteiniahikhiadaa
open Go.RowKit
namespace Ce

def lt8 : ByteArray := ⟨#[0, 1, 2, 2, 3, 3, 3, 3, 4, 4, 4, 4, 4, 4, 4, 4, 5, 5, 5, 5, 5, 5, 5, 5, 5, 5, 5, 5, 5, 5, 5, 5, 6, 6, 6, 6, 6, 6, 6, 6, 6, 6, 6, 6, 6, 6, 6, 6, 6, 6, 6, 6, 6, 6, 6, 6, 6, 6, 6, 6, 6, 6, 6, 6, 7, 7, 7, 7, 7, 7, 7, 7, 7, 7, 7, 7, 7, 7, 7, 7, 7, 7, 7, 7, 7, 7, 7, 7, 7, 7, 7, 7, 7, 7, 7, 7, 7, 7, 7, 7, 7, 7, 7, 7, 7, 7, 7, 7, 7, 7, 7, 7, 7, 7, 7, 7, 7, 7, 7, 7, 7, 7, 7, 7, 7, 7, 7, 7, 8, 8, 8, 8, 8, 8, 8, 8, 8, 8, 8, 8, 8, 8, 8, 8, 8, 8, 8, 8, 8, 8, 8, 8, 8, 8, 8, 8, 8, 8, 8, 8, 8, 8, 8, 8, 8, 8, 8, 8, 8, 8, 8, 8, 8, 8, 8, 8, 8, 8, 8, 8, 8, 8, 8, 8, 8, 8, 8, 8, 8, 8, 8, 8, 8, 8, 8, 8, 8, 8, 8, 8, 8, 8, 8, 8, 8, 8, 8, 8, 8, 8, 8, 8, 8, 8, 8, 8, 8, 8, 8, 8, 8, 8, 8, 8, 8, 8, 8, 8, 8, 8, 8, 8, 8, 8, 8, 8, 8, 8, 8, 8, 8, 8, 8, 8, 8, 8, 8, 8, 8, 8, 8, 8, 8, 8, 8, 8]⟩
theorem lt8_def : lt8 = ⟨#[0, 1, 2, 2, 3, 3, 3, 3, 4, 4, 4, 4, 4, 4, 4, 4, 5, 5, 5, 5, 5, 5, 5, 5, 5, 5, 5, 5, 5, 5, 5, 5, 6, 6, 6, 6, 6, 6, 6, 6, 6, 6, 6, 6, 6, 6, 6, 6, 6, 6, 6, 6, 6, 6, 6, 6, 6, 6, 6, 6, 6, 6, 6, 6, 7, 7, 7, 7, 7, 7, 7, 7, 7, 7, 7, 7, 7, 7, 7, 7, 7, 7, 7, 7, 7, 7, 7, 7, 7, 7, 7, 7, 7, 7, 7, 7, 7, 7, 7, 7, 7, 7, 7, 7, 7, 7, 7, 7, 7, 7, 7, 7, 7, 7, 7, 7, 7, 7, 7, 7, 7, 7, 7, 7, 7, 7, 7, 7, 8, 8, 8, 8, 8, 8, 8, 8, 8, 8, 8, 8, 8, 8, 8, 8, 8, 8, 8, 8, 8, 8, 8, 8, 8, 8, 8, 8, 8, 8, 8, 8, 8, 8, 8, 8, 8, 8, 8, 8, 8, 8, 8, 8, 8, 8, 8, 8, 8, 8, 8, 8, 8, 8, 8, 8, 8, 8, 8, 8, 8, 8, 8, 8, 8, 8, 8, 8, 8, 8, 8, 8, 8, 8, 8, 8, 8, 8, 8, 8, 8, 8, 8, 8, 8, 8, 8, 8, 8, 8, 8, 8, 8, 8, 8, 8, 8, 8, 8, 8, 8, 8, 8, 8, 8, 8, 8, 8, 8, 8, 8, 8, 8, 8, 8, 8, 8, 8, 8, 8, 8, 8, 8, 8, 8, 8, 8, 8]⟩ := rfl
theorem lt8_size : lt8.size = 256 := by kernel_rfl
theorem lt8_nat : ∀ x, (h : x < 256) → x < 2 ^ (lt8[x]'(by rw [lt8_size]; exact h)).toNat ∧ ((lt8[x]'(by rw [lt8_size]; exact h)).toNat = 0 ∨ 2 ^ ((lt8[x]'(by rw [lt8_size]; exact h)).toNat - 1) ≤ x) ∧ (lt8[x]'(by rw [lt8_size]; exact h)).toNat ≤ 8 := by
  decide +kernel
theorem lt8_int (x : Int) (h0 : 0 ≤ x) (h1 : x < 256) (h : x.toNat < lt8.size) : x < 2 ^ (lt8[x.toNat]'h).toNat ∧ ((lt8[x.toNat]'h).toNat = 0 ∨ 2 ^ ((lt8[x.toNat]'h).toNat - 1) ≤ x) ∧ (lt8[x.toNat]'h).toNat ≤ 8 := by
  obtain ⟨n, rfl⟩ := Int.eq_ofNat_of_zero_le h0
  have := lt8_nat n (by omega)
  simp only [Int.toNat_natCast] at this ⊢
  obtain ⟨a, b, c⟩ := this
  exact ⟨by exact_mod_cast a, by exact_mod_cast b, c⟩
theorem bits_of {u x : Int} {s t : Nat} (hx : x = u / 2 ^ s) (h1 : x < 2 ^ t) (h2 : t = 0 ∨ 2 ^ (t - 1) ≤ x) (h3 : s = 0 ∨ 1 ≤ x) : u < 2 ^ (s + t) ∧ (s + t = 0 ∨ 2 ^ (s + t - 1) ≤ u) := by
  have hp : (0 : Int) < 2 ^ s := Int.pow_pos (by omega)
  have e1 : u < (x + 1) * 2 ^ s := by rw [hx]; exact Int.lt_ediv_add_one_mul_self u hp
  have e2 : x * 2 ^ s ≤ u := by rw [hx]; exact Int.ediv_mul_le u (by omega)
  refine ⟨?_, ?_⟩
  · rw [Int.pow_add, Int.mul_comm]
    exact Int.lt_of_lt_of_le e1 (Int.mul_le_mul_of_nonneg_right (by omega) (by omega))
  · rcases h2 with h2 | h2
    · subst h2
      simp at h1
      rcases h3 with h3 | h3
      · exact .inl (by omega)
      · omega
    · rcases Nat.eq_zero_or_pos t with ht | ht
      · subst ht
        simp at h1 h2
        omega
      · right
        rw [show s + t - 1 = (t - 1) + s by omega, Int.pow_add]
        exact Int.le_trans (Int.mul_le_mul_of_nonneg_right h2 (by omega)) e2

theorem wrap_0 (T : Nat) (h : T ≤ 8) : wrap64 (wrap64 (T : Int)) = ((0 + T : Nat) : Int) := by unfold wrap64; omega
theorem wrap_s (s T : Nat) (hs : s ≤ 56) (h : T ≤ 8) : wrap64 ((s : Int) + wrap64 (T : Int)) = ((s + T : Nat) : Int) := by unfold wrap64; omega
set_option maxRecDepth 100000 in
set_option maxHeartbeats 4000000 in
theorem len64_0 (u : Int) (w : World) (h0 : 0 ≤ u) (h1 : u ≤ 18446744073709551615) (h32 : u < 4294967296) (h16 : u < 65536) (h8 : u < 256) :
    Calls Try.prog 111 #[.int .u64 u] w fun e w' => (∃ k : Nat, e = .returned (.int .i64 k) ∧ k ≤ 64 ∧ u < 2 ^ k ∧ (k = 0 ∨ 2 ^ (k - 1) ≤ u)) ∧ w = w' := by
  have _k := And.intro h0 (And.intro h1 (And.intro h32 (And.intro h16 h8)))
  clear _k
  have hT := lt8_int (u) (by omega) (by omega)
  go_enter Try.func111, Try.ntmps111
  go_wp2
  simp only [← lt8_def]
  go_ret
  have hh : (u).toNat < lt8.size := by rw [lt8_size]; omega
  have hT := hT hh
  have hb := bits_of (u := u) (s := 0) (by omega) hT.1 hT.2.1 (by omega)
  exact ⟨⟨0 + (lt8[(u).toNat]'hh).toNat, ret1 (num (wrap_0 _ hT.2.2)), Nat.add_le_add (by omega : 0 ≤ 56) hT.2.2, hb.1, hb.2⟩, rfl⟩
set_option maxRecDepth 100000 in
set_option maxHeartbeats 4000000 in
theorem len64_1 (u : Int) (w : World) (h0 : 0 ≤ u) (h1 : u ≤ 18446744073709551615) (h32 : u < 4294967296) (h16 : u < 65536) (h8 : ¬ u < 256) :
    Calls Try.prog 111 #[.int .u64 u] w fun e w' => (∃ k : Nat, e = .returned (.int .i64 k) ∧ k ≤ 64 ∧ u < 2 ^ k ∧ (k = 0 ∨ 2 ^ (k - 1) ≤ u)) ∧ w = w' := by
  have _k := And.intro h0 (And.intro h1 (And.intro h32 (And.intro h16 h8)))
  clear _k
  have hT := lt8_int (u / 256) (by omega) (by omega)
  go_enter Try.func111, Try.ntmps111
  go_wp2
  simp only [← lt8_def]
  go_ret
  have hh : (u / 256).toNat < lt8.size := by rw [lt8_size]; omega
  have hT := hT hh
  have hb := bits_of (u := u) (s := 8) (by omega) hT.1 hT.2.1 (by omega)
  exact ⟨⟨8 + (lt8[(u / 256).toNat]'hh).toNat, ret1 (num (wrap_s 8 _ (by omega) hT.2.2)), Nat.add_le_add (by omega : 8 ≤ 56) hT.2.2, hb.1, hb.2⟩, rfl⟩
set_option maxRecDepth 100000 in
set_option maxHeartbeats 4000000 in
theorem len64_2 (u : Int) (w : World) (h0 : 0 ≤ u) (h1 : u ≤ 18446744073709551615) (h32 : u < 4294967296) (h16 : ¬ u < 65536) (h8 : u / 65536 < 256) :
    Calls Try.prog 111 #[.int .u64 u] w fun e w' => (∃ k : Nat, e = .returned (.int .i64 k) ∧ k ≤ 64 ∧ u < 2 ^ k ∧ (k = 0 ∨ 2 ^ (k - 1) ≤ u)) ∧ w = w' := by
  have _k := And.intro h0 (And.intro h1 (And.intro h32 (And.intro h16 h8)))
  clear _k
  have hT := lt8_int (u / 65536) (by omega) (by omega)
  go_enter Try.func111, Try.ntmps111
  go_wp2
  simp only [← lt8_def]
  go_ret
  have hh : (u / 65536).toNat < lt8.size := by rw [lt8_size]; omega
  have hT := hT hh
  have hb := bits_of (u := u) (s := 16) (by omega) hT.1 hT.2.1 (by omega)
  exact ⟨⟨16 + (lt8[(u / 65536).toNat]'hh).toNat, ret1 (num (wrap_s 16 _ (by omega) hT.2.2)), Nat.add_le_add (by omega : 16 ≤ 56) hT.2.2, hb.1, hb.2⟩, rfl⟩
set_option maxRecDepth 100000 in
set_option maxHeartbeats 4000000 in
theorem len64_3 (u : Int) (w : World) (h0 : 0 ≤ u) (h1 : u ≤ 18446744073709551615) (h32 : u < 4294967296) (h16 : ¬ u < 65536) (h8 : ¬ u / 65536 < 256) :
    Calls Try.prog 111 #[.int .u64 u] w fun e w' => (∃ k : Nat, e = .returned (.int .i64 k) ∧ k ≤ 64 ∧ u < 2 ^ k ∧ (k = 0 ∨ 2 ^ (k - 1) ≤ u)) ∧ w = w' := by
  have _k := And.intro h0 (And.intro h1 (And.intro h32 (And.intro h16 h8)))
  clear _k
  have hT := lt8_int (u / 65536 / 256) (by omega) (by omega)
  go_enter Try.func111, Try.ntmps111
  go_wp2
  simp only [← lt8_def]
  go_ret
  have hh : (u / 65536 / 256).toNat < lt8.size := by rw [lt8_size]; omega
  have hT := hT hh
  have hb := bits_of (u := u) (s := 24) (by omega) hT.1 hT.2.1 (by omega)
  exact ⟨⟨24 + (lt8[(u / 65536 / 256).toNat]'hh).toNat, ret1 (num (wrap_s 24 _ (by omega) hT.2.2)), Nat.add_le_add (by omega : 24 ≤ 56) hT.2.2, hb.1, hb.2⟩, rfl⟩
set_option maxRecDepth 100000 in
set_option maxHeartbeats 4000000 in
theorem len64_4 (u : Int) (w : World) (h0 : 0 ≤ u) (h1 : u ≤ 18446744073709551615) (h32 : ¬ u < 4294967296) (h16 : u / 4294967296 < 65536) (h8 : u / 4294967296 < 256) :
    Calls Try.prog 111 #[.int .u64 u] w fun e w' => (∃ k : Nat, e = .returned (.int .i64 k) ∧ k ≤ 64 ∧ u < 2 ^ k ∧ (k = 0 ∨ 2 ^ (k - 1) ≤ u)) ∧ w = w' := by
  have _k := And.intro h0 (And.intro h1 (And.intro h32 (And.intro h16 h8)))
  clear _k
  have hT := lt8_int (u / 4294967296) (by omega) (by omega)
  go_enter Try.func111, Try.ntmps111
  go_wp2
  simp only [← lt8_def]
  go_ret
  have hh : (u / 4294967296).toNat < lt8.size := by rw [lt8_size]; omega
  have hT := hT hh
  have hb := bits_of (u := u) (s := 32) (by omega) hT.1 hT.2.1 (by omega)
  exact ⟨⟨32 + (lt8[(u / 4294967296).toNat]'hh).toNat, ret1 (num (wrap_s 32 _ (by omega) hT.2.2)), Nat.add_le_add (by omega : 32 ≤ 56) hT.2.2, hb.1, hb.2⟩, rfl⟩
set_option maxRecDepth 100000 in
set_option maxHeartbeats 4000000 in
theorem len64_5 (u : Int) (w : World) (h0 : 0 ≤ u) (h1 : u ≤ 18446744073709551615) (h32 : ¬ u < 4294967296) (h16 : u / 4294967296 < 65536) (h8 : ¬ u / 4294967296 < 256) :
    Calls Try.prog 111 #[.int .u64 u] w fun e w' => (∃ k : Nat, e = .returned (.int .i64 k) ∧ k ≤ 64 ∧ u < 2 ^ k ∧ (k = 0 ∨ 2 ^ (k - 1) ≤ u)) ∧ w = w' := by
  have _k := And.intro h0 (And.intro h1 (And.intro h32 (And.intro h16 h8)))
  clear _k
  have hT := lt8_int (u / 4294967296 / 256) (by omega) (by omega)
  go_enter Try.func111, Try.ntmps111
  go_wp2
  simp only [← lt8_def]
  go_ret
  have hh : (u / 4294967296 / 256).toNat < lt8.size := by rw [lt8_size]; omega
  have hT := hT hh
  have hb := bits_of (u := u) (s := 40) (by omega) hT.1 hT.2.1 (by omega)
  exact ⟨⟨40 + (lt8[(u / 4294967296 / 256).toNat]'hh).toNat, ret1 (num (wrap_s 40 _ (by omega) hT.2.2)), Nat.add_le_add (by omega : 40 ≤ 56) hT.2.2, hb.1, hb.2⟩, rfl⟩
set_option maxRecDepth 100000 in
set_option maxHeartbeats 4000000 in
theorem len64_6 (u : Int) (w : World) (h0 : 0 ≤ u) (h1 : u ≤ 18446744073709551615) (h32 : ¬ u < 4294967296) (h16 : ¬ u / 4294967296 < 65536) (h8 : u / 4294967296 / 65536 < 256) :
    Calls Try.prog 111 #[.int .u64 u] w fun e w' => (∃ k : Nat, e = .returned (.int .i64 k) ∧ k ≤ 64 ∧ u < 2 ^ k ∧ (k = 0 ∨ 2 ^ (k - 1) ≤ u)) ∧ w = w' := by
  have _k := And.intro h0 (And.intro h1 (And.intro h32 (And.intro h16 h8)))
  clear _k
  have hT := lt8_int (u / 4294967296 / 65536) (by omega) (by omega)
  go_enter Try.func111, Try.ntmps111
  go_wp2
  simp only [← lt8_def]
  go_ret
  have hh : (u / 4294967296 / 65536).toNat < lt8.size := by rw [lt8_size]; omega
  have hT := hT hh
  have hb := bits_of (u := u) (s := 48) (by omega) hT.1 hT.2.1 (by omega)
  exact ⟨⟨48 + (lt8[(u / 4294967296 / 65536).toNat]'hh).toNat, ret1 (num (wrap_s 48 _ (by omega) hT.2.2)), Nat.add_le_add (by omega : 48 ≤ 56) hT.2.2, hb.1, hb.2⟩, rfl⟩
set_option maxRecDepth 100000 in
set_option maxHeartbeats 4000000 in
theorem len64_7 (u : Int) (w : World) (h0 : 0 ≤ u) (h1 : u ≤ 18446744073709551615) (h32 : ¬ u < 4294967296) (h16 : ¬ u / 4294967296 < 65536) (h8 : ¬ u / 4294967296 / 65536 < 256) :
    Calls Try.prog 111 #[.int .u64 u] w fun e w' => (∃ k : Nat, e = .returned (.int .i64 k) ∧ k ≤ 64 ∧ u < 2 ^ k ∧ (k = 0 ∨ 2 ^ (k - 1) ≤ u)) ∧ w = w' := by
  have _k := And.intro h0 (And.intro h1 (And.intro h32 (And.intro h16 h8)))
  clear _k
  have hT := lt8_int (u / 4294967296 / 65536 / 256) (by omega) (by omega)
  go_enter Try.func111, Try.ntmps111
  go_wp2
  simp only [← lt8_def]
  go_ret
  have hh : (u / 4294967296 / 65536 / 256).toNat < lt8.size := by rw [lt8_size]; omega
  have hT := hT hh
  have hb := bits_of (u := u) (s := 56) (by omega) hT.1 hT.2.1 (by omega)
  exact ⟨⟨56 + (lt8[(u / 4294967296 / 65536 / 256).toNat]'hh).toNat, ret1 (num (wrap_s 56 _ (by omega) hT.2.2)), Nat.add_le_add (by omega : 56 ≤ 56) hT.2.2, hb.1, hb.2⟩, rfl⟩
theorem len64_calls (u : Int) (w : World) (h0 : 0 ≤ u) (h1 : u ≤ 18446744073709551615) :
    Calls Try.prog 111 #[.int .u64 u] w fun e w' => (∃ k : Nat, e = .returned (.int .i64 k) ∧ k ≤ 64 ∧ u < 2 ^ k ∧ (k = 0 ∨ 2 ^ (k - 1) ≤ u)) ∧ w = w' := by
  by_cases h32 : u < 4294967296
  · by_cases h16 : u < 65536
    · by_cases h8 : u < 256
      · exact len64_0 u w h0 h1 h32 h16 h8
      · exact len64_1 u w h0 h1 h32 h16 h8
    · by_cases h8 : u / 65536 < 256
      · exact len64_2 u w h0 h1 h32 h16 h8
      · exact len64_3 u w h0 h1 h32 h16 h8
  · by_cases h16 : u / 4294967296 < 65536
    · by_cases h8 : u / 4294967296 < 256
      · exact len64_4 u w h0 h1 h32 h16 h8
      · exact len64_5 u w h0 h1 h32 h16 h8
    · by_cases h8 : u / 4294967296 / 65536 < 256
      · exact len64_6 u w h0 h1 h32 h16 h8
      · exact len64_7 u w h0 h1 h32 h16 h8
end Ce
end Go.Proofs.Yteiniahikhiadaa
