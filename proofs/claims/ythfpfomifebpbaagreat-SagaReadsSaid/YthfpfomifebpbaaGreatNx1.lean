/-
  cells of numbers, in plain words: a number's bytes, and the number with whose cell bytes begin.
  cells of numbers: how many bits a number has.
-/
import Derived.Test.YthfpfomifebpbaaGreatNz1

set_option linter.unusedVariables false
set_option linter.unusedSimpArgs false
namespace Go.Proofs.YthfpfomifebpbaaGreat
open Go.RowKit
namespace Ce

/-- bytes, the highest first, as a number -/
def be (l : List UInt8) : Nat := l.foldl (fun u c => u * 256 + c.toNat) 0
theorem be_snoc (l : List UInt8) (c : UInt8) : be (l ++ [c]) = be l * 256 + c.toNat := by simp [be]
theorem be_lt : ∀ (n : Nat) (l : List UInt8), l.length = n → be l < 256 ^ n
  | 0, l, h => by rw [List.eq_nil_of_length_eq_zero h]; simp [be]
  | n + 1, l, h => by
    have hne : l ≠ [] := fun e => by rw [e] at h; simp at h
    obtain ⟨r, c, rfl⟩ : ∃ r c, l = r ++ [c] := ⟨l.dropLast, l.getLast hne, (List.dropLast_concat_getLast hne).symm⟩
    have ih := be_lt n r (by simpa using h)
    rw [be_snoc, Nat.pow_succ]
    have := c.toNat_lt
    omega

def digF : Nat → Nat → List UInt8
  | 0, _ => []
  | k + 1, u => if u = 0 then [] else digF k (u / 256) ++ [UInt8.ofNat (u % 256)]
/-- a number's bytes, the highest first, without noughts ahead -/
def dig (u : Nat) : List UInt8 := digF 8 u
theorem byte_toNat (u : Nat) : (UInt8.ofNat (u % 256)).toNat = u % 256 := by simp
theorem be_digF : ∀ (k u : Nat), u < 256 ^ k → be (digF k u) = u
  | 0, u, h => by simp at h; subst h; rfl
  | k + 1, u, h => by
    unfold digF
    split
    · rename_i h0; rw [h0]; rfl
    · rw [be_snoc, be_digF k (u / 256) (by rw [Nat.pow_succ] at h; exact Nat.div_lt_of_lt_mul (by omega)), byte_toNat]
      omega
theorem digF_more : ∀ (k u : Nat), u < 256 ^ k → digF (k + 1) u = digF k u
  | 0, u, h => by simp at h; subst h; rfl
  | k + 1, u, h => by
    rw [digF]
    by_cases h0 : u = 0
    · rw [if_pos h0, digF, if_pos h0]
    · rw [if_neg h0, digF_more k (u / 256) (by rw [Nat.pow_succ] at h; exact Nat.div_lt_of_lt_mul (by omega)), digF, if_neg h0]
theorem be_dig {u : Nat} (h : u < 18446744073709551616) : be (dig u) = u := be_digF 8 u h
theorem dig_zero : dig 0 = [] := rfl
theorem dig_pos {u : Nat} (h0 : u ≠ 0) (h : u < 18446744073709551616) : dig u = dig (u / 256) ++ [UInt8.ofNat (u % 256)] := by
  unfold dig
  have h7 : u / 256 < 256 ^ 7 := by
    have : (256 : Nat) ^ 7 = 72057594037927936 := by decide
    omega
  rw [digF, if_neg h0, digF_more 7 (u / 256) h7]
theorem digF_len : ∀ (k u n : Nat), n ≤ k → u < 256 ^ n → (digF k u).length ≤ n
  | 0, u, n, h, _ => by simp [digF]
  | k + 1, u, n, h, hu => by
    unfold digF
    split
    · simp
    · rename_i h0
      cases n with
      | zero => simp at hu; omega
      | succ n =>
        have := digF_len k (u / 256) n (by omega) (by rw [Nat.pow_succ] at hu; exact Nat.div_lt_of_lt_mul (by omega))
        simp; omega
theorem dig_len {u n : Nat} (hn : n ≤ 8) (h : u < 256 ^ n) : (dig u).length ≤ n := digF_len 8 u n hn h
theorem dig_len8 (u : Nat) : (dig u).length ≤ 8 := by
  by_cases h : u < 256 ^ 8
  · exact dig_len (Nat.le_refl _) h
  · have : ∀ (k u : Nat), (digF k u).length ≤ k := by
      intro k
      induction k with
      | zero => intro u; simp [digF]
      | succ k ih => intro u; unfold digF; split; · simp
                     · have := ih (u / 256); simp; omega
    exact this 8 u
theorem dig_ge {u : Nat} (h : u < 18446744073709551616) : u < 256 ^ (dig u).length := by
  have := be_lt _ (dig u) rfl
  rwa [be_dig h] at this
/-- the digit at a place -/
theorem dig_get : ∀ (n u : Nat), n ≤ 8 → (dig u).length = n → u < 18446744073709551616 → ∀ j, j < n → (dig u)[j]? = some (UInt8.ofNat (u / 256 ^ (n - 1 - j) % 256))
  | 0, _, _, _, _, j, h => by omega
  | n + 1, u, hn, hl, hu, j, hj => by
    have h0 : u ≠ 0 := fun e => by rw [e, dig_zero] at hl; simp at hl
    rw [dig_pos h0 hu] at hl ⊢
    have hl' : (dig (u / 256)).length = n := by simpa using hl
    rcases Nat.lt_or_ge j n with h | h
    · rw [List.getElem?_append_left (by omega), dig_get n (u / 256) (by omega) hl' (by omega) j h, Nat.div_div_eq_div_mul, ← Nat.pow_succ', show (n - 1 - j).succ = n + 1 - 1 - j by omega]
    · obtain rfl : j = n := by omega
      rw [List.getElem?_append_right (by omega), hl']
      simp

/-- a number's cell -/
def numC (n : Int) : List UInt8 :=
  if 0 ≤ n ∧ n < 128 then [UInt8.ofNat n.toNat]
  else if n < 0 then UInt8.ofNat (144 + (dig (-1 - n).toNat).length) :: dig (-1 - n).toNat
  else UInt8.ofNat (128 + (dig n.toNat).length) :: dig n.toNat
theorem numC_small {n : Int} (h : 0 ≤ n ∧ n < 128) : numC n = [UInt8.ofNat n.toNat] := by unfold numC; rw [if_pos h]
theorem numC_neg {n : Int} (h : n < 0) : numC n = UInt8.ofNat (144 + (dig (-1 - n).toNat).length) :: dig (-1 - n).toNat := by
  unfold numC; rw [if_neg (by omega), if_pos h]
theorem numC_big {n : Int} (h : 128 ≤ n) : numC n = UInt8.ofNat (128 + (dig n.toNat).length) :: dig n.toNat := by
  unfold numC; rw [if_neg (by omega), if_neg (by omega)]
theorem numC_len (n : Int) : 1 ≤ (numC n).length ∧ (numC n).length ≤ 9 := by
  unfold numC
  split
  · simp
  · split
    · have := dig_len8 (-1 - n).toNat; simp; omega
    · have := dig_len8 n.toNat; simp; omega

def toI (u : Nat) : Int := if u < 9223372036854775808 then u else (u : Int) - 18446744073709551616
def flip (u : Nat) : Nat := 18446744073709551615 - u
/-- the number with whose cell bytes begin, and the cell's length -/
def sizeOf_ (h : UInt8) : Nat := if 144 ≤ h.toNat then h.toNat - 144 else h.toNat - 128
def valOf (h : UInt8) (l : List UInt8) : Int := toI (if 144 ≤ h.toNat then flip (be l) else be l)
def firstC : List UInt8 → Option (Int × Nat)
  | [] => none
  | h :: t => if h.toNat < 128 then some (h.toNat, 1) else
    if 8 < sizeOf_ h ∨ t.length < sizeOf_ h then none else
    if numC (valOf h (t.take (sizeOf_ h))) = h :: t.take (sizeOf_ h) then some (valOf h (t.take (sizeOf_ h)), 1 + sizeOf_ h) else none
theorem firstC_cons (h : UInt8) (t : List UInt8) : firstC (h :: t) = if h.toNat < 128 then some ((h.toNat : Int), 1) else
    if 8 < sizeOf_ h ∨ t.length < sizeOf_ h then none else
    if numC (valOf h (t.take (sizeOf_ h))) = h :: t.take (sizeOf_ h) then some (valOf h (t.take (sizeOf_ h)), 1 + sizeOf_ h) else none := rfl
theorem toI_range {u : Nat} (h : u < 18446744073709551616) : -9223372036854775808 ≤ toI u ∧ toI u ≤ 9223372036854775807 := by unfold toI; split <;> omega
theorem be_take_lt (t : List UInt8) {k : Nat} (hk : k ≤ 8) : be (t.take k) < 18446744073709551616 := by
  have h1 := be_lt _ (t.take k) rfl
  have h2 : (t.take k).length ≤ 8 := by rw [List.length_take]; omega
  have h3 : 256 ^ (t.take k).length ≤ 256 ^ 8 := Nat.pow_le_pow_right (by omega) h2
  exact Nat.lt_of_lt_of_le h1 (Nat.le_trans h3 (by decide))
theorem valOf_range (h : UInt8) (t : List UInt8) {k : Nat} (hk : k ≤ 8) : -9223372036854775808 ≤ valOf h (t.take k) ∧ valOf h (t.take k) ≤ 9223372036854775807 := by
  have := be_take_lt t hk
  unfold valOf
  refine toI_range ?_
  split
  · unfold flip; omega
  · exact this
theorem firstC_some {b : List UInt8} {n : Int} {k : Nat} (h : firstC b = some (n, k)) : numC n = b.take k ∧ 1 ≤ k ∧ k ≤ b.length ∧ k ≤ 9 ∧ -9223372036854775808 ≤ n ∧ n ≤ 9223372036854775807 := by
  cases b with
  | nil => cases h
  | cons c t =>
    rw [firstC_cons] at h
    by_cases hc : c.toNat < 128
    · rw [if_pos hc] at h
      simp only [Option.some.injEq, Prod.mk.injEq] at h
      obtain ⟨rfl, rfl⟩ := h
      refine ⟨?_, by omega, by simp, by omega, by omega, by omega⟩
      rw [numC_small ⟨by omega, by omega⟩]
      simp
    · rw [if_neg hc] at h
      by_cases hs : 8 < sizeOf_ c ∨ t.length < sizeOf_ c
      · rw [if_pos hs] at h; cases h
      · rw [if_neg hs] at h
        by_cases hn : numC (valOf c (t.take (sizeOf_ c))) = c :: t.take (sizeOf_ c)
        · rw [if_pos hn] at h
          simp only [Option.some.injEq, Prod.mk.injEq] at h
          obtain ⟨rfl, rfl⟩ := h
          have hr := valOf_range c t (k := sizeOf_ c) (by omega)
          refine ⟨?_, by omega, by simp; omega, by omega, hr.1, hr.2⟩
          rw [hn, show 1 + sizeOf_ c = sizeOf_ c + 1 by omega, List.take_succ_cons]
        · rw [if_neg hn] at h; cases h
theorem toNat_ofNat {n : Nat} (h : n < 256) : (UInt8.ofNat n).toNat = n := by simp; omega
/-- a cell is read as its number, whatever stands behind it -/
theorem firstC_numC {n : Int} (h1 : -9223372036854775808 ≤ n) (h2 : n ≤ 9223372036854775807) (r : List UInt8) : firstC (numC n ++ r) = some (n, (numC n).length) := by
  by_cases hs : 0 ≤ n ∧ n < 128
  · rw [numC_small hs]
    rw [List.cons_append, firstC_cons, toNat_ofNat (by omega), if_pos (by omega)]
    simp; omega
  · have key : ∀ (hd : UInt8) (u : Nat), numC n = hd :: dig u → hd.toNat ≥ 128 → sizeOf_ hd = (dig u).length → u < 18446744073709551616 → valOf hd (dig u) = n → firstC (numC n ++ r) = some (n, (numC n).length) := by
      intro hd u e hh hz hu hv
      rw [e, List.cons_append, firstC_cons]
      have h8 := dig_len8 u
      have ht : (dig u ++ r).take (sizeOf_ hd) = dig u := by rw [hz, List.take_left]
      rw [if_neg (by omega), if_neg (by rw [hz]; simp; omega), ht, hv, if_pos e, hz, List.length_cons, Nat.add_comm]
    by_cases hn : n < 0
    · have hu : (-1 - n).toNat < 9223372036854775808 := by omega
      have h8 := dig_len8 (-1 - n).toNat
      refine key _ _ (numC_neg hn) (by rw [toNat_ofNat (by omega)]; omega) (by unfold sizeOf_; rw [toNat_ofNat (by omega)]; simp) (by omega) ?_
      unfold valOf
      rw [toNat_ofNat (by omega), if_pos (by omega), be_dig (by omega)]
      unfold flip toI
      rw [if_neg (by omega)]
      omega
    · have hu : n.toNat < 9223372036854775808 := by omega
      have h8 := dig_len8 n.toNat
      refine key _ _ (numC_big (by omega)) (by rw [toNat_ofNat (by omega)]; omega) (by unfold sizeOf_; rw [toNat_ofNat (by omega), if_neg (by omega)]; omega) (by omega) ?_
      unfold valOf
      rw [toNat_ofNat (by omega), if_neg (by omega), be_dig (by omega)]
      unfold toI
      rw [if_pos (by omega)]
      omega
end Ce
end Go.Proofs.YthfpfomifebpbaaGreat

namespace Go.Proofs.YthfpfomifebpbaaGreat
open Go.RowKit
namespace Ce

def lt8 : ByteArray := ⟨#[0, 1, 2, 2, 3, 3, 3, 3, 4, 4, 4, 4, 4, 4, 4, 4, 5, 5, 5, 5, 5, 5, 5, 5, 5, 5, 5, 5, 5, 5, 5, 5, 6, 6, 6, 6, 6, 6, 6, 6, 6, 6, 6, 6, 6, 6, 6, 6, 6, 6, 6, 6, 6, 6, 6, 6, 6, 6, 6, 6, 6, 6, 6, 6, 7, 7, 7, 7, 7, 7, 7, 7, 7, 7, 7, 7, 7, 7, 7, 7, 7, 7, 7, 7, 7, 7, 7, 7, 7, 7, 7, 7, 7, 7, 7, 7, 7, 7, 7, 7, 7, 7, 7, 7, 7, 7, 7, 7, 7, 7, 7, 7, 7, 7, 7, 7, 7, 7, 7, 7, 7, 7, 7, 7, 7, 7, 7, 7, 8, 8, 8, 8, 8, 8, 8, 8, 8, 8, 8, 8, 8, 8, 8, 8, 8, 8, 8, 8, 8, 8, 8, 8, 8, 8, 8, 8, 8, 8, 8, 8, 8, 8, 8, 8, 8, 8, 8, 8, 8, 8, 8, 8, 8, 8, 8, 8, 8, 8, 8, 8, 8, 8, 8, 8, 8, 8, 8, 8, 8, 8, 8, 8, 8, 8, 8, 8, 8, 8, 8, 8, 8, 8, 8, 8, 8, 8, 8, 8, 8, 8, 8, 8, 8, 8, 8, 8, 8, 8, 8, 8, 8, 8, 8, 8, 8, 8, 8, 8, 8, 8, 8, 8, 8, 8, 8, 8, 8, 8, 8, 8, 8, 8, 8, 8, 8, 8, 8, 8, 8, 8, 8, 8, 8, 8, 8, 8]⟩
theorem lt8_def : lt8 = ⟨#[0, 1, 2, 2, 3, 3, 3, 3, 4, 4, 4, 4, 4, 4, 4, 4, 5, 5, 5, 5, 5, 5, 5, 5, 5, 5, 5, 5, 5, 5, 5, 5, 6, 6, 6, 6, 6, 6, 6, 6, 6, 6, 6, 6, 6, 6, 6, 6, 6, 6, 6, 6, 6, 6, 6, 6, 6, 6, 6, 6, 6, 6, 6, 6, 7, 7, 7, 7, 7, 7, 7, 7, 7, 7, 7, 7, 7, 7, 7, 7, 7, 7, 7, 7, 7, 7, 7, 7, 7, 7, 7, 7, 7, 7, 7, 7, 7, 7, 7, 7, 7, 7, 7, 7, 7, 7, 7, 7, 7, 7, 7, 7, 7, 7, 7, 7, 7, 7, 7, 7, 7, 7, 7, 7, 7, 7, 7, 7, 8, 8, 8, 8, 8, 8, 8, 8, 8, 8, 8, 8, 8, 8, 8, 8, 8, 8, 8, 8, 8, 8, 8, 8, 8, 8, 8, 8, 8, 8, 8, 8, 8, 8, 8, 8, 8, 8, 8, 8, 8, 8, 8, 8, 8, 8, 8, 8, 8, 8, 8, 8, 8, 8, 8, 8, 8, 8, 8, 8, 8, 8, 8, 8, 8, 8, 8, 8, 8, 8, 8, 8, 8, 8, 8, 8, 8, 8, 8, 8, 8, 8, 8, 8, 8, 8, 8, 8, 8, 8, 8, 8, 8, 8, 8, 8, 8, 8, 8, 8, 8, 8, 8, 8, 8, 8, 8, 8, 8, 8, 8, 8, 8, 8, 8, 8, 8, 8, 8, 8, 8, 8, 8, 8, 8, 8, 8, 8]⟩ := rfl
theorem lt8_size : lt8.size = 256 := by kernel_rfl
theorem lt8_nat : ∀ x, (h : x < 256) → x < 2 ^ (lt8[x]'(by rw [lt8_size]; exact h)).toNat ∧ ((lt8[x]'(by rw [lt8_size]; exact h)).toNat = 0 ∨ 2 ^ ((lt8[x]'(by rw [lt8_size]; exact h)).toNat - 1) ≤ x) ∧ (lt8[x]'(by rw [lt8_size]; exact h)).toNat ≤ 8 := by
  decide +kernel
theorem lt8_int (x : Int) (h0 : 0 ≤ x) (h1 : x < 256) (h : x.toNat < lt8.size) : x < 2 ^ (lt8[x.toNat]'h).toNat ∧ ((lt8[x.toNat]'h).toNat = 0 ∨ 2 ^ ((lt8[x.toNat]'h).toNat - 1) ≤ x) ∧ (lt8[x.toNat]'h).toNat ≤ 8 := by
  obtain ⟨n, rfl⟩ := Int.eq_ofNat_of_zero_le h0
  have := lt8_nat n (by omega)
  simp only [Int.toNat_natCast] at this ⊢
  obtain ⟨a, b, c⟩ := this
  exact ⟨by exact_mod_cast a, by exact_mod_cast b, c⟩
theorem bits_of {u x : Int} {s t : Nat} (hx : x = u / 2 ^ s) (h1 : x < 2 ^ t) (h2 : t = 0 ∨ 2 ^ (t - 1) ≤ x) (h3 : s = 0 ∨ 1 ≤ x) : u < 2 ^ (s + t) ∧ (s + t = 0 ∨ 2 ^ (s + t - 1) ≤ u) := by
  have hp : (0 : Int) < 2 ^ s := Int.pow_pos (by omega)
  have e1 : u < (x + 1) * 2 ^ s := by rw [hx]; exact Int.lt_ediv_add_one_mul_self u hp
  have e2 : x * 2 ^ s ≤ u := by rw [hx]; exact Int.ediv_mul_le u (by omega)
  refine ⟨?_, ?_⟩
  · rw [Int.pow_add, Int.mul_comm]
    exact Int.lt_of_lt_of_le e1 (Int.mul_le_mul_of_nonneg_right (by omega) (by omega))
  · rcases h2 with h2 | h2
    · subst h2
      simp at h1
      rcases h3 with h3 | h3
      · exact .inl (by omega)
      · omega
    · rcases Nat.eq_zero_or_pos t with ht | ht
      · subst ht
        simp at h1 h2
        omega
      · right
        rw [show s + t - 1 = (t - 1) + s by omega, Int.pow_add]
        exact Int.le_trans (Int.mul_le_mul_of_nonneg_right h2 (by omega)) e2

theorem wrap_0 (T : Nat) (h : T ≤ 8) : wrap64 (wrap64 (T : Int)) = ((0 + T : Nat) : Int) := by unfold wrap64; omega
theorem wrap_s (s T : Nat) (hs : s ≤ 56) (h : T ≤ 8) : wrap64 ((s : Int) + wrap64 (T : Int)) = ((s + T : Nat) : Int) := by unfold wrap64; omega
set_option maxRecDepth 100000 in
set_option maxHeartbeats 4000000 in
theorem len64_0 (u : Int) (w : World) (h0 : 0 ≤ u) (h1 : u ≤ 18446744073709551615) (h32 : u < 4294967296) (h16 : u < 65536) (h8 : u < 256) :
    Calls Tryz.prog 121 #[.int .u64 u] w fun e w' => (∃ k : Nat, e = .returned (.int .i64 k) ∧ k ≤ 64 ∧ u < 2 ^ k ∧ (k = 0 ∨ 2 ^ (k - 1) ≤ u)) ∧ w = w' := by
  have _k := And.intro h0 (And.intro h1 (And.intro h32 (And.intro h16 h8)))
  clear _k
  have hT := lt8_int (u) (by omega) (by omega)
  go_enter Tryz.func121, Tryz.ntmps121
  go_wp2
  simp only [← lt8_def]
  go_ret
  have hh : (u).toNat < lt8.size := by rw [lt8_size]; omega
  have hT := hT hh
  have hb := bits_of (u := u) (s := 0) (by omega) hT.1 hT.2.1 (by omega)
  exact ⟨⟨0 + (lt8[(u).toNat]'hh).toNat, ret1 (num (wrap_0 _ hT.2.2)), Nat.add_le_add (by omega : 0 ≤ 56) hT.2.2, hb.1, hb.2⟩, rfl⟩
set_option maxRecDepth 100000 in
set_option maxHeartbeats 4000000 in
theorem len64_1 (u : Int) (w : World) (h0 : 0 ≤ u) (h1 : u ≤ 18446744073709551615) (h32 : u < 4294967296) (h16 : u < 65536) (h8 : ¬ u < 256) :
    Calls Tryz.prog 121 #[.int .u64 u] w fun e w' => (∃ k : Nat, e = .returned (.int .i64 k) ∧ k ≤ 64 ∧ u < 2 ^ k ∧ (k = 0 ∨ 2 ^ (k - 1) ≤ u)) ∧ w = w' := by
  have _k := And.intro h0 (And.intro h1 (And.intro h32 (And.intro h16 h8)))
  clear _k
  have hT := lt8_int (u / 256) (by omega) (by omega)
  go_enter Tryz.func121, Tryz.ntmps121
  go_wp2
  simp only [← lt8_def]
  go_ret
  have hh : (u / 256).toNat < lt8.size := by rw [lt8_size]; omega
  have hT := hT hh
  have hb := bits_of (u := u) (s := 8) (by omega) hT.1 hT.2.1 (by omega)
  exact ⟨⟨8 + (lt8[(u / 256).toNat]'hh).toNat, ret1 (num (wrap_s 8 _ (by omega) hT.2.2)), Nat.add_le_add (by omega : 8 ≤ 56) hT.2.2, hb.1, hb.2⟩, rfl⟩
set_option maxRecDepth 100000 in
set_option maxHeartbeats 4000000 in
theorem len64_2 (u : Int) (w : World) (h0 : 0 ≤ u) (h1 : u ≤ 18446744073709551615) (h32 : u < 4294967296) (h16 : ¬ u < 65536) (h8 : u / 65536 < 256) :
    Calls Tryz.prog 121 #[.int .u64 u] w fun e w' => (∃ k : Nat, e = .returned (.int .i64 k) ∧ k ≤ 64 ∧ u < 2 ^ k ∧ (k = 0 ∨ 2 ^ (k - 1) ≤ u)) ∧ w = w' := by
  have _k := And.intro h0 (And.intro h1 (And.intro h32 (And.intro h16 h8)))
  clear _k
  have hT := lt8_int (u / 65536) (by omega) (by omega)
  go_enter Tryz.func121, Tryz.ntmps121
  go_wp2
  simp only [← lt8_def]
  go_ret
  have hh : (u / 65536).toNat < lt8.size := by rw [lt8_size]; omega
  have hT := hT hh
  have hb := bits_of (u := u) (s := 16) (by omega) hT.1 hT.2.1 (by omega)
  exact ⟨⟨16 + (lt8[(u / 65536).toNat]'hh).toNat, ret1 (num (wrap_s 16 _ (by omega) hT.2.2)), Nat.add_le_add (by omega : 16 ≤ 56) hT.2.2, hb.1, hb.2⟩, rfl⟩
set_option maxRecDepth 100000 in
set_option maxHeartbeats 4000000 in
theorem len64_3 (u : Int) (w : World) (h0 : 0 ≤ u) (h1 : u ≤ 18446744073709551615) (h32 : u < 4294967296) (h16 : ¬ u < 65536) (h8 : ¬ u / 65536 < 256) :
    Calls Tryz.prog 121 #[.int .u64 u] w fun e w' => (∃ k : Nat, e = .returned (.int .i64 k) ∧ k ≤ 64 ∧ u < 2 ^ k ∧ (k = 0 ∨ 2 ^ (k - 1) ≤ u)) ∧ w = w' := by
  have _k := And.intro h0 (And.intro h1 (And.intro h32 (And.intro h16 h8)))
  clear _k
  have hT := lt8_int (u / 65536 / 256) (by omega) (by omega)
  go_enter Tryz.func121, Tryz.ntmps121
  go_wp2
  simp only [← lt8_def]
  go_ret
  have hh : (u / 65536 / 256).toNat < lt8.size := by rw [lt8_size]; omega
  have hT := hT hh
  have hb := bits_of (u := u) (s := 24) (by omega) hT.1 hT.2.1 (by omega)
  exact ⟨⟨24 + (lt8[(u / 65536 / 256).toNat]'hh).toNat, ret1 (num (wrap_s 24 _ (by omega) hT.2.2)), Nat.add_le_add (by omega : 24 ≤ 56) hT.2.2, hb.1, hb.2⟩, rfl⟩
set_option maxRecDepth 100000 in
set_option maxHeartbeats 4000000 in
theorem len64_4 (u : Int) (w : World) (h0 : 0 ≤ u) (h1 : u ≤ 18446744073709551615) (h32 : ¬ u < 4294967296) (h16 : u / 4294967296 < 65536) (h8 : u / 4294967296 < 256) :
    Calls Tryz.prog 121 #[.int .u64 u] w fun e w' => (∃ k : Nat, e = .returned (.int .i64 k) ∧ k ≤ 64 ∧ u < 2 ^ k ∧ (k = 0 ∨ 2 ^ (k - 1) ≤ u)) ∧ w = w' := by
  have _k := And.intro h0 (And.intro h1 (And.intro h32 (And.intro h16 h8)))
  clear _k
  have hT := lt8_int (u / 4294967296) (by omega) (by omega)
  go_enter Tryz.func121, Tryz.ntmps121
  go_wp2
  simp only [← lt8_def]
  go_ret
  have hh : (u / 4294967296).toNat < lt8.size := by rw [lt8_size]; omega
  have hT := hT hh
  have hb := bits_of (u := u) (s := 32) (by omega) hT.1 hT.2.1 (by omega)
  exact ⟨⟨32 + (lt8[(u / 4294967296).toNat]'hh).toNat, ret1 (num (wrap_s 32 _ (by omega) hT.2.2)), Nat.add_le_add (by omega : 32 ≤ 56) hT.2.2, hb.1, hb.2⟩, rfl⟩
set_option maxRecDepth 100000 in
set_option maxHeartbeats 4000000 in
theorem len64_5 (u : Int) (w : World) (h0 : 0 ≤ u) (h1 : u ≤ 18446744073709551615) (h32 : ¬ u < 4294967296) (h16 : u / 4294967296 < 65536) (h8 : ¬ u / 4294967296 < 256) :
    Calls Tryz.prog 121 #[.int .u64 u] w fun e w' => (∃ k : Nat, e = .returned (.int .i64 k) ∧ k ≤ 64 ∧ u < 2 ^ k ∧ (k = 0 ∨ 2 ^ (k - 1) ≤ u)) ∧ w = w' := by
  have _k := And.intro h0 (And.intro h1 (And.intro h32 (And.intro h16 h8)))
  clear _k
  have hT := lt8_int (u / 4294967296 / 256) (by omega) (by omega)
  go_enter Tryz.func121, Tryz.ntmps121
  go_wp2
  simp only [← lt8_def]
  go_ret
  have hh : (u / 4294967296 / 256).toNat < lt8.size := by rw [lt8_size]; omega
  have hT := hT hh
  have hb := bits_of (u := u) (s := 40) (by omega) hT.1 hT.2.1 (by omega)
  exact ⟨⟨40 + (lt8[(u / 4294967296 / 256).toNat]'hh).toNat, ret1 (num (wrap_s 40 _ (by omega) hT.2.2)), Nat.add_le_add (by omega : 40 ≤ 56) hT.2.2, hb.1, hb.2⟩, rfl⟩
set_option maxRecDepth 100000 in
set_option maxHeartbeats 4000000 in
theorem len64_6 (u : Int) (w : World) (h0 : 0 ≤ u) (h1 : u ≤ 18446744073709551615) (h32 : ¬ u < 4294967296) (h16 : ¬ u / 4294967296 < 65536) (h8 : u / 4294967296 / 65536 < 256) :
    Calls Tryz.prog 121 #[.int .u64 u] w fun e w' => (∃ k : Nat, e = .returned (.int .i64 k) ∧ k ≤ 64 ∧ u < 2 ^ k ∧ (k = 0 ∨ 2 ^ (k - 1) ≤ u)) ∧ w = w' := by
  have _k := And.intro h0 (And.intro h1 (And.intro h32 (And.intro h16 h8)))
  clear _k
  have hT := lt8_int (u / 4294967296 / 65536) (by omega) (by omega)
  go_enter Tryz.func121, Tryz.ntmps121
  go_wp2
  simp only [← lt8_def]
  go_ret
  have hh : (u / 4294967296 / 65536).toNat < lt8.size := by rw [lt8_size]; omega
  have hT := hT hh
  have hb := bits_of (u := u) (s := 48) (by omega) hT.1 hT.2.1 (by omega)
  exact ⟨⟨48 + (lt8[(u / 4294967296 / 65536).toNat]'hh).toNat, ret1 (num (wrap_s 48 _ (by omega) hT.2.2)), Nat.add_le_add (by omega : 48 ≤ 56) hT.2.2, hb.1, hb.2⟩, rfl⟩
set_option maxRecDepth 100000 in
set_option maxHeartbeats 4000000 in
theorem len64_7 (u : Int) (w : World) (h0 : 0 ≤ u) (h1 : u ≤ 18446744073709551615) (h32 : ¬ u < 4294967296) (h16 : ¬ u / 4294967296 < 65536) (h8 : ¬ u / 4294967296 / 65536 < 256) :
    Calls Tryz.prog 121 #[.int .u64 u] w fun e w' => (∃ k : Nat, e = .returned (.int .i64 k) ∧ k ≤ 64 ∧ u < 2 ^ k ∧ (k = 0 ∨ 2 ^ (k - 1) ≤ u)) ∧ w = w' := by
  have _k := And.intro h0 (And.intro h1 (And.intro h32 (And.intro h16 h8)))
  clear _k
  have hT := lt8_int (u / 4294967296 / 65536 / 256) (by omega) (by omega)
  go_enter Tryz.func121, Tryz.ntmps121
  go_wp2
  simp only [← lt8_def]
  go_ret
  have hh : (u / 4294967296 / 65536 / 256).toNat < lt8.size := by rw [lt8_size]; omega
  have hT := hT hh
  have hb := bits_of (u := u) (s := 56) (by omega) hT.1 hT.2.1 (by omega)
  exact ⟨⟨56 + (lt8[(u / 4294967296 / 65536 / 256).toNat]'hh).toNat, ret1 (num (wrap_s 56 _ (by omega) hT.2.2)), Nat.add_le_add (by omega : 56 ≤ 56) hT.2.2, hb.1, hb.2⟩, rfl⟩
theorem len64_calls (u : Int) (w : World) (h0 : 0 ≤ u) (h1 : u ≤ 18446744073709551615) :
    Calls Tryz.prog 121 #[.int .u64 u] w fun e w' => (∃ k : Nat, e = .returned (.int .i64 k) ∧ k ≤ 64 ∧ u < 2 ^ k ∧ (k = 0 ∨ 2 ^ (k - 1) ≤ u)) ∧ w = w' := by
  by_cases h32 : u < 4294967296
  · by_cases h16 : u < 65536
    · by_cases h8 : u < 256
      · exact len64_0 u w h0 h1 h32 h16 h8
      · exact len64_1 u w h0 h1 h32 h16 h8
    · by_cases h8 : u / 65536 < 256
      · exact len64_2 u w h0 h1 h32 h16 h8
      · exact len64_3 u w h0 h1 h32 h16 h8
  · by_cases h16 : u / 4294967296 < 65536
    · by_cases h8 : u / 4294967296 < 256
      · exact len64_4 u w h0 h1 h32 h16 h8
      · exact len64_5 u w h0 h1 h32 h16 h8
    · by_cases h8 : u / 4294967296 / 65536 < 256
      · exact len64_6 u w h0 h1 h32 h16 h8
      · exact len64_7 u w h0 h1 h32 h16 h8
end Ce
end Go.Proofs.YthfpfomifebpbaaGreat
