/-
  cells of numbers, in plain words: a number's bytes, and the number with whose cell bytes begin.
-/
import Derived.Test.YteiniahikhiadaaWords
namespace Go.Proofs.Yteiniahikhiadaa
open Go.RowKit
namespace Ce

/-- bytes, the highest first, as a number -/
def be (l : List UInt8) : Nat := l.foldl (fun u c => u * 256 + c.toNat) 0
theorem be_snoc (l : List UInt8) (c : UInt8) : be (l ++ [c]) = be l * 256 + c.toNat := by simp [be]
theorem be_lt : ∀ (n : Nat) (l : List UInt8), l.length = n → be l < 256 ^ n
  | 0, l, h => by rw [List.eq_nil_of_length_eq_zero h]; simp [be]
  | n + 1, l, h => by
    have hne : l ≠ [] := fun e => by rw [e] at h; simp at h
    obtain ⟨r, c, rfl⟩ : ∃ r c, l = r ++ [c] := ⟨l.dropLast, l.getLast hne, (List.dropLast_concat_getLast hne).symm⟩
    have ih := be_lt n r (by simpa using h)
    rw [be_snoc, Nat.pow_succ]
    have := c.toNat_lt
    omega

def digF : Nat → Nat → List UInt8
  | 0, _ => []
  | k + 1, u => if u = 0 then [] else digF k (u / 256) ++ [UInt8.ofNat (u % 256)]
/-- a number's bytes, the highest first, without noughts ahead -/
def dig (u : Nat) : List UInt8 := digF 8 u
theorem byte_toNat (u : Nat) : (UInt8.ofNat (u % 256)).toNat = u % 256 := by simp
theorem be_digF : ∀ (k u : Nat), u < 256 ^ k → be (digF k u) = u
  | 0, u, h => by simp at h; subst h; rfl
  | k + 1, u, h => by
    unfold digF
    split
    · rename_i h0; rw [h0]; rfl
    · rw [be_snoc, be_digF k (u / 256) (by rw [Nat.pow_succ] at h; exact Nat.div_lt_of_lt_mul (by omega)), byte_toNat]
      omega
theorem digF_more : ∀ (k u : Nat), u < 256 ^ k → digF (k + 1) u = digF k u
  | 0, u, h => by simp at h; subst h; rfl
  | k + 1, u, h => by
    rw [digF]
    by_cases h0 : u = 0
    · rw [if_pos h0, digF, if_pos h0]
    · rw [if_neg h0, digF_more k (u / 256) (by rw [Nat.pow_succ] at h; exact Nat.div_lt_of_lt_mul (by omega)), digF, if_neg h0]
theorem be_dig {u : Nat} (h : u < 18446744073709551616) : be (dig u) = u := be_digF 8 u h
theorem dig_zero : dig 0 = [] := rfl
theorem dig_pos {u : Nat} (h0 : u ≠ 0) (h : u < 18446744073709551616) : dig u = dig (u / 256) ++ [UInt8.ofNat (u % 256)] := by
  unfold dig
  have h7 : u / 256 < 256 ^ 7 := by
    have : (256 : Nat) ^ 7 = 72057594037927936 := by decide
    omega
  rw [digF, if_neg h0, digF_more 7 (u / 256) h7]
theorem digF_len : ∀ (k u n : Nat), n ≤ k → u < 256 ^ n → (digF k u).length ≤ n
  | 0, u, n, h, _ => by simp [digF]
  | k + 1, u, n, h, hu => by
    unfold digF
    split
    · simp
    · rename_i h0
      cases n with
      | zero => simp at hu; omega
      | succ n =>
        have := digF_len k (u / 256) n (by omega) (by rw [Nat.pow_succ] at hu; exact Nat.div_lt_of_lt_mul (by omega))
        simp; omega
theorem dig_len {u n : Nat} (hn : n ≤ 8) (h : u < 256 ^ n) : (dig u).length ≤ n := digF_len 8 u n hn h
theorem dig_len8 (u : Nat) : (dig u).length ≤ 8 := by
  by_cases h : u < 256 ^ 8
  · exact dig_len (Nat.le_refl _) h
  · have : ∀ (k u : Nat), (digF k u).length ≤ k := by
      intro k
      induction k with
      | zero => intro u; simp [digF]
      | succ k ih => intro u; unfold digF; split; · simp
                     · have := ih (u / 256); simp; omega
    exact this 8 u
theorem dig_ge {u : Nat} (h : u < 18446744073709551616) : u < 256 ^ (dig u).length := by
  have := be_lt _ (dig u) rfl
  rwa [be_dig h] at this
/-- the digit at a place -/
theorem dig_get : ∀ (n u : Nat), n ≤ 8 → (dig u).length = n → u < 18446744073709551616 → ∀ j, j < n → (dig u)[j]? = some (UInt8.ofNat (u / 256 ^ (n - 1 - j) % 256))
  | 0, _, _, _, _, j, h => by omega
  | n + 1, u, hn, hl, hu, j, hj => by
    have h0 : u ≠ 0 := fun e => by rw [e, dig_zero] at hl; simp at hl
    rw [dig_pos h0 hu] at hl ⊢
    have hl' : (dig (u / 256)).length = n := by simpa using hl
    rcases Nat.lt_or_ge j n with h | h
    · rw [List.getElem?_append_left (by omega), dig_get n (u / 256) (by omega) hl' (by omega) j h, Nat.div_div_eq_div_mul, ← Nat.pow_succ', show (n - 1 - j).succ = n + 1 - 1 - j by omega]
    · obtain rfl : j = n := by omega
      rw [List.getElem?_append_right (by omega), hl']
      simp

/-- a number's cell -/
def numC (n : Int) : List UInt8 :=
  if 0 ≤ n ∧ n < 128 then [UInt8.ofNat n.toNat]
  else if n < 0 then UInt8.ofNat (144 + (dig (-1 - n).toNat).length) :: dig (-1 - n).toNat
  else UInt8.ofNat (128 + (dig n.toNat).length) :: dig n.toNat
theorem numC_small {n : Int} (h : 0 ≤ n ∧ n < 128) : numC n = [UInt8.ofNat n.toNat] := by unfold numC; rw [if_pos h]
theorem numC_neg {n : Int} (h : n < 0) : numC n = UInt8.ofNat (144 + (dig (-1 - n).toNat).length) :: dig (-1 - n).toNat := by
  unfold numC; rw [if_neg (by omega), if_pos h]
theorem numC_big {n : Int} (h : 128 ≤ n) : numC n = UInt8.ofNat (128 + (dig n.toNat).length) :: dig n.toNat := by
  unfold numC; rw [if_neg (by omega), if_neg (by omega)]
theorem numC_len (n : Int) : 1 ≤ (numC n).length ∧ (numC n).length ≤ 9 := by
  unfold numC
  split
  · simp
  · split
    · have := dig_len8 (-1 - n).toNat; simp; omega
    · have := dig_len8 n.toNat; simp; omega

def toI (u : Nat) : Int := if u < 9223372036854775808 then u else (u : Int) - 18446744073709551616
def flip (u : Nat) : Nat := 18446744073709551615 - u
/-- the number with whose cell bytes begin, and the cell's length -/
def sizeOf_ (h : UInt8) : Nat := if 144 ≤ h.toNat then h.toNat - 144 else h.toNat - 128
def valOf (h : UInt8) (l : List UInt8) : Int := toI (if 144 ≤ h.toNat then flip (be l) else be l)
def firstC : List UInt8 → Option (Int × Nat)
  | [] => none
  | h :: t => if h.toNat < 128 then some (h.toNat, 1) else
    if 8 < sizeOf_ h ∨ t.length < sizeOf_ h then none else
    if numC (valOf h (t.take (sizeOf_ h))) = h :: t.take (sizeOf_ h) then some (valOf h (t.take (sizeOf_ h)), 1 + sizeOf_ h) else none
theorem firstC_cons (h : UInt8) (t : List UInt8) : firstC (h :: t) = if h.toNat < 128 then some ((h.toNat : Int), 1) else
    if 8 < sizeOf_ h ∨ t.length < sizeOf_ h then none else
    if numC (valOf h (t.take (sizeOf_ h))) = h :: t.take (sizeOf_ h) then some (valOf h (t.take (sizeOf_ h)), 1 + sizeOf_ h) else none := rfl
theorem toI_range {u : Nat} (h : u < 18446744073709551616) : -9223372036854775808 ≤ toI u ∧ toI u ≤ 9223372036854775807 := by unfold toI; split <;> omega
theorem be_take_lt (t : List UInt8) {k : Nat} (hk : k ≤ 8) : be (t.take k) < 18446744073709551616 := by
  have h1 := be_lt _ (t.take k) rfl
  have h2 : (t.take k).length ≤ 8 := by rw [List.length_take]; omega
  have h3 : 256 ^ (t.take k).length ≤ 256 ^ 8 := Nat.pow_le_pow_right (by omega) h2
  exact Nat.lt_of_lt_of_le h1 (Nat.le_trans h3 (by decide))
theorem valOf_range (h : UInt8) (t : List UInt8) {k : Nat} (hk : k ≤ 8) : -9223372036854775808 ≤ valOf h (t.take k) ∧ valOf h (t.take k) ≤ 9223372036854775807 := by
  have := be_take_lt t hk
  unfold valOf
  refine toI_range ?_
  split
  · unfold flip; omega
  · exact this
theorem firstC_some {b : List UInt8} {n : Int} {k : Nat} (h : firstC b = some (n, k)) : numC n = b.take k ∧ 1 ≤ k ∧ k ≤ b.length ∧ k ≤ 9 ∧ -9223372036854775808 ≤ n ∧ n ≤ 9223372036854775807 := by
  cases b with
  | nil => cases h
  | cons c t =>
    rw [firstC_cons] at h
    by_cases hc : c.toNat < 128
    · rw [if_pos hc] at h
      simp only [Option.some.injEq, Prod.mk.injEq] at h
      obtain ⟨rfl, rfl⟩ := h
      refine ⟨?_, by omega, by simp, by omega, by omega, by omega⟩
      rw [numC_small ⟨by omega, by omega⟩]
      simp
    · rw [if_neg hc] at h
      by_cases hs : 8 < sizeOf_ c ∨ t.length < sizeOf_ c
      · rw [if_pos hs] at h; cases h
      · rw [if_neg hs] at h
        by_cases hn : numC (valOf c (t.take (sizeOf_ c))) = c :: t.take (sizeOf_ c)
        · rw [if_pos hn] at h
          simp only [Option.some.injEq, Prod.mk.injEq] at h
          obtain ⟨rfl, rfl⟩ := h
          have hr := valOf_range c t (k := sizeOf_ c) (by omega)
          refine ⟨?_, by omega, by simp; omega, by omega, hr.1, hr.2⟩
          rw [hn, show 1 + sizeOf_ c = sizeOf_ c + 1 by omega, List.take_succ_cons]
        · rw [if_neg hn] at h; cases h
theorem toNat_ofNat {n : Nat} (h : n < 256) : (UInt8.ofNat n).toNat = n := by simp; omega
/-- a cell is read as its number, whatever stands behind it -/
theorem firstC_numC {n : Int} (h1 : -9223372036854775808 ≤ n) (h2 : n ≤ 9223372036854775807) (r : List UInt8) : firstC (numC n ++ r) = some (n, (numC n).length) := by
  by_cases hs : 0 ≤ n ∧ n < 128
  · rw [numC_small hs]
    rw [List.cons_append, firstC_cons, toNat_ofNat (by omega), if_pos (by omega)]
    simp; omega
  · have key : ∀ (hd : UInt8) (u : Nat), numC n = hd :: dig u → hd.toNat ≥ 128 → sizeOf_ hd = (dig u).length → u < 18446744073709551616 → valOf hd (dig u) = n → firstC (numC n ++ r) = some (n, (numC n).length) := by
      intro hd u e hh hz hu hv
      rw [e, List.cons_append, firstC_cons]
      have h8 := dig_len8 u
      have ht : (dig u ++ r).take (sizeOf_ hd) = dig u := by rw [hz, List.take_left]
      rw [if_neg (by omega), if_neg (by rw [hz]; simp; omega), ht, hv, if_pos e, hz, List.length_cons, Nat.add_comm]
    by_cases hn : n < 0
    · have hu : (-1 - n).toNat < 9223372036854775808 := by omega
      have h8 := dig_len8 (-1 - n).toNat
      refine key _ _ (numC_neg hn) (by rw [toNat_ofNat (by omega)]; omega) (by unfold sizeOf_; rw [toNat_ofNat (by omega)]; simp) (by omega) ?_
      unfold valOf
      rw [toNat_ofNat (by omega), if_pos (by omega), be_dig (by omega)]
      unfold flip toI
      rw [if_neg (by omega)]
      omega
    · have hu : n.toNat < 9223372036854775808 := by omega
      have h8 := dig_len8 n.toNat
      refine key _ _ (numC_big (by omega)) (by rw [toNat_ofNat (by omega)]; omega) (by unfold sizeOf_; rw [toNat_ofNat (by omega), if_neg (by omega)]; omega) (by omega) ?_
      unfold valOf
      rw [toNat_ofNat (by omega), if_neg (by omega), be_dig (by omega)]
      unfold toI
      rw [if_pos (by omega)]
      omega
end Ce
end Go.Proofs.Yteiniahikhiadaa
