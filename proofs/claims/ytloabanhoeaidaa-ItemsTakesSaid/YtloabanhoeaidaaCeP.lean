/-
  codes of lists of items, in plain words: what is taken of bytes, and what is put.
-/
import Derived.Test.YtloabanhoeaidaaCeA
import Derived.Test.YtloabanhoeaidaaItP
namespace Go.Proofs.Ytloabanhoeaidaa
open Go.RowKit
namespace Ce
open It

/-- a text of bytes -/
def bs (l : List UInt8) : ByteArray := ⟨l.toArray⟩
theorem bs_size (l : List UInt8) : (bs l).size = l.length := by simp [bs, ByteArray.size]
theorem bs_data (l : List UInt8) : (bs l).data.toList = l := rfl
theorem bs_of (s : ByteArray) : bs s.data.toList = s := by
  cases s; rfl
/-- what is left of a code; none: it is at fault -/
abbrev Tst := Option (List UInt8)
def tNum (least most : Int) : Tst → Int × Tst
  | none => (0, none)
  | some l => match firstC l with
    | some (n, k) => if n < least ∨ most < n then (0, none) else (n, some (l.drop k))
    | none => (0, none)
theorem tNum_none (least most : Int) : tNum least most none = (0, none) := rfl
theorem tNum_bad {least most : Int} {l : List UInt8} (h : firstC l = none) : tNum least most (some l) = (0, none) := by
  simp only [tNum, h]
theorem tNum_out {least most n : Int} {l : List UInt8} {k : Nat} (h : firstC l = some (n, k)) (h2 : n < least ∨ most < n) : tNum least most (some l) = (0, none) := by
  simp only [tNum, h]; exact if_pos h2
theorem tNum_in {least most n : Int} {l : List UInt8} {k : Nat} (h : firstC l = some (n, k)) (h2 : ¬ (n < least ∨ most < n)) : tNum least most (some l) = (n, some (l.drop k)) := by
  simp only [tNum, h]; exact if_neg h2
theorem tNum_zero {least most : Int} {s : Tst} (h : (tNum least most s).2 = none) : (tNum least most s).1 = 0 := by
  cases s with
  | none => rfl
  | some l =>
    cases hf : firstC l with
    | none => rw [tNum_bad hf]
    | some x =>
      obtain ⟨n, k⟩ := x
      by_cases h2 : n < least ∨ most < n
      · rw [tNum_out hf h2]
      · rw [tNum_in hf h2] at h; cases h
theorem tNum_some {least most n : Int} {s : Tst} {r : List UInt8} (h : tNum least most s = (n, some r)) : ∃ l, s = some l ∧ l = numC n ++ r ∧ least ≤ n ∧ n ≤ most := by
  cases s with
  | none => cases h
  | some l =>
    cases hf : firstC l with
    | none => rw [tNum_bad hf] at h; cases h
    | some x =>
      obtain ⟨m, k⟩ := x
      by_cases h2 : m < least ∨ most < m
      · rw [tNum_out hf h2] at h; cases h
      · rw [tNum_in hf h2] at h
        simp only [Prod.mk.injEq, Option.some.injEq] at h
        obtain ⟨rfl, rfl⟩ := h
        have := (firstC_some hf).1
        exact ⟨l, rfl, by rw [this, List.take_append_drop], by omega, by omega⟩
theorem tNum_range {least most : Int} {s : Tst} (h1 : least ≤ 0) (h2 : 0 ≤ most) : least ≤ (tNum least most s).1 ∧ (tNum least most s).1 ≤ most := by
  cases hs : tNum least most s with
  | mk n r =>
    cases r with
    | none => have := tNum_zero (least := least) (most := most) (s := s) (by rw [hs]); rw [hs] at this; simp only at this ⊢; omega
    | some r => obtain ⟨_, _, _, h3, h4⟩ := tNum_some hs; exact ⟨h3, h4⟩
theorem tNum_put {least most n : Int} (r : List UInt8) (h1 : -9223372036854775808 ≤ n) (h2 : n ≤ 9223372036854775807) (h3 : least ≤ n) (h4 : n ≤ most) : tNum least most (some (numC n ++ r)) = (n, some r) := by
  rw [tNum_in (firstC_numC h1 h2 r) (by omega)]
  simp
def tText (most : Int) (s : Tst) : List UInt8 × Tst :=
  match tNum 0 most s with
  | (n, some l) => if (l.length : Int) < n then ([], none) else (l.take n.toNat, some (l.drop n.toNat))
  | (_, none) => ([], none)
theorem tText_bad {most : Int} {s : Tst} (h : (tNum 0 most s).2 = none) : tText most s = ([], none) := by
  unfold tText
  cases hs : tNum 0 most s with
  | mk n r =>
    cases r with
    | none => rfl
    | some r => rw [hs] at h; cases h
theorem tText_long {most n : Int} {s : Tst} {l : List UInt8} (h : tNum 0 most s = (n, some l)) (h2 : (l.length : Int) < n) : tText most s = ([], none) := by
  unfold tText; rw [h]; exact if_pos h2
theorem tText_ok {most n : Int} {s : Tst} {l : List UInt8} (h : tNum 0 most s = (n, some l)) (h2 : ¬ (l.length : Int) < n) : tText most s = (l.take n.toNat, some (l.drop n.toNat)) := by
  unfold tText; rw [h]; exact if_neg h2
theorem tText_some {most : Int} {s : Tst} {x r : List UInt8} (h : tText most s = (x, some r)) : s = some (numC x.length ++ (x ++ r)) ∧ (x.length : Int) ≤ most := by
  cases hs : tNum 0 most s with
  | mk n o =>
    cases o with
    | none => rw [tText_bad (by rw [hs])] at h; cases h
    | some l =>
      by_cases h2 : (l.length : Int) < n
      · rw [tText_long hs h2] at h; cases h
      · rw [tText_ok hs h2] at h
        simp only [Prod.mk.injEq, Option.some.injEq] at h
        obtain ⟨rfl, rfl⟩ := h
        obtain ⟨q, rfl, rfl, h3, h4⟩ := tNum_some hs
        have e : ((l.take n.toNat).length : Int) = n := by rw [List.length_take]; omega
        rw [List.take_append_drop, e]
        exact ⟨rfl, h4⟩
theorem tText_none {most : Int} : tText most none = ([], none) := rfl
theorem tText_empty {most : Int} {s : Tst} (h : (tText most s).2 = none) : (tText most s).1 = [] := by
  cases hs : tText most s with
  | mk x o =>
    cases o with
    | some r => rw [hs] at h; cases h
    | none =>
      cases ht : tNum 0 most s with
      | mk n o =>
        cases o with
        | none => rw [tText_bad (by rw [ht])] at hs; cases hs; rfl
        | some l =>
          by_cases h2 : (l.length : Int) < n
          · rw [tText_long ht h2] at hs; cases hs; rfl
          · rw [tText_ok ht h2] at hs; cases hs
theorem tText_put {most : Int} (x r : List UInt8) (h1 : (x.length : Int) ≤ most) (h2 : (x.length : Int) ≤ 9223372036854775807) : tText most (some (numC x.length ++ (x ++ r))) = (x, some r) := by
  rw [tText_ok (tNum_put (x ++ r) (by omega) h2 (by omega) h1) (by simp; omega)]
  simp
/-- a taker that first lowers its bound to what is left -/
theorem tText_min {most : Int} {l : List UInt8} (_hm : 0 ≤ most) :
    (match tNum 0 (if most > (l.length : Int) then (l.length : Int) else most) (some l) with
      | (n, some r) => if (r.length : Int) < n then (([] : List UInt8), (none : Tst)) else (r.take n.toNat, some (r.drop n.toNat))
      | (_, none) => ([], none)) = tText most (some l) := by
  by_cases h : most > (l.length : Int)
  · rw [if_pos h]
    cases hf : firstC l with
    | none => rw [tNum_bad hf, tText_bad (by rw [tNum_bad hf])]
    | some x =>
      obtain ⟨n, k⟩ := x
      have hk := firstC_some hf
      by_cases h2 : n < 0 ∨ most < n
      · rw [tNum_out hf (by omega), tText_bad (by rw [tNum_out hf h2])]
      · by_cases h3 : (l.length : Int) < n
        · rw [tNum_out hf (by omega), tText_long (tNum_in hf h2) (by simp; omega)]
        · rw [tNum_in hf (by omega)]
          unfold tText
          rw [tNum_in hf h2]
  · rw [if_neg h]; rfl

/-- one good, and how many -/
abbrev Rst := List It.Item × Tst
def rRound (s : Rst) : Rst := (s.1 ++ [(bs (tText 16 s.2).1, (tNum 1 1099511627776 (tText 16 s.2).2).1)], (tNum 1 1099511627776 (tText 16 s.2).2).2)
def rIt (s : Rst) : Nat → Rst
  | 0 => s
  | k + 1 => rRound (rIt s k)
theorem rIt_len (s : Rst) (k : Nat) : (rIt s k).1.length = s.1.length + k := by
  induction k with
  | zero => rfl
  | succ k ih => simp only [rIt, rRound, List.length_append, ih, List.length_cons, List.length_nil]; omega
def readI (s : Tst) : List It.Item × Tst :=
  if may (rIt ([], (tNum 0 16 s).2) (tNum 0 16 s).1.toNat).1 then rIt ([], (tNum 0 16 s).2) (tNum 0 16 s).1.toNat else ([], none)
theorem may_pos {l : List It.Item} {x : It.Item} (hx : x ∈ l) (h : x.2 = 0) : may l = false := by
  cases hm : may l with
  | false => rfl
  | true =>
    have := (may_iff l).1 hm
    have := this.ok x hx
    omega
theorem rIt_none (s : Rst) (k : Nat) (hk : 0 < k) (h : (rIt s k).2 = none) : may (rIt s k).1 = false := by
  cases k with
  | zero => omega
  | succ k =>
    simp only [rIt, rRound] at h ⊢
    exact may_pos (List.mem_append_right _ (List.mem_singleton.2 rfl)) (tNum_zero h)
theorem rIt_stays (s : Rst) (j k : Nat) (hjk : j ≤ k) (h : (rIt s j).2 = none) : (rIt s k).2 = none := by
  induction k with
  | zero => obtain rfl : j = 0 := by omega
            exact h
  | succ k ih =>
    rcases Nat.lt_or_ge k j with h1 | h1
    · obtain rfl : j = k + 1 := by omega
      exact h
    · simp only [rIt, rRound]
      rw [ih h1, tText_none, tNum_none]
theorem rIt_fits (s : Rst) (hs : ∀ x ∈ s.1, x.1.size ≤ maxLen ∧ -9223372036854775808 ≤ x.2 ∧ x.2 ≤ 9223372036854775807) (k : Nat) : Fits (rIt s k).1 := by
  induction k with
  | zero => exact hs
  | succ k ih =>
    intro x hx
    simp only [rIt, rRound] at hx
    rcases List.mem_append.1 hx with h | h
    · exact ih x h
    · rw [List.mem_singleton.1 h]
      refine ⟨?_, ?_, ?_⟩
      · dsimp only
        rw [bs_size]
        cases ht : tText 16 (rIt s k).2 with
        | mk y o =>
          cases o with
          | none => have := tText_empty (by rw [ht] : (tText 16 (rIt s k).2).2 = none); rw [ht] at this; rw [this]; simp
          | some r => have := (tText_some ht).2; unfold maxLen; dsimp only; omega
      all_goals
        dsimp only
        cases hn : tNum 1 1099511627776 (tText 16 (rIt s k).2).2 with
        | mk n o =>
          cases o with
          | none => have := tNum_zero (by rw [hn] : (tNum 1 1099511627776 (tText 16 (rIt s k).2).2).2 = none); rw [hn] at this; dsimp only at this ⊢; omega
          | some r => obtain ⟨_, _, _, h1, h2⟩ := tNum_some hn; dsimp only; omega
/-- the document's reading: it stops at a fault -/
theorem readI_stop {s : Tst} {j : Nat} (hj : (j : Int) ≤ (tNum 0 16 s).1) (h : (j : Int) = (tNum 0 16 s).1 ∨ (rIt ([], (tNum 0 16 s).2) j).2 = none) :
    ((rIt ([], (tNum 0 16 s).2) j).2.isSome && may (rIt ([], (tNum 0 16 s).2) j).1) = (readI s).2.isSome ∧
    (((rIt ([], (tNum 0 16 s).2) j).2.isSome && may (rIt ([], (tNum 0 16 s).2) j).1) = true → readI s = rIt ([], (tNum 0 16 s).2) j) ∧
    (((rIt ([], (tNum 0 16 s).2) j).2.isSome && may (rIt ([], (tNum 0 16 s).2) j).1) = false → (readI s).1 = []) := by
  rcases h with h | h
  · have e : (tNum 0 16 s).1.toNat = j := by omega
    unfold readI
    rw [e]
    cases hm : may (rIt ([], (tNum 0 16 s).2) j).1 with
    | true =>
      rw [if_pos rfl]
      refine ⟨by simp, fun _ => rfl, fun h0 => ?_⟩
      simp only [Bool.and_true] at h0
      have hn : (rIt ([], (tNum 0 16 s).2) j).2 = none := by simpa using h0
      rcases Nat.eq_zero_or_pos j with h1 | h1
      · rw [h1]; rfl
      · rw [rIt_none _ _ h1 hn] at hm; cases hm
    | false => simp
  · have hz : (rIt ([], (tNum 0 16 s).2) (tNum 0 16 s).1.toNat).2 = none := rIt_stays _ j _ (by omega) h
    have hr : readI s = ([], none) := by
      unfold readI
      rcases Nat.eq_zero_or_pos (tNum 0 16 s).1.toNat with h1 | h1
      · rw [h1] at hz ⊢
        simp only [rIt] at hz ⊢
        rw [hz]
        exact ite_self _
      · rw [rIt_none _ _ h1 hz]; rfl
    rw [h, hr]
    simp
theorem readI_none {s : Tst} (h : (readI s).2 = none) : (readI s).1 = [] := by
  unfold readI at h ⊢
  cases hm : may (rIt ([], (tNum 0 16 s).2) (tNum 0 16 s).1.toNat).1 with
  | false => rfl
  | true =>
    rw [hm, if_pos rfl] at h
    rw [if_pos rfl]
    rcases Nat.eq_zero_or_pos (tNum 0 16 s).1.toNat with h1 | h1
    · rw [h1]; rfl
    · rw [rIt_none _ _ h1 h] at hm; cases hm
theorem readI_may {s : Tst} : may (readI s).1 = true := by
  unfold readI
  cases hm : may (rIt ([], (tNum 0 16 s).2) (tNum 0 16 s).1.toNat).1 with
  | false => rfl
  | true => rw [if_pos rfl]; exact hm

/-- the cells of goods -/
def cellsI (l : List It.Item) : List UInt8 := l.flatMap fun x => numC x.1.size ++ (x.1.data.toList ++ numC x.2)
def encI (l : List It.Item) : List UInt8 := numC l.length ++ cellsI l
theorem cellsI_snoc (l : List It.Item) (x : It.Item) : cellsI (l ++ [x]) = cellsI l ++ (numC x.1.size ++ (x.1.data.toList ++ numC x.2)) := by simp [cellsI]
theorem cellsI_cons (l : List It.Item) (x : It.Item) : cellsI (x :: l) = numC x.1.size ++ (x.1.data.toList ++ numC x.2) ++ cellsI l := by simp [cellsI]
theorem cellsI_len {l : List It.Item} (h : ∀ x ∈ l, x.1.size ≤ 16) : (cellsI l).length ≤ l.length * 34 := by
  induction l with
  | nil => simp [cellsI]
  | cons x r ih =>
    rw [cellsI_cons]
    have h1 := ih fun y hy => h y (List.mem_cons_of_mem _ hy)
    have h2 := h x (List.mem_cons_self ..)
    have h3 := (numC_len x.1.size).2
    have h4 := (numC_len x.2).2
    have h5 : x.1.data.toList.length = x.1.size := Array.length_toList
    simp only [List.length_append, List.length_cons]
    omega
theorem good_size {s : ByteArray} (h : good s = true) : 1 ≤ s.size ∧ s.size ≤ 16 := by
  unfold good at h
  simp only [Bool.and_eq_true, decide_eq_true_eq] at h
  omega
theorem encI_len {l : List It.Item} (h : may l = true) : (encI l).length ≤ 600 := by
  have hM := (may_iff l).1 h
  have h1 := cellsI_len (l := l) fun x hx => (good_size (hM.ok x hx).1).2
  have h2 := may_len h
  have h3 := (numC_len l.length).2
  unfold encI
  rw [List.length_append]
  omega
/-- what was put is taken again -/
theorem rIt_put {l : List It.Item} (h : may l = true) (r : List UInt8) : ∀ k, k ≤ l.length → rIt ([], some (cellsI l ++ r)) k = (l.take k, some (cellsI (l.drop k) ++ r))
  | 0, _ => rfl
  | k + 1, hk => by
    have hM := (may_iff l).1 h
    simp only [rIt]
    rw [rIt_put h r k (by omega)]
    have hx := hM.ok l[k] (List.getElem_mem _)
    have hg := good_size (hM.ok l[k] (List.getElem_mem _)).1
    have hl : l[k].1.data.toList.length = l[k].1.size := Array.length_toList
    unfold rRound
    dsimp only
    rw [List.drop_eq_getElem_cons (by omega), cellsI_cons]
    have e : numC l[k].1.size ++ (l[k].1.data.toList ++ numC l[k].2) ++ cellsI (l.drop (k + 1)) ++ r = numC (l[k].1.data.toList.length) ++ (l[k].1.data.toList ++ (numC l[k].2 ++ (cellsI (l.drop (k + 1)) ++ r))) := by
      rw [hl]; simp [List.append_assoc]
    rw [e, tText_put _ _ (by omega) (by omega)]
    dsimp only
    rw [tNum_put _ (by omega) (by omega) (by omega) (by omega)]
    dsimp only
    rw [bs_of, List.take_succ_eq_append_getElem (by omega)]
theorem readI_put {l : List It.Item} (h : may l = true) (r : List UInt8) : readI (some (encI l ++ r)) = (l, some r) := by
  have h2 := may_len h
  have e : tNum 0 16 (some (encI l ++ r)) = ((l.length : Int), some (cellsI l ++ r)) := by
    unfold encI
    rw [List.append_assoc]
    exact tNum_put _ (by omega) (by omega) (by omega) (by omega)
  unfold readI
  rw [e]
  dsimp only
  rw [Int.toNat_natCast, rIt_put h r _ (Nat.le_refl _), List.take_length, if_pos h, List.drop_length]
  rfl
/-- what was taken was put so -/
theorem rIt_took {l : List UInt8} : ∀ (k : Nat) (r : List UInt8), (rIt ([], some l) k).2 = some r → l = cellsI (rIt ([], some l) k).1 ++ r
  | 0, r, h => by cases h; rfl
  | k + 1, r, h => by
    simp only [rIt] at h ⊢
    unfold rRound at h ⊢
    dsimp only at h ⊢
    cases hn : tNum 1 1099511627776 (tText 16 (rIt ([], some l) k).2).2 with
    | mk n o =>
      rw [hn] at h
      dsimp only at h
      subst h
      obtain ⟨q, hq, hq2, _, _⟩ := tNum_some hn
      cases ht : tText 16 (rIt ([], some l) k).2 with
      | mk x o =>
        rw [ht] at hq
        dsimp only at hq
        subst hq
        have h3 := (tText_some ht).1
        have ih := rIt_took k _ h3
        refine ih.trans ?_
        rw [cellsI_snoc, hq2]
        dsimp only
        rw [bs_size, bs_data]
        simp [List.append_assoc]
theorem readI_took {b r : List UInt8} (h : (readI (some b)).2 = some r) : b = encI (readI (some b)).1 ++ r := by
  unfold readI at h ⊢
  cases hm : may (rIt ([], (tNum 0 16 (some b)).2) (tNum 0 16 (some b)).1.toNat).1 with
  | false => rw [hm] at h; cases h
  | true =>
    rw [hm, if_pos rfl] at h
    rw [if_pos rfl]
    cases hn : tNum 0 16 (some b) with
    | mk n o =>
      rw [hn] at h
      dsimp only at h ⊢
      cases o with
      | none =>
        rcases Nat.eq_zero_or_pos n.toNat with h1 | h1
        · rw [h1] at h; cases h
        · rw [rIt_stays ([], none) 0 n.toNat (by omega) rfl] at h; cases h
      | some l =>
        obtain ⟨q, hq, hq2, h3, h4⟩ := tNum_some hn
        cases hq
        have h5 := rIt_took _ _ h
        have h6 := rIt_len ([], some l) n.toNat
        simp only [List.length_nil, Nat.zero_add] at h6
        unfold encI
        rw [List.append_assoc, ← h5, h6, show ((n.toNat : Nat) : Int) = n by omega]
        exact hq2
end Ce
end Go.Proofs.Ytloabanhoeaidaa
