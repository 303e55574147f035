/-
  sector: what a call of a law makes of a device, plain.
-/
import Derived.Test.YteiniahikhiadaaSeT
import Derived.Test.YteiniahikhiadaaOps
namespace Go.Proofs.Yteiniahikhiadaa
open Go.RowKit Go.Maps
namespace Se
open Ce
theorem Ob.six {w : World} {b : Nat} {t : TypeId} {v0 v1 v2 v3 v4 v5 : Value} (h : Ob w b t #[v0, v1, v2, v3, v4, v5]) :
    w.cell? ⟨b, 0, none⟩ = some v0 ∧ w.cell? ⟨b, 1, none⟩ = some v1 ∧ w.cell? ⟨b, 2, none⟩ = some v2 ∧ w.cell? ⟨b, 3, none⟩ = some v3 ∧ w.cell? ⟨b, 4, none⟩ = some v4 ∧ w.cell? ⟨b, 5, none⟩ = some v5 :=
  ⟨h.cell rfl, h.cell rfl, h.cell rfl, h.cell rfl, h.cell rfl, h.cell rfl⟩
theorem write_ok {D : Dv} {i : Int} {b : Blk} (h : (writeD D i b).2 = 0) : (writeD D i b).1 = { spendD D with dm := bPut D.dm i b, wr := wrap64 (D.wr + 1) } ∧ (0 ≤ i ∧ i < D.sure.length) := by
  unfold writeD at h ⊢
  split
  · rename_i h1
    rw [if_pos h1] at h
    simp at h
  · rename_i h1
    rw [if_neg h1] at h
    split
    · rename_i h2
      rw [if_pos h2] at h
      simp at h
    · exact ⟨rfl, by omega⟩
theorem write_no {D : Dv} {i : Int} {b : Blk} (h : (writeD D i b).2 ≠ 0) : (writeD D i b).1 = D := by
  unfold writeD at h ⊢
  split
  · rfl
  · rename_i h1
    rw [if_neg h1] at h
    split
    · rfl
    · rename_i h2
      rw [if_neg h2] at h
      exact (h rfl).elim
theorem write_wr {D : Dv} {i : Int} {b : Blk} (h : (writeD D i b).2 = 0) : (writeD D i b).1.wr = wrap64 (D.wr + 1) ∧ (writeD D i b).1.fl = D.fl := by
  rw [(write_ok h).1]
  exact ⟨rfl, spendD_fl D⟩
theorem flush_fl {D : Dv} (h : (flushD D).2 = 0) : (flushD D).1.fl = wrap64 (D.fl + 1) ∧ (flushD D).1.wr = D.wr := by
  unfold flushD at h ⊢
  split
  · rename_i h1
    rw [if_pos h1] at h
    simp at h
  · exact ⟨rfl, spendD_wr D⟩
theorem flush_no {D : Dv} (h : (flushD D).2 ≠ 0) : (flushD D).1 = D := by
  unfold flushD at h ⊢
  split
  · rfl
  · rename_i h1
    rw [if_neg h1] at h
    exact (h rfl).elim
theorem crash_wr (D : Dv) (keep : List Int) (t n : Int) : (crashD D keep t n).1.wr = D.wr ∧ (crashD D keep t n).1.fl = D.fl := by
  unfold crashD
  split <;> exact ⟨rfl, rfl⟩
theorem wrap_small {x : Int} {k : Nat} (h0 : 0 ≤ x) (h1 : x ≤ k) (hk : k < 200) : wrap64 (x + 1) = x + 1 := by unfold wrap64; omega
theorem write_sure (D : Dv) (i : Int) (b : Blk) : (writeD D i b).1.sure = D.sure := by
  unfold writeD
  split
  · rfl
  · split
    · rfl
    · exact spendD_sure D
/-- a sector that is sure, and not dirty -/
def Safe (D : Dv) (i : Nat) (bl : Blk) : Prop := D.sure.length = 8 ∧ i < 8 ∧ D.sure.getD i [] = bl ∧ bGet D.dm i = none
theorem Safe.write {D : Dv} {i : Nat} {bl : Blk} (h : Safe D i bl) {j : Int} (hj : j ≠ i) (b : Blk) : Safe (writeD D j b).1 i bl := by
  by_cases hc : (writeD D j b).2 = 0
  · rw [(write_ok hc).1]
    refine ⟨by dsimp only; rw [spendD_sure]; exact h.1, h.2.1, by dsimp only; rw [spendD_sure]; exact h.2.2.1, ?_⟩
    dsimp only
    rw [bGet_put, if_neg (Ne.symm hj)]
    exact h.2.2.2
  · rw [write_no hc]
    exact h
theorem getD_map (f : Nat → Blk) (n i : Nat) (hi : i < n) : ((List.range n).map f).getD i [] = f i := by
  rw [List.getD_eq_getElem?_getD, List.getElem?_map, List.getElem?_range hi]
  rfl
theorem Safe.flush {D : Dv} {i : Nat} {bl : Blk} (h : Safe D i bl) : Safe (flushD D).1 i bl := by
  by_cases hc : (flushD D).2 = 0
  · unfold flushD at hc ⊢
    split
    · exact h
    · refine ⟨by simpa using h.1, h.2.1, ?_, rfl⟩
      dsimp only
      rw [getD_map _ _ _ (by rw [h.1]; exact h.2.1)]
      unfold lastD
      rw [h.2.2.2]
      exact h.2.2.1
  · rw [flush_no hc]
    exact h
theorem Safe.stop {D : Dv} {i : Nat} {bl : Blk} (h : Safe D i bl) (n : Int) : Safe (stopD D n) i bl := h
theorem Safe.crash {D : Dv} {i : Nat} {bl : Blk} (h : Safe D i bl) (keep : List Int) (t n : Int) : Safe (crashD D keep t n).1 i bl := by
  unfold crashD
  split
  · exact h
  · refine ⟨by simpa using h.1, h.2.1, ?_, rfl⟩
    dsimp only
    rw [getD_map _ _ _ (by rw [h.1]; exact h.2.1)]
    unfold crashB
    rw [h.2.2.2]
    exact h.2.2.1
theorem Safe.start {i : Nat} (hi : i < 8) (b : UInt8) : (writeD (newD 8) i (blockL b)).2 = 0 ∧ (flushD (writeD (newD 8) i (blockL b)).1).2 = 0 ∧ Safe (flushD (writeD (newD 8) i (blockL b)).1).1 i (blockL b) := by
  have hw : writeD (newD 8) i (blockL b) = ({ newD 8 with dm := [((i : Int), blockL b)], wr := 1 }, 0) := by
    unfold writeD
    rw [if_neg (by rw [blockL_len]; simp [newD]; omega)]
    simp [offD, newD, spendD, bPut, bDel, bIns, wrap64]
  rw [hw]
  refine ⟨rfl, rfl, ?_, hi, ?_, rfl⟩
  · simp [flushD, offD, newD]
  · simp only [flushD, offD, newD, Bool.false_and, Bool.false_eq_true, if_false]
    rw [getD_map _ _ _ (by simpa using hi)]
    simp [lastD, bGet]
theorem Safe.end_ {D : Dv} {i : Nat} {bl : Blk} (h : Safe D i bl) : offD (crashD D [] i 64).1 = false ∧ (crashD D [] i 64).1.sure.length = 8 ∧ lastD (crashD D [] i 64).1 i = bl := by
  have h2 := h.crash [] i 64
  refine ⟨by unfold crashD offD; simp, h2.1, ?_⟩
  unfold lastD
  rw [h2.2.2.2]
  exact h2.2.2.1
end Se
end Go.Proofs.Yteiniahikhiadaa
