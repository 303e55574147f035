/-
  the device of sectors in plain words: what every call keeps.
-/
import Derived.Test.YteiniahikhiadaaSeA
namespace Go.Proofs.Yteiniahikhiadaa
open Go.RowKit Go.Maps
namespace Se
open Ce

theorem bGet_mem {m : List (Int × Blk)} {k : Int} {b : Blk} (h : bGet m k = some b) : (k, b) ∈ m := by
  unfold bGet at h
  obtain ⟨p, hp, rfl⟩ := Option.map_eq_some_iff.1 h
  have h1 := List.find?_some hp
  have h2 := List.mem_of_find?_eq_some hp
  simp only [decide_eq_true_eq] at h1
  subst h1
  exact h2
def newD (n : Nat) : Dv := ⟨List.replicate n (List.replicate 64 0), [], false, 0, 0, 0⟩
theorem OkD.new (n : Nat) : OkD (newD n) := by
  refine ⟨fun b hb => ?_, (fun p hp => by simp [newD] at hp), by simp [newD], by simp [newD], by simp [newD]⟩
  rw [(List.mem_replicate.1 hb).2]
  simp
theorem sure_len {D : Dv} (h : OkD D) {i : Nat} (hi : i < D.sure.length) : (D.sure.getD i []).length = 64 := by
  rw [List.getD_eq_getElem?_getD, List.getElem?_eq_getElem hi]
  exact h.sure _ (List.getElem_mem hi)
theorem lastD_len {D : Dv} (h : OkD D) {i : Nat} (hi : i < D.sure.length) : (lastD D i).length = 64 := by
  unfold lastD
  cases hg : bGet D.dm i with
  | none => exact sure_len h hi
  | some b => exact (h.dm _ (bGet_mem hg)).2.2
theorem crashB_len {D : Dv} (h : OkD D) {keep : List Int} {torn : Int} {n : Nat} (hn : n ≤ 64) {i : Nat} (hi : i < D.sure.length) : (crashB D keep torn n i).length = 64 := by
  have hs := sure_len h hi
  unfold crashB
  cases hg : bGet D.dm i with
  | none => exact hs
  | some b =>
    have hb := (h.dm _ (bGet_mem hg)).2.2
    dsimp only at hb ⊢
    split
    · exact hb
    · split
      · rw [List.length_append, List.length_take, List.length_drop]
        omega
      · exact hs
theorem spendD_left {D : Dv} (h : OkD D) (ho : offD D = false) : -9223372036854775808 ≤ (spendD D).left ∧ (spendD D).left ≤ 9223372036854775807 := by
  have := h.left
  unfold offD at ho
  unfold spendD
  split
  · rename_i hs
    rw [hs] at ho
    simp at ho
    dsimp only
    omega
  · exact this
theorem spendD_sure (D : Dv) : (spendD D).sure = D.sure := by unfold spendD; split <;> rfl
theorem spendD_dm (D : Dv) : (spendD D).dm = D.dm := by unfold spendD; split <;> rfl
theorem spendD_stops (D : Dv) : (spendD D).stops = D.stops := by unfold spendD; split <;> rfl
theorem spendD_wr (D : Dv) : (spendD D).wr = D.wr := by unfold spendD; split <;> rfl
theorem spendD_fl (D : Dv) : (spendD D).fl = D.fl := by unfold spendD; split <;> rfl
theorem wrap64_bd (x : Int) : -9223372036854775808 ≤ wrap64 x ∧ wrap64 x ≤ 9223372036854775807 := by unfold wrap64; omega
theorem OkD.write {D : Dv} (h : OkD D) (i : Int) (b : Blk) : OkD (writeD D i b).1 := by
  unfold writeD
  split
  · exact h
  · rename_i hc
    split
    · exact h
    · rename_i ho
      have ho : offD D = false := by simpa using ho
      refine ⟨by dsimp only; rw [spendD_sure]; exact h.sure, fun p hp => ?_, spendD_left h ho, wrap64_bd _, by dsimp only; rw [spendD_fl]; exact h.fl⟩
      dsimp only at hp ⊢
      rw [spendD_sure]
      rcases bPut_mem hp with rfl | hp
      · dsimp only
        omega
      · exact h.dm p hp
theorem OkD.flush {D : Dv} (h : OkD D) : OkD (flushD D).1 := by
  unfold flushD
  split
  · exact h
  · rename_i ho
    have ho : offD D = false := by simpa using ho
    refine ⟨fun b hb => ?_, (fun p hp => by cases hp), spendD_left h ho, by dsimp only; rw [spendD_wr]; exact h.wr, wrap64_bd _⟩
    dsimp only at hb
    obtain ⟨i, hi, rfl⟩ := List.mem_map.1 hb
    exact lastD_len h (List.mem_range.1 hi)
theorem OkD.stop {D : Dv} (h : OkD D) {n : Int} (h0 : -9223372036854775808 ≤ n) (h1 : n ≤ 9223372036854775807) : OkD (stopD D n) := ⟨h.sure, h.dm, ⟨h0, h1⟩, h.wr, h.fl⟩
theorem OkD.crash {D : Dv} (h : OkD D) (keep : List Int) (torn bytes : Int) : OkD (crashD D keep torn bytes).1 := by
  unfold crashD
  split
  · exact h
  · rename_i hc
    refine ⟨fun b hb => ?_, (fun p hp => by cases hp), h.left, h.wr, h.fl⟩
    dsimp only at hb
    obtain ⟨i, hi, rfl⟩ := List.mem_map.1 hb
    exact crashB_len h (by omega) (List.mem_range.1 hi)
end Se
end Go.Proofs.Yteiniahikhiadaa
