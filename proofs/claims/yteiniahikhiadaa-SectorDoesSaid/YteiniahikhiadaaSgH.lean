/-
  sector: the iterator Dirty against the document's marks, plain.
-/
import Derived.Test.YteiniahikhiadaaSgG
namespace Go.Proofs.Yteiniahikhiadaa
open Go.RowKit Go.Maps
namespace Se
open Ce
/-- where the document's marks are looked for behind these keys -/
def nextAt (pre : List Int) : Nat := (pre.getLast?.map fun k => k.toNat + 1).getD 0
theorem nextAt_nil : nextAt [] = 0 := rfl
theorem nextAt_snoc (pre : List Int) (k : Int) : nextAt (pre ++ [k]) = k.toNat + 1 := by
  unfold nextAt
  rw [List.getLast?_append]
  rfl
theorem bGet_isSome (m : List (Int × Blk)) (k : Int) : (bGet m k).isSome = decide (k ∈ (bm m).map (·.1)) := by
  induction m with
  | nil => rfl
  | cons p r ih =>
    simp only [bGet, bm, List.map_cons, List.find?_cons, List.mem_cons] at ih ⊢
    by_cases h : p.1 = k
    · simp [h]
    · have h2 : ¬ k = p.1 := fun e => h e.symm
      simp only [h, decide_false, h2, false_or]
      exact ih
theorem nextAt_mem {pre : List Int} (hs : pre.Pairwise (· < ·)) {j : Int} (hj : j ∈ pre) (h0 : 0 ≤ j) : j < nextAt pre := by
  rcases List.eq_nil_or_concat pre with rfl | ⟨q, k, rfl⟩
  · cases hj
  · rw [List.concat_eq_append] at hs hj ⊢
    rw [nextAt_snoc]
    rcases List.mem_append.1 hj with h | h
    · have := (List.pairwise_append.1 hs).2.2 j h k (by simp)
      omega
    · have : j = k := by simpa using h
      omega
structure KeysOk (D : Dv) : Prop where
  sorted : (keysD D).Pairwise (· < ·)
  bound : ∀ k ∈ keysD D, 0 ≤ k ∧ k < D.sure.length
theorem DvAt.keys {w : World} {base d sb mb : Nat} {D : Dv} (h : DvAt w base d sb mb D) : KeysOk D := by
  refine ⟨?_, fun k hk => ?_⟩
  · have hs := h.map.sorted keyedI
    unfold keysD
    rw [List.pairwise_map]
    exact hs.imp (fun {p q} h => by simpa [intK] using h)
  · unfold keysD bm at hk
    rw [List.map_map] at hk
    obtain ⟨p, hp, rfl⟩ := List.mem_map.1 hk
    have := h.ok.dm p hp
    exact ⟨this.1, this.2.1⟩
theorem dirty_at {D : Dv} {R : Rv} (hA : Along D R) {j : Nat} (hj : j < D.sure.length) : R.dirty.getD j false = decide ((j : Int) ∈ keysD D) := by
  rw [hA.dirty, getD_range _ _ _ hj, bGet_isSome]
  rfl
theorem dirty_gap {D : Dv} {R : Rv} (hA : Along D R) (hK : KeysOk D) {pre : List Int} {k : Int} (hp : pre ++ [k] <+: keysD D) :
    nextAt pre ≤ k.toNat ∧ k.toNat < D.sure.length ∧ (k.toNat : Int) = k ∧ (∀ j, nextAt pre ≤ j → j < k.toNat → R.dirty.getD j false = false) ∧ R.dirty.getD k.toNat false = true := by
  obtain ⟨r, hr⟩ := hp
  have hs := hK.sorted
  rw [← hr] at hs
  have hk : k ∈ keysD D := by rw [← hr]; simp
  have hb := hK.bound k hk
  have hpre := (List.pairwise_append.1 hs).1
  have hpk := (List.pairwise_append.1 hpre)
  have hle : nextAt pre ≤ k.toNat := by
    rcases List.eq_nil_or_concat pre with rfl | ⟨q, x, rfl⟩
    · rw [nextAt_nil]; omega
    · rw [List.concat_eq_append] at hpk ⊢
      rw [nextAt_snoc]
      have h1 := hpk.2.2 x (by simp) k (by simp)
      have h2 : x ∈ keysD D := by rw [← hr]; simp
      have := hK.bound x h2
      omega
  refine ⟨hle, by omega, by omega, fun j h1 h2 => ?_, ?_⟩
  · rw [dirty_at hA (by omega)]
    refine decide_eq_false fun hm => ?_
    rw [← hr] at hm
    rcases List.mem_append.1 hm with h | h
    · rcases List.mem_append.1 h with h | h
      · have := nextAt_mem hpk.1 h (by omega)
        omega
      · have : (j : Int) = k := by simpa using h
        omega
    · have := (List.pairwise_append.1 hs).2.2 k (by simp) j h
      omega
  · rw [dirty_at hA (by omega)]
    refine decide_eq_true ?_
    have : ((k.toNat : Nat) : Int) = k := by omega
    rw [this]
    exact hk
theorem dirty_end {D : Dv} {R : Rv} (hA : Along D R) (hK : KeysOk D) : nextAt (keysD D) ≤ D.sure.length ∧ ∀ j, nextAt (keysD D) ≤ j → j < D.sure.length → R.dirty.getD j false = false := by
  refine ⟨?_, fun j h1 h2 => ?_⟩
  · rcases List.eq_nil_or_concat (keysD D) with e | ⟨q, x, e⟩
    · rw [e, nextAt_nil]; omega
    · have h2 : x ∈ keysD D := by rw [e]; simp
      have := hK.bound x h2
      rw [e, List.concat_eq_append, nextAt_snoc]
      omega
  · rw [dirty_at hA h2]
    refine decide_eq_false fun hm => ?_
    have := nextAt_mem hK.sorted hm (by omega)
    omega
end Se
end Go.Proofs.Yteiniahikhiadaa
