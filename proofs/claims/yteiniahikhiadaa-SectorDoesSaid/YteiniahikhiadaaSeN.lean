/-
  sector: what Crash does, plain.
-/
import Derived.Test.YteiniahikhiadaaSeL
namespace Go.Proofs.Yteiniahikhiadaa
open Go.RowKit Go.Maps
namespace Se
open Ce

section
variable {D : Dv} {keep : List Int} {torn : Int} {n : Nat}
/-- so many sectors went through a crash by now -/
def HalfC (D : Dv) (keep : List Int) (torn : Int) (n : Nat) (S : List Int) (bs : List Blk) : Prop := bs.length = D.sure.length ∧ (∀ c ∈ bs, c.length = 64) ∧ ∀ i, i < D.sure.length → bs.getD i [] = if (i : Int) ∈ S then crashB D keep torn n i else D.sure.getD i []
theorem HalfC.start (h : OkD D) : HalfC D keep torn n [] D.sure := ⟨rfl, h.sure, fun i _ => by simp⟩
theorem HalfC.step {S : List Int} {bs : List Blk} (h : HalfC D keep torn n S bs) (hok : OkD D) (hn : n ≤ 64) {k : Nat} (hk : k < D.sure.length) : HalfC D keep torn n (S ++ [(k : Int)]) (bs.set k (crashB D keep torn n k)) := by
  obtain ⟨h1, h2, h3⟩ := h
  refine ⟨by rw [List.length_set]; exact h1, fun c hc => ?_, fun i hi => ?_⟩
  · rcases List.mem_or_eq_of_mem_set hc with hc | rfl
    · exact h2 c hc
    · exact crashB_len hok hn hk
  · have h4 := h3 i hi
    rw [List.getD_eq_getElem?_getD] at h4 ⊢
    by_cases e : k = i
    · subst e
      rw [List.getElem?_set_self (by omega)]
      simp
    · rw [List.getElem?_set_ne e, h4]
      have e2 : ¬ (i : Int) = (k : Int) := by omega
      simp [e2]
theorem HalfC.old {S : List Int} {bs : List Blk} (h : HalfC D keep torn n S bs) {k : Nat} (hk : k < D.sure.length) (hS : (k : Int) ∉ S) : bs.getD k [] = D.sure.getD k [] := by
  rw [h.2.2 k hk, if_neg hS]
/-- a sector that stays as it was sure -/
theorem HalfC.stay {S : List Int} {bs : List Blk} (h : HalfC D keep torn n S bs) {k : Nat} (hk : k < D.sure.length) (hS : (k : Int) ∉ S) (hc : crashB D keep torn n k = D.sure.getD k []) : HalfC D keep torn n (S ++ [(k : Int)]) bs := by
  obtain ⟨h1, h2, h3⟩ := h
  refine ⟨h1, h2, fun i hi => ?_⟩
  have h4 := h3 i hi
  by_cases e : i = k
  · subst e
    rw [h4, if_neg hS]
    simp [hc]
  · rw [h4]
    have e2 : ¬ (i : Int) = (k : Int) := by omega
    simp [e2]
theorem HalfC.done {S : List Int} {bs : List Blk} (h : HalfC D keep torn n S bs) (hS : ∀ k : Int, (bGet D.dm k).isSome = true → k ∈ S) : bs = (List.range D.sure.length).map (crashB D keep torn n) := by
  obtain ⟨h1, h2, h3⟩ := h
  refine List.ext_getElem (by simp [h1]) fun i hi hi2 => ?_
  have hi3 : i < D.sure.length := by omega
  have h4 := h3 i hi3
  rw [List.getD_eq_getElem?_getD, List.getElem?_eq_getElem hi, Option.getD_some] at h4
  rw [h4, List.getElem_map, List.getElem_range]
  split
  · rfl
  · rename_i hnn
    unfold crashB
    cases hg : bGet D.dm i with
    | none => rfl
    | some b => exact (hnn (hS i (by rw [hg]; rfl))).elim
end
end Se
end Go.Proofs.Yteiniahikhiadaa
