/-
  sector: Flush.
-/
import Derived.Test.YteiniahikhiadaaSeJ
namespace Go.Proofs.Yteiniahikhiadaa
open Go.RowKit Go.Maps
namespace Se
open Ce

section
variable {w w' : World} {base d sb mb : Nat} {D D' : Dv}
theorem flush_off (h : DvAt w base d sb mb D) (ho : offD D = true) :
    Calls Try.prog 40 #[.pointer (some ⟨d, 0, none⟩)] w fun e w' => e = .returned (.int .i64 30) ∧ w = w' := by
  obtain ⟨y0, y1, -⟩ := Ob.dev h.ob
  have cM := Lib.hid (made_calls d mb w y1)
  have CS := Lib.hid (spend_off h ho)
  clear h ho y0 y1
  go_enter Try.func40, Try.ntmps40
  go_wp2_with fail
  refine cM.out.mono ?_
  rintro e W ⟨rfl, rfl⟩
  go_wp2_with fail
  refine CS.out.mono ?_
  rintro e W ⟨rfl, rfl⟩
  go_wp2
  go_ret
  exact ⟨rfl, rfl⟩
/-- so many sectors are sure by now -/
def Half (D : Dv) (S : List Int) (bs : List Blk) : Prop := bs.length = D.sure.length ∧ (∀ c ∈ bs, c.length = 64) ∧ ∀ i, i < D.sure.length → bs.getD i [] = if (i : Int) ∈ S then lastD D i else D.sure.getD i []
theorem Half.start (h : OkD D) : Half D [] D.sure := ⟨rfl, h.sure, fun i _ => by simp⟩
theorem Half.step {S : List Int} {bs : List Blk} (h : Half D S bs) (hok : OkD D) {k : Nat} {b : Blk} (hb : bGet D.dm k = some b) (hk : k < D.sure.length) : Half D (S ++ [(k : Int)]) (bs.set k b) := by
  obtain ⟨h1, h2, h3⟩ := h
  have hl := (hok.dm _ (bGet_mem hb)).2.2
  refine ⟨by rw [List.length_set]; exact h1, fun c hc => ?_, fun i hi => ?_⟩
  · rcases List.mem_or_eq_of_mem_set hc with hc | rfl
    · exact h2 c hc
    · exact hl
  · have h4 := h3 i hi
    rw [List.getD_eq_getElem?_getD] at h4 ⊢
    by_cases e : k = i
    · subst e
      rw [List.getElem?_set_self (by omega)]
      have : lastD D k = b := by unfold lastD; rw [hb]; rfl
      simp [this]
    · rw [List.getElem?_set_ne e, h4]
      have e2 : ¬ (i : Int) = (k : Int) := by omega
      simp [e2]
theorem Half.done {S : List Int} {bs : List Blk} (h : Half D S bs) (hS : ∀ k : Int, (bGet D.dm k).isSome = true → k ∈ S) : bs = (List.range D.sure.length).map (lastD D) := by
  obtain ⟨h1, h2, h3⟩ := h
  refine List.ext_getElem (by simp [h1]) fun i hi hi2 => ?_
  have hi3 : i < D.sure.length := by omega
  have h4 := h3 i hi3
  rw [List.getD_eq_getElem?_getD, List.getElem?_eq_getElem hi, Option.getD_some] at h4
  rw [h4, List.getElem_map, List.getElem_range]
  split
  · rfl
  · rename_i hn
    unfold lastD
    cases hg : bGet D.dm i with
    | none => rfl
    | some b => exact (hn (hS i (by rw [hg]; rfl))).elim
end
end Se
end Go.Proofs.Yteiniahikhiadaa
