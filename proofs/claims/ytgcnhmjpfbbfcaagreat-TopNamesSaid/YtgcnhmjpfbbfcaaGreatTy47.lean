/-
  TopNames returns true for every input (no condition), and what was there reads as it did.
-/
import Derived.Test.YtgcnhmjpfbbfcaaGreatTy42
import Derived.Test.YtgcnhmjpfbbfcaaGreatTy44
import Derived.Test.YtgcnhmjpfbbfcaaGreatTy45
import Derived.Test.YtgcnhmjpfbbfcaaGreatTy46
set_option linter.unusedVariables false
set_option linter.unusedSimpArgs false
set_option maxRecDepth 100000
set_option maxHeartbeats 8000000
namespace Go.Proofs.YtgcnhmjpfbbfcaaGreat
namespace Tp
section
open Go.ChangeShapes Go.WideShapes Go.ChangeAt Go.RowKit
theorem top_facts : joinedFacts Tryz.pinned.checked.prog 3 Tryz.f3 Rows.topNamesSpec Rows.topNamesRow = true := by
 unfold joinedFacts; have k2 : laidOutB Tryz.pinned.checked.prog = true := laidOut; simp only [Jf.k1, k2, Jf.k3, Jf.k4, Jf.k5, Jf.k6, Jf.k7, Jf.k8, Jf.k9, Jf.k10, Jf.k11, Jf.k12, Jf.k13, Jf.k14, Jf.k15, Jf.k16, Jf.k17, Jf.k18, Jf.k19, Jf.k20, Jf.k21, Jf.k22, Jf.k23, Jf.k24, Jf.k25, Jf.k26, Jf.k27, Jf.k28, Jf.k30, Jf.k31, Jf.k32, Bool.and_true, Bool.true_and]
 first | decide | rfl
theorem topNames_lifted (os : Os) (started : os.Started) (H : Type) (enc : TypeId × Value → H) :
   ReturnsInHanded {} Tryz.checked os 3 .any (Rows.topNamesSpec.pre6 enc Tryz.prog Tryz.f3 Rows.topNamesRow.domain false) (Rows.topNamesSpec.post enc Tryz.prog Tryz.f3 false true false false) := by
 refine returnsInHanded_of_change (C := Tryz.checked) own started (by kernel_rfl) Tryz.func3
   (ChangeSpec.witness6 (enc := enc) (C := Tryz.checked) false ⟨#[], #[], []⟩ 8 (by kernel_rfl) (by kernel_rfl) (by kernel_rfl) (by kernel_rfl)) ?_
 intro W base args ds gs before hval0 hW _ _; obtain ⟨p, q, hA0, hV, hps, hfz, hnd⟩ := id hW; have hA : DataW.TrodAll enc Tryz.prog W 0 (fun _ => true) true Tryz.f3.params.toList args.toList ds p := hA0; rw [Tryz.params3] at hA; obtain ⟨hargs, rfl, rfl⟩ := trodAll_nil hA; obtain rfl : args = #[] := by cases args; simp_all
 obtain ⟨rfl, rfl⟩ := trodVars_none hV; refine (top_law W).mono fun e W' ⟨he, hb⟩ => ?_
 subst he; exact ⟨_, rfl, law_post laidOut (by kernel_rfl) rfl Tryz.underlying4 rfl hW rfl hb⟩
theorem topNames_holds : Rows.TopNamesSaid :=
 OpenClaim.holds_of_wide 3 Tryz.f3 rfl rfl rfl rfl rfl rfl rfl ⟨rfl, rfl, rfl, rfl, rfl⟩ rfl rfl rfl rfl rfl (by kernel_rfl) Tryz.func3 top_facts
   (of_decide_eq_true (by kernel_rfl)) (by unfold Func.isWrapper; first | (rw [if_pos (by decide +kernel)]; kernel_rfl) | (rw [if_neg (by decide +kernel)]; exact ⟨rfl, rfl⟩))
   (fun os started H enc _ => topNames_lifted os started H enc)
end
end Tp
end Go.Proofs.YtgcnhmjpfbbfcaaGreat
