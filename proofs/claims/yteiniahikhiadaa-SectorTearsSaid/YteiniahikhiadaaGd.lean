/-
  An operation of a drawn region that is guarded, and wanted: walked as if it had no guard.
-/
import Derived.Test.YteiniahikhiadaaPm
namespace Go.Proofs.Yteiniahikhiadaa
open Go.RowKit
namespace Pu
theorem wpList_wanted {P : Program} {ops : Array Oper} {Q : Exit → Act → World → Prop} {o : Oper} {a : Act} {w : World} (hw : asks ops.toList o a.tmps.toList = true) (h : wpList P ops Q [{ o with guard := none }] a w) : wpList P ops Q [o] a w := by
  have hw' : Region.wanted o (yielded ops a.tmps) = true := (asks_eq _ _ _).trans hw
  have h0 : Region.wanted { o with guard := none } (yielded ops a.tmps) = true := by simp [Region.wanted]
  unfold wpList at h ⊢
  rw [hw']
  rw [h0] at h
  exact h
end Pu
end Go.Proofs.Yteiniahikhiadaa
