/-
  a row of items of the call's own, read as a list in memory.
-/
import Derived.Test.YtlhpdalfnjhokaaItB
namespace Go.Proofs.Ytlhpdalfnjhokaa
open Go.RowKit
namespace It
theorem toAt {w : World} {lo : Nat} {v : Value} {l : List Item} (h : w.ownsRow lo 64 2 v l.length (itemCells l)) : ItemsAt w 0 w.heap.size v l := (ItemsAt.of_own h).wide (Nat.zero_le _) (Nat.le_refl _)
theorem same_true {l : List Item} : decide (l = l) = true := by simp
end It
end Go.Proofs.Ytlhpdalfnjhokaa
