/-
  count.Add.
-/
import Derived.Test.YtlhpdalfnjhokaaItG
namespace Go.Proofs.Ytlhpdalfnjhokaa
open Go.RowKit
namespace It

def okTo (l : List Int) (k : Nat) : Prop := ∀ j, j < k → countOk (l.getD j 0) = true
theorem allTo_snoc {l : List Int} {k : Nat} (h : okTo l k) (h1 : countOk (l.getD k 0) = true) : okTo l (k + 1) := by
  intro j hj
  rcases Nat.lt_or_ge j k with h2 | h2
  · exact h j h2
  · have : j = k := by omega
    subst this
    exact h1

theorem countOk_iff (n : Int) : countOk n = true ↔ 0 ≤ n ∧ n ≤ 1099511627776 := by unfold countOk; simp

/-- the sum, and why not -/
def addOf (a b : Int) : Int × Int := if countOk a && countOk b then if a + b ≤ 1099511627776 then (a + b, 0) else (0, 50) else (0, 1)

end It
end Go.Proofs.Ytlhpdalfnjhokaa
