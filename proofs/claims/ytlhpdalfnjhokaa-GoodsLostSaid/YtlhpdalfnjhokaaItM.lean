/-
  items: the walk of Plus.
-/
import Derived.Test.YtlhpdalfnjhokaaCatI
namespace Go.Proofs.Ytlhpdalfnjhokaa
open Go.RowKit Go.Maps
namespace It

def plusOf (a b : List Item) : List Item × Int := if may a && may b then normRes (a ++ b) else ([], 60)
theorem may_len {l : List Item} (h : may l = true) : l.length ≤ 16 := by
  unfold may at h
  rw [Bool.and_eq_true, decide_eq_true_iff] at h
  exact h.2
theorem Fits.append {a b : List Item} (ha : Fits a) (hb : Fits b) : Fits (a ++ b) := fun x hx => (List.mem_append.1 hx).elim (ha x) (hb x)

end It
end Go.Proofs.Ytlhpdalfnjhokaa
