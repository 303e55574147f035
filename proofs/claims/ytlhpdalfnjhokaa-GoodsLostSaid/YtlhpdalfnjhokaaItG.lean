/-
  items: Meet, Rest, Covers, Minus.
-/
import Derived.Test.YtlhpdalfnjhokaaItF
namespace Go.Proofs.Ytlhpdalfnjhokaa
open Go.RowKit
namespace It

theorem ownsRow_wide {w : World} {lo lo' : Nat} {e : TypeId} {size n : Nat} {v : Value} {xs : List Value} (h : w.ownsRow lo e size v n xs) (hl : lo' ≤ lo) : w.ownsRow lo' e size v n xs := by
  refine ⟨h.1, h.2.elim Or.inl fun hx => .inr ?_⟩
  revert hx
  rintro ⟨g, cap, cur, rfl, hbg, hg⟩
  exact ⟨g, cap, cur, rfl, Nat.le_trans hl hbg, hg⟩

/-- a has at least what b has -/
def covers (a b : List Item) : Bool := may a && may b && ((both restF b a).length == 0)

/-- the rest, and why not -/
def minusOf (a b : List Item) : List Item × Int := if may a && may b then if covers a b then (both restF a b, 0) else ([], 51) else ([], 60)

end It
end Go.Proofs.Ytlhpdalfnjhokaa
