/-
  items: the walks of Of and Total.
-/
import Derived.Test.YtlhpdalfnjhokaaItD
namespace Go.Proofs.Ytlhpdalfnjhokaa
open Go.RowKit
namespace It
attribute [local go_sem] Oper.semAt_some

def ofStep (good : ByteArray) (s : Int) (x : Item) : Int := if x.1.toList == good.toList then wrap64 (s + x.2) else s
/-- how many of a good, as Go's ints add up -/
def ofSum (good : ByteArray) (l : List Item) : Int := l.foldl (ofStep good) 0
theorem ofSum_snoc (good : ByteArray) (l : List Item) (x : Item) : ofSum good (l ++ [x]) = ofStep good (ofSum good l) x := by simp [ofSum]
def totStep (s : Int) (x : Item) : Int := wrap64 (s + x.2)
def totSum (l : List Item) : Int := l.foldl totStep 0
theorem totSum_snoc (l : List Item) (x : Item) : totSum (l ++ [x]) = totStep (totSum l) x := by simp [totSum]
theorem wrap64_bounds (n : Int) : -9223372036854775808 ≤ wrap64 n ∧ wrap64 n ≤ 9223372036854775807 := by unfold wrap64; omega

theorem vals_in {L : List Item} {pre : List (Of L)} : ∀ x ∈ vals pre, x ∈ L := by
  intro x hx
  obtain ⟨y, _, rfl⟩ := List.mem_map.1 hx
  exact y.2

end It
end Go.Proofs.Ytlhpdalfnjhokaa
