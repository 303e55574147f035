/-
  items: the walks of each, Meet and Rest.
-/
import Derived.Test.YtlhpdalfnjhokaaItE
import Derived.Test.YtlhpdalfnjhokaaPure
namespace Go.Proofs.Ytlhpdalfnjhokaa
open Go.RowKit
namespace It
attribute [local go_sem] Oper.semAt_some

/-- what is made of each item and how many another list has, where it is above 0 -/
def eachL (f : Int → Int → Int) (a b : List Item) : List Item := a.filterMap fun x => if 0 < f x.2 (ofSum x.1 b) then some (x.1, f x.2 (ofSum x.1 b)) else none
theorem eachL_snoc (f : Int → Int → Int) (a b : List Item) (x : Item) : eachL f (a ++ [x]) b = eachL f a b ++ (if 0 < f x.2 (ofSum x.1 b) then [(x.1, f x.2 (ofSum x.1 b))] else []) := by
  unfold eachL
  rw [List.filterMap_append]
  congr 1
  simp only [List.filterMap_cons, List.filterMap_nil]
  split <;> simp_all
theorem eachL_len (f : Int → Int → Int) (a b : List Item) : (eachL f a b).length ≤ a.length := List.length_filterMap_le _ _
def meetF (a b : Int) : Int := min a b
def restF (a b : Int) : Int := wrap64 (a - b)
def both (f : Int → Int → Int) (a b : List Item) : List Item := if may a && may b then eachL f a b else []

/-- an item's type's row -/
theorem item_info : (Try.prog.info? 64).map (fun i => (i.zero, i.size, i.bytes)) = some (some (.agg #[.string ⟨#[]⟩, .int .i64 0]), 2, 24) := by kernel_rfl

theorem row_below {A B : World} {lo : Nat} {e : TypeId} {size n : Nat} {v : Value} {xs : List Value} (h : A.ownsRow lo e size v n xs) (hb : Below A.heap.size A B) : B.ownsRow lo e size v n xs := by
  refine ⟨h.1, h.2.elim Or.inl fun hx => .inr ?_⟩
  revert hx
  rintro ⟨g, cap, cur, rfl, hbg, hg, hnc⟩
  exact ⟨g, cap, cur, rfl, hbg, (hb.block g (Array.getElem?_eq_some_iff.1 hg).1).trans hg, hnc⟩

end It
end Go.Proofs.Ytlhpdalfnjhokaa
