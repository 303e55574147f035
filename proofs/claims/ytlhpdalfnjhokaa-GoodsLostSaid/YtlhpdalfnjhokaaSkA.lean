/-
  a stock of goods in plain words.
-/
import Derived.Test.YtlhpdalfnjhokaaAl
import Derived.Test.YtlhpdalfnjhokaaItD
import Derived.Test.YtlhpdalfnjhokaaItO
namespace Go.Proofs.Ytlhpdalfnjhokaa
open Go.RowKit Go.Maps
namespace Sk
open It Al

abbrev Key := List UInt8
/-- free, held, picked, aside; received, returned, counted, came, shipped, scrapped, sent -/
abbrev Row := List Int
def row0 : Row := List.replicate 11 0
def at_ (r : Row) (j : Nat) : Int := r.getD j 0
def addR (r : Row) (j : Option Nat) (n : Int) : Row := match j with
  | none => r
  | some j => r.set j (wrap64 (at_ r j + n))
/-- where a kind takes from, where it goes, which flow it is -/
def road (k : Int) : Option Nat × Option Nat × Option Nat :=
  if k = 1 then (none, some 0, some 4) else if k = 2 then (some 0, some 1, none) else if k = 3 then (some 1, some 0, none) else if k = 4 then (some 1, some 2, none) else if k = 5 then (some 2, some 1, none)
  else if k = 6 then (some 2, none, some 8) else if k = 7 then (none, some 3, some 5) else if k = 8 then (some 3, some 0, none) else if k = 9 then (some 3, none, some 9) else if k = 10 then (some 0, none, some 10) else if k = 11 then (none, some 0, some 7) else (none, none, none)
def stepR (k : Int) (r : Row) (n : Int) : Row := addR (addR (addR r (road k).1 (-n)) (road k).2.1 n) (road k).2.2 n
def flowOk (n : Int) : Bool := decide (0 ≤ n) && decide (n ≤ 72057594037927936)
def okAt (j : Nat) (x : Int) : Bool := if j < 4 then countOk x else if j = 6 then true else flowOk x
def eachR (r : Row) : Bool := (List.range 11).all fun j => okAt j (at_ r j)
def rightR (r : Row) : Bool := eachR r && countOk (at_ r 0 + at_ r 1 + at_ r 2 + at_ r 3)
structure OkRow (r : Row) : Prop where
  len : r.length = 11
  bd : ∀ x ∈ r, -9223372036854775808 ≤ x ∧ x ≤ 9223372036854775807
abbrev Stk := List (Key × Row)
def rowC (r : Row) : Array Value := (r.map (Value.int .i64)).toArray
def rowV (r : Row) : Value := .agg (rowC r)
theorem rowC_get {r : Row} {j : Nat} (h : j < r.length) : (rowC r)[j]? = some (.int .i64 (at_ r j)) := by
  unfold rowC at_
  rw [List.getElem?_toArray, List.getElem?_map, List.getElem?_eq_getElem h, List.getD_eq_getElem?_getD, List.getElem?_eq_getElem h]
  rfl
theorem rowC_set (r : Row) (j : Nat) (x : Int) : (rowC r).setIfInBounds j (.int .i64 x) = rowC (r.set j x) := by
  unfold rowC
  rw [List.setIfInBounds_toArray, List.map_set]
theorem OkRow.zero : OkRow row0 := ⟨by simp [row0], fun x hx => by rw [List.eq_of_mem_replicate hx]; omega⟩
theorem OkRow.at_ {r : Row} (h : OkRow r) (j : Nat) : -9223372036854775808 ≤ at_ r j ∧ at_ r j ≤ 9223372036854775807 := by
  unfold Sk.at_
  rw [List.getD_eq_getElem?_getD]
  by_cases hj : j < r.length
  · rw [List.getElem?_eq_getElem hj]
    exact h.bd _ (List.getElem_mem hj)
  · rw [List.getElem?_eq_none (by omega)]
    simp
theorem wrap_bd (x : Int) : -9223372036854775808 ≤ wrap64 x ∧ wrap64 x ≤ 9223372036854775807 := by unfold wrap64; omega
theorem OkRow.set {r : Row} (h : OkRow r) (j : Nat) (x : Int) : OkRow (r.set j (wrap64 x)) := by
  refine ⟨by rw [List.length_set]; exact h.len, fun y hy => ?_⟩
  rcases List.mem_or_eq_of_mem_set hy with h1 | h1
  · exact h.bd y h1
  · rw [h1]; exact wrap_bd x
theorem OkRow.add {r : Row} (h : OkRow r) (j : Option Nat) (n : Int) : OkRow (addR r j n) := by
  cases j with
  | none => exact h
  | some j => exact h.set j _
theorem OkRow.step {r : Row} (h : OkRow r) (k n : Int) : OkRow (stepR k r n) := ((h.add _ _).add _ _).add _ _
theorem eachR_all {r : Row} (h : ∀ j, j < 11 → okAt j (at_ r j) = true) : eachR r = true := List.all_eq_true.2 fun j hj => h j (List.mem_range.1 hj)
theorem eachR_no {r : Row} {j : Nat} (hj : j < 11) (h : okAt j (at_ r j) = false) : eachR r = false := by
  unfold eachR
  rw [List.all_eq_false]
  exact ⟨j, List.mem_range.2 hj, by simp [h]⟩
theorem eachR_at {r : Row} (h : eachR r = true) {j : Nat} (hj : j < 11) : okAt j (at_ r j) = true := List.all_eq_true.1 h j (List.mem_range.2 hj)
theorem eachR_four {r : Row} (h : eachR r = true) {j : Nat} (hj : j < 4) : 0 ≤ at_ r j ∧ at_ r j ≤ 1099511627776 := by
  have := eachR_at h (show j < 11 by omega)
  unfold okAt countOk at this
  rw [if_pos hj] at this
  simpa using this
end Sk
end Go.Proofs.Ytlhpdalfnjhokaa
