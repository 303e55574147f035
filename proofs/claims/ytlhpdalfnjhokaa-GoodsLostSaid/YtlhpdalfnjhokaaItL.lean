/-
  items: the walk of Norm.
-/
import Derived.Test.YtlhpdalfnjhokaaItJ
import Derived.Test.YtlhpdalfnjhokaaItK
import Derived.Test.YtlhpdalfnjhokaaKeys
namespace Go.Proofs.Ytlhpdalfnjhokaa
open Go.RowKit Go.Maps Go.Sort
namespace It

theorem mem_keys {m : List (Bs × Value)} {k : Bs} : k ∈ m.map (·.1) ↔ (mGet m k).isSome = true := by
  unfold mGet
  rw [Option.isSome_map, List.find?_isSome, List.mem_map]
  simp
theorem keys_eq {m : List (Bs × Value)} {ss : List Bs} {L : List Item} (hT : Tells m L) (hs : m.Pairwise (fun p q => strK.lt p.1 q.1 = true)) (hp : ss.Perm (m.map (·.1))) :
    ss.mergeSort (fun x y => decide (x ≤ y)) = ksOf (L.map key) := by
  have hpm := (List.mergeSort_perm ss (fun x y => decide (x ≤ y))).trans hp
  refine uniq bs_irr bs_asy ?_ (ksOf_sorted _) fun x => ?_
  · have h1 : (ss.mergeSort (fun x y => decide (x ≤ y))).Pairwise (fun a b => decide (a ≤ b) = true) :=
      List.pairwise_mergeSort (fun a b c h1 h2 => by simp only [decide_eq_true_eq] at *; exact List.le_trans h1 h2) (fun a b => by simp only [Bool.or_eq_true, decide_eq_true_eq]; exact List.le_total a b) ss
    have h2 : (ss.mergeSort (fun x y => decide (x ≤ y))).Nodup := by
      rw [hpm.nodup_iff, List.nodup_iff_pairwise_ne, List.pairwise_map]
      refine hs.imp_of_mem fun {p q} _ _ h e => ?_
      rw [e] at h
      rw [show strK.lt q.1 q.1 = bytesBefore q.1 q.1 from rfl, WideAt.bytes_irrefl] at h
      cases h
    refine (h1.and (List.nodup_iff_pairwise_ne.1 h2)).imp_of_mem fun {a b} _ _ h => ?_
    simp only [decide_eq_true_eq] at h
    rcases bs_tri a b with h3 | h3 | h3
    · exact h3
    · exact absurd h3 h.2
    · exact absurd h3 (List.not_lt.2 h.1)
  · rw [hpm.mem_iff, mem_keys, hT x, ksOf_mem]
    by_cases hx : x ∈ L.map key <;> simp [hx]
theorem strKeys_mEs (m : List (Bs × Value)) : strKeys (DataW.map (mEs strK m)) = m.map (·.1) := by
  simp [strKeys, mEs, Function.comp_def, strOf, strK]
theorem normL_len (L : List Item) : (normL L).length ≤ (ksOf (L.map key)).length := List.length_filterMap_le _ _
def outTo (L : List Item) (k : Nat) : List Item := ((ksOf (L.map key)).take k).filterMap (pick L)
theorem outTo_len (L : List Item) (k : Nat) : (outTo L k).length ≤ k := Nat.le_trans (List.length_filterMap_le _ _) (by rw [List.length_take]; omega)
theorem outTo_succ (L : List Item) (k : Nat) (h : k < (ksOf (L.map key)).length) : outTo L (k + 1) = outTo L k ++ (if 0 < tot ((ksOf (L.map key)).getD k []) L then [(⟨((ksOf (L.map key)).getD k []).toArray⟩, tot ((ksOf (L.map key)).getD k []) L)] else []) := by
  have hg : (ksOf (L.map key)).getD k [] = (ksOf (L.map key))[k] := by simp [h]
  unfold outTo
  rw [List.take_add_one, List.getElem?_eq_getElem h, List.filterMap_append, hg]
  congr 1
  simp only [Option.toList_some, List.filterMap_cons, List.filterMap_nil, pick]
  split <;> simp_all
theorem outTo_all (L : List Item) : outTo L (ksOf (L.map key)).length = normL L := by unfold outTo normL; rw [List.take_length]

end It
end Go.Proofs.Ytlhpdalfnjhokaa
