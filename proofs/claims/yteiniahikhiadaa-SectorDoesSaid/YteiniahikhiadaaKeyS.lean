/-
  slices.Sorted(maps.Keys(m)): the keys of a map with int keys (map[int][64]uint8), sorted, by the library's contracts.
-/
import Derived.Test.YteiniahikhiadaaLayed
import Derived.Test.YteiniahikhiadaaMaps
import Derived.Shelf.SlIterI.Nil
import Derived.Shelf.SortM.Plain
import Derived.Shelf.SortM.SortNone
namespace Go.Proofs.Yteiniahikhiadaa
open Go.RowKit Go.Maps Go.Sort Go.Shelf
namespace KsS

theorem sorts (m : Nat) : AnyZI.SortsIn Try.prog Try.sorted73_ren Fence.wide m :=
  ⟨fun blk off cap ss W hH hblk hsz => callsIn_wide.2 (AnyM.slices_Sort_int Try.sort93 blk off cap ss W hH hblk hsz),
   fun p cap W => callsIn_wide.2 (AnyM.slices_Sort_int_none Try.sort93 p cap W)⟩
theorem keys_calls (mb : Option Nat) (W : World) : CallsIn Fence.wide 5 Try.prog 74 #[.map mb] W fun e w' => e = .returned (.func (.func 94) #[] #[.pointer (some ⟨W.heap.size, 0, none⟩)]) ∧ w' = W.alloc (.cells #[.map mb] 79) :=
  AnyZI.keys_in Try.keys74 Fence.wide 5 trivial rfl mb W
theorem intKeys_mEs (m : List (Int × Value)) : intKeys (DataW.map (mEs intK m)) = m.map (·.1) := by
  simp [intKeys, mEs, Function.comp_def, intK]
  exact fun _ _ _ => rfl

set_option maxHeartbeats 1000000 in
theorem sorted_calls (b : Nat) (m : List (Int × Value)) (w : World) (hown : GMap intK w Try.prog 3 b m) (KK : Keyed Try.prog 3) (hmax : m.length ≤ 1099511627776) :
    CallsIn Fence.wide 5 Try.prog 73 #[.func (.func 94) #[] #[.pointer (some ⟨w.heap.size, 0, none⟩)]] (w.alloc (.cells #[.map (some b)] 79)) fun e w' => ∃ v : Value, e = .returned v ∧
      w'.ownsRow (w.alloc (.cells #[.map (some b)] 79)).heap.size 3 1 v (m.map (·.1)).length (ints (m.map (·.1))) ∧ Below (w.alloc (.cells #[.map (some b)] 79)).heap.size (w.alloc (.cells #[.map (some b)] 79)) w' := by
  have hsort := hown.sorted KK
  have hbl := hown.lt
  have hsz : Maps.size (DataW.map (mEs intK m)) = m.length := by simp [Maps.size, mEs]
  have hseq : SeqGives Fence.wide 2 Try.prog 94 #[.pointer (some ⟨w.heap.size, 0, none⟩)] encZ (fun ss => ss.Perm (intKeys (DataW.map (mEs intK m)))) (Maps.size (DataW.map (mEs intK m))) (w.alloc (.cells #[.map (some b)] 79)) :=
    AnyZI.keys_gives (ρ := Try.keys74_ren) { Try.keys74 with } Fence.wide _ trivial rfl (by omega) w.heap.size b m.length (DataW.map (mEs intK m)) _ (by simp) (by simp) (by
      obtain ⟨es, clock, hb, Ft, hs, hD⟩ := hown
      exact ⟨es, clock, (Below.heap_alloc _ _ b hbl).trans hb, Ft, hs, hD⟩)
  have h := AnyZI.sorted_in Try.sorted73 Fence.wide 5 trivial trivial trivial trivial rfl (by omega) (sorts _) (enters_of Try.func93 (by kernel_rfl) rfl) 94 #[.pointer (some ⟨w.heap.size, 0, none⟩)] trivial (enters_of Try.func94 (by kernel_rfl) rfl) _ _ (by rw [hsz]; unfold maxLen; omega) (by rw [hsz]; omega) _ hseq
  refine h.mono ?_
  rintro e w' ⟨v, ss, rfl, hp, hrow, _, hb⟩
  rw [intKeys_mEs] at hp
  have hlt : (m.map (·.1)).Pairwise (· < ·) := by
    rw [List.pairwise_map]
    exact hsort.imp (fun {p q} h => by simpa [intK] using h)
  have he : ss.mergeSort (fun x y => decide (x ≤ y)) = m.map (·.1) := by
    refine ((List.mergeSort_perm ss _).trans hp).eq_of_pairwise (le := fun a b : Int => a ≤ b) (fun a b _ _ h1 h2 => Int.le_antisymm h1 h2) ?_ (hlt.imp (fun h => Int.le_of_lt h))
    have := List.pairwise_mergeSort (le := fun x y : Int => decide (x ≤ y)) (fun a b c h1 h2 => by simp only [decide_eq_true_eq] at *; omega) (fun a b => by simp only [Bool.or_eq_true, decide_eq_true_eq]; omega) ss
    exact this.imp (fun h => by simpa using h)
  have hl : ss.length = (m.map (·.1)).length := hp.length_eq
  rw [he, hl] at hrow
  exact ⟨v, rfl, hrow, hb⟩
end KsS
end Go.Proofs.Yteiniahikhiadaa
