/-
  slices.Sorted(maps.Keys(m)): the keys of a map with string keys (map[string]bool), sorted, by the library's contracts.
-/
import Derived.Test.YtlhpdalfnjhokaaLayed
import Derived.Test.YtlhpdalfnjhokaaMaps
import Derived.Shelf.SlIter.Nil
import Derived.Shelf.SortM.Plain
import Derived.Shelf.SortM.SortNone
namespace Go.Proofs.Ytlhpdalfnjhokaa
open Go.RowKit Go.Maps Go.Sort Go.Shelf
namespace KsU

theorem sorts (m : Nat) : AnyZ.SortsIn Try.prog Try.sorted27_ren Fence.wide m :=
  ⟨fun blk off cap ss W hH hblk hsz => callsIn_wide.2 (AnyM.slices_Sort_string Try.sort48 blk off cap ss W hH hblk hsz),
   fun p cap W => callsIn_wide.2 (AnyM.slices_Sort_string_none Try.sort48 p cap W)⟩

/-- maps.Keys: a function value over one new block that holds the map -/
theorem keys_calls (mb : Option Nat) (W : World) : CallsIn Fence.wide 5 Try.prog 28 #[.map mb] W fun e w' => e = .returned (.func (.func 49) #[] #[.pointer (some ⟨W.heap.size, 0, none⟩)]) ∧ w' = W.alloc (.cells #[.map mb] 66) :=
  AnyZ.keys_in Try.keys28 Fence.wide 5 trivial rfl mb W

set_option maxHeartbeats 1000000 in
/-- slices.Sorted at what maps.Keys handed back: a new slice that holds the keys, sorted -/
theorem sorted_raw {H : Type} (b nn : Nat) (D0 : DataW H) (R : Value → Option (DataW H × List MemPlace)) (w : World) (hown : w.ownsMap Try.prog 9 R b nn D0) (hmax : Maps.size D0 ≤ maxLen) (hbytes : Maps.size D0 * 16 ≤ 140737488355328) :
    CallsIn Fence.wide 5 Try.prog 27 #[.func (.func 49) #[] #[.pointer (some ⟨w.heap.size, 0, none⟩)]] (w.alloc (.cells #[.map (some b)] 66)) fun e w' => ∃ (v : Value) (ss : List (List UInt8)), e = .returned v ∧ ss.Perm (strKeys D0) ∧
      w'.ownsRow (w.alloc (.cells #[.map (some b)] 66)).heap.size 9 1 v ss.length ((ss.mergeSort (fun x y => decide (x ≤ y))).map encStr) ∧ (v = .slice none 0 0 ↔ ss = []) ∧ Below (w.alloc (.cells #[.map (some b)] 66)).heap.size (w.alloc (.cells #[.map (some b)] 66)) w' := by
  have hbl := hown.lt
  have hseq : SeqGives Fence.wide 2 Try.prog 49 #[.pointer (some ⟨w.heap.size, 0, none⟩)] encStr (fun ss => ss.Perm (strKeys D0)) (Maps.size D0) (w.alloc (.cells #[.map (some b)] 66)) :=
    AnyZ.keys_gives (ρ := Try.keys28_ren) { Try.keys28 with } Fence.wide _ trivial rfl (by omega) w.heap.size b nn D0 _ (by simp) (by simp) (by
      obtain ⟨es, clock, hb, Ft, hs, hD⟩ := hown
      exact ⟨es, clock, (Below.heap_alloc _ _ b hbl).trans hb, Ft, hs, hD⟩)
  exact AnyZ.sorted_in Try.sorted27 Fence.wide 5 trivial trivial trivial trivial rfl (by omega) (sorts _) (enters_of Try.func48 (by kernel_rfl) rfl) 49 #[.pointer (some ⟨w.heap.size, 0, none⟩)] trivial (enters_of Try.func49 (by kernel_rfl) rfl) _ _ hmax hbytes _ hseq
theorem bb_lt : ∀ a b : List UInt8, bytesBefore a b = true → a < b
  | [], [], h => by cases h
  | [], _ :: _, _ => List.nil_lt_cons _ _
  | _ :: _, [], h => by cases h
  | a :: r, b :: s, h => by
    unfold bytesBefore at h
    rw [List.cons_lt_cons_iff]
    simp only [Bool.or_eq_true, decide_eq_true_eq, Bool.and_eq_true, beq_iff_eq] at h
    rcases h with h | ⟨h, h2⟩
    · exact .inl h
    · exact .inr ⟨h, bb_lt r s h2⟩
theorem strKeys_mEs (m : List (List UInt8 × Value)) : strKeys (DataW.map (mEs strK m)) = m.map (·.1) := by
  simp [strKeys, mEs, Function.comp_def, strOf, strK]
set_option maxHeartbeats 1000000 in
theorem sorted_calls (b : Nat) (m : List (List UInt8 × Value)) (w : World) (hown : GMap strK w Try.prog 9 b m) (KK : Keyed Try.prog 9) (hmax : m.length ≤ 1099511627776) :
    CallsIn Fence.wide 5 Try.prog 27 #[.func (.func 49) #[] #[.pointer (some ⟨w.heap.size, 0, none⟩)]] (w.alloc (.cells #[.map (some b)] 66)) fun e w' => ∃ v : Value, e = .returned v ∧
      w'.ownsRow (w.alloc (.cells #[.map (some b)] 66)).heap.size 9 1 v (m.map (·.1)).length ((m.map (·.1)).map encStr) ∧ Below (w.alloc (.cells #[.map (some b)] 66)).heap.size (w.alloc (.cells #[.map (some b)] 66)) w' := by
  have hsort := hown.sorted KK
  have hsz : Maps.size (DataW.map (mEs strK m)) = m.length := by simp [Maps.size, mEs]
  refine (sorted_raw b m.length (.map (mEs strK m)) hold w hown (by rw [hsz]; unfold maxLen; omega) (by rw [hsz]; omega)).mono ?_
  rintro e w' ⟨v, ss, rfl, hp, hrow, -, hb⟩
  rw [strKeys_mEs] at hp
  have hlt : (m.map (·.1)).Pairwise (· < ·) := by
    rw [List.pairwise_map]
    exact hsort.imp (fun {p q} h => bb_lt _ _ h)
  have he : ss.mergeSort (fun x y => decide (x ≤ y)) = m.map (·.1) := by
    refine ((List.mergeSort_perm ss _).trans hp).eq_of_pairwise (le := fun a b : List UInt8 => a ≤ b) (fun a b _ _ h1 h2 => List.le_antisymm h1 h2) ?_ (hlt.imp (fun h => List.le_of_lt h))
    have := List.pairwise_mergeSort (le := fun x y : List UInt8 => decide (x ≤ y)) (fun a b c h1 h2 => by simp only [decide_eq_true_eq] at *; exact List.le_trans h1 h2) (fun a b => by simp only [Bool.or_eq_true, decide_eq_true_eq]; exact List.le_total a b) ss
    exact this.imp (fun h => by simpa using h)
  have hl : ss.length = (m.map (·.1)).length := hp.length_eq
  rw [he, hl] at hrow
  exact ⟨v, rfl, hrow, hb⟩
end KsU
end Go.Proofs.Ytlhpdalfnjhokaa
