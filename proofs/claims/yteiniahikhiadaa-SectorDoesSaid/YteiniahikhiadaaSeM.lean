/-
  sectors in memory: ranges of bytes in a block.
-/
import Derived.Test.YteiniahikhiadaaSeB
import Derived.Test.YteiniahikhiadaaMem
import Derived.Deep.MidRow
import Derived.Deep.AppendLies
import Derived.Laws.OwnMore
import Derived.Laws.MakeOwn
namespace Go.Proofs.Yteiniahikhiadaa
open Go.RowKit Go.Maps
namespace Se
open Ce

section
variable {w w' : World} {b b' o n : Nat} {cs : List Value}
theorem cell_of_block (h : w'.heap[b]? = w.heap[b]?) (j : Nat) : w'.cell? ⟨b, j, none⟩ = w.cell? ⟨b, j, none⟩ := by unfold World.cell?; rw [h]
theorem frozen_of_block (h : w'.heap[b]? = w.heap[b]?) (j : Nat) : w'.frozen? ⟨b, j, none⟩ = w.frozen? ⟨b, j, none⟩ := by unfold World.frozen?; rw [h]
theorem range_of_block (h : w'.heap[b]? = w.heap[b]?) (hr : w.rangeAt b o cs) : w'.rangeAt b o cs := fun j v hv => by rw [cell_of_block h]; exact hr j v hv
theorem there_of_block (h : w'.heap[b]? = w.heap[b]?) (hr : w.there b o n) : w'.there b o n := fun j hj => by rw [cell_of_block h, frozen_of_block h]; exact hr j hj
theorem there_part {k m : Nat} (h : w.there b 0 n) (hk : k + m ≤ n) : w.there b k m := fun j hj => by
  have := h (k + j) (by omega)
  simpa using this
theorem grownBy_cells : ∀ (vs : List Value) (w : World) (o : Nat), w.grownBy (w.setCells b o vs) (some b)
  | [], w, _ => ⟨rfl, rfl, rfl, Nat.le_refl _, fun _ _ _ => rfl⟩
  | v :: r, w, o => by
    rw [World.setCells]
    exact (grownBy_set w b o v).andThen (grownBy_cells r _ (o + 1)) (fun j e => .inr e)
theorem size_cells : ∀ (vs : List Value) (w : World) (o : Nat), (w.setCells b o vs).heap.size = w.heap.size
  | [], w, _ => rfl
  | v :: r, w, o => by
    rw [World.setCells, size_cells r]
    simp
end
/-- a device's sure sectors, in block sb -/
structure SureAt (w : World) (sb : Nat) (bs : List Blk) : Prop where
  at_ : ∀ i (h : i < bs.length), w.rangeAt sb (i * 64) (bytesV bs[i])
  there : w.there sb 0 (bs.length * 64)
  lt : sb < w.heap.size
theorem SureAt.kept {w w' : World} {sb : Nat} {bs : List Blk} (h : SureAt w sb bs) (he : w'.heap[sb]? = w.heap[sb]?) (hs : w.heap.size ≤ w'.heap.size) : SureAt w' sb bs :=
  ⟨fun i hi => range_of_block he (h.at_ i hi), there_of_block he h.there, Nat.lt_of_lt_of_le h.lt hs⟩
theorem SureAt.set {w : World} {sb : Nat} {bs : List Blk} (h : SureAt w sb bs) (hbs : ∀ c ∈ bs, c.length = 64) {i : Nat} (hi : i < bs.length) {b : Blk} (hb : b.length = 64) : SureAt (w.setCells sb (i * 64) (bytesV b)) sb (bs.set i b) := by
  have hl : (bytesV b).length = 64 := by rw [bytesV_length]; exact hb
  refine ⟨fun j hj => ?_, by rw [List.length_set]; exact World.there_setCells h.there _ _ _, by rw [size_cells]; exact h.lt⟩
  rw [List.length_set] at hj
  by_cases e : i = j
  · subst e
    rw [List.getElem_set_self]
    exact World.rangeAt_setCells_same _ _ _ _ (there_part h.there (by omega))
  · rw [List.getElem_set_ne e]
    have hl2 : (bytesV bs[j]).length = 64 := by rw [bytesV_length]; exact hbs _ (List.getElem_mem hj)
    exact World.rangeAt_setCells_apart (h.at_ j hj) _ _ _ (.inr (by omega))
/-- some of a sector's first bytes -/
theorem SureAt.part {w : World} {sb : Nat} {bs : List Blk} (h : SureAt w sb bs) (hbs : ∀ c ∈ bs, c.length = 64) {i : Nat} (hi : i < bs.length) {b : Blk} (hb : b.length ≤ 64) : SureAt (w.setCells sb (i * 64) (bytesV b)) sb (bs.set i (b ++ (bs.getD i []).drop b.length)) := by
  have hl : (bytesV b).length = b.length := bytesV_length b
  have h64 := hbs _ (List.getElem_mem hi)
  have eg : bs.getD i [] = bs[i] := by rw [List.getD_eq_getElem?_getD, List.getElem?_eq_getElem hi]; rfl
  refine ⟨fun j hj => ?_, by rw [List.length_set]; exact World.there_setCells h.there _ _ _, by rw [size_cells]; exact h.lt⟩
  rw [List.length_set] at hj
  by_cases e : i = j
  · subst e
    rw [List.getElem_set_self, eg]
    intro k v hv
    rw [bytesV_append] at hv
    by_cases hk : k < b.length
    · rw [List.getElem?_append_left (by omega)] at hv
      exact World.rangeAt_setCells_same _ _ _ _ (there_part h.there (by omega)) k v hv
    · rw [List.getElem?_append_right (by omega), hl] at hv
      have h2 : (bytesV bs[i])[k]? = some v := by
        unfold bytesV at hv ⊢
        rw [List.map_drop, List.getElem?_drop] at hv
        rwa [show b.length + (k - b.length) = k by omega] at hv
      rw [World.cell?_setCells_out sb _ _ w ⟨sb, i * 64 + k, none⟩ (fun _ _ => .inr (by rw [hl]; show i * 64 + b.length ≤ i * 64 + k; omega))]
      exact h.at_ i hi k v h2
  · rw [List.getElem_set_ne e]
    have hl2 : (bytesV bs[j]).length = 64 := by rw [bytesV_length]; exact hbs _ (List.getElem_mem hj)
    exact World.rangeAt_setCells_apart (h.at_ j hj) _ _ _ (.inr (by omega))
/-- a row of zeros, made -/
theorem SureAt.made {w : World} {g n base cap : Nat} {e : TypeId} {z : Array Value} (hz : z = Array.replicate 64 (.int .u8 0)) (h : w.ownsRow base e 64 (.slice (some ⟨g, 0, none⟩) n cap) n (madeCells z (n * 64)).toList) (hn : 0 < n) : SureAt w g (List.replicate n (List.replicate 64 0)) := by
  obtain ⟨g', cap', e', h1, h2⟩ := h.form hn
  cases e'
  have hc : ∀ k, k < n * 64 → w.cell? ⟨g, k, none⟩ = some (.int .u8 0) := fun k hk => by
    rw [h.cellAt k hk]
    unfold madeCells
    rw [Array.getElem?_toList, Array.getElem?_map, Array.getElem?_range]
    subst hz
    have : k % 64 < 64 := Nat.mod_lt _ (by omega)
    simp [hk, this]
  refine ⟨fun i hi k v hv => ?_, fun k hk => ?_, h2⟩
  · rw [List.length_replicate] at hi
    rw [List.getElem_replicate] at hv
    have hk : k < 64 := by
      have := (List.getElem?_eq_some_iff.1 hv).1
      simpa [bytesV] using this
    rw [hc _ (by omega)]
    unfold bytesV at hv
    rw [List.map_replicate, List.getElem?_replicate] at hv
    rw [if_pos hk] at hv
    simpa using hv
  · rw [List.length_replicate] at hk
    rw [Nat.zero_add, hc k hk]
    exact ⟨rfl, h.frozenAt k⟩
end Se
end Go.Proofs.Yteiniahikhiadaa
