/-
  clear(m) of a map that the program keeps.
-/
import Derived.Test.YteiniahikhiadaaMaps
import Derived.Maps.OwnSet
import Derived.MapFrom
import Derived.ChangeMaps5
namespace Go.Proofs.Yteiniahikhiadaa
open Go.RowKit Go.Maps Go.ChangeMaps
theorem GMap.clear {κ : Type} [DecidableEq κ] {K : KeyK κ} {w : World} {P : Program} {t : TypeId} {b : Nat} {m : List (κ × Value)} {tm e : TypeId} (h : GMap K w P t b m) (ht : P.underlying tm = some (.map t e)) (ty : TypeId) :
    ∃ w', (Builtin.clear_ #[tm] ty #[.map (some b)]).run P w = .ok (.tuple #[]) w' ∧ GMap K w' P t b [] ∧ w.grownBy w' (some b) := by
  obtain ⟨es, clock, hb, F, hs, hD⟩ := h
  refine ⟨setBlock w b (.map #[] clock), ?_, ⟨#[], clock, heap_setBlock_same hb _, ⟨by simp, MapKept.stamped_empty clock, by simp⟩, by simp, by simp [mEs]⟩, World.mapTurned.grown ⟨es, clock, #[], clock, hb, rfl⟩⟩
  simp [Builtin.clear_, run_underlying ht, MapKept.run_getObj_map hb, MapKept.run_setObj_map _ hb, Result.andThen, setBlock]
end Go.Proofs.Yteiniahikhiadaa
