/-
  sector: the document's device: New.
-/
import Derived.Test.YteiniahikhiadaaSgE
import Derived.BigRegion
import Derived.RegionTactic
import Derived.ChangeAlike
namespace Go.Proofs.Yteiniahikhiadaa
open Go.RowKit Go.Maps
namespace Se
open Ce
theorem madeBools (n : Nat) : madeCells (Value.bool false).cells (n * 1) = boolC (List.replicate n false) := by
  have hz : (Value.bool false).cells = #[.bool false] := rfl
  unfold madeCells boolC
  rw [hz]
  apply Array.ext
  · simp
  · intro i h1 h2
    simp [Nat.mod_one]
/-- a row of zeros, made, in a block of its own -/
theorem SureAt.block {w : World} {g n : Nat} {z : Array Value} (hz : z = Array.replicate 64 (.int .u8 0)) {e : TypeId} (h : Ob w g e (madeCells z (n * 64))) : SureAt w g (List.replicate n (List.replicate 64 0)) := by
  have hc : ∀ k, k < n * 64 → w.cell? ⟨g, k, none⟩ = some (.int .u8 0) := fun k hk => h.cell (by
    unfold madeCells
    rw [Array.getElem?_map, Array.getElem?_range, if_pos hk]
    subst hz
    have : k % 64 < 64 := Nat.mod_lt _ (by omega)
    simp [this])
  refine ⟨fun i hi j v hv => ?_, fun j hj => ?_, h.lt⟩
  · rw [List.length_replicate] at hi
    have hj : j < 64 := by
      have := (List.getElem?_eq_some_iff.1 hv).1
      rw [List.getElem_replicate, bytesV_length, List.length_replicate] at this
      exact this
    have e : v = .int .u8 0 := by
      rw [List.getElem_replicate] at hv
      unfold bytesV at hv
      rw [List.getElem?_map, List.getElem?_replicate, if_pos hj] at hv
      exact (Option.some.inj hv).symm
    rw [e]
    exact hc _ (by omega)
  · rw [List.length_replicate] at hj
    rw [Nat.zero_add]
    exact ⟨by rw [hc j hj]; rfl, h.frozen j⟩
theorem rnew_fin {w : World} {base n x sb lb tb : Nat} {z : Array Value} {e : TypeId} (h1 : 1 ≤ n) (h2 : n ≤ 16384) (hz : z = Array.replicate 64 (.int .u8 0)) (hs : Ob w sb e (madeCells z (n * 64))) (hl : Ob w lb e (madeCells z (n * 64))) (ht : Ob w tb 4 (madeCells (Value.bool false).cells (n * 1)))
    (hx : Ob w x 98 #[.slice (some ⟨sb, 0, none⟩) n n, .slice (some ⟨lb, 0, none⟩) n n, .slice (some ⟨tb, 0, none⟩) n n, .bool false, .int .i64 0, .int .i64 0, .int .i64 0])
    (ne : x ≠ sb ∧ x ≠ lb ∧ x ≠ tb ∧ sb ≠ lb ∧ sb ≠ tb ∧ lb ≠ tb) (lo : base ≤ x ∧ base ≤ sb ∧ base ≤ lb ∧ base ≤ tb) : RvAt w base x sb lb tb (newR n) := by
  refine ⟨?_, SureAt.block hz hs, SureAt.block hz hl, by rw [madeBools] at ht; exact ht, OkR.new n, ne, lo, by simp [newR]; omega⟩
  have : revC (newR n) sb lb tb = #[.slice (some ⟨sb, 0, none⟩) n n, .slice (some ⟨lb, 0, none⟩) n n, .slice (some ⟨tb, 0, none⟩) n n, .bool false, .int .i64 0, .int .i64 0, .int .i64 0] := by
    unfold revC
    simp [newR]
  rw [this]
  exact hx
theorem ob_a (w : World) (c : Array Value) (t : TypeId) (o2 o3 o4 : Obj) : Ob ((((w.alloc (.cells c t)).alloc o2).alloc o3).alloc o4).drew w.heap.size t c := (((Ob.new w t c).alloc o2).alloc o3).alloc o4
theorem ob_b (w : World) (c : Array Value) (t : TypeId) (o1 o3 o4 : Obj) : Ob ((((w.alloc o1).alloc (.cells c t)).alloc o3).alloc o4).drew (w.heap.size + 1) t c := by
  have := ((Ob.new (w.alloc o1) t c).alloc o3).alloc o4
  rwa [World.size_alloc] at this
theorem ob_c (w : World) (c : Array Value) (t : TypeId) (o1 o2 o4 : Obj) : Ob ((((w.alloc o1).alloc o2).alloc (.cells c t)).alloc o4).drew (w.heap.size + 1 + 1) t c := by
  have := (Ob.new ((w.alloc o1).alloc o2) t c).alloc o4
  rwa [World.size_alloc, World.size_alloc] at this
theorem ob_d (w : World) (c : Array Value) (t : TypeId) (o1 o2 o3 : Obj) : Ob ((((w.alloc o1).alloc o2).alloc o3).alloc (.cells c t)).drew (w.heap.size + 1 + 1 + 1) t c := by
  have := Ob.new (((w.alloc o1).alloc o2).alloc o3) t c
  rwa [World.size_alloc, World.size_alloc, World.size_alloc] at this
theorem below4 (w : World) (o1 o2 o3 o4 : Obj) : Below w.heap.size w ((((w.alloc o1).alloc o2).alloc o3).alloc o4).drew := ((((((Below.refl _ w).alloc (Nat.le_refl _) _).alloc (by simp) _).alloc (by simp; omega) _).alloc (by simp; omega) _)).drew
set_option maxRecDepth 100000 in
set_option maxHeartbeats 4000000 in
theorem rnew_calls (n : Nat) (w : World) (h1 : 1 ≤ n) (h2 : n ≤ 16384) :
    Calls Try.prog 25 #[.int .i64 n] w fun e w' => (∃ x sb lb tb, e = .returned (.pointer (some ⟨x, 0, none⟩)) ∧ RvAt w' w.heap.size x sb lb tb (newR n)) ∧ Below w.heap.size w w' := by
  obtain ⟨i0, hi0, hz0⟩ := Option.map_eq_some_iff.1 blk_info
  simp only [Prod.mk.injEq] at hz0
  obtain ⟨hz0, hz1, hz2⟩ := hz0
  obtain ⟨i1, hi1, hy0⟩ := Option.map_eq_some_iff.1 bool_info
  simp only [Prod.mk.injEq] at hy0
  obtain ⟨hy0, hy1, hy2⟩ := hy0
  have hmkS : ∀ W : World, (Instr.makeSlice 78 (.int .i64 (n : Int)) (.int .i64 (n : Int))).run Try.prog W = .ok (.slice (some ⟨W.heap.size, 0, none⟩) n n) (W.alloc (.cells (madeCells (Array.replicate 64 (.int .u8 0)) (n * 64)) 102)) := fun W => by
    have := run_make (P := Try.prog) W 78 102 i0 _ Try.underlying78 hi0 hz0 .i64 .i64 n n (by omega) (Int.le_refl _) (by rw [hz2]; omega) (by omega)
    rw [hz1] at this
    simpa [Value.cells] using this
  have hmkB : ∀ W : World, (Instr.makeSlice 96 (.int .i64 (n : Int)) (.int .i64 (n : Int))).run Try.prog W = .ok (.slice (some ⟨W.heap.size, 0, none⟩) n n) (W.alloc (.cells (madeCells (Value.bool false).cells (n * 1)) 4)) := fun W => by
    have := run_make (P := Try.prog) W 96 4 i1 _ Try.underlying96 hi1 hy0 .i64 .i64 n n (by omega) (Int.le_refl _) (by rw [hy2]; omega) (by omega)
    rw [hy1] at this
    simpa using this
  clear hz0 hz1 hz2 hy0 hy1 hy2 hi0 hi1
  generalize hCS : madeCells (Array.replicate 64 (.int .u8 0)) (n * 64) = CS at *
  generalize hCB : madeCells (Value.bool false).cells (n * 1) = CB at *
  have HCS := Lib.hid hCS
  have HCB := Lib.hid hCB
  clear hCS hCB
  go_enter Try.func25, Try.ntmps25
  go_wp2
  go_region
  all_goals
    go_wp2
    go_ret
    refine ⟨⟨w.heap.size + 1 + 1 + 1, _, _, _, rfl, rnew_fin (z := Array.replicate 64 (.int .u8 0)) (e := 102) h1 h2 rfl ?_ ?_ ?_ (ob_d w _ _ _ _ _) (by omega) (by omega)⟩, below4 w _ _ _ _⟩
    · rw [HCS.out]; first | exact ob_a w _ _ _ _ _ | exact ob_b w _ _ _ _ _ | exact ob_c w _ _ _ _ _
    · rw [HCS.out]; first | exact ob_a w _ _ _ _ _ | exact ob_b w _ _ _ _ _ | exact ob_c w _ _ _ _ _
    · rw [HCB.out]; first | exact ob_a w _ _ _ _ _ | exact ob_b w _ _ _ _ _ | exact ob_c w _ _ _ _ _
end Se
end Go.Proofs.Yteiniahikhiadaa
