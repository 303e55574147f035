/-
  sector: the device in memory; New, made, is, Len, Off.
-/
import Derived.Test.YteiniahikhiadaaSeM
import Derived.Test.YteiniahikhiadaaSeR
import Derived.Test.YteiniahikhiadaaSeC
import Derived.OwnWalk
namespace Go.Proofs.Yteiniahikhiadaa
open Go.RowKit Go.Maps
namespace Se
open Ce

def devC (D : Dv) (sb mb : Nat) : Array Value := #[.slice (some ⟨sb, 0, none⟩) D.sure.length D.sure.length, .map (some mb), .bool D.stops, .int .i64 D.left, .int .i64 D.wr, .int .i64 D.fl]
/-- a device of the program's: its block d, its sectors in sb, its map in mb -/
structure DvAt (w : World) (base d sb mb : Nat) (D : Dv) : Prop where
  ob : Ob w d 86 (devC D sb mb)
  sure : SureAt w sb D.sure
  map : GMap intK w Try.prog 3 mb (bm D.dm)
  ok : OkD D
  ne : d ≠ sb ∧ d ≠ mb ∧ sb ≠ mb
  lo : base ≤ d ∧ base ≤ sb ∧ base ≤ mb
  len : 0 < D.sure.length ∧ D.sure.length ≤ 16384
theorem DvAt.kept {w w' : World} {base d sb mb : Nat} {D : Dv} {Fr : Nat → Prop} (h : DvAt w base d sb mb D) (hk : Kept Fr w w') (hd : Fr d) (hs : Fr sb) (hm : Fr mb) : DvAt w' base d sb mb D := by
  refine ⟨hk.ob h.ob hd, h.sure.kept (hk.block sb hs) hk.size, ?_, h.ok, h.ne, h.lo, h.len⟩
  obtain ⟨es, clock, h1, F, h2, e⟩ := h.map
  exact ⟨es, clock, (hk.block mb hm).trans h1, F, h2, e⟩
theorem DvAt.same {w w' : World} {base d sb mb : Nat} {D : Dv} (h : DvAt w base d sb mb D) (hb : Below w.heap.size w w') : DvAt w' base d sb mb D :=
  h.kept (Kept.of_below hb (Fr := fun i => i < w.heap.size) fun _ hi => hi) h.ob.lt h.sure.lt h.map.lt
theorem blk_info : (Try.prog.info? 102).map (fun i => (i.zero, i.size, i.bytes)) = some (some (.agg (Array.replicate 64 (.int .u8 0))), 64, 64) := by kernel_rfl

set_option maxRecDepth 100000 in
theorem new_bad (n : Int) (w : World) (h : n < 1 ∨ 16384 < n) :
    Calls Try.prog 14 #[.int .i64 n] w fun e w' => e = .returned (.tuple #[.pointer none, .int .i64 1]) ∧ w = w' := by
  go_enter Try.func14, Try.ntmps14
  rcases Int.lt_or_le n 1 with h1 | h1
  · have hd : decide (n < 1) = true := by simpa using h1
    clear h
    go_wp2
    go_ret2
    exact ⟨rfl, rfl⟩
  · have hd : decide (n < 1) = false := by simp; omega
    have hd2 : decide (n > 16384) = true := by simp; omega
    clear h
    go_wp2
    go_ret2
    exact ⟨rfl, rfl⟩
set_option maxRecDepth 100000 in
theorem new_calls (n : Nat) (w : World) (h1 : 1 ≤ n) (h2 : n ≤ 16384) :
    Calls Try.prog 14 #[.int .i64 n] w fun e w' => (∃ d sb mb, e = .returned (.tuple #[.pointer (some ⟨d, 0, none⟩), .int .i64 0]) ∧ DvAt w' w.heap.size d sb mb (newD n)) ∧ Below w.heap.size w w' := by
  have hmm := @run_makeMap Try.prog
  obtain ⟨i0, hi0, hz0⟩ := Option.map_eq_some_iff.1 blk_info
  simp only [Prod.mk.injEq] at hz0
  obtain ⟨hz0, hz1, hz2⟩ := hz0
  have hd : decide ((n : Int) < 1) = false := by simp; omega
  have hd2 : decide ((n : Int) > 16384) = false := by simp; omega
  go_enter Try.func14, Try.ntmps14
  obtain ⟨w1, hmk, hv1, hg1⟩ := run_make_full (P := Try.prog) w w.heap.size 78 102 i0 _ 64 Try.underlying78 hi0 hz0 hz1 .i64 .i64 n (by rw [hz2]; omega) (by unfold maxLen; omega) (Nat.le_refl _)
  have hsl := SureAt.made (by rfl) hv1 h1
  have hs1 := hg1.size
  clear hz0 hz1 hz2
  have hb1 := (Below.refl w.heap.size w).grown hg1 (Nat.le_refl _) (fun k e => by cases e)
  go_wp2
  go_ret2
  have ha1 := hb1.alloc hb1.size (.map #[] 0)
  have ha2 := ha1.alloc ha1.size (.cells (devC (newD n) w.heap.size w1.heap.size) 86)
  have hnl : (newD n).sure.length = n := by simp [newD]
  have hC : devC (newD n) w.heap.size w1.heap.size = #[.slice (some ⟨w.heap.size, 0, none⟩) n n, .map (some w1.heap.size), .bool false, .int .i64 0, .int .i64 0, .int .i64 0] := by unfold devC; rw [hnl]; rfl
  rw [hC] at ha2
  refine ⟨⟨w1.heap.size + 1, w.heap.size, w1.heap.size, rfl, ?_⟩, ha2⟩
  have hob := Ob.new (w1.alloc (.map #[] 0)) 86 (devC (newD n) w.heap.size w1.heap.size)
  rw [World.size_alloc, hC] at hob
  have hsb := hsl.lt
  refine ⟨by rw [hC]; exact hob, hsl.kept ?_ (by simp; omega), ?_, OkD.new n, by omega, by omega, by rw [hnl]; omega⟩
  · rw [heap_alloc_old _ _ (by simp; omega), heap_alloc_old _ _ hsb]
  · exact (GMap.made (K := intK) w1 Try.prog 3).kept (World.grownBy_alloc _ _ none) (by simp)
end Se
end Go.Proofs.Yteiniahikhiadaa
