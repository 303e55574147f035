/-
  the document's stock: move.
  the document's stock in plain words: set is put; Do and Count are the program's.
-/
import Derived.Test.YtlhpdalfnjhokaaGs7
import Derived.Test.YtlhpdalfnjhokaaGs8
import Derived.Test.YtlhpdalfnjhokaaGs6
import Derived.Test.YtlhpdalfnjhokaaGs4

set_option linter.unusedVariables false
set_option linter.unusedSimpArgs false
namespace Go.Proofs.Ytlhpdalfnjhokaa
open Go.RowKit Go.Maps
namespace Sk
open It Al Kp
attribute [local go_sem] Oper.semAt_some
def haveR (k : Int) (r : Row) : Int := match (road k).1 with
  | none => -1
  | some j => at_ r j
set_option maxRecDepth 100000 in
set_option maxHeartbeats 8000000 in
theorem move_1 (g : ByteArray) (a0 a1 a2 a3 a4 a5 a6 a7 a8 a9 a10 n : Int) (w : World) :
    Calls Try.prog 56 #[.int .i64 1, .agg #[.string g, .int .i64 a0, .int .i64 a1, .int .i64 a2, .int .i64 a3, .int .i64 a4, .int .i64 a5, .int .i64 a6, .int .i64 a7, .int .i64 a8, .int .i64 a9, .int .i64 a10], .int .i64 n] w fun e w' => e = .returned (.tuple #[.agg #[.string g, .int .i64 (wrap64 (a0 + n)), .int .i64 a1, .int .i64 a2, .int .i64 a3, .int .i64 (wrap64 (a4 + n)), .int .i64 a5, .int .i64 a6, .int .i64 a7, .int .i64 a8, .int .i64 a9, .int .i64 a10], .int .i64 (-1)]) ∧ Below w.heap.size w w' := by
  have hB : Below w.heap.size w ((w.alloc (.cells #[.string g, .int .i64 a0, .int .i64 a1, .int .i64 a2, .int .i64 a3, .int .i64 a4, .int .i64 a5, .int .i64 a6, .int .i64 a7, .int .i64 a8, .int .i64 a9, .int .i64 a10] 78)).alloc (.cells #[.string ⟨#[]⟩, .int .i64 0, .int .i64 0, .int .i64 0, .int .i64 0, .int .i64 0, .int .i64 0, .int .i64 0, .int .i64 0, .int .i64 0, .int .i64 0, .int .i64 0] 78)) := ((Below.refl _ w).alloc (Nat.le_refl _) _).alloc (by simp) _
  have o1 := (Ob.new w 78 #[.string g, .int .i64 a0, .int .i64 a1, .int .i64 a2, .int .i64 a3, .int .i64 a4, .int .i64 a5, .int .i64 a6, .int .i64 a7, .int .i64 a8, .int .i64 a9, .int .i64 a10]).alloc (.cells #[.string ⟨#[]⟩, .int .i64 0, .int .i64 0, .int .i64 0, .int .i64 0, .int .i64 0, .int .i64 0, .int .i64 0, .int .i64 0, .int .i64 0, .int .i64 0, .int .i64 0] 78)
  have o2 := Ob.new (w.alloc (.cells #[.string g, .int .i64 a0, .int .i64 a1, .int .i64 a2, .int .i64 a3, .int .i64 a4, .int .i64 a5, .int .i64 a6, .int .i64 a7, .int .i64 a8, .int .i64 a9, .int .i64 a10] 78)) 78 #[.string ⟨#[]⟩, .int .i64 0, .int .i64 0, .int .i64 0, .int .i64 0, .int .i64 0, .int .i64 0, .int .i64 0, .int .i64 0, .int .i64 0, .int .i64 0, .int .i64 0]
  rw [World.size_alloc] at o2
  have hs : ((w.alloc (.cells #[.string g, .int .i64 a0, .int .i64 a1, .int .i64 a2, .int .i64 a3, .int .i64 a4, .int .i64 a5, .int .i64 a6, .int .i64 a7, .int .i64 a8, .int .i64 a9, .int .i64 a10] 78)).alloc (.cells #[.string ⟨#[]⟩, .int .i64 0, .int .i64 0, .int .i64 0, .int .i64 0, .int .i64 0, .int .i64 0, .int .i64 0, .int .i64 0, .int .i64 0, .int .i64 0, .int .i64 0] 78)).heap.size = w.heap.size + 2 := by simp
  have HS := Lib.hid hs
  clear hs
  go_enter Try.func56, Try.ntmps56
  go_upto_region 1 with (fail)
  generalize ((w.alloc (.cells #[.string g, .int .i64 a0, .int .i64 a1, .int .i64 a2, .int .i64 a3, .int .i64 a4, .int .i64 a5, .int .i64 a6, .int .i64 a7, .int .i64 a8, .int .i64 a9, .int .i64 a10] 78)).alloc (.cells #[.string ⟨#[]⟩, .int .i64 0, .int .i64 0, .int .i64 0, .int .i64 0, .int .i64 0, .int .i64 0, .int .i64 0, .int .i64 0, .int .i64 0, .int .i64 0, .int .i64 0] 78)) = w0 at *
  have c0 := o1.cell (j := 1) (v := .int .i64 a0) rfl
  have z0 := o1.frozen 1
  have c4 := o1.cell (j := 5) (v := .int .i64 a4) rfl
  have z4 := o1.frozen 5
  go_upto_region 33 with (fail)
  clear c0 z0 c4 z4
  have g1 := grownBy_set w0 w.heap.size 1 (.int .i64 (wrap64 (a0 + n)))
  replace o2 := o2.kept g1 (fun e => by have := Option.some.inj e; omega)
  replace hB := hB.grown g1 hB.size (fun k e => by cases e; exact Nat.le_refl _)
  replace o1 := o1.set 1 (.int .i64 (wrap64 (a0 + n)))
  generalize w0.setCell ⟨w.heap.size, 1, none⟩ (.int .i64 (wrap64 (a0 + n))) = w1 at *
  have g2 := grownBy_set w1 w.heap.size 5 (.int .i64 (wrap64 (a4 + n)))
  replace o2 := o2.kept g2 (fun e => by have := Option.some.inj e; omega)
  replace hB := hB.grown g2 hB.size (fun k e => by cases e; exact Nat.le_refl _)
  replace o1 : Ob (w1.setCell ⟨w.heap.size, 5, none⟩ (.int .i64 (wrap64 (a4 + n)))) w.heap.size 78 #[.string g, .int .i64 (wrap64 (a0 + n)), .int .i64 a1, .int .i64 a2, .int .i64 a3, .int .i64 (wrap64 (a4 + n)), .int .i64 a5, .int .i64 a6, .int .i64 a7, .int .i64 a8, .int .i64 a9, .int .i64 a10] := o1.set 5 (.int .i64 (wrap64 (a4 + n)))
  clear g1 g2
  generalize w1.setCell ⟨w.heap.size, 5, none⟩ (.int .i64 (wrap64 (a4 + n))) = w2 at *
  go_wp2_with (first | (refine wpList_load_ob rfl 78 (.tmp 4) rfl rfl _ o1 Try.underlying78 rfl (by kernel_rfl) ?_) | (refine wpList_store_ob rfl 78 (.tmp 6) (.tmp 210) rfl rfl rfl o2 rfl (by kernel_rfl) (by simp [Value.oneCell']) ?_; intro w4 hO hg))
  have hb := hB.grown hg hB.size (fun k e => by cases e; omega)
  refine bodyPost_ret (v := .tuple #[.agg #[.string g, .int .i64 (wrap64 (a0 + n)), .int .i64 a1, .int .i64 a2, .int .i64 a3, .int .i64 (wrap64 (a4 + n)), .int .i64 a5, .int .i64 a6, .int .i64 a7, .int .i64 a8, .int .i64 a9, .int .i64 a10], .int .i64 (-1)]) ?_ rfl ⟨rfl, hb⟩
  have c0 := hO.cell (j := 0) (v := .string g) rfl
  have c1 := hO.cell (j := 1) (v := .int .i64 (wrap64 (a0 + n))) rfl
  have c2 := hO.cell (j := 2) (v := .int .i64 a1) rfl
  have c3 := hO.cell (j := 3) (v := .int .i64 a2) rfl
  have c4 := hO.cell (j := 4) (v := .int .i64 a3) rfl
  have c5 := hO.cell (j := 5) (v := .int .i64 (wrap64 (a4 + n))) rfl
  have c6 := hO.cell (j := 6) (v := .int .i64 a5) rfl
  have c7 := hO.cell (j := 7) (v := .int .i64 a6) rfl
  have c8 := hO.cell (j := 8) (v := .int .i64 a7) rfl
  have c9 := hO.cell (j := 9) (v := .int .i64 a8) rfl
  have c10 := hO.cell (j := 10) (v := .int .i64 a9) rfl
  have c11 := hO.cell (j := 11) (v := .int .i64 a10) rfl
  simp [results, Try.f56, go_sem, c0, c1, c2, c3, c4, c5, c6, c7, c8, c9, c10, c11]
set_option maxRecDepth 100000 in
set_option maxHeartbeats 8000000 in
theorem move_2 (g : ByteArray) (a0 a1 a2 a3 a4 a5 a6 a7 a8 a9 a10 n : Int) (w : World) :
    Calls Try.prog 56 #[.int .i64 2, .agg #[.string g, .int .i64 a0, .int .i64 a1, .int .i64 a2, .int .i64 a3, .int .i64 a4, .int .i64 a5, .int .i64 a6, .int .i64 a7, .int .i64 a8, .int .i64 a9, .int .i64 a10], .int .i64 n] w fun e w' => e = .returned (.tuple #[.agg #[.string g, .int .i64 (wrap64 (a0 - n)), .int .i64 (wrap64 (a1 + n)), .int .i64 a2, .int .i64 a3, .int .i64 a4, .int .i64 a5, .int .i64 a6, .int .i64 a7, .int .i64 a8, .int .i64 a9, .int .i64 a10], .int .i64 a0]) ∧ Below w.heap.size w w' := by
  have hB : Below w.heap.size w ((w.alloc (.cells #[.string g, .int .i64 a0, .int .i64 a1, .int .i64 a2, .int .i64 a3, .int .i64 a4, .int .i64 a5, .int .i64 a6, .int .i64 a7, .int .i64 a8, .int .i64 a9, .int .i64 a10] 78)).alloc (.cells #[.string ⟨#[]⟩, .int .i64 0, .int .i64 0, .int .i64 0, .int .i64 0, .int .i64 0, .int .i64 0, .int .i64 0, .int .i64 0, .int .i64 0, .int .i64 0, .int .i64 0] 78)) := ((Below.refl _ w).alloc (Nat.le_refl _) _).alloc (by simp) _
  have o1 := (Ob.new w 78 #[.string g, .int .i64 a0, .int .i64 a1, .int .i64 a2, .int .i64 a3, .int .i64 a4, .int .i64 a5, .int .i64 a6, .int .i64 a7, .int .i64 a8, .int .i64 a9, .int .i64 a10]).alloc (.cells #[.string ⟨#[]⟩, .int .i64 0, .int .i64 0, .int .i64 0, .int .i64 0, .int .i64 0, .int .i64 0, .int .i64 0, .int .i64 0, .int .i64 0, .int .i64 0, .int .i64 0] 78)
  have o2 := Ob.new (w.alloc (.cells #[.string g, .int .i64 a0, .int .i64 a1, .int .i64 a2, .int .i64 a3, .int .i64 a4, .int .i64 a5, .int .i64 a6, .int .i64 a7, .int .i64 a8, .int .i64 a9, .int .i64 a10] 78)) 78 #[.string ⟨#[]⟩, .int .i64 0, .int .i64 0, .int .i64 0, .int .i64 0, .int .i64 0, .int .i64 0, .int .i64 0, .int .i64 0, .int .i64 0, .int .i64 0, .int .i64 0]
  rw [World.size_alloc] at o2
  have hs : ((w.alloc (.cells #[.string g, .int .i64 a0, .int .i64 a1, .int .i64 a2, .int .i64 a3, .int .i64 a4, .int .i64 a5, .int .i64 a6, .int .i64 a7, .int .i64 a8, .int .i64 a9, .int .i64 a10] 78)).alloc (.cells #[.string ⟨#[]⟩, .int .i64 0, .int .i64 0, .int .i64 0, .int .i64 0, .int .i64 0, .int .i64 0, .int .i64 0, .int .i64 0, .int .i64 0, .int .i64 0, .int .i64 0] 78)).heap.size = w.heap.size + 2 := by simp
  have HS := Lib.hid hs
  clear hs
  go_enter Try.func56, Try.ntmps56
  go_upto_region 1 with (fail)
  generalize ((w.alloc (.cells #[.string g, .int .i64 a0, .int .i64 a1, .int .i64 a2, .int .i64 a3, .int .i64 a4, .int .i64 a5, .int .i64 a6, .int .i64 a7, .int .i64 a8, .int .i64 a9, .int .i64 a10] 78)).alloc (.cells #[.string ⟨#[]⟩, .int .i64 0, .int .i64 0, .int .i64 0, .int .i64 0, .int .i64 0, .int .i64 0, .int .i64 0, .int .i64 0, .int .i64 0, .int .i64 0, .int .i64 0] 78)) = w0 at *
  have c0 := o1.cell (j := 1) (v := .int .i64 a0) rfl
  have z0 := o1.frozen 1
  have c1 := o1.cell (j := 2) (v := .int .i64 a1) rfl
  have z1 := o1.frozen 2
  go_upto_region 33 with (fail)
  clear c0 z0 c1 z1
  have g1 := grownBy_set w0 w.heap.size 1 (.int .i64 (wrap64 (a0 - n)))
  replace o2 := o2.kept g1 (fun e => by have := Option.some.inj e; omega)
  replace hB := hB.grown g1 hB.size (fun k e => by cases e; exact Nat.le_refl _)
  replace o1 := o1.set 1 (.int .i64 (wrap64 (a0 - n)))
  generalize w0.setCell ⟨w.heap.size, 1, none⟩ (.int .i64 (wrap64 (a0 - n))) = w1 at *
  have g2 := grownBy_set w1 w.heap.size 2 (.int .i64 (wrap64 (a1 + n)))
  replace o2 := o2.kept g2 (fun e => by have := Option.some.inj e; omega)
  replace hB := hB.grown g2 hB.size (fun k e => by cases e; exact Nat.le_refl _)
  replace o1 : Ob (w1.setCell ⟨w.heap.size, 2, none⟩ (.int .i64 (wrap64 (a1 + n)))) w.heap.size 78 #[.string g, .int .i64 (wrap64 (a0 - n)), .int .i64 (wrap64 (a1 + n)), .int .i64 a2, .int .i64 a3, .int .i64 a4, .int .i64 a5, .int .i64 a6, .int .i64 a7, .int .i64 a8, .int .i64 a9, .int .i64 a10] := o1.set 2 (.int .i64 (wrap64 (a1 + n)))
  clear g1 g2
  generalize w1.setCell ⟨w.heap.size, 2, none⟩ (.int .i64 (wrap64 (a1 + n))) = w2 at *
  go_wp2_with (first | (refine wpList_load_ob rfl 78 (.tmp 4) rfl rfl _ o1 Try.underlying78 rfl (by kernel_rfl) ?_) | (refine wpList_store_ob rfl 78 (.tmp 6) (.tmp 210) rfl rfl rfl o2 rfl (by kernel_rfl) (by simp [Value.oneCell']) ?_; intro w4 hO hg))
  have hb := hB.grown hg hB.size (fun k e => by cases e; omega)
  refine bodyPost_ret (v := .tuple #[.agg #[.string g, .int .i64 (wrap64 (a0 - n)), .int .i64 (wrap64 (a1 + n)), .int .i64 a2, .int .i64 a3, .int .i64 a4, .int .i64 a5, .int .i64 a6, .int .i64 a7, .int .i64 a8, .int .i64 a9, .int .i64 a10], .int .i64 a0]) ?_ rfl ⟨rfl, hb⟩
  have c0 := hO.cell (j := 0) (v := .string g) rfl
  have c1 := hO.cell (j := 1) (v := .int .i64 (wrap64 (a0 - n))) rfl
  have c2 := hO.cell (j := 2) (v := .int .i64 (wrap64 (a1 + n))) rfl
  have c3 := hO.cell (j := 3) (v := .int .i64 a2) rfl
  have c4 := hO.cell (j := 4) (v := .int .i64 a3) rfl
  have c5 := hO.cell (j := 5) (v := .int .i64 a4) rfl
  have c6 := hO.cell (j := 6) (v := .int .i64 a5) rfl
  have c7 := hO.cell (j := 7) (v := .int .i64 a6) rfl
  have c8 := hO.cell (j := 8) (v := .int .i64 a7) rfl
  have c9 := hO.cell (j := 9) (v := .int .i64 a8) rfl
  have c10 := hO.cell (j := 10) (v := .int .i64 a9) rfl
  have c11 := hO.cell (j := 11) (v := .int .i64 a10) rfl
  simp [results, Try.f56, go_sem, c0, c1, c2, c3, c4, c5, c6, c7, c8, c9, c10, c11]
set_option maxRecDepth 100000 in
set_option maxHeartbeats 8000000 in
theorem move_3 (g : ByteArray) (a0 a1 a2 a3 a4 a5 a6 a7 a8 a9 a10 n : Int) (w : World) :
    Calls Try.prog 56 #[.int .i64 3, .agg #[.string g, .int .i64 a0, .int .i64 a1, .int .i64 a2, .int .i64 a3, .int .i64 a4, .int .i64 a5, .int .i64 a6, .int .i64 a7, .int .i64 a8, .int .i64 a9, .int .i64 a10], .int .i64 n] w fun e w' => e = .returned (.tuple #[.agg #[.string g, .int .i64 (wrap64 (a0 + n)), .int .i64 (wrap64 (a1 - n)), .int .i64 a2, .int .i64 a3, .int .i64 a4, .int .i64 a5, .int .i64 a6, .int .i64 a7, .int .i64 a8, .int .i64 a9, .int .i64 a10], .int .i64 a1]) ∧ Below w.heap.size w w' := by
  have hB : Below w.heap.size w ((w.alloc (.cells #[.string g, .int .i64 a0, .int .i64 a1, .int .i64 a2, .int .i64 a3, .int .i64 a4, .int .i64 a5, .int .i64 a6, .int .i64 a7, .int .i64 a8, .int .i64 a9, .int .i64 a10] 78)).alloc (.cells #[.string ⟨#[]⟩, .int .i64 0, .int .i64 0, .int .i64 0, .int .i64 0, .int .i64 0, .int .i64 0, .int .i64 0, .int .i64 0, .int .i64 0, .int .i64 0, .int .i64 0] 78)) := ((Below.refl _ w).alloc (Nat.le_refl _) _).alloc (by simp) _
  have o1 := (Ob.new w 78 #[.string g, .int .i64 a0, .int .i64 a1, .int .i64 a2, .int .i64 a3, .int .i64 a4, .int .i64 a5, .int .i64 a6, .int .i64 a7, .int .i64 a8, .int .i64 a9, .int .i64 a10]).alloc (.cells #[.string ⟨#[]⟩, .int .i64 0, .int .i64 0, .int .i64 0, .int .i64 0, .int .i64 0, .int .i64 0, .int .i64 0, .int .i64 0, .int .i64 0, .int .i64 0, .int .i64 0] 78)
  have o2 := Ob.new (w.alloc (.cells #[.string g, .int .i64 a0, .int .i64 a1, .int .i64 a2, .int .i64 a3, .int .i64 a4, .int .i64 a5, .int .i64 a6, .int .i64 a7, .int .i64 a8, .int .i64 a9, .int .i64 a10] 78)) 78 #[.string ⟨#[]⟩, .int .i64 0, .int .i64 0, .int .i64 0, .int .i64 0, .int .i64 0, .int .i64 0, .int .i64 0, .int .i64 0, .int .i64 0, .int .i64 0, .int .i64 0]
  rw [World.size_alloc] at o2
  have hs : ((w.alloc (.cells #[.string g, .int .i64 a0, .int .i64 a1, .int .i64 a2, .int .i64 a3, .int .i64 a4, .int .i64 a5, .int .i64 a6, .int .i64 a7, .int .i64 a8, .int .i64 a9, .int .i64 a10] 78)).alloc (.cells #[.string ⟨#[]⟩, .int .i64 0, .int .i64 0, .int .i64 0, .int .i64 0, .int .i64 0, .int .i64 0, .int .i64 0, .int .i64 0, .int .i64 0, .int .i64 0, .int .i64 0] 78)).heap.size = w.heap.size + 2 := by simp
  have HS := Lib.hid hs
  clear hs
  go_enter Try.func56, Try.ntmps56
  go_upto_region 1 with (fail)
  generalize ((w.alloc (.cells #[.string g, .int .i64 a0, .int .i64 a1, .int .i64 a2, .int .i64 a3, .int .i64 a4, .int .i64 a5, .int .i64 a6, .int .i64 a7, .int .i64 a8, .int .i64 a9, .int .i64 a10] 78)).alloc (.cells #[.string ⟨#[]⟩, .int .i64 0, .int .i64 0, .int .i64 0, .int .i64 0, .int .i64 0, .int .i64 0, .int .i64 0, .int .i64 0, .int .i64 0, .int .i64 0, .int .i64 0] 78)) = w0 at *
  have c1 := o1.cell (j := 2) (v := .int .i64 a1) rfl
  have z1 := o1.frozen 2
  have c0 := o1.cell (j := 1) (v := .int .i64 a0) rfl
  have z0 := o1.frozen 1
  go_upto_region 33 with (fail)
  clear c1 z1 c0 z0
  have g1 := grownBy_set w0 w.heap.size 2 (.int .i64 (wrap64 (a1 - n)))
  replace o2 := o2.kept g1 (fun e => by have := Option.some.inj e; omega)
  replace hB := hB.grown g1 hB.size (fun k e => by cases e; exact Nat.le_refl _)
  replace o1 := o1.set 2 (.int .i64 (wrap64 (a1 - n)))
  generalize w0.setCell ⟨w.heap.size, 2, none⟩ (.int .i64 (wrap64 (a1 - n))) = w1 at *
  have g2 := grownBy_set w1 w.heap.size 1 (.int .i64 (wrap64 (a0 + n)))
  replace o2 := o2.kept g2 (fun e => by have := Option.some.inj e; omega)
  replace hB := hB.grown g2 hB.size (fun k e => by cases e; exact Nat.le_refl _)
  replace o1 : Ob (w1.setCell ⟨w.heap.size, 1, none⟩ (.int .i64 (wrap64 (a0 + n)))) w.heap.size 78 #[.string g, .int .i64 (wrap64 (a0 + n)), .int .i64 (wrap64 (a1 - n)), .int .i64 a2, .int .i64 a3, .int .i64 a4, .int .i64 a5, .int .i64 a6, .int .i64 a7, .int .i64 a8, .int .i64 a9, .int .i64 a10] := o1.set 1 (.int .i64 (wrap64 (a0 + n)))
  clear g1 g2
  generalize w1.setCell ⟨w.heap.size, 1, none⟩ (.int .i64 (wrap64 (a0 + n))) = w2 at *
  go_wp2_with (first | (refine wpList_load_ob rfl 78 (.tmp 4) rfl rfl _ o1 Try.underlying78 rfl (by kernel_rfl) ?_) | (refine wpList_store_ob rfl 78 (.tmp 6) (.tmp 210) rfl rfl rfl o2 rfl (by kernel_rfl) (by simp [Value.oneCell']) ?_; intro w4 hO hg))
  have hb := hB.grown hg hB.size (fun k e => by cases e; omega)
  refine bodyPost_ret (v := .tuple #[.agg #[.string g, .int .i64 (wrap64 (a0 + n)), .int .i64 (wrap64 (a1 - n)), .int .i64 a2, .int .i64 a3, .int .i64 a4, .int .i64 a5, .int .i64 a6, .int .i64 a7, .int .i64 a8, .int .i64 a9, .int .i64 a10], .int .i64 a1]) ?_ rfl ⟨rfl, hb⟩
  have c0 := hO.cell (j := 0) (v := .string g) rfl
  have c1 := hO.cell (j := 1) (v := .int .i64 (wrap64 (a0 + n))) rfl
  have c2 := hO.cell (j := 2) (v := .int .i64 (wrap64 (a1 - n))) rfl
  have c3 := hO.cell (j := 3) (v := .int .i64 a2) rfl
  have c4 := hO.cell (j := 4) (v := .int .i64 a3) rfl
  have c5 := hO.cell (j := 5) (v := .int .i64 a4) rfl
  have c6 := hO.cell (j := 6) (v := .int .i64 a5) rfl
  have c7 := hO.cell (j := 7) (v := .int .i64 a6) rfl
  have c8 := hO.cell (j := 8) (v := .int .i64 a7) rfl
  have c9 := hO.cell (j := 9) (v := .int .i64 a8) rfl
  have c10 := hO.cell (j := 10) (v := .int .i64 a9) rfl
  have c11 := hO.cell (j := 11) (v := .int .i64 a10) rfl
  simp [results, Try.f56, go_sem, c0, c1, c2, c3, c4, c5, c6, c7, c8, c9, c10, c11]
set_option maxRecDepth 100000 in
set_option maxHeartbeats 8000000 in
theorem move_4 (g : ByteArray) (a0 a1 a2 a3 a4 a5 a6 a7 a8 a9 a10 n : Int) (w : World) :
    Calls Try.prog 56 #[.int .i64 4, .agg #[.string g, .int .i64 a0, .int .i64 a1, .int .i64 a2, .int .i64 a3, .int .i64 a4, .int .i64 a5, .int .i64 a6, .int .i64 a7, .int .i64 a8, .int .i64 a9, .int .i64 a10], .int .i64 n] w fun e w' => e = .returned (.tuple #[.agg #[.string g, .int .i64 a0, .int .i64 (wrap64 (a1 - n)), .int .i64 (wrap64 (a2 + n)), .int .i64 a3, .int .i64 a4, .int .i64 a5, .int .i64 a6, .int .i64 a7, .int .i64 a8, .int .i64 a9, .int .i64 a10], .int .i64 a1]) ∧ Below w.heap.size w w' := by
  have hB : Below w.heap.size w ((w.alloc (.cells #[.string g, .int .i64 a0, .int .i64 a1, .int .i64 a2, .int .i64 a3, .int .i64 a4, .int .i64 a5, .int .i64 a6, .int .i64 a7, .int .i64 a8, .int .i64 a9, .int .i64 a10] 78)).alloc (.cells #[.string ⟨#[]⟩, .int .i64 0, .int .i64 0, .int .i64 0, .int .i64 0, .int .i64 0, .int .i64 0, .int .i64 0, .int .i64 0, .int .i64 0, .int .i64 0, .int .i64 0] 78)) := ((Below.refl _ w).alloc (Nat.le_refl _) _).alloc (by simp) _
  have o1 := (Ob.new w 78 #[.string g, .int .i64 a0, .int .i64 a1, .int .i64 a2, .int .i64 a3, .int .i64 a4, .int .i64 a5, .int .i64 a6, .int .i64 a7, .int .i64 a8, .int .i64 a9, .int .i64 a10]).alloc (.cells #[.string ⟨#[]⟩, .int .i64 0, .int .i64 0, .int .i64 0, .int .i64 0, .int .i64 0, .int .i64 0, .int .i64 0, .int .i64 0, .int .i64 0, .int .i64 0, .int .i64 0] 78)
  have o2 := Ob.new (w.alloc (.cells #[.string g, .int .i64 a0, .int .i64 a1, .int .i64 a2, .int .i64 a3, .int .i64 a4, .int .i64 a5, .int .i64 a6, .int .i64 a7, .int .i64 a8, .int .i64 a9, .int .i64 a10] 78)) 78 #[.string ⟨#[]⟩, .int .i64 0, .int .i64 0, .int .i64 0, .int .i64 0, .int .i64 0, .int .i64 0, .int .i64 0, .int .i64 0, .int .i64 0, .int .i64 0, .int .i64 0]
  rw [World.size_alloc] at o2
  have hs : ((w.alloc (.cells #[.string g, .int .i64 a0, .int .i64 a1, .int .i64 a2, .int .i64 a3, .int .i64 a4, .int .i64 a5, .int .i64 a6, .int .i64 a7, .int .i64 a8, .int .i64 a9, .int .i64 a10] 78)).alloc (.cells #[.string ⟨#[]⟩, .int .i64 0, .int .i64 0, .int .i64 0, .int .i64 0, .int .i64 0, .int .i64 0, .int .i64 0, .int .i64 0, .int .i64 0, .int .i64 0, .int .i64 0] 78)).heap.size = w.heap.size + 2 := by simp
  have HS := Lib.hid hs
  clear hs
  go_enter Try.func56, Try.ntmps56
  go_upto_region 1 with (fail)
  generalize ((w.alloc (.cells #[.string g, .int .i64 a0, .int .i64 a1, .int .i64 a2, .int .i64 a3, .int .i64 a4, .int .i64 a5, .int .i64 a6, .int .i64 a7, .int .i64 a8, .int .i64 a9, .int .i64 a10] 78)).alloc (.cells #[.string ⟨#[]⟩, .int .i64 0, .int .i64 0, .int .i64 0, .int .i64 0, .int .i64 0, .int .i64 0, .int .i64 0, .int .i64 0, .int .i64 0, .int .i64 0, .int .i64 0] 78)) = w0 at *
  have c1 := o1.cell (j := 2) (v := .int .i64 a1) rfl
  have z1 := o1.frozen 2
  have c2 := o1.cell (j := 3) (v := .int .i64 a2) rfl
  have z2 := o1.frozen 3
  go_upto_region 33 with (fail)
  clear c1 z1 c2 z2
  have g1 := grownBy_set w0 w.heap.size 2 (.int .i64 (wrap64 (a1 - n)))
  replace o2 := o2.kept g1 (fun e => by have := Option.some.inj e; omega)
  replace hB := hB.grown g1 hB.size (fun k e => by cases e; exact Nat.le_refl _)
  replace o1 := o1.set 2 (.int .i64 (wrap64 (a1 - n)))
  generalize w0.setCell ⟨w.heap.size, 2, none⟩ (.int .i64 (wrap64 (a1 - n))) = w1 at *
  have g2 := grownBy_set w1 w.heap.size 3 (.int .i64 (wrap64 (a2 + n)))
  replace o2 := o2.kept g2 (fun e => by have := Option.some.inj e; omega)
  replace hB := hB.grown g2 hB.size (fun k e => by cases e; exact Nat.le_refl _)
  replace o1 : Ob (w1.setCell ⟨w.heap.size, 3, none⟩ (.int .i64 (wrap64 (a2 + n)))) w.heap.size 78 #[.string g, .int .i64 a0, .int .i64 (wrap64 (a1 - n)), .int .i64 (wrap64 (a2 + n)), .int .i64 a3, .int .i64 a4, .int .i64 a5, .int .i64 a6, .int .i64 a7, .int .i64 a8, .int .i64 a9, .int .i64 a10] := o1.set 3 (.int .i64 (wrap64 (a2 + n)))
  clear g1 g2
  generalize w1.setCell ⟨w.heap.size, 3, none⟩ (.int .i64 (wrap64 (a2 + n))) = w2 at *
  go_wp2_with (first | (refine wpList_load_ob rfl 78 (.tmp 4) rfl rfl _ o1 Try.underlying78 rfl (by kernel_rfl) ?_) | (refine wpList_store_ob rfl 78 (.tmp 6) (.tmp 210) rfl rfl rfl o2 rfl (by kernel_rfl) (by simp [Value.oneCell']) ?_; intro w4 hO hg))
  have hb := hB.grown hg hB.size (fun k e => by cases e; omega)
  refine bodyPost_ret (v := .tuple #[.agg #[.string g, .int .i64 a0, .int .i64 (wrap64 (a1 - n)), .int .i64 (wrap64 (a2 + n)), .int .i64 a3, .int .i64 a4, .int .i64 a5, .int .i64 a6, .int .i64 a7, .int .i64 a8, .int .i64 a9, .int .i64 a10], .int .i64 a1]) ?_ rfl ⟨rfl, hb⟩
  have c0 := hO.cell (j := 0) (v := .string g) rfl
  have c1 := hO.cell (j := 1) (v := .int .i64 a0) rfl
  have c2 := hO.cell (j := 2) (v := .int .i64 (wrap64 (a1 - n))) rfl
  have c3 := hO.cell (j := 3) (v := .int .i64 (wrap64 (a2 + n))) rfl
  have c4 := hO.cell (j := 4) (v := .int .i64 a3) rfl
  have c5 := hO.cell (j := 5) (v := .int .i64 a4) rfl
  have c6 := hO.cell (j := 6) (v := .int .i64 a5) rfl
  have c7 := hO.cell (j := 7) (v := .int .i64 a6) rfl
  have c8 := hO.cell (j := 8) (v := .int .i64 a7) rfl
  have c9 := hO.cell (j := 9) (v := .int .i64 a8) rfl
  have c10 := hO.cell (j := 10) (v := .int .i64 a9) rfl
  have c11 := hO.cell (j := 11) (v := .int .i64 a10) rfl
  simp [results, Try.f56, go_sem, c0, c1, c2, c3, c4, c5, c6, c7, c8, c9, c10, c11]
set_option maxRecDepth 100000 in
set_option maxHeartbeats 8000000 in
theorem move_5 (g : ByteArray) (a0 a1 a2 a3 a4 a5 a6 a7 a8 a9 a10 n : Int) (w : World) :
    Calls Try.prog 56 #[.int .i64 5, .agg #[.string g, .int .i64 a0, .int .i64 a1, .int .i64 a2, .int .i64 a3, .int .i64 a4, .int .i64 a5, .int .i64 a6, .int .i64 a7, .int .i64 a8, .int .i64 a9, .int .i64 a10], .int .i64 n] w fun e w' => e = .returned (.tuple #[.agg #[.string g, .int .i64 a0, .int .i64 (wrap64 (a1 + n)), .int .i64 (wrap64 (a2 - n)), .int .i64 a3, .int .i64 a4, .int .i64 a5, .int .i64 a6, .int .i64 a7, .int .i64 a8, .int .i64 a9, .int .i64 a10], .int .i64 a2]) ∧ Below w.heap.size w w' := by
  have hB : Below w.heap.size w ((w.alloc (.cells #[.string g, .int .i64 a0, .int .i64 a1, .int .i64 a2, .int .i64 a3, .int .i64 a4, .int .i64 a5, .int .i64 a6, .int .i64 a7, .int .i64 a8, .int .i64 a9, .int .i64 a10] 78)).alloc (.cells #[.string ⟨#[]⟩, .int .i64 0, .int .i64 0, .int .i64 0, .int .i64 0, .int .i64 0, .int .i64 0, .int .i64 0, .int .i64 0, .int .i64 0, .int .i64 0, .int .i64 0] 78)) := ((Below.refl _ w).alloc (Nat.le_refl _) _).alloc (by simp) _
  have o1 := (Ob.new w 78 #[.string g, .int .i64 a0, .int .i64 a1, .int .i64 a2, .int .i64 a3, .int .i64 a4, .int .i64 a5, .int .i64 a6, .int .i64 a7, .int .i64 a8, .int .i64 a9, .int .i64 a10]).alloc (.cells #[.string ⟨#[]⟩, .int .i64 0, .int .i64 0, .int .i64 0, .int .i64 0, .int .i64 0, .int .i64 0, .int .i64 0, .int .i64 0, .int .i64 0, .int .i64 0, .int .i64 0] 78)
  have o2 := Ob.new (w.alloc (.cells #[.string g, .int .i64 a0, .int .i64 a1, .int .i64 a2, .int .i64 a3, .int .i64 a4, .int .i64 a5, .int .i64 a6, .int .i64 a7, .int .i64 a8, .int .i64 a9, .int .i64 a10] 78)) 78 #[.string ⟨#[]⟩, .int .i64 0, .int .i64 0, .int .i64 0, .int .i64 0, .int .i64 0, .int .i64 0, .int .i64 0, .int .i64 0, .int .i64 0, .int .i64 0, .int .i64 0]
  rw [World.size_alloc] at o2
  have hs : ((w.alloc (.cells #[.string g, .int .i64 a0, .int .i64 a1, .int .i64 a2, .int .i64 a3, .int .i64 a4, .int .i64 a5, .int .i64 a6, .int .i64 a7, .int .i64 a8, .int .i64 a9, .int .i64 a10] 78)).alloc (.cells #[.string ⟨#[]⟩, .int .i64 0, .int .i64 0, .int .i64 0, .int .i64 0, .int .i64 0, .int .i64 0, .int .i64 0, .int .i64 0, .int .i64 0, .int .i64 0, .int .i64 0] 78)).heap.size = w.heap.size + 2 := by simp
  have HS := Lib.hid hs
  clear hs
  go_enter Try.func56, Try.ntmps56
  go_upto_region 1 with (fail)
  generalize ((w.alloc (.cells #[.string g, .int .i64 a0, .int .i64 a1, .int .i64 a2, .int .i64 a3, .int .i64 a4, .int .i64 a5, .int .i64 a6, .int .i64 a7, .int .i64 a8, .int .i64 a9, .int .i64 a10] 78)).alloc (.cells #[.string ⟨#[]⟩, .int .i64 0, .int .i64 0, .int .i64 0, .int .i64 0, .int .i64 0, .int .i64 0, .int .i64 0, .int .i64 0, .int .i64 0, .int .i64 0, .int .i64 0] 78)) = w0 at *
  have c2 := o1.cell (j := 3) (v := .int .i64 a2) rfl
  have z2 := o1.frozen 3
  have c1 := o1.cell (j := 2) (v := .int .i64 a1) rfl
  have z1 := o1.frozen 2
  go_upto_region 33 with (fail)
  clear c2 z2 c1 z1
  have g1 := grownBy_set w0 w.heap.size 3 (.int .i64 (wrap64 (a2 - n)))
  replace o2 := o2.kept g1 (fun e => by have := Option.some.inj e; omega)
  replace hB := hB.grown g1 hB.size (fun k e => by cases e; exact Nat.le_refl _)
  replace o1 := o1.set 3 (.int .i64 (wrap64 (a2 - n)))
  generalize w0.setCell ⟨w.heap.size, 3, none⟩ (.int .i64 (wrap64 (a2 - n))) = w1 at *
  have g2 := grownBy_set w1 w.heap.size 2 (.int .i64 (wrap64 (a1 + n)))
  replace o2 := o2.kept g2 (fun e => by have := Option.some.inj e; omega)
  replace hB := hB.grown g2 hB.size (fun k e => by cases e; exact Nat.le_refl _)
  replace o1 : Ob (w1.setCell ⟨w.heap.size, 2, none⟩ (.int .i64 (wrap64 (a1 + n)))) w.heap.size 78 #[.string g, .int .i64 a0, .int .i64 (wrap64 (a1 + n)), .int .i64 (wrap64 (a2 - n)), .int .i64 a3, .int .i64 a4, .int .i64 a5, .int .i64 a6, .int .i64 a7, .int .i64 a8, .int .i64 a9, .int .i64 a10] := o1.set 2 (.int .i64 (wrap64 (a1 + n)))
  clear g1 g2
  generalize w1.setCell ⟨w.heap.size, 2, none⟩ (.int .i64 (wrap64 (a1 + n))) = w2 at *
  go_wp2_with (first | (refine wpList_load_ob rfl 78 (.tmp 4) rfl rfl _ o1 Try.underlying78 rfl (by kernel_rfl) ?_) | (refine wpList_store_ob rfl 78 (.tmp 6) (.tmp 210) rfl rfl rfl o2 rfl (by kernel_rfl) (by simp [Value.oneCell']) ?_; intro w4 hO hg))
  have hb := hB.grown hg hB.size (fun k e => by cases e; omega)
  refine bodyPost_ret (v := .tuple #[.agg #[.string g, .int .i64 a0, .int .i64 (wrap64 (a1 + n)), .int .i64 (wrap64 (a2 - n)), .int .i64 a3, .int .i64 a4, .int .i64 a5, .int .i64 a6, .int .i64 a7, .int .i64 a8, .int .i64 a9, .int .i64 a10], .int .i64 a2]) ?_ rfl ⟨rfl, hb⟩
  have c0 := hO.cell (j := 0) (v := .string g) rfl
  have c1 := hO.cell (j := 1) (v := .int .i64 a0) rfl
  have c2 := hO.cell (j := 2) (v := .int .i64 (wrap64 (a1 + n))) rfl
  have c3 := hO.cell (j := 3) (v := .int .i64 (wrap64 (a2 - n))) rfl
  have c4 := hO.cell (j := 4) (v := .int .i64 a3) rfl
  have c5 := hO.cell (j := 5) (v := .int .i64 a4) rfl
  have c6 := hO.cell (j := 6) (v := .int .i64 a5) rfl
  have c7 := hO.cell (j := 7) (v := .int .i64 a6) rfl
  have c8 := hO.cell (j := 8) (v := .int .i64 a7) rfl
  have c9 := hO.cell (j := 9) (v := .int .i64 a8) rfl
  have c10 := hO.cell (j := 10) (v := .int .i64 a9) rfl
  have c11 := hO.cell (j := 11) (v := .int .i64 a10) rfl
  simp [results, Try.f56, go_sem, c0, c1, c2, c3, c4, c5, c6, c7, c8, c9, c10, c11]
set_option maxRecDepth 100000 in
set_option maxHeartbeats 8000000 in
theorem move_6 (g : ByteArray) (a0 a1 a2 a3 a4 a5 a6 a7 a8 a9 a10 n : Int) (w : World) :
    Calls Try.prog 56 #[.int .i64 6, .agg #[.string g, .int .i64 a0, .int .i64 a1, .int .i64 a2, .int .i64 a3, .int .i64 a4, .int .i64 a5, .int .i64 a6, .int .i64 a7, .int .i64 a8, .int .i64 a9, .int .i64 a10], .int .i64 n] w fun e w' => e = .returned (.tuple #[.agg #[.string g, .int .i64 a0, .int .i64 a1, .int .i64 (wrap64 (a2 - n)), .int .i64 a3, .int .i64 a4, .int .i64 a5, .int .i64 a6, .int .i64 a7, .int .i64 (wrap64 (a8 + n)), .int .i64 a9, .int .i64 a10], .int .i64 a2]) ∧ Below w.heap.size w w' := by
  have hB : Below w.heap.size w ((w.alloc (.cells #[.string g, .int .i64 a0, .int .i64 a1, .int .i64 a2, .int .i64 a3, .int .i64 a4, .int .i64 a5, .int .i64 a6, .int .i64 a7, .int .i64 a8, .int .i64 a9, .int .i64 a10] 78)).alloc (.cells #[.string ⟨#[]⟩, .int .i64 0, .int .i64 0, .int .i64 0, .int .i64 0, .int .i64 0, .int .i64 0, .int .i64 0, .int .i64 0, .int .i64 0, .int .i64 0, .int .i64 0] 78)) := ((Below.refl _ w).alloc (Nat.le_refl _) _).alloc (by simp) _
  have o1 := (Ob.new w 78 #[.string g, .int .i64 a0, .int .i64 a1, .int .i64 a2, .int .i64 a3, .int .i64 a4, .int .i64 a5, .int .i64 a6, .int .i64 a7, .int .i64 a8, .int .i64 a9, .int .i64 a10]).alloc (.cells #[.string ⟨#[]⟩, .int .i64 0, .int .i64 0, .int .i64 0, .int .i64 0, .int .i64 0, .int .i64 0, .int .i64 0, .int .i64 0, .int .i64 0, .int .i64 0, .int .i64 0] 78)
  have o2 := Ob.new (w.alloc (.cells #[.string g, .int .i64 a0, .int .i64 a1, .int .i64 a2, .int .i64 a3, .int .i64 a4, .int .i64 a5, .int .i64 a6, .int .i64 a7, .int .i64 a8, .int .i64 a9, .int .i64 a10] 78)) 78 #[.string ⟨#[]⟩, .int .i64 0, .int .i64 0, .int .i64 0, .int .i64 0, .int .i64 0, .int .i64 0, .int .i64 0, .int .i64 0, .int .i64 0, .int .i64 0, .int .i64 0]
  rw [World.size_alloc] at o2
  have hs : ((w.alloc (.cells #[.string g, .int .i64 a0, .int .i64 a1, .int .i64 a2, .int .i64 a3, .int .i64 a4, .int .i64 a5, .int .i64 a6, .int .i64 a7, .int .i64 a8, .int .i64 a9, .int .i64 a10] 78)).alloc (.cells #[.string ⟨#[]⟩, .int .i64 0, .int .i64 0, .int .i64 0, .int .i64 0, .int .i64 0, .int .i64 0, .int .i64 0, .int .i64 0, .int .i64 0, .int .i64 0, .int .i64 0] 78)).heap.size = w.heap.size + 2 := by simp
  have HS := Lib.hid hs
  clear hs
  go_enter Try.func56, Try.ntmps56
  go_upto_region 1 with (fail)
  generalize ((w.alloc (.cells #[.string g, .int .i64 a0, .int .i64 a1, .int .i64 a2, .int .i64 a3, .int .i64 a4, .int .i64 a5, .int .i64 a6, .int .i64 a7, .int .i64 a8, .int .i64 a9, .int .i64 a10] 78)).alloc (.cells #[.string ⟨#[]⟩, .int .i64 0, .int .i64 0, .int .i64 0, .int .i64 0, .int .i64 0, .int .i64 0, .int .i64 0, .int .i64 0, .int .i64 0, .int .i64 0, .int .i64 0] 78)) = w0 at *
  have c2 := o1.cell (j := 3) (v := .int .i64 a2) rfl
  have z2 := o1.frozen 3
  have c8 := o1.cell (j := 9) (v := .int .i64 a8) rfl
  have z8 := o1.frozen 9
  go_upto_region 33 with (fail)
  clear c2 z2 c8 z8
  have g1 := grownBy_set w0 w.heap.size 3 (.int .i64 (wrap64 (a2 - n)))
  replace o2 := o2.kept g1 (fun e => by have := Option.some.inj e; omega)
  replace hB := hB.grown g1 hB.size (fun k e => by cases e; exact Nat.le_refl _)
  replace o1 := o1.set 3 (.int .i64 (wrap64 (a2 - n)))
  generalize w0.setCell ⟨w.heap.size, 3, none⟩ (.int .i64 (wrap64 (a2 - n))) = w1 at *
  have g2 := grownBy_set w1 w.heap.size 9 (.int .i64 (wrap64 (a8 + n)))
  replace o2 := o2.kept g2 (fun e => by have := Option.some.inj e; omega)
  replace hB := hB.grown g2 hB.size (fun k e => by cases e; exact Nat.le_refl _)
  replace o1 : Ob (w1.setCell ⟨w.heap.size, 9, none⟩ (.int .i64 (wrap64 (a8 + n)))) w.heap.size 78 #[.string g, .int .i64 a0, .int .i64 a1, .int .i64 (wrap64 (a2 - n)), .int .i64 a3, .int .i64 a4, .int .i64 a5, .int .i64 a6, .int .i64 a7, .int .i64 (wrap64 (a8 + n)), .int .i64 a9, .int .i64 a10] := o1.set 9 (.int .i64 (wrap64 (a8 + n)))
  clear g1 g2
  generalize w1.setCell ⟨w.heap.size, 9, none⟩ (.int .i64 (wrap64 (a8 + n))) = w2 at *
  go_wp2_with (first | (refine wpList_load_ob rfl 78 (.tmp 4) rfl rfl _ o1 Try.underlying78 rfl (by kernel_rfl) ?_) | (refine wpList_store_ob rfl 78 (.tmp 6) (.tmp 210) rfl rfl rfl o2 rfl (by kernel_rfl) (by simp [Value.oneCell']) ?_; intro w4 hO hg))
  have hb := hB.grown hg hB.size (fun k e => by cases e; omega)
  refine bodyPost_ret (v := .tuple #[.agg #[.string g, .int .i64 a0, .int .i64 a1, .int .i64 (wrap64 (a2 - n)), .int .i64 a3, .int .i64 a4, .int .i64 a5, .int .i64 a6, .int .i64 a7, .int .i64 (wrap64 (a8 + n)), .int .i64 a9, .int .i64 a10], .int .i64 a2]) ?_ rfl ⟨rfl, hb⟩
  have c0 := hO.cell (j := 0) (v := .string g) rfl
  have c1 := hO.cell (j := 1) (v := .int .i64 a0) rfl
  have c2 := hO.cell (j := 2) (v := .int .i64 a1) rfl
  have c3 := hO.cell (j := 3) (v := .int .i64 (wrap64 (a2 - n))) rfl
  have c4 := hO.cell (j := 4) (v := .int .i64 a3) rfl
  have c5 := hO.cell (j := 5) (v := .int .i64 a4) rfl
  have c6 := hO.cell (j := 6) (v := .int .i64 a5) rfl
  have c7 := hO.cell (j := 7) (v := .int .i64 a6) rfl
  have c8 := hO.cell (j := 8) (v := .int .i64 a7) rfl
  have c9 := hO.cell (j := 9) (v := .int .i64 (wrap64 (a8 + n))) rfl
  have c10 := hO.cell (j := 10) (v := .int .i64 a9) rfl
  have c11 := hO.cell (j := 11) (v := .int .i64 a10) rfl
  simp [results, Try.f56, go_sem, c0, c1, c2, c3, c4, c5, c6, c7, c8, c9, c10, c11]
set_option maxRecDepth 100000 in
set_option maxHeartbeats 8000000 in
theorem move_7 (g : ByteArray) (a0 a1 a2 a3 a4 a5 a6 a7 a8 a9 a10 n : Int) (w : World) :
    Calls Try.prog 56 #[.int .i64 7, .agg #[.string g, .int .i64 a0, .int .i64 a1, .int .i64 a2, .int .i64 a3, .int .i64 a4, .int .i64 a5, .int .i64 a6, .int .i64 a7, .int .i64 a8, .int .i64 a9, .int .i64 a10], .int .i64 n] w fun e w' => e = .returned (.tuple #[.agg #[.string g, .int .i64 a0, .int .i64 a1, .int .i64 a2, .int .i64 (wrap64 (a3 + n)), .int .i64 a4, .int .i64 (wrap64 (a5 + n)), .int .i64 a6, .int .i64 a7, .int .i64 a8, .int .i64 a9, .int .i64 a10], .int .i64 (-1)]) ∧ Below w.heap.size w w' := by
  have hB : Below w.heap.size w ((w.alloc (.cells #[.string g, .int .i64 a0, .int .i64 a1, .int .i64 a2, .int .i64 a3, .int .i64 a4, .int .i64 a5, .int .i64 a6, .int .i64 a7, .int .i64 a8, .int .i64 a9, .int .i64 a10] 78)).alloc (.cells #[.string ⟨#[]⟩, .int .i64 0, .int .i64 0, .int .i64 0, .int .i64 0, .int .i64 0, .int .i64 0, .int .i64 0, .int .i64 0, .int .i64 0, .int .i64 0, .int .i64 0] 78)) := ((Below.refl _ w).alloc (Nat.le_refl _) _).alloc (by simp) _
  have o1 := (Ob.new w 78 #[.string g, .int .i64 a0, .int .i64 a1, .int .i64 a2, .int .i64 a3, .int .i64 a4, .int .i64 a5, .int .i64 a6, .int .i64 a7, .int .i64 a8, .int .i64 a9, .int .i64 a10]).alloc (.cells #[.string ⟨#[]⟩, .int .i64 0, .int .i64 0, .int .i64 0, .int .i64 0, .int .i64 0, .int .i64 0, .int .i64 0, .int .i64 0, .int .i64 0, .int .i64 0, .int .i64 0] 78)
  have o2 := Ob.new (w.alloc (.cells #[.string g, .int .i64 a0, .int .i64 a1, .int .i64 a2, .int .i64 a3, .int .i64 a4, .int .i64 a5, .int .i64 a6, .int .i64 a7, .int .i64 a8, .int .i64 a9, .int .i64 a10] 78)) 78 #[.string ⟨#[]⟩, .int .i64 0, .int .i64 0, .int .i64 0, .int .i64 0, .int .i64 0, .int .i64 0, .int .i64 0, .int .i64 0, .int .i64 0, .int .i64 0, .int .i64 0]
  rw [World.size_alloc] at o2
  have hs : ((w.alloc (.cells #[.string g, .int .i64 a0, .int .i64 a1, .int .i64 a2, .int .i64 a3, .int .i64 a4, .int .i64 a5, .int .i64 a6, .int .i64 a7, .int .i64 a8, .int .i64 a9, .int .i64 a10] 78)).alloc (.cells #[.string ⟨#[]⟩, .int .i64 0, .int .i64 0, .int .i64 0, .int .i64 0, .int .i64 0, .int .i64 0, .int .i64 0, .int .i64 0, .int .i64 0, .int .i64 0, .int .i64 0] 78)).heap.size = w.heap.size + 2 := by simp
  have HS := Lib.hid hs
  clear hs
  go_enter Try.func56, Try.ntmps56
  go_upto_region 1 with (fail)
  generalize ((w.alloc (.cells #[.string g, .int .i64 a0, .int .i64 a1, .int .i64 a2, .int .i64 a3, .int .i64 a4, .int .i64 a5, .int .i64 a6, .int .i64 a7, .int .i64 a8, .int .i64 a9, .int .i64 a10] 78)).alloc (.cells #[.string ⟨#[]⟩, .int .i64 0, .int .i64 0, .int .i64 0, .int .i64 0, .int .i64 0, .int .i64 0, .int .i64 0, .int .i64 0, .int .i64 0, .int .i64 0, .int .i64 0] 78)) = w0 at *
  have c3 := o1.cell (j := 4) (v := .int .i64 a3) rfl
  have z3 := o1.frozen 4
  have c5 := o1.cell (j := 6) (v := .int .i64 a5) rfl
  have z5 := o1.frozen 6
  go_upto_region 33 with (fail)
  clear c3 z3 c5 z5
  have g1 := grownBy_set w0 w.heap.size 4 (.int .i64 (wrap64 (a3 + n)))
  replace o2 := o2.kept g1 (fun e => by have := Option.some.inj e; omega)
  replace hB := hB.grown g1 hB.size (fun k e => by cases e; exact Nat.le_refl _)
  replace o1 := o1.set 4 (.int .i64 (wrap64 (a3 + n)))
  generalize w0.setCell ⟨w.heap.size, 4, none⟩ (.int .i64 (wrap64 (a3 + n))) = w1 at *
  have g2 := grownBy_set w1 w.heap.size 6 (.int .i64 (wrap64 (a5 + n)))
  replace o2 := o2.kept g2 (fun e => by have := Option.some.inj e; omega)
  replace hB := hB.grown g2 hB.size (fun k e => by cases e; exact Nat.le_refl _)
  replace o1 : Ob (w1.setCell ⟨w.heap.size, 6, none⟩ (.int .i64 (wrap64 (a5 + n)))) w.heap.size 78 #[.string g, .int .i64 a0, .int .i64 a1, .int .i64 a2, .int .i64 (wrap64 (a3 + n)), .int .i64 a4, .int .i64 (wrap64 (a5 + n)), .int .i64 a6, .int .i64 a7, .int .i64 a8, .int .i64 a9, .int .i64 a10] := o1.set 6 (.int .i64 (wrap64 (a5 + n)))
  clear g1 g2
  generalize w1.setCell ⟨w.heap.size, 6, none⟩ (.int .i64 (wrap64 (a5 + n))) = w2 at *
  go_wp2_with (first | (refine wpList_load_ob rfl 78 (.tmp 4) rfl rfl _ o1 Try.underlying78 rfl (by kernel_rfl) ?_) | (refine wpList_store_ob rfl 78 (.tmp 6) (.tmp 210) rfl rfl rfl o2 rfl (by kernel_rfl) (by simp [Value.oneCell']) ?_; intro w4 hO hg))
  have hb := hB.grown hg hB.size (fun k e => by cases e; omega)
  refine bodyPost_ret (v := .tuple #[.agg #[.string g, .int .i64 a0, .int .i64 a1, .int .i64 a2, .int .i64 (wrap64 (a3 + n)), .int .i64 a4, .int .i64 (wrap64 (a5 + n)), .int .i64 a6, .int .i64 a7, .int .i64 a8, .int .i64 a9, .int .i64 a10], .int .i64 (-1)]) ?_ rfl ⟨rfl, hb⟩
  have c0 := hO.cell (j := 0) (v := .string g) rfl
  have c1 := hO.cell (j := 1) (v := .int .i64 a0) rfl
  have c2 := hO.cell (j := 2) (v := .int .i64 a1) rfl
  have c3 := hO.cell (j := 3) (v := .int .i64 a2) rfl
  have c4 := hO.cell (j := 4) (v := .int .i64 (wrap64 (a3 + n))) rfl
  have c5 := hO.cell (j := 5) (v := .int .i64 a4) rfl
  have c6 := hO.cell (j := 6) (v := .int .i64 (wrap64 (a5 + n))) rfl
  have c7 := hO.cell (j := 7) (v := .int .i64 a6) rfl
  have c8 := hO.cell (j := 8) (v := .int .i64 a7) rfl
  have c9 := hO.cell (j := 9) (v := .int .i64 a8) rfl
  have c10 := hO.cell (j := 10) (v := .int .i64 a9) rfl
  have c11 := hO.cell (j := 11) (v := .int .i64 a10) rfl
  simp [results, Try.f56, go_sem, c0, c1, c2, c3, c4, c5, c6, c7, c8, c9, c10, c11]
set_option maxRecDepth 100000 in
set_option maxHeartbeats 8000000 in
theorem move_8 (g : ByteArray) (a0 a1 a2 a3 a4 a5 a6 a7 a8 a9 a10 n : Int) (w : World) :
    Calls Try.prog 56 #[.int .i64 8, .agg #[.string g, .int .i64 a0, .int .i64 a1, .int .i64 a2, .int .i64 a3, .int .i64 a4, .int .i64 a5, .int .i64 a6, .int .i64 a7, .int .i64 a8, .int .i64 a9, .int .i64 a10], .int .i64 n] w fun e w' => e = .returned (.tuple #[.agg #[.string g, .int .i64 (wrap64 (a0 + n)), .int .i64 a1, .int .i64 a2, .int .i64 (wrap64 (a3 - n)), .int .i64 a4, .int .i64 a5, .int .i64 a6, .int .i64 a7, .int .i64 a8, .int .i64 a9, .int .i64 a10], .int .i64 a3]) ∧ Below w.heap.size w w' := by
  have hB : Below w.heap.size w ((w.alloc (.cells #[.string g, .int .i64 a0, .int .i64 a1, .int .i64 a2, .int .i64 a3, .int .i64 a4, .int .i64 a5, .int .i64 a6, .int .i64 a7, .int .i64 a8, .int .i64 a9, .int .i64 a10] 78)).alloc (.cells #[.string ⟨#[]⟩, .int .i64 0, .int .i64 0, .int .i64 0, .int .i64 0, .int .i64 0, .int .i64 0, .int .i64 0, .int .i64 0, .int .i64 0, .int .i64 0, .int .i64 0] 78)) := ((Below.refl _ w).alloc (Nat.le_refl _) _).alloc (by simp) _
  have o1 := (Ob.new w 78 #[.string g, .int .i64 a0, .int .i64 a1, .int .i64 a2, .int .i64 a3, .int .i64 a4, .int .i64 a5, .int .i64 a6, .int .i64 a7, .int .i64 a8, .int .i64 a9, .int .i64 a10]).alloc (.cells #[.string ⟨#[]⟩, .int .i64 0, .int .i64 0, .int .i64 0, .int .i64 0, .int .i64 0, .int .i64 0, .int .i64 0, .int .i64 0, .int .i64 0, .int .i64 0, .int .i64 0] 78)
  have o2 := Ob.new (w.alloc (.cells #[.string g, .int .i64 a0, .int .i64 a1, .int .i64 a2, .int .i64 a3, .int .i64 a4, .int .i64 a5, .int .i64 a6, .int .i64 a7, .int .i64 a8, .int .i64 a9, .int .i64 a10] 78)) 78 #[.string ⟨#[]⟩, .int .i64 0, .int .i64 0, .int .i64 0, .int .i64 0, .int .i64 0, .int .i64 0, .int .i64 0, .int .i64 0, .int .i64 0, .int .i64 0, .int .i64 0]
  rw [World.size_alloc] at o2
  have hs : ((w.alloc (.cells #[.string g, .int .i64 a0, .int .i64 a1, .int .i64 a2, .int .i64 a3, .int .i64 a4, .int .i64 a5, .int .i64 a6, .int .i64 a7, .int .i64 a8, .int .i64 a9, .int .i64 a10] 78)).alloc (.cells #[.string ⟨#[]⟩, .int .i64 0, .int .i64 0, .int .i64 0, .int .i64 0, .int .i64 0, .int .i64 0, .int .i64 0, .int .i64 0, .int .i64 0, .int .i64 0, .int .i64 0] 78)).heap.size = w.heap.size + 2 := by simp
  have HS := Lib.hid hs
  clear hs
  go_enter Try.func56, Try.ntmps56
  go_upto_region 1 with (fail)
  generalize ((w.alloc (.cells #[.string g, .int .i64 a0, .int .i64 a1, .int .i64 a2, .int .i64 a3, .int .i64 a4, .int .i64 a5, .int .i64 a6, .int .i64 a7, .int .i64 a8, .int .i64 a9, .int .i64 a10] 78)).alloc (.cells #[.string ⟨#[]⟩, .int .i64 0, .int .i64 0, .int .i64 0, .int .i64 0, .int .i64 0, .int .i64 0, .int .i64 0, .int .i64 0, .int .i64 0, .int .i64 0, .int .i64 0] 78)) = w0 at *
  have c3 := o1.cell (j := 4) (v := .int .i64 a3) rfl
  have z3 := o1.frozen 4
  have c0 := o1.cell (j := 1) (v := .int .i64 a0) rfl
  have z0 := o1.frozen 1
  go_upto_region 33 with (fail)
  clear c3 z3 c0 z0
  have g1 := grownBy_set w0 w.heap.size 4 (.int .i64 (wrap64 (a3 - n)))
  replace o2 := o2.kept g1 (fun e => by have := Option.some.inj e; omega)
  replace hB := hB.grown g1 hB.size (fun k e => by cases e; exact Nat.le_refl _)
  replace o1 := o1.set 4 (.int .i64 (wrap64 (a3 - n)))
  generalize w0.setCell ⟨w.heap.size, 4, none⟩ (.int .i64 (wrap64 (a3 - n))) = w1 at *
  have g2 := grownBy_set w1 w.heap.size 1 (.int .i64 (wrap64 (a0 + n)))
  replace o2 := o2.kept g2 (fun e => by have := Option.some.inj e; omega)
  replace hB := hB.grown g2 hB.size (fun k e => by cases e; exact Nat.le_refl _)
  replace o1 : Ob (w1.setCell ⟨w.heap.size, 1, none⟩ (.int .i64 (wrap64 (a0 + n)))) w.heap.size 78 #[.string g, .int .i64 (wrap64 (a0 + n)), .int .i64 a1, .int .i64 a2, .int .i64 (wrap64 (a3 - n)), .int .i64 a4, .int .i64 a5, .int .i64 a6, .int .i64 a7, .int .i64 a8, .int .i64 a9, .int .i64 a10] := o1.set 1 (.int .i64 (wrap64 (a0 + n)))
  clear g1 g2
  generalize w1.setCell ⟨w.heap.size, 1, none⟩ (.int .i64 (wrap64 (a0 + n))) = w2 at *
  go_wp2_with (first | (refine wpList_load_ob rfl 78 (.tmp 4) rfl rfl _ o1 Try.underlying78 rfl (by kernel_rfl) ?_) | (refine wpList_store_ob rfl 78 (.tmp 6) (.tmp 210) rfl rfl rfl o2 rfl (by kernel_rfl) (by simp [Value.oneCell']) ?_; intro w4 hO hg))
  have hb := hB.grown hg hB.size (fun k e => by cases e; omega)
  refine bodyPost_ret (v := .tuple #[.agg #[.string g, .int .i64 (wrap64 (a0 + n)), .int .i64 a1, .int .i64 a2, .int .i64 (wrap64 (a3 - n)), .int .i64 a4, .int .i64 a5, .int .i64 a6, .int .i64 a7, .int .i64 a8, .int .i64 a9, .int .i64 a10], .int .i64 a3]) ?_ rfl ⟨rfl, hb⟩
  have c0 := hO.cell (j := 0) (v := .string g) rfl
  have c1 := hO.cell (j := 1) (v := .int .i64 (wrap64 (a0 + n))) rfl
  have c2 := hO.cell (j := 2) (v := .int .i64 a1) rfl
  have c3 := hO.cell (j := 3) (v := .int .i64 a2) rfl
  have c4 := hO.cell (j := 4) (v := .int .i64 (wrap64 (a3 - n))) rfl
  have c5 := hO.cell (j := 5) (v := .int .i64 a4) rfl
  have c6 := hO.cell (j := 6) (v := .int .i64 a5) rfl
  have c7 := hO.cell (j := 7) (v := .int .i64 a6) rfl
  have c8 := hO.cell (j := 8) (v := .int .i64 a7) rfl
  have c9 := hO.cell (j := 9) (v := .int .i64 a8) rfl
  have c10 := hO.cell (j := 10) (v := .int .i64 a9) rfl
  have c11 := hO.cell (j := 11) (v := .int .i64 a10) rfl
  simp [results, Try.f56, go_sem, c0, c1, c2, c3, c4, c5, c6, c7, c8, c9, c10, c11]
set_option maxRecDepth 100000 in
set_option maxHeartbeats 8000000 in
theorem move_9 (g : ByteArray) (a0 a1 a2 a3 a4 a5 a6 a7 a8 a9 a10 n : Int) (w : World) :
    Calls Try.prog 56 #[.int .i64 9, .agg #[.string g, .int .i64 a0, .int .i64 a1, .int .i64 a2, .int .i64 a3, .int .i64 a4, .int .i64 a5, .int .i64 a6, .int .i64 a7, .int .i64 a8, .int .i64 a9, .int .i64 a10], .int .i64 n] w fun e w' => e = .returned (.tuple #[.agg #[.string g, .int .i64 a0, .int .i64 a1, .int .i64 a2, .int .i64 (wrap64 (a3 - n)), .int .i64 a4, .int .i64 a5, .int .i64 a6, .int .i64 a7, .int .i64 a8, .int .i64 (wrap64 (a9 + n)), .int .i64 a10], .int .i64 a3]) ∧ Below w.heap.size w w' := by
  have hB : Below w.heap.size w ((w.alloc (.cells #[.string g, .int .i64 a0, .int .i64 a1, .int .i64 a2, .int .i64 a3, .int .i64 a4, .int .i64 a5, .int .i64 a6, .int .i64 a7, .int .i64 a8, .int .i64 a9, .int .i64 a10] 78)).alloc (.cells #[.string ⟨#[]⟩, .int .i64 0, .int .i64 0, .int .i64 0, .int .i64 0, .int .i64 0, .int .i64 0, .int .i64 0, .int .i64 0, .int .i64 0, .int .i64 0, .int .i64 0] 78)) := ((Below.refl _ w).alloc (Nat.le_refl _) _).alloc (by simp) _
  have o1 := (Ob.new w 78 #[.string g, .int .i64 a0, .int .i64 a1, .int .i64 a2, .int .i64 a3, .int .i64 a4, .int .i64 a5, .int .i64 a6, .int .i64 a7, .int .i64 a8, .int .i64 a9, .int .i64 a10]).alloc (.cells #[.string ⟨#[]⟩, .int .i64 0, .int .i64 0, .int .i64 0, .int .i64 0, .int .i64 0, .int .i64 0, .int .i64 0, .int .i64 0, .int .i64 0, .int .i64 0, .int .i64 0] 78)
  have o2 := Ob.new (w.alloc (.cells #[.string g, .int .i64 a0, .int .i64 a1, .int .i64 a2, .int .i64 a3, .int .i64 a4, .int .i64 a5, .int .i64 a6, .int .i64 a7, .int .i64 a8, .int .i64 a9, .int .i64 a10] 78)) 78 #[.string ⟨#[]⟩, .int .i64 0, .int .i64 0, .int .i64 0, .int .i64 0, .int .i64 0, .int .i64 0, .int .i64 0, .int .i64 0, .int .i64 0, .int .i64 0, .int .i64 0]
  rw [World.size_alloc] at o2
  have hs : ((w.alloc (.cells #[.string g, .int .i64 a0, .int .i64 a1, .int .i64 a2, .int .i64 a3, .int .i64 a4, .int .i64 a5, .int .i64 a6, .int .i64 a7, .int .i64 a8, .int .i64 a9, .int .i64 a10] 78)).alloc (.cells #[.string ⟨#[]⟩, .int .i64 0, .int .i64 0, .int .i64 0, .int .i64 0, .int .i64 0, .int .i64 0, .int .i64 0, .int .i64 0, .int .i64 0, .int .i64 0, .int .i64 0] 78)).heap.size = w.heap.size + 2 := by simp
  have HS := Lib.hid hs
  clear hs
  go_enter Try.func56, Try.ntmps56
  go_upto_region 1 with (fail)
  generalize ((w.alloc (.cells #[.string g, .int .i64 a0, .int .i64 a1, .int .i64 a2, .int .i64 a3, .int .i64 a4, .int .i64 a5, .int .i64 a6, .int .i64 a7, .int .i64 a8, .int .i64 a9, .int .i64 a10] 78)).alloc (.cells #[.string ⟨#[]⟩, .int .i64 0, .int .i64 0, .int .i64 0, .int .i64 0, .int .i64 0, .int .i64 0, .int .i64 0, .int .i64 0, .int .i64 0, .int .i64 0, .int .i64 0] 78)) = w0 at *
  have c3 := o1.cell (j := 4) (v := .int .i64 a3) rfl
  have z3 := o1.frozen 4
  have c9 := o1.cell (j := 10) (v := .int .i64 a9) rfl
  have z9 := o1.frozen 10
  go_upto_region 33 with (fail)
  clear c3 z3 c9 z9
  have g1 := grownBy_set w0 w.heap.size 4 (.int .i64 (wrap64 (a3 - n)))
  replace o2 := o2.kept g1 (fun e => by have := Option.some.inj e; omega)
  replace hB := hB.grown g1 hB.size (fun k e => by cases e; exact Nat.le_refl _)
  replace o1 := o1.set 4 (.int .i64 (wrap64 (a3 - n)))
  generalize w0.setCell ⟨w.heap.size, 4, none⟩ (.int .i64 (wrap64 (a3 - n))) = w1 at *
  have g2 := grownBy_set w1 w.heap.size 10 (.int .i64 (wrap64 (a9 + n)))
  replace o2 := o2.kept g2 (fun e => by have := Option.some.inj e; omega)
  replace hB := hB.grown g2 hB.size (fun k e => by cases e; exact Nat.le_refl _)
  replace o1 : Ob (w1.setCell ⟨w.heap.size, 10, none⟩ (.int .i64 (wrap64 (a9 + n)))) w.heap.size 78 #[.string g, .int .i64 a0, .int .i64 a1, .int .i64 a2, .int .i64 (wrap64 (a3 - n)), .int .i64 a4, .int .i64 a5, .int .i64 a6, .int .i64 a7, .int .i64 a8, .int .i64 (wrap64 (a9 + n)), .int .i64 a10] := o1.set 10 (.int .i64 (wrap64 (a9 + n)))
  clear g1 g2
  generalize w1.setCell ⟨w.heap.size, 10, none⟩ (.int .i64 (wrap64 (a9 + n))) = w2 at *
  go_wp2_with (first | (refine wpList_load_ob rfl 78 (.tmp 4) rfl rfl _ o1 Try.underlying78 rfl (by kernel_rfl) ?_) | (refine wpList_store_ob rfl 78 (.tmp 6) (.tmp 210) rfl rfl rfl o2 rfl (by kernel_rfl) (by simp [Value.oneCell']) ?_; intro w4 hO hg))
  have hb := hB.grown hg hB.size (fun k e => by cases e; omega)
  refine bodyPost_ret (v := .tuple #[.agg #[.string g, .int .i64 a0, .int .i64 a1, .int .i64 a2, .int .i64 (wrap64 (a3 - n)), .int .i64 a4, .int .i64 a5, .int .i64 a6, .int .i64 a7, .int .i64 a8, .int .i64 (wrap64 (a9 + n)), .int .i64 a10], .int .i64 a3]) ?_ rfl ⟨rfl, hb⟩
  have c0 := hO.cell (j := 0) (v := .string g) rfl
  have c1 := hO.cell (j := 1) (v := .int .i64 a0) rfl
  have c2 := hO.cell (j := 2) (v := .int .i64 a1) rfl
  have c3 := hO.cell (j := 3) (v := .int .i64 a2) rfl
  have c4 := hO.cell (j := 4) (v := .int .i64 (wrap64 (a3 - n))) rfl
  have c5 := hO.cell (j := 5) (v := .int .i64 a4) rfl
  have c6 := hO.cell (j := 6) (v := .int .i64 a5) rfl
  have c7 := hO.cell (j := 7) (v := .int .i64 a6) rfl
  have c8 := hO.cell (j := 8) (v := .int .i64 a7) rfl
  have c9 := hO.cell (j := 9) (v := .int .i64 a8) rfl
  have c10 := hO.cell (j := 10) (v := .int .i64 (wrap64 (a9 + n))) rfl
  have c11 := hO.cell (j := 11) (v := .int .i64 a10) rfl
  simp [results, Try.f56, go_sem, c0, c1, c2, c3, c4, c5, c6, c7, c8, c9, c10, c11]
set_option maxRecDepth 100000 in
set_option maxHeartbeats 8000000 in
theorem move_10 (g : ByteArray) (a0 a1 a2 a3 a4 a5 a6 a7 a8 a9 a10 n : Int) (w : World) :
    Calls Try.prog 56 #[.int .i64 10, .agg #[.string g, .int .i64 a0, .int .i64 a1, .int .i64 a2, .int .i64 a3, .int .i64 a4, .int .i64 a5, .int .i64 a6, .int .i64 a7, .int .i64 a8, .int .i64 a9, .int .i64 a10], .int .i64 n] w fun e w' => e = .returned (.tuple #[.agg #[.string g, .int .i64 (wrap64 (a0 - n)), .int .i64 a1, .int .i64 a2, .int .i64 a3, .int .i64 a4, .int .i64 a5, .int .i64 a6, .int .i64 a7, .int .i64 a8, .int .i64 a9, .int .i64 (wrap64 (a10 + n))], .int .i64 a0]) ∧ Below w.heap.size w w' := by
  have hB : Below w.heap.size w ((w.alloc (.cells #[.string g, .int .i64 a0, .int .i64 a1, .int .i64 a2, .int .i64 a3, .int .i64 a4, .int .i64 a5, .int .i64 a6, .int .i64 a7, .int .i64 a8, .int .i64 a9, .int .i64 a10] 78)).alloc (.cells #[.string ⟨#[]⟩, .int .i64 0, .int .i64 0, .int .i64 0, .int .i64 0, .int .i64 0, .int .i64 0, .int .i64 0, .int .i64 0, .int .i64 0, .int .i64 0, .int .i64 0] 78)) := ((Below.refl _ w).alloc (Nat.le_refl _) _).alloc (by simp) _
  have o1 := (Ob.new w 78 #[.string g, .int .i64 a0, .int .i64 a1, .int .i64 a2, .int .i64 a3, .int .i64 a4, .int .i64 a5, .int .i64 a6, .int .i64 a7, .int .i64 a8, .int .i64 a9, .int .i64 a10]).alloc (.cells #[.string ⟨#[]⟩, .int .i64 0, .int .i64 0, .int .i64 0, .int .i64 0, .int .i64 0, .int .i64 0, .int .i64 0, .int .i64 0, .int .i64 0, .int .i64 0, .int .i64 0] 78)
  have o2 := Ob.new (w.alloc (.cells #[.string g, .int .i64 a0, .int .i64 a1, .int .i64 a2, .int .i64 a3, .int .i64 a4, .int .i64 a5, .int .i64 a6, .int .i64 a7, .int .i64 a8, .int .i64 a9, .int .i64 a10] 78)) 78 #[.string ⟨#[]⟩, .int .i64 0, .int .i64 0, .int .i64 0, .int .i64 0, .int .i64 0, .int .i64 0, .int .i64 0, .int .i64 0, .int .i64 0, .int .i64 0, .int .i64 0]
  rw [World.size_alloc] at o2
  have hs : ((w.alloc (.cells #[.string g, .int .i64 a0, .int .i64 a1, .int .i64 a2, .int .i64 a3, .int .i64 a4, .int .i64 a5, .int .i64 a6, .int .i64 a7, .int .i64 a8, .int .i64 a9, .int .i64 a10] 78)).alloc (.cells #[.string ⟨#[]⟩, .int .i64 0, .int .i64 0, .int .i64 0, .int .i64 0, .int .i64 0, .int .i64 0, .int .i64 0, .int .i64 0, .int .i64 0, .int .i64 0, .int .i64 0] 78)).heap.size = w.heap.size + 2 := by simp
  have HS := Lib.hid hs
  clear hs
  go_enter Try.func56, Try.ntmps56
  go_upto_region 1 with (fail)
  generalize ((w.alloc (.cells #[.string g, .int .i64 a0, .int .i64 a1, .int .i64 a2, .int .i64 a3, .int .i64 a4, .int .i64 a5, .int .i64 a6, .int .i64 a7, .int .i64 a8, .int .i64 a9, .int .i64 a10] 78)).alloc (.cells #[.string ⟨#[]⟩, .int .i64 0, .int .i64 0, .int .i64 0, .int .i64 0, .int .i64 0, .int .i64 0, .int .i64 0, .int .i64 0, .int .i64 0, .int .i64 0, .int .i64 0] 78)) = w0 at *
  have c0 := o1.cell (j := 1) (v := .int .i64 a0) rfl
  have z0 := o1.frozen 1
  have c10 := o1.cell (j := 11) (v := .int .i64 a10) rfl
  have z10 := o1.frozen 11
  go_upto_region 33 with (fail)
  clear c0 z0 c10 z10
  have g1 := grownBy_set w0 w.heap.size 1 (.int .i64 (wrap64 (a0 - n)))
  replace o2 := o2.kept g1 (fun e => by have := Option.some.inj e; omega)
  replace hB := hB.grown g1 hB.size (fun k e => by cases e; exact Nat.le_refl _)
  replace o1 := o1.set 1 (.int .i64 (wrap64 (a0 - n)))
  generalize w0.setCell ⟨w.heap.size, 1, none⟩ (.int .i64 (wrap64 (a0 - n))) = w1 at *
  have g2 := grownBy_set w1 w.heap.size 11 (.int .i64 (wrap64 (a10 + n)))
  replace o2 := o2.kept g2 (fun e => by have := Option.some.inj e; omega)
  replace hB := hB.grown g2 hB.size (fun k e => by cases e; exact Nat.le_refl _)
  replace o1 : Ob (w1.setCell ⟨w.heap.size, 11, none⟩ (.int .i64 (wrap64 (a10 + n)))) w.heap.size 78 #[.string g, .int .i64 (wrap64 (a0 - n)), .int .i64 a1, .int .i64 a2, .int .i64 a3, .int .i64 a4, .int .i64 a5, .int .i64 a6, .int .i64 a7, .int .i64 a8, .int .i64 a9, .int .i64 (wrap64 (a10 + n))] := o1.set 11 (.int .i64 (wrap64 (a10 + n)))
  clear g1 g2
  generalize w1.setCell ⟨w.heap.size, 11, none⟩ (.int .i64 (wrap64 (a10 + n))) = w2 at *
  go_wp2_with (first | (refine wpList_load_ob rfl 78 (.tmp 4) rfl rfl _ o1 Try.underlying78 rfl (by kernel_rfl) ?_) | (refine wpList_store_ob rfl 78 (.tmp 6) (.tmp 210) rfl rfl rfl o2 rfl (by kernel_rfl) (by simp [Value.oneCell']) ?_; intro w4 hO hg))
  have hb := hB.grown hg hB.size (fun k e => by cases e; omega)
  refine bodyPost_ret (v := .tuple #[.agg #[.string g, .int .i64 (wrap64 (a0 - n)), .int .i64 a1, .int .i64 a2, .int .i64 a3, .int .i64 a4, .int .i64 a5, .int .i64 a6, .int .i64 a7, .int .i64 a8, .int .i64 a9, .int .i64 (wrap64 (a10 + n))], .int .i64 a0]) ?_ rfl ⟨rfl, hb⟩
  have c0 := hO.cell (j := 0) (v := .string g) rfl
  have c1 := hO.cell (j := 1) (v := .int .i64 (wrap64 (a0 - n))) rfl
  have c2 := hO.cell (j := 2) (v := .int .i64 a1) rfl
  have c3 := hO.cell (j := 3) (v := .int .i64 a2) rfl
  have c4 := hO.cell (j := 4) (v := .int .i64 a3) rfl
  have c5 := hO.cell (j := 5) (v := .int .i64 a4) rfl
  have c6 := hO.cell (j := 6) (v := .int .i64 a5) rfl
  have c7 := hO.cell (j := 7) (v := .int .i64 a6) rfl
  have c8 := hO.cell (j := 8) (v := .int .i64 a7) rfl
  have c9 := hO.cell (j := 9) (v := .int .i64 a8) rfl
  have c10 := hO.cell (j := 10) (v := .int .i64 a9) rfl
  have c11 := hO.cell (j := 11) (v := .int .i64 (wrap64 (a10 + n))) rfl
  simp [results, Try.f56, go_sem, c0, c1, c2, c3, c4, c5, c6, c7, c8, c9, c10, c11]
set_option maxRecDepth 100000 in
set_option maxHeartbeats 8000000 in
theorem move_11 (g : ByteArray) (a0 a1 a2 a3 a4 a5 a6 a7 a8 a9 a10 n : Int) (w : World) :
    Calls Try.prog 56 #[.int .i64 11, .agg #[.string g, .int .i64 a0, .int .i64 a1, .int .i64 a2, .int .i64 a3, .int .i64 a4, .int .i64 a5, .int .i64 a6, .int .i64 a7, .int .i64 a8, .int .i64 a9, .int .i64 a10], .int .i64 n] w fun e w' => e = .returned (.tuple #[.agg #[.string g, .int .i64 (wrap64 (a0 + n)), .int .i64 a1, .int .i64 a2, .int .i64 a3, .int .i64 a4, .int .i64 a5, .int .i64 a6, .int .i64 (wrap64 (a7 + n)), .int .i64 a8, .int .i64 a9, .int .i64 a10], .int .i64 (-1)]) ∧ Below w.heap.size w w' := by
  have hB : Below w.heap.size w ((w.alloc (.cells #[.string g, .int .i64 a0, .int .i64 a1, .int .i64 a2, .int .i64 a3, .int .i64 a4, .int .i64 a5, .int .i64 a6, .int .i64 a7, .int .i64 a8, .int .i64 a9, .int .i64 a10] 78)).alloc (.cells #[.string ⟨#[]⟩, .int .i64 0, .int .i64 0, .int .i64 0, .int .i64 0, .int .i64 0, .int .i64 0, .int .i64 0, .int .i64 0, .int .i64 0, .int .i64 0, .int .i64 0] 78)) := ((Below.refl _ w).alloc (Nat.le_refl _) _).alloc (by simp) _
  have o1 := (Ob.new w 78 #[.string g, .int .i64 a0, .int .i64 a1, .int .i64 a2, .int .i64 a3, .int .i64 a4, .int .i64 a5, .int .i64 a6, .int .i64 a7, .int .i64 a8, .int .i64 a9, .int .i64 a10]).alloc (.cells #[.string ⟨#[]⟩, .int .i64 0, .int .i64 0, .int .i64 0, .int .i64 0, .int .i64 0, .int .i64 0, .int .i64 0, .int .i64 0, .int .i64 0, .int .i64 0, .int .i64 0] 78)
  have o2 := Ob.new (w.alloc (.cells #[.string g, .int .i64 a0, .int .i64 a1, .int .i64 a2, .int .i64 a3, .int .i64 a4, .int .i64 a5, .int .i64 a6, .int .i64 a7, .int .i64 a8, .int .i64 a9, .int .i64 a10] 78)) 78 #[.string ⟨#[]⟩, .int .i64 0, .int .i64 0, .int .i64 0, .int .i64 0, .int .i64 0, .int .i64 0, .int .i64 0, .int .i64 0, .int .i64 0, .int .i64 0, .int .i64 0]
  rw [World.size_alloc] at o2
  have hs : ((w.alloc (.cells #[.string g, .int .i64 a0, .int .i64 a1, .int .i64 a2, .int .i64 a3, .int .i64 a4, .int .i64 a5, .int .i64 a6, .int .i64 a7, .int .i64 a8, .int .i64 a9, .int .i64 a10] 78)).alloc (.cells #[.string ⟨#[]⟩, .int .i64 0, .int .i64 0, .int .i64 0, .int .i64 0, .int .i64 0, .int .i64 0, .int .i64 0, .int .i64 0, .int .i64 0, .int .i64 0, .int .i64 0] 78)).heap.size = w.heap.size + 2 := by simp
  have HS := Lib.hid hs
  clear hs
  go_enter Try.func56, Try.ntmps56
  go_upto_region 1 with (fail)
  generalize ((w.alloc (.cells #[.string g, .int .i64 a0, .int .i64 a1, .int .i64 a2, .int .i64 a3, .int .i64 a4, .int .i64 a5, .int .i64 a6, .int .i64 a7, .int .i64 a8, .int .i64 a9, .int .i64 a10] 78)).alloc (.cells #[.string ⟨#[]⟩, .int .i64 0, .int .i64 0, .int .i64 0, .int .i64 0, .int .i64 0, .int .i64 0, .int .i64 0, .int .i64 0, .int .i64 0, .int .i64 0, .int .i64 0] 78)) = w0 at *
  have c0 := o1.cell (j := 1) (v := .int .i64 a0) rfl
  have z0 := o1.frozen 1
  have c7 := o1.cell (j := 8) (v := .int .i64 a7) rfl
  have z7 := o1.frozen 8
  go_upto_region 33 with (fail)
  clear c0 z0 c7 z7
  have g1 := grownBy_set w0 w.heap.size 1 (.int .i64 (wrap64 (a0 + n)))
  replace o2 := o2.kept g1 (fun e => by have := Option.some.inj e; omega)
  replace hB := hB.grown g1 hB.size (fun k e => by cases e; exact Nat.le_refl _)
  replace o1 := o1.set 1 (.int .i64 (wrap64 (a0 + n)))
  generalize w0.setCell ⟨w.heap.size, 1, none⟩ (.int .i64 (wrap64 (a0 + n))) = w1 at *
  have g2 := grownBy_set w1 w.heap.size 8 (.int .i64 (wrap64 (a7 + n)))
  replace o2 := o2.kept g2 (fun e => by have := Option.some.inj e; omega)
  replace hB := hB.grown g2 hB.size (fun k e => by cases e; exact Nat.le_refl _)
  replace o1 : Ob (w1.setCell ⟨w.heap.size, 8, none⟩ (.int .i64 (wrap64 (a7 + n)))) w.heap.size 78 #[.string g, .int .i64 (wrap64 (a0 + n)), .int .i64 a1, .int .i64 a2, .int .i64 a3, .int .i64 a4, .int .i64 a5, .int .i64 a6, .int .i64 (wrap64 (a7 + n)), .int .i64 a8, .int .i64 a9, .int .i64 a10] := o1.set 8 (.int .i64 (wrap64 (a7 + n)))
  clear g1 g2
  generalize w1.setCell ⟨w.heap.size, 8, none⟩ (.int .i64 (wrap64 (a7 + n))) = w2 at *
  go_wp2_with (first | (refine wpList_load_ob rfl 78 (.tmp 4) rfl rfl _ o1 Try.underlying78 rfl (by kernel_rfl) ?_) | (refine wpList_store_ob rfl 78 (.tmp 6) (.tmp 210) rfl rfl rfl o2 rfl (by kernel_rfl) (by simp [Value.oneCell']) ?_; intro w4 hO hg))
  have hb := hB.grown hg hB.size (fun k e => by cases e; omega)
  refine bodyPost_ret (v := .tuple #[.agg #[.string g, .int .i64 (wrap64 (a0 + n)), .int .i64 a1, .int .i64 a2, .int .i64 a3, .int .i64 a4, .int .i64 a5, .int .i64 a6, .int .i64 (wrap64 (a7 + n)), .int .i64 a8, .int .i64 a9, .int .i64 a10], .int .i64 (-1)]) ?_ rfl ⟨rfl, hb⟩
  have c0 := hO.cell (j := 0) (v := .string g) rfl
  have c1 := hO.cell (j := 1) (v := .int .i64 (wrap64 (a0 + n))) rfl
  have c2 := hO.cell (j := 2) (v := .int .i64 a1) rfl
  have c3 := hO.cell (j := 3) (v := .int .i64 a2) rfl
  have c4 := hO.cell (j := 4) (v := .int .i64 a3) rfl
  have c5 := hO.cell (j := 5) (v := .int .i64 a4) rfl
  have c6 := hO.cell (j := 6) (v := .int .i64 a5) rfl
  have c7 := hO.cell (j := 7) (v := .int .i64 a6) rfl
  have c8 := hO.cell (j := 8) (v := .int .i64 (wrap64 (a7 + n))) rfl
  have c9 := hO.cell (j := 9) (v := .int .i64 a8) rfl
  have c10 := hO.cell (j := 10) (v := .int .i64 a9) rfl
  have c11 := hO.cell (j := 11) (v := .int .i64 a10) rfl
  simp [results, Try.f56, go_sem, c0, c1, c2, c3, c4, c5, c6, c7, c8, c9, c10, c11]
set_option maxRecDepth 100000 in
set_option maxHeartbeats 8000000 in
theorem move_0 (k : Int) (hk : ¬ (1 ≤ k ∧ k ≤ 11)) (g : ByteArray) (a0 a1 a2 a3 a4 a5 a6 a7 a8 a9 a10 n : Int) (w : World) :
    Calls Try.prog 56 #[.int .i64 k, .agg #[.string g, .int .i64 a0, .int .i64 a1, .int .i64 a2, .int .i64 a3, .int .i64 a4, .int .i64 a5, .int .i64 a6, .int .i64 a7, .int .i64 a8, .int .i64 a9, .int .i64 a10], .int .i64 n] w fun e w' => e = .returned (.tuple #[.agg #[.string g, .int .i64 a0, .int .i64 a1, .int .i64 a2, .int .i64 a3, .int .i64 a4, .int .i64 a5, .int .i64 a6, .int .i64 a7, .int .i64 a8, .int .i64 a9, .int .i64 a10], .int .i64 (-1)]) ∧ Below w.heap.size w w' := by
  have f1 : (k == 1) = false := by simp; omega
  have f2 : (k == 2) = false := by simp; omega
  have f3 : (k == 3) = false := by simp; omega
  have f4 : (k == 4) = false := by simp; omega
  have f5 : (k == 5) = false := by simp; omega
  have f6 : (k == 6) = false := by simp; omega
  have f7 : (k == 7) = false := by simp; omega
  have f8 : (k == 8) = false := by simp; omega
  have f9 : (k == 9) = false := by simp; omega
  have f10 : (k == 10) = false := by simp; omega
  have f11 : (k == 11) = false := by simp; omega
  clear hk
  have hB : Below w.heap.size w ((w.alloc (.cells #[.string g, .int .i64 a0, .int .i64 a1, .int .i64 a2, .int .i64 a3, .int .i64 a4, .int .i64 a5, .int .i64 a6, .int .i64 a7, .int .i64 a8, .int .i64 a9, .int .i64 a10] 78)).alloc (.cells #[.string ⟨#[]⟩, .int .i64 0, .int .i64 0, .int .i64 0, .int .i64 0, .int .i64 0, .int .i64 0, .int .i64 0, .int .i64 0, .int .i64 0, .int .i64 0, .int .i64 0] 78)) := ((Below.refl _ w).alloc (Nat.le_refl _) _).alloc (by simp) _
  have o1 := (Ob.new w 78 #[.string g, .int .i64 a0, .int .i64 a1, .int .i64 a2, .int .i64 a3, .int .i64 a4, .int .i64 a5, .int .i64 a6, .int .i64 a7, .int .i64 a8, .int .i64 a9, .int .i64 a10]).alloc (.cells #[.string ⟨#[]⟩, .int .i64 0, .int .i64 0, .int .i64 0, .int .i64 0, .int .i64 0, .int .i64 0, .int .i64 0, .int .i64 0, .int .i64 0, .int .i64 0, .int .i64 0] 78)
  have o2 := Ob.new (w.alloc (.cells #[.string g, .int .i64 a0, .int .i64 a1, .int .i64 a2, .int .i64 a3, .int .i64 a4, .int .i64 a5, .int .i64 a6, .int .i64 a7, .int .i64 a8, .int .i64 a9, .int .i64 a10] 78)) 78 #[.string ⟨#[]⟩, .int .i64 0, .int .i64 0, .int .i64 0, .int .i64 0, .int .i64 0, .int .i64 0, .int .i64 0, .int .i64 0, .int .i64 0, .int .i64 0, .int .i64 0]
  rw [World.size_alloc] at o2
  have hs : ((w.alloc (.cells #[.string g, .int .i64 a0, .int .i64 a1, .int .i64 a2, .int .i64 a3, .int .i64 a4, .int .i64 a5, .int .i64 a6, .int .i64 a7, .int .i64 a8, .int .i64 a9, .int .i64 a10] 78)).alloc (.cells #[.string ⟨#[]⟩, .int .i64 0, .int .i64 0, .int .i64 0, .int .i64 0, .int .i64 0, .int .i64 0, .int .i64 0, .int .i64 0, .int .i64 0, .int .i64 0, .int .i64 0] 78)).heap.size = w.heap.size + 2 := by simp
  have HS := Lib.hid hs
  clear hs
  go_enter Try.func56, Try.ntmps56
  go_upto_region 1 with (fail)
  generalize ((w.alloc (.cells #[.string g, .int .i64 a0, .int .i64 a1, .int .i64 a2, .int .i64 a3, .int .i64 a4, .int .i64 a5, .int .i64 a6, .int .i64 a7, .int .i64 a8, .int .i64 a9, .int .i64 a10] 78)).alloc (.cells #[.string ⟨#[]⟩, .int .i64 0, .int .i64 0, .int .i64 0, .int .i64 0, .int .i64 0, .int .i64 0, .int .i64 0, .int .i64 0, .int .i64 0, .int .i64 0, .int .i64 0] 78)) = w0 at *
  go_upto_region 33 with (fail)
  go_wp2_with (first | (refine wpList_load_ob rfl 78 (.tmp 4) rfl rfl _ o1 Try.underlying78 rfl (by kernel_rfl) ?_) | (refine wpList_store_ob rfl 78 (.tmp 6) (.tmp 210) rfl rfl rfl o2 rfl (by kernel_rfl) (by simp [Value.oneCell']) ?_; intro w4 hO hg))
  have hb := hB.grown hg hB.size (fun k e => by cases e; omega)
  refine bodyPost_ret (v := .tuple #[.agg #[.string g, .int .i64 a0, .int .i64 a1, .int .i64 a2, .int .i64 a3, .int .i64 a4, .int .i64 a5, .int .i64 a6, .int .i64 a7, .int .i64 a8, .int .i64 a9, .int .i64 a10], .int .i64 (-1)]) ?_ rfl ⟨rfl, hb⟩
  have c0 := hO.cell (j := 0) (v := .string g) rfl
  have c1 := hO.cell (j := 1) (v := .int .i64 a0) rfl
  have c2 := hO.cell (j := 2) (v := .int .i64 a1) rfl
  have c3 := hO.cell (j := 3) (v := .int .i64 a2) rfl
  have c4 := hO.cell (j := 4) (v := .int .i64 a3) rfl
  have c5 := hO.cell (j := 5) (v := .int .i64 a4) rfl
  have c6 := hO.cell (j := 6) (v := .int .i64 a5) rfl
  have c7 := hO.cell (j := 7) (v := .int .i64 a6) rfl
  have c8 := hO.cell (j := 8) (v := .int .i64 a7) rfl
  have c9 := hO.cell (j := 9) (v := .int .i64 a8) rfl
  have c10 := hO.cell (j := 10) (v := .int .i64 a9) rfl
  have c11 := hO.cell (j := 11) (v := .int .i64 a10) rfl
  simp [results, Try.f56, go_sem, c0, c1, c2, c3, c4, c5, c6, c7, c8, c9, c10, c11]
theorem move_calls (k : Int) (g : ByteArray) {r : Row} (hr : OkRow r) (n : Int) (w : World) :
    Calls Try.prog 56 #[.int .i64 k, rsV g r, .int .i64 n] w fun e w' => e = .returned (.tuple #[rsV g (stepR k r n), .int .i64 (haveR k r)]) ∧ Below w.heap.size w w' := by
  obtain ⟨a0, a1, a2, a3, a4, a5, a6, a7, a8, a9, a10, rfl⟩ := row_eleven hr
  by_cases hk : 1 ≤ k ∧ k ≤ 11
  · have kc : k = 1 ∨ k = 2 ∨ k = 3 ∨ k = 4 ∨ k = 5 ∨ k = 6 ∨ k = 7 ∨ k = 8 ∨ k = 9 ∨ k = 10 ∨ k = 11 := by omega
    clear hk hr
    rcases kc with rfl | rfl | rfl | rfl | rfl | rfl | rfl | rfl | rfl | rfl | rfl
    · exact move_1 g a0 a1 a2 a3 a4 a5 a6 a7 a8 a9 a10 n w
    · exact move_2 g a0 a1 a2 a3 a4 a5 a6 a7 a8 a9 a10 n w
    · exact move_3 g a0 a1 a2 a3 a4 a5 a6 a7 a8 a9 a10 n w
    · exact move_4 g a0 a1 a2 a3 a4 a5 a6 a7 a8 a9 a10 n w
    · exact move_5 g a0 a1 a2 a3 a4 a5 a6 a7 a8 a9 a10 n w
    · exact move_6 g a0 a1 a2 a3 a4 a5 a6 a7 a8 a9 a10 n w
    · exact move_7 g a0 a1 a2 a3 a4 a5 a6 a7 a8 a9 a10 n w
    · exact move_8 g a0 a1 a2 a3 a4 a5 a6 a7 a8 a9 a10 n w
    · exact move_9 g a0 a1 a2 a3 a4 a5 a6 a7 a8 a9 a10 n w
    · exact move_10 g a0 a1 a2 a3 a4 a5 a6 a7 a8 a9 a10 n w
    · exact move_11 g a0 a1 a2 a3 a4 a5 a6 a7 a8 a9 a10 n w
  · have h1 : road k = (none, none, none) := by
      rcases road_cases k with h | h
      · omega
      · exact h
    have h2 : stepR k [a0, a1, a2, a3, a4, a5, a6, a7, a8, a9, a10] n = [a0, a1, a2, a3, a4, a5, a6, a7, a8, a9, a10] := by unfold stepR; rw [h1]; rfl
    have h3 : haveR k [a0, a1, a2, a3, a4, a5, a6, a7, a8, a9, a10] = -1 := by unfold haveR; rw [h1]
    rw [h2, h3]
    exact move_0 k hk g a0 a1 a2 a3 a4 a5 a6 a7 a8 a9 a10 n w
end Sk
end Go.Proofs.Ytlhpdalfnjhokaa

namespace Go.Proofs.Ytlhpdalfnjhokaa
open Go.RowKit Go.Maps
namespace Sk
open It Al Kp
def Asc (s : Stk) : Prop := s.Pairwise fun p q => p.1 < q.1
theorem lt_bb (a b : Key) : strK.lt a b = decide (a < b) := by
  by_cases h : a < b
  · rw [decide_eq_true h]
    have hne : a ≠ b := fun e => by rw [e] at h; exact bs_irr _ h
    rcases WideAt.bytes_total a b hne with h1 | h1
    · exact h1
    · exact absurd (KsU.bb_lt _ _ h1) (bs_asy _ _ h)
  · rw [decide_eq_false h]
    cases hh : strK.lt a b with
    | false => rfl
    | true => exact absurd (KsU.bb_lt _ _ hh) h
theorem step_late (g : Key) (r : Row) : ∀ (s : Stk) (o : Stk), (∀ q ∈ s, q.1 ≠ g) → s.foldl (setStep g r) (o, true) = (o ++ s, true)
  | [], o, _ => by simp
  | q :: t, o, h => by
    have h1 : setStep g r (o, true) q = (o ++ [q], true) := by
      unfold setStep
      dsimp only
      rw [if_neg (h q (by simp))]
      simp
    rw [List.foldl_cons, h1, step_late g r t _ (fun p hp => h p (List.mem_cons_of_mem _ hp))]
    simp
def fin (g : Key) (r : Row) (p : Stk × Bool) : Stk := if p.2 then p.1 else p.1 ++ [(g, r)]
theorem aDel_none {s : Stk} {g : Key} (h : ∀ q ∈ s, q.1 ≠ g) : aDel s g = s := by
  unfold aDel
  rw [List.filter_eq_self]
  intro q hq
  simpa using h q hq
theorem step_all (g : Key) (r : Row) : ∀ (s : Stk) (o : Stk), Asc s → fin g r (s.foldl (setStep g r) (o, false)) = o ++ aPut strK s g r
  | [], o, _ => rfl
  | q :: t, o, h => by
    obtain ⟨h1, h2⟩ := List.pairwise_cons.1 h
    rw [List.foldl_cons]
    have hnot : Op.bytesLess q.1 g = decide (q.1 < g) := less_eq _ _
    rcases bs_tri q.1 g with hlt | heq | hgt
    · have hne : q.1 ≠ g := fun e => by rw [e] at hlt; exact bs_irr _ hlt
      have e1 : setStep g r (o, false) q = (o ++ [q], false) := by
        unfold setStep
        dsimp only
        rw [if_neg hne, hnot, decide_eq_true hlt]
        rfl
      have hp : aPut strK (q :: t) g r = q :: aPut strK t g r := by
        unfold aPut
        have : aDel (q :: t) g = q :: aDel t g := by unfold aDel; rw [List.filter_cons, if_pos (by simpa using hne)]
        rw [this]
        show (if strK.lt g q.1 = true then _ else _) = _
        rw [lt_bb, decide_eq_false (bs_asy _ _ hlt)]
        rfl
      rw [e1, step_all g r t _ h2, hp]
      simp
    · have hgt : ∀ p ∈ t, p.1 ≠ g := fun p hp e => by have := h1 p hp; rw [heq, e] at this; exact bs_irr _ this
      have e1 : setStep g r (o, false) q = (o ++ [(g, r)], true) := by
        unfold setStep
        dsimp only
        rw [if_pos heq, hnot, heq, decide_eq_false (bs_irr _)]
        rfl
      have hp : aPut strK (q :: t) g r = (g, r) :: t := by
        unfold aPut
        have : aDel (q :: t) g = t := by
          unfold aDel
          rw [List.filter_cons, if_neg (by simp [heq])]
          exact aDel_none hgt
        rw [this]
        cases t with
        | nil => rfl
        | cons p u =>
          show (if strK.lt g p.1 = true then _ else _) = _
          rw [lt_bb, if_pos (decide_eq_true (by have := h1 p (by simp); rw [heq] at this; exact this))]
      rw [e1, step_late g r t _ hgt, hp]
      simp [fin]
    · have hne : q.1 ≠ g := fun e => by rw [e] at hgt; exact bs_irr _ hgt
      have hall : ∀ p ∈ t, p.1 ≠ g := fun p hp e => by have := h1 p hp; rw [e] at this; exact bs_asy _ _ hgt this
      have e1 : setStep g r (o, false) q = (o ++ [(g, r)] ++ [q], true) := by
        unfold setStep
        dsimp only
        rw [if_neg hne, hnot, decide_eq_false (bs_asy _ _ hgt)]
        rfl
      have hp : aPut strK (q :: t) g r = (g, r) :: q :: t := by
        unfold aPut
        have : aDel (q :: t) g = q :: t := aDel_none (fun p hp => by
          rcases List.mem_cons.1 hp with rfl | h3
          · exact hne
          · exact hall p h3)
        rw [this]
        show (if strK.lt g q.1 = true then _ else _) = _
        rw [lt_bb, if_pos (decide_eq_true hgt)]
      rw [e1, step_late g r t _ hall, hp]
      simp [fin]
theorem setS_put {s : Stk} (h : Asc s) (g : Key) (r : Row) : setS s g r = aPut strK s g r := by
  have := step_all g r s [] h
  rw [List.nil_append] at this
  exact this
theorem aIns_asc {g : Key} {r : Row} : ∀ {s : Stk}, Asc s → (∀ q ∈ s, q.1 ≠ g) → Asc (aIns strK g r s)
  | [], _, _ => by simp [Asc, aIns]
  | q :: t, h, hn => by
    obtain ⟨h1, h2⟩ := List.pairwise_cons.1 h
    show Asc (if strK.lt g q.1 = true then (g, r) :: q :: t else q :: aIns strK g r t)
    rw [lt_bb]
    by_cases hlt : g < q.1
    · rw [if_pos (decide_eq_true hlt)]
      refine List.pairwise_cons.2 ⟨fun p hp => ?_, h⟩
      rcases List.mem_cons.1 hp with rfl | h3
      · exact hlt
      · exact List.lt_trans hlt (h1 p h3)
    · rw [if_neg (by simpa using hlt)]
      refine List.pairwise_cons.2 ⟨fun p hp => ?_, aIns_asc h2 fun p hp => hn p (List.mem_cons_of_mem _ hp)⟩
      rcases aIns_mem.1 hp with rfl | h3
      · rcases bs_tri q.1 g with h4 | h4 | h4
        · exact h4
        · exact absurd h4 (hn q (by simp))
        · exact absurd h4 hlt
      · exact h1 p h3
theorem aPut_asc {s : Stk} (h : Asc s) (g : Key) (r : Row) : Asc (aPut strK s g r) := by
  unfold aPut
  refine aIns_asc (List.Pairwise.filter _ h) fun q hq => ?_
  unfold aDel at hq
  rw [List.mem_filter] at hq
  simpa using hq.2
/-- what the document's Do makes of a list -/
def rgoStep (k : Int) (s0 : Stk) (o : Option Stk) (x : It.Item) : Option Stk := o.bind fun t => let q := stepR k (rowG s0 (key x)) x.2; if rightR q = true then some (setS t (key x) q) else none
def rgo (k : Int) (s0 : Stk) (l : List It.Item) : Option Stk := l.foldl (rgoStep k s0) (some s0)
def takesK (k : Int) : Bool := k != 1 && k != 7 && k != 11
def rhas (s : Stk) (l : List It.Item) : Bool := l.all fun x => !decide (findS s (key x) < 0)
def rless (s : Stk) (k : Int) (l : List It.Item) : Bool := l.all fun x => !decide (haveR k (rowG s (key x)) < x.2)
def rdoS (s : Stk) (k : Int) (l : List It.Item) : Stk × Int :=
  if k < 1 ∨ 11 < k then (s, 1) else if It.may l = false then (s, 60) else if (takesK k && !rhas s l) = true then (s, 71) else if (takesK k && !rless s k l) = true then (s, 51) else match rgo k s l with
    | none => (s, 50)
    | some s' => if 64 < s'.length then (s, 2) else (s', 0)
theorem rgo_snoc (k : Int) (s : Stk) (l : List It.Item) (x : It.Item) : rgo k s (l ++ [x]) = rgoStep k s (rgo k s l) x := by unfold rgo; rw [List.foldl_append]; rfl
theorem rgo_none (k : Int) (s : Stk) : ∀ l : List It.Item, l.foldl (rgoStep k s) none = none
  | [] => rfl
  | _ :: r => rgo_none k s r
theorem rgo_prefix {k : Int} {s : Stk} {p l : List It.Item} (h : p <+: l) (hp : rgo k s p = none) : rgo k s l = none := by
  obtain ⟨r, rfl⟩ := h
  unfold rgo at hp ⊢
  rw [List.foldl_append, hp]
  exact rgo_none k s r
theorem rgo_go (k : Int) (s0 : Stk) : ∀ (l : List It.Item) (t : Stk), Asc t → l.Pairwise (fun a b => key a < key b) → (∀ x ∈ l, rowG t (key x) = rowG s0 (key x)) → l.foldl (rgoStep k s0) (some t) = l.foldl (goStep k) (some t)
  | [], _, _, _, _ => rfl
  | x :: l, t, ht, hs, hr => by
    obtain ⟨h1, h2⟩ := List.pairwise_cons.1 hs
    rw [List.foldl_cons, List.foldl_cons]
    have hx := hr x (by simp)
    have e : rgoStep k s0 (some t) x = goStep k (some t) x := by
      show (if rightR (stepR k (rowG s0 (key x)) x.2) = true then some (setS t (key x) (stepR k (rowG s0 (key x)) x.2)) else none) = (if rightR (stepR k (rowG t (key x)) x.2) = true then some (aPut strK t (key x) (stepR k (rowG t (key x)) x.2)) else none)
      rw [hx, setS_put ht]
    rw [e]
    by_cases hq : rightR (stepR k (rowG t (key x)) x.2) = true
    · have e2 : goStep k (some t) x = some (aPut strK t (key x) (stepR k (rowG t (key x)) x.2)) := by
        show (if rightR (stepR k (rowG t (key x)) x.2) = true then _ else _) = _
        rw [if_pos hq]
        rfl
      rw [e2]
      refine rgo_go k s0 l _ (aPut_asc ht _ _) h2 fun y hy => ?_
      rw [rowG_put, if_neg (fun e => by have := h1 y hy; rw [e] at this; exact bs_irr _ this)]
      exact hr y (List.mem_cons_of_mem _ hy)
    · have e2 : goStep k (some t) x = none := by
        show (if rightR (stepR k (rowG t (key x)) x.2) = true then _ else _) = _
        rw [if_neg hq]
      rw [e2, rgo_none, doGo_none]
theorem rhas_eq (s : Stk) (l : List It.Item) : rhas s l = hasAll s l := by
  unfold rhas hasAll
  congr 1
  funext x
  rcases findS_cases s (key x) with ⟨-, h1, h2⟩ | ⟨k, hk, -, -, h1, h2⟩
  · rw [h1, h2]; rfl
  · rw [h1, h2]
    simp
theorem doS_eq {s : Stk} (h : Asc s) (k : Int) (l : List It.Item) : rdoS s k l = doS s k l := by
  unfold rdoS doS
  by_cases hk : k < 1 ∨ 11 < k
  · rw [if_pos hk, if_pos hk]
  rw [if_neg hk, if_neg hk]
  cases hm : It.may l with
  | false => rfl
  | true =>
    rw [if_neg (show ¬ (true = false) by simp), if_neg (show ¬ (true = false) by simp)]
    have hM := (may_iff l).1 hm
    have hg : rgo k s l = doGo k s l := rgo_go k s l s h hM.sorted fun x _ => rfl
    rw [rhas_eq, hg]
    have kc : k = 1 ∨ k = 2 ∨ k = 3 ∨ k = 4 ∨ k = 5 ∨ k = 6 ∨ k = 7 ∨ k = 8 ∨ k = 9 ∨ k = 10 ∨ k = 11 := by omega
    have hrd : (takesK k = false ∧ (road k).1 = none) ∨ ∃ j, takesK k = true ∧ (road k).1 = some j := by
      rcases kc with rfl | rfl | rfl | rfl | rfl | rfl | rfl | rfl | rfl | rfl | rfl
      all_goals first
        | exact .inl ⟨by decide, by decide⟩
        | exact .inr ⟨_, by decide, rfl⟩
    rcases hrd with ⟨h1, h2⟩ | ⟨j, h1, h2⟩
    · have hm0 : mayS s k l = 0 := by unfold mayS; rw [h2]
      rw [h1, hm0]
      rfl
    · have hl : rless s k l = enough s j l := by
        unfold rless enough haveR
        rw [h2]
        rfl
      rw [h1, hl]
      have hm0 : mayS s k l = if hasAll s l = false then 71 else if enough s j l = false then 51 else 0 := by
        unfold mayS
        rw [h2]
        dsimp only
        cases hasAll s l with
        | false => rfl
        | true => cases enough s j l <;> rfl
      rw [hm0]
      cases hasAll s l <;> cases enough s j l <;> rfl
def rcountS (s : Stk) (g : Key) (n : Int) : Stk × Int × Int :=
  if countOk n = false then (s, 0, 1) else if findS s g < 0 then (s, 0, 71) else
    let r := rowG s g
    if n < at_ r 1 then (s, 0, 70) else
      let q := (r.set 0 (wrap64 (n - at_ r 1))).set 6 (wrap64 (at_ r 6 + moreR r n))
      if rightR q = true then (setS s g q, moreR r n, 0) else (s, 0, 50)
theorem countS_eq {s : Stk} (h : Asc s) (hok : ∀ p ∈ s, OkP p) (g : Key) (n : Int) : rcountS s g n = countS s g n := by
  unfold rcountS countS
  by_cases h1 : countOk n = false
  · rw [if_pos h1, if_pos h1]
  rw [if_neg h1, if_neg h1]
  rcases findS_cases s g with ⟨-, h2, h3⟩ | ⟨k, hk, -, -, h2, h3⟩
  · rw [h2, h3, if_pos (by omega)]
  · rw [h2, h3, if_neg (by omega)]
    have hr : rowG s g = s[k].2 := by unfold rowG; rw [h3]; rfl
    have hb := (hok _ (List.getElem_mem hk)).row
    rw [hr]
    dsimp only
    by_cases h4 : n < at_ s[k].2 1
    · rw [if_pos h4, if_pos h4]
    · rw [if_neg h4, if_neg h4]
      have hq : (s[k].2.set 0 (wrap64 (n - at_ s[k].2 1))).set 6 (wrap64 (at_ s[k].2 6 + moreR s[k].2 n)) = countR s[k].2 n := by
        unfold countR
        have : wrap64 (n - at_ s[k].2 1) = wrap64 (at_ s[k].2 0 + moreR s[k].2 n) := by
          have b0 := hb.at_ 0
          have b1 := hb.at_ 1
          unfold moreR wrap64
          omega
        rw [this]
      rw [hq, setS_put h]
end Sk
end Go.Proofs.Ytlhpdalfnjhokaa
