/-
  goods: sums of levels and of flows; whether a total is kept.
  A region that draws its order, some of whose operations make or write memory in one of two orders: a plan that forks; a store may hit what a look has read, once all looks are behind it.
  goods: Total.
  slices.Sorted(maps.Keys(m)): the keys of a map with string keys (map[string]stock.row), sorted, by the library's contracts.
-/
import Derived.Test.YtlhpdalfnjhokaaGs4
import Derived.Test.YtlhpdalfnjhokaaGs3
import Derived.Test.YtlhpdalfnjhokaaLayed
import Derived.Test.YtlhpdalfnjhokaaGs1
import Derived.Shelf.SlIter.Nil
import Derived.Shelf.SortM.Plain
import Derived.Shelf.SortM.SortNone

set_option linter.unusedVariables false
set_option linter.unusedSimpArgs false
namespace Go.Proofs.Ytlhpdalfnjhokaa
open Go.RowKit Go.Maps
namespace Sk
open It Al
def keptT (a0 a1 a2 a3 a4 a5 a6 _a7 a8 a9 _a10 way : Int) : Bool := decide (0 ≤ way) && (wrap64 (wrap64 (wrap64 (wrap64 (a0 + a1) + a2) + a3) + way) == wrap64 (wrap64 (wrap64 (wrap64 (a4 + a5) + a6) - a8) - a9))
set_option maxRecDepth 100000 in
set_option maxHeartbeats 4000000 in
theorem glevel_calls (a0 a1 a2 a3 b0 b1 b2 b3 : Int) (w : World) :
    Calls Try.prog 9 #[.agg #[.int .i64 a0, .int .i64 a1, .int .i64 a2, .int .i64 a3], .agg #[.int .i64 b0, .int .i64 b1, .int .i64 b2, .int .i64 b3]] w fun e w' => e = .returned (.agg #[.int .i64 (wrap64 (a0 + b0)), .int .i64 (wrap64 (a1 + b1)), .int .i64 (wrap64 (a2 + b2)), .int .i64 (wrap64 (a3 + b3))]) ∧ Below w.heap.size w w' := by
  have o2 := ((Ob.new w 23 #[.int .i64 a0, .int .i64 a1, .int .i64 a2, .int .i64 a3]).alloc (.cells #[.int .i64 b0, .int .i64 b1, .int .i64 b2, .int .i64 b3] 23)).alloc (.cells #[.int .i64 0, .int .i64 0, .int .i64 0, .int .i64 0] 23)
  have o3 := (Ob.new (w.alloc (.cells #[.int .i64 a0, .int .i64 a1, .int .i64 a2, .int .i64 a3] 23)) 23 #[.int .i64 b0, .int .i64 b1, .int .i64 b2, .int .i64 b3]).alloc (.cells #[.int .i64 0, .int .i64 0, .int .i64 0, .int .i64 0] 23)
  have o4 := Ob.new ((w.alloc (.cells #[.int .i64 a0, .int .i64 a1, .int .i64 a2, .int .i64 a3] 23)).alloc (.cells #[.int .i64 b0, .int .i64 b1, .int .i64 b2, .int .i64 b3] 23)) 23 #[.int .i64 0, .int .i64 0, .int .i64 0, .int .i64 0]
  have hB : Below w.heap.size w (((w.alloc (.cells #[.int .i64 a0, .int .i64 a1, .int .i64 a2, .int .i64 a3] 23)).alloc (.cells #[.int .i64 b0, .int .i64 b1, .int .i64 b2, .int .i64 b3] 23)).alloc (.cells #[.int .i64 0, .int .i64 0, .int .i64 0, .int .i64 0] 23)) := (((Below.refl _ w).alloc (Nat.le_refl _) _).alloc (by simp) _).alloc (by simp; omega) _
  simp only [World.size_alloc] at o3 o4
  have hs : (((w.alloc (.cells #[.int .i64 a0, .int .i64 a1, .int .i64 a2, .int .i64 a3] 23)).alloc (.cells #[.int .i64 b0, .int .i64 b1, .int .i64 b2, .int .i64 b3] 23)).alloc (.cells #[.int .i64 0, .int .i64 0, .int .i64 0, .int .i64 0] 23)).heap.size = w.heap.size + 3 := by simp
  have HB := Lib.hid hB
  clear hB
  go_enter Try.func9, Try.ntmps9
  go_wp2_with (refine wpList_store_ob rfl 23 (.tmp 4) (.tmp 25) rfl rfl rfl o4 rfl (by kernel_rfl) (by simp [Value.oneCell']) ?_; intro w4 hO hg)
  have hb := HB.out.grown hg HB.out.size (fun k e => by cases e; omega)
  refine bodyPost_ret (v := .agg #[.int .i64 (wrap64 (a0 + b0)), .int .i64 (wrap64 (a1 + b1)), .int .i64 (wrap64 (a2 + b2)), .int .i64 (wrap64 (a3 + b3))]) ?_ rfl ⟨rfl, hb⟩
  have c0 := hO.cell (j := 0) (v := .int .i64 (wrap64 (a0 + b0))) rfl
  have c1 := hO.cell (j := 1) (v := .int .i64 (wrap64 (a1 + b1))) rfl
  have c2 := hO.cell (j := 2) (v := .int .i64 (wrap64 (a2 + b2))) rfl
  have c3 := hO.cell (j := 3) (v := .int .i64 (wrap64 (a3 + b3))) rfl
  simp [results, Try.f9, go_sem, c0, c1, c2, c3]
set_option maxRecDepth 100000 in
set_option maxHeartbeats 4000000 in
theorem rlevel_calls (a0 a1 a2 a3 b0 b1 b2 b3 : Int) (w : World) :
    Calls Try.prog 10 #[.agg #[.int .i64 a0, .int .i64 a1, .int .i64 a2, .int .i64 a3], .agg #[.int .i64 b0, .int .i64 b1, .int .i64 b2, .int .i64 b3]] w fun e w' => e = .returned (.agg #[.int .i64 (wrap64 (a0 + b0)), .int .i64 (wrap64 (a1 + b1)), .int .i64 (wrap64 (a2 + b2)), .int .i64 (wrap64 (a3 + b3))]) ∧ Below w.heap.size w w' := by
  have o2 := ((Ob.new w 23 #[.int .i64 a0, .int .i64 a1, .int .i64 a2, .int .i64 a3]).alloc (.cells #[.int .i64 b0, .int .i64 b1, .int .i64 b2, .int .i64 b3] 23)).alloc (.cells #[.int .i64 0, .int .i64 0, .int .i64 0, .int .i64 0] 23)
  have o3 := (Ob.new (w.alloc (.cells #[.int .i64 a0, .int .i64 a1, .int .i64 a2, .int .i64 a3] 23)) 23 #[.int .i64 b0, .int .i64 b1, .int .i64 b2, .int .i64 b3]).alloc (.cells #[.int .i64 0, .int .i64 0, .int .i64 0, .int .i64 0] 23)
  have o4 := Ob.new ((w.alloc (.cells #[.int .i64 a0, .int .i64 a1, .int .i64 a2, .int .i64 a3] 23)).alloc (.cells #[.int .i64 b0, .int .i64 b1, .int .i64 b2, .int .i64 b3] 23)) 23 #[.int .i64 0, .int .i64 0, .int .i64 0, .int .i64 0]
  have hB : Below w.heap.size w (((w.alloc (.cells #[.int .i64 a0, .int .i64 a1, .int .i64 a2, .int .i64 a3] 23)).alloc (.cells #[.int .i64 b0, .int .i64 b1, .int .i64 b2, .int .i64 b3] 23)).alloc (.cells #[.int .i64 0, .int .i64 0, .int .i64 0, .int .i64 0] 23)) := (((Below.refl _ w).alloc (Nat.le_refl _) _).alloc (by simp) _).alloc (by simp; omega) _
  simp only [World.size_alloc] at o3 o4
  have hs : (((w.alloc (.cells #[.int .i64 a0, .int .i64 a1, .int .i64 a2, .int .i64 a3] 23)).alloc (.cells #[.int .i64 b0, .int .i64 b1, .int .i64 b2, .int .i64 b3] 23)).alloc (.cells #[.int .i64 0, .int .i64 0, .int .i64 0, .int .i64 0] 23)).heap.size = w.heap.size + 3 := by simp
  have HB := Lib.hid hB
  clear hB
  go_enter Try.func10, Try.ntmps10
  go_wp2_with (refine wpList_store_ob rfl 23 (.tmp 4) (.tmp 25) rfl rfl rfl o4 rfl (by kernel_rfl) (by simp [Value.oneCell']) ?_; intro w4 hO hg)
  have hb := HB.out.grown hg HB.out.size (fun k e => by cases e; omega)
  refine bodyPost_ret (v := .agg #[.int .i64 (wrap64 (a0 + b0)), .int .i64 (wrap64 (a1 + b1)), .int .i64 (wrap64 (a2 + b2)), .int .i64 (wrap64 (a3 + b3))]) ?_ rfl ⟨rfl, hb⟩
  have c0 := hO.cell (j := 0) (v := .int .i64 (wrap64 (a0 + b0))) rfl
  have c1 := hO.cell (j := 1) (v := .int .i64 (wrap64 (a1 + b1))) rfl
  have c2 := hO.cell (j := 2) (v := .int .i64 (wrap64 (a2 + b2))) rfl
  have c3 := hO.cell (j := 3) (v := .int .i64 (wrap64 (a3 + b3))) rfl
  simp [results, Try.f10, go_sem, c0, c1, c2, c3]
set_option maxRecDepth 100000 in
set_option maxHeartbeats 4000000 in
theorem gflow_calls (a0 a1 a2 a3 a4 a5 a6 b0 b1 b2 b3 b4 b5 b6 : Int) (w : World) :
    Calls Try.prog 11 #[.agg #[.int .i64 a0, .int .i64 a1, .int .i64 a2, .int .i64 a3, .int .i64 a4, .int .i64 a5, .int .i64 a6], .agg #[.int .i64 b0, .int .i64 b1, .int .i64 b2, .int .i64 b3, .int .i64 b4, .int .i64 b5, .int .i64 b6]] w fun e w' => e = .returned (.agg #[.int .i64 (wrap64 (a0 + b0)), .int .i64 (wrap64 (a1 + b1)), .int .i64 (wrap64 (a2 + b2)), .int .i64 (wrap64 (a3 + b3)), .int .i64 (wrap64 (a4 + b4)), .int .i64 (wrap64 (a5 + b5)), .int .i64 (wrap64 (a6 + b6))]) ∧ Below w.heap.size w w' := by
  have o2 := ((Ob.new w 25 #[.int .i64 a0, .int .i64 a1, .int .i64 a2, .int .i64 a3, .int .i64 a4, .int .i64 a5, .int .i64 a6]).alloc (.cells #[.int .i64 b0, .int .i64 b1, .int .i64 b2, .int .i64 b3, .int .i64 b4, .int .i64 b5, .int .i64 b6] 25)).alloc (.cells #[.int .i64 0, .int .i64 0, .int .i64 0, .int .i64 0, .int .i64 0, .int .i64 0, .int .i64 0] 25)
  have o3 := (Ob.new (w.alloc (.cells #[.int .i64 a0, .int .i64 a1, .int .i64 a2, .int .i64 a3, .int .i64 a4, .int .i64 a5, .int .i64 a6] 25)) 25 #[.int .i64 b0, .int .i64 b1, .int .i64 b2, .int .i64 b3, .int .i64 b4, .int .i64 b5, .int .i64 b6]).alloc (.cells #[.int .i64 0, .int .i64 0, .int .i64 0, .int .i64 0, .int .i64 0, .int .i64 0, .int .i64 0] 25)
  have o4 := Ob.new ((w.alloc (.cells #[.int .i64 a0, .int .i64 a1, .int .i64 a2, .int .i64 a3, .int .i64 a4, .int .i64 a5, .int .i64 a6] 25)).alloc (.cells #[.int .i64 b0, .int .i64 b1, .int .i64 b2, .int .i64 b3, .int .i64 b4, .int .i64 b5, .int .i64 b6] 25)) 25 #[.int .i64 0, .int .i64 0, .int .i64 0, .int .i64 0, .int .i64 0, .int .i64 0, .int .i64 0]
  have hB : Below w.heap.size w (((w.alloc (.cells #[.int .i64 a0, .int .i64 a1, .int .i64 a2, .int .i64 a3, .int .i64 a4, .int .i64 a5, .int .i64 a6] 25)).alloc (.cells #[.int .i64 b0, .int .i64 b1, .int .i64 b2, .int .i64 b3, .int .i64 b4, .int .i64 b5, .int .i64 b6] 25)).alloc (.cells #[.int .i64 0, .int .i64 0, .int .i64 0, .int .i64 0, .int .i64 0, .int .i64 0, .int .i64 0] 25)) := (((Below.refl _ w).alloc (Nat.le_refl _) _).alloc (by simp) _).alloc (by simp; omega) _
  simp only [World.size_alloc] at o3 o4
  have hs : (((w.alloc (.cells #[.int .i64 a0, .int .i64 a1, .int .i64 a2, .int .i64 a3, .int .i64 a4, .int .i64 a5, .int .i64 a6] 25)).alloc (.cells #[.int .i64 b0, .int .i64 b1, .int .i64 b2, .int .i64 b3, .int .i64 b4, .int .i64 b5, .int .i64 b6] 25)).alloc (.cells #[.int .i64 0, .int .i64 0, .int .i64 0, .int .i64 0, .int .i64 0, .int .i64 0, .int .i64 0] 25)).heap.size = w.heap.size + 3 := by simp
  have HSZ := Lib.hid hs
  clear hs
  go_enter Try.func11, Try.ntmps11
  go_upto_region 1 with (fail)
  generalize (((w.alloc (.cells #[.int .i64 a0, .int .i64 a1, .int .i64 a2, .int .i64 a3, .int .i64 a4, .int .i64 a5, .int .i64 a6] 25)).alloc (.cells #[.int .i64 b0, .int .i64 b1, .int .i64 b2, .int .i64 b3, .int .i64 b4, .int .i64 b5, .int .i64 b6] 25)).alloc (.cells #[.int .i64 0, .int .i64 0, .int .i64 0, .int .i64 0, .int .i64 0, .int .i64 0, .int .i64 0] 25)) = w0 at *
  have p0 := o2.cell (j := 0) (v := .int .i64 a0) rfl
  have f0 := o2.frozen 0
  have q0 := o3.cell (j := 0) (v := .int .i64 b0) rfl
  go_upto_region 2 with (fail)
  clear p0 f0 q0
  have g0 := grownBy_set w0 w.heap.size 0 (.int .i64 (wrap64 (a0 + b0)))
  replace o2 : Ob (w0.setCell ⟨w.heap.size, 0, none⟩ (.int .i64 (wrap64 (a0 + b0)))) w.heap.size 25 #[.int .i64 (wrap64 (a0 + b0)), .int .i64 a1, .int .i64 a2, .int .i64 a3, .int .i64 a4, .int .i64 a5, .int .i64 a6] := o2.set 0 (.int .i64 (wrap64 (a0 + b0)))
  replace o3 := o3.kept g0 (fun e => by have := Option.some.inj e; omega)
  replace o4 := o4.kept g0 (fun e => by have := Option.some.inj e; omega)
  replace hB := hB.grown g0 hB.size (fun k e => by cases e; exact Nat.le_refl _)
  clear g0
  generalize w0.setCell ⟨w.heap.size, 0, none⟩ (.int .i64 (wrap64 (a0 + b0))) = w1 at *
  have p1 := o2.cell (j := 1) (v := .int .i64 a1) rfl
  have f1 := o2.frozen 1
  have q1 := o3.cell (j := 1) (v := .int .i64 b1) rfl
  go_upto_region 3 with (fail)
  clear p1 f1 q1
  have g1 := grownBy_set w1 w.heap.size 1 (.int .i64 (wrap64 (a1 + b1)))
  replace o2 : Ob (w1.setCell ⟨w.heap.size, 1, none⟩ (.int .i64 (wrap64 (a1 + b1)))) w.heap.size 25 #[.int .i64 (wrap64 (a0 + b0)), .int .i64 (wrap64 (a1 + b1)), .int .i64 a2, .int .i64 a3, .int .i64 a4, .int .i64 a5, .int .i64 a6] := o2.set 1 (.int .i64 (wrap64 (a1 + b1)))
  replace o3 := o3.kept g1 (fun e => by have := Option.some.inj e; omega)
  replace o4 := o4.kept g1 (fun e => by have := Option.some.inj e; omega)
  replace hB := hB.grown g1 hB.size (fun k e => by cases e; exact Nat.le_refl _)
  clear g1
  generalize w1.setCell ⟨w.heap.size, 1, none⟩ (.int .i64 (wrap64 (a1 + b1))) = w2 at *
  have p2 := o2.cell (j := 2) (v := .int .i64 a2) rfl
  have f2 := o2.frozen 2
  have q2 := o3.cell (j := 2) (v := .int .i64 b2) rfl
  go_upto_region 4 with (fail)
  clear p2 f2 q2
  have g2 := grownBy_set w2 w.heap.size 2 (.int .i64 (wrap64 (a2 + b2)))
  replace o2 : Ob (w2.setCell ⟨w.heap.size, 2, none⟩ (.int .i64 (wrap64 (a2 + b2)))) w.heap.size 25 #[.int .i64 (wrap64 (a0 + b0)), .int .i64 (wrap64 (a1 + b1)), .int .i64 (wrap64 (a2 + b2)), .int .i64 a3, .int .i64 a4, .int .i64 a5, .int .i64 a6] := o2.set 2 (.int .i64 (wrap64 (a2 + b2)))
  replace o3 := o3.kept g2 (fun e => by have := Option.some.inj e; omega)
  replace o4 := o4.kept g2 (fun e => by have := Option.some.inj e; omega)
  replace hB := hB.grown g2 hB.size (fun k e => by cases e; exact Nat.le_refl _)
  clear g2
  generalize w2.setCell ⟨w.heap.size, 2, none⟩ (.int .i64 (wrap64 (a2 + b2))) = w3 at *
  have p3 := o2.cell (j := 3) (v := .int .i64 a3) rfl
  have f3 := o2.frozen 3
  have q3 := o3.cell (j := 3) (v := .int .i64 b3) rfl
  go_upto_region 5 with (fail)
  clear p3 f3 q3
  have g3 := grownBy_set w3 w.heap.size 3 (.int .i64 (wrap64 (a3 + b3)))
  replace o2 : Ob (w3.setCell ⟨w.heap.size, 3, none⟩ (.int .i64 (wrap64 (a3 + b3)))) w.heap.size 25 #[.int .i64 (wrap64 (a0 + b0)), .int .i64 (wrap64 (a1 + b1)), .int .i64 (wrap64 (a2 + b2)), .int .i64 (wrap64 (a3 + b3)), .int .i64 a4, .int .i64 a5, .int .i64 a6] := o2.set 3 (.int .i64 (wrap64 (a3 + b3)))
  replace o3 := o3.kept g3 (fun e => by have := Option.some.inj e; omega)
  replace o4 := o4.kept g3 (fun e => by have := Option.some.inj e; omega)
  replace hB := hB.grown g3 hB.size (fun k e => by cases e; exact Nat.le_refl _)
  clear g3
  generalize w3.setCell ⟨w.heap.size, 3, none⟩ (.int .i64 (wrap64 (a3 + b3))) = w4 at *
  have p4 := o2.cell (j := 4) (v := .int .i64 a4) rfl
  have f4 := o2.frozen 4
  have q4 := o3.cell (j := 4) (v := .int .i64 b4) rfl
  go_upto_region 6 with (fail)
  clear p4 f4 q4
  have g4 := grownBy_set w4 w.heap.size 4 (.int .i64 (wrap64 (a4 + b4)))
  replace o2 : Ob (w4.setCell ⟨w.heap.size, 4, none⟩ (.int .i64 (wrap64 (a4 + b4)))) w.heap.size 25 #[.int .i64 (wrap64 (a0 + b0)), .int .i64 (wrap64 (a1 + b1)), .int .i64 (wrap64 (a2 + b2)), .int .i64 (wrap64 (a3 + b3)), .int .i64 (wrap64 (a4 + b4)), .int .i64 a5, .int .i64 a6] := o2.set 4 (.int .i64 (wrap64 (a4 + b4)))
  replace o3 := o3.kept g4 (fun e => by have := Option.some.inj e; omega)
  replace o4 := o4.kept g4 (fun e => by have := Option.some.inj e; omega)
  replace hB := hB.grown g4 hB.size (fun k e => by cases e; exact Nat.le_refl _)
  clear g4
  generalize w4.setCell ⟨w.heap.size, 4, none⟩ (.int .i64 (wrap64 (a4 + b4))) = w5 at *
  have p5 := o2.cell (j := 5) (v := .int .i64 a5) rfl
  have f5 := o2.frozen 5
  have q5 := o3.cell (j := 5) (v := .int .i64 b5) rfl
  go_upto_region 7 with (fail)
  clear p5 f5 q5
  have g5 := grownBy_set w5 w.heap.size 5 (.int .i64 (wrap64 (a5 + b5)))
  replace o2 : Ob (w5.setCell ⟨w.heap.size, 5, none⟩ (.int .i64 (wrap64 (a5 + b5)))) w.heap.size 25 #[.int .i64 (wrap64 (a0 + b0)), .int .i64 (wrap64 (a1 + b1)), .int .i64 (wrap64 (a2 + b2)), .int .i64 (wrap64 (a3 + b3)), .int .i64 (wrap64 (a4 + b4)), .int .i64 (wrap64 (a5 + b5)), .int .i64 a6] := o2.set 5 (.int .i64 (wrap64 (a5 + b5)))
  replace o3 := o3.kept g5 (fun e => by have := Option.some.inj e; omega)
  replace o4 := o4.kept g5 (fun e => by have := Option.some.inj e; omega)
  replace hB := hB.grown g5 hB.size (fun k e => by cases e; exact Nat.le_refl _)
  clear g5
  generalize w5.setCell ⟨w.heap.size, 5, none⟩ (.int .i64 (wrap64 (a5 + b5))) = w6 at *
  have p6 := o2.cell (j := 6) (v := .int .i64 a6) rfl
  have f6 := o2.frozen 6
  have q6 := o3.cell (j := 6) (v := .int .i64 b6) rfl
  go_upto_region 8 with (fail)
  clear p6 f6 q6
  have g6 := grownBy_set w6 w.heap.size 6 (.int .i64 (wrap64 (a6 + b6)))
  replace o2 : Ob (w6.setCell ⟨w.heap.size, 6, none⟩ (.int .i64 (wrap64 (a6 + b6)))) w.heap.size 25 #[.int .i64 (wrap64 (a0 + b0)), .int .i64 (wrap64 (a1 + b1)), .int .i64 (wrap64 (a2 + b2)), .int .i64 (wrap64 (a3 + b3)), .int .i64 (wrap64 (a4 + b4)), .int .i64 (wrap64 (a5 + b5)), .int .i64 (wrap64 (a6 + b6))] := o2.set 6 (.int .i64 (wrap64 (a6 + b6)))
  replace o3 := o3.kept g6 (fun e => by have := Option.some.inj e; omega)
  replace o4 := o4.kept g6 (fun e => by have := Option.some.inj e; omega)
  replace hB := hB.grown g6 hB.size (fun k e => by cases e; exact Nat.le_refl _)
  clear g6
  generalize w6.setCell ⟨w.heap.size, 6, none⟩ (.int .i64 (wrap64 (a6 + b6))) = w7 at *
  have p0 := o2.cell (j := 0) (v := .int .i64 (wrap64 (a0 + b0))) rfl
  have p1 := o2.cell (j := 1) (v := .int .i64 (wrap64 (a1 + b1))) rfl
  have p2 := o2.cell (j := 2) (v := .int .i64 (wrap64 (a2 + b2))) rfl
  have p3 := o2.cell (j := 3) (v := .int .i64 (wrap64 (a3 + b3))) rfl
  have p4 := o2.cell (j := 4) (v := .int .i64 (wrap64 (a4 + b4))) rfl
  have p5 := o2.cell (j := 5) (v := .int .i64 (wrap64 (a5 + b5))) rfl
  have p6 := o2.cell (j := 6) (v := .int .i64 (wrap64 (a6 + b6))) rfl
  go_wp2_with (refine wpList_store_ob rfl 25 (.tmp 4) (.tmp 47) rfl rfl rfl o4 rfl (by kernel_rfl) (by simp [Value.oneCell']) ?_; intro w9 hO hg)
  have hb := hB.grown hg hB.size (fun k e => by cases e; omega)
  refine bodyPost_ret (v := .agg #[.int .i64 (wrap64 (a0 + b0)), .int .i64 (wrap64 (a1 + b1)), .int .i64 (wrap64 (a2 + b2)), .int .i64 (wrap64 (a3 + b3)), .int .i64 (wrap64 (a4 + b4)), .int .i64 (wrap64 (a5 + b5)), .int .i64 (wrap64 (a6 + b6))]) ?_ rfl ⟨rfl, hb⟩
  have c0 := hO.cell (j := 0) (v := .int .i64 (wrap64 (a0 + b0))) rfl
  have c1 := hO.cell (j := 1) (v := .int .i64 (wrap64 (a1 + b1))) rfl
  have c2 := hO.cell (j := 2) (v := .int .i64 (wrap64 (a2 + b2))) rfl
  have c3 := hO.cell (j := 3) (v := .int .i64 (wrap64 (a3 + b3))) rfl
  have c4 := hO.cell (j := 4) (v := .int .i64 (wrap64 (a4 + b4))) rfl
  have c5 := hO.cell (j := 5) (v := .int .i64 (wrap64 (a5 + b5))) rfl
  have c6 := hO.cell (j := 6) (v := .int .i64 (wrap64 (a6 + b6))) rfl
  simp [results, Try.f11, go_sem, c0, c1, c2, c3, c4, c5, c6]
set_option maxRecDepth 100000 in
set_option maxHeartbeats 4000000 in
theorem rflow_calls (a0 a1 a2 a3 a4 a5 a6 b0 b1 b2 b3 b4 b5 b6 : Int) (w : World) :
    Calls Try.prog 12 #[.agg #[.int .i64 a0, .int .i64 a1, .int .i64 a2, .int .i64 a3, .int .i64 a4, .int .i64 a5, .int .i64 a6], .agg #[.int .i64 b0, .int .i64 b1, .int .i64 b2, .int .i64 b3, .int .i64 b4, .int .i64 b5, .int .i64 b6]] w fun e w' => e = .returned (.agg #[.int .i64 (wrap64 (a0 + b0)), .int .i64 (wrap64 (a1 + b1)), .int .i64 (wrap64 (a2 + b2)), .int .i64 (wrap64 (a3 + b3)), .int .i64 (wrap64 (a4 + b4)), .int .i64 (wrap64 (a5 + b5)), .int .i64 (wrap64 (a6 + b6))]) ∧ Below w.heap.size w w' := by
  have o2 := ((Ob.new w 25 #[.int .i64 a0, .int .i64 a1, .int .i64 a2, .int .i64 a3, .int .i64 a4, .int .i64 a5, .int .i64 a6]).alloc (.cells #[.int .i64 b0, .int .i64 b1, .int .i64 b2, .int .i64 b3, .int .i64 b4, .int .i64 b5, .int .i64 b6] 25)).alloc (.cells #[.int .i64 0, .int .i64 0, .int .i64 0, .int .i64 0, .int .i64 0, .int .i64 0, .int .i64 0] 25)
  have o3 := (Ob.new (w.alloc (.cells #[.int .i64 a0, .int .i64 a1, .int .i64 a2, .int .i64 a3, .int .i64 a4, .int .i64 a5, .int .i64 a6] 25)) 25 #[.int .i64 b0, .int .i64 b1, .int .i64 b2, .int .i64 b3, .int .i64 b4, .int .i64 b5, .int .i64 b6]).alloc (.cells #[.int .i64 0, .int .i64 0, .int .i64 0, .int .i64 0, .int .i64 0, .int .i64 0, .int .i64 0] 25)
  have o4 := Ob.new ((w.alloc (.cells #[.int .i64 a0, .int .i64 a1, .int .i64 a2, .int .i64 a3, .int .i64 a4, .int .i64 a5, .int .i64 a6] 25)).alloc (.cells #[.int .i64 b0, .int .i64 b1, .int .i64 b2, .int .i64 b3, .int .i64 b4, .int .i64 b5, .int .i64 b6] 25)) 25 #[.int .i64 0, .int .i64 0, .int .i64 0, .int .i64 0, .int .i64 0, .int .i64 0, .int .i64 0]
  have hB : Below w.heap.size w (((w.alloc (.cells #[.int .i64 a0, .int .i64 a1, .int .i64 a2, .int .i64 a3, .int .i64 a4, .int .i64 a5, .int .i64 a6] 25)).alloc (.cells #[.int .i64 b0, .int .i64 b1, .int .i64 b2, .int .i64 b3, .int .i64 b4, .int .i64 b5, .int .i64 b6] 25)).alloc (.cells #[.int .i64 0, .int .i64 0, .int .i64 0, .int .i64 0, .int .i64 0, .int .i64 0, .int .i64 0] 25)) := (((Below.refl _ w).alloc (Nat.le_refl _) _).alloc (by simp) _).alloc (by simp; omega) _
  simp only [World.size_alloc] at o3 o4
  have hs : (((w.alloc (.cells #[.int .i64 a0, .int .i64 a1, .int .i64 a2, .int .i64 a3, .int .i64 a4, .int .i64 a5, .int .i64 a6] 25)).alloc (.cells #[.int .i64 b0, .int .i64 b1, .int .i64 b2, .int .i64 b3, .int .i64 b4, .int .i64 b5, .int .i64 b6] 25)).alloc (.cells #[.int .i64 0, .int .i64 0, .int .i64 0, .int .i64 0, .int .i64 0, .int .i64 0, .int .i64 0] 25)).heap.size = w.heap.size + 3 := by simp
  have HB := Lib.hid hB
  clear hB
  go_enter Try.func12, Try.ntmps12
  go_wp2_with (refine wpList_store_ob rfl 25 (.tmp 4) (.tmp 40) rfl rfl rfl o4 rfl (by kernel_rfl) (by simp [Value.oneCell']) ?_; intro w4 hO hg)
  have hb := HB.out.grown hg HB.out.size (fun k e => by cases e; omega)
  refine bodyPost_ret (v := .agg #[.int .i64 (wrap64 (a0 + b0)), .int .i64 (wrap64 (a1 + b1)), .int .i64 (wrap64 (a2 + b2)), .int .i64 (wrap64 (a3 + b3)), .int .i64 (wrap64 (a4 + b4)), .int .i64 (wrap64 (a5 + b5)), .int .i64 (wrap64 (a6 + b6))]) ?_ rfl ⟨rfl, hb⟩
  have c0 := hO.cell (j := 0) (v := .int .i64 (wrap64 (a0 + b0))) rfl
  have c1 := hO.cell (j := 1) (v := .int .i64 (wrap64 (a1 + b1))) rfl
  have c2 := hO.cell (j := 2) (v := .int .i64 (wrap64 (a2 + b2))) rfl
  have c3 := hO.cell (j := 3) (v := .int .i64 (wrap64 (a3 + b3))) rfl
  have c4 := hO.cell (j := 4) (v := .int .i64 (wrap64 (a4 + b4))) rfl
  have c5 := hO.cell (j := 5) (v := .int .i64 (wrap64 (a5 + b5))) rfl
  have c6 := hO.cell (j := 6) (v := .int .i64 (wrap64 (a6 + b6))) rfl
  simp [results, Try.f12, go_sem, c0, c1, c2, c3, c4, c5, c6]
set_option maxRecDepth 100000 in
set_option maxHeartbeats 4000000 in
theorem kept_calls (g : ByteArray) (a0 a1 a2 a3 a4 a5 a6 a7 a8 a9 a10 way : Int) (w : World) :
    Calls Try.prog 13 #[.agg #[.string g, .int .i64 a0, .int .i64 a1, .int .i64 a2, .int .i64 a3, .int .i64 a4, .int .i64 a5, .int .i64 a6, .int .i64 a7, .int .i64 a8, .int .i64 a9, .int .i64 a10, .int .i64 way]] w fun e w' => e = .returned (.bool (keptT a0 a1 a2 a3 a4 a5 a6 a7 a8 a9 a10 way)) ∧ Below w.heap.size w w' := by
  have o1 := Ob.new w 27 #[.string g, .int .i64 a0, .int .i64 a1, .int .i64 a2, .int .i64 a3, .int .i64 a4, .int .i64 a5, .int .i64 a6, .int .i64 a7, .int .i64 a8, .int .i64 a9, .int .i64 a10, .int .i64 way]
  have hB : Below w.heap.size w (w.alloc (.cells #[.string g, .int .i64 a0, .int .i64 a1, .int .i64 a2, .int .i64 a3, .int .i64 a4, .int .i64 a5, .int .i64 a6, .int .i64 a7, .int .i64 a8, .int .i64 a9, .int .i64 a10, .int .i64 way] 27)) := (Below.refl _ w).alloc (Nat.le_refl _) _
  have HB := Lib.hid hB
  have HK := Lib.hid (show keptT a0 a1 a2 a3 a4 a5 a6 a7 a8 a9 a10 way = (decide (0 ≤ way) && (wrap64 (wrap64 (wrap64 (wrap64 (a0 + a1) + a2) + a3) + way) == wrap64 (wrap64 (wrap64 (wrap64 (a4 + a5) + a6) - a8) - a9))) from rfl)
  clear hB
  by_cases h0 : 0 ≤ way
  · have hd : decide (way ≥ 0) = true := by simpa using h0
    have HT := Lib.hid (show keptT a0 a1 a2 a3 a4 a5 a6 a7 a8 a9 a10 way = (wrap64 (wrap64 (wrap64 (wrap64 (a0 + a1) + a2) + a3) + way) == wrap64 (wrap64 (wrap64 (wrap64 (a4 + a5) + a6) - a8) - a9)) by rw [HK.out, decide_eq_true h0]; rfl)
    clear h0
    go_enter Try.func13, Try.ntmps13
    go_wp2
    go_ret
    exact ⟨ret1 (boo (by rw [HT.out])), HB.out⟩
  · have hd : decide (way ≥ 0) = false := by simpa using h0
    have HT := Lib.hid (show keptT a0 a1 a2 a3 a4 a5 a6 a7 a8 a9 a10 way = false by rw [HK.out, decide_eq_false h0]; rfl)
    clear h0
    go_enter Try.func13, Try.ntmps13
    go_wp2
    go_ret
    exact ⟨ret1 (boo HT.out.symm), HB.out⟩
set_option maxRecDepth 100000 in
set_option maxHeartbeats 4000000 in
theorem rkept_calls (g : ByteArray) (a0 a1 a2 a3 a4 a5 a6 a7 a8 a9 a10 way : Int) (w : World) :
    Calls Try.prog 14 #[.agg #[.string g, .int .i64 a0, .int .i64 a1, .int .i64 a2, .int .i64 a3, .int .i64 a4, .int .i64 a5, .int .i64 a6, .int .i64 a7, .int .i64 a8, .int .i64 a9, .int .i64 a10, .int .i64 way]] w fun e w' => e = .returned (.bool (keptT a0 a1 a2 a3 a4 a5 a6 a7 a8 a9 a10 way)) ∧ Below w.heap.size w w' := by
  have o1 := Ob.new w 27 #[.string g, .int .i64 a0, .int .i64 a1, .int .i64 a2, .int .i64 a3, .int .i64 a4, .int .i64 a5, .int .i64 a6, .int .i64 a7, .int .i64 a8, .int .i64 a9, .int .i64 a10, .int .i64 way]
  have hB : Below w.heap.size w (w.alloc (.cells #[.string g, .int .i64 a0, .int .i64 a1, .int .i64 a2, .int .i64 a3, .int .i64 a4, .int .i64 a5, .int .i64 a6, .int .i64 a7, .int .i64 a8, .int .i64 a9, .int .i64 a10, .int .i64 way] 27)) := (Below.refl _ w).alloc (Nat.le_refl _) _
  have HB := Lib.hid hB
  have HK := Lib.hid (show keptT a0 a1 a2 a3 a4 a5 a6 a7 a8 a9 a10 way = (decide (0 ≤ way) && (wrap64 (wrap64 (wrap64 (wrap64 (a0 + a1) + a2) + a3) + way) == wrap64 (wrap64 (wrap64 (wrap64 (a4 + a5) + a6) - a8) - a9))) from rfl)
  clear hB
  by_cases h0 : 0 ≤ way
  · have hd : decide (way ≥ 0) = true := by simpa using h0
    have HT := Lib.hid (show keptT a0 a1 a2 a3 a4 a5 a6 a7 a8 a9 a10 way = (wrap64 (wrap64 (wrap64 (wrap64 (a0 + a1) + a2) + a3) + way) == wrap64 (wrap64 (wrap64 (wrap64 (a4 + a5) + a6) - a8) - a9)) by rw [HK.out, decide_eq_true h0]; rfl)
    clear h0
    go_enter Try.func14, Try.ntmps14
    go_wp2
    go_ret
    exact ⟨ret1 (boo (by rw [HT.out])), HB.out⟩
  · have hd : decide (way ≥ 0) = false := by simpa using h0
    have HT := Lib.hid (show keptT a0 a1 a2 a3 a4 a5 a6 a7 a8 a9 a10 way = false by rw [HK.out, decide_eq_false h0]; rfl)
    clear h0
    go_enter Try.func14, Try.ntmps14
    go_wp2
    go_ret
    exact ⟨ret1 (boo HT.out.symm), HB.out⟩
end Sk
end Go.Proofs.Ytlhpdalfnjhokaa

namespace Go.Proofs.Ytlhpdalfnjhokaa
open Go.RowKit
namespace Pe
open Pu
inductive Plan where
  | nil
  | look (i : Nat) (p : Plan)
  | make (i : Nat) (p : Plan)
  | fork (i : Nat) (p : Plan) (j : Nat) (q : Plan)
inductive PlanO where
  | nil
  | look (o : Oper) (p : PlanO)
  | make (o : Oper) (p : PlanO)
  | fork (o : Oper) (p : PlanO) (o' : Oper) (q : PlanO)
def rest : Plan → List Nat
  | .nil => []
  | .look i p => i :: rest p
  | .make i p => i :: rest p
  | .fork i p _ _ => i :: rest p
section
variable {P : Program} {ops : Array Oper} {Q : Exit → Act → World → Prop} {md : Region.Mode}
def named (ops : Array Oper) : Plan → PlanO
  | .nil => .nil
  | .look i p => match ops[i]? with | some o => .look o (named ops p) | none => .nil
  | .make i p => match ops[i]? with | some o => .make o (named ops p) | none => .nil
  | .fork i p j q => match ops[i]?, ops[j]? with | some o, some o' => .fork o (named ops p) o' (named ops q) | _, _ => .nil
/-- is this operation behind that one, by edges? -/
def reachN (ops : Array Oper) : Nat → Oper → Nat → Bool
  | 0, _, _ => false
  | n + 1, o, j => o.after.any fun e => Region.binds .any e && (e.on == j || match ops[e.on]? with | some q => reachN ops n q j | none => false)
/-- all but n others are behind it -/
def endsK (ops : Array Oper) (o : Oper) (n : Nat) : Bool := decide (((List.range ops.size).filter fun j => !reachN ops 5 o j).length ≤ 1 + n)
theorem reachN_listed {listed : Array Bool} (hcl : ∀ k q, ops[k]? = some q → listed.getD k true = true → ∀ e ∈ q.after, Region.binds .any e = true → listed.getD e.on true = true) :
    ∀ (n : Nat) (o : Oper) (j : Nat), (∀ e ∈ o.after, Region.binds .any e = true → listed.getD e.on true = true) → reachN ops n o j = true → listed.getD j true = true
  | 0, _, _, _, h => by cases h
  | n + 1, o, j, hall, h => by
    unfold reachN at h
    obtain ⟨e, he, hbe⟩ := Array.any_eq_true'.1 h
    simp only [Bool.and_eq_true, Bool.or_eq_true, beq_iff_eq] at hbe
    have h1 := hall e he hbe.1
    rcases hbe.2 with h2 | h2
    · rw [← h2]; exact h1
    · cases hq : ops[e.on]? with
      | none => rw [hq] at h2; cases h2
      | some q =>
        rw [hq] at h2
        exact reachN_listed hcl n q j (hcl e.on q hq h1) h2
theorem nodup_len : ∀ (l m : List Nat), l.Nodup → (∀ x ∈ l, x ∈ m) → l.length ≤ m.length
  | [], _, _, _ => by simp
  | x :: r, m, h, hs => by
    have hx := hs x (by simp)
    have hn := List.nodup_cons.1 h
    have := nodup_len r (m.erase x) hn.2 (fun y hy => (List.mem_erase_of_ne (fun e => by subst e; exact hn.1 hy)).2 (hs y (List.mem_cons_of_mem _ hy)))
    have hl := List.length_erase_of_mem hx
    have hp : 0 < m.length := List.length_pos_of_mem hx
    simp only [List.length_cons]
    omega
theorem endsK_at {o : Oper} {i : Nat} {R : List Nat} {listed : Array Bool} (h : endsK ops o R.length = true) (hsz : listed.size = ops.size) (hi : i < ops.size) (hun : listed.getD i true = false) (hR : R.Nodup) (hRi : i ∉ R) (hRu : ∀ k ∈ R, listed.getD k true = false)
    (hall : ∀ e ∈ o.after, Region.binds .any e = true → listed.getD e.on true = true) (hcl : ∀ k q, ops[k]? = some q → listed.getD k true = true → ∀ e ∈ q.after, Region.binds .any e = true → listed.getD e.on true = true) : ∀ j, listed.getD j true = false → j = i ∨ j ∈ R := by
  intro j hj
  have low : ∀ k, listed.getD k true = false → k < ops.size := fun k hk => by
    rcases Nat.lt_or_ge k ops.size with h | h
    · exact h
    · simp [show ¬ k < listed.size by omega] at hk
  have inF : ∀ k, listed.getD k true = false → k ∈ (List.range ops.size).filter fun j => !reachN ops 5 o j := fun k hk => by
    refine List.mem_filter.2 ⟨List.mem_range.2 (low k hk), ?_⟩
    cases hx : reachN ops 5 o k with
    | false => rfl
    | true => have := reachN_listed hcl 5 o k hall hx; rw [hk] at this; cases this
  unfold endsK at h
  have hlen := of_decide_eq_true h
  by_cases hji : j = i ∨ j ∈ R
  · exact hji
  · exfalso
    have := nodup_len (j :: i :: R) _ (List.nodup_cons.2 ⟨fun h => hji (by rcases List.mem_cons.1 h with h | h; exact .inl h; exact .inr h), List.nodup_cons.2 ⟨hRi, hR⟩⟩) (fun x hx => by
      rcases List.mem_cons.1 hx with rfl | hx
      · exact inF _ hj
      · rcases List.mem_cons.1 hx with rfl | hx
        · exact inF _ hun
        · exact inF _ (hRu x hx))
    simp only [List.length_cons] at this
    omega
def lenO : PlanO → Nat
  | .nil => 0
  | .look _ p => lenO p + 1
  | .make _ p => lenO p + 1
  | .fork _ p _ _ => lenO p + 1
/-- what one making operation owes -/
def Owes (P : Program) (ops : Array Oper) (a : Act) (o : Oper) (n : Nat) (B J : World → Prop) (S : Act → (World → Prop) → (World → Prop) → Prop) : Prop :=
  Region.wanted o (yielded ops a.tmps) = true ∧ ∀ w, J w → wpList P ops (fun e a' w' => e = .normal ∧ ∃ v B' J', a' = a.put o.dst v ∧ J' w' ∧ S (a.put o.dst v) B' J' ∧ (∀ w, J' w → B' w) ∧ (endsK ops o n = true ∨ ∀ w, B' w → B w)) [o] a w
def SeqT (P : Program) (ops : Array Oper) (Q : Exit → Act → World → Prop) : PlanO → Act → (World → Prop) → (World → Prop) → Prop
  | .nil, a, _, J => ∀ w, J w → Q .normal a w
  | .look o p, a, B, J =>
    if Region.wanted o (yielded ops a.tmps) = true then
      ∃ v, (∀ w, B w → wpList P ops (fun e a' w' => e = .normal ∧ a' = a.put o.dst v ∧ w' = w) [o] a w) ∧ SeqT P ops Q p (a.put o.dst v) B J
    else SeqT P ops Q p (a.put o.dst undef) B J
  | .make o p, a, B, J => Owes P ops a o (lenO p) B J (SeqT P ops Q p)
  | .fork o p o' q, a, B, J => Owes P ops a o (lenO p) B J (SeqT P ops Q p) ∧ Owes P ops a o' (lenO q) B J (SeqT P ops Q q)

def hd (ops : Array Oper) (i : Nat) (r : List Nat) : Bool :=
  (match ops[i]? with
    | none => false
    | some o =>
      (match o.op with | .select .. => false | .defer _ => false | _ => true) &&
      ((o.looksAt ops).all fun t => o.dst != some t && r.all fun p => match ops[p]? with | some q => q.dst != some t | none => false) &&
      (match o.dst with | none => true | some d => r.all fun p => match ops[p]? with | some q => q.dst != some d | none => false)) &&
  (r.all fun p => p != i)
def okT (md : Region.Mode) (ops : Array Oper) : Plan → Bool
  | .nil => true
  | .look i p => hd ops i (rest p) && okT md ops p
  | .make i p => hd ops i (rest p) && ((rest p).all fun k => bound md ops k (i :: rest p)) && okT md ops p
  | .fork i p j q => hd ops i (rest p) && hd ops j (rest q) && (rest p).contains j && (rest q).contains i && ((rest p).all fun k => k == j || (rest q).contains k) && ((rest q).all fun k => k == i || (rest p).contains k) &&
      ((rest p).all fun k => k == j || bound md ops k (i :: rest p)) && okT md ops p && okT md ops q
def whole (ops : Array Oper) (p : Plan) : Bool := (List.range ops.size).all fun i => (rest p).contains i

theorem hd_at {i : Nat} {r : List Nat} (h : hd ops i r = true) : ∃ o, ops[i]? = some o ∧ (match o.op with | .select .. => false | .defer _ => false | _ => true) = true ∧
    (∀ t ∈ o.looksAt ops, o.dst ≠ some t ∧ ∀ p ∈ r, ∀ q, ops[p]? = some q → q.dst ≠ some t) ∧ (∀ d, o.dst = some d → ∀ p ∈ r, ∀ q, ops[p]? = some q → q.dst ≠ some d) ∧ (∀ p ∈ r, p ≠ i) := by
  simp only [hd, Bool.and_eq_true] at h
  obtain ⟨h1, h2⟩ := h
  cases ho : ops[i]? with
  | none => rw [ho] at h1; cases h1
  | some o =>
    rw [ho] at h1
    simp only [Bool.and_eq_true] at h1
    obtain ⟨⟨g1, g2⟩, g3⟩ := h1
    refine ⟨o, rfl, g1, fun t ht => ?_, fun d hd p hp q hq => ?_, fun p hp => ?_⟩
    · have := List.all_eq_true.1 g2 t ht
      simp only [Bool.and_eq_true, bne_iff_ne, List.all_eq_true] at this
      refine ⟨this.1, fun p hp q hq => ?_⟩
      have h5 := this.2 p hp
      rw [hq] at h5
      simpa using h5
    · rw [hd] at g3
      have h5 := List.all_eq_true.1 g3 p hp
      rw [hq] at h5
      simpa using h5
    · have := List.all_eq_true.1 h2 p hp
      simpa using this

/-- what is known between two operations -/
structure St (P : Program) (ops : Array Oper) (Q : Exit → Act → World → Prop) (md : Region.Mode) (post : Plan) (pre : List Nat) (A : Act) (B J : World → Prop) : Prop where
  sub : ∀ w, J w → B w
  op : ∀ i ∈ pre, ∀ o, ops[i]? = some o → (match o.op with | .select .. => false | .defer _ => false | _ => true) = true
  fact : ∀ i ∈ pre, ∀ o, ops[i]? = some o → ∀ w, B w → wpList P ops (fun e a' w' => e = .normal ∧ a' = A ∧ w' = w) [o] A w
  looks : ∀ i ∈ pre, ∀ o, ops[i]? = some o → ∀ t ∈ o.looksAt ops, ∀ p ∈ rest post, ∀ q, ops[p]? = some q → q.dst ≠ some t
  dst : ∀ i ∈ pre, ∀ o, ops[i]? = some o → ∀ d, o.dst = some d → ∀ p ∈ rest post, ∀ q, ops[p]? = some q → q.dst ≠ some d
  ok : okT md ops post = true
  seq : SeqT P ops Q (named ops post) A B J

/-- one more operation is seen through -/
theorem lenO_named : ∀ {p : Plan}, okT md ops p = true → lenO (named ops p) = (rest p).length
  | .nil, _ => rfl
  | .look i p, h => by
    simp only [okT, Bool.and_eq_true] at h
    obtain ⟨o, ho, -⟩ := hd_at h.1
    simp only [named, ho, lenO, rest, List.length_cons, lenO_named h.2]
  | .make i p, h => by
    simp only [okT, Bool.and_eq_true] at h
    obtain ⟨o, ho, -⟩ := hd_at h.1.1
    simp only [named, ho, lenO, rest, List.length_cons, lenO_named h.2]
  | .fork i p j q, h => by
    simp only [okT, Bool.and_eq_true] at h
    obtain ⟨o, ho, -⟩ := hd_at h.1.1.1.1.1.1.1.1
    obtain ⟨o', ho', -⟩ := hd_at h.1.1.1.1.1.1.1.2
    simp only [named, ho, ho', lenO, rest, List.length_cons, lenO_named h.1.2]
theorem rest_nodup : ∀ {p : Plan}, okT md ops p = true → (rest p).Nodup
  | .nil, _ => List.nodup_nil
  | .look i p, h => by
    simp only [okT, Bool.and_eq_true] at h
    obtain ⟨o, ho, -, -, -, g⟩ := hd_at h.1
    exact List.nodup_cons.2 ⟨fun hm => g i hm rfl, rest_nodup h.2⟩
  | .make i p, h => by
    simp only [okT, Bool.and_eq_true] at h
    obtain ⟨o, ho, -, -, -, g⟩ := hd_at h.1.1
    exact List.nodup_cons.2 ⟨fun hm => g i hm rfl, rest_nodup h.2⟩
  | .fork i p j q, h => by
    simp only [okT, Bool.and_eq_true] at h
    obtain ⟨o, ho, -, -, -, g⟩ := hd_at h.1.1.1.1.1.1.1.1
    exact List.nodup_cons.2 ⟨fun hm => g i hm rfl, rest_nodup h.1.2⟩
theorem St.step {i : Nat} {post p : Plan} {pre : List Nat} {A : Act} {B J B' J' : World → Prop} {o : Oper} {v : Value} (h : St P ops Q md post pre A B J) (ho : ops[i]? = some o) (hi : i ∈ rest post) (hsub : ∀ k ∈ rest p, k ∈ rest post) (hok : okT md ops p = true)
    (hB : ∀ w, B' w → B w) (hJ : ∀ w, J' w → B' w) (hs : SeqT P ops Q (named ops p) (A.put o.dst v) B' J') : St P ops Q md p pre (A.put o.dst v) B' J' := by
  refine ⟨hJ, h.op, fun k hk ok hok w hw => ?_, fun k hk ok hok t ht p hp => h.looks k hk ok hok t ht p (hsub p hp), fun k hk ok hok d hd p hp => h.dst k hk ok hok d hd p (hsub p hp), hok, hs⟩
  have hl : ∀ t ∈ ok.looksAt ops, o.dst ≠ some t := fun t ht => h.looks k hk ok hok t ht i hi o ho
  refine shift (h.op k hk ok hok) (put_eval A hl v) (put_wanted A hl v) rfl (fun u hu => ?_) (h.fact k hk ok hok w (hB w hw))
  rw [put_comm A (d := o.dst) (e := ok.dst) (fun t ht he => h.dst k hk ok hok t he i hi o ho ht) u v, hu]
theorem St.still {i : Nat} {p : Plan} {pre : List Nat} {A : Act} {B J : World → Prop} {o : Oper} {v : Value} (h : St P ops Q md (.look i p) pre A B J) (ho : ops[i]? = some o)
    (hv : ∀ w, B w → wpList P ops (fun e a' w' => e = .normal ∧ a' = A.put o.dst v ∧ w' = w) [o] A w)
    (hs : SeqT P ops Q (named ops p) (A.put o.dst v) B J) : St P ops Q md p (i :: pre) (A.put o.dst v) B J := by
  have hz := h.ok
  simp only [okT, Bool.and_eq_true] at hz
  have h1 := h.step ho (by simp [rest]) (p := p) (fun k hk => by simp [rest, hk]) hz.2 (fun _ h => h) h.sub hs
  obtain ⟨o', ho', g1, g2, g3, g4⟩ := hd_at hz.1
  clear hz
  rw [ho] at ho'
  cases ho'
  refine ⟨h.sub, fun k hk ok hok => ?_, fun k hk ok hok w hw => ?_, fun k hk ok hok t ht p hp q hq => ?_, fun k hk ok hok d hd p hp q hq => ?_, h1.ok, h1.seq⟩
  · rcases List.mem_cons.1 hk with rfl | hk
    · rw [ho] at hok; cases hok; exact g1
    · exact h1.op k hk ok hok
  · rcases List.mem_cons.1 hk with rfl | hk
    · rw [ho] at hok; cases hok
      have hl : ∀ t ∈ o.looksAt ops, o.dst ≠ some t := fun t ht => (g2 t ht).1
      refine shift g1 (put_eval A hl v) (put_wanted A hl v) (put_defers _ _ _) (fun u hu => ?_) (hv w hw)
      rw [put_put, hu]
    · exact h1.fact k hk ok hok w hw
  · rcases List.mem_cons.1 hk with rfl | hk
    · rw [ho] at hok; cases hok; exact (g2 t ht).2 p hp q hq
    · exact h1.looks k hk ok hok t ht p hp q hq
  · rcases List.mem_cons.1 hk with rfl | hk
    · rw [ho] at hok; cases hok; exact g3 d hd p hp q hq
    · exact h1.dst k hk ok hok d hd p hp q hq
def makes : Plan → Bool
  | .look .. => false
  | _ => true
theorem advance {a : Act} {listed : Array Bool} {B J : World → Prop} : ∀ (post : Plan) (pre : List Nat) (A : Act), St P ops Q md post pre A B J → Agree ops A listed a → (∀ p ∈ rest post, listed.getD p true = false) →
    ∃ post' pre' A', St P ops Q md post' pre' A' B J ∧ Agree ops A' listed a ∧ (∀ p ∈ rest post', listed.getD p true = false) ∧ (∀ j, (j ∈ pre ∨ j ∈ rest post) → j ∈ pre' ∨ j ∈ rest post') ∧ makes post' = true
  | .nil, pre, A, h, ha, hu => ⟨.nil, pre, A, h, ha, hu, fun _ h => h, rfl⟩
  | .make i p, pre, A, h, ha, hu => ⟨.make i p, pre, A, h, ha, hu, fun _ h => h, rfl⟩
  | .fork i p j q, pre, A, h, ha, hu => ⟨.fork i p j q, pre, A, h, ha, hu, fun _ h => h, rfl⟩
  | .look i r, pre, A, h, ha, hu => by
    have hok := h.ok
    simp only [okT, Bool.and_eq_true] at hok
    obtain ⟨o, ho, g1, g2, g3, g4⟩ := hd_at hok.1
    have hs := h.seq
    simp only [named, ho, SeqT] at hs
    have hi := hu i (by simp [rest])
    have key : ∀ v, (∀ w, B w → wpList P ops (fun e a' w' => e = .normal ∧ a' = A.put o.dst v ∧ w' = w) [o] A w) → SeqT P ops Q (named ops r) (A.put o.dst v) B J →
        ∃ post' pre' A', St P ops Q md post' pre' A' B J ∧ Agree ops A' listed a ∧ (∀ p ∈ rest post', listed.getD p true = false) ∧ (∀ j, (j ∈ pre ∨ j ∈ rest (.look i r)) → j ∈ pre' ∨ j ∈ rest post') ∧ makes post' = true := by
      intro v hv hs2
      obtain ⟨post', pre', A', k1, k2, k3, k4, k5⟩ := advance r (i :: pre) _ (h.still ho hv hs2) (ha.more ho hi) (fun p hp => hu p (by simp [rest, hp]))
      refine ⟨post', pre', A', k1, k2, k3, fun j hj => k4 j ?_, k5⟩
      rcases hj with hj | hj
      · exact .inl (List.mem_cons_of_mem _ hj)
      · rcases List.mem_cons.1 hj with rfl | hj
        · exact .inl (by simp)
        · exact .inr hj
    by_cases hw : Region.wanted o (yielded ops A.tmps) = true
    · rw [if_pos hw] at hs
      obtain ⟨v, hv, hs2⟩ := hs
      exact key v hv hs2
    · rw [if_neg hw] at hs
      have hoff : ∀ w, B w → wpList P ops (fun e a' w' => e = .normal ∧ a' = A.put o.dst undef ∧ w' = w) [o] A w := fun w _ => by
        unfold wpList
        rw [if_neg hw]
        exact ⟨rfl, rfl, rfl⟩
      exact key undef hoff hs
/-- behind a plan's looks: which operation may come, and the plan that then goes on -/
theorem next {post : Plan} {A : Act} {B J : World → Prop} {pre : List Nat} (h : St P ops Q md post pre A B J) (hm : makes post = true) {listed : Array Bool} (hu : ∀ p ∈ rest post, listed.getD p true = false) {i : Nat} {o : Oper} (ho : ops[i]? = some o) (hi : i ∈ rest post)
    (hall : ∀ e ∈ o.after, Region.binds md e = true → listed.getD e.on true = true) :
    ∃ p, Owes P ops A o (lenO (named ops p)) B J (SeqT P ops Q (named ops p)) ∧ okT md ops p = true ∧ (∀ k ∈ rest p, k ∈ rest post ∧ k ≠ i) ∧ (∀ k ∈ rest post, k ≠ i → k ∈ rest p) := by
  have hno : ∀ l : List Nat, (∀ k ∈ l, k ∈ rest post) → bound md ops i l = false := fun l hl => by
    cases hb : bound md ops i l with
    | false => rfl
    | true =>
      unfold bound at hb
      rw [ho] at hb
      obtain ⟨e, he, hbe⟩ := Array.any_eq_true'.1 hb
      simp only [Bool.and_eq_true, List.contains_iff_mem] at hbe
      have h1 := hall e he hbe.1
      rw [hu e.on (hl e.on hbe.2)] at h1
      cases h1
  have hok := h.ok
  have hs := h.seq
  cases post with
  | nil => cases hi
  | look i p => cases hm
  | make c p =>
    simp only [okT, Bool.and_eq_true] at hok
    obtain ⟨⟨k1, k2⟩, k3⟩ := hok
    obtain ⟨oc, hoc, -, -, -, g4⟩ := hd_at k1
    have hci : i = c := by
      rcases List.mem_cons.1 hi with h | h
      · exact h
      · have := List.all_eq_true.1 k2 i h
        rw [hno (c :: rest p) (fun k hk => hk)] at this
        cases this
    subst hci
    rw [ho] at hoc
    cases hoc
    simp only [named, ho, SeqT] at hs
    exact ⟨p, hs, k3, fun k hk => ⟨List.mem_cons_of_mem _ hk, g4 k hk⟩, fun k hk hne => (List.mem_cons.1 hk).resolve_left hne⟩
  | fork c p d q =>
    simp only [okT, Bool.and_eq_true] at hok
    obtain ⟨⟨⟨⟨⟨⟨⟨⟨k1, k2⟩, k3⟩, k4⟩, k5⟩, k6⟩, k7⟩, k8⟩, k9⟩ := hok
    obtain ⟨oc, hoc, -, -, -, g4⟩ := hd_at k1
    obtain ⟨od, hod, -, -, -, g5⟩ := hd_at k2
    simp only [named, hoc, hod, SeqT] at hs
    rw [List.contains_iff_mem] at k3 k4
    have m1 : ∀ k ∈ rest p, k = d ∨ k ∈ rest q := fun k hk => by
      have := List.all_eq_true.1 k5 k hk
      simpa [List.contains_iff_mem] using this
    have m2 : ∀ k ∈ rest q, k = c ∨ k ∈ rest p := fun k hk => by
      have := List.all_eq_true.1 k6 k hk
      simpa [List.contains_iff_mem] using this
    have hcd : i = c ∨ i = d := by
      rcases List.mem_cons.1 hi with h | h
      · exact .inl h
      · have := List.all_eq_true.1 k7 i h
        rw [hno (c :: rest p) (fun k hk => hk)] at this
        simp only [Bool.or_false, beq_iff_eq] at this
        exact .inr this
    rcases hcd with rfl | rfl
    · rw [ho] at hoc
      cases hoc
      exact ⟨p, hs.1, k8, fun k hk => ⟨List.mem_cons_of_mem _ hk, g4 k hk⟩, fun k hk hne => (List.mem_cons.1 hk).resolve_left hne⟩
    · rw [ho] at hod
      cases hod
      refine ⟨q, hs.2, k9, fun k hk => ⟨?_, g5 k hk⟩, fun k hk hne => ?_⟩
      · rcases m2 k hk with rfl | h
        · simp [rest]
        · exact List.mem_cons_of_mem _ h
      · rcases List.mem_cons.1 hk with rfl | h
        · exact k4
        · exact (m1 k h).resolve_left hne
theorem run_made (hmd : md = .any) (hf : fine md ops = true) : ∀ (m : Nat) (left : List Nat) (listed : Array Bool) (a A : Act) (w : World) (B J : World → Prop) (post : Plan) (pre : List Nat), left.length = m → listed.size = ops.size → left.Nodup → (∀ j, j ∈ left ↔ listed.getD j true = false) →
    (∀ j, listed.getD j true = false → j ∈ pre ∨ j ∈ rest post) → (∀ p ∈ rest post, listed.getD p true = false) → (∀ k q, ops[k]? = some q → listed.getD k true = true → ∀ e ∈ q.after, Region.binds md e = true → listed.getD e.on true = true) → Agree ops A listed a → J w → St P ops Q md post pre A B J → wpAny P md ops Q m listed a w := by
  intro m
  induction m with
  | zero =>
    intro left listed a A w B J post pre hm hsz hnd hl hc hu hcl ha hJ hS
    have hn : left = [] := List.length_eq_zero_iff.1 hm
    subst hn
    obtain ⟨post', pre', A', k1, k2, k3, k4, k5⟩ := advance post pre A hS ha hu
    have hp : post' = .nil := by
      cases post' with
      | nil => rfl
      | look i p => cases k5
      | make i p => have := (hl i).2 (k3 i (by simp [rest])); cases this
      | fork i p j q => have := (hl i).2 (k3 i (by simp [rest])); cases this
    subst hp
    have ht : a = A' := by
      have ht : a.tmps = A'.tmps := by
        refine Array.ext k2.size fun t h1 h2 => ?_
        have := k2.at' t fun j o _ _ => by
          have := (hl j).2
          cases hx : listed.getD j true with
          | true => rfl
          | false => cases this hx
        simpa [h1, h2] using this
      have hd := k2.defers
      cases a; cases A'
      simp only at ht hd
      rw [ht, hd]
    subst ht
    refine ⟨?_, k1.seq w hJ⟩
    cases hr : Region.ready md ops listed with
    | nil => rfl
    | cons i rs =>
      have : i ∈ Region.ready md ops listed := by rw [hr]; simp
      have := (hl i).2 (mem_ready.1 this).1
      cases this
  | succ m ih =>
    intro left listed a A w B J post pre hm hsz hnd hl hc hu hcl ha hJ hS
    refine ⟨fun hr => ?_, fun i hi => ?_⟩
    · rw [ready_some hf left listed hsz hl hr] at hm; simp at hm
    obtain ⟨post', pre', A', k1, k2, k3, k4, k5⟩ := advance post pre A hS ha hu
    obtain ⟨hun, o, ho, hall⟩ := mem_ready.1 hi
    obtain ⟨f1, f2, f3, f4⟩ := fine_at hf ho
    have his : i < ops.size := (Array.getElem?_eq_some_iff.1 ho).1
    have hallD : ∀ e ∈ o.after, Region.binds md e = true → listed.getD e.on true = true := fun e he hb => by
      have h1 := hall e he hb
      rcases Nat.lt_or_ge e.on listed.size with hes | hes
      · simp [hes] at h1 ⊢
        exact h1
      · simp [show ¬ e.on < listed.size by omega]
    have hlook : ∀ t ∈ o.looksAt ops, ∀ j p, ops[j]? = some p → p.dst = some t → listed.getD j true = true := by
      intro t ht j p hj hp
      obtain ⟨e, he, hb, rfl⟩ := f4 t ht j p hj hp
      exact hallD e he hb
    have heval := k2.eval hlook
    have hwant := k2.wanted hlook
    have hmem : i ∈ left := (hl i).2 hun
    have hnext : ∀ (A1 : Act) (B1 J1 : World → Prop) (post1 : Plan) (pre1 : List Nat) (v : Value) (w' : World), A1.put o.dst v = A1 → Agree ops A1 listed a → J1 w' → St P ops Q md post1 pre1 A1 B1 J1 →
        (∀ j, listed.getD j true = false → j ≠ i → j ∈ pre1 ∨ j ∈ rest post1) → (∀ p ∈ rest post1, listed.getD p true = false ∧ p ≠ i) → wpAny P md ops Q m (listed.setIfInBounds i true) (a.put o.dst v) w' := by
      intro A1 B1 J1 post1 pre1 v w' hv hag hJ1 hS1 hc1 hu1
      refine ih (left.erase i) _ _ A1 w' B1 J1 post1 pre1 (by rw [List.length_erase_of_mem hmem, hm]; rfl) (by simpa using hsz) (hnd.erase i) (fun j => ?_) (fun j hj => ?_) (fun p hp => ?_) (fun k q hq hk e he hb => ?_) (hag.put ho hv) hJ1 hS1
      · rw [hnd.mem_erase_iff, hl j]
        by_cases e : i = j
        · subst e
          simp [show i < listed.size by omega]
        · rw [getD_set_ne true e]
          exact ⟨fun h => h.2, fun h => ⟨fun h' => e h'.symm, h⟩⟩
      · by_cases e : i = j
        · subst e
          simp [show i < listed.size by omega] at hj
        · rw [getD_set_ne true e] at hj
          exact hc1 j hj (fun h => e h.symm)
      · rw [getD_set_ne true (fun e => (hu1 p hp).2 e.symm)]
        exact (hu1 p hp).1
      · have hold : listed.getD e.on true = true := by
          by_cases ek : i = k
          · subst ek
            rw [ho] at hq
            cases hq
            exact hallD e he hb
          · rw [getD_set_ne true ek] at hk
            exact hcl k q hq hk e he hb
        by_cases ee : i = e.on
        · rw [← ee]
          simp [show i < listed.size by omega]
        · rw [getD_set_ne true ee]
          exact hold
    have hcase : i ∈ pre' ∨ i ∈ rest post' := k4 i (hc i hun)
    have hkeep : ∀ v w', A'.put o.dst v = A' → w' = w → i ∉ rest post' → wpAny P md ops Q m (listed.setIfInBounds i true) (a.put o.dst v) w' := fun v w' hv hw hn =>
      hnext A' B J post' pre' v w' hv k2 (hw ▸ hJ) k1 (fun j hj hne => k4 j (hc j hj)) (fun p hp => ⟨k3 p hp, fun e => hn (e ▸ hp)⟩)
    by_cases hpost : i ∈ rest post'
    · obtain ⟨p, ⟨hwc, howe⟩, hokp, hsub, hsup⟩ := next k1 k5 k3 ho hpost hallD
      have h := howe w hJ
      have hmake : ∀ u w', (∃ v B' J', A'.put o.dst u = A'.put o.dst v ∧ J' w' ∧ SeqT P ops Q (named ops p) (A'.put o.dst v) B' J' ∧ (∀ w, J' w → B' w) ∧ (endsK ops o (lenO (named ops p)) = true ∨ ∀ w, B' w → B w)) → wpAny P md ops Q m (listed.setIfInBounds i true) (a.put o.dst u) w' := by
        rintro u w' ⟨v, B', J', h1, h2, h3, h4, h5⟩
        rw [← h1] at h3
        rcases h5 with h5 | h5
        · have hend := endsK_at (listed := listed) (R := rest p) (by rw [← lenO_named hokp]; exact h5) hsz his hun (rest_nodup hokp) (fun h => (hsub i h).2 rfl) (fun k hk => k3 k (hsub k hk).1) (fun e he hb => hallD e he (by rw [hmd]; exact hb)) (fun k q hq hk e he hb => hcl k q hq hk e he (by rw [hmd]; exact hb))
          exact hnext (A'.put o.dst u) B' J' p [] u w' (put_put _ _ _ _) (k2.more ho (k3 i hpost)) h2 ⟨h4, fun k hk => (by cases hk), fun k hk => (by cases hk), fun k hk => (by cases hk), fun k hk => (by cases hk), hokp, h3⟩ (fun j hj hne => .inr ((hend j hj).resolve_left hne)) (fun q hq => ⟨k3 q (hsub q hq).1, (hsub q hq).2⟩)
        refine hnext (A'.put o.dst u) B' J' p pre' u w' (put_put _ _ _ _) (k2.more ho (k3 i hpost)) h2 (k1.step ho hpost (fun k hk => (hsub k hk).1) hokp h5 h4 h3) (fun j hj hne => ?_) (fun q hq => ⟨k3 q (hsub q hq).1, (hsub q hq).2⟩)
        rcases k4 j (hc j hj) with h | h
        · exact .inl h
        · exact .inr (hsup j h hne)
      unfold wpOp
      simp only [ho]
      unfold wpList at h
      rw [hwant]
      simp only [hwc, if_true] at h ⊢
      rcases h with h | ⟨_, _, _, h, _⟩
      case inr => cases h
      refine .inl ?_
      unfold Oper.wp at h ⊢
      rw [execOp_congr o f1 heval]
      generalize (execOp A'.eval o).run P w = x at *
      cases x with
      | ok x w' =>
        cases x <;> simp only [Oper.upon] at h ⊢
        case value v => exact hmake v w' h.2
        case skip => exact hmake _ w' h.2
        case defer d =>
          obtain ⟨v, B', J', h1, _⟩ := h.2
          have := congrArg (fun b : Act => b.defers.length) h1
          simp only [put_defers] at this
          simp at this
        case enter f args =>
          refine Calls.mono h fun e w'' he => ?_
          cases e with
          | returned v => exact hmake v w'' he.2
          | panicked c => cases he.1
          | outgrown => obtain ⟨_, _, h, _⟩ := he; cases h
        case row row args => exact Rows.mono h fun v w'' he => hmake v w'' he.2
      | halt x w' =>
        cases x <;> simp only [Oper.upon] at h ⊢
        case panic u => cases h.1
    · have hpre : i ∈ pre' := hcase.resolve_right hpost
      have h := k1.fact i hpre o ho w (k1.sub w hJ)
      unfold wpOp
      simp only [ho]
      unfold wpList at h
      rw [hwant]
      split
      · rename_i hw
        simp only [hw, if_true] at h
        rcases h with h | ⟨_, _, _, h, _⟩
        case inr => cases h
        refine .inl ?_
        unfold Oper.wp at h ⊢
        rw [execOp_congr o f1 heval]
        generalize (execOp A'.eval o).run P w = r at *
        cases r with
        | ok x w' =>
          cases x <;> simp only [Oper.upon] at h ⊢
          case value v => exact hkeep v w' h.2.1 h.2.2 hpost
          case skip => exact hkeep _ w' h.2.1 h.2.2 hpost
          case defer d =>
            have := congrArg List.length (put_self h.2.1).1
            simp at this
          case enter f args =>
            refine Calls.mono h fun e w'' he => ?_
            cases e with
            | returned v => exact hkeep v w'' he.2.1 he.2.2 hpost
            | panicked c => cases he.1
            | outgrown => obtain ⟨_, _, h, _⟩ := he; cases h
          case row row args => exact Rows.mono h fun v w'' he => hkeep v w'' he.2.1 he.2.2 hpost
        | halt x w' =>
          cases x <;> simp only [Oper.upon] at h ⊢
          case panic u => cases h.1
      · rename_i hw
        simp only [hw] at h
        exact hkeep _ w h.2.1 rfl hpost

/-- the walk, behind a name that nothing unfolds -/
structure WalkT (P : Program) (ops : Array Oper) (Q : Exit → Act → World → Prop) (l : PlanO) (a : Act) (B J : World → Prop) : Prop where
  go : SeqT P ops Q l a B J
theorem WalkT.nil {a : Act} {B J : World → Prop} (h : ∀ w, J w → Q .normal a w) : WalkT P ops Q .nil a B J := ⟨h⟩
theorem WalkT.on {a : Act} {B J : World → Prop} {o : Oper} {r : PlanO} (hw : asks ops.toList o a.tmps.toList = true) {v : Value}
    (h1 : ∀ w, B w → wpList P ops (Lets (a.put o.dst v) w) [o] a w) (h : WalkT P ops Q r (a.put o.dst v) B J) : WalkT P ops Q (.look o r) a B J := by
  have hw' : Region.wanted o (yielded ops a.tmps) = true := (asks_eq _ _ _).trans hw
  refine ⟨?_⟩
  simp only [SeqT, hw', if_true]
  exact ⟨v, fun w hB => Lets.eq ▸ h1 w hB, h.go⟩
theorem WalkT.off {a : Act} {B J : World → Prop} {o : Oper} {r : PlanO} (hw : asks ops.toList o a.tmps.toList = false) (h : WalkT P ops Q r (a.put o.dst undef) B J) : WalkT P ops Q (.look o r) a B J := by
  have hw' : Region.wanted o (yielded ops a.tmps) = false := (asks_eq _ _ _).trans hw
  refine ⟨?_⟩
  simp only [SeqT, hw']
  exact h.go
structure MadeT (P : Program) (ops : Array Oper) (Q : Exit → Act → World → Prop) (r : PlanO) (a : Act) (o : Oper) (B : World → Prop) (e : Exit) (a' : Act) (w' : World) : Prop where
  e : e = .normal
  on : ∃ v B' J', a' = a.put o.dst v ∧ J' w' ∧ (∀ w, J' w → B' w) ∧ (endsK ops o (lenO r) = true ∨ ∀ w, B' w → B w) ∧ WalkT P ops Q r (a.put o.dst v) B' J'
theorem owes {a : Act} {B J : World → Prop} {o : Oper} {r : PlanO} (hw : asks ops.toList o a.tmps.toList = true) (h1 : ∀ w, J w → wpList P ops (MadeT P ops Q r a o B) [o] a w) : Owes P ops a o (lenO r) B J (SeqT P ops Q r) := by
  have hw' : Region.wanted o (yielded ops a.tmps) = true := (asks_eq _ _ _).trans hw
  have he : MadeT P ops Q r a o B = fun e a' w' => e = .normal ∧ ∃ v B' J', a' = a.put o.dst v ∧ J' w' ∧ SeqT P ops Q r (a.put o.dst v) B' J' ∧ (∀ w, J' w → B' w) ∧ (endsK ops o (lenO r) = true ∨ ∀ w, B' w → B w) := by
    funext e a' w'
    exact propext ⟨fun h => ⟨h.e, let ⟨v, B', J', h1, h2, h3, h4, h5⟩ := h.on; ⟨v, B', J', h1, h2, h5.go, h3, h4⟩⟩, fun h => ⟨h.1, let ⟨v, B', J', h1, h2, h3, h4, h5⟩ := h.2; ⟨v, B', J', h1, h2, h4, h5, ⟨h3⟩⟩⟩⟩
  exact ⟨hw', fun w hJ => he ▸ h1 w hJ⟩
theorem WalkT.make {a : Act} {B J : World → Prop} {o : Oper} {r : PlanO} (hw : asks ops.toList o a.tmps.toList = true) (h1 : ∀ w, J w → wpList P ops (MadeT P ops Q r a o B) [o] a w) : WalkT P ops Q (.make o r) a B J := ⟨owes hw h1⟩
theorem WalkT.fork {a : Act} {B J : World → Prop} {o o' : Oper} {r r' : PlanO} (hw : asks ops.toList o a.tmps.toList = true) (hw' : asks ops.toList o' a.tmps.toList = true) (h1 : ∀ w, J w → wpList P ops (MadeT P ops Q r a o B) [o] a w) (h2 : ∀ w, J w → wpList P ops (MadeT P ops Q r' a o' B) [o'] a w) :
    WalkT P ops Q (.fork o r o' r') a B J := ⟨owes hw h1, owes hw' h2⟩

theorem okT_lt : ∀ {p : Plan}, okT md ops p = true → ∀ k ∈ rest p, k < ops.size
  | .nil, _, k, hk => by cases hk
  | .look i p, h, k, hk => by
    simp only [okT, Bool.and_eq_true] at h
    rcases List.mem_cons.1 hk with rfl | hk
    · obtain ⟨o, ho, -⟩ := hd_at h.1
      exact (Array.getElem?_eq_some_iff.1 ho).1
    · exact okT_lt h.2 k hk
  | .make i p, h, k, hk => by
    simp only [okT, Bool.and_eq_true] at h
    rcases List.mem_cons.1 hk with rfl | hk
    · obtain ⟨o, ho, -⟩ := hd_at h.1.1
      exact (Array.getElem?_eq_some_iff.1 ho).1
    · exact okT_lt h.2 k hk
  | .fork i p j q, h, k, hk => by
    simp only [okT, Bool.and_eq_true] at h
    rcases List.mem_cons.1 hk with rfl | hk
    · obtain ⟨o, ho, -⟩ := hd_at h.1.1.1.1.1.1.1.1
      exact (Array.getElem?_eq_some_iff.1 ho).1
    · exact okT_lt h.1.2 k hk
theorem regionT {id : Nat} {a : Act} {w : World} (plan : Plan) (B : World → Prop) (hm : P.follows .mixedOrders = true) (hf : fine .any ops = true) (hok : okT .any ops plan = true) (hwh : whole ops plan = true) (hB : B w.drew)
    {l : PlanO} (hl : named ops plan = l) (hs : WalkT P ops Q l a B (fun W => W = w.drew)) : (Code.region id ops true).wp P Q a w := by
  subst hl
  refine wp_region_any hm ?_
  have h := run_made (md := .any) (P := P) (Q := Q) rfl hf ops.size (List.range ops.size) (Array.replicate ops.size false) a a w.drew B (fun W => W = w.drew) plan [] (by simp) (by simp) List.nodup_range (fun j => ?_) (fun j hj => ?_) (fun p hp => ?_) (fun k q hq hk => ?_) ⟨rfl, rfl, fun _ _ => rfl⟩ rfl
    ⟨fun W h => h ▸ hB, (fun i hi => nomatch hi), (fun i hi => nomatch hi), (fun i hi => nomatch hi), (fun i hi => nomatch hi), hok, hs.go⟩
  · exact h
  · rw [List.mem_range]
    by_cases h : j < ops.size
    · simp [h]
    · simp [h]
  · right
    have hjs : j < ops.size := by
      rcases Nat.lt_or_ge j ops.size with h | h
      · exact h
      · simp [h] at hj
    have := List.all_eq_true.1 hwh j (List.mem_range.2 hjs)
    simpa [List.contains_iff_mem] using this
  · simp [okT_lt hok p hp]
  · have := (Array.getElem?_eq_some_iff.1 hq).1
    simp [this] at hk
end
end Pe
end Go.Proofs.Ytlhpdalfnjhokaa

namespace Go.Proofs.Ytlhpdalfnjhokaa
open Go.RowKit Go.Maps
namespace Sk
open It Al
/-- a pointer to a stock, or nil -/
def SpAt (w : World) (base : Nat) (p : Value) (s : Stk) : Prop := (p = .pointer none ∧ s = []) ∨ ∃ b mb, p = .pointer (some ⟨b, 0, none⟩) ∧ StkAt w base b mb s
theorem SpAt.same {w w' : World} {base : Nat} {p : Value} {s : Stk} (h : SpAt w base p s) (hb : Below w.heap.size w w') : SpAt w' base p s := by
  rcases h with h | ⟨b, mb, h1, h2⟩
  · exact .inl h
  · exact .inr ⟨b, mb, h1, h2.same hb⟩
/-- a slice of pointers to stocks -/
structure StsAt (w : World) (base : Nat) (v : Value) (ss : List Stk) : Prop where
  at_ : ∃ ps : List Value, ps.length = ss.length ∧ Sl w 0 w.heap.size 1 v ss.length ps ∧ ∀ i (h : i < ss.length), ∃ p, ps[i]? = some p ∧ SpAt w base p ss[i]
theorem StsAt.same {w w' : World} {base : Nat} {v : Value} {ss : List Stk} (h : StsAt w base v ss) (hb : Below w.heap.size w w') : StsAt w' base v ss := by
  obtain ⟨ps, h1, h2, h3⟩ := h.at_
  refine ⟨ps, h1, h2.mono hb hb.size, fun i hi => ?_⟩
  obtain ⟨p, k1, k2⟩ := h3 i hi
  exact ⟨p, k1, k2.same hb⟩
def addRow (a b : Row) : Row := (List.range 11).map fun j => wrap64 (at_ a j + at_ b j)
def totR (ss : List Stk) (g : Key) : Row := ss.foldl (fun acc s => addRow acc ((aGet s g).getD row0)) row0
theorem totR_snoc (ss : List Stk) (s : Stk) (g : Key) : totR (ss ++ [s]) g = addRow (totR ss g) ((aGet s g).getD row0) := by
  unfold totR
  rw [List.foldl_append]
  rfl
theorem addRow_ok (a b : Row) : OkRow (addRow a b) := by
  refine ⟨by simp [addRow], fun x hx => ?_⟩
  obtain ⟨j, -, rfl⟩ := List.mem_map.1 hx
  exact wrap_bd _
theorem totR_ok (ss : List Stk) (g : Key) : OkRow (totR ss g) := by
  rcases List.eq_nil_or_concat ss with rfl | ⟨q, x, rfl⟩
  · exact OkRow.zero
  · rw [List.concat_eq_append, totR_snoc]
    exact addRow_ok _ _
theorem SpAt.row {w : World} {base : Nat} {p : Value} {s : Stk} (h : SpAt w base p s) (k : Key) : OkRow ((aGet s k).getD row0) := by
  rcases h with ⟨-, rfl⟩ | ⟨b, mb, -, h2⟩
  · exact OkRow.zero
  · exact h2.row k
theorem level_any {w : World} {base : Nat} {p : Value} {s : Stk} (h : SpAt w base p s) (g : ByteArray) (hg : g.size ≤ maxLen) :
    Calls Try.prog 29 #[p, .string g] w fun e w' => e = .returned (lvV ((aGet s g.data.toList).getD row0)) ∧ Below w.heap.size w w' := by
  rcases h with ⟨rfl, rfl⟩ | ⟨b, mb, rfl, h2⟩
  · exact level_nil g w
  · exact level_calls h2 g hg
theorem flow_any {w : World} {base : Nat} {p : Value} {s : Stk} (h : SpAt w base p s) (g : ByteArray) (hg : g.size ≤ maxLen) :
    Calls Try.prog 30 #[p, .string g] w fun e w' => e = .returned (flV ((aGet s g.data.toList).getD row0)) ∧ Below w.heap.size w w' := by
  rcases h with ⟨rfl, rfl⟩ | ⟨b, mb, rfl, h2⟩
  · exact flow_nil g w
  · exact flow_calls h2 g hg
def wayT (r : Row) : Int := wrap64 (at_ r 10 - at_ r 7)
def totC (g : ByteArray) (r : Row) (way : Int) : Array Value := #[.string g, .int .i64 (at_ r 0), .int .i64 (at_ r 1), .int .i64 (at_ r 2), .int .i64 (at_ r 3), .int .i64 (at_ r 4), .int .i64 (at_ r 5), .int .i64 (at_ r 6), .int .i64 (at_ r 7), .int .i64 (at_ r 8), .int .i64 (at_ r 9), .int .i64 (at_ r 10), .int .i64 way]
def totV (g : ByteArray) (ss : List Stk) : Value := .agg (totC g (totR ss g.data.toList) (wayT (totR ss g.data.toList)))
set_option maxRecDepth 100000 in
set_option maxHeartbeats 8000000 in
theorem total_calls (ss : List Stk) (g : ByteArray) (hg : g.size ≤ maxLen) (v : Value) (w : World) (base : Nat) (h : StsAt w base v ss) :
    Calls Try.prog 16 #[v, .string g] w fun e w' => e = .returned (totV g ss) ∧ Below w.heap.size w w' := by
  obtain ⟨ps, hpl, hsl, hps⟩ := h.at_
  obtain ⟨A, c, rfl, hc1, hc2, hc3⟩ := hsl.at_
  unfold maxLen at hc2
  have HPS := Lib.hid hps
  have HSL := Lib.hid hsl
  have HPL := Lib.hid hpl
  clear hps hsl hpl hc3 h
  have z0 := (Ob.new w 27 #[.string ⟨#[]⟩, .int .i64 0, .int .i64 0, .int .i64 0, .int .i64 0, .int .i64 0, .int .i64 0, .int .i64 0, .int .i64 0, .int .i64 0, .int .i64 0, .int .i64 0, .int .i64 0]).alloc (.cells #[.string g, .int .i64 0, .int .i64 0, .int .i64 0, .int .i64 0, .int .i64 0, .int .i64 0, .int .i64 0, .int .i64 0, .int .i64 0, .int .i64 0, .int .i64 0, .int .i64 0] 27)
  have o1 := Ob.new (w.alloc (.cells #[.string ⟨#[]⟩, .int .i64 0, .int .i64 0, .int .i64 0, .int .i64 0, .int .i64 0, .int .i64 0, .int .i64 0, .int .i64 0, .int .i64 0, .int .i64 0, .int .i64 0, .int .i64 0] 27)) 27 #[.string g, .int .i64 0, .int .i64 0, .int .i64 0, .int .i64 0, .int .i64 0, .int .i64 0, .int .i64 0, .int .i64 0, .int .i64 0, .int .i64 0, .int .i64 0, .int .i64 0]
  have hB : Below w.heap.size w ((w.alloc (.cells #[.string ⟨#[]⟩, .int .i64 0, .int .i64 0, .int .i64 0, .int .i64 0, .int .i64 0, .int .i64 0, .int .i64 0, .int .i64 0, .int .i64 0, .int .i64 0, .int .i64 0, .int .i64 0] 27)).alloc (.cells #[.string g, .int .i64 0, .int .i64 0, .int .i64 0, .int .i64 0, .int .i64 0, .int .i64 0, .int .i64 0, .int .i64 0, .int .i64 0, .int .i64 0, .int .i64 0, .int .i64 0] 27)) := ((Below.refl _ w).alloc (Nat.le_refl _) _).alloc (by simp) _
  simp only [World.size_alloc] at o1
  have HO := Lib.hid o1
  have HZ := Lib.hid z0
  have HB := Lib.hid hB
  have HS := Lib.hid (show ((w.alloc (.cells #[.string ⟨#[]⟩, .int .i64 0, .int .i64 0, .int .i64 0, .int .i64 0, .int .i64 0, .int .i64 0, .int .i64 0, .int .i64 0, .int .i64 0, .int .i64 0, .int .i64 0, .int .i64 0] 27)).alloc (.cells #[.string g, .int .i64 0, .int .i64 0, .int .i64 0, .int .i64 0, .int .i64 0, .int .i64 0, .int .i64 0, .int .i64 0, .int .i64 0, .int .i64 0, .int .i64 0, .int .i64 0] 27)).heap.size = w.heap.size + 2 by simp)
  clear o1 hB z0
  go_enter Try.func16, Try.ntmps16
  go_wp2
  have o1 := HO.out
  have z1 := HZ.out
  have hB := HB.out
  have hs := HS.out
  clear HO HZ HB HS
  generalize (w.alloc (.cells #[.string ⟨#[]⟩, .int .i64 0, .int .i64 0, .int .i64 0, .int .i64 0, .int .i64 0, .int .i64 0, .int .i64 0, .int .i64 0, .int .i64 0, .int .i64 0, .int .i64 0, .int .i64 0] 27)).alloc (.cells #[.string g, .int .i64 0, .int .i64 0, .int .i64 0, .int .i64 0, .int .i64 0, .int .i64 0, .int .i64 0, .int .i64 0, .int .i64 0, .int .i64 0, .int .i64 0, .int .i64 0] 27) = w2 at *
  go_loopw [7, 12] (fun _ i wr => ∃ k : Nat, k ≤ ss.length ∧ i = .int .i64 k ∧ Ob wr (w.heap.size + 1) 27 (totC g (totR (ss.take k) g.data.toList) 0) ∧ Ob wr w.heap.size 27 #[.string ⟨#[]⟩, .int .i64 0, .int .i64 0, .int .i64 0, .int .i64 0, .int .i64 0, .int .i64 0, .int .i64 0, .int .i64 0, .int .i64 0, .int .i64 0, .int .i64 0, .int .i64 0] ∧ Below w.heap.size w wr ∧ w.heap.size + 2 ≤ wr.heap.size) (fun _ i _ => ss.length - (intOf i).toNat)
  case atStart => exact ⟨0, by omega, rfl, o1, z1, hB, by omega⟩
  case round =>
    obtain ⟨k, hk, rfl, hO, hZ, hBr, hsz⟩ := hrel
    clear o1 z1 hB hs
    by_cases hlt : k < ss.length
    · obtain ⟨p, hp1, hp2⟩ := HPS.out k hlt
      obtain ⟨A', c', he, _, _, h3⟩ := HSL.out.at_
      cases he
      obtain ⟨pb, po, rfl, -, hpb, hcell⟩ := h3 (by omega)
      have hck := (hBr.cell (p := ⟨pb, po + k, none⟩) hpb).trans ((hcell k (by omega)).trans hp1)
      have hSn := Lib.hid (show totR (ss.take (k + 1)) g.data.toList = addRow (totR (ss.take k) g.data.toList) ((aGet ss[k] g.data.toList).getD row0) by rw [List.take_succ_eq_append_getElem hlt, totR_snoc])
      have hro := hp2.row g.data.toList
      have hra := totR_ok (ss.take k) g.data.toList
      have HSP := Lib.hid hp2
      have HLV := Lib.hid (fun (V : World) (hb : Below w.heap.size w V) => level_any (hp2.same hb) g hg)
      have HFL := Lib.hid (fun (V : World) (hb : Below w.heap.size w V) => flow_any (hp2.same hb) g hg)
      generalize (aGet ss[k] g.data.toList).getD row0 = r at *
      generalize totR (ss.take k) g.data.toList = acc at *
      obtain ⟨a0, a1, a2, a3, a4, a5, a6, a7, a8, a9, a10, rfl⟩ := row_eleven hra
      obtain ⟨b0, b1, b2, b3, b4, b5, b6, b7, b8, b9, b10, rfl⟩ := row_eleven hro
      replace hO : Ob wr (w.heap.size + 1) 27 #[.string g, .int .i64 a0, .int .i64 a1, .int .i64 a2, .int .i64 a3, .int .i64 a4, .int .i64 a5, .int .i64 a6, .int .i64 a7, .int .i64 a8, .int .i64 a9, .int .i64 a10, .int .i64 0] := hO
      replace HLV := Lib.hid (show ∀ (V : World) (hb : Below w.heap.size w V), Calls Try.prog 29 #[p, .string g] V fun e w' => e = .returned (.agg #[.int .i64 b0, .int .i64 b1, .int .i64 b2, .int .i64 b3]) ∧ Below V.heap.size V w' from HLV.out)
      replace HFL := Lib.hid (show ∀ (V : World) (hb : Below w.heap.size w V), Calls Try.prog 30 #[p, .string g] V fun e w' => e = .returned (.agg #[.int .i64 b4, .int .i64 b5, .int .i64 b6, .int .i64 b7, .int .i64 b8, .int .i64 b9, .int .i64 b10]) ∧ Below V.heap.size V w' from HFL.out)
      have HSN := Lib.hid (show totR (ss.take (k + 1)) g.data.toList = [(wrap64 (a0 + b0)), (wrap64 (a1 + b1)), (wrap64 (a2 + b2)), (wrap64 (a3 + b3)), (wrap64 (a4 + b4)), (wrap64 (a5 + b5)), (wrap64 (a6 + b6)), (wrap64 (a7 + b7)), (wrap64 (a8 + b8)), (wrap64 (a9 + b9)), (wrap64 (a10 + b10))] from hSn.out)
      have hd : decide ((k : Int) < (ss.length : Int)) = true := by simp; omega
      have l1 : (0 : Int) ≤ (k : Int) := by omega
      have l2 : (k : Int) < (ss.length : Int) := by omega
      clear hcell hp1 hp2 hro hra hSn h3
      have hd0 : Ob wr.drew (w.heap.size + 1) 27 #[.string g, .int .i64 a0, .int .i64 a1, .int .i64 a2, .int .i64 a3, .int .i64 a4, .int .i64 a5, .int .i64 a6, .int .i64 a7, .int .i64 a8, .int .i64 a9, .int .i64 a10, .int .i64 0] := hO
      have hbd := hBr.drew
      have htb : w.heap.size ≤ w.heap.size + 1 := by omega
      have hZk := Lib.hid hZ
      have hZd : Ob wr.drew w.heap.size 27 #[.string ⟨#[]⟩, .int .i64 0, .int .i64 0, .int .i64 0, .int .i64 0, .int .i64 0, .int .i64 0, .int .i64 0, .int .i64 0, .int .i64 0, .int .i64 0, .int .i64 0, .int .i64 0] := hZ
      have hsd : w.heap.size + 1 ≤ wr.drew.heap.size := by show _ ≤ wr.heap.size; omega
      generalize htbe : w.heap.size + 1 = tb at *
      go_wp2_with fail
      refine Pe.regionT (.look 0 (.look 1 (.look 2 (.look 3 (.look 6 (.look 7 (.look 8 (.look 9 (.look 12 (.make 4 (.make 5 (.make 10 (.make 11 (.make 13 (.look 14 (.make 15 .nil)))))))))))))))) (fun V => Ob V tb 27 #[.string g, .int .i64 a0, .int .i64 a1, .int .i64 a2, .int .i64 a3, .int .i64 a4, .int .i64 a5, .int .i64 a6, .int .i64 a7, .int .i64 a8, .int .i64 a9, .int .i64 a10, .int .i64 0]) hmx (by kernel_rfl) (by kernel_rfl) (by kernel_rfl) hd0 rfl ?_
      simp only [Pe.named, List.getElem?_toArray, List.getElem?_cons_succ, List.getElem?_cons_zero]
      iterate 9 (first
        | (refine Pe.WalkT.off (by rfl) ?_; simp only [Act.put, List.setIfInBounds_toArray, List.set_cons_succ, List.set_cons_zero])
        | (apply Pe.WalkT.on (by rfl)
           · intro V hV
             have y0 := hV.cell (j := 1) (v := .int .i64 a0) rfl
             have y1 := hV.cell (j := 2) (v := .int .i64 a1) rfl
             have y2 := hV.cell (j := 3) (v := .int .i64 a2) rfl
             have y3 := hV.cell (j := 4) (v := .int .i64 a3) rfl
             have y4 := hV.cell (j := 5) (v := .int .i64 a4) rfl
             have y5 := hV.cell (j := 6) (v := .int .i64 a5) rfl
             have y6 := hV.cell (j := 7) (v := .int .i64 a6) rfl
             have y7 := hV.cell (j := 8) (v := .int .i64 a7) rfl
             have y8 := hV.cell (j := 9) (v := .int .i64 a8) rfl
             have y9 := hV.cell (j := 10) (v := .int .i64 a9) rfl
             have y10 := hV.cell (j := 11) (v := .int .i64 a10) rfl
             go_wp2_with fail
             refine ⟨rfl, ?_, rfl⟩
             try simp only [Act.put, List.setIfInBounds_toArray, List.set_cons_succ, List.set_cons_zero]
             rfl
           simp only [Act.put, List.setIfInBounds_toArray, List.set_cons_succ, List.set_cons_zero]))
      generalize hWD : wr.drew = WD at *
      clear hWD
      refine Pe.WalkT.make (by rfl) ?_
      intro V hV
      rw [hV]
      clear hV V
      go_wp2_with (go_at_call 29; refine (HLV.out WD hbd).mono ?_; rintro e W1 ⟨rfl, hb1⟩)
      have hO1 := hd0.same hb1
      have hB1 := hb1.mono hsd
      clear hb1 hd0
      have hq1 := hB1.size
      refine ⟨rfl, .agg #[.int .i64 b0, .int .i64 b1, .int .i64 b2, .int .i64 b3], (fun V => Ob V tb 27 #[.string g, .int .i64 a0, .int .i64 a1, .int .i64 a2, .int .i64 a3, .int .i64 a4, .int .i64 a5, .int .i64 a6, .int .i64 a7, .int .i64 a8, .int .i64 a9, .int .i64 a10, .int .i64 0]), (fun V => V = W1), ?_, rfl, (fun V h => by rw [h]; exact hO1), (.inr (fun _ h => h)), ?_⟩
      · try simp only [Act.put, List.setIfInBounds_toArray, List.set_cons_succ, List.set_cons_zero]
      try simp only [Act.put, List.setIfInBounds_toArray, List.set_cons_succ, List.set_cons_zero]
      refine Pe.WalkT.make (by rfl) ?_
      intro V hV
      rw [hV]
      clear hV V
      go_wp2_with (go_at_call 9; refine (glevel_calls a0 a1 a2 a3 b0 b1 b2 b3 W1).mono ?_; rintro e W2 ⟨rfl, hb2⟩)
      have hO2 := hO1.same hb2
      have hB2 := hB1.trans (hb2.mono (by omega))
      have hq2 := hB2.size
      clear hb2 hO1 hB1
      refine ⟨rfl, .agg #[.int .i64 (wrap64 (a0 + b0)), .int .i64 (wrap64 (a1 + b1)), .int .i64 (wrap64 (a2 + b2)), .int .i64 (wrap64 (a3 + b3))], (fun V => Ob V tb 27 #[.string g, .int .i64 a0, .int .i64 a1, .int .i64 a2, .int .i64 a3, .int .i64 a4, .int .i64 a5, .int .i64 a6, .int .i64 a7, .int .i64 a8, .int .i64 a9, .int .i64 a10, .int .i64 0]), (fun V => V = W2), ?_, rfl, (fun V h => by rw [h]; exact hO2), (.inr (fun _ h => h)), ?_⟩
      · try simp only [Act.put, List.setIfInBounds_toArray, List.set_cons_succ, List.set_cons_zero]
      try simp only [Act.put, List.setIfInBounds_toArray, List.set_cons_succ, List.set_cons_zero]
      refine Pe.WalkT.make (by rfl) ?_
      intro V hV
      rw [hV]
      clear hV V
      go_wp2_with (go_at_call 30; refine (HFL.out W2 (hbd.trans (hB2.mono htb))).mono ?_; rintro e W3 ⟨rfl, hb3⟩)
      have hO3 := hO2.same hb3
      have hB3 := hB2.trans (hb3.mono (by omega))
      have hq3 := hB3.size
      clear hb3 hO2 hB2
      refine ⟨rfl, .agg #[.int .i64 b4, .int .i64 b5, .int .i64 b6, .int .i64 b7, .int .i64 b8, .int .i64 b9, .int .i64 b10], (fun V => Ob V tb 27 #[.string g, .int .i64 a0, .int .i64 a1, .int .i64 a2, .int .i64 a3, .int .i64 a4, .int .i64 a5, .int .i64 a6, .int .i64 a7, .int .i64 a8, .int .i64 a9, .int .i64 a10, .int .i64 0]), (fun V => V = W3), ?_, rfl, (fun V h => by rw [h]; exact hO3), (.inr (fun _ h => h)), ?_⟩
      · try simp only [Act.put, List.setIfInBounds_toArray, List.set_cons_succ, List.set_cons_zero]
      try simp only [Act.put, List.setIfInBounds_toArray, List.set_cons_succ, List.set_cons_zero]
      refine Pe.WalkT.make (by rfl) ?_
      intro V hV
      rw [hV]
      clear hV V
      go_wp2_with (go_at_call 11; refine (gflow_calls a4 a5 a6 a7 a8 a9 a10 b4 b5 b6 b7 b8 b9 b10 W3).mono ?_; rintro e W4 ⟨rfl, hb4⟩)
      have hO4 := hO3.same hb4
      have hB4 := hB3.trans (hb4.mono (by omega))
      have hq4 := hB4.size
      clear hb4 hO3 hB3
      refine ⟨rfl, .agg #[.int .i64 (wrap64 (a4 + b4)), .int .i64 (wrap64 (a5 + b5)), .int .i64 (wrap64 (a6 + b6)), .int .i64 (wrap64 (a7 + b7)), .int .i64 (wrap64 (a8 + b8)), .int .i64 (wrap64 (a9 + b9)), .int .i64 (wrap64 (a10 + b10))], (fun V => Ob V tb 27 #[.string g, .int .i64 a0, .int .i64 a1, .int .i64 a2, .int .i64 a3, .int .i64 a4, .int .i64 a5, .int .i64 a6, .int .i64 a7, .int .i64 a8, .int .i64 a9, .int .i64 a10, .int .i64 0]), (fun V => V = W4), ?_, rfl, (fun V h => by rw [h]; exact hO4), (.inr (fun _ h => h)), ?_⟩
      · try simp only [Act.put, List.setIfInBounds_toArray, List.set_cons_succ, List.set_cons_zero]
      try simp only [Act.put, List.setIfInBounds_toArray, List.set_cons_succ, List.set_cons_zero]
      refine Pe.WalkT.make (by rfl) ?_
      intro V hV
      rw [hV]
      clear hV V
      have hth := hO4.there (o := 1) (n := 4) (by simp)
      have hO5 : Ob (W4.setCells tb 1 [.int .i64 (wrap64 (a0 + b0)), .int .i64 (wrap64 (a1 + b1)), .int .i64 (wrap64 (a2 + b2)), .int .i64 (wrap64 (a3 + b3))]) tb 27 #[.string g, .int .i64 (wrap64 (a0 + b0)), .int .i64 (wrap64 (a1 + b1)), .int .i64 (wrap64 (a2 + b2)), .int .i64 (wrap64 (a3 + b3)), .int .i64 a4, .int .i64 a5, .int .i64 a6, .int .i64 a7, .int .i64 a8, .int .i64 a9, .int .i64 a10, .int .i64 0] := hO4.seg [.int .i64 (wrap64 (a0 + b0)), .int .i64 (wrap64 (a1 + b1)), .int .i64 (wrap64 (a2 + b2)), .int .i64 (wrap64 (a3 + b3))] 1
      have hg5 := grownBy_segs (b := tb) [.int .i64 (wrap64 (a0 + b0)), .int .i64 (wrap64 (a1 + b1)), .int .i64 (wrap64 (a2 + b2)), .int .i64 (wrap64 (a3 + b3))] W4 1
      go_wp2_with (refine wpList_store_mid rfl 23 (.tmp 28) (.tmp 21) rfl tb 1 _ rfl rfl hth (by kernel_rfl) (by simp [Value.oneCell']) ?_)
      have hB5 := hB4.grown hg5 (by have := hB4.size; omega) (fun k e => by cases e; exact Nat.le_refl _)
      have he5 : W4.setCells tb 1 (Array.toList (#[.int .i64 (wrap64 (a0 + b0)), .int .i64 (wrap64 (a1 + b1)), .int .i64 (wrap64 (a2 + b2)), .int .i64 (wrap64 (a3 + b3))] : Array Value)) = W4.setCells tb 1 [.int .i64 (wrap64 (a0 + b0)), .int .i64 (wrap64 (a1 + b1)), .int .i64 (wrap64 (a2 + b2)), .int .i64 (wrap64 (a3 + b3))] := rfl
      rw [he5]
      clear hth hg5 he5 hO4 hB4
      generalize W4.setCells tb 1 [.int .i64 (wrap64 (a0 + b0)), .int .i64 (wrap64 (a1 + b1)), .int .i64 (wrap64 (a2 + b2)), .int .i64 (wrap64 (a3 + b3))] = W5 at *
      refine ⟨rfl, undef, (fun V => Ob V tb 27 #[.string g, .int .i64 (wrap64 (a0 + b0)), .int .i64 (wrap64 (a1 + b1)), .int .i64 (wrap64 (a2 + b2)), .int .i64 (wrap64 (a3 + b3)), .int .i64 a4, .int .i64 a5, .int .i64 a6, .int .i64 a7, .int .i64 a8, .int .i64 a9, .int .i64 a10, .int .i64 0]), (fun V => V = W5), rfl, rfl, (fun V h => by rw [h]; exact hO5), (.inl (by kernel_rfl)), ?_⟩
      simp only [Act.put]
      iterate 1 (first
        | (refine Pe.WalkT.off (by rfl) ?_; simp only [Act.put, List.setIfInBounds_toArray, List.set_cons_succ, List.set_cons_zero])
        | (apply Pe.WalkT.on (by rfl)
           · intro V hV
             go_wp2_with fail
             refine ⟨rfl, ?_, rfl⟩
             try simp only [Act.put, List.setIfInBounds_toArray, List.set_cons_succ, List.set_cons_zero]
             rfl
           simp only [Act.put, List.setIfInBounds_toArray, List.set_cons_succ, List.set_cons_zero]))
      refine Pe.WalkT.make (by rfl) ?_
      intro V hV
      rw [hV]
      clear hV V
      have hth := hO5.there (o := 5) (n := 7) (by simp)
      have hO6 : Ob (W5.setCells tb 5 [.int .i64 (wrap64 (a4 + b4)), .int .i64 (wrap64 (a5 + b5)), .int .i64 (wrap64 (a6 + b6)), .int .i64 (wrap64 (a7 + b7)), .int .i64 (wrap64 (a8 + b8)), .int .i64 (wrap64 (a9 + b9)), .int .i64 (wrap64 (a10 + b10))]) tb 27 #[.string g, .int .i64 (wrap64 (a0 + b0)), .int .i64 (wrap64 (a1 + b1)), .int .i64 (wrap64 (a2 + b2)), .int .i64 (wrap64 (a3 + b3)), .int .i64 (wrap64 (a4 + b4)), .int .i64 (wrap64 (a5 + b5)), .int .i64 (wrap64 (a6 + b6)), .int .i64 (wrap64 (a7 + b7)), .int .i64 (wrap64 (a8 + b8)), .int .i64 (wrap64 (a9 + b9)), .int .i64 (wrap64 (a10 + b10)), .int .i64 0] := hO5.seg [.int .i64 (wrap64 (a4 + b4)), .int .i64 (wrap64 (a5 + b5)), .int .i64 (wrap64 (a6 + b6)), .int .i64 (wrap64 (a7 + b7)), .int .i64 (wrap64 (a8 + b8)), .int .i64 (wrap64 (a9 + b9)), .int .i64 (wrap64 (a10 + b10))] 5
      have hg6 := grownBy_segs (b := tb) [.int .i64 (wrap64 (a4 + b4)), .int .i64 (wrap64 (a5 + b5)), .int .i64 (wrap64 (a6 + b6)), .int .i64 (wrap64 (a7 + b7)), .int .i64 (wrap64 (a8 + b8)), .int .i64 (wrap64 (a9 + b9)), .int .i64 (wrap64 (a10 + b10))] W5 5
      go_wp2_with (refine wpList_store_mid rfl 25 (.tmp 29) (.tmp 27) rfl tb 5 _ rfl rfl hth (by kernel_rfl) (by simp [Value.oneCell']) ?_)
      have hB6 := hB5.grown hg6 (by have := hB5.size; omega) (fun k e => by cases e; exact Nat.le_refl _)
      have he6 : W5.setCells tb 5 (Array.toList (#[.int .i64 (wrap64 (a4 + b4)), .int .i64 (wrap64 (a5 + b5)), .int .i64 (wrap64 (a6 + b6)), .int .i64 (wrap64 (a7 + b7)), .int .i64 (wrap64 (a8 + b8)), .int .i64 (wrap64 (a9 + b9)), .int .i64 (wrap64 (a10 + b10))] : Array Value)) = W5.setCells tb 5 [.int .i64 (wrap64 (a4 + b4)), .int .i64 (wrap64 (a5 + b5)), .int .i64 (wrap64 (a6 + b6)), .int .i64 (wrap64 (a7 + b7)), .int .i64 (wrap64 (a8 + b8)), .int .i64 (wrap64 (a9 + b9)), .int .i64 (wrap64 (a10 + b10))] := rfl
      rw [he6]
      clear hth hg6 he6 hO5 hB5
      generalize W5.setCells tb 5 [.int .i64 (wrap64 (a4 + b4)), .int .i64 (wrap64 (a5 + b5)), .int .i64 (wrap64 (a6 + b6)), .int .i64 (wrap64 (a7 + b7)), .int .i64 (wrap64 (a8 + b8)), .int .i64 (wrap64 (a9 + b9)), .int .i64 (wrap64 (a10 + b10))] = W6 at *
      refine ⟨rfl, undef, (fun _ => True), (fun V => V = W6), rfl, rfl, (fun _ _ => trivial), (.inl (by kernel_rfl)), Pe.WalkT.nil ?_⟩
      intro V hV
      rw [hV]
      clear hV V
      simp only [Act.put]
      have hZ6 := hZd.below hB6 (by omega)
      have hb6 := hbd.trans (hB6.mono htb)
      have hsz6 : tb ≤ W6.heap.size := by have := hB6.size; omega
      have HO6 := Lib.hid (show Ob W6 tb 27 (totC g (totR (ss.take (k + 1)) g.data.toList) 0) by rw [HSN.out]; exact hO6)
      have hl6 := hO6.lt
      clear hO6 hB6 hbd
      go_wp2
      go_roundw
      case rel => exact ⟨k + 1, by omega, by go_num, HO6.out, hZ6, hb6, by omega⟩
      case measure => simp [intOf]; omega
    · obtain rfl : k = ss.length := by omega
      rw [List.take_length] at hO
      have hd : decide ((ss.length : Int) < (ss.length : Int)) = false := by simp
      have hd' : decide (ss.length < ss.length) = false := by simp
      have hra := totR_ok ss g.data.toList
      have HTV := Lib.hid (show totV g ss = .agg (totC g (totR ss g.data.toList) (wayT (totR ss g.data.toList))) from rfl)
      generalize totR ss g.data.toList = acc at *
      obtain ⟨a0, a1, a2, a3, a4, a5, a6, a7, a8, a9, a10, rfl⟩ := row_eleven hra
      replace hO : Ob wr (w.heap.size + 1) 27 #[.string g, .int .i64 a0, .int .i64 a1, .int .i64 a2, .int .i64 a3, .int .i64 a4, .int .i64 a5, .int .i64 a6, .int .i64 a7, .int .i64 a8, .int .i64 a9, .int .i64 a10, .int .i64 0] := hO
      have y6 := hO.cell (j := 11) (v := .int .i64 a10) rfl
      have y3 := hO.cell (j := 8) (v := .int .i64 a7) rfl
      have yw := hO.cell (j := 12) (v := .int .i64 0) rfl
      have fw := hO.frozen 12
      have hO7 : Ob (wr.setCell ⟨w.heap.size + 1, 12, none⟩ (.int .i64 (wrap64 (a10 - a7)))) (w.heap.size + 1) 27 #[.string g, .int .i64 a0, .int .i64 a1, .int .i64 a2, .int .i64 a3, .int .i64 a4, .int .i64 a5, .int .i64 a6, .int .i64 a7, .int .i64 a8, .int .i64 a9, .int .i64 a10, .int .i64 (wrap64 (a10 - a7))] := hO.set 12 (.int .i64 (wrap64 (a10 - a7)))
      have hZ7 := hZ.other (b' := w.heap.size + 1) (by omega) 12 (.int .i64 (wrap64 (a10 - a7)))
      have hB7 := hBr.grown (grownBy_set wr (w.heap.size + 1) 12 (.int .i64 (wrap64 (a10 - a7)))) (by omega) (fun k e => by cases e; omega)
      clear hra
      go_wp2_with (first
        | (refine wpList_load_ob rfl 27 (.tmp 5) rfl rfl _ hO7 Try.underlying27 rfl (by kernel_rfl) ?_)
        | (refine wpList_store_ob rfl 27 (.tmp 4) (.tmp 39) rfl rfl rfl hZ7 rfl (by kernel_rfl) (by simp [Value.oneCell']) ?_; intro w9 hO9 hg9))
      have hb9 := hB7.grown hg9 hB7.size (fun k e => by cases e; exact Nat.le_refl _)
      refine bodyPost_ret (v := .agg #[.string g, .int .i64 a0, .int .i64 a1, .int .i64 a2, .int .i64 a3, .int .i64 a4, .int .i64 a5, .int .i64 a6, .int .i64 a7, .int .i64 a8, .int .i64 a9, .int .i64 a10, .int .i64 (wrap64 (a10 - a7))]) ?_ rfl ⟨by rw [HTV.out]; rfl, hb9⟩
      clear y6 y3 yw fw
      have c0 := hO9.cell (j := 0) (v := .string g) rfl
      have c1 := hO9.cell (j := 1) (v := .int .i64 a0) rfl
      have c2 := hO9.cell (j := 2) (v := .int .i64 a1) rfl
      have c3 := hO9.cell (j := 3) (v := .int .i64 a2) rfl
      have c4 := hO9.cell (j := 4) (v := .int .i64 a3) rfl
      have c5 := hO9.cell (j := 5) (v := .int .i64 a4) rfl
      have c6 := hO9.cell (j := 6) (v := .int .i64 a5) rfl
      have c7 := hO9.cell (j := 7) (v := .int .i64 a6) rfl
      have c8 := hO9.cell (j := 8) (v := .int .i64 a7) rfl
      have c9 := hO9.cell (j := 9) (v := .int .i64 a8) rfl
      have c10 := hO9.cell (j := 10) (v := .int .i64 a9) rfl
      have c11 := hO9.cell (j := 11) (v := .int .i64 a10) rfl
      have c12 := hO9.cell (j := 12) (v := .int .i64 (wrap64 (a10 - a7))) rfl
      simp [results, Try.f16, go_sem, c0, c1, c2, c3, c4, c5, c6, c7, c8, c9, c10, c11, c12]
end Sk
end Go.Proofs.Ytlhpdalfnjhokaa

namespace Go.Proofs.Ytlhpdalfnjhokaa
open Go.RowKit Go.Maps Go.Sort Go.Shelf
namespace KsT

theorem sorts (m : Nat) : AnyZ.SortsIn Try.prog Try.sorted27_ren Fence.wide m :=
  ⟨fun blk off cap ss W hH hblk hsz => callsIn_wide.2 (AnyM.slices_Sort_string Try.sort48 blk off cap ss W hH hblk hsz),
   fun p cap W => callsIn_wide.2 (AnyM.slices_Sort_string_none Try.sort48 p cap W)⟩

/-- maps.Keys: a function value over one new block that holds the map -/
theorem keys_calls (mb : Option Nat) (W : World) : CallsIn Fence.wide 5 Try.prog 46 #[.map mb] W fun e w' => e = .returned (.func (.func 61) #[] #[.pointer (some ⟨W.heap.size, 0, none⟩)]) ∧ w' = W.alloc (.cells #[.map mb] 80) :=
  AnyZ.keys_in Try.keys46 Fence.wide 5 trivial rfl mb W

set_option maxHeartbeats 1000000 in
/-- slices.Sorted at what maps.Keys handed back: a new slice that holds the keys, sorted -/
theorem sorted_raw {H : Type} (b nn : Nat) (D0 : DataW H) (R : Value → Option (DataW H × List MemPlace)) (w : World) (hown : w.ownsMap Try.prog 9 R b nn D0) (hmax : Maps.size D0 ≤ maxLen) (hbytes : Maps.size D0 * 16 ≤ 140737488355328) :
    CallsIn Fence.wide 5 Try.prog 27 #[.func (.func 61) #[] #[.pointer (some ⟨w.heap.size, 0, none⟩)]] (w.alloc (.cells #[.map (some b)] 80)) fun e w' => ∃ (v : Value) (ss : List (List UInt8)), e = .returned v ∧ ss.Perm (strKeys D0) ∧
      w'.ownsRow (w.alloc (.cells #[.map (some b)] 80)).heap.size 9 1 v ss.length ((ss.mergeSort (fun x y => decide (x ≤ y))).map encStr) ∧ (v = .slice none 0 0 ↔ ss = []) ∧ Below (w.alloc (.cells #[.map (some b)] 80)).heap.size (w.alloc (.cells #[.map (some b)] 80)) w' := by
  have hbl := hown.lt
  have hseq : SeqGives Fence.wide 2 Try.prog 61 #[.pointer (some ⟨w.heap.size, 0, none⟩)] encStr (fun ss => ss.Perm (strKeys D0)) (Maps.size D0) (w.alloc (.cells #[.map (some b)] 80)) :=
    AnyZ.keys_gives (ρ := Try.keys46_ren) { Try.keys46 with } Fence.wide _ trivial rfl (by omega) w.heap.size b nn D0 _ (by simp) (by simp) (by
      obtain ⟨es, clock, hb, Ft, hs, hD⟩ := hown
      exact ⟨es, clock, (Below.heap_alloc _ _ b hbl).trans hb, Ft, hs, hD⟩)
  exact AnyZ.sorted_in Try.sorted27 Fence.wide 5 trivial trivial trivial trivial rfl (by omega) (sorts _) (enters_of Try.func48 (by kernel_rfl) rfl) 61 #[.pointer (some ⟨w.heap.size, 0, none⟩)] trivial (enters_of Try.func61 (by kernel_rfl) rfl) _ _ hmax hbytes _ hseq
theorem bb_lt : ∀ a b : List UInt8, bytesBefore a b = true → a < b
  | [], [], h => by cases h
  | [], _ :: _, _ => List.nil_lt_cons _ _
  | _ :: _, [], h => by cases h
  | a :: r, b :: s, h => by
    unfold bytesBefore at h
    rw [List.cons_lt_cons_iff]
    simp only [Bool.or_eq_true, decide_eq_true_eq, Bool.and_eq_true, beq_iff_eq] at h
    rcases h with h | ⟨h, h2⟩
    · exact .inl h
    · exact .inr ⟨h, bb_lt r s h2⟩
theorem strKeys_mEs (m : List (List UInt8 × Value)) : strKeys (DataW.map (mEs strK m)) = m.map (·.1) := by
  simp [strKeys, mEs, Function.comp_def, strOf, strK]
set_option maxHeartbeats 1000000 in
theorem sorted_calls (b : Nat) (m : List (List UInt8 × Value)) (w : World) (hown : GMap strK w Try.prog 9 b m) (KK : Keyed Try.prog 9) (hmax : m.length ≤ 1099511627776) :
    CallsIn Fence.wide 5 Try.prog 27 #[.func (.func 61) #[] #[.pointer (some ⟨w.heap.size, 0, none⟩)]] (w.alloc (.cells #[.map (some b)] 80)) fun e w' => ∃ v : Value, e = .returned v ∧
      w'.ownsRow (w.alloc (.cells #[.map (some b)] 80)).heap.size 9 1 v (m.map (·.1)).length ((m.map (·.1)).map encStr) ∧ Below (w.alloc (.cells #[.map (some b)] 80)).heap.size (w.alloc (.cells #[.map (some b)] 80)) w' := by
  have hsort := hown.sorted KK
  have hsz : Maps.size (DataW.map (mEs strK m)) = m.length := by simp [Maps.size, mEs]
  refine (sorted_raw b m.length (.map (mEs strK m)) hold w hown (by rw [hsz]; unfold maxLen; omega) (by rw [hsz]; omega)).mono ?_
  rintro e w' ⟨v, ss, rfl, hp, hrow, -, hb⟩
  rw [strKeys_mEs] at hp
  have hlt : (m.map (·.1)).Pairwise (· < ·) := by
    rw [List.pairwise_map]
    exact hsort.imp (fun {p q} h => bb_lt _ _ h)
  have he : ss.mergeSort (fun x y => decide (x ≤ y)) = m.map (·.1) := by
    refine ((List.mergeSort_perm ss _).trans hp).eq_of_pairwise (le := fun a b : List UInt8 => a ≤ b) (fun a b _ _ h1 h2 => List.le_antisymm h1 h2) ?_ (hlt.imp (fun h => List.le_of_lt h))
    have := List.pairwise_mergeSort (le := fun x y : List UInt8 => decide (x ≤ y)) (fun a b c h1 h2 => by simp only [decide_eq_true_eq] at *; exact List.le_trans h1 h2) (fun a b => by simp only [Bool.or_eq_true, decide_eq_true_eq]; exact List.le_total a b) ss
    exact this.imp (fun h => by simpa using h)
  have hl : ss.length = (m.map (·.1)).length := hp.length_eq
  rw [he, hl] at hrow
  exact ⟨v, rfl, hrow, hb⟩
end KsT
end Go.Proofs.Ytlhpdalfnjhokaa
