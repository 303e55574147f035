/-
  goods: sums of levels and of flows; whether a total is kept.
-/
import Derived.Test.YtlhpdalfnjhokaaSkH
namespace Go.Proofs.Ytlhpdalfnjhokaa
open Go.RowKit Go.Maps
namespace Sk
open It Al
def keptT (a0 a1 a2 a3 a4 a5 a6 _a7 a8 a9 _a10 way : Int) : Bool := decide (0 ≤ way) && (wrap64 (wrap64 (wrap64 (wrap64 (a0 + a1) + a2) + a3) + way) == wrap64 (wrap64 (wrap64 (wrap64 (a4 + a5) + a6) - a8) - a9))
set_option maxRecDepth 100000 in
set_option maxHeartbeats 4000000 in
theorem glevel_calls (a0 a1 a2 a3 b0 b1 b2 b3 : Int) (w : World) :
    Calls Try.prog 9 #[.agg #[.int .i64 a0, .int .i64 a1, .int .i64 a2, .int .i64 a3], .agg #[.int .i64 b0, .int .i64 b1, .int .i64 b2, .int .i64 b3]] w fun e w' => e = .returned (.agg #[.int .i64 (wrap64 (a0 + b0)), .int .i64 (wrap64 (a1 + b1)), .int .i64 (wrap64 (a2 + b2)), .int .i64 (wrap64 (a3 + b3))]) ∧ Below w.heap.size w w' := by
  have o2 := ((Ob.new w 23 #[.int .i64 a0, .int .i64 a1, .int .i64 a2, .int .i64 a3]).alloc (.cells #[.int .i64 b0, .int .i64 b1, .int .i64 b2, .int .i64 b3] 23)).alloc (.cells #[.int .i64 0, .int .i64 0, .int .i64 0, .int .i64 0] 23)
  have o3 := (Ob.new (w.alloc (.cells #[.int .i64 a0, .int .i64 a1, .int .i64 a2, .int .i64 a3] 23)) 23 #[.int .i64 b0, .int .i64 b1, .int .i64 b2, .int .i64 b3]).alloc (.cells #[.int .i64 0, .int .i64 0, .int .i64 0, .int .i64 0] 23)
  have o4 := Ob.new ((w.alloc (.cells #[.int .i64 a0, .int .i64 a1, .int .i64 a2, .int .i64 a3] 23)).alloc (.cells #[.int .i64 b0, .int .i64 b1, .int .i64 b2, .int .i64 b3] 23)) 23 #[.int .i64 0, .int .i64 0, .int .i64 0, .int .i64 0]
  have hB : Below w.heap.size w (((w.alloc (.cells #[.int .i64 a0, .int .i64 a1, .int .i64 a2, .int .i64 a3] 23)).alloc (.cells #[.int .i64 b0, .int .i64 b1, .int .i64 b2, .int .i64 b3] 23)).alloc (.cells #[.int .i64 0, .int .i64 0, .int .i64 0, .int .i64 0] 23)) := (((Below.refl _ w).alloc (Nat.le_refl _) _).alloc (by simp) _).alloc (by simp; omega) _
  simp only [World.size_alloc] at o3 o4
  have hs : (((w.alloc (.cells #[.int .i64 a0, .int .i64 a1, .int .i64 a2, .int .i64 a3] 23)).alloc (.cells #[.int .i64 b0, .int .i64 b1, .int .i64 b2, .int .i64 b3] 23)).alloc (.cells #[.int .i64 0, .int .i64 0, .int .i64 0, .int .i64 0] 23)).heap.size = w.heap.size + 3 := by simp
  have HB := Lib.hid hB
  clear hB
  go_enter Try.func9, Try.ntmps9
  go_wp2_with (refine wpList_store_ob rfl 23 (.tmp 4) (.tmp 25) rfl rfl rfl o4 rfl (by kernel_rfl) (by simp [Value.oneCell']) ?_; intro w4 hO hg)
  have hb := HB.out.grown hg HB.out.size (fun k e => by cases e; omega)
  refine bodyPost_ret (v := .agg #[.int .i64 (wrap64 (a0 + b0)), .int .i64 (wrap64 (a1 + b1)), .int .i64 (wrap64 (a2 + b2)), .int .i64 (wrap64 (a3 + b3))]) ?_ rfl ⟨rfl, hb⟩
  have c0 := hO.cell (j := 0) (v := .int .i64 (wrap64 (a0 + b0))) rfl
  have c1 := hO.cell (j := 1) (v := .int .i64 (wrap64 (a1 + b1))) rfl
  have c2 := hO.cell (j := 2) (v := .int .i64 (wrap64 (a2 + b2))) rfl
  have c3 := hO.cell (j := 3) (v := .int .i64 (wrap64 (a3 + b3))) rfl
  simp [results, Try.f9, go_sem, c0, c1, c2, c3]
set_option maxRecDepth 100000 in
set_option maxHeartbeats 4000000 in
theorem rlevel_calls (a0 a1 a2 a3 b0 b1 b2 b3 : Int) (w : World) :
    Calls Try.prog 10 #[.agg #[.int .i64 a0, .int .i64 a1, .int .i64 a2, .int .i64 a3], .agg #[.int .i64 b0, .int .i64 b1, .int .i64 b2, .int .i64 b3]] w fun e w' => e = .returned (.agg #[.int .i64 (wrap64 (a0 + b0)), .int .i64 (wrap64 (a1 + b1)), .int .i64 (wrap64 (a2 + b2)), .int .i64 (wrap64 (a3 + b3))]) ∧ Below w.heap.size w w' := by
  have o2 := ((Ob.new w 23 #[.int .i64 a0, .int .i64 a1, .int .i64 a2, .int .i64 a3]).alloc (.cells #[.int .i64 b0, .int .i64 b1, .int .i64 b2, .int .i64 b3] 23)).alloc (.cells #[.int .i64 0, .int .i64 0, .int .i64 0, .int .i64 0] 23)
  have o3 := (Ob.new (w.alloc (.cells #[.int .i64 a0, .int .i64 a1, .int .i64 a2, .int .i64 a3] 23)) 23 #[.int .i64 b0, .int .i64 b1, .int .i64 b2, .int .i64 b3]).alloc (.cells #[.int .i64 0, .int .i64 0, .int .i64 0, .int .i64 0] 23)
  have o4 := Ob.new ((w.alloc (.cells #[.int .i64 a0, .int .i64 a1, .int .i64 a2, .int .i64 a3] 23)).alloc (.cells #[.int .i64 b0, .int .i64 b1, .int .i64 b2, .int .i64 b3] 23)) 23 #[.int .i64 0, .int .i64 0, .int .i64 0, .int .i64 0]
  have hB : Below w.heap.size w (((w.alloc (.cells #[.int .i64 a0, .int .i64 a1, .int .i64 a2, .int .i64 a3] 23)).alloc (.cells #[.int .i64 b0, .int .i64 b1, .int .i64 b2, .int .i64 b3] 23)).alloc (.cells #[.int .i64 0, .int .i64 0, .int .i64 0, .int .i64 0] 23)) := (((Below.refl _ w).alloc (Nat.le_refl _) _).alloc (by simp) _).alloc (by simp; omega) _
  simp only [World.size_alloc] at o3 o4
  have hs : (((w.alloc (.cells #[.int .i64 a0, .int .i64 a1, .int .i64 a2, .int .i64 a3] 23)).alloc (.cells #[.int .i64 b0, .int .i64 b1, .int .i64 b2, .int .i64 b3] 23)).alloc (.cells #[.int .i64 0, .int .i64 0, .int .i64 0, .int .i64 0] 23)).heap.size = w.heap.size + 3 := by simp
  have HB := Lib.hid hB
  clear hB
  go_enter Try.func10, Try.ntmps10
  go_wp2_with (refine wpList_store_ob rfl 23 (.tmp 4) (.tmp 25) rfl rfl rfl o4 rfl (by kernel_rfl) (by simp [Value.oneCell']) ?_; intro w4 hO hg)
  have hb := HB.out.grown hg HB.out.size (fun k e => by cases e; omega)
  refine bodyPost_ret (v := .agg #[.int .i64 (wrap64 (a0 + b0)), .int .i64 (wrap64 (a1 + b1)), .int .i64 (wrap64 (a2 + b2)), .int .i64 (wrap64 (a3 + b3))]) ?_ rfl ⟨rfl, hb⟩
  have c0 := hO.cell (j := 0) (v := .int .i64 (wrap64 (a0 + b0))) rfl
  have c1 := hO.cell (j := 1) (v := .int .i64 (wrap64 (a1 + b1))) rfl
  have c2 := hO.cell (j := 2) (v := .int .i64 (wrap64 (a2 + b2))) rfl
  have c3 := hO.cell (j := 3) (v := .int .i64 (wrap64 (a3 + b3))) rfl
  simp [results, Try.f10, go_sem, c0, c1, c2, c3]
set_option maxRecDepth 100000 in
set_option maxHeartbeats 4000000 in
theorem gflow_calls (a0 a1 a2 a3 a4 a5 a6 b0 b1 b2 b3 b4 b5 b6 : Int) (w : World) :
    Calls Try.prog 11 #[.agg #[.int .i64 a0, .int .i64 a1, .int .i64 a2, .int .i64 a3, .int .i64 a4, .int .i64 a5, .int .i64 a6], .agg #[.int .i64 b0, .int .i64 b1, .int .i64 b2, .int .i64 b3, .int .i64 b4, .int .i64 b5, .int .i64 b6]] w fun e w' => e = .returned (.agg #[.int .i64 (wrap64 (a0 + b0)), .int .i64 (wrap64 (a1 + b1)), .int .i64 (wrap64 (a2 + b2)), .int .i64 (wrap64 (a3 + b3)), .int .i64 (wrap64 (a4 + b4)), .int .i64 (wrap64 (a5 + b5)), .int .i64 (wrap64 (a6 + b6))]) ∧ Below w.heap.size w w' := by
  have o2 := ((Ob.new w 25 #[.int .i64 a0, .int .i64 a1, .int .i64 a2, .int .i64 a3, .int .i64 a4, .int .i64 a5, .int .i64 a6]).alloc (.cells #[.int .i64 b0, .int .i64 b1, .int .i64 b2, .int .i64 b3, .int .i64 b4, .int .i64 b5, .int .i64 b6] 25)).alloc (.cells #[.int .i64 0, .int .i64 0, .int .i64 0, .int .i64 0, .int .i64 0, .int .i64 0, .int .i64 0] 25)
  have o3 := (Ob.new (w.alloc (.cells #[.int .i64 a0, .int .i64 a1, .int .i64 a2, .int .i64 a3, .int .i64 a4, .int .i64 a5, .int .i64 a6] 25)) 25 #[.int .i64 b0, .int .i64 b1, .int .i64 b2, .int .i64 b3, .int .i64 b4, .int .i64 b5, .int .i64 b6]).alloc (.cells #[.int .i64 0, .int .i64 0, .int .i64 0, .int .i64 0, .int .i64 0, .int .i64 0, .int .i64 0] 25)
  have o4 := Ob.new ((w.alloc (.cells #[.int .i64 a0, .int .i64 a1, .int .i64 a2, .int .i64 a3, .int .i64 a4, .int .i64 a5, .int .i64 a6] 25)).alloc (.cells #[.int .i64 b0, .int .i64 b1, .int .i64 b2, .int .i64 b3, .int .i64 b4, .int .i64 b5, .int .i64 b6] 25)) 25 #[.int .i64 0, .int .i64 0, .int .i64 0, .int .i64 0, .int .i64 0, .int .i64 0, .int .i64 0]
  have hB : Below w.heap.size w (((w.alloc (.cells #[.int .i64 a0, .int .i64 a1, .int .i64 a2, .int .i64 a3, .int .i64 a4, .int .i64 a5, .int .i64 a6] 25)).alloc (.cells #[.int .i64 b0, .int .i64 b1, .int .i64 b2, .int .i64 b3, .int .i64 b4, .int .i64 b5, .int .i64 b6] 25)).alloc (.cells #[.int .i64 0, .int .i64 0, .int .i64 0, .int .i64 0, .int .i64 0, .int .i64 0, .int .i64 0] 25)) := (((Below.refl _ w).alloc (Nat.le_refl _) _).alloc (by simp) _).alloc (by simp; omega) _
  simp only [World.size_alloc] at o3 o4
  have hs : (((w.alloc (.cells #[.int .i64 a0, .int .i64 a1, .int .i64 a2, .int .i64 a3, .int .i64 a4, .int .i64 a5, .int .i64 a6] 25)).alloc (.cells #[.int .i64 b0, .int .i64 b1, .int .i64 b2, .int .i64 b3, .int .i64 b4, .int .i64 b5, .int .i64 b6] 25)).alloc (.cells #[.int .i64 0, .int .i64 0, .int .i64 0, .int .i64 0, .int .i64 0, .int .i64 0, .int .i64 0] 25)).heap.size = w.heap.size + 3 := by simp
  have HSZ := Lib.hid hs
  clear hs
  go_enter Try.func11, Try.ntmps11
  go_upto_region 1 with (fail)
  generalize (((w.alloc (.cells #[.int .i64 a0, .int .i64 a1, .int .i64 a2, .int .i64 a3, .int .i64 a4, .int .i64 a5, .int .i64 a6] 25)).alloc (.cells #[.int .i64 b0, .int .i64 b1, .int .i64 b2, .int .i64 b3, .int .i64 b4, .int .i64 b5, .int .i64 b6] 25)).alloc (.cells #[.int .i64 0, .int .i64 0, .int .i64 0, .int .i64 0, .int .i64 0, .int .i64 0, .int .i64 0] 25)) = w0 at *
  have p0 := o2.cell (j := 0) (v := .int .i64 a0) rfl
  have f0 := o2.frozen 0
  have q0 := o3.cell (j := 0) (v := .int .i64 b0) rfl
  go_upto_region 2 with (fail)
  clear p0 f0 q0
  have g0 := grownBy_set w0 w.heap.size 0 (.int .i64 (wrap64 (a0 + b0)))
  replace o2 : Ob (w0.setCell ⟨w.heap.size, 0, none⟩ (.int .i64 (wrap64 (a0 + b0)))) w.heap.size 25 #[.int .i64 (wrap64 (a0 + b0)), .int .i64 a1, .int .i64 a2, .int .i64 a3, .int .i64 a4, .int .i64 a5, .int .i64 a6] := o2.set 0 (.int .i64 (wrap64 (a0 + b0)))
  replace o3 := o3.kept g0 (fun e => by have := Option.some.inj e; omega)
  replace o4 := o4.kept g0 (fun e => by have := Option.some.inj e; omega)
  replace hB := hB.grown g0 hB.size (fun k e => by cases e; exact Nat.le_refl _)
  clear g0
  generalize w0.setCell ⟨w.heap.size, 0, none⟩ (.int .i64 (wrap64 (a0 + b0))) = w1 at *
  have p1 := o2.cell (j := 1) (v := .int .i64 a1) rfl
  have f1 := o2.frozen 1
  have q1 := o3.cell (j := 1) (v := .int .i64 b1) rfl
  go_upto_region 3 with (fail)
  clear p1 f1 q1
  have g1 := grownBy_set w1 w.heap.size 1 (.int .i64 (wrap64 (a1 + b1)))
  replace o2 : Ob (w1.setCell ⟨w.heap.size, 1, none⟩ (.int .i64 (wrap64 (a1 + b1)))) w.heap.size 25 #[.int .i64 (wrap64 (a0 + b0)), .int .i64 (wrap64 (a1 + b1)), .int .i64 a2, .int .i64 a3, .int .i64 a4, .int .i64 a5, .int .i64 a6] := o2.set 1 (.int .i64 (wrap64 (a1 + b1)))
  replace o3 := o3.kept g1 (fun e => by have := Option.some.inj e; omega)
  replace o4 := o4.kept g1 (fun e => by have := Option.some.inj e; omega)
  replace hB := hB.grown g1 hB.size (fun k e => by cases e; exact Nat.le_refl _)
  clear g1
  generalize w1.setCell ⟨w.heap.size, 1, none⟩ (.int .i64 (wrap64 (a1 + b1))) = w2 at *
  have p2 := o2.cell (j := 2) (v := .int .i64 a2) rfl
  have f2 := o2.frozen 2
  have q2 := o3.cell (j := 2) (v := .int .i64 b2) rfl
  go_upto_region 4 with (fail)
  clear p2 f2 q2
  have g2 := grownBy_set w2 w.heap.size 2 (.int .i64 (wrap64 (a2 + b2)))
  replace o2 : Ob (w2.setCell ⟨w.heap.size, 2, none⟩ (.int .i64 (wrap64 (a2 + b2)))) w.heap.size 25 #[.int .i64 (wrap64 (a0 + b0)), .int .i64 (wrap64 (a1 + b1)), .int .i64 (wrap64 (a2 + b2)), .int .i64 a3, .int .i64 a4, .int .i64 a5, .int .i64 a6] := o2.set 2 (.int .i64 (wrap64 (a2 + b2)))
  replace o3 := o3.kept g2 (fun e => by have := Option.some.inj e; omega)
  replace o4 := o4.kept g2 (fun e => by have := Option.some.inj e; omega)
  replace hB := hB.grown g2 hB.size (fun k e => by cases e; exact Nat.le_refl _)
  clear g2
  generalize w2.setCell ⟨w.heap.size, 2, none⟩ (.int .i64 (wrap64 (a2 + b2))) = w3 at *
  have p3 := o2.cell (j := 3) (v := .int .i64 a3) rfl
  have f3 := o2.frozen 3
  have q3 := o3.cell (j := 3) (v := .int .i64 b3) rfl
  go_upto_region 5 with (fail)
  clear p3 f3 q3
  have g3 := grownBy_set w3 w.heap.size 3 (.int .i64 (wrap64 (a3 + b3)))
  replace o2 : Ob (w3.setCell ⟨w.heap.size, 3, none⟩ (.int .i64 (wrap64 (a3 + b3)))) w.heap.size 25 #[.int .i64 (wrap64 (a0 + b0)), .int .i64 (wrap64 (a1 + b1)), .int .i64 (wrap64 (a2 + b2)), .int .i64 (wrap64 (a3 + b3)), .int .i64 a4, .int .i64 a5, .int .i64 a6] := o2.set 3 (.int .i64 (wrap64 (a3 + b3)))
  replace o3 := o3.kept g3 (fun e => by have := Option.some.inj e; omega)
  replace o4 := o4.kept g3 (fun e => by have := Option.some.inj e; omega)
  replace hB := hB.grown g3 hB.size (fun k e => by cases e; exact Nat.le_refl _)
  clear g3
  generalize w3.setCell ⟨w.heap.size, 3, none⟩ (.int .i64 (wrap64 (a3 + b3))) = w4 at *
  have p4 := o2.cell (j := 4) (v := .int .i64 a4) rfl
  have f4 := o2.frozen 4
  have q4 := o3.cell (j := 4) (v := .int .i64 b4) rfl
  go_upto_region 6 with (fail)
  clear p4 f4 q4
  have g4 := grownBy_set w4 w.heap.size 4 (.int .i64 (wrap64 (a4 + b4)))
  replace o2 : Ob (w4.setCell ⟨w.heap.size, 4, none⟩ (.int .i64 (wrap64 (a4 + b4)))) w.heap.size 25 #[.int .i64 (wrap64 (a0 + b0)), .int .i64 (wrap64 (a1 + b1)), .int .i64 (wrap64 (a2 + b2)), .int .i64 (wrap64 (a3 + b3)), .int .i64 (wrap64 (a4 + b4)), .int .i64 a5, .int .i64 a6] := o2.set 4 (.int .i64 (wrap64 (a4 + b4)))
  replace o3 := o3.kept g4 (fun e => by have := Option.some.inj e; omega)
  replace o4 := o4.kept g4 (fun e => by have := Option.some.inj e; omega)
  replace hB := hB.grown g4 hB.size (fun k e => by cases e; exact Nat.le_refl _)
  clear g4
  generalize w4.setCell ⟨w.heap.size, 4, none⟩ (.int .i64 (wrap64 (a4 + b4))) = w5 at *
  have p5 := o2.cell (j := 5) (v := .int .i64 a5) rfl
  have f5 := o2.frozen 5
  have q5 := o3.cell (j := 5) (v := .int .i64 b5) rfl
  go_upto_region 7 with (fail)
  clear p5 f5 q5
  have g5 := grownBy_set w5 w.heap.size 5 (.int .i64 (wrap64 (a5 + b5)))
  replace o2 : Ob (w5.setCell ⟨w.heap.size, 5, none⟩ (.int .i64 (wrap64 (a5 + b5)))) w.heap.size 25 #[.int .i64 (wrap64 (a0 + b0)), .int .i64 (wrap64 (a1 + b1)), .int .i64 (wrap64 (a2 + b2)), .int .i64 (wrap64 (a3 + b3)), .int .i64 (wrap64 (a4 + b4)), .int .i64 (wrap64 (a5 + b5)), .int .i64 a6] := o2.set 5 (.int .i64 (wrap64 (a5 + b5)))
  replace o3 := o3.kept g5 (fun e => by have := Option.some.inj e; omega)
  replace o4 := o4.kept g5 (fun e => by have := Option.some.inj e; omega)
  replace hB := hB.grown g5 hB.size (fun k e => by cases e; exact Nat.le_refl _)
  clear g5
  generalize w5.setCell ⟨w.heap.size, 5, none⟩ (.int .i64 (wrap64 (a5 + b5))) = w6 at *
  have p6 := o2.cell (j := 6) (v := .int .i64 a6) rfl
  have f6 := o2.frozen 6
  have q6 := o3.cell (j := 6) (v := .int .i64 b6) rfl
  go_upto_region 8 with (fail)
  clear p6 f6 q6
  have g6 := grownBy_set w6 w.heap.size 6 (.int .i64 (wrap64 (a6 + b6)))
  replace o2 : Ob (w6.setCell ⟨w.heap.size, 6, none⟩ (.int .i64 (wrap64 (a6 + b6)))) w.heap.size 25 #[.int .i64 (wrap64 (a0 + b0)), .int .i64 (wrap64 (a1 + b1)), .int .i64 (wrap64 (a2 + b2)), .int .i64 (wrap64 (a3 + b3)), .int .i64 (wrap64 (a4 + b4)), .int .i64 (wrap64 (a5 + b5)), .int .i64 (wrap64 (a6 + b6))] := o2.set 6 (.int .i64 (wrap64 (a6 + b6)))
  replace o3 := o3.kept g6 (fun e => by have := Option.some.inj e; omega)
  replace o4 := o4.kept g6 (fun e => by have := Option.some.inj e; omega)
  replace hB := hB.grown g6 hB.size (fun k e => by cases e; exact Nat.le_refl _)
  clear g6
  generalize w6.setCell ⟨w.heap.size, 6, none⟩ (.int .i64 (wrap64 (a6 + b6))) = w7 at *
  have p0 := o2.cell (j := 0) (v := .int .i64 (wrap64 (a0 + b0))) rfl
  have p1 := o2.cell (j := 1) (v := .int .i64 (wrap64 (a1 + b1))) rfl
  have p2 := o2.cell (j := 2) (v := .int .i64 (wrap64 (a2 + b2))) rfl
  have p3 := o2.cell (j := 3) (v := .int .i64 (wrap64 (a3 + b3))) rfl
  have p4 := o2.cell (j := 4) (v := .int .i64 (wrap64 (a4 + b4))) rfl
  have p5 := o2.cell (j := 5) (v := .int .i64 (wrap64 (a5 + b5))) rfl
  have p6 := o2.cell (j := 6) (v := .int .i64 (wrap64 (a6 + b6))) rfl
  go_wp2_with (refine wpList_store_ob rfl 25 (.tmp 4) (.tmp 47) rfl rfl rfl o4 rfl (by kernel_rfl) (by simp [Value.oneCell']) ?_; intro w9 hO hg)
  have hb := hB.grown hg hB.size (fun k e => by cases e; omega)
  refine bodyPost_ret (v := .agg #[.int .i64 (wrap64 (a0 + b0)), .int .i64 (wrap64 (a1 + b1)), .int .i64 (wrap64 (a2 + b2)), .int .i64 (wrap64 (a3 + b3)), .int .i64 (wrap64 (a4 + b4)), .int .i64 (wrap64 (a5 + b5)), .int .i64 (wrap64 (a6 + b6))]) ?_ rfl ⟨rfl, hb⟩
  have c0 := hO.cell (j := 0) (v := .int .i64 (wrap64 (a0 + b0))) rfl
  have c1 := hO.cell (j := 1) (v := .int .i64 (wrap64 (a1 + b1))) rfl
  have c2 := hO.cell (j := 2) (v := .int .i64 (wrap64 (a2 + b2))) rfl
  have c3 := hO.cell (j := 3) (v := .int .i64 (wrap64 (a3 + b3))) rfl
  have c4 := hO.cell (j := 4) (v := .int .i64 (wrap64 (a4 + b4))) rfl
  have c5 := hO.cell (j := 5) (v := .int .i64 (wrap64 (a5 + b5))) rfl
  have c6 := hO.cell (j := 6) (v := .int .i64 (wrap64 (a6 + b6))) rfl
  simp [results, Try.f11, go_sem, c0, c1, c2, c3, c4, c5, c6]
set_option maxRecDepth 100000 in
set_option maxHeartbeats 4000000 in
theorem rflow_calls (a0 a1 a2 a3 a4 a5 a6 b0 b1 b2 b3 b4 b5 b6 : Int) (w : World) :
    Calls Try.prog 12 #[.agg #[.int .i64 a0, .int .i64 a1, .int .i64 a2, .int .i64 a3, .int .i64 a4, .int .i64 a5, .int .i64 a6], .agg #[.int .i64 b0, .int .i64 b1, .int .i64 b2, .int .i64 b3, .int .i64 b4, .int .i64 b5, .int .i64 b6]] w fun e w' => e = .returned (.agg #[.int .i64 (wrap64 (a0 + b0)), .int .i64 (wrap64 (a1 + b1)), .int .i64 (wrap64 (a2 + b2)), .int .i64 (wrap64 (a3 + b3)), .int .i64 (wrap64 (a4 + b4)), .int .i64 (wrap64 (a5 + b5)), .int .i64 (wrap64 (a6 + b6))]) ∧ Below w.heap.size w w' := by
  have o2 := ((Ob.new w 25 #[.int .i64 a0, .int .i64 a1, .int .i64 a2, .int .i64 a3, .int .i64 a4, .int .i64 a5, .int .i64 a6]).alloc (.cells #[.int .i64 b0, .int .i64 b1, .int .i64 b2, .int .i64 b3, .int .i64 b4, .int .i64 b5, .int .i64 b6] 25)).alloc (.cells #[.int .i64 0, .int .i64 0, .int .i64 0, .int .i64 0, .int .i64 0, .int .i64 0, .int .i64 0] 25)
  have o3 := (Ob.new (w.alloc (.cells #[.int .i64 a0, .int .i64 a1, .int .i64 a2, .int .i64 a3, .int .i64 a4, .int .i64 a5, .int .i64 a6] 25)) 25 #[.int .i64 b0, .int .i64 b1, .int .i64 b2, .int .i64 b3, .int .i64 b4, .int .i64 b5, .int .i64 b6]).alloc (.cells #[.int .i64 0, .int .i64 0, .int .i64 0, .int .i64 0, .int .i64 0, .int .i64 0, .int .i64 0] 25)
  have o4 := Ob.new ((w.alloc (.cells #[.int .i64 a0, .int .i64 a1, .int .i64 a2, .int .i64 a3, .int .i64 a4, .int .i64 a5, .int .i64 a6] 25)).alloc (.cells #[.int .i64 b0, .int .i64 b1, .int .i64 b2, .int .i64 b3, .int .i64 b4, .int .i64 b5, .int .i64 b6] 25)) 25 #[.int .i64 0, .int .i64 0, .int .i64 0, .int .i64 0, .int .i64 0, .int .i64 0, .int .i64 0]
  have hB : Below w.heap.size w (((w.alloc (.cells #[.int .i64 a0, .int .i64 a1, .int .i64 a2, .int .i64 a3, .int .i64 a4, .int .i64 a5, .int .i64 a6] 25)).alloc (.cells #[.int .i64 b0, .int .i64 b1, .int .i64 b2, .int .i64 b3, .int .i64 b4, .int .i64 b5, .int .i64 b6] 25)).alloc (.cells #[.int .i64 0, .int .i64 0, .int .i64 0, .int .i64 0, .int .i64 0, .int .i64 0, .int .i64 0] 25)) := (((Below.refl _ w).alloc (Nat.le_refl _) _).alloc (by simp) _).alloc (by simp; omega) _
  simp only [World.size_alloc] at o3 o4
  have hs : (((w.alloc (.cells #[.int .i64 a0, .int .i64 a1, .int .i64 a2, .int .i64 a3, .int .i64 a4, .int .i64 a5, .int .i64 a6] 25)).alloc (.cells #[.int .i64 b0, .int .i64 b1, .int .i64 b2, .int .i64 b3, .int .i64 b4, .int .i64 b5, .int .i64 b6] 25)).alloc (.cells #[.int .i64 0, .int .i64 0, .int .i64 0, .int .i64 0, .int .i64 0, .int .i64 0, .int .i64 0] 25)).heap.size = w.heap.size + 3 := by simp
  have HB := Lib.hid hB
  clear hB
  go_enter Try.func12, Try.ntmps12
  go_wp2_with (refine wpList_store_ob rfl 25 (.tmp 4) (.tmp 40) rfl rfl rfl o4 rfl (by kernel_rfl) (by simp [Value.oneCell']) ?_; intro w4 hO hg)
  have hb := HB.out.grown hg HB.out.size (fun k e => by cases e; omega)
  refine bodyPost_ret (v := .agg #[.int .i64 (wrap64 (a0 + b0)), .int .i64 (wrap64 (a1 + b1)), .int .i64 (wrap64 (a2 + b2)), .int .i64 (wrap64 (a3 + b3)), .int .i64 (wrap64 (a4 + b4)), .int .i64 (wrap64 (a5 + b5)), .int .i64 (wrap64 (a6 + b6))]) ?_ rfl ⟨rfl, hb⟩
  have c0 := hO.cell (j := 0) (v := .int .i64 (wrap64 (a0 + b0))) rfl
  have c1 := hO.cell (j := 1) (v := .int .i64 (wrap64 (a1 + b1))) rfl
  have c2 := hO.cell (j := 2) (v := .int .i64 (wrap64 (a2 + b2))) rfl
  have c3 := hO.cell (j := 3) (v := .int .i64 (wrap64 (a3 + b3))) rfl
  have c4 := hO.cell (j := 4) (v := .int .i64 (wrap64 (a4 + b4))) rfl
  have c5 := hO.cell (j := 5) (v := .int .i64 (wrap64 (a5 + b5))) rfl
  have c6 := hO.cell (j := 6) (v := .int .i64 (wrap64 (a6 + b6))) rfl
  simp [results, Try.f12, go_sem, c0, c1, c2, c3, c4, c5, c6]
set_option maxRecDepth 100000 in
set_option maxHeartbeats 4000000 in
theorem kept_calls (g : ByteArray) (a0 a1 a2 a3 a4 a5 a6 a7 a8 a9 a10 way : Int) (w : World) :
    Calls Try.prog 13 #[.agg #[.string g, .int .i64 a0, .int .i64 a1, .int .i64 a2, .int .i64 a3, .int .i64 a4, .int .i64 a5, .int .i64 a6, .int .i64 a7, .int .i64 a8, .int .i64 a9, .int .i64 a10, .int .i64 way]] w fun e w' => e = .returned (.bool (keptT a0 a1 a2 a3 a4 a5 a6 a7 a8 a9 a10 way)) ∧ Below w.heap.size w w' := by
  have o1 := Ob.new w 27 #[.string g, .int .i64 a0, .int .i64 a1, .int .i64 a2, .int .i64 a3, .int .i64 a4, .int .i64 a5, .int .i64 a6, .int .i64 a7, .int .i64 a8, .int .i64 a9, .int .i64 a10, .int .i64 way]
  have hB : Below w.heap.size w (w.alloc (.cells #[.string g, .int .i64 a0, .int .i64 a1, .int .i64 a2, .int .i64 a3, .int .i64 a4, .int .i64 a5, .int .i64 a6, .int .i64 a7, .int .i64 a8, .int .i64 a9, .int .i64 a10, .int .i64 way] 27)) := (Below.refl _ w).alloc (Nat.le_refl _) _
  have HB := Lib.hid hB
  have HK := Lib.hid (show keptT a0 a1 a2 a3 a4 a5 a6 a7 a8 a9 a10 way = (decide (0 ≤ way) && (wrap64 (wrap64 (wrap64 (wrap64 (a0 + a1) + a2) + a3) + way) == wrap64 (wrap64 (wrap64 (wrap64 (a4 + a5) + a6) - a8) - a9))) from rfl)
  clear hB
  by_cases h0 : 0 ≤ way
  · have hd : decide (way ≥ 0) = true := by simpa using h0
    have HT := Lib.hid (show keptT a0 a1 a2 a3 a4 a5 a6 a7 a8 a9 a10 way = (wrap64 (wrap64 (wrap64 (wrap64 (a0 + a1) + a2) + a3) + way) == wrap64 (wrap64 (wrap64 (wrap64 (a4 + a5) + a6) - a8) - a9)) by rw [HK.out, decide_eq_true h0]; rfl)
    clear h0
    go_enter Try.func13, Try.ntmps13
    go_wp2
    go_ret
    exact ⟨ret1 (boo (by rw [HT.out])), HB.out⟩
  · have hd : decide (way ≥ 0) = false := by simpa using h0
    have HT := Lib.hid (show keptT a0 a1 a2 a3 a4 a5 a6 a7 a8 a9 a10 way = false by rw [HK.out, decide_eq_false h0]; rfl)
    clear h0
    go_enter Try.func13, Try.ntmps13
    go_wp2
    go_ret
    exact ⟨ret1 (boo HT.out.symm), HB.out⟩
set_option maxRecDepth 100000 in
set_option maxHeartbeats 4000000 in
theorem rkept_calls (g : ByteArray) (a0 a1 a2 a3 a4 a5 a6 a7 a8 a9 a10 way : Int) (w : World) :
    Calls Try.prog 14 #[.agg #[.string g, .int .i64 a0, .int .i64 a1, .int .i64 a2, .int .i64 a3, .int .i64 a4, .int .i64 a5, .int .i64 a6, .int .i64 a7, .int .i64 a8, .int .i64 a9, .int .i64 a10, .int .i64 way]] w fun e w' => e = .returned (.bool (keptT a0 a1 a2 a3 a4 a5 a6 a7 a8 a9 a10 way)) ∧ Below w.heap.size w w' := by
  have o1 := Ob.new w 27 #[.string g, .int .i64 a0, .int .i64 a1, .int .i64 a2, .int .i64 a3, .int .i64 a4, .int .i64 a5, .int .i64 a6, .int .i64 a7, .int .i64 a8, .int .i64 a9, .int .i64 a10, .int .i64 way]
  have hB : Below w.heap.size w (w.alloc (.cells #[.string g, .int .i64 a0, .int .i64 a1, .int .i64 a2, .int .i64 a3, .int .i64 a4, .int .i64 a5, .int .i64 a6, .int .i64 a7, .int .i64 a8, .int .i64 a9, .int .i64 a10, .int .i64 way] 27)) := (Below.refl _ w).alloc (Nat.le_refl _) _
  have HB := Lib.hid hB
  have HK := Lib.hid (show keptT a0 a1 a2 a3 a4 a5 a6 a7 a8 a9 a10 way = (decide (0 ≤ way) && (wrap64 (wrap64 (wrap64 (wrap64 (a0 + a1) + a2) + a3) + way) == wrap64 (wrap64 (wrap64 (wrap64 (a4 + a5) + a6) - a8) - a9))) from rfl)
  clear hB
  by_cases h0 : 0 ≤ way
  · have hd : decide (way ≥ 0) = true := by simpa using h0
    have HT := Lib.hid (show keptT a0 a1 a2 a3 a4 a5 a6 a7 a8 a9 a10 way = (wrap64 (wrap64 (wrap64 (wrap64 (a0 + a1) + a2) + a3) + way) == wrap64 (wrap64 (wrap64 (wrap64 (a4 + a5) + a6) - a8) - a9)) by rw [HK.out, decide_eq_true h0]; rfl)
    clear h0
    go_enter Try.func14, Try.ntmps14
    go_wp2
    go_ret
    exact ⟨ret1 (boo (by rw [HT.out])), HB.out⟩
  · have hd : decide (way ≥ 0) = false := by simpa using h0
    have HT := Lib.hid (show keptT a0 a1 a2 a3 a4 a5 a6 a7 a8 a9 a10 way = false by rw [HK.out, decide_eq_false h0]; rfl)
    clear h0
    go_enter Try.func14, Try.ntmps14
    go_wp2
    go_ret
    exact ⟨ret1 (boo HT.out.symm), HB.out⟩
end Sk
end Go.Proofs.Ytlhpdalfnjhokaa
