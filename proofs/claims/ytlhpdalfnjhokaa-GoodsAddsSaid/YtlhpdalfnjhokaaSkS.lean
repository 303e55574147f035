/-
  The law Adds.
-/
import Derived.Test.YtlhpdalfnjhokaaSkR
import Derived.Test.YtlhpdalfnjhokaaObg
namespace Go.Proofs.Ytlhpdalfnjhokaa
open Go.RowKit Go.Maps
namespace Sk
open It Al Kp
attribute [local go_sem] Oper.semAt_some
set_option maxRecDepth 100000 in
set_option maxHeartbeats 16000000 in
theorem adds_law (a0 a1 a2 a3 b0 b1 b2 b3 f0 f1 f2 f3 f4 f5 f6 g0 g1 g2 g3 g4 g5 g6 way : Int) (w : World) :
    Calls Try.prog 3 #[.agg #[.int .i64 a0, .int .i64 a1, .int .i64 a2, .int .i64 a3], .agg #[.int .i64 b0, .int .i64 b1, .int .i64 b2, .int .i64 b3], .agg #[.int .i64 f0, .int .i64 f1, .int .i64 f2, .int .i64 f3, .int .i64 f4, .int .i64 f5, .int .i64 f6], .agg #[.int .i64 g0, .int .i64 g1, .int .i64 g2, .int .i64 g3, .int .i64 g4, .int .i64 g5, .int .i64 g6], .int .i64 way] w fun e w' => e = .returned (.bool true) ∧ Below w.heap.size w w' := by
  have hmx : Try.prog.follows .mixedOrders = true := rfl
  have cI := Lib.hid lives_calls
  have cL := Lib.hid (glevel_calls a0 a1 a2 a3 b0 b1 b2 b3)
  have cRL := Lib.hid (rlevel_calls a0 a1 a2 a3 b0 b1 b2 b3)
  have cF := Lib.hid (gflow_calls f0 f1 f2 f3 f4 f5 f6 g0 g1 g2 g3 g4 g5 g6)
  have cRF := Lib.hid (rflow_calls f0 f1 f2 f3 f4 f5 f6 g0 g1 g2 g3 g4 g5 g6)
  have cK := Lib.hid (kept_calls ⟨#[]⟩ a0 a1 a2 a3 f0 f1 f2 f3 f4 f5 f6 way)
  have cRK := Lib.hid (rkept_calls ⟨#[]⟩ a0 a1 a2 a3 f0 f1 f2 f3 f4 f5 f6 way)
  have o0 := (((Ob.new w 23 #[.int .i64 a0, .int .i64 a1, .int .i64 a2, .int .i64 a3]).alloc (.cells #[.int .i64 b0, .int .i64 b1, .int .i64 b2, .int .i64 b3] 23)).alloc (.cells #[.int .i64 f0, .int .i64 f1, .int .i64 f2, .int .i64 f3, .int .i64 f4, .int .i64 f5, .int .i64 f6] 25)).alloc (.cells #[.int .i64 g0, .int .i64 g1, .int .i64 g2, .int .i64 g3, .int .i64 g4, .int .i64 g5, .int .i64 g6] 25)
  have o1 := ((Ob.new (w.alloc (.cells #[.int .i64 a0, .int .i64 a1, .int .i64 a2, .int .i64 a3] 23)) 23 #[.int .i64 b0, .int .i64 b1, .int .i64 b2, .int .i64 b3]).alloc (.cells #[.int .i64 f0, .int .i64 f1, .int .i64 f2, .int .i64 f3, .int .i64 f4, .int .i64 f5, .int .i64 f6] 25)).alloc (.cells #[.int .i64 g0, .int .i64 g1, .int .i64 g2, .int .i64 g3, .int .i64 g4, .int .i64 g5, .int .i64 g6] 25)
  have o2 := (Ob.new ((w.alloc (.cells #[.int .i64 a0, .int .i64 a1, .int .i64 a2, .int .i64 a3] 23)).alloc (.cells #[.int .i64 b0, .int .i64 b1, .int .i64 b2, .int .i64 b3] 23)) 25 #[.int .i64 f0, .int .i64 f1, .int .i64 f2, .int .i64 f3, .int .i64 f4, .int .i64 f5, .int .i64 f6]).alloc (.cells #[.int .i64 g0, .int .i64 g1, .int .i64 g2, .int .i64 g3, .int .i64 g4, .int .i64 g5, .int .i64 g6] 25)
  have o3 := Ob.new (((w.alloc (.cells #[.int .i64 a0, .int .i64 a1, .int .i64 a2, .int .i64 a3] 23)).alloc (.cells #[.int .i64 b0, .int .i64 b1, .int .i64 b2, .int .i64 b3] 23)).alloc (.cells #[.int .i64 f0, .int .i64 f1, .int .i64 f2, .int .i64 f3, .int .i64 f4, .int .i64 f5, .int .i64 f6] 25)) 25 #[.int .i64 g0, .int .i64 g1, .int .i64 g2, .int .i64 g3, .int .i64 g4, .int .i64 g5, .int .i64 g6]
  simp only [World.size_alloc] at o1 o2 o3
  have hB : Below w.heap.size w ((((w.alloc (.cells #[.int .i64 a0, .int .i64 a1, .int .i64 a2, .int .i64 a3] 23)).alloc (.cells #[.int .i64 b0, .int .i64 b1, .int .i64 b2, .int .i64 b3] 23)).alloc (.cells #[.int .i64 f0, .int .i64 f1, .int .i64 f2, .int .i64 f3, .int .i64 f4, .int .i64 f5, .int .i64 f6] 25)).alloc (.cells #[.int .i64 g0, .int .i64 g1, .int .i64 g2, .int .i64 g3, .int .i64 g4, .int .i64 g5, .int .i64 g6] 25)) := ((((Below.refl _ w).alloc (Nat.le_refl _) _).alloc (by simp) _).alloc (by simp; omega) _).alloc (by simp; omega) _
  have hs : ((((w.alloc (.cells #[.int .i64 a0, .int .i64 a1, .int .i64 a2, .int .i64 a3] 23)).alloc (.cells #[.int .i64 b0, .int .i64 b1, .int .i64 b2, .int .i64 b3] 23)).alloc (.cells #[.int .i64 f0, .int .i64 f1, .int .i64 f2, .int .i64 f3, .int .i64 f4, .int .i64 f5, .int .i64 f6] 25)).alloc (.cells #[.int .i64 g0, .int .i64 g1, .int .i64 g2, .int .i64 g3, .int .i64 g4, .int .i64 g5, .int .i64 g6] 25)).heap.size = w.heap.size + 4 := by simp
  go_enter Try.func3, Try.ntmps3
  go_upto_region 1 with (fail)
  generalize ((((w.alloc (.cells #[.int .i64 a0, .int .i64 a1, .int .i64 a2, .int .i64 a3] 23)).alloc (.cells #[.int .i64 b0, .int .i64 b1, .int .i64 b2, .int .i64 b3] 23)).alloc (.cells #[.int .i64 f0, .int .i64 f1, .int .i64 f2, .int .i64 f3, .int .i64 f4, .int .i64 f5, .int .i64 f6] 25)).alloc (.cells #[.int .i64 g0, .int .i64 g1, .int .i64 g2, .int .i64 g3, .int .i64 g4, .int .i64 g5, .int .i64 g6] 25)) = w0 at *
  go_upto_region 2 with (first | (refine wpList_load_ob rfl 23 (.tmp 5) rfl rfl _ o0 Try.underlying23 rfl (by kernel_rfl) ?_) | (refine wpList_load_ob rfl 25 (.tmp 7) rfl rfl _ o2 Try.underlying25 rfl (by kernel_rfl) ?_))
  have hB1 : Below w.heap.size w (w0.alloc (.cells #[.string ⟨#[]⟩, .int .i64 a0, .int .i64 a1, .int .i64 a2, .int .i64 a3, .int .i64 f0, .int .i64 f1, .int .i64 f2, .int .i64 f3, .int .i64 f4, .int .i64 f5, .int .i64 f6, .int .i64 way] 27)) := hB.alloc hB.size _
  have o4 := Ob.new w0 27 #[.string ⟨#[]⟩, .int .i64 a0, .int .i64 a1, .int .i64 a2, .int .i64 a3, .int .i64 f0, .int .i64 f1, .int .i64 f2, .int .i64 f3, .int .i64 f4, .int .i64 f5, .int .i64 f6, .int .i64 way]
  rw [hs] at o4
  replace o0 := o0.alloc (.cells #[.string ⟨#[]⟩, .int .i64 a0, .int .i64 a1, .int .i64 a2, .int .i64 a3, .int .i64 f0, .int .i64 f1, .int .i64 f2, .int .i64 f3, .int .i64 f4, .int .i64 f5, .int .i64 f6, .int .i64 way] 27)
  replace o1 := o1.alloc (.cells #[.string ⟨#[]⟩, .int .i64 a0, .int .i64 a1, .int .i64 a2, .int .i64 a3, .int .i64 f0, .int .i64 f1, .int .i64 f2, .int .i64 f3, .int .i64 f4, .int .i64 f5, .int .i64 f6, .int .i64 way] 27)
  replace o2 := o2.alloc (.cells #[.string ⟨#[]⟩, .int .i64 a0, .int .i64 a1, .int .i64 a2, .int .i64 a3, .int .i64 f0, .int .i64 f1, .int .i64 f2, .int .i64 f3, .int .i64 f4, .int .i64 f5, .int .i64 f6, .int .i64 way] 27)
  replace o3 := o3.alloc (.cells #[.string ⟨#[]⟩, .int .i64 a0, .int .i64 a1, .int .i64 a2, .int .i64 a3, .int .i64 f0, .int .i64 f1, .int .i64 f2, .int .i64 f3, .int .i64 f4, .int .i64 f5, .int .i64 f6, .int .i64 way] 27)
  clear hB
  generalize w0.alloc (.cells #[.string ⟨#[]⟩, .int .i64 a0, .int .i64 a1, .int .i64 a2, .int .i64 a3, .int .i64 f0, .int .i64 f1, .int .i64 f2, .int .i64 f3, .int .i64 f4, .int .i64 f5, .int .i64 f6, .int .i64 way] 27) = V1 at *
  have O0 : Ob V1.drew _ _ _ := o0
  have O1 : Ob V1.drew _ _ _ := o1
  have O2 : Ob V1.drew _ _ _ := o2
  have O3 : Ob V1.drew _ _ _ := o3
  have O4 : Ob V1.drew _ _ _ := o4
  clear o0 o1 o2 o3 o4 hs
  refine Pu.regionW (fun W' => Below V1.drew.heap.size V1.drew W') hmx (by kernel_rfl) (by kernel_rfl) (Below.refl _ _) rfl ?_
  iterate 27 (first
    | (refine Pu.Walk.off (by rfl) ?_; simp only [Act.put, List.setIfInBounds_toArray, List.set_cons_succ, List.set_cons_zero])
    | (apply Pu.Walk.on (by rfl)
       · intro W1 h1
         go_wp2_with (first
           | (refine wpList_load_obg (by rfl) _ _ rfl rfl _ (O0.same h1) Try.underlying23 rfl (by kernel_rfl) ?_)
           | (refine wpList_load_obg (by rfl) _ _ rfl rfl _ (O1.same h1) Try.underlying23 rfl (by kernel_rfl) ?_)
           | (refine wpList_load_obg (by rfl) _ _ rfl rfl _ (O2.same h1) Try.underlying25 rfl (by kernel_rfl) ?_)
           | (refine wpList_load_obg (by rfl) _ _ rfl rfl _ (O3.same h1) Try.underlying25 rfl (by kernel_rfl) ?_)
           | (refine wpList_load_obg (by rfl) _ _ rfl rfl _ (O4.same h1) Try.underlying27 rfl (by kernel_rfl) ?_)
           | (go_at_call 8; refine (cI.out _).mono ?_; rintro e W2 ⟨rfl, hb⟩; replace h1 := h1.trans (hb.mono h1.size); clear hb)
           | (go_at_call 9; refine (cL.out _).mono ?_; rintro e W2 ⟨rfl, hb⟩; replace h1 := h1.trans (hb.mono h1.size); clear hb)
           | (go_at_call 11; refine (cF.out _).mono ?_; rintro e W2 ⟨rfl, hb⟩; replace h1 := h1.trans (hb.mono h1.size); clear hb)
           | (go_at_call 13; refine (cK.out _).mono ?_; rintro e W2 ⟨rfl, hb⟩; replace h1 := h1.trans (hb.mono h1.size); clear hb)
           | (go_at_call 10; refine (cRL.out _).mono ?_; rintro e W2 ⟨rfl, hb⟩; replace h1 := h1.trans (hb.mono h1.size); clear hb)
           | (go_at_call 12; refine (cRF.out _).mono ?_; rintro e W2 ⟨rfl, hb⟩; replace h1 := h1.trans (hb.mono h1.size); clear hb)
           | (go_at_call 14; refine (cRK.out _).mono ?_; rintro e W2 ⟨rfl, hb⟩; replace h1 := h1.trans (hb.mono h1.size); clear hb))
         refine ⟨rfl, ?_, h1⟩
         try simp only [Act.put, List.setIfInBounds_toArray, List.set_cons_succ, List.set_cons_zero]
         rfl
       simp only [Act.put, List.setIfInBounds_toArray, List.set_cons_succ, List.set_cons_zero]))
  refine Pu.Walk.nil (fun W1 h1 => ?_)
  have hBB := hB1.drew.trans (h1.mono hB1.drew.size)
  go_wp2
  go_ret
  exact ⟨rfl, hBB⟩
end Sk
end Go.Proofs.Ytlhpdalfnjhokaa
