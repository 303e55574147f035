/-
  sector: spend, Stop, Counts.
-/
import Derived.Test.YteiniahikhiadaaSeE
import Derived.Laws.LoneSync
namespace Go.Proofs.Yteiniahikhiadaa
open Go.RowKit Go.Maps
namespace Se
open Ce

section
variable {w w' : World} {base d sb mb : Nat} {D D' : Dv}
/-- the device's own block is written -/
theorem DvAt.own (h : DvAt w base d sb mb D) (hg : w.grownBy w' (some d)) (ho : Ob w' d 86 (devC D' sb mb)) (hs : D'.sure = D.sure) (hm : D'.dm = D.dm) (hok : OkD D') : DvAt w' base d sb mb D' := by
  refine ⟨ho, ?_, ?_, hok, h.ne, h.lo, by rw [hs]; exact h.len⟩
  · rw [hs]
    exact h.sure.kept (hg.block sb h.sure.lt (fun e => h.ne.1 (Option.some.inj e).symm)) hg.size
  · rw [hm]
    exact h.map.kept hg (fun e => h.ne.2.1 (Option.some.inj e).symm)
/-- what a call may write -/
def Dev (d sb mb : Nat) (w w' : World) : Prop := Kept (fun i => i < w.heap.size ∧ i ≠ d ∧ i ≠ sb ∧ i ≠ mb) w w'
theorem Dev.of_own (hg : w.grownBy w' (some d)) : Dev d sb mb w w' := Kept.of_grown hg fun _ hi => ⟨hi.1, fun e => hi.2.1 (Option.some.inj e)⟩
theorem spend_off (h : DvAt w base d sb mb D) (ho : offD D = true) :
    Calls Try.prog 70 #[.pointer (some ⟨d, 0, none⟩)] w fun e w' => e = .returned (.bool false) ∧ w = w' := by
  have cO := off_calls h
  rw [ho] at cO
  have CO := Lib.hid cO
  clear cO h
  go_enter Try.func70, Try.ntmps70
  go_wp2_with fail
  refine CO.out.mono ?_
  rintro e W ⟨rfl, rfl⟩
  go_wp2
  go_ret
  exact ⟨rfl, rfl⟩
theorem OkD.spend (h : OkD D) (ho : offD D = false) : OkD (spendD D) :=
  ⟨by rw [spendD_sure]; exact h.sure, by rw [spendD_sure, spendD_dm]; exact h.dm, spendD_left h ho, by rw [spendD_wr]; exact h.wr, by rw [spendD_fl]; exact h.fl⟩
set_option maxRecDepth 100000 in
theorem spend_calls (h : DvAt w base d sb mb D) (ho : offD D = false) :
    Calls Try.prog 70 #[.pointer (some ⟨d, 0, none⟩)] w fun e w' => e = .returned (.bool true) ∧ DvAt w' base d sb mb (spendD D) ∧ w.grownBy w' (some d) := by
  have cO := off_calls h
  rw [ho] at cO
  have CO := Lib.hid cO
  obtain ⟨y0, y1, y2, y3, -⟩ := Ob.dev h.ob
  have hl := h.ok.left
  have hz := h.ob.frozen 3
  cases hs : D.stops with
  | false =>
    have e : spendD D = D := by unfold spendD; rw [hs]; rfl
    have H := Lib.hid h
    rw [hs] at y2
    rw [e]
    clear cO h hs ho e
    go_enter Try.func70, Try.ntmps70
    go_wp2_with fail
    refine CO.out.mono ?_
    rintro e W ⟨rfl, rfl⟩
    go_wp2
    go_ret
    exact ⟨rfl, H.out, ⟨rfl, rfl, rfl, Nat.le_refl _, fun _ _ _ => rfl⟩⟩
  | true =>
    have hlp : 0 < D.left := by unfold offD at ho; rw [hs] at ho; simpa using ho
    have hst := h.ob.set 3 (.int .i64 (D.left - 1))
    have hg := grownBy_set w d 3 (.int .i64 (D.left - 1))
    have hC : (devC D sb mb).setIfInBounds 3 (.int .i64 (D.left - 1)) = devC (spendD D) sb mb := by
      unfold devC spendD
      rw [hs]
      rfl
    rw [hC] at hst
    have HD := Lib.hid (h.own hg hst (spendD_sure D) (spendD_dm D) (h.ok.spend ho))
    have HG := Lib.hid hg
    rw [hs] at y2
    clear cO h hs ho hC hst hg
    generalize D.left = L at *
    go_enter Try.func70, Try.ntmps70
    go_wp2_with fail
    refine CO.out.mono ?_
    rintro e W ⟨rfl, rfl⟩
    go_wp2
    go_ret
    exact ⟨rfl, HD.out, HG.out⟩
set_option maxRecDepth 100000 in
theorem stop_calls (h : DvAt w base d sb mb D) (n : Int) (h0 : -9223372036854775808 ≤ n) (h1 : n ≤ 9223372036854775807) :
    Calls Try.prog 33 #[.pointer (some ⟨d, 0, none⟩), .int .i64 n] w fun e w' => e = .returned (.tuple #[]) ∧ DvAt w' base d sb mb (stopD D n) ∧ w.grownBy w' (some d) := by
  obtain ⟨y0, y1, y2, y3, -⟩ := Ob.dev h.ob
  have cM := Lib.hid (made_calls d mb w y1)
  have hz := h.ob.frozen 3
  have hz2 := h.ob.frozen 2
  have hst := (h.ob.set 2 (.bool (decide (0 ≤ n)))).set 3 (.int .i64 n)
  have hg := (grownBy_set w d 2 (.bool (decide (0 ≤ n)))).trans (grownBy_set _ d 3 (.int .i64 n))
  have hC : ((devC D sb mb).setIfInBounds 2 (.bool (decide (0 ≤ n)))).setIfInBounds 3 (.int .i64 n) = devC (stopD D n) sb mb := rfl
  rw [hC] at hst
  have HD := Lib.hid (h.own hg hst rfl rfl (h.ok.stop h0 h1))
  have HG := Lib.hid hg
  clear h hC hst hg
  go_enter Try.func33, Try.ntmps33
  go_wp2_with fail
  refine cM.out.mono ?_
  rintro e W ⟨rfl, rfl⟩
  go_wp2
  go_end0
  exact ⟨rfl, HD.out, HG.out⟩
theorem stop_nil (n : Int) (w : World) : Calls Try.prog 33 #[.pointer none, .int .i64 n] w fun e w' => e = .returned (.tuple #[]) ∧ w = w' := by
  have cM := Lib.hid (made_nil w)
  go_enter Try.func33, Try.ntmps33
  go_wp2_with fail
  refine cM.out.mono ?_
  rintro e W ⟨rfl, rfl⟩
  go_wp2
  go_end0
  exact ⟨rfl, rfl⟩
/-- the counters -/
theorem add_calls (j : Nat) (x : Int) (w : World) (hc : w.cell? ⟨d, j, none⟩ = some (.int .i64 x)) (hz : w.frozen? ⟨d, j, none⟩ = false) :
    Calls Try.prog 71 #[.pointer (some ⟨d, j, none⟩), .int .i64 1] w fun e w' => e = .returned (.int .i64 (wrap64 (x + 1))) ∧ w' = w.setCell ⟨d, j, none⟩ (.int .i64 (wrap64 (x + 1))) := by
  have hadd := run_call_add (P := Try.prog) Try.func91 (by kernel_rfl) (by kernel_rfl) (by kernel_rfl) .i64 (by kernel_rfl) (y := 1) (s := wrap64 (x + 1)) hc hz (by simp [go_sem, wrap64, IntKind.wrap_i64])
  go_enter Try.func71, Try.ntmps71
  go_wp2
  go_ret
  exact ⟨rfl, rfl⟩
theorem load_calls (j : Nat) (x : Int) (w : World) (hc : w.cell? ⟨d, j, none⟩ = some (.int .i64 x)) :
    Calls Try.prog 75 #[.pointer (some ⟨d, j, none⟩)] w fun e w' => e = .returned (.int .i64 x) ∧ w = w' := by
  have hl := run_call_load (P := Try.prog) Try.func95 (by kernel_rfl) (by kernel_rfl) (by kernel_rfl) .i64 (by kernel_rfl) hc
  go_enter Try.func75, Try.ntmps75
  go_wp2
  go_ret
  exact ⟨rfl, rfl⟩
end
end Se
end Go.Proofs.Yteiniahikhiadaa
