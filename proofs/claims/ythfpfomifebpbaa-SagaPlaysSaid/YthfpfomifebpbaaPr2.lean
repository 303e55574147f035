/-
  sagas played: the law SagaPlays.
-/
import Derived.Test.YthfpfomifebpbaaPr1
import Derived.Test.YthfpfomifebpbaaPy1
import Derived.Laws.MakeOwn
import Derived.Deep.DeepCutAuto

set_option linter.unusedVariables false
set_option linter.unusedSimpArgs false
namespace Go.Proofs.Ythfpfomifebpbaa
open Go.RowKit Go.Maps
namespace Sa
open It
set_option linter.unusedSimpArgs false

set_option maxRecDepth 100000 in
set_option maxHeartbeats 4000000 in
theorem plays_law (L : List Int) (vh : Value) (W : Int) (waits : Bool) (K : List Int) (vk : Value) (w : World) (hA : IntsAt w 0 w.heap.size vh L) (hK : IntsAt w 0 w.heap.size vk K) :
    Calls Try.prog 5 #[vh, .int .i64 W, .bool waits, vk] w fun e w' => e = .returned (.bool true) ∧ Below w.heap.size w w' := by
  have cL := Lib.hid (fun V => lives_calls V)
  by_cases g1 : L.length < 1
  · obtain ⟨Ah, ch, rfl, -⟩ := hA.form
    generalize L.length = n at *
    clear hA
    have d1 : decide ((n : Int) < 1) = true := by simp; omega
    have d1b : decide (n < 1) = true := by simpa using g1
    go_enter Try.func5, Try.ntmps5
    go_wp2_with fail
    refine (cL.out w).mono ?_
    rintro e W1 ⟨rfl, hb1⟩
    go_wp2
    go_ret
    exact ⟨rfl, hb1⟩
  by_cases g2 : 8 < L.length
  · obtain ⟨Ah, ch, rfl, -⟩ := hA.form
    generalize L.length = n at *
    clear hA
    have d1 : decide ((n : Int) < 1) = false := by simp; omega
    have d2 : decide ((n : Int) > 8) = true := by simp; omega
    go_enter Try.func5, Try.ntmps5
    go_wp2_with fail
    refine (cL.out w).mono ?_
    rintro e W1 ⟨rfl, hb1⟩
    go_wp2
    go_ret
    exact ⟨rfl, hb1⟩
  by_cases g3 : W < 1
  · obtain ⟨Ah, ch, rfl, -⟩ := hA.form
    generalize L.length = n at *
    clear hA
    have d1 : decide ((n : Int) < 1) = false := by simp; omega
    have d2 : decide ((n : Int) > 8) = false := by simp; omega
    have d3 : decide (W < 1) = true := by simpa using g3
    go_enter Try.func5, Try.ntmps5
    go_wp2_with fail
    refine (cL.out w).mono ?_
    rintro e W1 ⟨rfl, hb1⟩
    go_wp2
    go_ret
    exact ⟨rfl, hb1⟩
  by_cases g4 : 1073741824 < W
  · obtain ⟨Ah, ch, rfl, -⟩ := hA.form
    generalize L.length = n at *
    clear hA
    have d1 : decide ((n : Int) < 1) = false := by simp; omega
    have d2 : decide ((n : Int) > 8) = false := by simp; omega
    have d3 : decide (W < 1) = false := by simpa using g3
    have d4 : decide (W > 1073741824) = true := by simpa using g4
    go_enter Try.func5, Try.ntmps5
    go_wp2_with fail
    refine (cL.out w).mono ?_
    rintro e W1 ⟨rfl, hb1⟩
    go_wp2
    go_ret
    exact ⟨rfl, hb1⟩
  exact plays_good L vh W waits K vk w hA (by omega) (by omega) (by omega) (by omega) hK
end Sa
end Go.Proofs.Ythfpfomifebpbaa
