/-
  sector: made, is, Len, Off, spend, Stop.
-/
import Derived.Test.YteiniahikhiadaaSeD
namespace Go.Proofs.Yteiniahikhiadaa
open Go.RowKit Go.Maps
namespace Se
open Ce

theorem Ob.dev {w : World} {d sb mb : Nat} {D : Dv} (h : Ob w d 86 (devC D sb mb)) :
    w.cell? ⟨d, 0, none⟩ = some (.slice (some ⟨sb, 0, none⟩) D.sure.length D.sure.length) ∧ w.cell? ⟨d, 1, none⟩ = some (.map (some mb)) ∧ w.cell? ⟨d, 2, none⟩ = some (.bool D.stops) ∧ w.cell? ⟨d, 3, none⟩ = some (.int .i64 D.left) ∧ w.cell? ⟨d, 4, none⟩ = some (.int .i64 D.wr) ∧ w.cell? ⟨d, 5, none⟩ = some (.int .i64 D.fl) :=
  ⟨h.cell (j := 0) rfl, h.cell (j := 1) rfl, h.cell (j := 2) rfl, h.cell (j := 3) rfl, h.cell (j := 4) rfl, h.cell (j := 5) rfl⟩
theorem made_calls (d mb : Nat) (w : World) (h : w.cell? ⟨d, 1, none⟩ = some (.map (some mb))) :
    Calls Try.prog 67 #[.pointer (some ⟨d, 0, none⟩)] w fun e w' => e = .returned (.bool true) ∧ w = w' := by
  have hn := fun (w : World) (r : Option Nat) => run_neq_map_nil (P := Try.prog) w 79 _ _ r Try.underlying79
  go_enter Try.func67, Try.ntmps67
  go_wp2
  go_ret
  exact ⟨rfl, rfl⟩
theorem made_nil (w : World) :
    Calls Try.prog 67 #[.pointer none] w fun e w' => e = .returned (.bool false) ∧ w = w' := by
  go_enter Try.func67, Try.ntmps67
  go_wp2
  go_ret
  exact ⟨rfl, rfl⟩
section
variable {w : World} {base d sb mb : Nat} {D : Dv}
theorem is_calls (h : DvAt w base d sb mb D) (i : Int) :
    Calls Try.prog 69 #[.pointer (some ⟨d, 0, none⟩), .int .i64 i] w fun e w' => e = .returned (.bool (decide (0 ≤ i ∧ i < D.sure.length))) ∧ w = w' := by
  obtain ⟨y0, -⟩ := Ob.dev h.ob
  generalize D.sure.length = n at *
  clear h
  go_enter Try.func69, Try.ntmps69
  by_cases h0 : 0 ≤ i
  · have hd : decide (i ≥ 0) = true := by simpa using h0
    have he : decide (i < (n : Int)) = decide (0 ≤ i ∧ i < (n : Int)) := by simp [h0]
    rw [← he]
    clear he h0
    go_wp2
    go_ret
    exact ⟨rfl, rfl⟩
  · have hd : decide (i ≥ 0) = false := by simpa using h0
    have he : decide (0 ≤ i ∧ i < (n : Int)) = false := by simp [h0]
    rw [he]
    clear he h0
    go_wp2
    go_ret
    exact ⟨rfl, rfl⟩
theorem len_calls (h : DvAt w base d sb mb D) :
    Calls Try.prog 43 #[.pointer (some ⟨d, 0, none⟩)] w fun e w' => e = .returned (.int .i64 D.sure.length) ∧ w = w' := by
  obtain ⟨y0, y1, -⟩ := Ob.dev h.ob
  have cM := Lib.hid (made_calls d mb w y1)
  generalize D.sure.length = n at *
  clear h
  go_enter Try.func43, Try.ntmps43
  go_wp2_with fail
  refine cM.out.mono ?_
  rintro e W ⟨rfl, rfl⟩
  go_wp2
  go_ret
  exact ⟨rfl, rfl⟩
theorem len_nil (w : World) : Calls Try.prog 43 #[.pointer none] w fun e w' => e = .returned (.int .i64 0) ∧ w = w' := by
  have cM := Lib.hid (made_nil w)
  go_enter Try.func43, Try.ntmps43
  go_wp2_with fail
  refine cM.out.mono ?_
  rintro e W ⟨rfl, rfl⟩
  go_wp2
  go_ret
  exact ⟨rfl, rfl⟩
theorem off_calls (h : DvAt w base d sb mb D) :
    Calls Try.prog 42 #[.pointer (some ⟨d, 0, none⟩)] w fun e w' => e = .returned (.bool (offD D)) ∧ w = w' := by
  obtain ⟨y0, y1, y2, y3, -⟩ := Ob.dev h.ob
  have cM := Lib.hid (made_calls d mb w y1)
  have HO := Lib.hid (show offD D = (D.stops && decide (D.left ≤ 0)) from rfl)
  generalize offD D = O at *
  generalize D.stops = S at *
  generalize D.left = L at *
  clear h
  go_enter Try.func42, Try.ntmps42
  go_wp2_with fail
  refine cM.out.mono ?_
  rintro e W ⟨rfl, rfl⟩
  cases S with
  | true =>
    go_wp2
    go_ret
    exact ⟨by rw [HO.out]; rfl, rfl⟩
  | false =>
    go_wp2
    go_ret
    exact ⟨by rw [HO.out]; rfl, rfl⟩
theorem off_nil (w : World) : Calls Try.prog 42 #[.pointer none] w fun e w' => e = .returned (.bool true) ∧ w = w' := by
  have cM := Lib.hid (made_nil w)
  go_enter Try.func42, Try.ntmps42
  go_wp2_with fail
  refine cM.out.mono ?_
  rintro e W ⟨rfl, rfl⟩
  go_wp2
  go_ret
  exact ⟨rfl, rfl⟩
end
end Se
end Go.Proofs.Yteiniahikhiadaa
