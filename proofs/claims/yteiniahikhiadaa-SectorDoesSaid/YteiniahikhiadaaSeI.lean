/-
  sector: Write (what it refuses), Read.
-/
import Derived.Test.YteiniahikhiadaaSeH
namespace Go.Proofs.Yteiniahikhiadaa
open Go.RowKit Go.Maps
namespace Se
open Ce

theorem write_nil (i : Int) (v : Value) (w : World) :
    Calls Try.prog 38 #[.pointer none, .int .i64 i, v] w fun e w' => e = .returned (.int .i64 6) ∧ w = w' := by
  have cM := Lib.hid (made_nil w)
  go_enter Try.func38, Try.ntmps38
  go_wp2_with fail
  refine cM.out.mono ?_
  rintro e W ⟨rfl, rfl⟩
  go_wp2
  go_ret
  exact ⟨rfl, rfl⟩
theorem read_nil (i : Int) (w : World) :
    Calls Try.prog 41 #[.pointer none, .int .i64 i] w fun e w' => e = .returned (.tuple #[.slice none 0 0, .int .i64 6]) ∧ w = w' := by
  have cM := Lib.hid (made_nil w)
  go_enter Try.func41, Try.ntmps41
  go_wp2_with fail
  refine cM.out.mono ?_
  rintro e W ⟨rfl, rfl⟩
  go_wp2
  go_ret2
  exact ⟨rfl, rfl⟩
theorem flush_nil (w : World) :
    Calls Try.prog 40 #[.pointer none] w fun e w' => e = .returned (.int .i64 6) ∧ w = w' := by
  have cM := Lib.hid (made_nil w)
  go_enter Try.func40, Try.ntmps40
  go_wp2_with fail
  refine cM.out.mono ?_
  rintro e W ⟨rfl, rfl⟩
  go_wp2
  go_ret
  exact ⟨rfl, rfl⟩
theorem crash_nil (kv : Value) (t n : Int) (w : World) :
    Calls Try.prog 31 #[.pointer none, kv, .int .i64 t, .int .i64 n] w fun e w' => e = .returned (.int .i64 6) ∧ w = w' := by
  have cM := Lib.hid (made_nil w)
  go_enter Try.func31, Try.ntmps31
  go_wp2_with fail
  refine cM.out.mono ?_
  rintro e W ⟨rfl, rfl⟩
  go_wp2
  go_ret
  exact ⟨rfl, rfl⟩
section
variable {w w' : World} {base d sb mb : Nat} {D D' : Dv}
set_option maxRecDepth 100000 in
theorem write_arg (h : DvAt w base d sb mb D) (i : Int) (bl : List UInt8) (A : Option Addr) (n c : Nat) (hn : n = bl.length) (hbad : i < 0 ∨ (D.sure.length : Int) ≤ i ∨ bl.length ≠ 64) :
    Calls Try.prog 38 #[.pointer (some ⟨d, 0, none⟩), .int .i64 i, .slice A n c] w fun e w' => e = .returned (.int .i64 1) ∧ w = w' := by
  obtain ⟨y0, y1, -⟩ := Ob.dev h.ob
  have cM := Lib.hid (made_calls d mb w y1)
  have CI := Lib.hid (is_calls h i)
  generalize hq : decide (0 ≤ i ∧ i < (D.sure.length : Int)) = q at *
  have hqq : q = false ∨ n ≠ 64 := by
    subst hn
    rcases hbad with h1 | h1 | h1
    · left; rw [← hq]; simp; omega
    · left; rw [← hq]; simp; omega
    · exact .inr h1
  clear h hq hbad y0 y1 hn
  go_enter Try.func38, Try.ntmps38
  go_wp2_with fail
  refine cM.out.mono ?_
  rintro e W ⟨rfl, rfl⟩
  go_wp2_with fail
  refine CI.out.mono ?_
  rintro e W ⟨rfl, rfl⟩
  cases q with
  | false =>
    go_wp2
    go_ret
    exact ⟨rfl, rfl⟩
  | true =>
    have hd : ((n : Int) != 64) = true := by
      rcases hqq with h | h
      · cases h
      · simp; omega
    clear hqq
    go_wp2
    go_ret
    exact ⟨rfl, rfl⟩
set_option maxRecDepth 100000 in
theorem write_off (h : DvAt w base d sb mb D) (ho : offD D = true) (i : Int) (A : Option Addr) (c : Nat) (hi0 : 0 ≤ i) (hi1 : i < D.sure.length) :
    Calls Try.prog 38 #[.pointer (some ⟨d, 0, none⟩), .int .i64 i, .slice A 64 c] w fun e w' => e = .returned (.int .i64 30) ∧ w = w' := by
  obtain ⟨y0, y1, -⟩ := Ob.dev h.ob
  have cM := Lib.hid (made_calls d mb w y1)
  have cI := is_calls h i
  have e1 : decide (0 ≤ i ∧ i < (D.sure.length : Int)) = true := by simp; omega
  rw [e1] at cI
  have CI := Lib.hid cI
  have CS := Lib.hid (spend_off h ho)
  clear cI e1 h ho y0 y1 hi0 hi1
  go_enter Try.func38, Try.ntmps38
  go_wp2_with fail
  refine cM.out.mono ?_
  rintro e W ⟨rfl, rfl⟩
  go_wp2_with fail
  refine CI.out.mono ?_
  rintro e W ⟨rfl, rfl⟩
  go_wp2_with fail
  refine CS.out.mono ?_
  rintro e W ⟨rfl, rfl⟩
  go_wp2
  go_ret
  exact ⟨rfl, rfl⟩
/-- Write, whatever comes -/
theorem write_calls (h : DvAt w base d sb mb D) (i : Int) (bl : List UInt8) (v : Value) (lo hi : Nat) (hI : BytesAt w lo hi v bl) (hhi : hi ≤ w.heap.size) (hd : d < lo) (hmlo : mb < lo) :
    Calls Try.prog 38 #[.pointer (some ⟨d, 0, none⟩), .int .i64 i, v] w fun e w' => e = .returned (.int .i64 (writeD D i bl).2) ∧ DvAt w' base d sb mb (writeD D i bl).1 ∧ Dev d sb mb w w' := by
  by_cases hbad : i < 0 ∨ (D.sure.length : Int) ≤ i ∨ bl.length ≠ 64
  · have e : writeD D i bl = (D, 1) := by unfold writeD; rw [if_pos hbad]
    obtain ⟨A, c, rfl, -⟩ := hI.form
    rw [e]
    refine (write_arg h i bl A _ c rfl hbad).mono ?_
    rintro e W ⟨rfl, rfl⟩
    exact ⟨rfl, h, Kept.refl _ _⟩
  · cases ho : offD D with
    | true =>
      have e : writeD D i bl = (D, 30) := by unfold writeD; rw [if_neg hbad, ho]; rfl
      obtain ⟨A, c, rfl, -⟩ := hI.form
      rw [e, show bl.length = 64 by omega]
      refine (write_off h ho i A c (by omega) (by omega)).mono ?_
      rintro e W ⟨rfl, rfl⟩
      exact ⟨rfl, h, Kept.refl _ _⟩
    | false =>
      have e : writeD D i bl = ({ spendD D with dm := bPut D.dm i bl, wr := wrap64 (D.wr + 1) }, 0) := by unfold writeD; rw [if_neg hbad, ho]; rfl
      rw [e]
      exact write_good h ho i bl v lo hi hI hhi hd hmlo (by omega) (by omega) (by omega)
end
end Se
end Go.Proofs.Yteiniahikhiadaa
