/-
  sector: Crash, whatever comes.
-/
import Derived.Test.YteiniahikhiadaaSeO
namespace Go.Proofs.Yteiniahikhiadaa
open Go.RowKit Go.Maps
namespace Se
open Ce Life

section
variable {w w' : World} {base d sb mb : Nat} {D D' : Dv}
set_option maxRecDepth 100000 in
theorem crash_arg (h : DvAt w base d sb mb D) (kv : Value) (torn n : Int) (hn : n < 0 ∨ 64 < n) :
    Calls Try.prog 31 #[.pointer (some ⟨d, 0, none⟩), kv, .int .i64 torn, .int .i64 n] w fun e w' => e = .returned (.int .i64 1) ∧ w = w' := by
  obtain ⟨x0, x1, -⟩ := Ob.dev h.ob
  have cM := Lib.hid (made_calls d mb w x1)
  clear h x0 x1
  go_enter Try.func31, Try.ntmps31
  go_wp2_with fail
  refine cM.out.mono ?_
  rintro e W ⟨rfl, rfl⟩
  rcases Int.lt_or_le n 0 with h1 | h1
  · have hd : decide (n < 0) = true := by simpa using h1
    clear hn
    go_wp2
    go_ret
    exact ⟨rfl, rfl⟩
  · have hd : decide (n < 0) = false := by simpa using h1
    have hd2 : decide (n > 64) = true := by simp; omega
    clear hn
    go_wp2
    go_ret
    exact ⟨rfl, rfl⟩
theorem crash_calls (h : DvAt w base d sb mb D) (keep : List Int) (kv : Value) (lo B : Nat) (hK : IntsAt w lo B kv keep) (hF : ∀ i, lo ≤ i → i < B → i < w.heap.size ∧ i ≠ d ∧ i ≠ sb ∧ i ≠ mb) (torn n : Int) :
    Calls Try.prog 31 #[.pointer (some ⟨d, 0, none⟩), kv, .int .i64 torn, .int .i64 n] w fun e w' => e = .returned (.int .i64 (crashD D keep torn n).2) ∧ DvAt w' base d sb mb (crashD D keep torn n).1 ∧ Dev d sb mb w w' := by
  by_cases hn : n < 0 ∨ 64 < n
  · have e : crashD D keep torn n = (D, 1) := by unfold crashD; rw [if_pos hn]
    rw [e]
    refine (crash_arg h kv torn n hn).mono ?_
    rintro e W ⟨rfl, rfl⟩
    exact ⟨rfl, h, Kept.refl _ _⟩
  · obtain ⟨k, rfl⟩ := Int.eq_ofNat_of_zero_le (show 0 ≤ n by omega)
    have e : (crashD D keep torn k).2 = 0 := by unfold crashD; rw [if_neg hn]
    rw [e]
    exact crash_good h keep kv lo B hK hF torn k (by omega)
end
end Se
end Go.Proofs.Yteiniahikhiadaa
