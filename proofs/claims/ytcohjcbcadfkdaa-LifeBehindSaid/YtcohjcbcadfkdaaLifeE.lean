/-
  life: the walks of lives and of four laws.
-/
import Derived.Test.YtcohjcbcadfkdaaLifeD
namespace Go.Proofs.Ytcohjcbcadfkdaa
open Go.RowKit Go.Maps
namespace Life

theorem behind2_len (w : World) : Calls Try.prog 12 #[.int .i64 2] w fun e w' => (∃ A c, e = .returned (.slice A 2 c)) ∧ Below w.heap.size w w' :=
  (behind_calls 2 w).mono fun e w' ⟨⟨v, he, hv⟩, hb⟩ => by
    obtain ⟨A, c, hc, _⟩ := (IntsAt.of_own hv).form
    exact ⟨⟨A, c, by rw [he, hc]; rfl⟩, hb⟩
set_option maxHeartbeats 1000000 in
theorem lives_calls (w : World) :
    Calls Try.prog 10 #[] w fun e w' => e = .returned (.bool true) ∧ Below w.heap.size w w' := by
  have c1 := fun W => (named_calls ⟨#[104, 101, 108, 100]⟩ W)
  rw [show namedN ⟨#[104, 101, 108, 100]⟩ = 2 by decide +kernel] at c1
  have c2 := fun W => (code_calls 1 3 W)
  have c3 := fun W => (name_calls 6 W)
  rw [show nameOf 6 = ⟨#[103, 111, 110, 101]⟩ by decide] at c3
  have c4 := fun W => (may_calls 2 7 W)
  rw [show inL 7 (behind 2) = true by decide] at c4
  have c5 := fun W => (may_calls 8 6 W)
  rw [show inL 6 (behind 8) = false by decide] at c5
  have c6 := fun W => (reach_calls 1 10 W (by omega) (by omega))
  rw [reach_same, show inL 10 (roundTo (behind 1) 12) = true by decide +kernel] at c6
  have c7 := fun W => (quiet_calls 2 W)
  rw [show quiet 2 = true by decide] at c7
  have C1 := Lib.hid c1
  have C2 := Lib.hid c2
  have C3 := Lib.hid c3
  have C4 := Lib.hid c4
  have C5 := Lib.hid c5
  have C6 := Lib.hid c6
  have C7 := Lib.hid c7
  clear c1 c2 c3 c4 c5 c6 c7
  go_enter Try.func10, Try.ntmps10
  go_wp2_with fail
  refine (C1.out _).mono ?_
  rintro e w1 ⟨rfl, h1⟩
  go_wp2_with fail
  refine (C2.out _).mono ?_
  rintro e w2 ⟨rfl, rfl⟩
  go_wp2_with fail
  refine (C3.out _).mono ?_
  rintro e w3 ⟨rfl, h3⟩
  go_wp2_with fail
  refine (C4.out _).mono ?_
  rintro e w4 ⟨rfl, h4⟩
  go_wp2_with fail
  refine (C5.out _).mono ?_
  rintro e w5 ⟨rfl, h5⟩
  go_wp2_with fail
  refine (C6.out _).mono ?_
  rintro e w6 ⟨rfl, h6⟩
  go_wp2_with fail
  refine (C7.out _).mono ?_
  rintro e w7 ⟨rfl, rfl⟩
  go_wp2_with fail
  refine (behind2_len _).mono ?_
  rintro e w8 ⟨⟨A, c, rfl⟩, h8⟩
  go_wp2
  go_ret
  have s1 := h1.size
  have s3 := h3.size
  have s4 := h4.size
  have s5 := h5.size
  have s6 := h6.size
  exact ⟨rfl, h1.trans ((h3.mono (by omega)).trans ((h4.mono (by omega)).trans ((h5.mono (by omega)).trans ((h6.mono (by omega)).trans (h8.mono (by omega))))))⟩
end Life
end Go.Proofs.Ytcohjcbcadfkdaa
