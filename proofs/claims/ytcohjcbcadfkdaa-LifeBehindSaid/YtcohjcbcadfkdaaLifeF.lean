/-
  life: the walks of the laws LifeNames and LifeCodes.
-/
import Derived.Test.YtcohjcbcadfkdaaLifeE
namespace Go.Proofs.Ytcohjcbcadfkdaa
open Go.RowKit Go.Maps
namespace Life

theorem code_is {k s E : Int} {B : Bool} (w : World) (h1 : codeE k s = E) (h2 : codeB k s = B) :
    Calls Try.prog 20 #[.int .i64 k, .int .i64 s] w fun e w' => e = .returned (.tuple #[.int .i64 E, .bool B]) ∧ w = w' := by
  rw [← h1, ← h2]; exact code_calls k s w

theorem ne {a b : Int} (h : a ≠ b) : (a == b) = false := beq_eq_false_iff_ne.2 h

set_option maxHeartbeats 2000000 in
theorem codes_law (k s : Int) (w : World) :
    Calls Try.prog 6 #[.int .i64 k, .int .i64 s] w fun e w' => e = .returned (.bool true) ∧ Below w.heap.size w w' := by
  have key : ∀ (E : Int) (B : Bool), codeE k s = E → codeB k s = B → Hid (∀ W, Calls Try.prog 20 #[.int .i64 k, .int .i64 s] W fun e w' => e = .returned (.tuple #[.int .i64 E, .bool B]) ∧ W = w') :=
    fun E B h1 h2 => Lib.hid (fun W => code_is W h1 h2)
  by_cases k1 : k = 1
  · subst k1
    by_cases s2 : s = 2
    · subst s2
      have C := key 0 true rfl rfl
      clear key
      go_enter Try.func6, Try.ntmps6
      go_wp2_with (first | (go_at_call 20; refine (C.out _).mono ?_; rintro e w1 ⟨rfl, rfl⟩) | (go_at_call 10; refine (lives_calls _).mono ?_; rintro e w1 ⟨rfl, hb⟩))
      go_ret
      exact ⟨rfl, hb⟩
    · by_cases s3 : s = 3
      · subst s3
        have C := key 200 true rfl rfl
        clear key s2
        go_enter Try.func6, Try.ntmps6
        go_wp2_with (first | (go_at_call 20; refine (C.out _).mono ?_; rintro e w1 ⟨rfl, rfl⟩) | (go_at_call 10; refine (lives_calls _).mono ?_; rintro e w1 ⟨rfl, hb⟩))
        go_ret
        exact ⟨rfl, hb⟩
      · by_cases s5 : s = 5
        · subst s5
          have C := key 51 true rfl rfl
          clear key s2 s3
          go_enter Try.func6, Try.ntmps6
          go_wp2_with (first | (go_at_call 20; refine (C.out _).mono ?_; rintro e w1 ⟨rfl, rfl⟩) | (go_at_call 10; refine (lives_calls _).mono ?_; rintro e w1 ⟨rfl, hb⟩))
          go_ret
          exact ⟨rfl, hb⟩
        · by_cases s6 : s = 6
          · subst s6
            have C := key 4 true rfl rfl
            clear key s2 s3 s5
            go_enter Try.func6, Try.ntmps6
            go_wp2_with (first | (go_at_call 20; refine (C.out _).mono ?_; rintro e w1 ⟨rfl, rfl⟩) | (go_at_call 10; refine (lives_calls _).mono ?_; rintro e w1 ⟨rfl, hb⟩))
            go_ret
            exact ⟨rfl, hb⟩
          · have C := key 0 false (by simp [codeE, s3, s5, s6]) (by simp [codeB, s2, s3, s5, s6])
            clear key
            have q2 := ne s2
            have q3 := ne s3
            have q5 := ne s5
            have q6 := ne s6
            go_enter Try.func6, Try.ntmps6
            go_wp2_with (first | (go_at_call 20; refine (C.out _).mono ?_; rintro e w1 ⟨rfl, rfl⟩) | (go_at_call 10; refine (lives_calls _).mono ?_; rintro e w1 ⟨rfl, hb⟩))
            go_ret
            exact ⟨rfl, hb⟩
  · by_cases k2 : k = 2
    · subst k2
      clear k1
      by_cases s0 : s = 6
      · subst s0
        have C := key 0 true rfl rfl
        clear key
        go_enter Try.func6, Try.ntmps6
        go_wp2_with (first | (go_at_call 20; refine (C.out _).mono ?_; rintro e w1 ⟨rfl, rfl⟩) | (go_at_call 10; refine (lives_calls _).mono ?_; rintro e w1 ⟨rfl, hb⟩))
        go_ret
        exact ⟨rfl, hb⟩
      · have C := key 0 false (by simp [codeE]) (by simp [codeB, s0])
        clear key
        have q := ne s0
        go_enter Try.func6, Try.ntmps6
        go_wp2_with (first | (go_at_call 20; refine (C.out _).mono ?_; rintro e w1 ⟨rfl, rfl⟩) | (go_at_call 10; refine (lives_calls _).mono ?_; rintro e w1 ⟨rfl, hb⟩))
        go_ret
        exact ⟨rfl, hb⟩
    · by_cases k3 : k = 3
      · subst k3
        clear k1 k2
        by_cases s0 : s = 8
        · subst s0
          have C := key 0 true rfl rfl
          clear key
          go_enter Try.func6, Try.ntmps6
          go_wp2_with (first | (go_at_call 20; refine (C.out _).mono ?_; rintro e w1 ⟨rfl, rfl⟩) | (go_at_call 10; refine (lives_calls _).mono ?_; rintro e w1 ⟨rfl, hb⟩))
          go_ret
          exact ⟨rfl, hb⟩
        · have C := key 0 false (by simp [codeE]) (by simp [codeB, s0])
          clear key
          have q := ne s0
          go_enter Try.func6, Try.ntmps6
          go_wp2_with (first | (go_at_call 20; refine (C.out _).mono ?_; rintro e w1 ⟨rfl, rfl⟩) | (go_at_call 10; refine (lives_calls _).mono ?_; rintro e w1 ⟨rfl, hb⟩))
          go_ret
          exact ⟨rfl, hb⟩
      · by_cases k4 : k = 4
        · subst k4
          clear k1 k2 k3
          by_cases s0 : s = 10
          · subst s0
            have C := key 0 true rfl rfl
            clear key
            go_enter Try.func6, Try.ntmps6
            go_wp2_with (first | (go_at_call 20; refine (C.out _).mono ?_; rintro e w1 ⟨rfl, rfl⟩) | (go_at_call 10; refine (lives_calls _).mono ?_; rintro e w1 ⟨rfl, hb⟩))
            go_ret
            exact ⟨rfl, hb⟩
          · have C := key 0 false (by simp [codeE]) (by simp [codeB, s0])
            clear key
            have q := ne s0
            go_enter Try.func6, Try.ntmps6
            go_wp2_with (first | (go_at_call 20; refine (C.out _).mono ?_; rintro e w1 ⟨rfl, rfl⟩) | (go_at_call 10; refine (lives_calls _).mono ?_; rintro e w1 ⟨rfl, hb⟩))
            go_ret
            exact ⟨rfl, hb⟩
        · have C := key 0 false (by simp [codeE, k1]) (by simp [codeB, k1, k2, k3, k4])
          clear key
          have q1 := ne k1
          have q2 := ne k2
          have q3 := ne k3
          have q4 := ne k4
          go_enter Try.func6, Try.ntmps6
          go_wp2_with (first | (go_at_call 20; refine (C.out _).mono ?_; rintro e w1 ⟨rfl, rfl⟩) | (go_at_call 10; refine (lives_calls _).mono ?_; rintro e w1 ⟨rfl, hb⟩))
          go_ret
          exact ⟨rfl, hb⟩

/-- the last state of a name, up to k -/
def wantTo (t : List UInt8) : Nat → Int
  | 0 => 0
  | k + 1 => if (nameOf ((k : Int) + 1)).toList == t then (k : Int) + 1 else wantTo t k
def namedL (t : List UInt8) : Nat → Nat → Int
  | 0, _ => 0
  | m + 1, k => if (nameOf k).toList == t then k else namedL t m (k + 1)
theorem named_list (s : ByteArray) (m k : Nat) : namedFrom s m k = namedL s.toList m k := by
  induction m generalizing k with
  | zero => rfl
  | succ m ih => simp only [namedFrom, namedL, ih]
theorem want_none {t : List UInt8} (h : ∀ i : Nat, 1 ≤ i → i ≤ 10 → (nameOf i).toList ≠ t) (k : Nat) (hk : k ≤ 10) : wantTo t k = 0 := by
  induction k with
  | zero => rfl
  | succ k ih =>
    unfold wantTo
    have := h (k + 1) (by omega) hk
    rw [if_neg (by simpa using this)]
    exact ih (by omega)
theorem named_none {t : List UInt8} (h : ∀ i : Nat, 1 ≤ i → i ≤ 10 → (nameOf i).toList ≠ t) (m k : Nat) (hk : 1 ≤ k) (hm : k + m ≤ 11) : namedL t m k = 0 := by
  induction m generalizing k with
  | zero => rfl
  | succ m ih =>
    unfold namedL
    have := h k hk (by omega)
    rw [if_neg (by simpa using this)]
    exact ih (k + 1) (by omega) (by omega)
theorem want_named (t : List UInt8) : wantTo t 10 = namedL t 10 1 := by
  by_cases h : ∃ i : Nat, 1 ≤ i ∧ i ≤ 10 ∧ (nameOf i).toList = t
  · obtain ⟨i, h1, h2, rfl⟩ := h
    have : i = 1 ∨ i = 2 ∨ i = 3 ∨ i = 4 ∨ i = 5 ∨ i = 6 ∨ i = 7 ∨ i = 8 ∨ i = 9 ∨ i = 10 := by omega
    rcases this with h | h | h | h | h | h | h | h | h | h <;> subst h <;> decide +kernel
  · have h' : ∀ i : Nat, 1 ≤ i → i ≤ 10 → (nameOf i).toList ≠ t := fun i h1 h2 e => h ⟨i, h1, h2, e⟩
    rw [want_none h' 10 (by omega), named_none h' 10 1 (by omega) (by omega)]
theorem wantTo_eq (s : ByteArray) : wantTo s.toList 10 = namedN s := by
  unfold namedN; rw [named_list]; exact want_named _
theorem wantTo_pos (t : List UInt8) (k : Nat) : 0 ≤ wantTo t k := by
  induction k with
  | zero => simp [wantTo]
  | succ k ih => unfold wantTo; split <;> omega

set_option maxHeartbeats 1000000 in
theorem names_law (n : Int) (s : ByteArray) (w : World) :
    Calls Try.prog 3 #[.int .i64 n, .string s] w fun e w' => e = .returned (.bool true) ∧ Below w.heap.size w w' := by
  go_enter Try.func3, Try.ntmps3
  go_wp2
  go_loopw [5, 6, 7] (fun want is i wr => ∃ k : Nat, k ≤ 10 ∧ i = .int .i64 (k + 1 : Nat) ∧ want = .int .i64 (wantTo s.toList k) ∧ is = .bool (decide (1 ≤ wantTo s.toList k)) ∧ Below w.heap.size w wr) (fun _ _ i _ => 11 - (intOf i).toNat)
  case atStart => exact ⟨0, by omega, rfl, rfl, rfl, Below.refl _ _⟩
  case round =>
    obtain ⟨k, hk, rfl, rfl, rfl, hb⟩ := hrel
    have HW := Lib.hid (show ∀ t, wantTo t (k + 1) = if (nameOf ((k : Int) + 1)).toList == t then (k : Int) + 1 else wantTo t k from fun _ => rfl)
    by_cases hlt : k < 10
    · go_wp2_with (go_at_call 8; refine (refname_calls _ _).mono ?_; rintro e w1 ⟨rfl, hb1⟩)
      · have ht : ((nameOf ((k : Int) + 1)).toList == s.toList) = true := by assumption
        have e : wantTo s.toList (k + 1) = (k : Int) + 1 := by rw [HW.out, if_pos ht]
        go_roundw
        case rel => exact ⟨k + 1, by omega, by go_num, num e.symm, boo (by rw [e]; simp; omega), hb.trans (hb1.mono hb.size)⟩
        case measure => simp [intOf]; omega
      · have ht : ((nameOf ((k : Int) + 1)).toList == s.toList) = false := by assumption
        have e : wantTo s.toList (k + 1) = wantTo s.toList k := by rw [HW.out, if_neg (by simp [ht])]
        go_roundw
        case rel => exact ⟨k + 1, by omega, by go_num, num e.symm, boo (by rw [e]), hb.trans (hb1.mono hb.size)⟩
        case measure => simp [intOf]; omega
    · obtain rfl : k = 10 := by omega
      rw [wantTo_eq]
      clear HW
      have c1 := Lib.hid (fun W => named_calls s W)
      have c2 := Lib.hid (fun W => name_calls n W)
      have c3 := Lib.hid (fun W => refname_calls n W)
      generalize namedN s = q at *
      generalize nameOf n = nm at *
      go_wp2_with fail
      refine (c1.out _).mono ?_
      rintro e w1 ⟨rfl, h1⟩
      go_wp2_with fail
      refine (lives_calls _).mono ?_
      rintro e w2 ⟨rfl, h2⟩
      go_wp2_with fail
      refine (c2.out _).mono ?_
      rintro e w3 ⟨rfl, h3⟩
      go_wp2_with fail
      refine (c3.out _).mono ?_
      rintro e w4 ⟨rfl, h4⟩
      go_wp2
      go_ret
      have s0 := hb.size
      have s1 := h1.size
      have s2 := h2.size
      have s3 := h3.size
      exact ⟨rfl, hb.trans ((h1.mono (by omega)).trans ((h2.mono (by omega)).trans ((h3.mono (by omega)).trans (h4.mono (by omega)))))⟩
end Life
end Go.Proofs.Ytcohjcbcadfkdaa
