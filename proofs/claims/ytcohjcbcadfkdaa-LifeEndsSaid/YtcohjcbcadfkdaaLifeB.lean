/-
  life: the walks of Named, Index, Contains, In, Behind.
-/
import Derived.Test.YtcohjcbcadfkdaaLifeA
import Derived.Test.YtcohjcbcadfkdaaWords
namespace Go.Proofs.Ytcohjcbcadfkdaa
open Go.RowKit
namespace Life

/-- the first state of a name from k on, with m to look at -/
def namedFrom (s : ByteArray) : Nat → Nat → Int
  | 0, _ => 0
  | m + 1, k => if (nameOf k).toList == s.toList then k else namedFrom s m (k + 1)
def namedN (s : ByteArray) : Int := namedFrom s 10 1


set_option maxHeartbeats 400000 in
theorem named_calls (s : ByteArray) (w : World) :
    Calls Try.prog 9 #[.string s] w fun e w' => e = .returned (.tuple #[.int .i64 (namedN s), .bool (decide (1 ≤ namedN s))]) ∧ Below w.heap.size w w' := by
  go_enter Try.func9, Try.ntmps9
  go_wp2
  go_loopw [4] (fun i wr => ∃ k : Nat, 1 ≤ k ∧ k ≤ 11 ∧ i = .int .i64 k ∧ namedN s = namedFrom s (11 - k) k ∧ Below w.heap.size w wr) (fun i _ => 11 - (intOf i).toNat)
  case atStart => exact ⟨1, by omega, by omega, rfl, rfl, Below.refl _ _⟩
  case round =>
    obtain ⟨k, hk1, hk, rfl, hN, hb⟩ := hrel
    have HN := Lib.hid hN
    clear hN
    by_cases hlt : k ≤ 10
    · go_wp2_with (go_at_call 11; refine (name_calls _ _).mono ?_; rintro e w1 ⟨rfl, hb1⟩)
      · have ht : ((nameOf ↑k).toList == s.toList) = true := by assumption
        have e : namedN s = k := by rw [HN.out, show 11 - k = (10 - k) + 1 by omega]; simp only [namedFrom, ht, if_true]
        go_ret2
        exact ⟨ret2 (num e.symm) (by rw [e]; simp; omega), hb.trans (hb1.mono hb.size)⟩
      · have ht : ((nameOf ↑k).toList == s.toList) = false := by assumption
        have e : namedN s = namedFrom s (11 - (k + 1)) (k + 1) := by rw [HN.out, show 11 - k = (10 - k) + 1 by omega]; simp [namedFrom, ht]
        go_roundw
        case rel => exact ⟨k + 1, by omega, by omega, by go_num, e, hb.trans (hb1.mono hb.size)⟩
        case measure => simp [intOf]; omega
    · go_wp2_with fail
      have e : namedN s = 0 := by rw [HN.out, show 11 - k = 0 by omega]; rfl
      go_ret2
      exact ⟨ret2 (num e.symm) (by rw [e]; simp), hb⟩

/-- the place of x in l -/
def idxOf (x : Int) (l : List Int) : Int := match l.findIdx? (x == ·) with | some i => i | none => -1

theorem idxOf_none {x : Int} {l : List Int} (h : ∀ j, j < l.length → (x == l.getD j 0) = false) : idxOf x l = -1 := by
  unfold idxOf
  rw [List.findIdx?_eq_none_iff.2]
  intro y hy
  obtain ⟨i, hi, rfl⟩ := List.getElem_of_mem hy
  have := h i hi
  simpa [hi] using this
theorem idxOf_some {x : Int} {l : List Int} {k : Nat} (hk : k < l.length) (h : ∀ j, j < k → (x == l.getD j 0) = false) (he : (x == l.getD k 0) = true) : idxOf x l = k := by
  unfold idxOf
  have e : l.findIdx? (x == ·) = some k := List.findIdx?_eq_some_iff_getElem.2 ⟨hk, by simpa [hk] using he, fun j hj => by have := h j hj; simpa [show j < l.length by omega] using this⟩
  rw [e]

set_option maxHeartbeats 400000 in
theorem index_calls (l : List Int) (x : Int) (v : Value) (lo B : Nat) (w : World) (hv : IntsAt w lo B v l) :
    Calls Try.prog 33 #[v, .int .i64 x] w fun e w' => e = .returned (.int .i64 (idxOf x l)) ∧ w = w' := by
  obtain ⟨A, c, rfl, hc1, hc2, hc⟩ := hv.form
  unfold maxLen at hc2
  go_enter Try.func33, Try.ntmps33
  go_wp2
  go_loop [5, 8] (fun _ i => ∃ k : Nat, k ≤ l.length ∧ i = .int .i64 k ∧ (∀ j, j < k → (x == l.getD j 0) = false)) (fun _ i => l.length - (intOf i).toNat)
  case atStart => exact ⟨0, by omega, rfl, fun j hj => by omega⟩
  case round =>
    obtain ⟨k, hk, rfl, hN⟩ := hrel
    have HN := Lib.hid hN
    clear hN
    by_cases hlt : k < l.length
    · obtain ⟨b, o, rfl, _, hb, hcell⟩ := hc (by omega)
      have hck := hcell k hlt
      clear hcell hc
      generalize hy : l.getD k 0 = y at hck
      have HY := Lib.hid hy
      clear hy
      go_wp2
      · have ht : (x == y) = true := by assumption
        go_ret
        exact ⟨ret1 (num (idxOf_some hlt HN.out (by rw [HY.out]; exact ht)).symm), rfl⟩
      · have ht : (x == y) = false := by assumption
        go_round
        case rel => exact ⟨k + 1, by omega, by go_num, snoc_all HN.out (by rw [HY.out]; exact ht)⟩
        case measure => simp [intOf]; omega
    · clear hc
      obtain rfl : k = l.length := by omega
      go_wp2
      go_ret
      exact ⟨ret1 (num (idxOf_none HN.out).symm), rfl⟩

def inL (x : Int) (l : List Int) : Bool := decide (0 ≤ idxOf x l)
theorem inL_yes {x : Int} {l : List Int} {k : Nat} (h : idxOf x l = k) : inL x l = true := by unfold inL; rw [h]; exact decide_eq_true (by omega)
theorem inL_no {x : Int} {l : List Int} (h : idxOf x l = -1) : inL x l = false := by unfold inL; rw [h]; rfl
theorem inL_iff (x : Int) (l : List Int) : inL x l = decide (x ∈ l) := by
  unfold inL
  rw [Bool.eq_iff_iff, decide_eq_true_eq, decide_eq_true_eq]
  unfold idxOf
  cases h : l.findIdx? (x == ·) with
  | none =>
    rw [List.findIdx?_eq_none_iff] at h
    constructor
    · intro h0; simp at h0
    · intro hx; have := h x hx; simp at this
  | some i =>
    obtain ⟨hi, h1, _⟩ := List.findIdx?_eq_some_iff_getElem.1 h
    constructor
    · intro _
      have e : x = l[i] := by simpa using h1
      rw [e]; exact List.getElem_mem hi
    · intro _; simp

set_option maxHeartbeats 400000 in
theorem contains_calls (l : List Int) (x : Int) (v : Value) (lo B : Nat) (w : World) (hv : IntsAt w lo B v l) :
    Calls Try.prog 23 #[v, .int .i64 x] w fun e w' => e = .returned (.bool (inL x l)) ∧ w = w' := by
  go_enter Try.func23, Try.ntmps23
  go_wp2_with (go_at_call 33; refine (index_calls l x _ lo B _ hv).mono ?_; rintro e w1 ⟨rfl, rfl⟩)
  go_ret
  exact ⟨rfl, rfl⟩

set_option maxHeartbeats 400000 in
theorem in_calls (l : List Int) (x : Int) (v : Value) (lo B : Nat) (w : World) (hv : IntsAt w lo B v l) :
    Calls Try.prog 15 #[v, .int .i64 x] w fun e w' => e = .returned (.bool (inL x l)) ∧ w = w' := by
  obtain ⟨A, c, rfl, hc1, hc2, hc⟩ := hv.form
  unfold maxLen at hc2
  go_enter Try.func15, Try.ntmps15
  go_wp2
  go_loop [5] (fun i => ∃ k : Nat, k ≤ l.length ∧ i = .int .i64 k ∧ (∀ j, j < k → (x == l.getD j 0) = false)) (fun i => l.length - (intOf i).toNat)
  case atStart => exact ⟨0, by omega, rfl, fun j hj => by omega⟩
  case round =>
    obtain ⟨k, hk, rfl, hN⟩ := hrel
    have HN := Lib.hid hN
    clear hN
    by_cases hlt : k < l.length
    · obtain ⟨b, o, rfl, _, hb, hcell⟩ := hc (by omega)
      have hck := hcell k hlt
      clear hcell hc
      generalize hy : l.getD k 0 = y at hck
      have HY := Lib.hid hy
      clear hy
      go_wp2
      · have ht : (y == x) = true := by assumption
        go_ret
        have := idxOf_some hlt HN.out (by rw [HY.out, BEq.comm]; exact ht)
        exact ⟨ret1 (congrArg Value.bool (inL_yes this).symm), rfl⟩
      · have ht : (y == x) = false := by assumption
        go_round
        case rel => exact ⟨k + 1, by omega, by go_num, snoc_all HN.out (by rw [HY.out, BEq.comm]; exact ht)⟩
        case measure => simp [intOf]; omega
    · clear hc
      obtain rfl : k = l.length := by omega
      go_wp2
      go_ret
      exact ⟨ret1 (congrArg Value.bool (inL_no (idxOf_none HN.out)).symm), rfl⟩

theorem nine {n : Int} : n = 1 ∨ n = 2 ∨ n = 3 ∨ n = 4 ∨ n = 7 ∨ n = 8 ∨ n = 9 ∨ (n ≠ 1 ∧ n ≠ 2 ∧ n ≠ 3 ∧ n ≠ 4 ∧ n ≠ 7 ∧ n ≠ 8 ∧ n ≠ 9) := by omega
theorem behind_out {n : Int} (h : n ≠ 1 ∧ n ≠ 2 ∧ n ≠ 3 ∧ n ≠ 4 ∧ n ≠ 7 ∧ n ≠ 8 ∧ n ≠ 9) : behind n = [] := by
  obtain ⟨h1, h2, h3, h4, h7, h8, h9⟩ := h
  simp [behind, h1, h2, h3, h4, h7, h8, h9]

set_option maxHeartbeats 1000000 in
theorem behind_calls (n : Int) (w : World) :
    Calls Try.prog 12 #[.int .i64 n] w fun e w' => (∃ v, e = .returned v ∧ w'.ownsRow w.heap.size 3 1 v (behind n).length (ints (behind n))) ∧ Below w.heap.size w w' := by
  rcases @nine n with h | h | h | h | h | h | h | h
  all_goals try subst h
  · go_enter Try.func12, Try.ntmps12
    go_wp2
    go_ret
    have hcap : ∀ x, 6 ≤ (Question.appendCap 6 2 3).cut x ∧ (Question.appendCap 6 2 3).cut x ≤ maxLen := fun x => by simp only [Question.cut]; unfold maxLen; omega
    exact ⟨⟨_, rfl, ownsRow_cells (heap_three w _ _ _) (by omega) rfl (hcap _).1 (hcap _).2 (by simp [size_zeroCells]; have := (hcap (w.tape w.drawn (Question.appendCap 6 2 3))).1; omega) (by show List.take 6 _ = ints [1, 2, 3, 4, 5, 6]; simp [ints])⟩,
      ((((Below.refl _ w).alloc (Nat.le_refl _) _).alloc (by simp) _).alloc (by simp; omega) _).drew⟩
  all_goals
    go_enter Try.func12, Try.ntmps12
    go_wp2
    go_ret
    first
      | exact ⟨⟨_, rfl, ownsRow_cells (heap_two w _ _) (by omega) rfl (by decide) (by unfold maxLen; omega) rfl rfl⟩, ((Below.refl _ w).alloc (Nat.le_refl _) _).alloc (by simp) _⟩
      | exact ⟨⟨_, rfl, ownsRow_cells (heap_one w _) (by omega) rfl (by decide) (by unfold maxLen; omega) rfl rfl⟩, (Below.refl _ w).alloc (Nat.le_refl _) _⟩
      | exact ⟨⟨_, rfl, by rw [behind_out h]; exact World.ownsRow_nil _ _ _ _⟩, (Below.refl _ w).alloc (Nat.le_refl _) _⟩

set_option maxHeartbeats 1000000 in
theorem refbehind_calls (n : Int) (w : World) :
    Calls Try.prog 13 #[.int .i64 n] w fun e w' => (∃ v, e = .returned v ∧ w'.ownsRow w.heap.size 3 1 v (behind n).length (ints (behind n))) ∧ Below w.heap.size w w' := by
  rcases @nine n with h | h | h | h | h | h | h | h
  all_goals try subst h
  all_goals
    go_enter Try.func13, Try.ntmps13
    go_wp2
    go_ret
    first
      | exact ⟨⟨_, rfl, ownsRow_cells (heap_one w _) (by omega) rfl (by decide) (by unfold maxLen; omega) rfl rfl⟩, (Below.refl _ w).alloc (Nat.le_refl _) _⟩
      | exact ⟨⟨_, rfl, by rw [behind_out h]; exact World.ownsRow_nil _ _ _ _⟩, Below.refl _ _⟩

set_option maxHeartbeats 400000 in
theorem may_calls (a b : Int) (w : World) :
    Calls Try.prog 14 #[.int .i64 a, .int .i64 b] w fun e w' => e = .returned (.bool (inL b (behind a))) ∧ Below w.heap.size w w' := by
  go_enter Try.func14, Try.ntmps14
  go_wp2_with (first
    | (go_at_call 12; refine (behind_calls a _).mono ?_; rintro e w1 ⟨⟨v, rfl, hv⟩, hb⟩)
    | (go_at_call 23; refine (contains_calls _ b _ _ _ _ (IntsAt.of_own hv)).mono ?_; rintro e w2 ⟨rfl, rfl⟩))
  go_ret
  exact ⟨rfl, hb⟩

def over (n : Int) : Bool := decide (n = 5) || decide (n = 6) || decide (n = 10)
theorem three {n : Int} : n = 5 ∨ n = 6 ∨ n = 10 ∨ (n ≠ 5 ∧ n ≠ 6 ∧ n ≠ 10) := by omega
theorem over_no {n : Int} (h : n ≠ 5 ∧ n ≠ 6 ∧ n ≠ 10) : over n = false := by
  obtain ⟨h1, h2, h3⟩ := h
  simp [over, h1, h2, h3]

set_option maxHeartbeats 400000 in
theorem over_calls (n : Int) (w : World) :
    Calls Try.prog 19 #[.int .i64 n] w fun e w' => e = .returned (.bool (over n)) ∧ w = w' := by
  rcases @three n with h | h | h | h
  all_goals try subst h
  all_goals
    go_enter Try.func19, Try.ntmps19
    go_wp2
    go_ret
    first
      | exact ⟨rfl, rfl⟩
      | exact ⟨ret1 (congrArg Value.bool (over_no h).symm), rfl⟩

def quiet (n : Int) : Bool := over n || decide (n = 2) || decide (n = 3) || decide (n = 8)
theorem quiet_no {n : Int} (h : n ≠ 5 ∧ n ≠ 6 ∧ n ≠ 10 ∧ n ≠ 2 ∧ n ≠ 3 ∧ n ≠ 8) : quiet n = false := by
  obtain ⟨h1, h2, h3, h4, h5, h6⟩ := h
  simp [quiet, over, h1, h2, h3, h4, h5, h6]
theorem six {n : Int} : n = 5 ∨ n = 6 ∨ n = 10 ∨ n = 2 ∨ n = 3 ∨ n = 8 ∨ (n ≠ 5 ∧ n ≠ 6 ∧ n ≠ 10 ∧ n ≠ 2 ∧ n ≠ 3 ∧ n ≠ 8) := by omega
set_option maxHeartbeats 400000 in
theorem quiet_calls (n : Int) (w : World) :
    Calls Try.prog 18 #[.int .i64 n] w fun e w' => e = .returned (.bool (quiet n)) ∧ w = w' := by
  rcases @six n with h | h | h | h | h | h | h
  all_goals try subst h
  all_goals
    go_enter Try.func18, Try.ntmps18
    go_wp2
    go_ret
    first
      | exact ⟨rfl, rfl⟩
      | (rw [quiet_no h]; exact ⟨rfl, rfl⟩)
end Life
end Go.Proofs.Ytcohjcbcadfkdaa
