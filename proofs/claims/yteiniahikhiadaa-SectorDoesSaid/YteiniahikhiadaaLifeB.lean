/-
  life: the walks of Named, Index, Contains, In, Behind.
-/
import Derived.Test.YteiniahikhiadaaLifeA
import Derived.Test.YteiniahikhiadaaWords
namespace Go.Proofs.Yteiniahikhiadaa
open Go.RowKit
namespace Life

/-- the first state of a name from k on, with m to look at -/
def namedFrom (s : ByteArray) : Nat → Nat → Int
  | 0, _ => 0
  | m + 1, k => if (nameOf k).toList == s.toList then k else namedFrom s m (k + 1)
def namedN (s : ByteArray) : Int := namedFrom s 10 1


/-- the place of x in l -/
def idxOf (x : Int) (l : List Int) : Int := match l.findIdx? (x == ·) with | some i => i | none => -1

theorem idxOf_none {x : Int} {l : List Int} (h : ∀ j, j < l.length → (x == l.getD j 0) = false) : idxOf x l = -1 := by
  unfold idxOf
  rw [List.findIdx?_eq_none_iff.2]
  intro y hy
  obtain ⟨i, hi, rfl⟩ := List.getElem_of_mem hy
  have := h i hi
  simpa [hi] using this
theorem idxOf_some {x : Int} {l : List Int} {k : Nat} (hk : k < l.length) (h : ∀ j, j < k → (x == l.getD j 0) = false) (he : (x == l.getD k 0) = true) : idxOf x l = k := by
  unfold idxOf
  have e : l.findIdx? (x == ·) = some k := List.findIdx?_eq_some_iff_getElem.2 ⟨hk, by simpa [hk] using he, fun j hj => by have := h j hj; simpa [show j < l.length by omega] using this⟩
  rw [e]

set_option maxHeartbeats 400000 in
theorem index_calls (l : List Int) (x : Int) (v : Value) (lo B : Nat) (w : World) (hv : IntsAt w lo B v l) :
    Calls Try.prog 90 #[v, .int .i64 x] w fun e w' => e = .returned (.int .i64 (idxOf x l)) ∧ w = w' := by
  obtain ⟨A, c, rfl, hc1, hc2, hc⟩ := hv.form
  unfold maxLen at hc2
  go_enter Try.func90, Try.ntmps90
  go_wp2
  go_loop [5, 8] (fun _ i => ∃ k : Nat, k ≤ l.length ∧ i = .int .i64 k ∧ (∀ j, j < k → (x == l.getD j 0) = false)) (fun _ i => l.length - (intOf i).toNat)
  case atStart => exact ⟨0, by omega, rfl, fun j hj => by omega⟩
  case round =>
    obtain ⟨k, hk, rfl, hN⟩ := hrel
    have HN := Lib.hid hN
    clear hN
    by_cases hlt : k < l.length
    · obtain ⟨b, o, rfl, _, hb, hcell⟩ := hc (by omega)
      have hck := hcell k hlt
      clear hcell hc
      generalize hy : l.getD k 0 = y at hck
      have HY := Lib.hid hy
      clear hy
      go_wp2
      · have ht : (x == y) = true := by assumption
        go_ret
        exact ⟨ret1 (num (idxOf_some hlt HN.out (by rw [HY.out]; exact ht)).symm), rfl⟩
      · have ht : (x == y) = false := by assumption
        go_round
        case rel => exact ⟨k + 1, by omega, by go_num, snoc_all HN.out (by rw [HY.out]; exact ht)⟩
        case measure => simp [intOf]; omega
    · clear hc
      obtain rfl : k = l.length := by omega
      go_wp2
      go_ret
      exact ⟨ret1 (num (idxOf_none HN.out).symm), rfl⟩

def inL (x : Int) (l : List Int) : Bool := decide (0 ≤ idxOf x l)
theorem inL_yes {x : Int} {l : List Int} {k : Nat} (h : idxOf x l = k) : inL x l = true := by unfold inL; rw [h]; exact decide_eq_true (by omega)
theorem inL_no {x : Int} {l : List Int} (h : idxOf x l = -1) : inL x l = false := by unfold inL; rw [h]; rfl
theorem inL_iff (x : Int) (l : List Int) : inL x l = decide (x ∈ l) := by
  unfold inL
  rw [Bool.eq_iff_iff, decide_eq_true_eq, decide_eq_true_eq]
  unfold idxOf
  cases h : l.findIdx? (x == ·) with
  | none =>
    rw [List.findIdx?_eq_none_iff] at h
    constructor
    · intro h0; simp at h0
    · intro hx; have := h x hx; simp at this
  | some i =>
    obtain ⟨hi, h1, _⟩ := List.findIdx?_eq_some_iff_getElem.1 h
    constructor
    · intro _
      have e : x = l[i] := by simpa using h1
      rw [e]; exact List.getElem_mem hi
    · intro _; simp

set_option maxHeartbeats 400000 in
theorem contains_calls (l : List Int) (x : Int) (v : Value) (lo B : Nat) (w : World) (hv : IntsAt w lo B v l) :
    Calls Try.prog 68 #[v, .int .i64 x] w fun e w' => e = .returned (.bool (inL x l)) ∧ w = w' := by
  go_enter Try.func68, Try.ntmps68
  go_wp2_with (go_at_call 90; refine (index_calls l x _ lo B _ hv).mono ?_; rintro e w1 ⟨rfl, rfl⟩)
  go_ret
  exact ⟨rfl, rfl⟩

theorem nine {n : Int} : n = 1 ∨ n = 2 ∨ n = 3 ∨ n = 4 ∨ n = 7 ∨ n = 8 ∨ n = 9 ∨ (n ≠ 1 ∧ n ≠ 2 ∧ n ≠ 3 ∧ n ≠ 4 ∧ n ≠ 7 ∧ n ≠ 8 ∧ n ≠ 9) := by omega
theorem behind_out {n : Int} (h : n ≠ 1 ∧ n ≠ 2 ∧ n ≠ 3 ∧ n ≠ 4 ∧ n ≠ 7 ∧ n ≠ 8 ∧ n ≠ 9) : behind n = [] := by
  obtain ⟨h1, h2, h3, h4, h7, h8, h9⟩ := h
  simp [behind, h1, h2, h3, h4, h7, h8, h9]

def over (n : Int) : Bool := decide (n = 5) || decide (n = 6) || decide (n = 10)
theorem three {n : Int} : n = 5 ∨ n = 6 ∨ n = 10 ∨ (n ≠ 5 ∧ n ≠ 6 ∧ n ≠ 10) := by omega
theorem over_no {n : Int} (h : n ≠ 5 ∧ n ≠ 6 ∧ n ≠ 10) : over n = false := by
  obtain ⟨h1, h2, h3⟩ := h
  simp [over, h1, h2, h3]

def quiet (n : Int) : Bool := over n || decide (n = 2) || decide (n = 3) || decide (n = 8)
theorem quiet_no {n : Int} (h : n ≠ 5 ∧ n ≠ 6 ∧ n ≠ 10 ∧ n ≠ 2 ∧ n ≠ 3 ∧ n ≠ 8) : quiet n = false := by
  obtain ⟨h1, h2, h3, h4, h5, h6⟩ := h
  simp [quiet, over, h1, h2, h3, h4, h5, h6]
theorem six {n : Int} : n = 5 ∨ n = 6 ∨ n = 10 ∨ n = 2 ∨ n = 3 ∨ n = 8 ∨ (n ≠ 5 ∧ n ≠ 6 ∧ n ≠ 10 ∧ n ≠ 2 ∧ n ≠ 3 ∧ n ≠ 8) := by omega
end Life
end Go.Proofs.Yteiniahikhiadaa
