/-
  count.Add.
-/
import Derived.Test.YtdbkkldgobkjcaaItG
namespace Go.Proofs.Ytdbkkldgobkjcaa
open Go.RowKit
namespace It

set_option maxHeartbeats 400000 in
theorem none1_calls (n : Int) (w : World) : Calls Try.prog 107 #[.int .i64 n] w fun e w' => e = .returned (.bool (!countOk n)) ∧ w = w' := by
  have cM := Lib.hid (fun W => count_calls n W)
  generalize countOk n = b at *
  go_enter Try.func107, Try.ntmps107
  go_wp2_with fail
  refine (cM.out _).mono ?_
  rintro e w' ⟨rfl, rfl⟩
  go_wp2
  go_ret
  exact ⟨rfl, rfl⟩

def okTo (l : List Int) (k : Nat) : Prop := ∀ j, j < k → countOk (l.getD j 0) = true
theorem allTo_snoc {l : List Int} {k : Nat} (h : okTo l k) (h1 : countOk (l.getD k 0) = true) : okTo l (k + 1) := by
  intro j hj
  rcases Nat.lt_or_ge j k with h2 | h2
  · exact h j h2
  · have : j = k := by omega
    subst this
    exact h1

set_option maxRecDepth 100000 in
set_option maxHeartbeats 1000000 in
theorem indexFunc_calls (l : List Int) (v : Value) (lo B : Nat) (w : World) (hv : IntsAt w lo B v l) :
    Calls Try.prog 118 #[v, .func (.func 107) #[] #[]] w fun e w' => (∃ r : Int, e = .returned (.int .i64 r) ∧ (0 ≤ r ↔ ¬ okTo l l.length)) ∧ w = w' := by
  obtain ⟨A, c, rfl, hc1, hc2, hc⟩ := hv.form
  unfold maxLen at hc2
  go_enter Try.func118, Try.ntmps118
  go_wp2
  go_loop [8] (fun i => ∃ k : Nat, k ≤ l.length ∧ i = .int .i64 k ∧ okTo l k) (fun i => l.length - (intOf i).toNat)
  case atStart => exact ⟨0, by omega, rfl, fun j hj => by omega⟩
  case round =>
    obtain ⟨k, hk, rfl, hN⟩ := hrel
    have HN := Lib.hid hN
    clear hN
    by_cases hlt : k < l.length
    · obtain ⟨b, o, rfl, _, hb, hcell⟩ := hc (by omega)
      have hck := hcell k hlt
      clear hcell hc
      generalize hy : l.getD k 0 = y at hck
      have HY := Lib.hid hy
      clear hy
      have cN := Lib.hid (fun W => none1_calls y W)
      generalize ho : countOk y = ok at cN
      have HO := Lib.hid ho
      clear ho
      go_wp2_with fail
      refine (cN.out _).mono ?_
      rintro e w' ⟨rfl, rfl⟩
      cases ok with
      | true =>
        go_wp2_with fail
        go_round
        case rel => exact ⟨k + 1, by omega, by go_num, allTo_snoc HN.out (by rw [HY.out, HO.out])⟩
        case measure => simp [intOf]; omega
      | false =>
        go_wp2_with fail
        go_ret
        refine ⟨⟨k, rfl, ⟨fun _ h => ?_, fun _ => by omega⟩⟩, rfl⟩
        have := h k hlt
        rw [HY.out, HO.out] at this
        cases this
    · clear hc
      obtain rfl : k = l.length := by omega
      go_wp2
      go_ret
      exact ⟨⟨-1, rfl, Iff.intro (fun h => by omega) (fun h => absurd HN.out h)⟩, rfl⟩

set_option maxHeartbeats 1000000 in
theorem containsFunc_calls (l : List Int) (v : Value) (lo B : Nat) (w : World) (hv : IntsAt w lo B v l) :
    Calls Try.prog 106 #[v, .func (.func 107) #[] #[]] w fun e w' => e = .returned (.bool (!(l.all countOk))) ∧ w = w' := by
  have cI := Lib.hid (indexFunc_calls l v lo B w hv)
  obtain ⟨A, c, rfl, hc1, hc2, hc⟩ := hv.form
  clear hc
  go_enter Try.func106, Try.ntmps106
  go_wp2_with fail
  refine cI.out.mono ?_
  rintro e w' ⟨⟨r, rfl, hr⟩, rfl⟩
  have HR := Lib.hid (show (!(l.all countOk)) = decide (r ≥ 0) by
    have h1 : okTo l l.length ↔ l.all countOk = true := by
      unfold okTo
      rw [List.all_eq_true]
      constructor
      · intro h x hx
        obtain ⟨j, hj, rfl⟩ := List.getElem_of_mem hx
        have := h j hj
        simpa [hj] using this
      · intro h j hj
        have : l.getD j 0 = l[j] := by simp [hj]
        rw [this]
        exact h _ (List.getElem_mem hj)
    rw [h1] at hr
    cases h : l.all countOk <;> simp [h] at hr ⊢ <;> omega)
  clear hr
  go_wp2
  go_ret
  exact ⟨ret1 (boo HR.out.symm), rfl⟩

set_option maxHeartbeats 1000000 in
theorem none_calls (l : List Int) (v : Value) (lo B : Nat) (w : World) (hv : IntsAt w lo B v l) :
    Calls Try.prog 97 #[v] w fun e w' => e = .returned (.bool (!(l.all countOk))) ∧ w = w' := by
  have cI := Lib.hid (containsFunc_calls l v lo B w hv)
  generalize l.all countOk = b at *
  obtain ⟨A, c, rfl, hc1, hc2, hc⟩ := hv.form
  clear hc
  go_enter Try.func97, Try.ntmps97
  go_wp2_with fail
  refine cI.out.mono ?_
  rintro e w' ⟨rfl, rfl⟩
  go_wp2
  go_ret
  exact ⟨rfl, rfl⟩

theorem countOk_iff (n : Int) : countOk n = true ↔ 0 ≤ n ∧ n ≤ 1099511627776 := by unfold countOk; simp

/-- the sum, and why not -/
def addOf (a b : Int) : Int × Int := if countOk a && countOk b then if a + b ≤ 1099511627776 then (a + b, 0) else (0, 50) else (0, 1)

set_option maxHeartbeats 1000000 in
theorem add_calls (a b : Int) (w : World) :
    Calls Try.prog 82 #[.int .i64 a, .int .i64 b] w fun e w' => e = .returned (.tuple #[.int .i64 (addOf a b).1, .int .i64 (addOf a b).2]) ∧ Below w.heap.size w w' := by
  have HA := Lib.hid (show addOf a b = if countOk a && countOk b then if a + b ≤ 1099511627776 then (a + b, 0) else (0, 50) else (0, 1) from rfl)
  have hoa := Lib.hid (countOk_iff a)
  have hob := Lib.hid (countOk_iff b)
  have cN := Lib.hid (none_calls [a, b] (.slice (some ⟨w.heap.size, 0, none⟩) 2 2) w.heap.size (w.heap.size + 1) (w.alloc (.cells #[.int .i64 a, .int .i64 b] 3)) (Sl.new w #[.int .i64 a, .int .i64 b] 3 (n := 2) rfl (by unfold maxLen; omega)))
  simp only [List.all_cons, List.all_nil, Bool.and_true] at cN
  generalize addOf a b = S at *
  generalize countOk a = oa at *
  generalize countOk b = ob at *
  go_enter Try.func82, Try.ntmps82
  go_wp2_with fail
  refine cN.out.mono ?_
  rintro e w' ⟨rfl, rfl⟩
  have hB : Below w.heap.size w (w.alloc (.cells #[.int .i64 a, .int .i64 b] 3)) := (Below.refl _ w).alloc (Nat.le_refl _) _
  generalize w.alloc (.cells #[.int .i64 a, .int .i64 b] 3) = w1 at *
  cases hoo : (oa && ob) with
  | false =>
    obtain rfl : S = (0, 1) := by rw [HA.out, hoo]; rfl
    simp only [Bool.not_false]
    go_wp2_with fail
    go_ret2
    exact ⟨rfl, hB⟩
  | true =>
    have hoo' := hoo
    rw [Bool.and_eq_true] at hoo'
    have h1 := hoa.out.1 hoo'.1
    have h2 := hob.out.1 hoo'.2
    have hw : wrap64 (1099511627776 - a) = 1099511627776 - a := by
      unfold wrap64; omega
    by_cases hle : a + b ≤ 1099511627776
    · obtain rfl : S = (a + b, 0) := by rw [HA.out, hoo, if_pos rfl, if_pos hle]
      simp only [Bool.not_true]
      go_wp2_with fail
      go_ret2
      exact ⟨by go_num, hB⟩
    · obtain rfl : S = (0, 50) := by rw [HA.out, hoo, if_pos rfl, if_neg hle]
      simp only [Bool.not_true]
      go_wp2_with fail
      go_ret2
      exact ⟨rfl, hB⟩
end It
end Go.Proofs.Ytdbkkldgobkjcaa
