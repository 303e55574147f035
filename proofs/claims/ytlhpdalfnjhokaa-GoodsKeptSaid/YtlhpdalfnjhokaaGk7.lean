/-
  goods: All.
  stocks that send goods to one another keep all, in plain words.
  from a law's walk to its row: the call returns true, and nothing that was there has turned.
  arguments opened: a slice of structs, whatever the number of their one-cell fields; a slice of items.
  arguments opened: a slice of anything that can be read.
  Arguments opened: the ops of the laws of stocks, slices of them, slices of such slices.
  The laws: lives.
  some stocks and the slice that points to them.
-/
import Derived.Test.YtlhpdalfnjhokaaGk6
import Derived.Test.YtlhpdalfnjhokaaGk2
import Derived.Test.YtlhpdalfnjhokaaGk1
import Derived.ProofKit
import Derived.OpenShut
import Derived.JoinedCond
import Derived.Deep.CondSized
import Derived.SizedLaws
import Derived.Deep.Slices
import Derived.Deep.Fields
import Derived.ChangeSame
import Derived.Test.YtlhpdalfnjhokaaGk4

set_option linter.unusedVariables false
set_option linter.unusedSimpArgs false
namespace Go.Proofs.Ytlhpdalfnjhokaa
open Go.RowKit Go.Maps
namespace Sk
open It Al Kp
attribute [local go_sem] Oper.semAt_some
/-- whether a good's total is kept -/
def kpS (ss : List Stk) (k : Key) : Bool := keptT (at_ (totR ss k) 0) (at_ (totR ss k) 1) (at_ (totR ss k) 2) (at_ (totR ss k) 3) (at_ (totR ss k) 4) (at_ (totR ss k) 5) (at_ (totR ss k) 6) (at_ (totR ss k) 7) (at_ (totR ss k) 8) (at_ (totR ss k) 9) (at_ (totR ss k) 10) (wayT (totR ss k))
def allS (ss : List Stk) : Bool := (allKeys ss).all (kpS ss)
set_option maxRecDepth 100000 in
set_option maxHeartbeats 2000000 in
theorem all1_calls (ss : List Stk) (k : Key) (w : World) :
    Calls Try.prog 32 #[.agg (totL ss k).toArray] w fun e w' => e = .returned (.bool (!kpS ss k)) ∧ Below w.heap.size w w' := by
  have hC : totL ss k = [.string ⟨k.toArray⟩, .int .i64 (at_ (totR ss k) 0), .int .i64 (at_ (totR ss k) 1), .int .i64 (at_ (totR ss k) 2), .int .i64 (at_ (totR ss k) 3), .int .i64 (at_ (totR ss k) 4), .int .i64 (at_ (totR ss k) 5), .int .i64 (at_ (totR ss k) 6), .int .i64 (at_ (totR ss k) 7), .int .i64 (at_ (totR ss k) 8), .int .i64 (at_ (totR ss k) 9), .int .i64 (at_ (totR ss k) 10), .int .i64 (wayT (totR ss k))] := rfl
  rw [hC]
  unfold kpS
  clear hC
  have cK := Lib.hid (fun W => kept_calls ⟨k.toArray⟩ (at_ (totR ss k) 0) (at_ (totR ss k) 1) (at_ (totR ss k) 2) (at_ (totR ss k) 3) (at_ (totR ss k) 4) (at_ (totR ss k) 5) (at_ (totR ss k) 6) (at_ (totR ss k) 7) (at_ (totR ss k) 8) (at_ (totR ss k) 9) (at_ (totR ss k) 10) (wayT (totR ss k)) W)
  generalize keptT (at_ (totR ss k) 0) (at_ (totR ss k) 1) (at_ (totR ss k) 2) (at_ (totR ss k) 3) (at_ (totR ss k) 4) (at_ (totR ss k) 5) (at_ (totR ss k) 6) (at_ (totR ss k) 7) (at_ (totR ss k) 8) (at_ (totR ss k) 9) (at_ (totR ss k) 10) (wayT (totR ss k)) = b at *
  generalize wayT (totR ss k) = wy at *
  generalize totR ss k = r at *
  generalize at_ r 0 = a0 at *
  generalize at_ r 1 = a1 at *
  generalize at_ r 2 = a2 at *
  generalize at_ r 3 = a3 at *
  generalize at_ r 4 = a4 at *
  generalize at_ r 5 = a5 at *
  generalize at_ r 6 = a6 at *
  generalize at_ r 7 = a7 at *
  generalize at_ r 8 = a8 at *
  generalize at_ r 9 = a9 at *
  generalize at_ r 10 = a10 at *
  have hB : Below w.heap.size w (w.alloc (.cells #[.string ⟨k.toArray⟩, .int .i64 a0, .int .i64 a1, .int .i64 a2, .int .i64 a3, .int .i64 a4, .int .i64 a5, .int .i64 a6, .int .i64 a7, .int .i64 a8, .int .i64 a9, .int .i64 a10, .int .i64 wy] 27)) := (Below.refl _ w).alloc (Nat.le_refl _) _
  have o1 := Ob.new w 27 #[.string ⟨k.toArray⟩, .int .i64 a0, .int .i64 a1, .int .i64 a2, .int .i64 a3, .int .i64 a4, .int .i64 a5, .int .i64 a6, .int .i64 a7, .int .i64 a8, .int .i64 a9, .int .i64 a10, .int .i64 wy]
  go_enter Try.func32, Try.ntmps32
  go_wp2_with (first | (refine wpList_load_ob rfl 27 (.tmp 1) rfl rfl Try.underlying27 o1 rfl rfl (by kernel_rfl) ?_) | (go_at_call 13; refine (cK.out _).mono ?_; rintro e w' ⟨rfl, hb⟩))
  have hBF := hB.trans (hb.mono hB.size)
  go_wp2
  go_ret
  exact ⟨rfl, hBF⟩
def okS (ss : List Stk) (ks : List Key) (j : Nat) : Prop := ∀ i (hi : i < ks.length), i < j → kpS ss ks[i] = true
set_option maxRecDepth 100000 in
set_option maxHeartbeats 2000000 in
theorem index_calls (ss : List Stk) (ks : List Key) (v : Value) (lo : Nat) (w : World) (hv : Sl w lo w.heap.size 13 v ks.length (ks.flatMap (totL ss))) :
    Calls Try.prog 50 #[v, .func (.func 32) #[] #[]] w fun e w' => (∃ r : Int, e = .returned (.int .i64 r) ∧ (0 ≤ r ↔ ¬ okS ss ks ks.length)) ∧ Below w.heap.size w w' := by
  obtain ⟨A, c, rfl, hc1, hc2, hc⟩ := hv.at_
  clear hv
  unfold maxLen at hc2
  go_enter Try.func50, Try.ntmps50
  go_wp2
  go_loopw [8] (fun i wr => ∃ k : Nat, k ≤ ks.length ∧ i = .int .i64 k ∧ okS ss ks k ∧ Below w.heap.size w wr) (fun i _ => ks.length - (intOf i).toNat)
  case atStart => exact ⟨0, by omega, rfl, fun i hi h => by omega, Below.refl _ _⟩
  case round =>
    obtain ⟨k, hk, rfl, hN, hb⟩ := hrel
    have HN := Lib.hid hN
    clear hN
    by_cases hlt : k < ks.length
    · obtain ⟨b, o, rfl, _, hbB, hcell⟩ := hc (by omega)
      have hR : wr.rangeAt b (o + k * 13) (totL ss ks[k]) := by
        intro j x hj
        have hj13 : j < 13 := by have := (List.getElem?_eq_some_iff.1 hj).1; rwa [totL_len] at this
        have h1 := hcell (k * 13 + j) (by omega)
        rw [flat_get ss ks k hlt j hj13, hj] at h1
        rw [hb.cell (p := ⟨b, o + k * 13 + j, none⟩) hbB, Nat.add_assoc]
        exact h1
      clear hcell hc
      have HKK := Lib.hid (show ∀ i, i < ks.length → i = k → kpS ss ks[k] = true → ∀ (hi : i < ks.length), kpS ss ks[i] = true from fun i _ e h hi => by subst e; exact h)
      have cN := Lib.hid (fun W => all1_calls ss ks[k] W)
      have hL : (totL ss ks[k]).length = 13 := rfl
      have HKE := Lib.hid (show ∃ g, g = kpS ss ks[k] ∧ ∀ (hi : k < ks.length), kpS ss ks[k] = g from ⟨_, rfl, fun _ => rfl⟩)
      generalize ho : kpS ss ks[k] = ok at cN
      have HO := Lib.hid ho
      clear ho
      generalize totL ss ks[k] = tl at *
      go_wp2_with (first | (refine wpList_load_mid rfl 27 (.tmp 14) rfl b (o + k * 13) rfl tl _ hR Try.underlying27 rfl (by rw [hL]; kernel_rfl) ?_))
      refine (cN.out _).mono ?_
      rintro e w' ⟨rfl, hb2⟩
      have hbn := hb.trans (hb2.mono hb.size)
      cases ok with
      | true =>
        go_wp2_with fail
        go_roundw
        case rel =>
          refine ⟨k + 1, by omega, by go_num, fun i hi hik => ?_, hbn⟩
          rcases Nat.lt_or_ge i k with h | h
          · exact HN.out i hi h
          · exact HKK.out i hi (by omega) HO.out hi
        case measure => simp [intOf]; omega
      | false =>
        go_wp2_with fail
        go_ret
        refine ⟨⟨k, rfl, ⟨fun _ h => ?_, fun _ => by omega⟩⟩, hbn⟩
        have := h k hlt hlt
        rw [HO.out] at this
        cases this
    · clear hc
      obtain rfl : k = ks.length := by omega
      go_wp2
      go_ret
      exact ⟨⟨-1, rfl, Iff.intro (fun h => by omega) (fun h => absurd HN.out h)⟩, hb⟩
theorem okS_all (ss : List Stk) (ks : List Key) : okS ss ks ks.length ↔ ks.all (kpS ss) = true := by
  unfold okS
  rw [List.all_eq_true]
  constructor
  · intro h x hx
    obtain ⟨j, hj, rfl⟩ := List.getElem_of_mem hx
    exact h j hj hj
  · exact fun h i hi _ => h _ (List.getElem_mem hi)
set_option maxHeartbeats 1000000 in
theorem contains_calls (ss : List Stk) (ks : List Key) (v : Value) (lo : Nat) (w : World) (hv : Sl w lo w.heap.size 13 v ks.length (ks.flatMap (totL ss))) :
    Calls Try.prog 31 #[v, .func (.func 32) #[] #[]] w fun e w' => e = .returned (.bool (!(ks.all (kpS ss)))) ∧ Below w.heap.size w w' := by
  have cI := Lib.hid (index_calls ss ks v lo w hv)
  obtain ⟨A, c, rfl, hc1, hc2, hc⟩ := hv.at_
  clear hc hv
  go_enter Try.func31, Try.ntmps31
  go_wp2_with fail
  refine cI.out.mono ?_
  rintro e w' ⟨⟨r, rfl, hr⟩, hb⟩
  have HR := Lib.hid (show (!(ks.all (kpS ss))) = decide (r ≥ 0) by
    rw [okS_all] at hr
    cases h : ks.all (kpS ss) <;> simp [h] at hr ⊢ <;> omega)
  clear hr
  go_wp2
  go_ret
  exact ⟨ret1 (boo HR.out.symm), hb⟩
set_option maxHeartbeats 1000000 in
theorem all_calls (ss : List Stk) (v : Value) (w : World) (base : Nat) (h : StsAt w base v ss) (hl : ss.length ≤ 1000) :
    Calls Try.prog 18 #[v] w fun e w' => e = .returned (.bool (allS ss)) ∧ Below w.heap.size w w' := by
  have cT := Lib.hid (totals_calls ss v w base h hl)
  have HA := Lib.hid (show allS ss = (allKeys ss).all (kpS ss) from rfl)
  obtain ⟨ps, hpl, hsl, hps⟩ := h.at_
  obtain ⟨A, c, rfl, hc1, hc2, -⟩ := hsl.at_
  clear hsl hps hpl h
  go_enter Try.func18, Try.ntmps18
  go_wp2_with fail
  refine cT.out.mono ?_
  rintro e W1 ⟨⟨u, rfl, hu⟩, hb1⟩
  have hsl := Sl.of_own hu
  have cC := Lib.hid (contains_calls ss (allKeys ss) u w.heap.size W1 hsl)
  obtain ⟨A1, c1, rfl, -⟩ := hsl.at_
  clear hsl hu
  go_wp2_with fail
  refine cC.out.mono ?_
  rintro e W2 ⟨rfl, hb2⟩
  have hbn := hb1.trans (hb2.mono hb1.size)
  generalize (allKeys ss).all (kpS ss) = b at *
  go_wp2
  go_ret
  exact ⟨by rw [HA.out]; rfl, hbn⟩
end Sk
end Go.Proofs.Ytlhpdalfnjhokaa

namespace Go.Proofs.Ytlhpdalfnjhokaa
open Go.RowKit Go.Maps
namespace Sk
open It Al Kp
def rowG (s : Stk) (g : Key) : Row := (aGet s g).getD row0
/-- a row that may be, behind T counts -/
structure RowOk (T : Nat) (r : Row) : Prop where
  len : r.length = 11
  each : eachR r = true
  lo : -(T * 1099511627776 : Int) ≤ at_ r 6
  hi : at_ r 6 ≤ T * 1099511627776
  bal : at_ r 0 + at_ r 1 + at_ r 2 + at_ r 3 = at_ r 4 + at_ r 5 + at_ r 6 + at_ r 7 - at_ r 8 - at_ r 9 - at_ r 10
theorem RowOk.zero (T : Nat) : RowOk T row0 := ⟨rfl, by decide, by show _ ≤ (0 : Int); omega, by show (0 : Int) ≤ _; omega, by decide⟩
theorem RowOk.more {T T' : Nat} {r : Row} (h : RowOk T r) (ht : T ≤ T') : RowOk T' r := ⟨h.len, h.each, by have := h.lo; omega, by have := h.hi; omega, h.bal⟩
theorem flow_at {r : Row} (h : eachR r = true) {j : Nat} (hj : j < 11) (h4 : ¬ j < 4) (h6 : j ≠ 6) : 0 ≤ at_ r j ∧ at_ r j ≤ 72057594037927936 := by
  have := eachR_at h hj
  unfold okAt flowOk at this
  rw [if_neg h4, if_neg h6] at this
  simpa using this
theorem RowOk.bd {T : Nat} {r : Row} (h : RowOk T r) (hT : T ≤ 100) (j : Nat) : -144115188075855872 ≤ at_ r j ∧ at_ r j ≤ 144115188075855872 := by
  rcases Nat.lt_or_ge j 11 with hj | hj
  · by_cases h4 : j < 4
    · have := eachR_four h.each h4
      omega
    · by_cases h6 : j = 6
      · subst h6
        have h1 := h.lo
        have h2 := h.hi
        omega
      · have := flow_at h.each hj h4 h6
        omega
  · have : at_ r j = 0 := by
      unfold at_
      rw [List.getD_eq_getElem?_getD, List.getElem?_eq_none (by rw [h.len]; omega)]
      rfl
    omega
theorem wrap_sum {x n : Int} (h1 : -144115188075855872 ≤ x) (h2 : x ≤ 144115188075855872) (h3 : -4398046511104 ≤ n) (h4 : n ≤ 4398046511104) : wrap64 (x + n) = x + n := by unfold wrap64; omega
theorem row_eta {r : Row} (h : r.length = 11) : r = [at_ r 0, at_ r 1, at_ r 2, at_ r 3, at_ r 4, at_ r 5, at_ r 6, at_ r 7, at_ r 8, at_ r 9, at_ r 10] := by
  match r, h with
  | [a, b, c, d, e, f, g, h, i, j, k], _ => rfl
theorem at_eleven (a b c d e f g h i j k : Int) : at_ [a, b, c, d, e, f, g, h, i, j, k] 0 = a ∧ at_ [a, b, c, d, e, f, g, h, i, j, k] 1 = b ∧ at_ [a, b, c, d, e, f, g, h, i, j, k] 2 = c ∧ at_ [a, b, c, d, e, f, g, h, i, j, k] 3 = d ∧ at_ [a, b, c, d, e, f, g, h, i, j, k] 4 = e ∧ at_ [a, b, c, d, e, f, g, h, i, j, k] 5 = f ∧ at_ [a, b, c, d, e, f, g, h, i, j, k] 6 = g ∧ at_ [a, b, c, d, e, f, g, h, i, j, k] 7 = h ∧ at_ [a, b, c, d, e, f, g, h, i, j, k] 8 = i ∧ at_ [a, b, c, d, e, f, g, h, i, j, k] 9 = j ∧ at_ [a, b, c, d, e, f, g, h, i, j, k] 10 = k := ⟨rfl, rfl, rfl, rfl, rfl, rfl, rfl, rfl, rfl, rfl, rfl⟩
/-- what a kind makes of a row, its numbers one by one -/
theorem step_list (k : Int) (a b c d e f g h i j l n : Int) (hk : k = 1 ∨ k = 2 ∨ k = 3 ∨ k = 4 ∨ k = 5 ∨ k = 6 ∨ k = 7 ∨ k = 8 ∨ k = 9 ∨ k = 10 ∨ k = 11) : stepR k [a, b, c, d, e, f, g, h, i, j, l] n =
    if k = 1 then [wrap64 (a + n), b, c, d, wrap64 (e + n), f, g, h, i, j, l] else if k = 2 then [wrap64 (a + -n), wrap64 (b + n), c, d, e, f, g, h, i, j, l] else if k = 3 then [wrap64 (a + n), wrap64 (b + -n), c, d, e, f, g, h, i, j, l]
    else if k = 4 then [a, wrap64 (b + -n), wrap64 (c + n), d, e, f, g, h, i, j, l] else if k = 5 then [a, wrap64 (b + n), wrap64 (c + -n), d, e, f, g, h, i, j, l] else if k = 6 then [a, b, wrap64 (c + -n), d, e, f, g, h, wrap64 (i + n), j, l]
    else if k = 7 then [a, b, c, wrap64 (d + n), e, wrap64 (f + n), g, h, i, j, l] else if k = 8 then [wrap64 (a + n), b, c, wrap64 (d + -n), e, f, g, h, i, j, l] else if k = 9 then [a, b, c, wrap64 (d + -n), e, f, g, h, i, wrap64 (j + n), l]
    else if k = 10 then [wrap64 (a + -n), b, c, d, e, f, g, h, i, j, wrap64 (l + n)] else if k = 11 then [wrap64 (a + n), b, c, d, e, f, g, wrap64 (h + n), i, j, l] else [a, b, c, d, e, f, g, h, i, j, l] := by
  rcases hk with rfl | rfl | rfl | rfl | rfl | rfl | rfl | rfl | rfl | rfl | rfl
  all_goals rfl
theorem step_ok {T : Nat} {r : Row} (h : RowOk T r) (hT : T ≤ 100) {k n : Int} (hk : 1 ≤ k ∧ k ≤ 11) (hn : 1 ≤ n ∧ n ≤ 1099511627776) (hr : rightR (stepR k r n) = true) :
    RowOk T (stepR k r n) ∧ at_ (stepR k r n) 7 = at_ r 7 + (if k = 11 then n else 0) ∧ at_ (stepR k r n) 10 = at_ r 10 + (if k = 10 then n else 0) := by
  have he : eachR (stepR k r n) = true := by unfold rightR at hr; rw [Bool.and_eq_true] at hr; exact hr.1
  have b0 := h.bd hT 0
  have b1 := h.bd hT 1
  have b2 := h.bd hT 2
  have b3 := h.bd hT 3
  have b4 := h.bd hT 4
  have b5 := h.bd hT 5
  have b7 := h.bd hT 7
  have b8 := h.bd hT 8
  have b9 := h.bd hT 9
  have b10 := h.bd hT 10
  have hlo := h.lo
  have hhi := h.hi
  have hbal := h.bal
  have kc : k = 1 ∨ k = 2 ∨ k = 3 ∨ k = 4 ∨ k = 5 ∨ k = 6 ∨ k = 7 ∨ k = 8 ∨ k = 9 ∨ k = 10 ∨ k = 11 := by omega
  have hl : (stepR k r n).length = 11 := by
    rw [row_eta h.len, step_list _ _ _ _ _ _ _ _ _ _ _ _ _ kc]
    rcases kc with rfl | rfl | rfl | rfl | rfl | rfl | rfl | rfl | rfl | rfl | rfl
    all_goals rfl
  suffices hs : (at_ (stepR k r n) 6 = at_ r 6) ∧ (at_ (stepR k r n) 0 + at_ (stepR k r n) 1 + at_ (stepR k r n) 2 + at_ (stepR k r n) 3 = at_ (stepR k r n) 4 + at_ (stepR k r n) 5 + at_ (stepR k r n) 6 + at_ (stepR k r n) 7 - at_ (stepR k r n) 8 - at_ (stepR k r n) 9 - at_ (stepR k r n) 10) ∧ at_ (stepR k r n) 7 = at_ r 7 + (if k = 11 then n else 0) ∧ at_ (stepR k r n) 10 = at_ r 10 + (if k = 10 then n else 0) by
    exact ⟨⟨hl, he, by rw [hs.1]; exact hlo, by rw [hs.1]; exact hhi, hs.2.1⟩, hs.2.2⟩
  clear he hl hr hlo hhi
  generalize hq : stepR k r n = q
  rw [row_eta h.len, step_list _ _ _ _ _ _ _ _ _ _ _ _ _ kc] at hq
  generalize at_ r 0 = a at *
  generalize at_ r 1 = b at *
  generalize at_ r 2 = c at *
  generalize at_ r 3 = d at *
  generalize at_ r 4 = e at *
  generalize at_ r 5 = f at *
  generalize at_ r 6 = g at *
  generalize at_ r 7 = m at *
  generalize at_ r 8 = i at *
  generalize at_ r 9 = j at *
  generalize at_ r 10 = l at *
  clear h
  rcases kc with rfl | rfl | rfl | rfl | rfl | rfl | rfl | rfl | rfl | rfl | rfl
  all_goals
    simp (config := { decide := true }) only [if_true, if_false] at hq ⊢
    subst hq
    repeat rw [wrap_sum (by omega) (by omega) (by omega) (by omega)]
    refine ⟨rfl, ?_, ?_, ?_⟩
    all_goals (simp only [at_, List.getD_cons_zero, List.getD_cons_succ]; try omega)
/-- how many of a good a list has -/
def amt (L : List It.Item) (g : Key) : Int := ((L.filter fun x => decide (key x = g)).map (·.2)).sum
theorem amt_cons (x : It.Item) (L : List It.Item) (g : Key) : amt (x :: L) g = (if g = key x then x.2 else 0) + amt L g := by
  unfold amt
  by_cases h : g = key x
  · simp [h]
  · have h' : ¬ key x = g := fun e => h e.symm
    simp [h, h']
theorem amt_nonneg {L : List It.Item} (h : ∀ x ∈ L, 1 ≤ x.2 ∧ x.2 ≤ 1099511627776) (g : Key) : 0 ≤ amt L g := by
  induction L with
  | nil => simp [amt]
  | cons x r ih =>
    rw [amt_cons]
    have h1 := h x (by simp)
    have h2 := ih fun y hy => h y (List.mem_cons_of_mem _ hy)
    split <;> omega
theorem rowG_put (s : Stk) (k j : Key) (q : Row) : rowG (aPut strK s k q) j = if j = k then q else rowG s j := by
  unfold rowG
  rw [aGet_put]
  split <;> rfl
theorem rowG_ok {T : Nat} {s : Stk} (h : ∀ p ∈ s, RowOk T p.2) (g : Key) : RowOk T (rowG s g) := by
  unfold rowG
  cases hg : aGet s g with
  | none => exact RowOk.zero T
  | some r => exact h _ (aGet_mem hg)
theorem put_ok {T : Nat} {s : Stk} (h : ∀ p ∈ s, RowOk T p.2) {k : Key} {q : Row} (hq : RowOk T q) : ∀ p ∈ aPut strK s k q, RowOk T p.2 := fun p hp => by
  rcases aPut_mem.1 hp with rfl | ⟨h1, -⟩
  · exact hq
  · exact h p h1
theorem go_ok {T : Nat} (hT : T ≤ 100) {k : Int} (hk : 1 ≤ k ∧ k ≤ 11) : ∀ (L : List It.Item) (s s' : Stk), (∀ x ∈ L, 1 ≤ x.2 ∧ x.2 ≤ 1099511627776) → (∀ p ∈ s, RowOk T p.2) → L.foldl (goStep k) (some s) = some s' →
    (∀ p ∈ s', RowOk T p.2) ∧ ∀ g, at_ (rowG s' g) 7 = at_ (rowG s g) 7 + (if k = 11 then amt L g else 0) ∧ at_ (rowG s' g) 10 = at_ (rowG s g) 10 + (if k = 10 then amt L g else 0)
  | [], s, s', _, h, e => by
    simp only [List.foldl_nil, Option.some.injEq] at e
    subst e
    exact ⟨h, fun g => by simp [amt]⟩
  | x :: L, s, s', hL, h, e => by
    rw [List.foldl_cons] at e
    have hx := hL x (by simp)
    by_cases hr : rightR (stepR k (rowG s (key x)) x.2) = true
    · have e1 : goStep k (some s) x = some (aPut strK s (key x) (stepR k (rowG s (key x)) x.2)) := by
        show (if rightR (stepR k (rowG s (key x)) x.2) = true then _ else _) = _
        rw [if_pos hr]
        rfl
      rw [e1] at e
      obtain ⟨h1, h2, h3⟩ := step_ok (rowG_ok h (key x)) hT hk hx hr
      obtain ⟨i1, i2⟩ := go_ok hT hk L _ _ (fun y hy => hL y (List.mem_cons_of_mem _ hy)) (put_ok h h1) e
      refine ⟨i1, fun g => ?_⟩
      obtain ⟨j1, j2⟩ := i2 g
      rw [rowG_put] at j1 j2
      rw [amt_cons]
      by_cases hg : g = key x
      · simp only [hg, if_true] at j1 j2 ⊢
        rw [j1, j2, h2, h3]
        constructor
        · split <;> omega
        · split <;> omega
      · simp only [hg, if_false] at j1 j2 ⊢
        rw [j1, j2]
        constructor <;> (split <;> omega)
    · have e1 : goStep k (some s) x = none := by
        show (if rightR (stepR k (rowG s (key x)) x.2) = true then _ else _) = _
        rw [if_neg hr]
      rw [e1, doGo_none] at e
      cases e
theorem do_ok {T : Nat} (hT : T ≤ 100) {s : Stk} (h : ∀ p ∈ s, RowOk T p.2) (k : Int) (L : List It.Item) :
    (doS s k L).1 = s ∧ (doS s k L).2 ≠ 0 ∨ (doS s k L).2 = 0 ∧ (∀ x ∈ L, 1 ≤ x.2 ∧ x.2 ≤ 1099511627776) ∧ (∀ p ∈ (doS s k L).1, RowOk T p.2) ∧ ∀ g, at_ (rowG (doS s k L).1 g) 7 = at_ (rowG s g) 7 + (if k = 11 then amt L g else 0) ∧ at_ (rowG (doS s k L).1 g) 10 = at_ (rowG s g) 10 + (if k = 10 then amt L g else 0) := by
  by_cases hk : k < 1 ∨ 11 < k
  · have e : doS s k L = (s, 1) := by unfold doS; rw [if_pos hk]
    rw [e]; exact .inl ⟨rfl, by simp⟩
  cases hm : It.may L with
  | false =>
    have e : doS s k L = (s, 60) := by unfold doS; rw [if_neg hk, if_pos hm]
    rw [e]; exact .inl ⟨rfl, by simp⟩
  | true =>
    by_cases hc : mayS s k L = 0
    · have e : doS s k L = goS s k L := by unfold doS; rw [if_neg hk, if_neg (by rw [hm]; simp), if_neg (by simp [hc])]; rfl
      rw [e]
      unfold goS
      cases hd : doGo k s L with
      | none => exact .inl ⟨rfl, by simp⟩
      | some s' =>
        dsimp only
        by_cases h64 : 64 < s'.length
        · rw [if_pos h64]; exact .inl ⟨rfl, by simp⟩
        · rw [if_neg h64]
          have hL : ∀ x ∈ L, 1 ≤ x.2 ∧ x.2 ≤ 1099511627776 := fun x hx => (((may_iff L).1 hm).ok x hx).2
          exact .inr ⟨rfl, hL, go_ok hT (by omega) L s s' hL h hd⟩
    · have e : doS s k L = (s, mayS s k L) := by unfold doS; rw [if_neg hk, if_neg (by rw [hm]; simp), if_pos hc]
      rw [e]; exact .inl ⟨rfl, hc⟩
theorem count_ok {T : Nat} (hT : T < 100) {s : Stk} (h : ∀ p ∈ s, RowOk T p.2) (g : Key) (n : Int) :
    (∀ p ∈ (countS s g n).1, RowOk (T + 1) p.2) ∧ ∀ j, at_ (rowG (countS s g n).1 j) 7 = at_ (rowG s j) 7 ∧ at_ (rowG (countS s g n).1 j) 10 = at_ (rowG s j) 10 := by
  have hs : (∀ p ∈ s, RowOk (T + 1) p.2) ∧ ∀ j, at_ (rowG s j) 7 = at_ (rowG s j) 7 ∧ at_ (rowG s j) 10 = at_ (rowG s j) 10 := ⟨fun p hp => (h p hp).more (by omega), fun j => ⟨rfl, rfl⟩⟩
  by_cases h1 : countOk n = false
  · have e : countS s g n = (s, 0, 1) := by unfold countS; rw [if_pos h1]
    rw [e]; exact hs
  cases hr : aGet s g with
  | none =>
    have e : countS s g n = (s, 0, 71) := by unfold countS; rw [if_neg h1, hr]
    rw [e]; exact hs
  | some r =>
    by_cases h3 : n < at_ r 1
    · have e : countS s g n = (s, 0, 70) := by unfold countS; rw [if_neg h1, hr]; dsimp only; rw [if_pos h3]
      rw [e]; exact hs
    cases hrt : rightR (countR r n) with
    | false =>
      have e : countS s g n = (s, 0, 50) := by unfold countS; rw [if_neg h1, hr]; dsimp only; rw [if_neg h3, hrt]; rfl
      rw [e]; exact hs
    | true =>
      have e : countS s g n = (aPut strK s g (countR r n), moreR r n, 0) := by unfold countS; rw [if_neg h1, hr]; dsimp only; rw [if_neg h3, hrt]; rfl
      rw [e]
      have hok := h _ (aGet_mem hr)
      have hok : RowOk T r := hok
      have hn : 0 ≤ n ∧ n ≤ 1099511627776 := by
        have : countOk n = true := by cases hh : countOk n with
          | true => rfl
          | false => exact absurd hh h1
        unfold countOk at this
        simpa using this
      have he : eachR (countR r n) = true := by unfold rightR at hrt; rw [Bool.and_eq_true] at hrt; exact hrt.1
      have f0 := eachR_four hok.each (show 0 < 4 by omega)
      have f1 := eachR_four hok.each (show 1 < 4 by omega)
      have hlo := hok.lo
      have hhi := hok.hi
      have hbal := hok.bal
      have hmo : moreR r n = n - at_ r 1 - at_ r 0 := by
        unfold moreR
        have : wrap64 (n - at_ r 1) = n - at_ r 1 := by unfold wrap64; omega
        rw [this]
        unfold wrap64
        omega
      have w0 : wrap64 (at_ r 0 + moreR r n) = n - at_ r 1 := by rw [hmo]; unfold wrap64; omega
      have w6 : wrap64 (at_ r 6 + moreR r n) = at_ r 6 + (n - at_ r 1 - at_ r 0) := by rw [hmo]; unfold wrap64; omega
      have hq : countR r n = [n - at_ r 1, at_ r 1, at_ r 2, at_ r 3, at_ r 4, at_ r 5, at_ r 6 + (n - at_ r 1 - at_ r 0), at_ r 7, at_ r 8, at_ r 9, at_ r 10] := by
        unfold countR
        rw [w0, w6]
        conv => lhs; rw [row_eta hok.len]
        rfl
      have hqo : RowOk (T + 1) (countR r n) := by
        refine ⟨by rw [hq]; rfl, he, ?_, ?_, ?_⟩
        all_goals (rw [hq]; simp only [at_, List.getD_cons_zero, List.getD_cons_succ] at *; omega)
      refine ⟨put_ok hs.1 hqo, fun j => ?_⟩
      rw [rowG_put]
      by_cases hj : j = g
      · subst hj
        have hrg : rowG s j = r := by unfold rowG; rw [hr]; rfl
        rw [if_pos rfl, hrg, hq]
        exact ⟨rfl, rfl⟩
      · rw [if_neg hj]
        exact ⟨rfl, rfl⟩
def sumG (ss : List Stk) (j : Nat) (g : Key) : Int := (ss.map fun s => at_ (rowG s g) j).sum
/-- all is kept; of a good so many are on their way at least -/
structure Inv (ss : List Stk) (T : Nat) (a : Key → Int) : Prop where
  ok : ∀ s ∈ ss, ∀ p ∈ s, RowOk T p.2
  way : ∀ g, sumG ss 7 g + a g ≤ sumG ss 10 g
theorem sum_set : ∀ (l : List Int) (i : Nat) (hi : i < l.length) (x : Int), (l.set i x).sum = l.sum - l[i] + x
  | y :: r, 0, _, x => by simp only [List.set_cons_zero, List.sum_cons, List.getElem_cons_zero]; omega
  | y :: r, i + 1, hi, x => by
    simp only [List.set_cons_succ, List.sum_cons, List.getElem_cons_succ]
    rw [sum_set r i (by simpa using hi) x]
    omega
theorem sumG_set (ss : List Stk) (i : Nat) (hi : i < ss.length) (s' : Stk) (j : Nat) (g : Key) : sumG (ss.set i s') j g = sumG ss j g - at_ (rowG ss[i] g) j + at_ (rowG s' g) j := by
  unfold sumG
  rw [List.map_set, sum_set _ _ (by simpa using hi)]
  simp
theorem Inv.put {ss : List Stk} {T T' : Nat} {a a' : Key → Int} (h : Inv ss T a) (ht : T ≤ T') (i : Nat) (hi : i < ss.length) (s' : Stk) (hok : ∀ p ∈ s', RowOk T' p.2) (hw : ∀ g, at_ (rowG s' g) 7 - at_ (rowG ss[i] g) 7 + a' g ≤ at_ (rowG s' g) 10 - at_ (rowG ss[i] g) 10 + a g) : Inv (ss.set i s') T' a' := by
  refine ⟨fun s hs p hp => ?_, fun g => ?_⟩
  · rcases List.mem_or_eq_of_mem_set hs with h1 | h1
    · exact (h.ok s h1 p hp).more ht
    · exact hok p (h1 ▸ hp)
  · rw [sumG_set _ _ hi, sumG_set _ _ hi]
    have h1 := h.way g
    have h2 := hw g
    omega
theorem Inv.none {ss : List Stk} {T : Nat} {a : Key → Int} (h : Inv ss T a) (i : Nat) (hi : i < ss.length) : Inv (ss.set i ss[i]) T a := by rw [List.set_getElem_self]; exact h
theorem Inv.less {ss : List Stk} {T T' : Nat} {a a' : Key → Int} (h : Inv ss T a) (ht : T ≤ T') (ha : ∀ g, a' g ≤ a g) : Inv ss T' a' := ⟨fun s hs p hp => (h.ok s hs p hp).more ht, fun g => by have := h.way g; have := ha g; omega⟩
theorem Inv.count {ss : List Stk} {T : Nat} (h : Inv ss T fun _ => 0) (hT : T < 100) (i : Nat) (hi : i < ss.length) (g : Key) (n : Int) : Inv (ss.set i (countS ss[i] g n).1) (T + 1) fun _ => 0 := by
  obtain ⟨h1, h2⟩ := count_ok hT (h.ok _ (List.getElem_mem hi)) g n
  exact h.put (by omega) i hi _ h1 fun j => by have := h2 j; omega
theorem Inv.do_ {ss : List Stk} {T : Nat} (h : Inv ss T fun _ => 0) (hT : T < 100) (i : Nat) (hi : i < ss.length) (k : Int) (L : List It.Item) (h10 : k ≠ 10) (h11 : k ≠ 11) : Inv (ss.set i (doS ss[i] k L).1) (T + 1) fun _ => 0 := by
  rcases do_ok (by omega) (h.ok _ (List.getElem_mem hi)) k L with ⟨h1, -⟩ | ⟨-, -, h1, h2⟩
  · rw [h1]
    exact (h.none i hi).less (by omega) fun g => Int.le_refl _
  · refine Inv.less (h.put (Nat.le_refl T) i hi _ h1 (a' := fun _ => 0) fun j => ?_) (by omega) fun g => Int.le_refl _
    have := h2 j
    rw [if_neg h10, if_neg h11] at this
    omega
theorem Inv.send {ss : List Stk} {T : Nat} (h : Inv ss T fun _ => 0) (hT : T < 100) (i : Nat) (hi : i < ss.length) (L : List It.Item) (h0 : (doS ss[i] 10 L).2 = 0) : Inv (ss.set i (doS ss[i] 10 L).1) T (amt L) ∧ ∀ g, 0 ≤ amt L g := by
  rcases do_ok (by omega) (h.ok _ (List.getElem_mem hi)) 10 L with ⟨-, h1⟩ | ⟨-, hL, h1, h2⟩
  · exact absurd h0 h1
  · refine ⟨h.put (Nat.le_refl T) i hi _ h1 fun j => ?_, amt_nonneg hL⟩
    have := h2 j
    simp only [if_true] at this
    have e : ((10 : Int) = 11) = False := by simp
    simp only [e, if_false] at this
    omega
theorem Inv.sent {ss : List Stk} {T : Nat} (h : Inv ss T fun _ => 0) (hT : T < 100) (i : Nat) (hi : i < ss.length) (L : List It.Item) (h0 : (doS ss[i] 10 L).2 ≠ 0) : Inv (ss.set i (doS ss[i] 10 L).1) (T + 1) fun _ => 0 := by
  rcases do_ok (by omega) (h.ok _ (List.getElem_mem hi)) 10 L with ⟨h1, -⟩ | ⟨h1, -⟩
  · rw [h1]
    exact (h.none i hi).less (by omega) fun g => Int.le_refl _
  · exact absurd h1 h0
theorem Inv.come {ss : List Stk} {T : Nat} {L : List It.Item} (h : Inv ss T (amt L)) (h0 : ∀ g, 0 ≤ amt L g) (hT : T < 100) (i : Nat) (hi : i < ss.length) : Inv (ss.set i (doS ss[i] 11 L).1) (T + 1) fun _ => 0 := by
  rcases do_ok (by omega) (h.ok _ (List.getElem_mem hi)) 11 L with ⟨h1, -⟩ | ⟨-, hL, h1, h2⟩
  · rw [h1]
    exact (h.none i hi).less (by omega) h0
  · refine Inv.less (h.put (Nat.le_refl T) i hi _ h1 (a' := fun _ => 0) fun j => ?_) (by omega) fun g => Int.le_refl _
    have := h2 j
    simp only [if_true] at this
    have e : ((11 : Int) = 10) = False := by simp
    simp only [e, if_false] at this
    omega
theorem Inv.new (n : Nat) : Inv (List.replicate n []) 0 fun _ => 0 := by
  refine ⟨(fun s hs p hp => by rw [List.eq_of_mem_replicate hs] at hp; cases hp), fun g => ?_⟩
  unfold sumG
  have : ∀ j, ((List.replicate n ([] : Stk)).map fun s => at_ (rowG s g) j).sum = n * at_ row0 j := fun j => by
    rw [List.map_replicate]
    induction n with
    | zero => simp
    | succ k ih => rw [List.replicate_succ, List.sum_cons, ih]; rw [show rowG [] g = row0 from rfl]; push_cast; rw [Int.add_mul]; omega
  rw [this, this]
  have e7 : at_ row0 7 = 0 := rfl
  have e10 : at_ row0 10 = 0 := rfl
  rw [e7, e10]
  omega
theorem at_add (a b : Row) (j : Nat) (hj : j < 11) : at_ (addRow a b) j = wrap64 (at_ a j + at_ b j) := by
  unfold addRow
  conv => lhs; unfold at_
  rw [List.getD_eq_getElem?_getD, List.getElem?_map, List.getElem?_range hj]
  rfl
theorem tot_exact {ss : List Stk} {T : Nat} (hT : T ≤ 100) (h : ∀ s ∈ ss, ∀ p ∈ s, RowOk T p.2) (hl : ss.length ≤ 5) (g : Key) (j : Nat) (hj : j < 11) : at_ (totR ss g) j = sumG ss j g ∧ -(ss.length * 144115188075855872 : Int) ≤ sumG ss j g ∧ sumG ss j g ≤ ss.length * 144115188075855872 := by
  generalize hn : ss.length = n
  rw [← hn]
  induction n generalizing ss with
  | zero =>
    obtain rfl := List.length_eq_zero_iff.1 hn
    have e : at_ (totR [] g) j = 0 := by
      show at_ row0 j = 0
      unfold row0 at_
      rw [List.getD_eq_getElem?_getD, List.getElem?_replicate]
      split <;> rfl
    exact ⟨e, by simp [sumG], by simp [sumG]⟩
  | succ n ih =>
    rcases List.eq_nil_or_concat ss with rfl | ⟨r, s, rfl⟩
    · cases hn
    rw [List.concat_eq_append] at *
    have hl' : r.length ≤ 4 := by simp at hl; omega
    obtain ⟨i1, i2, i3⟩ := ih (ss := r) (fun t ht => h t (by simp [ht])) (by omega) (by simpa using hn)
    have hb := (rowG_ok (h s (by simp)) g).bd hT j
    have e : sumG (r ++ [s]) j g = sumG r j g + at_ (rowG s g) j := by unfold sumG; simp
    rw [totR_snoc, at_add _ _ _ hj, i1, e]
    have hrg : at_ ((aGet s g).getD row0) j = at_ (rowG s g) j := rfl
    rw [hrg]
    simp only [List.length_append, List.length_cons, List.length_nil]
    push_cast
    refine ⟨?_, by omega, by omega⟩
    unfold wrap64
    omega
theorem kept_far (a0 a1 a2 a3 a4 a5 a6 a7 a8 a9 a10 way : Int) (h : ∀ x ∈ [a0, a1, a2, a3, way, a4, a5, a6, a8, a9], -1500000000000000000 ≤ x ∧ x ≤ 1500000000000000000) :
    keptT a0 a1 a2 a3 a4 a5 a6 a7 a8 a9 a10 way = (decide (0 ≤ way) && decide (a0 + a1 + a2 + a3 + way = a4 + a5 + a6 - a8 - a9)) := by
  simp only [List.forall_mem_cons, List.not_mem_nil, false_implies, implies_true, and_true] at h
  obtain ⟨h0, h1, h2, h3, h4, h5, h6, h7, h8, h9⟩ := h
  unfold keptT
  have w1 : wrap64 (a0 + a1) = a0 + a1 := by unfold wrap64; omega
  have w2 : wrap64 (a0 + a1 + a2) = a0 + a1 + a2 := by unfold wrap64; omega
  have w3 : wrap64 (a0 + a1 + a2 + a3) = a0 + a1 + a2 + a3 := by unfold wrap64; omega
  have w4 : wrap64 (a0 + a1 + a2 + a3 + way) = a0 + a1 + a2 + a3 + way := by unfold wrap64; omega
  have v1 : wrap64 (a4 + a5) = a4 + a5 := by unfold wrap64; omega
  have v2 : wrap64 (a4 + a5 + a6) = a4 + a5 + a6 := by unfold wrap64; omega
  have v3 : wrap64 (a4 + a5 + a6 - a8) = a4 + a5 + a6 - a8 := by unfold wrap64; omega
  have v4 : wrap64 (a4 + a5 + a6 - a8 - a9) = a4 + a5 + a6 - a8 - a9 := by unfold wrap64; omega
  rw [w1, w2, w3, w4, v1, v2, v3, v4]
  rfl
theorem sum_bal {ss : List Stk} {T : Nat} (h : ∀ s ∈ ss, ∀ p ∈ s, RowOk T p.2) (g : Key) : sumG ss 0 g + sumG ss 1 g + sumG ss 2 g + sumG ss 3 g = sumG ss 4 g + sumG ss 5 g + sumG ss 6 g + sumG ss 7 g - sumG ss 8 g - sumG ss 9 g - sumG ss 10 g := by
  induction ss with
  | nil => rfl
  | cons s r ih =>
    have i := ih fun t ht => h t (List.mem_cons_of_mem _ ht)
    have b := (rowG_ok (h s (by simp)) g).bal
    have e : ∀ j, sumG (s :: r) j g = at_ (rowG s g) j + sumG r j g := fun j => by unfold sumG; rfl
    simp only [e]
    omega
theorem Inv.kept {ss : List Stk} {T : Nat} (h : Inv ss T fun _ => 0) (hT : T ≤ 100) (hl : ss.length ≤ 5) (g : Key) : kpS ss g = true := by
  have e := fun j hj => tot_exact hT h.ok hl g j hj
  have e0 := e 0 (by omega)
  have e1 := e 1 (by omega)
  have e2 := e 2 (by omega)
  have e3 := e 3 (by omega)
  have e4 := e 4 (by omega)
  have e5 := e 5 (by omega)
  have e6 := e 6 (by omega)
  have e7 := e 7 (by omega)
  have e8 := e 8 (by omega)
  have e9 := e 9 (by omega)
  have e10 := e 10 (by omega)
  have hb := sum_bal h.ok g
  have hw := h.way g
  have hway : wayT (totR ss g) = sumG ss 10 g - sumG ss 7 g := by
    unfold wayT
    rw [e10.1, e7.1]
    unfold wrap64
    omega
  unfold kpS
  rw [e0.1, e1.1, e2.1, e3.1, e4.1, e5.1, e6.1, e7.1, e8.1, e9.1, e10.1, hway, kept_far]
  · rw [Bool.and_eq_true, decide_eq_true_eq, decide_eq_true_eq]
    omega
  · simp only [List.forall_mem_cons, List.not_mem_nil, false_implies, implies_true, and_true]
    omega
theorem Inv.all {ss : List Stk} {T : Nat} (h : Inv ss T fun _ => 0) (hT : T ≤ 100) (hl : ss.length ≤ 5) : allS ss = true := by
  unfold allS
  rw [List.all_eq_true]
  exact fun k _ => h.kept hT hl k
end Sk
end Go.Proofs.Ytlhpdalfnjhokaa

namespace Go.Proofs.Ytlhpdalfnjhokaa
open Go.ChangeShapes Go.WideShapes Go.ChangeAt Go.RowKit

theorem own : ownKnob Try.prog.godebug = none := by kernel_rfl
theorem laidOut : laidOutB Try.prog = true := by kernel_rfl

section
variable {H : Type} {enc : TypeId × Value → H} {P : Program}
/-- all arguments read as they did -/
theorem trodAll_stays (hl : laidOutB P = true) {W W' : World} (hb : Below W.heap.size W W') {sp : Nat → Bool} :
    ∀ {ts : List TypeId} {vs : List Value} {ds : List (DataW H)} {ps : List MemPlace}, ts.all (fun t => P.readableRec t && decide (t < P.types.size)) = true →
      DataW.TrodAll enc P W 0 (fun _ => true) true ts vs ds ps → (∀ p ∈ ps, p.block < W.heap.size) → (∀ p ∈ ps, sp p.block = true) → DataW.TrodAll enc P W' 0 sp true ts vs ds ps
  | [], vs, ds, ps, _, h, _, _ => by
    obtain ⟨rfl, rfl, rfl⟩ := trodAll_nil h
    exact trodAll_mk0
  | t :: ts, vs, ds, ps, hr, h, hlt, hs => by
    obtain ⟨v, vs', d, ds', p, q, rfl, rfl, rfl, h1, h2⟩ := trodAll_cons h
    simp only [List.all_cons, Bool.and_eq_true, decide_eq_true_eq] at hr
    exact trodAll_cons_mk (WideElems.Trod_stays hl hr.1.1 hr.1.2 h1 (fun x hx => hb.same (hlt x (List.mem_append_left _ hx))) (fun x hx => hs x (List.mem_append_left _ hx)))
      (trodAll_stays hl hb (by simpa using hr.2) h2 (fun x hx => hlt x (List.mem_append_right _ hx)) (fun x hx => hs x (List.mem_append_right _ hx)))

theorem law_post {f : Func} {s : ChangeSpec} {W W' : World} {args : Array Value} {ds gs : List (DataW H)} {before : List MemPlace} {tb : TypeId} (hl : laidOutB P = true)
    (hpar : f.params.toList.all (fun t => P.readableRec t && decide (t < P.types.size)) = true) (hrt : f.resultTypes = #[tb]) (ht : P.underlying tb = some .bool) (hv : s.vars = [])
    (hW : DataW.Whole enc P f.params.toList s.vars false W args.toList ds gs before) (hfn : s.fn H (ds ++ gs) = { results := [.lit (.bool true)], args := ds }) (hb : Below W.heap.size W W') :
    s.post enc P f false true false false W args (.bool true) W' := by
  obtain ⟨p, q, hA, hV, hps, hz, hn⟩ := id hW
  have hlt : ∀ x ∈ before, x.block < W.heap.size := fun x hx => hW.lt x hx
  have hq : q = [] := by
    rw [hv] at hV
    cases gs with
    | nil => exact hV
    | cons g gs => exact hV.elim
  subst hq
  rw [List.append_nil] at hps
  subst hps
  have hargs : ∀ sp : Nat → Bool, (∀ x ∈ before, sp x.block = true) → DataW.TrodAll enc P W' 0 sp true f.params.toList args.toList (s.fn H (ds ++ gs)).args before := fun sp hs => by
    rw [hfn]
    exact trodAll_stays hl hb hpar hA hlt hs
  have hres : ∀ (b : Nat) (sp : Nat → Bool) (hd : Bool), DataW.TrodAll enc P W' b sp hd f.resultTypes.toList ((Value.bool true).resultList f.resultTypes.size) (s.fn H (ds ++ gs)).results [] := fun b sp hd => by
    rw [hfn, hrt]
    exact trodAll_mk1 (shut_bool ht true)
  have hvars : ∀ sp : Nat → Bool, DataW.TrodVars enc P W' sp s.vars (s.fn H (ds ++ gs)).vars [] := fun sp => by
    rw [hfn, hv]
    rfl
  refine ⟨ds, gs, before, [], before, [], hW, hres _ _ _, hargs _ (fun x hx => by simpa using hlt x hx), hvars _, World.keptBut_mono (fun x hx => ⟨hx, .inr (.inl hx)⟩) (hb.frame (· ∈ before)), fun _ => ?_⟩
  refine ⟨ok_one hrt rfl (okWide_bool_mk ht _), _, _, ([] ++ before) ++ [], ⟨[] ++ before, [], trodAll_append (hargs _ (fun _ _ => rfl)) (hres _ _ _), hvars _, rfl, ?_, ?_⟩, ?_⟩
  · intro b off hp
    have hin : MemPlace.cell b off ∈ before := by simpa using hp
    rw [hb.frozen (hlt _ hin)]
    exact hz b off hin
  · intro ha; cases ha
  · intro x hx _
    simpa using hx
end
end Go.Proofs.Ytlhpdalfnjhokaa

namespace Go.Proofs.Ytlhpdalfnjhokaa
open Go.ChangeShapes Go.WideShapes Go.Deep Go.RowKit Go.ChangeAt

section
variable {H : Type} {enc : TypeId × Value → H} {P : Program} {w : World} {base : Nat} {spare : Nat → Bool} {held : Bool}
theorem open_slice_fields {t e : TypeId} {fs : Array Field} {fuel : Nat} {cs : List Value} {x : DataW H × List MemPlace} (ht : P.underlying t = some (.slice e)) (he : P.underlying e = some (.struct fs))
    (hone : oneCellFields P fs = true) (hC : P.cellsOf e = fs.size) (h : DataW.trod enc P w base spare held fuel t cs = some x) :
    (cs = [.slice none 0 0] ∧ x = (.nil, [])) ∨
    ∃ (a : Addr) (len cap m : Nat) (D : Nat → DataW H) (Pl : Nat → List MemPlace), cs = [.slice (some a) len cap] ∧ base ≤ a.block ∧ len ≤ cap ∧ cap ≤ maxLen ∧ m = (if spare a.block then cap else len) ∧
      x = (.slice ((List.range len).map D) ((List.range (m - len)).map fun j => D (len + j)), MemPlace.row a (m * fs.size) ++ (List.range m).flatMap Pl) ∧
      ∀ i, i < m → ∃ (ys : List (DataW H × List MemPlace)) (n : Nat), D i = .agg (ys.map (·.1)) ∧ Pl i = ys.flatMap (·.2) ∧ ys.length = fs.size ∧
        ∀ (j : Nat) (f : Field), fs[j]? = some f → ∃ (v : Value) (y : DataW H × List MemPlace), w.cell? (a.add (i * fs.size + j)) = some v ∧ ys[j]? = some y ∧ DataW.trod enc P w base spare held n f.type [v] = some y := by
  rcases open_slice ht h with h0 | ⟨a, len, cap, m, n, D, Pl, hcs, hb, hl, hm, hmm, hx, hi⟩
  · exact .inl h0
  · refine .inr ⟨a, len, cap, m, D, Pl, hcs, hb, hl, hm, hmm, by rw [hC] at hx; exact hx, fun i him => ?_⟩
    obtain ⟨cs', hc, ht'⟩ := hi i him
    rw [hC] at hc
    obtain ⟨ys, n', hn', hy, hlen, hyl, hf⟩ := DataW.trod_struct he ht'
    obtain ⟨_, hcl, hat⟩ := World.cells?_some hc
    simp only [Prod.mk.injEq] at hy
    refine ⟨ys, n', hy.1, hy.2, hyl, fun j f hj => ?_⟩
    obtain ⟨ho, hk⟩ := hone_of hone j f hj
    have hjl : j < fs.size := (Array.getElem?_eq_some_iff.1 hj).1
    have hcell := hat j hjl
    have hv : cs'[j]? = some (cs'[j]'(by omega)) := List.getElem?_eq_getElem (by omega)
    have h1 := hf j f hj
    rw [ho, hk] at h1
    have hone' : (cs'.drop j).take 1 = [cs'[j]'(by omega)] := by
      rw [List.drop_eq_getElem_cons (by omega)]
      rfl
    rw [hone'] at h1
    have hys : ys[j]? = some (ys[j]'(by omega)) := List.getElem?_eq_getElem (by omega)
    refine ⟨_, _, ?_, hys, h1.trans hys⟩
    rw [← Go.Deep.add_add, hcell, hv]

theorem cell_addr {w : World} {a : Addr} {v : Value} (h : w.cell? a = some v) : a.spot = none ∧ a.block < w.heap.size := by
  unfold World.cell? at h
  split at h
  · rename_i c _ _ hc
    refine ⟨?_, (Array.getElem?_eq_some_iff.1 hc).1⟩
    cases hs : a.spot with
    | none => rfl
    | some x => rw [hs] at h; simp at h
  · cases h
theorem addr_add (b o j : Nat) : (⟨b, o, none⟩ : Addr).add j = ⟨b, o + j, none⟩ := by unfold Addr.add; split <;> simp_all

/-- a list out of its elements' readings -/
theorem list_of {α : Type} (n : Nat) (p : Nat → α → Prop) (h : ∀ i, i < n → ∃ x, p i x) : ∃ l : List α, l.length = n ∧ ∀ i (hi : i < l.length), p i l[i] := by
  induction n with
  | zero => exact ⟨[], rfl, fun i hi => by simp at hi⟩
  | succ n ih =>
    obtain ⟨l, hl, hp⟩ := ih fun i hi => h i (by omega)
    obtain ⟨x, hx⟩ := h n (by omega)
    refine ⟨l ++ [x], by simp [hl], fun i hi => ?_⟩
    simp only [List.length_append, List.length_cons, List.length_nil] at hi
    by_cases e : i < l.length
    · rw [List.getElem_append_left e]; exact hp i e
    · obtain rfl : i = l.length := by omega
      simpa [hl] using hx
end
namespace It
theorem ItemsAt.mk {w : World} {lo B b o n c : Nat} {L : List Item} (hn : L.length = n) (h1 : n ≤ c) (h2 : c ≤ maxLen) (hlo : lo ≤ b) (hB : b < B)
    (h : ∀ i (hi : i < L.length), w.cell? ⟨b, o + i * 2, none⟩ = some (.string L[i].1) ∧ w.cell? ⟨b, o + i * 2 + 1, none⟩ = some (.int .i64 L[i].2)) : ItemsAt w lo B (.slice (some ⟨b, o, none⟩) n c) L := by
  subst hn
  refine ⟨itemCells_length L, _, _, rfl, h1, h2, fun _ => ⟨b, o, rfl, hlo, hB, fun j hj => ?_⟩⟩
  have hd := Nat.div_add_mod j 2
  have hm := Nat.mod_lt j (show 0 < 2 by omega)
  have hq : j / 2 < L.length := by omega
  obtain ⟨g1, g2⟩ := itemCells_get L (j / 2) hq
  obtain ⟨c1, c2⟩ := h (j / 2) hq
  rcases Nat.lt_or_ge (j % 2) 1 with hr | hr
  · obtain e : j = j / 2 * 2 := by omega
    rw [e, g1, ← c1]
  · obtain e : j = j / 2 * 2 + 1 := by omega
    rw [e, g2, ← c2]
    congr 2

set_option maxRecDepth 100000 in
theorem items_of_trod {H : Type} {enc : TypeId × Value → H} {W : World} {v : Value} {x : DataW H × List MemPlace} {held : Bool} {fuel : Nat} (hf : DataW.trod enc Try.prog W 0 (fun _ => true) held fuel 55 [v] = some x) :
    ∃ L : List Item, ItemsAt W 0 W.heap.size v L ∧ Fits L ∧ ((x.1 = .nil ∧ L = []) ∨ ∃ es sp, x.1 = .slice es sp ∧ es.length = L.length) := by
  rcases open_slice_fields Try.underlying55 Try.underlying64 (by kernel_rfl) (by kernel_rfl) hf with ⟨h1, h2⟩ | ⟨a, n, c, m, D, Pl, hcs, hb, hl, hm, hmm, hx, hi⟩
  · simp only [List.cons.injEq, and_true] at h1
    cases h1
    exact ⟨[], ItemsAt.nil _ _ _, (fun x hx => by cases hx), .inl ⟨by rw [h2], rfl⟩⟩
  · simp only [List.cons.injEq, and_true] at hcs
    cases hcs
    simp only [if_true] at hmm
    subst hmm
    have hel : ∀ i, i < n → ∃ x : Item, W.cell? (a.add (i * 2)) = some (.string x.1) ∧ W.cell? (a.add (i * 2 + 1)) = some (.int .i64 x.2) ∧ x.1.size ≤ maxLen ∧ -9223372036854775808 ≤ x.2 ∧ x.2 ≤ 9223372036854775807 := by
      intro i hin
      obtain ⟨ys, n', _, _, _, hf⟩ := hi i (by omega)
      obtain ⟨v0, y0, c0, _, t0⟩ := hf 0 _ rfl
      obtain ⟨v1, y1, c1, _, t1⟩ := hf 1 _ rfl
      obtain ⟨s, e0, _, hs⟩ := DataW.trod_string Try.underlying9 t0
      obtain ⟨k, e1, _, hk⟩ := DataW.trod_int Try.underlying3 t1
      simp only [List.cons.injEq, and_true] at e0 e1
      subst e0 e1
      have hkb : -9223372036854775808 ≤ k ∧ k ≤ 9223372036854775807 := by simpa [Lit.wf, IntKind.min, IntKind.max, IntKind.signed, IntKind.bits] using hk
      exact ⟨(s, k), c0, c1, hs, hkb.1, hkb.2⟩
    obtain ⟨L, hLn, hL⟩ := list_of n _ hel
    have hfit : Fits L := fun x hx => by
      obtain ⟨i, hi, rfl⟩ := List.getElem_of_mem hx
      exact (hL i hi).2.2
    refine ⟨L, ?_, hfit, .inr ⟨_, _, by rw [hx], by simp [hLn]⟩⟩
    rcases Nat.eq_zero_or_pos n with h0 | h0
    · subst h0
      obtain rfl : L = [] := List.eq_nil_of_length_eq_zero hLn
      exact ⟨rfl, _, _, rfl, hl, hm, fun h => by omega⟩
    · have h1 := cell_addr (hL 0 (by omega)).1
      obtain ⟨b, o, sp⟩ := a
      have hsp : sp = none := by
        have := h1.1
        unfold Addr.add at this
        simpa using this
      subst hsp
      have hb : b < W.heap.size := by
        have := h1.2
        rw [addr_add] at this
        exact this
      refine ItemsAt.mk hLn hl hm (Nat.zero_le _) hb fun i hi => ?_
      have := hL i hi
      rw [addr_add, addr_add] at this
      exact ⟨this.1, by rw [← this.2.1]; congr 2⟩

set_option maxRecDepth 100000 in
/-- an argument that is a slice of items -/
theorem open_items {H : Type} {enc : TypeId × Value → H} {W : World} {base : Nat} {v : Value} {d : DataW H} {p : List MemPlace} {held : Bool} (hval : Value.okWide Try.prog W .any base 55 v)
    (h : DataW.Trod enc Try.prog W 0 (fun _ => true) held 55 v d p) :
    ∃ L : List Item, ItemsAt W 0 W.heap.size v L ∧ Fits L ∧ ((d = .nil ∧ L = []) ∨ ∃ es sp, d = .slice es sp ∧ es.length = L.length) := by
  obtain ⟨A, n, c, rfl⟩ := okWide_slice Try.underlying55 hval
  obtain ⟨fuel, hf⟩ := h
  exact items_of_trod hf
theorem items_bytes : Try.prog.bytesOf 64 = 24 := by kernel_rfl
theorem items_reach {H : Type} {ts : List TypeId} {ds : List (DataW H)} {j : Nat} {d : DataW H} {L : List Item} (h : (DataW.weightsEach Try.prog ts ds).all (· ≤ reachBytes) = true) (ht : ts[j]? = some 55) (hd : ds[j]? = some d)
    (hx : (d = .nil ∧ L = []) ∨ ∃ es sp, d = .slice es sp ∧ es.length = L.length) : L.length * 24 ≤ 140737488351232 := by
  rcases hx with ⟨_, rfl⟩ | ⟨es, sp, rfl, hl⟩
  · simp
  · have := sized_slice h ht hd Try.underlying55
    rw [items_bytes] at this
    unfold reachBytes at this
    have h2 : es.length * 24 ≤ (es.length + sp.length) * 24 := Nat.mul_le_mul_right _ (Nat.le_add_right _ _)
    omega
end It
end Go.Proofs.Ytlhpdalfnjhokaa

namespace Go.Proofs.Ytlhpdalfnjhokaa
open Go.ChangeShapes Go.WideShapes Go.Deep Go.RowKit Go.ChangeAt
section
variable {H : Type} {enc : TypeId × Value → H} {P : Program} {W : World} {held : Bool}
theorem slice_of_trod {t e : TypeId} {C fuel : Nat} {v : Value} {x : DataW H × List MemPlace} (ht : P.underlying t = some (.slice e)) (hC : P.cellsOf e = C) (hpos : 0 < C) (hf : DataW.trod enc P W 0 (fun _ => true) held fuel t [v] = some x) :
    ∃ (A : Option Addr) (n c : Nat), v = .slice A n c ∧ n ≤ c ∧ c ≤ maxLen ∧
      (∀ i, i < n → ∃ (b o : Nat) (cs : List Value) (y : DataW H × List MemPlace) (fuel' : Nat), A = some ⟨b, o, none⟩ ∧ b < W.heap.size ∧ cs.length = C ∧ (∀ j w, cs[j]? = some w → W.cell? ⟨b, o + i * C + j, none⟩ = some w) ∧ DataW.trod enc P W 0 (fun _ => true) held fuel' e cs = some y) ∧
      ((x.1 = .nil ∧ n = 0) ∨ ∃ es sp, x.1 = .slice es sp ∧ es.length = n) := by
  rcases open_slice ht hf with ⟨h1, h2⟩ | ⟨a, n, c, m, k, D, Pl, hcs, hb, hl, hm, hmm, hx, hi⟩
  · simp only [List.cons.injEq, and_true] at h1
    cases h1
    exact ⟨none, 0, 0, rfl, Nat.le_refl _, by unfold maxLen; omega, fun i hi => by omega, .inl ⟨by rw [h2], rfl⟩⟩
  · simp only [List.cons.injEq, and_true] at hcs
    cases hcs
    simp only [if_true] at hmm
    subst hmm
    rw [hC] at hi
    refine ⟨some a, n, _, rfl, hl, hm, fun i hin => ?_, .inr ⟨_, _, by rw [hx], by simp⟩⟩
    obtain ⟨cs0, hz, -⟩ := hi 0 (by omega)
    obtain ⟨_, hzl, hzt⟩ := World.cells?_some hz
    obtain ⟨w0, hw0⟩ : ∃ w, cs0[0]? = some w := ⟨_, List.getElem?_eq_getElem (by omega)⟩
    have hc0 := hzt (i := 0) hpos
    rw [hw0, Go.Deep.add_add] at hc0
    have hca := cell_addr hc0
    obtain ⟨cs', hc, ht'⟩ := hi i (by omega)
    obtain ⟨_, hcl, hat⟩ := World.cells?_some hc
    obtain ⟨b, o, sp⟩ := a
    have hsp : sp = none := by
      have := hca.1
      unfold Addr.add at this
      simpa using this
    subst hsp
    refine ⟨b, o, cs', _, _, rfl, ?_, hcl, fun j w hj => ?_, ht'⟩
    · have := hca.2
      rw [addr_add] at this
      exact this
    · have hjl : j < C := by rw [← hcl]; exact (List.getElem?_eq_some_iff.1 hj).1
      have := hat (i := j) hjl
      rw [hj, Go.Deep.add_add, addr_add] at this
      rw [← this]
      congr 2
      omega
end
end Go.Proofs.Ytlhpdalfnjhokaa

namespace Go.Proofs.Ytlhpdalfnjhokaa
open Go.ChangeShapes Go.WideShapes Go.Deep Go.RowKit Go.ChangeAt
namespace Sk
open It
/-- a call that a law of stocks makes -/
structure OpV where
  kd : Int
  l : List It.Item
  g : ByteArray
  n : Int
structure OkOp (o : OpV) : Prop where
  kd : -9223372036854775808 ≤ o.kd ∧ o.kd ≤ 9223372036854775807
  l : Fits o.l
  g : o.g.size ≤ maxLen
  n : -9223372036854775808 ≤ o.n ∧ o.n ≤ 9223372036854775807
def opC (o : OpV) (lv : Value) : List Value := [.int .i64 o.kd, lv, .string o.g, .int .i64 o.n]
section
variable {H : Type} {enc : TypeId × Value → H} {W : World} {held : Bool} {fuel : Nat}
set_option maxRecDepth 100000 in
theorem op_of_trod {cs : List Value} {x : DataW H × List MemPlace} (hf : DataW.trod enc Try.prog W 0 (fun _ => true) held fuel 57 cs = some x) :
    ∃ (o : OpV) (lv : Value), cs = opC o lv ∧ OkOp o ∧ ItemsAt W 0 W.heap.size lv o.l := by
  obtain ⟨ys, n, hn, hy, hlen, hyl, hfs⟩ := DataW.trod_struct Try.underlying57 hf
  have hl4 : cs.length = 4 := hlen.trans (by kernel_rfl)
  obtain ⟨v0, v1, v2, v3, rfl⟩ : ∃ v0 v1 v2 v3, cs = [v0, v1, v2, v3] := by
    match cs, hl4 with
    | [a, b, c, d], _ => exact ⟨a, b, c, d, rfl⟩
  have hys : ∀ j, j < 4 → ∃ y, ys[j]? = some y := fun j hj => ⟨_, List.getElem?_eq_getElem (by rw [hyl]; exact hj)⟩
  have fld := fun (j : Nat) (f : Field) hj => by
    obtain ⟨ho, hk⟩ := hone_of (P := Try.prog) (by kernel_rfl) j f hj
    have := hfs j f hj
    rw [ho, hk] at this
    exact this
  have g0 := fld 0 _ rfl
  have g1 := fld 1 _ rfl
  have g2 := fld 2 _ rfl
  have g3 := fld 3 _ rfl
  obtain ⟨y0, e0⟩ := hys 0 (by omega)
  obtain ⟨y1, e1⟩ := hys 1 (by omega)
  obtain ⟨y2, e2⟩ := hys 2 (by omega)
  obtain ⟨y3, e3⟩ := hys 3 (by omega)
  rw [e0] at g0
  rw [e1] at g1
  rw [e2] at g2
  rw [e3] at g3
  obtain ⟨k0, c0, _, hk0⟩ := DataW.trod_int Try.underlying3 (show DataW.trod enc Try.prog W 0 (fun _ => true) held n 3 [v0] = some y0 from g0)
  obtain ⟨L, h1, h2, -⟩ := items_of_trod (v := v1) g1
  obtain ⟨g, c2, -, hg⟩ := DataW.trod_string Try.underlying9 (show DataW.trod enc Try.prog W 0 (fun _ => true) held n 9 [v2] = some y2 from g2)
  obtain ⟨k3, c3, _, hk3⟩ := DataW.trod_int Try.underlying3 (show DataW.trod enc Try.prog W 0 (fun _ => true) held n 3 [v3] = some y3 from g3)
  simp only [List.cons.injEq, and_true] at c0 c2 c3
  subst c0 c2 c3
  refine ⟨⟨k0, L, g, k3⟩, v1, rfl, ⟨?_, h2, hg, ?_⟩, h1⟩
  · simpa [Lit.wf, IntKind.min, IntKind.max, IntKind.signed, IntKind.bits] using hk0
  · simpa [Lit.wf, IntKind.min, IntKind.max, IntKind.signed, IntKind.bits] using hk3
/-- a slice of ops, all below B -/
def OpsAt (w : World) (B : Nat) (v : Value) (os : List OpV) : Prop :=
  ∃ A c, v = .slice A os.length c ∧ os.length ≤ c ∧ c ≤ maxLen ∧ ∀ j (h : j < os.length), ∃ b p lv, A = some ⟨b, p, none⟩ ∧ b < B ∧ ItemsAt w 0 B lv os[j].l ∧ ∀ i v, (opC os[j] lv)[i]? = some v → w.cell? ⟨b, p + j * 4 + i, none⟩ = some v
theorem OpsAt.below {w w' : World} {B : Nat} {v : Value} {os : List OpV} (h : OpsAt w B v os) (hb : Below B w w') : OpsAt w' B v os := by
  obtain ⟨A, c, e, h1, h2, h3⟩ := h
  refine ⟨A, c, e, h1, h2, fun j hj => ?_⟩
  obtain ⟨b, p, lv, ea, hbB, hI, hc⟩ := h3 j hj
  exact ⟨b, p, lv, ea, hbB, hI.below hb, fun i v hv => (hb.cell (p := ⟨b, p + j * 4 + i, none⟩) hbB).trans (hc i v hv)⟩
theorem OpsAt.form {w : World} {B : Nat} {v : Value} {os : List OpV} (h : OpsAt w B v os) : ∃ A c, v = .slice A os.length c ∧ os.length ≤ c ∧ c ≤ maxLen := by
  obtain ⟨A, c, e, h1, h2, -⟩ := h
  exact ⟨A, c, e, h1, h2⟩
theorem OpsAt.at_ {w : World} {B n c j : Nat} {A : Option Addr} {os : List OpV} (h : OpsAt w B (.slice A n c) os) (hj : j < os.length) : ∃ b p lv, A = some ⟨b, p, none⟩ ∧ b < B ∧ ItemsAt w 0 B lv os[j].l ∧
    w.cell? ⟨b, p + j * 4, none⟩ = some (.int .i64 os[j].kd) ∧ w.cell? ⟨b, p + j * 4 + 1, none⟩ = some lv ∧ w.cell? ⟨b, p + j * 4 + 2, none⟩ = some (.string os[j].g) ∧ w.cell? ⟨b, p + j * 4 + 3, none⟩ = some (.int .i64 os[j].n) := by
  obtain ⟨A', c', e, h1, h2, h3⟩ := h
  cases e
  obtain ⟨b, p, lv, ea, hbB, hI, hc⟩ := h3 j hj
  exact ⟨b, p, lv, ea, hbB, hI, hc 0 _ rfl, hc 1 _ rfl, hc 2 _ rfl, hc 3 _ rfl⟩
theorem ops_of_trod {v : Value} {x : DataW H × List MemPlace} (hf : DataW.trod enc Try.prog W 0 (fun _ => true) held fuel 52 [v] = some x) :
    ∃ os : List OpV, OpsAt W W.heap.size v os ∧ (∀ o ∈ os, OkOp o) ∧ ((x.1 = .nil ∧ os = []) ∨ ∃ es sp, x.1 = .slice es sp ∧ es.length = os.length) := by
  obtain ⟨A, n, c, rfl, h1, h2, h3, h4⟩ := slice_of_trod Try.underlying52 (show Try.prog.cellsOf 57 = 4 by kernel_rfl) (by omega) hf
  have hel : ∀ i, i < n → ∃ x : OpV, OkOp x ∧ ∃ b p lv, A = some ⟨b, p, none⟩ ∧ b < W.heap.size ∧ ItemsAt W 0 W.heap.size lv x.l ∧ ∀ j v, (opC x lv)[j]? = some v → W.cell? ⟨b, p + i * 4 + j, none⟩ = some v := by
    intro i hin
    obtain ⟨b, o, cs, y, f', ea, hbW, hcl, hat, ht⟩ := h3 i hin
    obtain ⟨op, lv, e, k1, k2⟩ := op_of_trod ht
    subst e
    exact ⟨op, k1, b, o, lv, ea, hbW, k2, hat⟩
  obtain ⟨os, hLn, hL⟩ := list_of n _ hel
  subst hLn
  refine ⟨os, ⟨A, c, rfl, h1, h2, fun j hj => (hL j hj).2⟩, fun o ho => ?_, ?_⟩
  · obtain ⟨i, hi, rfl⟩ := List.getElem_of_mem ho
    exact (hL i hi).1
  · rcases h4 with ⟨h5, h6⟩ | h5
    · exact .inl ⟨h5, List.eq_nil_of_length_eq_zero h6⟩
    · exact .inr h5
/-- a slice of slices of ops -/
def OpssAt (w : World) (B : Nat) (v : Value) (ls : List (List OpV)) : Prop :=
  ∃ A c, v = .slice A ls.length c ∧ ls.length ≤ c ∧ c ≤ maxLen ∧ ∀ j (h : j < ls.length), ∃ b p v', A = some ⟨b, p, none⟩ ∧ b < B ∧ w.cell? ⟨b, p + j, none⟩ = some v' ∧ OpsAt w B v' ls[j]
theorem OpssAt.below {w w' : World} {B : Nat} {v : Value} {ls : List (List OpV)} (h : OpssAt w B v ls) (hb : Below B w w') : OpssAt w' B v ls := by
  obtain ⟨A, c, e, h1, h2, h3⟩ := h
  refine ⟨A, c, e, h1, h2, fun j hj => ?_⟩
  obtain ⟨b, p, v', ea, hbB, hc, ho⟩ := h3 j hj
  exact ⟨b, p, v', ea, hbB, (hb.cell (p := ⟨b, p + j, none⟩) hbB).trans hc, ho.below hb⟩
theorem opss_of_trod {v : Value} {x : DataW H × List MemPlace} (hf : DataW.trod enc Try.prog W 0 (fun _ => true) held fuel 44 [v] = some x) :
    ∃ ls : List (List OpV), OpssAt W W.heap.size v ls ∧ (∀ l ∈ ls, ∀ o ∈ l, OkOp o) := by
  obtain ⟨A, n, c, rfl, h1, h2, h3, h4⟩ := slice_of_trod Try.underlying44 (show Try.prog.cellsOf 52 = 1 by kernel_rfl) (by omega) hf
  have hel : ∀ i, i < n → ∃ l : List OpV, (∀ o ∈ l, OkOp o) ∧ ∃ b p v', A = some ⟨b, p, none⟩ ∧ b < W.heap.size ∧ W.cell? ⟨b, p + i, none⟩ = some v' ∧ OpsAt W W.heap.size v' l := by
    intro i hin
    obtain ⟨b, o, cs, y, f', ea, hbW, hcl, hat, ht⟩ := h3 i hin
    obtain ⟨v', rfl⟩ := List.length_eq_one_iff.1 hcl
    obtain ⟨l, k1, k2, -⟩ := ops_of_trod ht
    have hc := hat 0 _ rfl
    rw [Nat.mul_one, Nat.add_zero] at hc
    exact ⟨l, k2, b, o, v', ea, hbW, hc, k1⟩
  obtain ⟨ls, hLn, hL⟩ := list_of n _ hel
  subst hLn
  refine ⟨ls, ⟨A, c, rfl, h1, h2, fun j hj => (hL j hj).2⟩, fun l hl => ?_⟩
  obtain ⟨i, hi, rfl⟩ := List.getElem_of_mem hl
  exact (hL i hi).1
theorem ints_of_trod1 {v : Value} {x : DataW H × List MemPlace} (hf : DataW.trod enc Try.prog W 0 (fun _ => true) held fuel 42 [v] = some x) :
    ∃ l : List Int, IntsAt W 0 W.heap.size v l ∧ ∀ k ∈ l, -9223372036854775808 ≤ k ∧ k ≤ 9223372036854775807 := by
  obtain ⟨A, n, c, rfl, h1, h2, h3, -⟩ := slice_of_trod Try.underlying42 (show Try.prog.cellsOf 3 = 1 by kernel_rfl) (by omega) hf
  have hel : ∀ i, i < n → ∃ k : Int, (-9223372036854775808 ≤ k ∧ k ≤ 9223372036854775807) ∧ ∃ b p, A = some ⟨b, p, none⟩ ∧ b < W.heap.size ∧ W.cell? ⟨b, p + i, none⟩ = some (.int .i64 k) := by
    intro i hin
    obtain ⟨b, o, cs, y, f', ea, hbW, hcl, hat, ht⟩ := h3 i hin
    obtain ⟨k0, c0, _, hk0⟩ := DataW.trod_int Try.underlying3 ht
    subst c0
    have hc := hat 0 _ rfl
    rw [Nat.mul_one, Nat.add_zero] at hc
    exact ⟨k0, by simpa [Lit.wf, IntKind.min, IntKind.max, IntKind.signed, IntKind.bits] using hk0, b, o, ea, hbW, hc⟩
  obtain ⟨l, hLn, hL⟩ := list_of n _ hel
  subst hLn
  refine ⟨l, ?_, fun k hk => ?_⟩
  · refine ⟨by simp [ints], A, c, rfl, h1, h2, fun h => ?_⟩
    obtain ⟨-, b, p, ea, hb, -⟩ := hL 0 h
    refine ⟨b, p, ea, Nat.zero_le _, hb, fun j hj => ?_⟩
    rw [Nat.mul_one] at hj
    obtain ⟨-, b', p', ea', -, hc⟩ := hL j hj
    rw [ea] at ea'
    cases ea'
    rw [hc]
    simp [ints, hj]
  · obtain ⟨i, hi, rfl⟩ := List.getElem_of_mem hk
    exact (hL i hi).1
end
section
variable {H : Type} {enc : TypeId × Value → H} {W : World} {v : Value} {d : DataW H} {p : List MemPlace} {held : Bool}
theorem open_ops (h : DataW.Trod enc Try.prog W 0 (fun _ => true) held 52 v d p) (hs : ∃ A n c, v = .slice A n c) : ∃ os : List OpV, OpsAt W W.heap.size v os ∧ (∀ o ∈ os, OkOp o) := by
  obtain ⟨A, n, c, rfl⟩ := hs
  obtain ⟨fuel, hf⟩ := h
  obtain ⟨os, h1, h2, -⟩ := ops_of_trod hf
  exact ⟨os, h1, h2⟩
theorem open_opss (h : DataW.Trod enc Try.prog W 0 (fun _ => true) held 44 v d p) (hs : ∃ A n c, v = .slice A n c) : ∃ ls : List (List OpV), OpssAt W W.heap.size v ls ∧ (∀ l ∈ ls, ∀ o ∈ l, OkOp o) := by
  obtain ⟨A, n, c, rfl⟩ := hs
  obtain ⟨fuel, hf⟩ := h
  exact opss_of_trod hf
theorem open_ints1 (h : DataW.Trod enc Try.prog W 0 (fun _ => true) held 42 v d p) (hs : ∃ A n c, v = .slice A n c) : ∃ l : List Int, IntsAt W 0 W.heap.size v l ∧ ∀ k ∈ l, -9223372036854775808 ≤ k ∧ k ≤ 9223372036854775807 := by
  obtain ⟨A, n, c, rfl⟩ := hs
  obtain ⟨fuel, hf⟩ := h
  exact ints_of_trod1 hf
end
end Sk
end Go.Proofs.Ytlhpdalfnjhokaa

namespace Go.Proofs.Ytlhpdalfnjhokaa
open Go.RowKit Go.Maps
namespace Sk
open It Al Kp
attribute [local go_sem] Oper.semAt_some
/-- the letter a -/
def aL : ByteArray := ⟨#[97]⟩
def sA1 : Stk := [([97], [5, 0, 0, 0, 5, 0, 0, 0, 0, 0, 0])]
def sA2 : Stk := [([97], [3, 0, 0, 0, 5, 0, 0, 0, 0, 0, 2])]
theorem do_one : doS [] 1 [(aL, 5)] = (sA1, 0) := by decide +kernel
theorem do_two : doS sA1 10 [(aL, 2)] = (sA2, 0) := by decide +kernel
theorem tot_A : totR [sA2, []] [97] = [3, 0, 0, 0, 5, 0, 0, 0, 0, 0, 2] := by decide +kernel
theorem totV_A : totV ⟨#[97]⟩ [sA2, []] = .agg #[.string ⟨#[97]⟩, .int .i64 3, .int .i64 0, .int .i64 0, .int .i64 0, .int .i64 5, .int .i64 0, .int .i64 0, .int .i64 0, .int .i64 0, .int .i64 0, .int .i64 2, .int .i64 2] := by
  unfold totV totC
  rw [show (⟨#[97]⟩ : ByteArray).data.toList = [97] from rfl, tot_A, show wayT [3, 0, 0, 0, 5, 0, 0, 0, 0, 0, 2] = 2 by decide +kernel]
  rfl
theorem keys_A : allKeys [sA2, []] = [[97]] := by decide +kernel
theorem all_A : allS [sA2, []] = true := by decide +kernel
theorem neq_nilG (b : Nat) (w : World) : (binOp .neq 35 (.func (.func 25) #[] #[.pointer (some ⟨b, 0, none⟩)]) .nilFunc).run Try.prog w = .ok (.bool true) w := by kernel_rfl
theorem eql_nilG (b : Nat) (w : World) : (binOp .eql 35 (.func (.func 25) #[] #[.pointer (some ⟨b, 0, none⟩)]) .nilFunc).run Try.prog w = .ok (.bool false) w := by kernel_rfl
theorem free_field (a0 a1 a2 a3 : Int) (W : World) : (Instr.field 23 (.agg #[.int .i64 a0, .int .i64 a1, .int .i64 a2, .int .i64 a3]) 0).run Try.prog W = .ok (.int .i64 a0) W := by kernel_rfl
theorem fits_one : Fits [(aL, 5)] := by
  intro x hx
  simp only [List.mem_singleton] at hx
  subst hx
  exact ⟨by decide +kernel, by decide, by decide⟩
theorem fits_two : Fits [(aL, 2)] := by
  intro x hx
  simp only [List.mem_singleton] at hx
  subst hx
  exact ⟨by decide +kernel, by decide, by decide⟩
/-- some stocks, each with its own blocks -/
structure Many (w : World) (base : Nat) (cs : List (Nat × Nat)) (ss : List Stk) : Prop where
  len : cs.length = ss.length
  at_ : ∀ (i : Nat) (c : Nat × Nat) (s : Stk), cs[i]? = some c → ss[i]? = some s → StkAt w base c.1 c.2 s
  apart : ∀ (i j : Nat) (c d : Nat × Nat), cs[i]? = some c → cs[j]? = some d → i ≠ j → c.1 ≠ d.1 ∧ c.1 ≠ d.2
section
variable {w w' : World} {base : Nat} {cs : List (Nat × Nat)} {ss : List Stk}
theorem Many.nil (w : World) (base : Nat) : Many w base [] [] := ⟨rfl, fun i c s h => by simp at h, fun i j c d h => by simp at h⟩
theorem Many.same (h : Many w base cs ss) (hb : Below w.heap.size w w') : Many w' base cs ss := ⟨h.len, fun i c s h1 h2 => (h.at_ i c s h1 h2).same hb, h.apart⟩
theorem Many.get {c : Nat × Nat} (h : Many w base cs ss) (i : Nat) (hi : cs[i]? = some c) : ∃ s, ss[i]? = some s ∧ StkAt w base c.1 c.2 s := by
  have hl := (List.getElem?_eq_some_iff.1 hi).1
  have h2 : i < ss.length := by rw [← h.len]; exact hl
  exact ⟨ss[i], List.getElem?_eq_getElem h2, h.at_ i c _ hi (List.getElem?_eq_getElem h2)⟩
theorem Many.lt {c : Nat × Nat} (h : Many w base cs ss) {i : Nat} (hi : cs[i]? = some c) : c.1 < w.heap.size ∧ c.2 < w.heap.size := by
  obtain ⟨s, -, h2⟩ := h.get i hi
  exact ⟨h2.ob.lt, h2.map.lt⟩
theorem Many.snoc {b mb : Nat} {s : Stk} (h : Many w base cs ss) (hb : Below w.heap.size w w') (h2 : StkAt w' w.heap.size b mb s) (hbase : base ≤ w.heap.size) : Many w' base (cs ++ [(b, mb)]) (ss ++ [s]) := by
  have hlo := h2.lo
  have hsplit : ∀ {α : Type} (l : List α) (x : α) (i : Nat) (y : α), (l ++ [x])[i]? = some y → (i < l.length ∧ l[i]? = some y) ∨ (i = l.length ∧ y = x) := by
    intro α l x i y h
    rcases Nat.lt_or_ge i l.length with hl | hl
    · rw [List.getElem?_append_left hl] at h
      exact .inl ⟨hl, h⟩
    · rw [List.getElem?_append_right hl] at h
      have := (List.getElem?_eq_some_iff.1 h).1
      simp only [List.length_cons, List.length_nil] at this
      have he : i = l.length := by omega
      subst he
      simp only [Nat.sub_self, List.getElem?_cons_zero, Option.some.injEq] at h
      exact .inr ⟨rfl, h.symm⟩
  refine ⟨by simp [h.len], fun i c t h1 h3 => ?_, fun i j c d h1 h3 hij => ?_⟩
  · rcases hsplit _ _ _ _ h1 with ⟨k1, k2⟩ | ⟨rfl, rfl⟩
    · rcases hsplit _ _ _ _ h3 with ⟨k3, k4⟩ | ⟨k3, k4⟩
      · exact (h.at_ i c t k2 k4).same hb
      · have := h.len
        omega
    · rcases hsplit _ _ _ _ h3 with ⟨k3, k4⟩ | ⟨k3, rfl⟩
      · have := h.len
        omega
      · exact ⟨h2.ob, h2.map, h2.ok, h2.ne, ⟨Nat.le_trans hbase hlo.1, Nat.le_trans hbase hlo.2⟩, h2.len⟩
  · rcases hsplit _ _ _ _ h1 with ⟨k1, k2⟩ | ⟨k1, rfl⟩
    · rcases hsplit _ _ _ _ h3 with ⟨k3, k4⟩ | ⟨k3, rfl⟩
      · exact h.apart i j c d k2 k4 hij
      · have := h.lt k2
        exact ⟨by dsimp only; omega, by dsimp only; omega⟩
    · rcases hsplit _ _ _ _ h3 with ⟨k3, k4⟩ | ⟨k3, rfl⟩
      · have := h.lt k4
        exact ⟨by dsimp only; omega, by dsimp only; omega⟩
      · omega
theorem Many.put {b mb mb' : Nat} {s' : Stk} {i : Nat} (h : Many w base cs ss) (hi : cs[i]? = some (b, mb)) (h2 : StkAt w' base b mb' s') (hm : mb' = mb ∨ w.heap.size ≤ mb') (hk : DoKept b w w') : Many w' base (cs.set i (b, mb')) (ss.set i s') := by
  refine ⟨by simp [h.len], fun j c t h1 h3 => ?_, fun j k c d h1 h3 hjk => ?_⟩
  · rw [List.getElem?_set] at h1 h3
    by_cases hij : i = j
    · subst hij
      have hl := (List.getElem?_eq_some_iff.1 hi).1
      have hl2 : i < ss.length := by rw [← h.len]; exact hl
      simp only [if_pos, hl, hl2, Option.some.injEq] at h1 h3
      subst h1 h3
      exact h2
    · rw [if_neg hij] at h1 h3
      have ha := h.apart i j _ _ hi h1 hij
      have hl := h.lt h1
      exact (h.at_ j c t h1 h3).kept hk ⟨hl.1, fun e => ha.1 e.symm⟩ ⟨hl.2, fun e => ha.2 e.symm⟩
  · rw [List.getElem?_set] at h1 h3
    have hli := h.lt hi
    by_cases hij : i = j
    · subst hij
      rw [if_neg hjk] at h3
      have hl := (List.getElem?_eq_some_iff.1 hi).1
      simp only [if_pos, hl, Option.some.injEq] at h1
      subst h1
      have ha := h.apart i k _ _ hi h3 hjk
      exact ⟨ha.1, ha.2⟩
    · rw [if_neg hij] at h1
      by_cases hik : i = k
      · subst hik
        have hl := (List.getElem?_eq_some_iff.1 hi).1
        simp only [if_pos, hl, Option.some.injEq] at h3
        subst h3
        have ha := h.apart j i _ _ h1 hi hjk
        have hlj := h.lt h1
        exact ⟨ha.1, hm.elim (fun e => e ▸ ha.2) (fun e => by dsimp only; omega)⟩
      · rw [if_neg hik] at h3
        exact h.apart j k _ _ h1 h3 hjk
theorem Many.sts {v : Value} (h : Many w base cs ss) (hs : Sl w 0 w.heap.size 1 v ss.length (cs.map fun c => .pointer (some ⟨c.1, 0, none⟩))) : StsAt w base v ss := by
  refine ⟨_, by simp [h.len], hs, fun i hi => ?_⟩
  have hc : i < cs.length := by rw [h.len]; exact hi
  have hci := List.getElem?_eq_getElem hc
  refine ⟨.pointer (some ⟨cs[i].1, 0, none⟩), by rw [List.getElem?_map, hci]; rfl, .inr ⟨cs[i].1, cs[i].2, rfl, h.at_ i _ _ hci (List.getElem?_eq_getElem hi)⟩⟩
end
set_option maxRecDepth 100000 in
set_option maxHeartbeats 8000000 in
theorem lives_calls (w : World) : Calls Try.prog 8 #[] w fun e w' => e = .returned (.bool true) ∧ Below w.heap.size w w' := by
  have hnq := neq_nilG
  have hfld := free_field
  go_enter Try.func8, Try.ntmps8
  go_wp2_with fail
  refine (new_calls _).mono ?_
  rintro e w1 ⟨⟨b1, mb1, rfl, h1⟩, hb1⟩
  go_wp2_with fail
  refine (new_calls _).mono ?_
  rintro e w2 ⟨⟨b2, mb2, rfl, h2⟩, hb2⟩
  have M2 : Many w2 w.heap.size [(b1, mb1), (b2, mb2)] [[], []] := ((Many.nil w w.heap.size).snoc hb1 h1 (Nat.le_refl _)).snoc hb2 h2 hb1.size
  have HB2 := Lib.hid (hb1.trans (hb2.mono hb1.size))
  have hl1 := (M2.lt (i := 0) rfl).1
  have hl2 := (M2.lt (i := 1) rfl).1
  have hg1 := h1.lo.1
  have hs0 := hb1.size
  have hs2 := hb2.size
  clear hb1 hb2 h1 h2
  go_wp2_with fail
  have hS3 := Sl.new w2 #[.pointer (some ⟨b1, 0, none⟩), .pointer (some ⟨b2, 0, none⟩)] 53 (n := 2) (size := 1) rfl (by unfold maxLen; omega)
  have ha3 := (Below.refl w2.heap.size w2).alloc (Nat.le_refl _) (.cells #[.pointer (some ⟨b1, 0, none⟩), .pointer (some ⟨b2, 0, none⟩)] 53)
  have M3 := M2.same ha3
  have HB3 := Lib.hid (HB2.out.trans (ha3.mono HB2.out.size))
  have hs3 : (w2.alloc (.cells #[.pointer (some ⟨b1, 0, none⟩), .pointer (some ⟨b2, 0, none⟩)] 53)).heap.size = w2.heap.size + 1 := by simp
  generalize w2.alloc (.cells #[.pointer (some ⟨b1, 0, none⟩), .pointer (some ⟨b2, 0, none⟩)] 53) = w3 at *
  clear M2 ha3
  have hI4 := Sl.new w3 #[.string ⟨#[97]⟩, .int .i64 5] 64 (n := 1) (size := 2) rfl (by unfold maxLen; omega)
  have ha4 := (Below.refl w3.heap.size w3).alloc (Nat.le_refl _) (.cells #[.string ⟨#[97]⟩, .int .i64 5] 64)
  have M4 := M3.same ha4
  have hS4 := hS3.mono (B' := w2.heap.size + 1) (ha4.mono (by omega)) (Nat.le_refl _)
  have HB4 := Lib.hid (HB3.out.trans (ha4.mono HB3.out.size))
  have hs4 : (w3.alloc (.cells #[.string ⟨#[97]⟩, .int .i64 5] 64)).heap.size = w3.heap.size + 1 := by simp
  clear M3 ha4 hS3
  rw [← hs3]
  generalize w3.alloc (.cells #[.string ⟨#[97]⟩, .int .i64 5] 64) = w4 at *
  have cD := do_calls (M4.at_ 0 _ _ rfl rfl) 1 [(aL, 5)] (.slice (some ⟨w3.heap.size, 0, none⟩) 1 1) (ItemsAt.wide (lo := w3.heap.size) (B := w3.heap.size + 1) hI4 (Nat.zero_le _) (by omega)) fits_one
  rw [do_one] at cD
  refine cD.mono ?_
  clear cD hI4
  rintro e w5 ⟨rfl, ⟨mb5, h5, hm5⟩, hk5⟩
  have M5 : Many w5 w.heap.size [(b1, mb5), (b2, mb2)] [sA1, []] := M4.put (i := 0) rfl h5 hm5 hk5
  have hS5 := hk5.sl hS4 (fun i h1 h2 => ⟨by omega, by dsimp only; omega⟩)
  have HB5 := Lib.hid (HB4.out.trans (hk5.below (B := w.heap.size) (fun i hi => ⟨by have := HB4.out.size; omega, by dsimp only; omega⟩)))
  have hs5 := hk5.size
  clear M4 hS4 h5 hm5 hk5
  go_wp2_with fail
  have hI6 := Sl.new w5 #[.string ⟨#[97]⟩, .int .i64 2] 64 (n := 1) (size := 2) rfl (by unfold maxLen; omega)
  have ha6 := (Below.refl w5.heap.size w5).alloc (Nat.le_refl _) (.cells #[.string ⟨#[97]⟩, .int .i64 2] 64)
  have M6 := M5.same ha6
  have hS6 := hS5.mono (B' := w2.heap.size + 1) (ha6.mono (by omega)) (Nat.le_refl _)
  have HB6 := Lib.hid (HB5.out.trans (ha6.mono HB5.out.size))
  have hs6 : (w5.alloc (.cells #[.string ⟨#[97]⟩, .int .i64 2] 64)).heap.size = w5.heap.size + 1 := by simp
  clear M5 ha6 hS5
  generalize w5.alloc (.cells #[.string ⟨#[97]⟩, .int .i64 2] 64) = w6 at *
  have cD := do_calls (M6.at_ 0 _ _ rfl rfl) 10 [(aL, 2)] (.slice (some ⟨w5.heap.size, 0, none⟩) 1 1) (ItemsAt.wide (lo := w5.heap.size) (B := w5.heap.size + 1) hI6 (Nat.zero_le _) (by omega)) fits_two
  rw [do_two] at cD
  refine cD.mono ?_
  clear cD hI6
  rintro e w7 ⟨rfl, ⟨mb7, h7, hm7⟩, hk7⟩
  have M7 : Many w7 w.heap.size [(b1, mb7), (b2, mb2)] [sA2, []] := M6.put (i := 0) rfl h7 hm7 hk7
  have hS7 := hk7.sl hS6 (fun i h1 h2 => ⟨by omega, by dsimp only; omega⟩)
  have HB7 := Lib.hid (HB6.out.trans (hk7.below (B := w.heap.size) (fun i hi => ⟨by have := HB6.out.size; omega, by dsimp only; omega⟩)))
  have hs7 := hk7.size
  have HS := Lib.hid (M7.sts (v := .slice (some ⟨w2.heap.size, 0, none⟩) 2 2) (hS7.wide (Nat.zero_le _) (by omega)))
  clear M6 hS6 h7 hm7 hk7 M7 hS7
  have cT := total_calls [sA2, []] ⟨#[97]⟩ (by decide +kernel) _ w7 w.heap.size HS.out
  rw [totV_A] at cT
  go_wp2_with fail
  refine cT.mono ?_
  clear cT
  rintro e w8 ⟨rfl, hb8⟩
  have HS8 := Lib.hid (HS.out.same hb8)
  have HB8 := Lib.hid (HB7.out.trans (hb8.mono HB7.out.size))
  clear hb8
  have o9 := Ob.new w8 27 #[.string ⟨#[97]⟩, .int .i64 3, .int .i64 0, .int .i64 0, .int .i64 0, .int .i64 5, .int .i64 0, .int .i64 0, .int .i64 0, .int .i64 0, .int .i64 0, .int .i64 2, .int .i64 2]
  go_wp2_with fail
  have ha9 := (Below.refl w8.heap.size w8).alloc (Nat.le_refl _) (.cells #[.string ⟨#[97]⟩, .int .i64 3, .int .i64 0, .int .i64 0, .int .i64 0, .int .i64 5, .int .i64 0, .int .i64 0, .int .i64 0, .int .i64 0, .int .i64 0, .int .i64 2, .int .i64 2] 27)
  have HS9 := Lib.hid (HS8.out.same ha9)
  have HB9 := Lib.hid (HB8.out.trans (ha9.mono HB8.out.size))
  clear ha9 o9
  generalize w8.alloc (.cells #[.string ⟨#[97]⟩, .int .i64 3, .int .i64 0, .int .i64 0, .int .i64 0, .int .i64 5, .int .i64 0, .int .i64 0, .int .i64 0, .int .i64 0, .int .i64 0, .int .i64 2, .int .i64 2] 27) = w9 at *
  have cK := kept_calls ⟨#[97]⟩ 3 0 0 0 5 0 0 0 0 0 2 2 w9
  rw [show keptT 3 0 0 0 5 0 0 0 0 0 2 2 = true by decide +kernel] at cK
  refine cK.mono ?_
  clear cK
  rintro e w10 ⟨rfl, hb10⟩
  have HS10 := Lib.hid (HS9.out.same hb10)
  have HB10 := Lib.hid (HB9.out.trans (hb10.mono HB9.out.size))
  clear hb10
  go_wp2_with fail
  have cA := all_calls [sA2, []] _ w10 w.heap.size HS10.out (by decide)
  rw [all_A] at cA
  refine cA.mono ?_
  clear cA
  rintro e w11 ⟨rfl, hb11⟩
  have HS11 := Lib.hid (HS10.out.same hb11)
  have HB11 := Lib.hid (HB10.out.trans (hb11.mono HB10.out.size))
  clear hb11
  go_wp2_with fail
  have cT := totals_calls [sA2, []] _ w11 w.heap.size HS11.out (by decide)
  rw [keys_A] at cT
  refine cT.mono ?_
  clear cT
  rintro e w12 ⟨⟨u, rfl, hu⟩, hb12⟩
  obtain ⟨A, c, rfl, -⟩ := (Sl.of_own hu : Sl _ _ _ 13 u 1 _).at_
  have HB12 := Lib.hid (HB11.out.trans (hb12.mono HB11.out.size))
  clear hb12 hu
  go_wp2_with fail
  refine (ggoods_calls _ rfl _).mono ?_
  rintro e w13 ⟨rfl, rfl⟩
  have ha13 := (Below.refl w12.heap.size w12).alloc (Nat.le_refl _) (.cells #[.slice (some ⟨w2.heap.size, 0, none⟩) 2 2] 33)
  have HB13 := Lib.hid (HB12.out.trans (ha13.mono HB12.out.size))
  clear ha13
  go_wp2_with fail
  generalize w12.alloc (.cells #[.slice (some ⟨w2.heap.size, 0, none⟩) 2 2] 33) = w13 at *
  have cL := glevel_calls 1 0 0 0 2 0 0 0 w13
  rw [show wrap64 (1 + 2) = 3 by decide +kernel, show wrap64 (0 + 0) = 0 by decide +kernel] at cL
  refine cL.mono ?_
  clear cL
  rintro e w14 ⟨rfl, hb14⟩
  have HB14 := Lib.hid (HB13.out.trans (hb14.mono HB13.out.size))
  clear hb14
  go_wp2_with fail
  have cK := kept_calls ⟨#[]⟩ 0 0 0 0 0 0 0 0 0 0 0 (-1) w14
  rw [show keptT 0 0 0 0 0 0 0 0 0 0 0 (-1) = false by decide +kernel] at cK
  refine cK.mono ?_
  clear cK
  rintro e w15 ⟨rfl, hb15⟩
  have HB15 := HB14.out.trans (hb15.mono HB14.out.size)
  go_wp2_with fail
  go_ret
  exact ⟨rfl, HB15⟩
end Sk
end Go.Proofs.Ytlhpdalfnjhokaa

namespace Go.Proofs.Ytlhpdalfnjhokaa
open Go.RowKit Go.Maps
namespace Sk
open It Al Kp
theorem own_apart {w : World} {lo size n b : Nat} {e t : TypeId} {v : Value} {xs : List Value} {cs : Array Value} (h : w.ownsRow lo e size v n xs) (ho : Ob w b t cs) (hne : t ≠ e) : some b ≠ v.ownBlock := by
  rcases h.2 with ⟨rfl, -⟩ | ⟨g, cap, cur, rfl, -, hg, -⟩
  · simp [Value.ownBlock]
  · intro e2
    have e3 : b = g := Option.some.inj e2
    subst e3
    have h2 : w.heap[b]? = _ := ho
    rw [h2] at hg
    cases hg
    exact hne rfl
theorem own_apart_map {w : World} {lo size n b : Nat} {e t : TypeId} {v : Value} {xs : List Value} {m : List (Key × Value)} {P : Program} (h : w.ownsRow lo e size v n xs) (ho : GMap strK w P t b m) : some b ≠ v.ownBlock := by
  rcases h.2 with ⟨rfl, -⟩ | ⟨g, cap, cur, rfl, -, hg, -⟩
  · simp [Value.ownBlock]
  · intro e2
    have e3 : b = g := Option.some.inj e2
    subst e3
    obtain ⟨es, clock, h1, -⟩ := ho
    have h1 : w.heap[b]? = _ := h1
    rw [h1] at hg
    cases hg
theorem Many.grown {w w' : World} {base lo size n : Nat} {cs : List (Nat × Nat)} {ss : List Stk} {v : Value} {xs : List Value} {e : TypeId} (h : Many w base cs ss) (hown : w.ownsRow lo e size v n xs) (hne : 82 ≠ e) (hg : w.grownBy w' v.ownBlock) : Many w' base cs ss :=
  ⟨h.len, fun i c s h1 h2 => by
    have hs := h.at_ i c s h1 h2
    exact hs.kept (Fr := fun i => i < w.heap.size ∧ some i ≠ v.ownBlock) (Kept.of_grown hg fun i hi => hi) ⟨hs.ob.lt, own_apart hown hs.ob hne⟩ ⟨hs.map.lt, own_apart_map hown hs.map⟩, h.apart⟩
/-- no two stocks share a map -/
def Lone (cs : List (Nat × Nat)) : Prop := ∀ (i j : Nat) (c d : Nat × Nat), cs[i]? = some c → cs[j]? = some d → i ≠ j → c.2 ≠ d.2
theorem Lone.nil : Lone [] := fun i j c d h => by simp at h
theorem Lone.snoc {w : World} {base b mb : Nat} {cs : List (Nat × Nat)} {ss : List Stk} (h : Lone cs) (hm : Many w base cs ss) (hb : w.heap.size ≤ mb) : Lone (cs ++ [(b, mb)]) := by
  intro i j c d h1 h2 hij
  rcases Nat.lt_or_ge i cs.length with hi | hi
  · rw [List.getElem?_append_left hi] at h1
    have l1 := (hm.lt h1).2
    rcases Nat.lt_or_ge j cs.length with hj | hj
    · rw [List.getElem?_append_left hj] at h2
      exact h i j c d h1 h2 hij
    · rw [List.getElem?_append_right hj] at h2
      have := (List.getElem?_eq_some_iff.1 h2).1
      simp only [List.length_cons, List.length_nil] at this
      rw [show j - cs.length = 0 by omega] at h2
      cases h2
      dsimp only
      omega
  · rw [List.getElem?_append_right hi] at h1
    have hi2 := (List.getElem?_eq_some_iff.1 h1).1
    simp only [List.length_cons, List.length_nil] at hi2
    rw [show i - cs.length = 0 by omega] at h1
    cases h1
    rcases Nat.lt_or_ge j cs.length with hj | hj
    · rw [List.getElem?_append_left hj] at h2
      have l1 := (hm.lt h2).2
      dsimp only
      omega
    · rw [List.getElem?_append_right hj] at h2
      have := (List.getElem?_eq_some_iff.1 h2).1
      simp only [List.length_cons, List.length_nil] at this
      omega
theorem Lone.put {w : World} {base b mb mb' i : Nat} {cs : List (Nat × Nat)} {ss : List Stk} (h : Lone cs) (hm : Many w base cs ss) (hi : cs[i]? = some (b, mb)) (hb : mb' = mb ∨ w.heap.size ≤ mb') : Lone (cs.set i (b, mb')) := by
  intro j k c d h1 h2 hjk
  rw [List.getElem?_set] at h1 h2
  have hl := (List.getElem?_eq_some_iff.1 hi).1
  by_cases e1 : i = j
  · subst e1
    rw [if_neg hjk] at h2
    simp only [if_pos, hl, Option.some.injEq] at h1
    subst h1
    have h3 := h i k _ _ hi h2 hjk
    have h4 := (hm.lt h2).2
    dsimp only at h3 ⊢
    rcases hb with e | e
    · rw [e]; exact h3
    · omega
  · rw [if_neg e1] at h1
    by_cases e2 : i = k
    · subst e2
      simp only [if_pos, hl, Option.some.injEq] at h2
      subst h2
      have h3 := h j i _ _ h1 hi hjk
      have h4 := (hm.lt h1).2
      dsimp only at h3 ⊢
      rcases hb with e | e
      · rw [e]; exact h3
      · omega
    · rw [if_neg e2] at h2
      exact h j k _ _ h1 h2 hjk
theorem Many.count {w w' : World} {base b mb i : Nat} {cs : List (Nat × Nat)} {ss : List Stk} {s' : Stk} (h : Many w base cs ss) (hl : Lone cs) (hi : cs[i]? = some (b, mb)) (h2 : StkAt w' base b mb s') (hk : CtKept mb w w') : Many w' base cs (ss.set i s') := by
  refine ⟨by simp [h.len], fun j c t h1 h3 => ?_, h.apart⟩
  rw [List.getElem?_set] at h3
  by_cases hij : i = j
  · subst hij
    have hl2 : i < ss.length := by rw [← h.len]; exact (List.getElem?_eq_some_iff.1 hi).1
    simp only [if_pos, hl2, Option.some.injEq] at h3
    rw [hi, Option.some.injEq] at h1
    subst h1 h3
    exact h2
  · rw [if_neg hij] at h3
    have hlt := h.lt h1
    exact (h.at_ j c t h1 h3).kept hk ⟨hlt.1, (h.apart j i _ _ h1 hi (fun e => hij e.symm)).2⟩ ⟨hlt.2, hl j i _ _ h1 hi (fun e => hij e.symm)⟩
def ptrs (cs : List (Nat × Nat)) : List Value := cs.map fun c => .pointer (some ⟨c.1, 0, none⟩)
/-- stocks, and the block of a slice of pointers to them -/
structure Reg (w : World) (base g cap n : Nat) (cs : List (Nat × Nat)) (ss : List Stk) : Prop where
  many : Many w base cs ss
  lone : Lone cs
  len : cs.length = n
  cap : n ≤ cap ∧ cap ≤ maxLen
  lo : base ≤ g
  arr : ∃ cur, Ob w g 53 cur ∧ cur.toList.take n = ptrs cs
section
variable {w w' : World} {base g cap n : Nat} {cs : List (Nat × Nat)} {ss : List Stk}
theorem Reg.lt (h : Reg w base g cap n cs ss) : g < w.heap.size := by
  obtain ⟨cur, h1, -⟩ := h.arr
  exact h1.lt
theorem Reg.same (h : Reg w base g cap n cs ss) (hb : Below w.heap.size w w') : Reg w' base g cap n cs ss := by
  obtain ⟨cur, h1, h2⟩ := h.arr
  exact ⟨h.many.same hb, h.lone, h.len, h.cap, h.lo, cur, h1.same hb, h2⟩
theorem Reg.cell (h : Reg w base g cap n cs ss) {i : Nat} {c : Nat × Nat} (hi : cs[i]? = some c) : w.cell? ⟨g, i, none⟩ = some (.pointer (some ⟨c.1, 0, none⟩)) := by
  obtain ⟨cur, h1, h2⟩ := h.arr
  have hl := (List.getElem?_eq_some_iff.1 hi).1
  refine h1.cell ?_
  have h3 : (ptrs cs)[i]? = some (.pointer (some ⟨c.1, 0, none⟩)) := by unfold ptrs; rw [List.getElem?_map, hi]; rfl
  rw [← h2, List.getElem?_take, if_pos (by have := h.len; omega)] at h3
  simpa using h3
theorem Reg.sts (h : Reg w base g cap n cs ss) : StsAt w base (.slice (some ⟨g, 0, none⟩) n cap) ss := by
  obtain ⟨cur, h1, h2⟩ := h.arr
  have hn : ss.length = n := by rw [← h.many.len]; exact h.len
  refine h.many.sts ⟨by simp [h.many.len], _, cap, by rw [hn], by rw [hn]; exact h.cap.1, h.cap.2, fun _ => ⟨g, 0, rfl, Nat.zero_le _, h1.lt, fun j hj => ?_⟩⟩
  rw [Nat.mul_one, hn] at hj
  have hj2 : j < cs.length := by rw [h.len]; exact hj
  have := h.cell (List.getElem?_eq_getElem hj2)
  rw [Nat.zero_add, this]
  simp [hj2]
theorem Reg.apart (h : Reg w base g cap n cs ss) {i : Nat} {c : Nat × Nat} (hi : cs[i]? = some c) : g ≠ c.1 ∧ g ≠ c.2 := by
  obtain ⟨cur, h1, -⟩ := h.arr
  obtain ⟨s, -, h2⟩ := h.many.get i hi
  constructor
  · intro e
    have k1 : w.heap[g]? = _ := h1
    have k2 : w.heap[c.1]? = _ := h2.ob
    rw [e, k2] at k1
    cases k1
  · intro e
    have k1 : w.heap[g]? = _ := h1
    obtain ⟨es, clock, k2, -⟩ := h2.map
    have k2 : w.heap[c.2]? = _ := k2
    rw [e, k2] at k1
    cases k1
theorem Reg.do_ {b mb mb' i : Nat} {s' : Stk} (h : Reg w base g cap n cs ss) (hi : cs[i]? = some (b, mb)) (h2 : StkAt w' base b mb' s') (hm : mb' = mb ∨ w.heap.size ≤ mb') (hk : DoKept b w w') : Reg w' base g cap n (cs.set i (b, mb')) (ss.set i s') := by
  obtain ⟨cur, h1, h3⟩ := h.arr
  refine ⟨h.many.put hi h2 hm hk, h.lone.put h.many hi hm, by simp [h.len], h.cap, h.lo, cur, hk.ob h1 ⟨h1.lt, (h.apart hi).1⟩, ?_⟩
  rw [h3]
  unfold ptrs
  rw [List.map_set]
  refine (List.ext_getElem? fun j => ?_)
  rw [List.getElem?_set]
  by_cases e : i = j
  · subst e
    have hl := (List.getElem?_eq_some_iff.1 hi).1
    rw [List.getElem?_map, hi]
    simp [hl]
  · rw [if_neg e]
theorem Reg.count {b mb i : Nat} {s' : Stk} (h : Reg w base g cap n cs ss) (hi : cs[i]? = some (b, mb)) (h2 : StkAt w' base b mb s') (hk : CtKept mb w w') : Reg w' base g cap n cs (ss.set i s') := by
  obtain ⟨cur, h1, h3⟩ := h.arr
  exact ⟨h.many.count h.lone hi h2 hk, h.lone, h.len, h.cap, h.lo, cur, hk.ob h1 ⟨h1.lt, (h.apart hi).2⟩, h3⟩
theorem Reg.get (h : Reg w base g cap n cs ss) {i : Nat} (hi : i < n) : ∃ (b mb : Nat) (hs : i < ss.length), cs[i]? = some (b, mb) ∧ StkAt w base b mb ss[i] := by
  have hc : i < cs.length := by rw [h.len]; exact hi
  have hs : i < ss.length := by rw [← h.many.len]; exact hc
  exact ⟨cs[i].1, cs[i].2, hs, List.getElem?_eq_getElem hc, h.many.at_ i _ _ (List.getElem?_eq_getElem hc) (List.getElem?_eq_getElem hs)⟩
theorem Reg.of_own {v : Value} (hm : Many w base cs ss) (hl : Lone cs) (hlen : cs.length = n) (hn : 0 < n) (hown : w.ownsRow base 53 1 v n (ptrs cs)) : ∃ g cap, v = .slice (some ⟨g, 0, none⟩) n cap ∧ Reg w base g cap n cs ss := by
  rcases hown.2 with ⟨-, rfl⟩ | ⟨g, cap, cur, rfl, hbg, hg, hnc, hcm, hcs, htake⟩
  · omega
  · exact ⟨g, cap, rfl, hm, hl, hlen, ⟨hnc, hcm⟩, hbg, cur, hg, by rw [Nat.mul_one] at htake; exact htake⟩
end
end Sk
end Go.Proofs.Ytlhpdalfnjhokaa
