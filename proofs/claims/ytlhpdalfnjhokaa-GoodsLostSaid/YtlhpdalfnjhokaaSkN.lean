/-
  goods: All.
-/
import Derived.Test.YtlhpdalfnjhokaaSkM
namespace Go.Proofs.Ytlhpdalfnjhokaa
open Go.RowKit Go.Maps
namespace Sk
open It Al Kp
attribute [local go_sem] Oper.semAt_some
/-- whether a good's total is kept -/
def kpS (ss : List Stk) (k : Key) : Bool := keptT (at_ (totR ss k) 0) (at_ (totR ss k) 1) (at_ (totR ss k) 2) (at_ (totR ss k) 3) (at_ (totR ss k) 4) (at_ (totR ss k) 5) (at_ (totR ss k) 6) (at_ (totR ss k) 7) (at_ (totR ss k) 8) (at_ (totR ss k) 9) (at_ (totR ss k) 10) (wayT (totR ss k))
def allS (ss : List Stk) : Bool := (allKeys ss).all (kpS ss)
set_option maxRecDepth 100000 in
set_option maxHeartbeats 2000000 in
theorem all1_calls (ss : List Stk) (k : Key) (w : World) :
    Calls Try.prog 32 #[.agg (totL ss k).toArray] w fun e w' => e = .returned (.bool (!kpS ss k)) ∧ Below w.heap.size w w' := by
  have hC : totL ss k = [.string ⟨k.toArray⟩, .int .i64 (at_ (totR ss k) 0), .int .i64 (at_ (totR ss k) 1), .int .i64 (at_ (totR ss k) 2), .int .i64 (at_ (totR ss k) 3), .int .i64 (at_ (totR ss k) 4), .int .i64 (at_ (totR ss k) 5), .int .i64 (at_ (totR ss k) 6), .int .i64 (at_ (totR ss k) 7), .int .i64 (at_ (totR ss k) 8), .int .i64 (at_ (totR ss k) 9), .int .i64 (at_ (totR ss k) 10), .int .i64 (wayT (totR ss k))] := rfl
  rw [hC]
  unfold kpS
  clear hC
  have cK := Lib.hid (fun W => kept_calls ⟨k.toArray⟩ (at_ (totR ss k) 0) (at_ (totR ss k) 1) (at_ (totR ss k) 2) (at_ (totR ss k) 3) (at_ (totR ss k) 4) (at_ (totR ss k) 5) (at_ (totR ss k) 6) (at_ (totR ss k) 7) (at_ (totR ss k) 8) (at_ (totR ss k) 9) (at_ (totR ss k) 10) (wayT (totR ss k)) W)
  generalize keptT (at_ (totR ss k) 0) (at_ (totR ss k) 1) (at_ (totR ss k) 2) (at_ (totR ss k) 3) (at_ (totR ss k) 4) (at_ (totR ss k) 5) (at_ (totR ss k) 6) (at_ (totR ss k) 7) (at_ (totR ss k) 8) (at_ (totR ss k) 9) (at_ (totR ss k) 10) (wayT (totR ss k)) = b at *
  generalize wayT (totR ss k) = wy at *
  generalize totR ss k = r at *
  generalize at_ r 0 = a0 at *
  generalize at_ r 1 = a1 at *
  generalize at_ r 2 = a2 at *
  generalize at_ r 3 = a3 at *
  generalize at_ r 4 = a4 at *
  generalize at_ r 5 = a5 at *
  generalize at_ r 6 = a6 at *
  generalize at_ r 7 = a7 at *
  generalize at_ r 8 = a8 at *
  generalize at_ r 9 = a9 at *
  generalize at_ r 10 = a10 at *
  have hB : Below w.heap.size w (w.alloc (.cells #[.string ⟨k.toArray⟩, .int .i64 a0, .int .i64 a1, .int .i64 a2, .int .i64 a3, .int .i64 a4, .int .i64 a5, .int .i64 a6, .int .i64 a7, .int .i64 a8, .int .i64 a9, .int .i64 a10, .int .i64 wy] 27)) := (Below.refl _ w).alloc (Nat.le_refl _) _
  have o1 := Ob.new w 27 #[.string ⟨k.toArray⟩, .int .i64 a0, .int .i64 a1, .int .i64 a2, .int .i64 a3, .int .i64 a4, .int .i64 a5, .int .i64 a6, .int .i64 a7, .int .i64 a8, .int .i64 a9, .int .i64 a10, .int .i64 wy]
  go_enter Try.func32, Try.ntmps32
  go_wp2_with (first | (refine wpList_load_ob rfl 27 (.tmp 1) rfl rfl Try.underlying27 o1 rfl rfl (by kernel_rfl) ?_) | (go_at_call 13; refine (cK.out _).mono ?_; rintro e w' ⟨rfl, hb⟩))
  have hBF := hB.trans (hb.mono hB.size)
  go_wp2
  go_ret
  exact ⟨rfl, hBF⟩
def okS (ss : List Stk) (ks : List Key) (j : Nat) : Prop := ∀ i (hi : i < ks.length), i < j → kpS ss ks[i] = true
set_option maxRecDepth 100000 in
set_option maxHeartbeats 2000000 in
theorem index_calls (ss : List Stk) (ks : List Key) (v : Value) (lo : Nat) (w : World) (hv : Sl w lo w.heap.size 13 v ks.length (ks.flatMap (totL ss))) :
    Calls Try.prog 50 #[v, .func (.func 32) #[] #[]] w fun e w' => (∃ r : Int, e = .returned (.int .i64 r) ∧ (0 ≤ r ↔ ¬ okS ss ks ks.length)) ∧ Below w.heap.size w w' := by
  obtain ⟨A, c, rfl, hc1, hc2, hc⟩ := hv.at_
  clear hv
  unfold maxLen at hc2
  go_enter Try.func50, Try.ntmps50
  go_wp2
  go_loopw [8] (fun i wr => ∃ k : Nat, k ≤ ks.length ∧ i = .int .i64 k ∧ okS ss ks k ∧ Below w.heap.size w wr) (fun i _ => ks.length - (intOf i).toNat)
  case atStart => exact ⟨0, by omega, rfl, fun i hi h => by omega, Below.refl _ _⟩
  case round =>
    obtain ⟨k, hk, rfl, hN, hb⟩ := hrel
    have HN := Lib.hid hN
    clear hN
    by_cases hlt : k < ks.length
    · obtain ⟨b, o, rfl, _, hbB, hcell⟩ := hc (by omega)
      have hR : wr.rangeAt b (o + k * 13) (totL ss ks[k]) := by
        intro j x hj
        have hj13 : j < 13 := by have := (List.getElem?_eq_some_iff.1 hj).1; rwa [totL_len] at this
        have h1 := hcell (k * 13 + j) (by omega)
        rw [flat_get ss ks k hlt j hj13, hj] at h1
        rw [hb.cell (p := ⟨b, o + k * 13 + j, none⟩) hbB, Nat.add_assoc]
        exact h1
      clear hcell hc
      have HKK := Lib.hid (show ∀ i, i < ks.length → i = k → kpS ss ks[k] = true → ∀ (hi : i < ks.length), kpS ss ks[i] = true from fun i _ e h hi => by subst e; exact h)
      have cN := Lib.hid (fun W => all1_calls ss ks[k] W)
      have hL : (totL ss ks[k]).length = 13 := rfl
      have HKE := Lib.hid (show ∃ g, g = kpS ss ks[k] ∧ ∀ (hi : k < ks.length), kpS ss ks[k] = g from ⟨_, rfl, fun _ => rfl⟩)
      generalize ho : kpS ss ks[k] = ok at cN
      have HO := Lib.hid ho
      clear ho
      generalize totL ss ks[k] = tl at *
      go_wp2_with (first | (refine wpList_load_mid rfl 27 (.tmp 14) rfl b (o + k * 13) rfl tl _ hR Try.underlying27 rfl (by rw [hL]; kernel_rfl) ?_))
      refine (cN.out _).mono ?_
      rintro e w' ⟨rfl, hb2⟩
      have hbn := hb.trans (hb2.mono hb.size)
      cases ok with
      | true =>
        go_wp2_with fail
        go_roundw
        case rel =>
          refine ⟨k + 1, by omega, by go_num, fun i hi hik => ?_, hbn⟩
          rcases Nat.lt_or_ge i k with h | h
          · exact HN.out i hi h
          · exact HKK.out i hi (by omega) HO.out hi
        case measure => simp [intOf]; omega
      | false =>
        go_wp2_with fail
        go_ret
        refine ⟨⟨k, rfl, ⟨fun _ h => ?_, fun _ => by omega⟩⟩, hbn⟩
        have := h k hlt hlt
        rw [HO.out] at this
        cases this
    · clear hc
      obtain rfl : k = ks.length := by omega
      go_wp2
      go_ret
      exact ⟨⟨-1, rfl, Iff.intro (fun h => by omega) (fun h => absurd HN.out h)⟩, hb⟩
theorem okS_all (ss : List Stk) (ks : List Key) : okS ss ks ks.length ↔ ks.all (kpS ss) = true := by
  unfold okS
  rw [List.all_eq_true]
  constructor
  · intro h x hx
    obtain ⟨j, hj, rfl⟩ := List.getElem_of_mem hx
    exact h j hj hj
  · exact fun h i hi _ => h _ (List.getElem_mem hi)
set_option maxHeartbeats 1000000 in
theorem contains_calls (ss : List Stk) (ks : List Key) (v : Value) (lo : Nat) (w : World) (hv : Sl w lo w.heap.size 13 v ks.length (ks.flatMap (totL ss))) :
    Calls Try.prog 31 #[v, .func (.func 32) #[] #[]] w fun e w' => e = .returned (.bool (!(ks.all (kpS ss)))) ∧ Below w.heap.size w w' := by
  have cI := Lib.hid (index_calls ss ks v lo w hv)
  obtain ⟨A, c, rfl, hc1, hc2, hc⟩ := hv.at_
  clear hc hv
  go_enter Try.func31, Try.ntmps31
  go_wp2_with fail
  refine cI.out.mono ?_
  rintro e w' ⟨⟨r, rfl, hr⟩, hb⟩
  have HR := Lib.hid (show (!(ks.all (kpS ss))) = decide (r ≥ 0) by
    rw [okS_all] at hr
    cases h : ks.all (kpS ss) <;> simp [h] at hr ⊢ <;> omega)
  clear hr
  go_wp2
  go_ret
  exact ⟨ret1 (boo HR.out.symm), hb⟩
set_option maxHeartbeats 1000000 in
theorem all_calls (ss : List Stk) (v : Value) (w : World) (base : Nat) (h : StsAt w base v ss) (hl : ss.length ≤ 1000) :
    Calls Try.prog 18 #[v] w fun e w' => e = .returned (.bool (allS ss)) ∧ Below w.heap.size w w' := by
  have cT := Lib.hid (totals_calls ss v w base h hl)
  have HA := Lib.hid (show allS ss = (allKeys ss).all (kpS ss) from rfl)
  obtain ⟨ps, hpl, hsl, hps⟩ := h.at_
  obtain ⟨A, c, rfl, hc1, hc2, -⟩ := hsl.at_
  clear hsl hps hpl h
  go_enter Try.func18, Try.ntmps18
  go_wp2_with fail
  refine cT.out.mono ?_
  rintro e W1 ⟨⟨u, rfl, hu⟩, hb1⟩
  have hsl := Sl.of_own hu
  have cC := Lib.hid (contains_calls ss (allKeys ss) u w.heap.size W1 hsl)
  obtain ⟨A1, c1, rfl, -⟩ := hsl.at_
  clear hsl hu
  go_wp2_with fail
  refine cC.out.mono ?_
  rintro e W2 ⟨rfl, hb2⟩
  have hbn := hb1.trans (hb2.mono hb1.size)
  generalize (allKeys ss).all (kpS ss) = b at *
  go_wp2
  go_ret
  exact ⟨by rw [HA.out]; rfl, hbn⟩
end Sk
end Go.Proofs.Ytlhpdalfnjhokaa
