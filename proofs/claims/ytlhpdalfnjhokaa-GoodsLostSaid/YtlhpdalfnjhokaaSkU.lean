/-
  The law Lost.
-/
import Derived.Test.YtlhpdalfnjhokaaSkR
import Derived.Test.YtlhpdalfnjhokaaObg
namespace Go.Proofs.Ytlhpdalfnjhokaa
open Go.RowKit Go.Maps
namespace Sk
open It Al Kp
attribute [local go_sem] Oper.semAt_some
def inB (x : Int) : Prop := -35184372088832 ≤ x ∧ x ≤ 35184372088832
theorem kept_zone (a0 a1 a2 a3 a4 a5 a6 a7 a8 a9 a10 way : Int) (h : ∀ x ∈ [a0, a1, a2, a3, way, a4, a5, a6, a8, a9], -70368744177664 ≤ x ∧ x ≤ 70368744177664) :
    keptT a0 a1 a2 a3 a4 a5 a6 a7 a8 a9 a10 way = (decide (0 ≤ way) && decide (a0 + a1 + a2 + a3 + way = a4 + a5 + a6 - a8 - a9)) := by
  simp only [List.forall_mem_cons, List.not_mem_nil, false_implies, implies_true, and_true] at h
  obtain ⟨h0, h1, h2, h3, h4, h5, h6, h7, h8, h9⟩ := h
  unfold keptT
  have w1 : wrap64 (a0 + a1) = a0 + a1 := by unfold wrap64; omega
  have w2 : wrap64 (a0 + a1 + a2) = a0 + a1 + a2 := by unfold wrap64; omega
  have w3 : wrap64 (a0 + a1 + a2 + a3) = a0 + a1 + a2 + a3 := by unfold wrap64; omega
  have w4 : wrap64 (a0 + a1 + a2 + a3 + way) = a0 + a1 + a2 + a3 + way := by unfold wrap64; omega
  have v1 : wrap64 (a4 + a5) = a4 + a5 := by unfold wrap64; omega
  have v2 : wrap64 (a4 + a5 + a6) = a4 + a5 + a6 := by unfold wrap64; omega
  have v3 : wrap64 (a4 + a5 + a6 - a8) = a4 + a5 + a6 - a8 := by unfold wrap64; omega
  have v4 : wrap64 (a4 + a5 + a6 - a8 - a9) = a4 + a5 + a6 - a8 - a9 := by unfold wrap64; omega
  rw [w1, w2, w3, w4, v1, v2, v3, v4]
  rfl
theorem wrap_near {x y : Int} (h : inB x) (h1 : y ≤ 1099511627776) (h2 : -1099511627776 ≤ y) : wrap64 (x + y) = x + y := by unfold inB at h; unfold wrap64; omega
theorem lost_0 (a0 a1 a2 a3 a4 a5 a6 a7 a8 a9 a10 wy by_ : Int) (h : ∀ x ∈ [a0, a1, a2, a3, wy, a4, a5, a6, a8, a9], inB x) (h0 : by_ ≠ 0) (h1 : by_ ≤ 1099511627776) (h2 : -1099511627776 ≤ by_) : (!(keptT a0 a1 a2 a3 a4 a5 a6 a7 a8 a9 a10 wy) || !(keptT (wrap64 (a0 + by_)) a1 a2 a3 a4 a5 a6 a7 a8 a9 a10 wy)) = true := by
  simp only [List.forall_mem_cons, List.not_mem_nil, false_implies, implies_true, and_true] at h
  obtain ⟨k0, k1, k2, k3, k4, k5, k6, k7, k8, k9⟩ := h
  rw [wrap_near (by assumption) h1 h2]
  unfold inB at *
  rw [kept_zone _ _ _ _ _ _ _ _ _ _ _ _ (by simp only [List.forall_mem_cons, List.not_mem_nil, false_implies, implies_true, and_true]; omega), kept_zone _ _ _ _ _ _ _ _ _ _ _ _ (by simp only [List.forall_mem_cons, List.not_mem_nil, false_implies, implies_true, and_true]; omega)]
  rw [Bool.or_eq_true, Bool.not_eq_true', Bool.not_eq_true', Bool.and_eq_false_iff, Bool.and_eq_false_iff, decide_eq_false_iff_not, decide_eq_false_iff_not, decide_eq_false_iff_not]
  omega
theorem lost_1 (a0 a1 a2 a3 a4 a5 a6 a7 a8 a9 a10 wy by_ : Int) (h : ∀ x ∈ [a0, a1, a2, a3, wy, a4, a5, a6, a8, a9], inB x) (h0 : by_ ≠ 0) (h1 : by_ ≤ 1099511627776) (h2 : -1099511627776 ≤ by_) : (!(keptT a0 a1 a2 a3 a4 a5 a6 a7 a8 a9 a10 wy) || !(keptT a0 a1 a2 (wrap64 (a3 + by_)) a4 a5 a6 a7 a8 a9 a10 wy)) = true := by
  simp only [List.forall_mem_cons, List.not_mem_nil, false_implies, implies_true, and_true] at h
  obtain ⟨k0, k1, k2, k3, k4, k5, k6, k7, k8, k9⟩ := h
  rw [wrap_near (by assumption) h1 h2]
  unfold inB at *
  rw [kept_zone _ _ _ _ _ _ _ _ _ _ _ _ (by simp only [List.forall_mem_cons, List.not_mem_nil, false_implies, implies_true, and_true]; omega), kept_zone _ _ _ _ _ _ _ _ _ _ _ _ (by simp only [List.forall_mem_cons, List.not_mem_nil, false_implies, implies_true, and_true]; omega)]
  rw [Bool.or_eq_true, Bool.not_eq_true', Bool.not_eq_true', Bool.and_eq_false_iff, Bool.and_eq_false_iff, decide_eq_false_iff_not, decide_eq_false_iff_not, decide_eq_false_iff_not]
  omega
theorem lost_2 (a0 a1 a2 a3 a4 a5 a6 a7 a8 a9 a10 wy by_ : Int) (h : ∀ x ∈ [a0, a1, a2, a3, wy, a4, a5, a6, a8, a9], inB x) (h0 : by_ ≠ 0) (h1 : by_ ≤ 1099511627776) (h2 : -1099511627776 ≤ by_) : (!(keptT a0 a1 a2 a3 a4 a5 a6 a7 a8 a9 a10 wy) || !(keptT a0 a1 a2 a3 (wrap64 (a4 + by_)) a5 a6 a7 a8 a9 a10 wy)) = true := by
  simp only [List.forall_mem_cons, List.not_mem_nil, false_implies, implies_true, and_true] at h
  obtain ⟨k0, k1, k2, k3, k4, k5, k6, k7, k8, k9⟩ := h
  rw [wrap_near (by assumption) h1 h2]
  unfold inB at *
  rw [kept_zone _ _ _ _ _ _ _ _ _ _ _ _ (by simp only [List.forall_mem_cons, List.not_mem_nil, false_implies, implies_true, and_true]; omega), kept_zone _ _ _ _ _ _ _ _ _ _ _ _ (by simp only [List.forall_mem_cons, List.not_mem_nil, false_implies, implies_true, and_true]; omega)]
  rw [Bool.or_eq_true, Bool.not_eq_true', Bool.not_eq_true', Bool.and_eq_false_iff, Bool.and_eq_false_iff, decide_eq_false_iff_not, decide_eq_false_iff_not, decide_eq_false_iff_not]
  omega
theorem lost_3 (a0 a1 a2 a3 a4 a5 a6 a7 a8 a9 a10 wy by_ : Int) (h : ∀ x ∈ [a0, a1, a2, a3, wy, a4, a5, a6, a8, a9], inB x) (h0 : by_ ≠ 0) (h1 : by_ ≤ 1099511627776) (h2 : -1099511627776 ≤ by_) : (!(keptT a0 a1 a2 a3 a4 a5 a6 a7 a8 a9 a10 wy) || !(keptT a0 a1 a2 a3 a4 a5 a6 a7 (wrap64 (a8 + by_)) a9 a10 wy)) = true := by
  simp only [List.forall_mem_cons, List.not_mem_nil, false_implies, implies_true, and_true] at h
  obtain ⟨k0, k1, k2, k3, k4, k5, k6, k7, k8, k9⟩ := h
  rw [wrap_near (by assumption) h1 h2]
  unfold inB at *
  rw [kept_zone _ _ _ _ _ _ _ _ _ _ _ _ (by simp only [List.forall_mem_cons, List.not_mem_nil, false_implies, implies_true, and_true]; omega), kept_zone _ _ _ _ _ _ _ _ _ _ _ _ (by simp only [List.forall_mem_cons, List.not_mem_nil, false_implies, implies_true, and_true]; omega)]
  rw [Bool.or_eq_true, Bool.not_eq_true', Bool.not_eq_true', Bool.and_eq_false_iff, Bool.and_eq_false_iff, decide_eq_false_iff_not, decide_eq_false_iff_not, decide_eq_false_iff_not]
  omega
theorem lost_d (a0 a1 a2 a3 a4 a5 a6 a7 a8 a9 a10 wy by_ : Int) (h : ∀ x ∈ [a0, a1, a2, a3, wy, a4, a5, a6, a8, a9], inB x) (h0 : by_ ≠ 0) (h1 : by_ ≤ 1099511627776) (h2 : -1099511627776 ≤ by_) : (!(keptT a0 a1 a2 a3 a4 a5 a6 a7 a8 a9 a10 wy) || !(keptT a0 a1 a2 a3 a4 a5 (wrap64 (a6 + by_)) a7 a8 a9 a10 wy)) = true := by
  simp only [List.forall_mem_cons, List.not_mem_nil, false_implies, implies_true, and_true] at h
  obtain ⟨k0, k1, k2, k3, k4, k5, k6, k7, k8, k9⟩ := h
  rw [wrap_near (by assumption) h1 h2]
  unfold inB at *
  rw [kept_zone _ _ _ _ _ _ _ _ _ _ _ _ (by simp only [List.forall_mem_cons, List.not_mem_nil, false_implies, implies_true, and_true]; omega), kept_zone _ _ _ _ _ _ _ _ _ _ _ _ (by simp only [List.forall_mem_cons, List.not_mem_nil, false_implies, implies_true, and_true]; omega)]
  rw [Bool.or_eq_true, Bool.not_eq_true', Bool.not_eq_true', Bool.and_eq_false_iff, Bool.and_eq_false_iff, decide_eq_false_iff_not, decide_eq_false_iff_not, decide_eq_false_iff_not]
  omega
set_option maxRecDepth 100000 in
set_option maxHeartbeats 16000000 in
theorem lost_out (wh by_ : Int) (g : ByteArray) (a0 a1 a2 a3 a4 a5 a6 a7 a8 a9 a10 wy : Int) (w : World) (h : by_ = 0 ∨ 1099511627776 < by_ ∨ by_ < -1099511627776) :
    Calls Try.prog 5 #[.agg #[.string g, .int .i64 a0, .int .i64 a1, .int .i64 a2, .int .i64 a3, .int .i64 a4, .int .i64 a5, .int .i64 a6, .int .i64 a7, .int .i64 a8, .int .i64 a9, .int .i64 a10, .int .i64 wy], .int .i64 wh, .int .i64 by_] w fun e w' => e = .returned (.bool true) ∧ Below w.heap.size w w' := by
  have cI := Lib.hid lives_calls
  have ha := (Below.refl w.heap.size w).alloc (Nat.le_refl _) (.cells #[.string g, .int .i64 a0, .int .i64 a1, .int .i64 a2, .int .i64 a3, .int .i64 a4, .int .i64 a5, .int .i64 a6, .int .i64 a7, .int .i64 a8, .int .i64 a9, .int .i64 a10, .int .i64 wy] 27)
  by_cases h0 : by_ = 0
  · subst h0
    go_enter Try.func5, Try.ntmps5
    go_wp2_with fail
    refine (cI.out _).mono ?_
    rintro e W ⟨rfl, hb⟩
    have hB := ha.trans (hb.mono ha.size)
    go_wp2
    go_ret
    exact ⟨rfl, hB⟩
  · have f0 : (by_ == 0) = false := by simpa using h0
    by_cases h1 : 1099511627776 < by_
    · have f1 : decide (by_ > 1099511627776) = true := by simpa using h1
      go_enter Try.func5, Try.ntmps5
      go_wp2_with fail
      refine (cI.out _).mono ?_
      rintro e W ⟨rfl, hb⟩
      have hB := ha.trans (hb.mono ha.size)
      go_wp2
      go_ret
      exact ⟨rfl, hB⟩
    · have f1 : decide (by_ > 1099511627776) = false := by simpa using h1
      have f2 : decide (by_ < -1099511627776) = true := by simp; omega
      go_enter Try.func5, Try.ntmps5
      go_wp2_with fail
      refine (cI.out _).mono ?_
      rintro e W ⟨rfl, hb⟩
      have hB := ha.trans (hb.mono ha.size)
      go_wp2
      go_ret
      exact ⟨rfl, hB⟩
set_option maxRecDepth 100000 in
set_option maxHeartbeats 16000000 in
theorem lost_in (wh by_ : Int) (g : ByteArray) (a0 a1 a2 a3 a4 a5 a6 a7 a8 a9 a10 wy : Int) (w : World) (hb0 : by_ ≠ 0) (hb1 : by_ ≤ 1099511627776) (hb2 : -1099511627776 ≤ by_) :
    Calls Try.prog 5 #[.agg #[.string g, .int .i64 a0, .int .i64 a1, .int .i64 a2, .int .i64 a3, .int .i64 a4, .int .i64 a5, .int .i64 a6, .int .i64 a7, .int .i64 a8, .int .i64 a9, .int .i64 a10, .int .i64 wy], .int .i64 wh, .int .i64 by_] w fun e w' => e = .returned (.bool true) ∧ Below w.heap.size w w' := by
  have cI := Lib.hid lives_calls
  have f0 : (by_ == 0) = false := by simpa using hb0
  have f1 : decide (by_ > 1099511627776) = false := by simp; omega
  have f2 : decide (by_ < -1099511627776) = false := by simp; omega
  have hB := (Below.refl w.heap.size w).alloc (Nat.le_refl _) (.cells #[.string g, .int .i64 a0, .int .i64 a1, .int .i64 a2, .int .i64 a3, .int .i64 a4, .int .i64 a5, .int .i64 a6, .int .i64 a7, .int .i64 a8, .int .i64 a9, .int .i64 a10, .int .i64 wy] 27)
  have o1 := Ob.new w 27 #[.string g, .int .i64 a0, .int .i64 a1, .int .i64 a2, .int .i64 a3, .int .i64 a4, .int .i64 a5, .int .i64 a6, .int .i64 a7, .int .i64 a8, .int .i64 a9, .int .i64 a10, .int .i64 wy]
  have hs1 : (w.alloc (.cells #[.string g, .int .i64 a0, .int .i64 a1, .int .i64 a2, .int .i64 a3, .int .i64 a4, .int .i64 a5, .int .i64 a6, .int .i64 a7, .int .i64 a8, .int .i64 a9, .int .i64 a10, .int .i64 wy] 27)).heap.size = w.heap.size + 1 := by simp
  have HB0 := Lib.hid hb0
  clear hb0
  go_enter Try.func5, Try.ntmps5
  go_upto_region 3 with (fail)
  generalize w.alloc (.cells #[.string g, .int .i64 a0, .int .i64 a1, .int .i64 a2, .int .i64 a3, .int .i64 a4, .int .i64 a5, .int .i64 a6, .int .i64 a7, .int .i64 a8, .int .i64 a9, .int .i64 a10, .int .i64 wy] 27) = w1 at *
  have c1 := o1.cell (j := 1) (v := .int .i64 a0) rfl
  have c2 := o1.cell (j := 2) (v := .int .i64 a1) rfl
  have c3 := o1.cell (j := 3) (v := .int .i64 a2) rfl
  have c4 := o1.cell (j := 4) (v := .int .i64 a3) rfl
  have c5 := o1.cell (j := 5) (v := .int .i64 a4) rfl
  have c6 := o1.cell (j := 6) (v := .int .i64 a5) rfl
  have c7 := o1.cell (j := 7) (v := .int .i64 a6) rfl
  have c9 := o1.cell (j := 9) (v := .int .i64 a8) rfl
  have c10 := o1.cell (j := 10) (v := .int .i64 a9) rfl
  have c12 := o1.cell (j := 12) (v := .int .i64 wy) rfl
  go_upto_region 4 with (fail)
  have hI := Sl.new w1 #[.int .i64 a0, .int .i64 a1, .int .i64 a2, .int .i64 a3, .int .i64 wy, .int .i64 a4, .int .i64 a5, .int .i64 a6, .int .i64 a8, .int .i64 a9] 3 (size := 1) (n := 10) rfl (by unfold maxLen; omega)
  rw [hs1] at hI
  have hII : IntsAt (w1.alloc (.cells #[.int .i64 a0, .int .i64 a1, .int .i64 a2, .int .i64 a3, .int .i64 wy, .int .i64 a4, .int .i64 a5, .int .i64 a6, .int .i64 a8, .int .i64 a9] 3)) (w.heap.size + 1) (w.heap.size + 1 + 1) (.slice (some ⟨w.heap.size + 1, 0, none⟩) 10 10) [a0, a1, a2, a3, wy, a4, a5, a6, a8, a9] := hI
  have hB2 : Below w.heap.size w (w1.alloc (.cells #[.int .i64 a0, .int .i64 a1, .int .i64 a2, .int .i64 a3, .int .i64 wy, .int .i64 a4, .int .i64 a5, .int .i64 a6, .int .i64 a8, .int .i64 a9] 3)) := hB.alloc hB.size _
  have o2 := o1.alloc (.cells #[.int .i64 a0, .int .i64 a1, .int .i64 a2, .int .i64 a3, .int .i64 wy, .int .i64 a4, .int .i64 a5, .int .i64 a6, .int .i64 a8, .int .i64 a9] 3)
  have hs2 : (w1.alloc (.cells #[.int .i64 a0, .int .i64 a1, .int .i64 a2, .int .i64 a3, .int .i64 wy, .int .i64 a4, .int .i64 a5, .int .i64 a6, .int .i64 a8, .int .i64 a9] 3)).heap.size = w.heap.size + 2 := by simp [hs1]
  clear hI hB o1 c1 c2 c3 c4 c5 c6 c7 c9 c10 c12
  generalize w1.alloc (.cells #[.int .i64 a0, .int .i64 a1, .int .i64 a2, .int .i64 a3, .int .i64 wy, .int .i64 a4, .int .i64 a5, .int .i64 a6, .int .i64 a8, .int .i64 a9] 3) = w2 at *
  have HS := Lib.hid hs2
  clear hs1 hs2
  obtain ⟨Lx, hLx⟩ : ∃ l, l = [a0, a1, a2, a3, wy, a4, a5, a6, a8, a9] := ⟨_, rfl⟩
  have hlen : Lx.length = 10 := by rw [hLx]; rfl
  rw [← hLx] at hII
  have HL := Lib.hid hLx
  clear hLx
  have HN := Lib.hid hlen
  clear hlen
  go_loop [8, 52] (fun _ i => ∃ k : Nat, k ≤ 10 ∧ i = .int .i64 k ∧ ∀ j, j < k → inB (Lx.getD j 0)) (fun _ i => 10 - (intOf i).toNat)
  case atStart => exact ⟨0, by omega, rfl, fun j hj => by omega⟩
  case round =>
    obtain ⟨k, hk, rfl, hN⟩ := hrel
    have HIN := Lib.hid hN
    clear hN
    by_cases hlt : k < 10
    · obtain ⟨b, o, e1, -, -, hcell⟩ := hII.cellAt (j := k) (by have := HN.out; omega)
      cases e1
      rw [Nat.zero_add] at hcell
      generalize hx : Lx.getD k 0 = x at hcell
      have HX := Lib.hid hx
      clear hx
      have hd : decide ((k : Int) < 10) = true := by simpa using (by omega : (k : Int) < 10)
      by_cases hin : inB x
      · have hin2 := hin
        unfold inB at hin2
        have d1 : decide (x < -35184372088832) = false := by simp; omega
        have d2 : decide (x > 35184372088832) = false := by simp; omega
        have hx := hin
        have HX2 := Lib.hid hx
        clear hx hin hin2
        go_wp2
        go_round
        case rel =>
          refine ⟨k + 1, by omega, by go_num, fun j hj => ?_⟩
          rcases Nat.lt_or_ge j k with h | h
          · exact HIN.out j h
          · obtain rfl : j = k := by omega
            rw [HX.out]
            exact HX2.out
        case measure => simp [intOf]; omega
      · by_cases h1 : x < -35184372088832
        · have d1 : decide (x < -35184372088832) = true := by simpa using h1
          clear hin
          go_wp2_with fail
          refine (cI.out _).mono ?_
          rintro e W ⟨rfl, hb⟩
          have hBB := hB2.trans (hb.mono hB2.size)
          go_wp2
          go_ret
          exact ⟨rfl, hBB⟩
        · have d1 : decide (x < -35184372088832) = false := by simpa using h1
          have d2 : decide (x > 35184372088832) = true := by unfold inB at hin; simp; omega
          clear hin
          go_wp2_with fail
          refine (cI.out _).mono ?_
          rintro e W ⟨rfl, hb⟩
          have hBB := hB2.trans (hb.mono hB2.size)
          go_wp2
          go_ret
          exact ⟨rfl, hBB⟩
    · obtain rfl : k = 10 := by omega
      have h : ∀ x ∈ [a0, a1, a2, a3, wy, a4, a5, a6, a8, a9], inB x := by
        have HLo := HL.out
        intro x hx
        rw [← HLo] at hx
        obtain ⟨j, hj, rfl⟩ := List.getElem_of_mem hx
        have := HIN.out j (by have := HN.out; omega)
        rwa [List.getD_eq_getElem?_getD, List.getElem?_eq_getElem hj] at this
      clear HIN hlt hII
      have H := Lib.hid h
      clear h
      have cT := Lib.hid (kept_calls g a0 a1 a2 a3 a4 a5 a6 a7 a8 a9 a10 wy)
      generalize hk : keptT a0 a1 a2 a3 a4 a5 a6 a7 a8 a9 a10 wy = kt at cT
      go_upto_region 10 with (first | (refine wpList_load_ob rfl 27 (.tmp 3) rfl rfl _ o2 Try.underlying27 rfl (by kernel_rfl) ?_))
      have o3 := Ob.new w2 27 #[.string g, .int .i64 a0, .int .i64 a1, .int .i64 a2, .int .i64 a3, .int .i64 a4, .int .i64 a5, .int .i64 a6, .int .i64 a7, .int .i64 a8, .int .i64 a9, .int .i64 a10, .int .i64 wy]
      have hB3 : Below w.heap.size w (w2.alloc (.cells #[.string g, .int .i64 a0, .int .i64 a1, .int .i64 a2, .int .i64 a3, .int .i64 a4, .int .i64 a5, .int .i64 a6, .int .i64 a7, .int .i64 a8, .int .i64 a9, .int .i64 a10, .int .i64 wy] 27)) := hB2.alloc hB2.size _
      have p2 := o2.alloc (.cells #[.string g, .int .i64 a0, .int .i64 a1, .int .i64 a2, .int .i64 a3, .int .i64 a4, .int .i64 a5, .int .i64 a6, .int .i64 a7, .int .i64 a8, .int .i64 a9, .int .i64 a10, .int .i64 wy] 27)
      have hne : w.heap.size ≠ w2.heap.size := by have := HS.out; omega
      have hge : w.heap.size ≤ w2.heap.size := by have := HS.out; omega
      clear hB2 o2
      generalize w2.alloc (.cells #[.string g, .int .i64 a0, .int .i64 a1, .int .i64 a2, .int .i64 a3, .int .i64 a4, .int .i64 a5, .int .i64 a6, .int .i64 a7, .int .i64 a8, .int .i64 a9, .int .i64 a10, .int .i64 wy] 27) = w3 at *
      have HK0 := Lib.hid hk
      clear hk
      by_cases e0 : wh = 0
      · subst e0
        have cell := o3.cell (j := 1) (v := .int .i64 a0) rfl
        have fz := o3.frozen 1
        have cU := Lib.hid (kept_calls g (wrap64 (a0 + by_)) a1 a2 a3 a4 a5 a6 a7 a8 a9 a10 wy)
        have HF := Lib.hid (show (!(keptT a0 a1 a2 a3 a4 a5 a6 a7 a8 a9 a10 wy) || !(keptT (wrap64 (a0 + by_)) a1 a2 a3 a4 a5 a6 a7 a8 a9 a10 wy)) = true from lost_0 a0 a1 a2 a3 a4 a5 a6 a7 a8 a9 a10 wy by_ H.out HB0.out hb1 hb2)
        generalize hu : keptT (wrap64 (a0 + by_)) a1 a2 a3 a4 a5 a6 a7 a8 a9 a10 wy = ku at cU
        have HU := Lib.hid hu
        clear hu
        have HG := Lib.hid (show (!kt || !ku) = true by rw [← HK0.out, ← HU.out]; exact HF.out)
        clear HF HU
        go_upto_region 20 with (fail)
        have o5 : Ob (w3.setCell ⟨w2.heap.size, 1, none⟩ (.int .i64 (wrap64 (a0 + by_)))) w2.heap.size 27 #[.string g, .int .i64 (wrap64 (a0 + by_)), .int .i64 a1, .int .i64 a2, .int .i64 a3, .int .i64 a4, .int .i64 a5, .int .i64 a6, .int .i64 a7, .int .i64 a8, .int .i64 a9, .int .i64 a10, .int .i64 wy] := o3.set 1 (.int .i64 (wrap64 (a0 + by_)))
        have q2 := p2.kept (grownBy_set w3 w2.heap.size 1 (.int .i64 (wrap64 (a0 + by_)))) (fun e => hne (Option.some.inj e))
        have hB5 := hB3.grown (grownBy_set w3 w2.heap.size 1 (.int .i64 (wrap64 (a0 + by_)))) hB3.size (fun k e => by cases e; exact hge)
        clear cell fz o3 p2 hB3
        generalize w3.setCell ⟨w2.heap.size, 1, none⟩ (.int .i64 (wrap64 (a0 + by_))) = w5 at *
        go_wp2_with fail
        refine (cI.out _).mono ?_
        rintro e W ⟨rfl, hb⟩
        have o6 := o5.same hb
        have q6 := q2.same hb
        have hB6 := hB5.trans (hb.mono hB5.size)
        clear hb o5 q2 hB5
        cases kt with
        | false =>
          clear HG
          go_wp2_with (first | (refine wpList_load_obg (by rfl) 27 (.tmp 3) rfl rfl _ q6 Try.underlying27 rfl (by kernel_rfl) ?_) | (go_at_call 13; refine (cT.out _).mono ?_; rintro e W2 ⟨rfl, hb⟩; replace hB6 := hB6.trans (hb.mono hB6.size); clear hb))
          go_ret
          exact ⟨rfl, hB6⟩
        | true =>
          cases ku with
          | true => exact absurd HG.out (by decide)
          | false =>
            clear HG
            go_wp2_with (refine wpList_load_obg (by rfl) 27 (.tmp 3) rfl rfl _ q6 Try.underlying27 rfl (by kernel_rfl) ?_)
            refine (cT.out _).mono ?_
            rintro e W2 ⟨rfl, hb⟩
            have o7 := o6.same hb
            have hB7 := hB6.trans (hb.mono hB6.size)
            clear hb o6 hB6
            go_wp2_with (refine wpList_load_obg (by rfl) 27 (.tmp 9) rfl rfl _ o7 Try.underlying27 rfl (by kernel_rfl) ?_)
            refine (cU.out _).mono ?_
            rintro e W3 ⟨rfl, hb⟩
            have hB8 := hB7.trans (hb.mono hB7.size)
            go_wp2
            go_ret
            exact ⟨rfl, hB8⟩
      · have g0 : (wh == 0) = false := by simpa using e0
        clear e0
        by_cases e1 : wh = 1
        · subst e1
          have cell := o3.cell (j := 4) (v := .int .i64 a3) rfl
          have fz := o3.frozen 4
          have cU := Lib.hid (kept_calls g a0 a1 a2 (wrap64 (a3 + by_)) a4 a5 a6 a7 a8 a9 a10 wy)
          have HF := Lib.hid (show (!(keptT a0 a1 a2 a3 a4 a5 a6 a7 a8 a9 a10 wy) || !(keptT a0 a1 a2 (wrap64 (a3 + by_)) a4 a5 a6 a7 a8 a9 a10 wy)) = true from lost_1 a0 a1 a2 a3 a4 a5 a6 a7 a8 a9 a10 wy by_ H.out HB0.out hb1 hb2)
          generalize hu : keptT a0 a1 a2 (wrap64 (a3 + by_)) a4 a5 a6 a7 a8 a9 a10 wy = ku at cU
          have HU := Lib.hid hu
          clear hu
          have HG := Lib.hid (show (!kt || !ku) = true by rw [← HK0.out, ← HU.out]; exact HF.out)
          clear HF HU
          go_upto_region 20 with (fail)
          have o5 : Ob (w3.setCell ⟨w2.heap.size, 4, none⟩ (.int .i64 (wrap64 (a3 + by_)))) w2.heap.size 27 #[.string g, .int .i64 a0, .int .i64 a1, .int .i64 a2, .int .i64 (wrap64 (a3 + by_)), .int .i64 a4, .int .i64 a5, .int .i64 a6, .int .i64 a7, .int .i64 a8, .int .i64 a9, .int .i64 a10, .int .i64 wy] := o3.set 4 (.int .i64 (wrap64 (a3 + by_)))
          have q2 := p2.kept (grownBy_set w3 w2.heap.size 4 (.int .i64 (wrap64 (a3 + by_)))) (fun e => hne (Option.some.inj e))
          have hB5 := hB3.grown (grownBy_set w3 w2.heap.size 4 (.int .i64 (wrap64 (a3 + by_)))) hB3.size (fun k e => by cases e; exact hge)
          clear cell fz o3 p2 hB3
          generalize w3.setCell ⟨w2.heap.size, 4, none⟩ (.int .i64 (wrap64 (a3 + by_))) = w5 at *
          go_wp2_with fail
          refine (cI.out _).mono ?_
          rintro e W ⟨rfl, hb⟩
          have o6 := o5.same hb
          have q6 := q2.same hb
          have hB6 := hB5.trans (hb.mono hB5.size)
          clear hb o5 q2 hB5
          cases kt with
          | false =>
            clear HG
            go_wp2_with (first | (refine wpList_load_obg (by rfl) 27 (.tmp 3) rfl rfl _ q6 Try.underlying27 rfl (by kernel_rfl) ?_) | (go_at_call 13; refine (cT.out _).mono ?_; rintro e W2 ⟨rfl, hb⟩; replace hB6 := hB6.trans (hb.mono hB6.size); clear hb))
            go_ret
            exact ⟨rfl, hB6⟩
          | true =>
            cases ku with
            | true => exact absurd HG.out (by decide)
            | false =>
              clear HG
              go_wp2_with (refine wpList_load_obg (by rfl) 27 (.tmp 3) rfl rfl _ q6 Try.underlying27 rfl (by kernel_rfl) ?_)
              refine (cT.out _).mono ?_
              rintro e W2 ⟨rfl, hb⟩
              have o7 := o6.same hb
              have hB7 := hB6.trans (hb.mono hB6.size)
              clear hb o6 hB6
              go_wp2_with (refine wpList_load_obg (by rfl) 27 (.tmp 9) rfl rfl _ o7 Try.underlying27 rfl (by kernel_rfl) ?_)
              refine (cU.out _).mono ?_
              rintro e W3 ⟨rfl, hb⟩
              have hB8 := hB7.trans (hb.mono hB7.size)
              go_wp2
              go_ret
              exact ⟨rfl, hB8⟩
        · have g1 : (wh == 1) = false := by simpa using e1
          clear e1
          by_cases e2 : wh = 2
          · subst e2
            have cell := o3.cell (j := 5) (v := .int .i64 a4) rfl
            have fz := o3.frozen 5
            have cU := Lib.hid (kept_calls g a0 a1 a2 a3 (wrap64 (a4 + by_)) a5 a6 a7 a8 a9 a10 wy)
            have HF := Lib.hid (show (!(keptT a0 a1 a2 a3 a4 a5 a6 a7 a8 a9 a10 wy) || !(keptT a0 a1 a2 a3 (wrap64 (a4 + by_)) a5 a6 a7 a8 a9 a10 wy)) = true from lost_2 a0 a1 a2 a3 a4 a5 a6 a7 a8 a9 a10 wy by_ H.out HB0.out hb1 hb2)
            generalize hu : keptT a0 a1 a2 a3 (wrap64 (a4 + by_)) a5 a6 a7 a8 a9 a10 wy = ku at cU
            have HU := Lib.hid hu
            clear hu
            have HG := Lib.hid (show (!kt || !ku) = true by rw [← HK0.out, ← HU.out]; exact HF.out)
            clear HF HU
            go_upto_region 20 with (fail)
            have o5 : Ob (w3.setCell ⟨w2.heap.size, 5, none⟩ (.int .i64 (wrap64 (a4 + by_)))) w2.heap.size 27 #[.string g, .int .i64 a0, .int .i64 a1, .int .i64 a2, .int .i64 a3, .int .i64 (wrap64 (a4 + by_)), .int .i64 a5, .int .i64 a6, .int .i64 a7, .int .i64 a8, .int .i64 a9, .int .i64 a10, .int .i64 wy] := o3.set 5 (.int .i64 (wrap64 (a4 + by_)))
            have q2 := p2.kept (grownBy_set w3 w2.heap.size 5 (.int .i64 (wrap64 (a4 + by_)))) (fun e => hne (Option.some.inj e))
            have hB5 := hB3.grown (grownBy_set w3 w2.heap.size 5 (.int .i64 (wrap64 (a4 + by_)))) hB3.size (fun k e => by cases e; exact hge)
            clear cell fz o3 p2 hB3
            generalize w3.setCell ⟨w2.heap.size, 5, none⟩ (.int .i64 (wrap64 (a4 + by_))) = w5 at *
            go_wp2_with fail
            refine (cI.out _).mono ?_
            rintro e W ⟨rfl, hb⟩
            have o6 := o5.same hb
            have q6 := q2.same hb
            have hB6 := hB5.trans (hb.mono hB5.size)
            clear hb o5 q2 hB5
            cases kt with
            | false =>
              clear HG
              go_wp2_with (first | (refine wpList_load_obg (by rfl) 27 (.tmp 3) rfl rfl _ q6 Try.underlying27 rfl (by kernel_rfl) ?_) | (go_at_call 13; refine (cT.out _).mono ?_; rintro e W2 ⟨rfl, hb⟩; replace hB6 := hB6.trans (hb.mono hB6.size); clear hb))
              go_ret
              exact ⟨rfl, hB6⟩
            | true =>
              cases ku with
              | true => exact absurd HG.out (by decide)
              | false =>
                clear HG
                go_wp2_with (refine wpList_load_obg (by rfl) 27 (.tmp 3) rfl rfl _ q6 Try.underlying27 rfl (by kernel_rfl) ?_)
                refine (cT.out _).mono ?_
                rintro e W2 ⟨rfl, hb⟩
                have o7 := o6.same hb
                have hB7 := hB6.trans (hb.mono hB6.size)
                clear hb o6 hB6
                go_wp2_with (refine wpList_load_obg (by rfl) 27 (.tmp 9) rfl rfl _ o7 Try.underlying27 rfl (by kernel_rfl) ?_)
                refine (cU.out _).mono ?_
                rintro e W3 ⟨rfl, hb⟩
                have hB8 := hB7.trans (hb.mono hB7.size)
                go_wp2
                go_ret
                exact ⟨rfl, hB8⟩
          · have g2 : (wh == 2) = false := by simpa using e2
            clear e2
            by_cases e3 : wh = 3
            · subst e3
              have cell := o3.cell (j := 9) (v := .int .i64 a8) rfl
              have fz := o3.frozen 9
              have cU := Lib.hid (kept_calls g a0 a1 a2 a3 a4 a5 a6 a7 (wrap64 (a8 + by_)) a9 a10 wy)
              have HF := Lib.hid (show (!(keptT a0 a1 a2 a3 a4 a5 a6 a7 a8 a9 a10 wy) || !(keptT a0 a1 a2 a3 a4 a5 a6 a7 (wrap64 (a8 + by_)) a9 a10 wy)) = true from lost_3 a0 a1 a2 a3 a4 a5 a6 a7 a8 a9 a10 wy by_ H.out HB0.out hb1 hb2)
              generalize hu : keptT a0 a1 a2 a3 a4 a5 a6 a7 (wrap64 (a8 + by_)) a9 a10 wy = ku at cU
              have HU := Lib.hid hu
              clear hu
              have HG := Lib.hid (show (!kt || !ku) = true by rw [← HK0.out, ← HU.out]; exact HF.out)
              clear HF HU
              go_upto_region 20 with (fail)
              have o5 : Ob (w3.setCell ⟨w2.heap.size, 9, none⟩ (.int .i64 (wrap64 (a8 + by_)))) w2.heap.size 27 #[.string g, .int .i64 a0, .int .i64 a1, .int .i64 a2, .int .i64 a3, .int .i64 a4, .int .i64 a5, .int .i64 a6, .int .i64 a7, .int .i64 (wrap64 (a8 + by_)), .int .i64 a9, .int .i64 a10, .int .i64 wy] := o3.set 9 (.int .i64 (wrap64 (a8 + by_)))
              have q2 := p2.kept (grownBy_set w3 w2.heap.size 9 (.int .i64 (wrap64 (a8 + by_)))) (fun e => hne (Option.some.inj e))
              have hB5 := hB3.grown (grownBy_set w3 w2.heap.size 9 (.int .i64 (wrap64 (a8 + by_)))) hB3.size (fun k e => by cases e; exact hge)
              clear cell fz o3 p2 hB3
              generalize w3.setCell ⟨w2.heap.size, 9, none⟩ (.int .i64 (wrap64 (a8 + by_))) = w5 at *
              go_wp2_with fail
              refine (cI.out _).mono ?_
              rintro e W ⟨rfl, hb⟩
              have o6 := o5.same hb
              have q6 := q2.same hb
              have hB6 := hB5.trans (hb.mono hB5.size)
              clear hb o5 q2 hB5
              cases kt with
              | false =>
                clear HG
                go_wp2_with (first | (refine wpList_load_obg (by rfl) 27 (.tmp 3) rfl rfl _ q6 Try.underlying27 rfl (by kernel_rfl) ?_) | (go_at_call 13; refine (cT.out _).mono ?_; rintro e W2 ⟨rfl, hb⟩; replace hB6 := hB6.trans (hb.mono hB6.size); clear hb))
                go_ret
                exact ⟨rfl, hB6⟩
              | true =>
                cases ku with
                | true => exact absurd HG.out (by decide)
                | false =>
                  clear HG
                  go_wp2_with (refine wpList_load_obg (by rfl) 27 (.tmp 3) rfl rfl _ q6 Try.underlying27 rfl (by kernel_rfl) ?_)
                  refine (cT.out _).mono ?_
                  rintro e W2 ⟨rfl, hb⟩
                  have o7 := o6.same hb
                  have hB7 := hB6.trans (hb.mono hB6.size)
                  clear hb o6 hB6
                  go_wp2_with (refine wpList_load_obg (by rfl) 27 (.tmp 9) rfl rfl _ o7 Try.underlying27 rfl (by kernel_rfl) ?_)
                  refine (cU.out _).mono ?_
                  rintro e W3 ⟨rfl, hb⟩
                  have hB8 := hB7.trans (hb.mono hB7.size)
                  go_wp2
                  go_ret
                  exact ⟨rfl, hB8⟩
            · have g3 : (wh == 3) = false := by simpa using e3
              clear e3
              have cell := o3.cell (j := 7) (v := .int .i64 a6) rfl
              have fz := o3.frozen 7
              have cU := Lib.hid (kept_calls g a0 a1 a2 a3 a4 a5 (wrap64 (a6 + by_)) a7 a8 a9 a10 wy)
              have HF := Lib.hid (show (!(keptT a0 a1 a2 a3 a4 a5 a6 a7 a8 a9 a10 wy) || !(keptT a0 a1 a2 a3 a4 a5 (wrap64 (a6 + by_)) a7 a8 a9 a10 wy)) = true from lost_d a0 a1 a2 a3 a4 a5 a6 a7 a8 a9 a10 wy by_ H.out HB0.out hb1 hb2)
              generalize hu : keptT a0 a1 a2 a3 a4 a5 (wrap64 (a6 + by_)) a7 a8 a9 a10 wy = ku at cU
              have HU := Lib.hid hu
              clear hu
              have HG := Lib.hid (show (!kt || !ku) = true by rw [← HK0.out, ← HU.out]; exact HF.out)
              clear HF HU
              go_upto_region 20 with (fail)
              have o5 : Ob (w3.setCell ⟨w2.heap.size, 7, none⟩ (.int .i64 (wrap64 (a6 + by_)))) w2.heap.size 27 #[.string g, .int .i64 a0, .int .i64 a1, .int .i64 a2, .int .i64 a3, .int .i64 a4, .int .i64 a5, .int .i64 (wrap64 (a6 + by_)), .int .i64 a7, .int .i64 a8, .int .i64 a9, .int .i64 a10, .int .i64 wy] := o3.set 7 (.int .i64 (wrap64 (a6 + by_)))
              have q2 := p2.kept (grownBy_set w3 w2.heap.size 7 (.int .i64 (wrap64 (a6 + by_)))) (fun e => hne (Option.some.inj e))
              have hB5 := hB3.grown (grownBy_set w3 w2.heap.size 7 (.int .i64 (wrap64 (a6 + by_)))) hB3.size (fun k e => by cases e; exact hge)
              clear cell fz o3 p2 hB3
              generalize w3.setCell ⟨w2.heap.size, 7, none⟩ (.int .i64 (wrap64 (a6 + by_))) = w5 at *
              go_wp2_with fail
              refine (cI.out _).mono ?_
              rintro e W ⟨rfl, hb⟩
              have o6 := o5.same hb
              have q6 := q2.same hb
              have hB6 := hB5.trans (hb.mono hB5.size)
              clear hb o5 q2 hB5
              cases kt with
              | false =>
                clear HG
                go_wp2_with (first | (refine wpList_load_obg (by rfl) 27 (.tmp 3) rfl rfl _ q6 Try.underlying27 rfl (by kernel_rfl) ?_) | (go_at_call 13; refine (cT.out _).mono ?_; rintro e W2 ⟨rfl, hb⟩; replace hB6 := hB6.trans (hb.mono hB6.size); clear hb))
                go_ret
                exact ⟨rfl, hB6⟩
              | true =>
                cases ku with
                | true => exact absurd HG.out (by decide)
                | false =>
                  clear HG
                  go_wp2_with (refine wpList_load_obg (by rfl) 27 (.tmp 3) rfl rfl _ q6 Try.underlying27 rfl (by kernel_rfl) ?_)
                  refine (cT.out _).mono ?_
                  rintro e W2 ⟨rfl, hb⟩
                  have o7 := o6.same hb
                  have hB7 := hB6.trans (hb.mono hB6.size)
                  clear hb o6 hB6
                  go_wp2_with (refine wpList_load_obg (by rfl) 27 (.tmp 9) rfl rfl _ o7 Try.underlying27 rfl (by kernel_rfl) ?_)
                  refine (cU.out _).mono ?_
                  rintro e W3 ⟨rfl, hb⟩
                  have hB8 := hB7.trans (hb.mono hB7.size)
                  go_wp2
                  go_ret
                  exact ⟨rfl, hB8⟩
theorem lost_law (wh by_ : Int) (g : ByteArray) (a0 a1 a2 a3 a4 a5 a6 a7 a8 a9 a10 wy : Int) (w : World) :
    Calls Try.prog 5 #[.agg #[.string g, .int .i64 a0, .int .i64 a1, .int .i64 a2, .int .i64 a3, .int .i64 a4, .int .i64 a5, .int .i64 a6, .int .i64 a7, .int .i64 a8, .int .i64 a9, .int .i64 a10, .int .i64 wy], .int .i64 wh, .int .i64 by_] w fun e w' => e = .returned (.bool true) ∧ Below w.heap.size w w' := by
  by_cases h : by_ = 0 ∨ 1099511627776 < by_ ∨ by_ < -1099511627776
  · exact lost_out wh by_ g a0 a1 a2 a3 a4 a5 a6 a7 a8 a9 a10 wy w h
  · exact lost_in wh by_ g a0 a1 a2 a3 a4 a5 a6 a7 a8 a9 a10 wy w (by omega) (by omega) (by omega)
end Sk
end Go.Proofs.Ytlhpdalfnjhokaa
