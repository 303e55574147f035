/-
  a stock of goods: each, right.
-/
import Derived.Test.YtlhpdalfnjhokaaSkB
namespace Go.Proofs.Ytlhpdalfnjhokaa
open Go.RowKit Go.Maps
namespace Sk
open It Al
theorem okAt_lo {k : Nat} (h : k < 4) (x : Int) : okAt k x = countOk x := by unfold okAt; rw [if_pos h]
theorem okAt_six (x : Int) : okAt 6 x = true := rfl
theorem okAt_hi {k : Nat} (h : ¬ k < 4) (h2 : k ≠ 6) (x : Int) : okAt k x = flowOk x := by unfold okAt; rw [if_neg h, if_neg h2]
theorem flowOk_no {x : Int} (h : x < 0 ∨ 72057594037927936 < x) : flowOk x = false := by
  unfold flowOk
  rcases h with h | h
  · rw [decide_eq_false (p := 0 ≤ x) (by omega)]; rfl
  · rw [decide_eq_false (p := x ≤ 72057594037927936) (by omega)]; simp
theorem flowOk_yes {x : Int} (h : 0 ≤ x) (h2 : x ≤ 72057594037927936) : flowOk x = true := by
  unfold flowOk
  rw [decide_eq_true h, decide_eq_true h2]
  rfl
theorem ix0 (g : Nat) (W : World) : (Instr.index 113 (.agg #[.pointer (some ⟨g, 0, none⟩), .pointer (some ⟨g, 1, none⟩), .pointer (some ⟨g, 2, none⟩), .pointer (some ⟨g, 3, none⟩), .pointer (some ⟨g, 4, none⟩), .pointer (some ⟨g, 5, none⟩), .pointer (some ⟨g, 6, none⟩), .pointer (some ⟨g, 7, none⟩), .pointer (some ⟨g, 8, none⟩), .pointer (some ⟨g, 9, none⟩), .pointer (some ⟨g, 10, none⟩)]) (.int .i64 0)).run Try.prog W = .ok (.pointer (some ⟨g, 0, none⟩)) W := by kernel_rfl
theorem ix1 (g : Nat) (W : World) : (Instr.index 113 (.agg #[.pointer (some ⟨g, 0, none⟩), .pointer (some ⟨g, 1, none⟩), .pointer (some ⟨g, 2, none⟩), .pointer (some ⟨g, 3, none⟩), .pointer (some ⟨g, 4, none⟩), .pointer (some ⟨g, 5, none⟩), .pointer (some ⟨g, 6, none⟩), .pointer (some ⟨g, 7, none⟩), .pointer (some ⟨g, 8, none⟩), .pointer (some ⟨g, 9, none⟩), .pointer (some ⟨g, 10, none⟩)]) (.int .i64 1)).run Try.prog W = .ok (.pointer (some ⟨g, 1, none⟩)) W := by kernel_rfl
theorem ix2 (g : Nat) (W : World) : (Instr.index 113 (.agg #[.pointer (some ⟨g, 0, none⟩), .pointer (some ⟨g, 1, none⟩), .pointer (some ⟨g, 2, none⟩), .pointer (some ⟨g, 3, none⟩), .pointer (some ⟨g, 4, none⟩), .pointer (some ⟨g, 5, none⟩), .pointer (some ⟨g, 6, none⟩), .pointer (some ⟨g, 7, none⟩), .pointer (some ⟨g, 8, none⟩), .pointer (some ⟨g, 9, none⟩), .pointer (some ⟨g, 10, none⟩)]) (.int .i64 2)).run Try.prog W = .ok (.pointer (some ⟨g, 2, none⟩)) W := by kernel_rfl
theorem ix3 (g : Nat) (W : World) : (Instr.index 113 (.agg #[.pointer (some ⟨g, 0, none⟩), .pointer (some ⟨g, 1, none⟩), .pointer (some ⟨g, 2, none⟩), .pointer (some ⟨g, 3, none⟩), .pointer (some ⟨g, 4, none⟩), .pointer (some ⟨g, 5, none⟩), .pointer (some ⟨g, 6, none⟩), .pointer (some ⟨g, 7, none⟩), .pointer (some ⟨g, 8, none⟩), .pointer (some ⟨g, 9, none⟩), .pointer (some ⟨g, 10, none⟩)]) (.int .i64 3)).run Try.prog W = .ok (.pointer (some ⟨g, 3, none⟩)) W := by kernel_rfl
theorem ix4 (g : Nat) (W : World) : (Instr.index 113 (.agg #[.pointer (some ⟨g, 0, none⟩), .pointer (some ⟨g, 1, none⟩), .pointer (some ⟨g, 2, none⟩), .pointer (some ⟨g, 3, none⟩), .pointer (some ⟨g, 4, none⟩), .pointer (some ⟨g, 5, none⟩), .pointer (some ⟨g, 6, none⟩), .pointer (some ⟨g, 7, none⟩), .pointer (some ⟨g, 8, none⟩), .pointer (some ⟨g, 9, none⟩), .pointer (some ⟨g, 10, none⟩)]) (.int .i64 4)).run Try.prog W = .ok (.pointer (some ⟨g, 4, none⟩)) W := by kernel_rfl
theorem ix5 (g : Nat) (W : World) : (Instr.index 113 (.agg #[.pointer (some ⟨g, 0, none⟩), .pointer (some ⟨g, 1, none⟩), .pointer (some ⟨g, 2, none⟩), .pointer (some ⟨g, 3, none⟩), .pointer (some ⟨g, 4, none⟩), .pointer (some ⟨g, 5, none⟩), .pointer (some ⟨g, 6, none⟩), .pointer (some ⟨g, 7, none⟩), .pointer (some ⟨g, 8, none⟩), .pointer (some ⟨g, 9, none⟩), .pointer (some ⟨g, 10, none⟩)]) (.int .i64 5)).run Try.prog W = .ok (.pointer (some ⟨g, 5, none⟩)) W := by kernel_rfl
theorem ix6 (g : Nat) (W : World) : (Instr.index 113 (.agg #[.pointer (some ⟨g, 0, none⟩), .pointer (some ⟨g, 1, none⟩), .pointer (some ⟨g, 2, none⟩), .pointer (some ⟨g, 3, none⟩), .pointer (some ⟨g, 4, none⟩), .pointer (some ⟨g, 5, none⟩), .pointer (some ⟨g, 6, none⟩), .pointer (some ⟨g, 7, none⟩), .pointer (some ⟨g, 8, none⟩), .pointer (some ⟨g, 9, none⟩), .pointer (some ⟨g, 10, none⟩)]) (.int .i64 6)).run Try.prog W = .ok (.pointer (some ⟨g, 6, none⟩)) W := by kernel_rfl
theorem ix7 (g : Nat) (W : World) : (Instr.index 113 (.agg #[.pointer (some ⟨g, 0, none⟩), .pointer (some ⟨g, 1, none⟩), .pointer (some ⟨g, 2, none⟩), .pointer (some ⟨g, 3, none⟩), .pointer (some ⟨g, 4, none⟩), .pointer (some ⟨g, 5, none⟩), .pointer (some ⟨g, 6, none⟩), .pointer (some ⟨g, 7, none⟩), .pointer (some ⟨g, 8, none⟩), .pointer (some ⟨g, 9, none⟩), .pointer (some ⟨g, 10, none⟩)]) (.int .i64 7)).run Try.prog W = .ok (.pointer (some ⟨g, 7, none⟩)) W := by kernel_rfl
theorem ix8 (g : Nat) (W : World) : (Instr.index 113 (.agg #[.pointer (some ⟨g, 0, none⟩), .pointer (some ⟨g, 1, none⟩), .pointer (some ⟨g, 2, none⟩), .pointer (some ⟨g, 3, none⟩), .pointer (some ⟨g, 4, none⟩), .pointer (some ⟨g, 5, none⟩), .pointer (some ⟨g, 6, none⟩), .pointer (some ⟨g, 7, none⟩), .pointer (some ⟨g, 8, none⟩), .pointer (some ⟨g, 9, none⟩), .pointer (some ⟨g, 10, none⟩)]) (.int .i64 8)).run Try.prog W = .ok (.pointer (some ⟨g, 8, none⟩)) W := by kernel_rfl
theorem ix9 (g : Nat) (W : World) : (Instr.index 113 (.agg #[.pointer (some ⟨g, 0, none⟩), .pointer (some ⟨g, 1, none⟩), .pointer (some ⟨g, 2, none⟩), .pointer (some ⟨g, 3, none⟩), .pointer (some ⟨g, 4, none⟩), .pointer (some ⟨g, 5, none⟩), .pointer (some ⟨g, 6, none⟩), .pointer (some ⟨g, 7, none⟩), .pointer (some ⟨g, 8, none⟩), .pointer (some ⟨g, 9, none⟩), .pointer (some ⟨g, 10, none⟩)]) (.int .i64 9)).run Try.prog W = .ok (.pointer (some ⟨g, 9, none⟩)) W := by kernel_rfl
theorem ix10 (g : Nat) (W : World) : (Instr.index 113 (.agg #[.pointer (some ⟨g, 0, none⟩), .pointer (some ⟨g, 1, none⟩), .pointer (some ⟨g, 2, none⟩), .pointer (some ⟨g, 3, none⟩), .pointer (some ⟨g, 4, none⟩), .pointer (some ⟨g, 5, none⟩), .pointer (some ⟨g, 6, none⟩), .pointer (some ⟨g, 7, none⟩), .pointer (some ⟨g, 8, none⟩), .pointer (some ⟨g, 9, none⟩), .pointer (some ⟨g, 10, none⟩)]) (.int .i64 10)).run Try.prog W = .ok (.pointer (some ⟨g, 10, none⟩)) W := by kernel_rfl
theorem index11 (g k : Nat) (hk : k < 11) (W : World) : (Instr.index 113 (.agg #[.pointer (some ⟨g, 0, none⟩), .pointer (some ⟨g, 1, none⟩), .pointer (some ⟨g, 2, none⟩), .pointer (some ⟨g, 3, none⟩), .pointer (some ⟨g, 4, none⟩), .pointer (some ⟨g, 5, none⟩), .pointer (some ⟨g, 6, none⟩), .pointer (some ⟨g, 7, none⟩), .pointer (some ⟨g, 8, none⟩), .pointer (some ⟨g, 9, none⟩), .pointer (some ⟨g, 10, none⟩)]) (.int .i64 (k : Int))).run Try.prog W = .ok (.pointer (some ⟨g, k, none⟩)) W := by
  have h : k = 0 ∨ k = 1 ∨ k = 2 ∨ k = 3 ∨ k = 4 ∨ k = 5 ∨ k = 6 ∨ k = 7 ∨ k = 8 ∨ k = 9 ∨ k = 10 := by omega
  rcases h with rfl | rfl | rfl | rfl | rfl | rfl | rfl | rfl | rfl | rfl | rfl
  · exact ix0 g W
  · exact ix1 g W
  · exact ix2 g W
  · exact ix3 g W
  · exact ix4 g W
  · exact ix5 g W
  · exact ix6 g W
  · exact ix7 g W
  · exact ix8 g W
  · exact ix9 g W
  · exact ix10 g W
set_option maxRecDepth 100000 in
set_option maxHeartbeats 4000000 in
theorem each_calls (g : Nat) {r : Row} {w : World} (hr : OkRow r) (h : Ob w g 84 (rowC r)) :
    Calls Try.prog 57 #[.pointer (some ⟨g, 0, none⟩)] w fun e w' => e = .returned (.bool (eachR r)) ∧ Below w.heap.size w w' := by
  go_enter Try.func57, Try.ntmps57
  go_wp2_with fail
  refine (numbers_calls g w).mono ?_
  rintro e W ⟨rfl, hb⟩
  have H1 := Lib.hid (h.same hb)
  have HR := Lib.hid hr
  clear h hr
  go_wp2
  go_loop [7] (fun i => ∃ k : Nat, k ≤ 11 ∧ i = .int .i64 k ∧ ∀ j, j < k → okAt j (at_ r j) = true) (fun i => 11 - (intOf i).toNat)
  case atStart => exact ⟨0, by omega, rfl, fun j hj => by omega⟩
  case round =>
    obtain ⟨k, hk, rfl, hN⟩ := hrel
    have HN := Lib.hid hN
    clear hN
    by_cases hlt : k < 11
    · have hcell := H1.out.cell (rowC_get (j := k) (by rw [HR.out.len]; exact hlt))
      have hidx := fun W => index11 g k hlt W
      have HX := Lib.hid (show ∀ x, at_ r k = x → okAt k x = true → ∀ j, j < k + 1 → okAt j (at_ r j) = true from fun x hx h j hj => by
        rcases Nat.lt_or_ge j k with h1 | h1
        · exact HN.out j h1
        · obtain rfl : j = k := by omega
          rw [hx]; exact h)
      have HNO := Lib.hid (show ∀ x, at_ r k = x → okAt k x = false → eachR r = false from fun x hx h => eachR_no hlt (by rw [hx]; exact h))
      have hbx := HR.out.at_ k
      obtain ⟨x, hx⟩ : ∃ x, at_ r k = x := ⟨_, rfl⟩
      rw [hx] at hcell hbx
      have HX1 := Lib.hid (HX.out x hx)
      have HNO1 := Lib.hid (HNO.out x hx)
      clear hx HX HNO
      have dk : decide ((k : Int) < 11) = true := by simp; omega
      by_cases h4 : k < 4
      · have d1 : decide ((k : Int) < 4) = true := by simp; omega
        have d2 : decide ((k : Int) ≥ 4) = false := by simp; omega
        have HOK := Lib.hid (okAt_lo h4 x)
        have cN := Lib.hid (fun W => count_calls x W)
        generalize countOk x = c at *
        cases c with
        | false =>
          go_wp2_with (go_at_call 37; refine (cN.out _).mono ?_; rintro e W2 ⟨rfl, rfl⟩)
          go_ret
          exact ⟨ret1 (boo (HNO1.out HOK.out).symm), hb⟩
        | true =>
          have HFIN := Lib.hid (HX1.out HOK.out)
          go_wp2_with (go_at_call 37; refine (cN.out _).mono ?_; rintro e W2 ⟨rfl, rfl⟩)
          go_round
          case rel => exact ⟨k + 1, by omega, by go_num, HFIN.out⟩
          case measure => simp [intOf]; omega
      · have d1 : decide ((k : Int) < 4) = false := by simp; omega
        have d2 : decide ((k : Int) ≥ 4) = true := by simp; omega
        by_cases h6 : k = 6
        · have d3 : ((k : Int) != 6) = false := by simp; omega
          have HFIN := Lib.hid (HX1.out (by rw [h6]; exact okAt_six x))
          clear h4 h6
          go_wp2
          go_round
          case rel => exact ⟨k + 1, by omega, by go_num, HFIN.out⟩
          case measure => simp [intOf]; omega
        · have d3 : ((k : Int) != 6) = true := by rw [bne_iff_ne]; omega
          have HOK := Lib.hid (okAt_hi h4 h6 x)
          clear h4 h6
          by_cases hx0 : x < 0
          · have HNN := Lib.hid (HNO1.out (HOK.out.trans (flowOk_no (.inl hx0))))
            go_wp2
            go_ret
            exact ⟨ret1 (boo HNN.out.symm), hb⟩
          · by_cases hx1 : x > 72057594037927936
            · have HNN := Lib.hid (HNO1.out (HOK.out.trans (flowOk_no (.inr hx1))))
              go_wp2
              go_ret
              exact ⟨ret1 (boo HNN.out.symm), hb⟩
            · have HFIN := Lib.hid (HX1.out (HOK.out.trans (flowOk_yes (by omega) (by omega))))
              go_wp2
              go_round
              case rel => exact ⟨k + 1, by omega, by go_num, HFIN.out⟩
              case measure => simp [intOf]; omega
    · obtain rfl : k = 11 := by omega
      have HT := Lib.hid (eachR_all HN.out)
      go_wp2
      go_ret
      exact ⟨ret1 (boo HT.out.symm), hb⟩
set_option maxRecDepth 100000 in
set_option maxHeartbeats 4000000 in
theorem right_calls (g : Nat) {r : Row} {w : World} (hr : OkRow r) (h : Ob w g 84 (rowC r)) :
    Calls Try.prog 38 #[.pointer (some ⟨g, 0, none⟩)] w fun e w' => e = .returned (.bool (rightR r)) ∧ Below w.heap.size w w' := by
  have HRT := Lib.hid (show rightR r = (eachR r && countOk (at_ r 0 + at_ r 1 + at_ r 2 + at_ r 3)) from rfl)
  have hdr := (Below.refl w.heap.size w).drew
  have hd : Ob w.drew g 84 (rowC r) := h
  have cE := Lib.hid (each_calls g hr hd)
  have HB := Lib.hid (fun (he : eachR r = true) => (⟨eachR_four he (show 0 < 4 by omega), eachR_four he (show 1 < 4 by omega), eachR_four he (show 2 < 4 by omega), eachR_four he (show 3 < 4 by omega)⟩ : (_ ∧ _) ∧ (_ ∧ _) ∧ (_ ∧ _) ∧ (_ ∧ _)))
  have hl := hr.len
  have HC := Lib.hid (fun (V : World) (hV : Ob V g 84 (rowC r)) => (⟨hV.cell (rowC_get (j := 0) (by omega)), hV.cell (rowC_get (j := 1) (by omega)), hV.cell (rowC_get (j := 2) (by omega)), hV.cell (rowC_get (j := 3) (by omega))⟩ : _ ∧ _ ∧ _ ∧ _))
  generalize at_ r 0 = x0 at *
  generalize at_ r 1 = x1 at *
  generalize at_ r 2 = x2 at *
  generalize at_ r 3 = x3 at *
  have cN := Lib.hid (fun W => count_calls (x0 + x1 + x2 + x3) W)
  generalize countOk (x0 + x1 + x2 + x3) = cc at *
  have HO := Lib.hid hd
  clear hl h hr
  go_enter Try.func38, Try.ntmps38
  go_wp2_with fail
  cases hE : eachR r with
  | false =>
    rw [hE] at cE HRT
    clear HB hE
    refine Pu.regionM [(0, false), (1, true), (2, false), (3, false), (4, false), (5, false), (6, false), (7, false), (8, false), (9, false), (10, false), (11, false), (12, false), (13, false), (14, false), (15, false), (16, false), (17, false), (18, false), (19, false), (20, false), (21, false), (22, false), (23, false), (24, false), (25, false), (26, false), (27, false), (28, false)] (fun V => Ob V g 84 (rowC r)) hmx (by kernel_rfl) (by kernel_rfl) (by kernel_rfl) hd rfl ?_
    simp only [Pu.named, List.filterMap_cons, List.filterMap_nil, List.getElem?_toArray, List.getElem?_cons_succ, List.getElem?_cons_zero, Option.map_some]
    iterate 1 (first
      | (refine Pu.WalkM.off (by rfl) ?_; simp only [Act.put, List.setIfInBounds_toArray, List.set_cons_succ, List.set_cons_zero])
      | (apply Pu.WalkM.on (by rfl)
         · intro V hV
           go_wp2_with fail
           refine ⟨rfl, ?_, rfl⟩
           try simp only [Act.put, List.setIfInBounds_toArray, List.set_cons_succ, List.set_cons_zero]
           rfl
         simp only [Act.put, List.setIfInBounds_toArray, List.set_cons_succ, List.set_cons_zero]))
    refine Pu.WalkM.make (by rfl) ?_
    intro V hV
    rw [hV]
    clear hV V
    go_wp2_with (go_at_call 57; refine cE.out.mono ?_; rintro e W2 ⟨rfl, hb⟩)
    have hO2 := HO.out.below (hb.mono (Nat.le_refl _)) HO.out.lt
    have HBL := Lib.hid (hdr.trans (hb.mono (Nat.le_refl _)))
    clear hb cE hdr
    refine ⟨rfl, .bool false, (fun V => Ob V g 84 (rowC r)), (fun V => V = W2), ?_, rfl, (fun V h => by rw [h]; exact hO2), (.inr (fun _ h => h)), ?_⟩
    · try simp only [Act.put, List.setIfInBounds_toArray, List.set_cons_succ, List.set_cons_zero]
    try simp only [Act.put, List.setIfInBounds_toArray, List.set_cons_succ, List.set_cons_zero]
    iterate 27 (first
      | (refine Pu.WalkM.off (by rfl) ?_; simp only [Act.put, List.setIfInBounds_toArray, List.set_cons_succ, List.set_cons_zero])
      | (apply Pu.WalkM.on (by rfl)
         · intro V hV
           go_wp2_with fail
           refine ⟨rfl, ?_, rfl⟩
           try simp only [Act.put, List.setIfInBounds_toArray, List.set_cons_succ, List.set_cons_zero]
           rfl
         simp only [Act.put, List.setIfInBounds_toArray, List.set_cons_succ, List.set_cons_zero]))
    refine Pu.WalkM.nil ?_
    intro V hV
    rw [hV]
    clear hV V
    clear hO2
    go_wp2
    go_ret
    exact ⟨ret1 (boo (by rw [HRT.out]; rfl)), HBL.out⟩
  | true =>
    obtain ⟨⟨b0, c0⟩, ⟨b1, c1⟩, ⟨b2, c2⟩, b3, c3⟩ := HB.out hE
    rw [hE] at cE HRT
    clear HB hE
    refine Pu.regionM [(0, false), (1, true), (2, false), (3, false), (4, false), (5, false), (6, false), (7, false), (8, false), (9, false), (10, false), (11, false), (12, false), (13, false), (14, false), (15, false), (16, false), (17, false), (18, false), (19, false), (20, false), (21, false), (22, false), (23, false), (24, false), (25, false), (26, false), (27, false), (28, false)] (fun V => Ob V g 84 (rowC r)) hmx (by kernel_rfl) (by kernel_rfl) (by kernel_rfl) hd rfl ?_
    simp only [Pu.named, List.filterMap_cons, List.filterMap_nil, List.getElem?_toArray, List.getElem?_cons_succ, List.getElem?_cons_zero, Option.map_some]
    iterate 1 (first
      | (refine Pu.WalkM.off (by rfl) ?_; simp only [Act.put, List.setIfInBounds_toArray, List.set_cons_succ, List.set_cons_zero])
      | (apply Pu.WalkM.on (by rfl)
         · intro V hV
           go_wp2_with fail
           refine ⟨rfl, ?_, rfl⟩
           try simp only [Act.put, List.setIfInBounds_toArray, List.set_cons_succ, List.set_cons_zero]
           rfl
         simp only [Act.put, List.setIfInBounds_toArray, List.set_cons_succ, List.set_cons_zero]))
    refine Pu.WalkM.make (by rfl) ?_
    intro V hV
    rw [hV]
    clear hV V
    go_wp2_with (go_at_call 57; refine cE.out.mono ?_; rintro e W2 ⟨rfl, hb⟩)
    have hO2 := HO.out.below (hb.mono (Nat.le_refl _)) HO.out.lt
    have HBL := Lib.hid (hdr.trans (hb.mono (Nat.le_refl _)))
    clear hb cE hdr
    refine ⟨rfl, .bool true, (fun V => Ob V g 84 (rowC r)), (fun V => V = W2), ?_, rfl, (fun V h => by rw [h]; exact hO2), (.inr (fun _ h => h)), ?_⟩
    · try simp only [Act.put, List.setIfInBounds_toArray, List.set_cons_succ, List.set_cons_zero]
    try simp only [Act.put, List.setIfInBounds_toArray, List.set_cons_succ, List.set_cons_zero]
    iterate 27 (first
      | (refine Pu.WalkM.off (by rfl) ?_; simp only [Act.put, List.setIfInBounds_toArray, List.set_cons_succ, List.set_cons_zero])
      | (apply Pu.WalkM.on (by rfl)
         · intro V hV
           obtain ⟨y0, y1, y2, y3⟩ := HC.out V hV
           go_wp2_with (go_at_call 37; refine (cN.out _).mono ?_; rintro e W3 ⟨rfl, rfl⟩)
           refine ⟨rfl, ?_, rfl⟩
           try simp only [Act.put, List.setIfInBounds_toArray, List.set_cons_succ, List.set_cons_zero]
           rfl
         simp only [Act.put, List.setIfInBounds_toArray, List.set_cons_succ, List.set_cons_zero]))
    refine Pu.WalkM.nil ?_
    intro V hV
    rw [hV]
    clear hV V
    clear hO2
    go_wp2
    go_ret
    exact ⟨ret1 (boo (by rw [HRT.out]; rfl)), HBL.out⟩
end Sk
end Go.Proofs.Ytlhpdalfnjhokaa
