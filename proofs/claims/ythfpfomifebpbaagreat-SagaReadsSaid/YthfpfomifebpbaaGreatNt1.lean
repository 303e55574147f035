/-
  saga: the document's Decode.
  saga: the law SagaReads.
-/
import Derived.Test.YthfpfomifebpbaaGreatNx5
import Derived.Test.YthfpfomifebpbaaGreatNz9

set_option linter.unusedVariables false
set_option linter.unusedSimpArgs false
namespace Go.Proofs.YthfpfomifebpbaaGreat
open Go.RowKit Go.Maps
namespace Sa
open It Ce
set_option linter.unusedSimpArgs false

/-- a saga and whether it is one, by value -/
def RetR (w' : World) (e : Ending) : Option Saga → Prop
  | none => e = .returned (.tuple #[.agg (sagaC saga0 (.slice none 0 0) (.slice none 0 0) (.slice none 0 0)), .bool false])
  | some s => ∃ vw vg vp, e = .returned (.tuple #[.agg (sagaC s vw vg vp), .bool true]) ∧ Parts w' 0 w'.heap.size s vw vg vp

theorem tNum_no {least most : Int} : (tNum least most none).2 = none := by rw [tNum_none]
theorem tFlag_no2 : (tFlag none).2 = none := tNum_no (least := 0) (most := 1)
theorem dP_no {b : List UInt8} (h : (dP b).2 = none) : (dC b).2 = none := by unfold dC; rw [h]; exact tFlag_no2
theorem dN_no {b : List UInt8} (h : (dN b).2 = none) : (dC b).2 = none := dP_no (by unfold dP; rw [h]; exact pIt_no _ _)
theorem dG_no {b : List UInt8} (h : (dG b).2 = none) : (dC b).2 = none := dN_no (by unfold dN; rw [h]; exact tNum_no)
theorem dW_no {b : List UInt8} (h : (dW b).2 = none) : (dC b).2 = none := by
  have hA : (dA b).2 = none := by unfold dA; rw [h]; exact tFlag_no2
  have hS : (dS b).2 = none := by unfold dS; rw [hA]; exact tNum_no
  have hK : (dK b).2 = none := by unfold dK; rw [hS]; exact tNum_no
  exact dG_no (by unfold dG; rw [hK]; exact gIt_no _ _)
theorem gIt_stays (s : List (List It.Item) × Tst) (j : Nat) : ∀ k, j ≤ k → (gIt s j).2 = none → (gIt s k).2 = none
  | 0, hk, h => by obtain rfl : j = 0 := by omega
                   exact h
  | k + 1, hk, h => by
    rcases Nat.lt_or_ge k j with h1 | h1
    · obtain rfl : j = k + 1 := by omega
      exact h
    · simp only [gIt]
      rw [gIt_stays s j k h1 h]
      exact readI_no
theorem pIt_stays (s : List Int × Tst) (j : Nat) : ∀ k, j ≤ k → (pIt s j).2 = none → (pIt s k).2 = none
  | 0, hk, h => by obtain rfl : j = 0 := by omega
                   exact h
  | k + 1, hk, h => by
    rcases Nat.lt_or_ge k j with h1 | h1
    · obtain rfl : j = k + 1 := by omega
      exact h
    · simp only [pIt]
      rw [pIt_stays s j k h1 h]
      rfl
theorem dec_no {b : List UInt8} (h : (dC b).2 = none) : decS b = none := by
  unfold decS
  rw [h, if_neg]
  rintro ⟨h1, -⟩
  cases h1

set_option maxRecDepth 100000 in
set_option maxHeartbeats 8000000 in
theorem refdecode15_calls (b : List UInt8) (v : Value) (w : World) (hI : BytesAt w 0 w.heap.size v b) :
    Calls Tryz.prog 20 #[v] w fun e w' => RetR w' e (decS b) ∧ Below w.heap.size w w' := by
  have hmx : Tryz.prog.follows .mixedOrders = true := by kernel_rfl
  obtain ⟨i0, hi0, hz0⟩ := Option.map_eq_some_iff.1 list_info
  simp only [Prod.mk.injEq] at hz0
  obtain ⟨hz0, hz1, hz2⟩ := hz0
  obtain ⟨j0, hj0, hy0⟩ := Option.map_eq_some_iff.1 int_info
  simp only [Prod.mk.injEq] at hy0
  obtain ⟨hy0, hy1, hy2⟩ := hy0
  have HI0 := Lib.hid (And.intro hi0 (And.intro hz0 (And.intro hz1 hz2)))
  have HJ0 := Lib.hid (And.intro hj0 (And.intro hy0 (And.intro hy1 hy2)))
  clear hi0 hz0 hz1 hz2 hj0 hy0 hy1 hy2
  obtain ⟨A, c, rfl, -⟩ := hI.form
  have hal0 := (Below.refl w.heap.size w).alloc (Nat.le_refl _) (.cells #[.int .i64 0, .int .i64 0, .int .i64 0, .slice none 0 0, .bool false, .int .i64 0, .int .i64 0, .slice none 0 0, .slice none 0 0, .bool false] 26)
  have oR := Ob.new w 26 #[.int .i64 0, .int .i64 0, .int .i64 0, .slice none 0 0, .bool false, .int .i64 0, .int .i64 0, .slice none 0 0, .slice none 0 0, .bool false]
  have z0 : (w.alloc (.cells #[.int .i64 0, .int .i64 0, .int .i64 0, .slice none 0 0, .bool false, .int .i64 0, .int .i64 0, .slice none 0 0, .slice none 0 0, .bool false] 26)).heap.size = w.heap.size + 1 := World.size_alloc _ _
  have hI0 := Sl.below hI hal0
  clear hI
  go_enter Tryz.func20, Tryz.ntmps20
  go_upto_region 1 with (fail)
  generalize w.alloc (.cells #[.int .i64 0, .int .i64 0, .int .i64 0, .slice none 0 0, .bool false, .int .i64 0, .int .i64 0, .slice none 0 0, .slice none 0 0, .bool false] 26) = W0 at *
  have Z0 := Lib.hid z0
  have hB := hal0.alloc (by omega) (.cells #[.slice A b.length c, .bool false] 94)
  have hT : Tk 94 (W0.alloc (.cells #[.slice A b.length c, .bool false] 94)) W0.heap.size w.heap.size (some b) := ⟨by rw [World.size_alloc]; omega, _, b, 0, false, Ob.new _ _ _, Sl.below hI0 ((Below.refl _ W0).alloc (by omega) _), .inl (by omega), rfl⟩
  have oR := oR.alloc (.cells #[.slice A b.length c, .bool false] 94)
  have z1 : (W0.alloc (.cells #[.slice A b.length c, .bool false] 94)).heap.size = W0.heap.size + 1 := World.size_alloc _ _
  have Z1 := Lib.hid z1
  clear hI0 hal0 z0 z1
  go_upto_region 2 with (fail)
  generalize W0.alloc (.cells #[.slice A b.length c, .bool false] 94) = W1 at *
  have hal := (Below.refl W1.heap.size W1).alloc (Nat.le_refl _) (.cells #[.int .i64 0, .int .i64 0, .int .i64 0, .slice none 0 0, .bool false, .int .i64 0, .int .i64 0, .slice none 0 0, .slice none 0 0, .bool false] 26)
  have oS := Ob.new W1 26 #[.int .i64 0, .int .i64 0, .int .i64 0, .slice none 0 0, .bool false, .int .i64 0, .int .i64 0, .slice none 0 0, .slice none 0 0, .bool false]
  have hT := hT.same hal
  have oR := oR.same hal
  have hB := hB.trans (hal.mono hB.size)
  have hsz : W1.heap.size < (W1.alloc (.cells #[.int .i64 0, .int .i64 0, .int .i64 0, .slice none 0 0, .bool false, .int .i64 0, .int .i64 0, .slice none 0 0, .slice none 0 0, .bool false] 26)).heap.size := by rw [World.size_alloc]; exact Nat.lt_succ_self _
  clear hal
  go_upto_region 3 with (fail)
  generalize W1.alloc (.cells #[.int .i64 0, .int .i64 0, .int .i64 0, .slice none 0 0, .bool false, .int .i64 0, .int .i64 0, .slice none 0 0, .slice none 0 0, .bool false] 26) = U at *
  have z0 := Z0.out
  have z1 := Z1.out
  obtain ⟨bt, hbt⟩ : ∃ bt, W0.heap.size = bt := ⟨_, rfl⟩
  rw [hbt] at hT z1
  have hbn : w.heap.size < bt := by omega
  have hQb : bt < W1.heap.size := by omega
  clear z0 z1
  rw [hbt]
  clear hbt
  have cN := rnum_calls 1 1099511627776 bt w.heap.size (some b) U hT
  rw [show tNum 1 1099511627776 (some b) = dO b from rfl] at cN
  have cX := Lib.hid (cN)
  go_wp2_with fail
  refine cX.out.mono ?_
  rintro e W ⟨rfl, hT, hg, -⟩
  have oR := oR.kept hg (fun e => by have e2 : w.heap.size = bt := Option.some.inj e; omega)
  have oS := oS.kept hg (fun e => by have e2 : W1.heap.size = bt := Option.some.inj e; omega)
  have hB := hB.grown hg (by omega) (fun g e => by have e2 : bt = g := Option.some.inj e; omega)
  have hsz := Nat.le_trans hsz hg.size
  clear cX
  clear hg cN
  have g : W.cell? ⟨W1.heap.size, 0, none⟩ = some _ := oS.cell rfl
  have f := oS.frozen 0
  have hgs := grownBy_set W W1.heap.size 0 (.int .i64 (dO b).1)
  have oS : Ob (W.setCell ⟨W1.heap.size, 0, none⟩ (.int .i64 (dO b).1)) W1.heap.size 26 #[.int .i64 (dO b).1, .int .i64 0, .int .i64 0, .slice none 0 0, .bool false, .int .i64 0, .int .i64 0, .slice none 0 0, .slice none 0 0, .bool false] := oS.set 0 (.int .i64 (dO b).1)
  have oR := oR.other (show w.heap.size ≠ W1.heap.size by omega) 0 (.int .i64 (dO b).1)
  have hT := hT.kept hgs (fun e => by have e2 : bt = W1.heap.size := Option.some.inj e; omega) (fun g e => by have e2 : W1.heap.size = g := Option.some.inj e; omega)
  have hB := hB.trans ((below_set W W1.heap.size 0 (.int .i64 (dO b).1)).mono (show w.heap.size ≤ W1.heap.size by omega))
  have hsz : W1.heap.size < (W.setCell ⟨W1.heap.size, 0, none⟩ (.int .i64 (dO b).1)).heap.size := by rw [set_size]; exact hsz
  go_upto_region 4 with (fail)
  clear g f
  generalize W.setCell ⟨W1.heap.size, 0, none⟩ (.int .i64 (dO b).1) = U at *
  clear hgs
  have cN := rnum_calls 0 7 bt w.heap.size (dO b).2 U hT
  rw [show tNum 0 7 (dO b).2 = dF b from rfl] at cN
  have cX := Lib.hid (cN)
  go_wp2_with fail
  refine cX.out.mono ?_
  rintro e W ⟨rfl, hT, hg, -⟩
  have oR := oR.kept hg (fun e => by have e2 : w.heap.size = bt := Option.some.inj e; omega)
  have oS := oS.kept hg (fun e => by have e2 : W1.heap.size = bt := Option.some.inj e; omega)
  have hB := hB.grown hg (by omega) (fun g e => by have e2 : bt = g := Option.some.inj e; omega)
  have hsz := Nat.le_trans hsz hg.size
  clear cX
  clear hg cN
  have g : W.cell? ⟨W1.heap.size, 1, none⟩ = some _ := oS.cell rfl
  have f := oS.frozen 1
  have hgs := grownBy_set W W1.heap.size 1 (.int .i64 (dF b).1)
  have oS : Ob (W.setCell ⟨W1.heap.size, 1, none⟩ (.int .i64 (dF b).1)) W1.heap.size 26 #[.int .i64 (dO b).1, .int .i64 (dF b).1, .int .i64 0, .slice none 0 0, .bool false, .int .i64 0, .int .i64 0, .slice none 0 0, .slice none 0 0, .bool false] := oS.set 1 (.int .i64 (dF b).1)
  have oR := oR.other (show w.heap.size ≠ W1.heap.size by omega) 1 (.int .i64 (dF b).1)
  have hT := hT.kept hgs (fun e => by have e2 : bt = W1.heap.size := Option.some.inj e; omega) (fun g e => by have e2 : W1.heap.size = g := Option.some.inj e; omega)
  have hB := hB.trans ((below_set W W1.heap.size 1 (.int .i64 (dF b).1)).mono (show w.heap.size ≤ W1.heap.size by omega))
  have hsz : W1.heap.size < (W.setCell ⟨W1.heap.size, 1, none⟩ (.int .i64 (dF b).1)).heap.size := by rw [set_size]; exact hsz
  go_upto_region 5 with (fail)
  clear g f
  generalize W.setCell ⟨W1.heap.size, 1, none⟩ (.int .i64 (dF b).1) = U at *
  clear hgs
  have cN := rnum_calls 1 8 bt w.heap.size (dF b).2 U hT
  rw [show tNum 1 8 (dF b).2 = dR b from rfl] at cN
  have cX := Lib.hid (cN)
  go_wp2_with fail
  refine cX.out.mono ?_
  rintro e W ⟨rfl, hT, hg, -⟩
  have oR := oR.kept hg (fun e => by have e2 : w.heap.size = bt := Option.some.inj e; omega)
  have oS := oS.kept hg (fun e => by have e2 : W1.heap.size = bt := Option.some.inj e; omega)
  have hB := hB.grown hg (by omega) (fun g e => by have e2 : bt = g := Option.some.inj e; omega)
  have hsz := Nat.le_trans hsz hg.size
  clear cX
  clear hg cN
  have g : W.cell? ⟨W1.heap.size, 2, none⟩ = some _ := oS.cell rfl
  have f := oS.frozen 2
  have hgs := grownBy_set W W1.heap.size 2 (.int .i64 (dR b).1)
  have oS : Ob (W.setCell ⟨W1.heap.size, 2, none⟩ (.int .i64 (dR b).1)) W1.heap.size 26 #[.int .i64 (dO b).1, .int .i64 (dF b).1, .int .i64 (dR b).1, .slice none 0 0, .bool false, .int .i64 0, .int .i64 0, .slice none 0 0, .slice none 0 0, .bool false] := oS.set 2 (.int .i64 (dR b).1)
  have oR := oR.other (show w.heap.size ≠ W1.heap.size by omega) 2 (.int .i64 (dR b).1)
  have hT := hT.kept hgs (fun e => by have e2 : bt = W1.heap.size := Option.some.inj e; omega) (fun g e => by have e2 : W1.heap.size = g := Option.some.inj e; omega)
  have hB := hB.trans ((below_set W W1.heap.size 2 (.int .i64 (dR b).1)).mono (show w.heap.size ≤ W1.heap.size by omega))
  have hsz : W1.heap.size < (W.setCell ⟨W1.heap.size, 2, none⟩ (.int .i64 (dR b).1)).heap.size := by rw [set_size]; exact hsz
  go_upto_region 6 with (fail)
  clear g f
  generalize W.setCell ⟨W1.heap.size, 2, none⟩ (.int .i64 (dR b).1) = U at *
  clear hgs
  have cX := refread_calls bt w.heap.size (dR b).2 U hT
  rw [show readI (dR b).2 = dW b from rfl] at cX
  have cX := Lib.hid cX
  go_wp2_with fail
  refine cX.out.mono ?_
  rintro e W ⟨⟨v, l, rfl, hvl, hl, hfl⟩, ⟨st, hT, hst⟩, hg⟩
  have oR := oR.kept hg (fun e => by have e2 : w.heap.size = bt := Option.some.inj e; omega)
  have oS := oS.kept hg (fun e => by have e2 : W1.heap.size = bt := Option.some.inj e; omega)
  have hB := hB.grown hg (by omega) (fun g e => by have e2 : bt = g := Option.some.inj e; omega)
  have hsz := Nat.lt_of_lt_of_le hsz hg.size
  obtain ⟨Aw, cw, rfl, -⟩ := (ItemsAt.of_own hvl).form
  clear cX
  obtain ⟨m, hm⟩ : ∃ m, (dW b).2.isSome = m := ⟨_, rfl⟩
  rw [hm] at hl hst
  rw [hm]
  cases m with
  | false =>
    have HNO := Lib.hid (dec_no (dW_no (by cases h : (dW b).2 with | none => rfl | some x => rw [h] at hm; cases hm)))
    clear hm hl hst hT hvl
    go_wp2_with (refine wpList_store_ob (cells := #[.int .i64 0, .int .i64 0, .int .i64 0, .slice none 0 0, .bool false, .int .i64 0, .int .i64 0, .slice none 0 0, .slice none 0 0, .bool false]) rfl 26 (.tmp 2) (.tmp 33) rfl rfl rfl oR rfl (by kernel_rfl) (by simp [Value.oneCell']) ?_; intro W9 ho9 hg9)
    have hB9 := hB.grown hg9 hB.size (fun g e => by have e2 : w.heap.size = g := Option.some.inj e; omega)
    obtain ⟨p0, p1, p2, p3, p4, p5, p6, p7, p8, p9⟩ := ob_ten ho9
    go_wp2
    refine bodyPost_ret (v := .tuple #[.agg #[.int .i64 0, .int .i64 0, .int .i64 0, .slice none 0 0, .bool false, .int .i64 0, .int .i64 0, .slice none 0 0, .slice none 0 0, .bool false], .bool false]) ?_ rfl ⟨by rw [HNO.out]; rfl, hB9⟩
    simp [results, Tryz.f20, go_sem, p0, p1, p2, p3, p4, p5, p6, p7, p8, p9]
  | true =>
    obtain rfl := hl rfl
    obtain rfl := hst rfl
    clear hl hst hm
    have hW := SlA.of (Av := (fun i => (fun i => i = w.heap.size ∨ i = bt ∨ i = W1.heap.size) i ∨ (.slice none 0 0 : Value).ownBlock = some i)) (ItemsAt.of_own hvl) (Nat.le_refl _) (fun i ha _ hx => by rcases hx with (hx | hx | hx) | hx <;> first | omega | cases hx)
    clear hvl hfl hg
    go_upto_region 9 with fail
    have g : W.cell? ⟨W1.heap.size, 3, none⟩ = some _ := oS.cell rfl
    have f := oS.frozen 3
    have hgs := grownBy_set W W1.heap.size 3 (.slice Aw (dW b).1.length cw)
    have oS : Ob (W.setCell ⟨W1.heap.size, 3, none⟩ (.slice Aw (dW b).1.length cw)) W1.heap.size 26 #[.int .i64 (dO b).1, .int .i64 (dF b).1, .int .i64 (dR b).1, .slice Aw (dW b).1.length cw, .bool false, .int .i64 0, .int .i64 0, .slice none 0 0, .slice none 0 0, .bool false] := oS.set 3 (.slice Aw (dW b).1.length cw)
    have oR := oR.other (show w.heap.size ≠ W1.heap.size by omega) 3 (.slice Aw (dW b).1.length cw)
    have hT := hT.kept hgs (fun e => by have e2 : bt = W1.heap.size := Option.some.inj e; omega) (fun g e => by have e2 : W1.heap.size = g := Option.some.inj e; omega)
    have hB := hB.trans ((below_set W W1.heap.size 3 (.slice Aw (dW b).1.length cw)).mono (show w.heap.size ≤ W1.heap.size by omega))
    have hsz : W1.heap.size < (W.setCell ⟨W1.heap.size, 3, none⟩ (.slice Aw (dW b).1.length cw)).heap.size := by rw [set_size]; exact hsz
    have hW := hW.grow hgs (.inl (.inr (.inr rfl)))
    go_upto_region 10 with (fail)
    clear g f
    generalize W.setCell ⟨W1.heap.size, 3, none⟩ (.slice Aw (dW b).1.length cw) = U at *
    clear hgs
    have cN := rflag_calls bt w.heap.size (dW b).2 U hT
    rw [show tFlag (dW b).2 = dA b from rfl] at cN
    have cX := Lib.hid (cN)
    go_wp2_with fail
    refine cX.out.mono ?_
    rintro e W ⟨rfl, hT, hg⟩
    have oR := oR.kept hg (fun e => by have e2 : w.heap.size = bt := Option.some.inj e; omega)
    have oS := oS.kept hg (fun e => by have e2 : W1.heap.size = bt := Option.some.inj e; omega)
    have hB := hB.grown hg (by omega) (fun g e => by have e2 : bt = g := Option.some.inj e; omega)
    have hsz := Nat.le_trans hsz hg.size
    clear cX
    have hW := hW.grow hg (.inl (.inr (.inl rfl)))
    clear hg cN
    have g : W.cell? ⟨W1.heap.size, 4, none⟩ = some _ := oS.cell rfl
    have f := oS.frozen 4
    have hgs := grownBy_set W W1.heap.size 4 (.bool (dA b).1)
    have oS : Ob (W.setCell ⟨W1.heap.size, 4, none⟩ (.bool (dA b).1)) W1.heap.size 26 #[.int .i64 (dO b).1, .int .i64 (dF b).1, .int .i64 (dR b).1, .slice Aw (dW b).1.length cw, .bool (dA b).1, .int .i64 0, .int .i64 0, .slice none 0 0, .slice none 0 0, .bool false] := oS.set 4 (.bool (dA b).1)
    have oR := oR.other (show w.heap.size ≠ W1.heap.size by omega) 4 (.bool (dA b).1)
    have hT := hT.kept hgs (fun e => by have e2 : bt = W1.heap.size := Option.some.inj e; omega) (fun g e => by have e2 : W1.heap.size = g := Option.some.inj e; omega)
    have hB := hB.trans ((below_set W W1.heap.size 4 (.bool (dA b).1)).mono (show w.heap.size ≤ W1.heap.size by omega))
    have hsz : W1.heap.size < (W.setCell ⟨W1.heap.size, 4, none⟩ (.bool (dA b).1)).heap.size := by rw [set_size]; exact hsz
    have hW := hW.grow hgs (.inl (.inr (.inr rfl)))
    go_upto_region 11 with (fail)
    clear g f
    generalize W.setCell ⟨W1.heap.size, 4, none⟩ (.bool (dA b).1) = U at *
    clear hgs
    have cN := rnum_calls 1 10 bt w.heap.size (dA b).2 U hT
    rw [show tNum 1 10 (dA b).2 = dS b from rfl] at cN
    have cX := Lib.hid (cN)
    go_wp2_with fail
    refine cX.out.mono ?_
    rintro e W ⟨rfl, hT, hg, -⟩
    have oR := oR.kept hg (fun e => by have e2 : w.heap.size = bt := Option.some.inj e; omega)
    have oS := oS.kept hg (fun e => by have e2 : W1.heap.size = bt := Option.some.inj e; omega)
    have hB := hB.grown hg (by omega) (fun g e => by have e2 : bt = g := Option.some.inj e; omega)
    have hsz := Nat.le_trans hsz hg.size
    clear cX
    have hW := hW.grow hg (.inl (.inr (.inl rfl)))
    clear hg cN
    have g : W.cell? ⟨W1.heap.size, 5, none⟩ = some _ := oS.cell rfl
    have f := oS.frozen 5
    have hgs := grownBy_set W W1.heap.size 5 (.int .i64 (dS b).1)
    have oS : Ob (W.setCell ⟨W1.heap.size, 5, none⟩ (.int .i64 (dS b).1)) W1.heap.size 26 #[.int .i64 (dO b).1, .int .i64 (dF b).1, .int .i64 (dR b).1, .slice Aw (dW b).1.length cw, .bool (dA b).1, .int .i64 (dS b).1, .int .i64 0, .slice none 0 0, .slice none 0 0, .bool false] := oS.set 5 (.int .i64 (dS b).1)
    have oR := oR.other (show w.heap.size ≠ W1.heap.size by omega) 5 (.int .i64 (dS b).1)
    have hT := hT.kept hgs (fun e => by have e2 : bt = W1.heap.size := Option.some.inj e; omega) (fun g e => by have e2 : W1.heap.size = g := Option.some.inj e; omega)
    have hB := hB.trans ((below_set W W1.heap.size 5 (.int .i64 (dS b).1)).mono (show w.heap.size ≤ W1.heap.size by omega))
    have hsz : W1.heap.size < (W.setCell ⟨W1.heap.size, 5, none⟩ (.int .i64 (dS b).1)).heap.size := by rw [set_size]; exact hsz
    have hW := hW.grow hgs (.inl (.inr (.inr rfl)))
    go_upto_region 12 with (fail)
    clear g f
    generalize W.setCell ⟨W1.heap.size, 5, none⟩ (.int .i64 (dS b).1) = U at *
    clear hgs
    have cN := rnum_calls 1 8 bt w.heap.size (dS b).2 U hT
    rw [show tNum 1 8 (dS b).2 = dK b from rfl] at cN
    have cX := Lib.hid (cN)
    go_wp2_with fail
    refine cX.out.mono ?_
    rintro e W ⟨rfl, hT, hg, -⟩
    have oR := oR.kept hg (fun e => by have e2 : w.heap.size = bt := Option.some.inj e; omega)
    have oS := oS.kept hg (fun e => by have e2 : W1.heap.size = bt := Option.some.inj e; omega)
    have hB := hB.grown hg (by omega) (fun g e => by have e2 : bt = g := Option.some.inj e; omega)
    have hsz := Nat.le_trans hsz hg.size
    clear cX
    have hW := hW.grow hg (.inl (.inr (.inl rfl)))
    clear hg cN
    have g : W.cell? ⟨W1.heap.size, 6, none⟩ = some _ := oS.cell rfl
    have f := oS.frozen 6
    have hgs := grownBy_set W W1.heap.size 6 (.int .i64 (dK b).1)
    have oS : Ob (W.setCell ⟨W1.heap.size, 6, none⟩ (.int .i64 (dK b).1)) W1.heap.size 26 #[.int .i64 (dO b).1, .int .i64 (dF b).1, .int .i64 (dR b).1, .slice Aw (dW b).1.length cw, .bool (dA b).1, .int .i64 (dS b).1, .int .i64 (dK b).1, .slice none 0 0, .slice none 0 0, .bool false] := oS.set 6 (.int .i64 (dK b).1)
    have oR := oR.other (show w.heap.size ≠ W1.heap.size by omega) 6 (.int .i64 (dK b).1)
    have hT := hT.kept hgs (fun e => by have e2 : bt = W1.heap.size := Option.some.inj e; omega) (fun g e => by have e2 : W1.heap.size = g := Option.some.inj e; omega)
    have hB := hB.trans ((below_set W W1.heap.size 6 (.int .i64 (dK b).1)).mono (show w.heap.size ≤ W1.heap.size by omega))
    have hsz : W1.heap.size < (W.setCell ⟨W1.heap.size, 6, none⟩ (.int .i64 (dK b).1)).heap.size := by rw [set_size]; exact hsz
    have hW := hW.grow hgs (.inl (.inr (.inr rfl)))
    go_upto_region 13 with (fail)
    clear g f
    generalize W.setCell ⟨W1.heap.size, 6, none⟩ (.int .i64 (dK b).1) = U at *
    clear hgs
    obtain ⟨hr0, hr1⟩ := tNum_le (st := (dF b).2) (show (0 : Int) ≤ 1 by omega) (show (0 : Int) ≤ 8 by omega)
    rw [show tNum 1 8 (dF b).2 = dR b from rfl] at hr0 hr1
    go_wp2_with fail
    go_loopw [8, 9, 10] (fun i _ _ wr => ∃ (k : Nat) (vg : Value), (k : Int) ≤ (dR b).1 ∧ i = .int .i64 k ∧ Tk 94 wr bt w.heap.size (gIt ([], (dK b).2) k).2 ∧ Ob wr W1.heap.size 26 #[.int .i64 (dO b).1, .int .i64 (dF b).1, .int .i64 (dR b).1, .slice Aw (dW b).1.length cw, .bool (dA b).1, .int .i64 (dS b).1, .int .i64 (dK b).1, vg, .slice none 0 0, .bool false] ∧ Ob wr w.heap.size 26 #[.int .i64 0, .int .i64 0, .int .i64 0, .slice none 0 0, .bool false, .int .i64 0, .int .i64 0, .slice none 0 0, .slice none 0 0, .bool false] ∧ GotI (fun i => i = w.heap.size ∨ i = bt ∨ i = W1.heap.size) wr (W1.heap.size + 1) vg (gIt ([], (dK b).2) k).1 ∧ SlA (fun i => (fun i => i = w.heap.size ∨ i = bt ∨ i = W1.heap.size) i ∨ (vg : Value).ownBlock = some i) wr 2 (.slice Aw (dW b).1.length cw) (dW b).1.length (itemCells (dW b).1) ∧ Below w.heap.size w wr ∧ W1.heap.size < wr.heap.size) (fun i _ _ _ => (dR b).1.toNat - (intOf i).toNat)
    case atStart => exact ⟨0, .slice none 0 0, by omega, rfl, hT, oS, oR, GotI.nil _ _ _, hW, hB, hsz⟩
    case round =>
      clear hT oS oR hW hB hsz
      obtain ⟨k, vg, hk, rfl, hT, oS, oR, hG, hW, hB, hsz⟩ := hrel
      have HST := Lib.hid (show (gIt ([], (dK b).2) k).2 = none → (dC b).2 = none from fun h => dG_no (gIt_stays _ k _ (by omega) h))
      have hln := show (gIt ([], (dK b).2) k).1.length = k from (gIt_len ([], (dK b).2) k).trans (Nat.zero_add k)
      rcases Int.lt_or_le (k : Int) (dR b).1 with hlt | hge
      · have hd : decide ((k : Int) < (dR b).1) = true := by simp; omega
        have HE := Lib.hid (show gIt ([], (dK b).2) (k + 1) = ((gIt ([], (dK b).2) k).1 ++ [(readI (gIt ([], (dK b).2) k).2).1], (readI (gIt ([], (dK b).2) k).2).2) from rfl)
        have HNX := Lib.hid (show (readI (gIt ([], (dK b).2) k).2).2 = none → (dC b).2 = none from fun h => dG_no (gIt_stays _ (k + 1) _ (by omega) h))
        have g2 : wr.cell? ⟨W1.heap.size, 2, none⟩ = some (.int .i64 (dR b).1) := oS.cell rfl
        generalize gIt ([], (dK b).2) k = R at *
        obtain ⟨RL, Rs⟩ := R
        dsimp only at hln HE HNX HST hT hG
        have hkk : k < 8 := by omega
        have HLN := Lib.hid hln
        have hRl : RL.length < 8 := by omega
        cases Rs with
        | none =>
          have HNO := Lib.hid (dec_no (HST.out rfl))
          obtain ⟨v0, hO⟩ := hT.none_form
          have q := hO.cell (j := 1) rfl
          clear hO hln HE HNX HST hG hW hRl hkk
          go_upto_region 20 with (fail)
          clear q g2 hd
          have cN := Lib.hid (show Calls _ _ _ wr (fun e w' => e = .returned (.int .i64 0) ∧ Tk 94 w' bt w.heap.size none ∧ wr.grownBy w' (some bt) ∧ _) from rnum_calls 0 8 bt w.heap.size none wr hT)
          go_wp2_with fail
          refine cN.out.mono ?_
          rintro e V ⟨rfl, hT, hg, -⟩
          have oR := oR.kept hg (fun e => by have e2 : w.heap.size = bt := Option.some.inj e; omega)
          have oS := oS.kept hg (fun e => by have e2 : W1.heap.size = bt := Option.some.inj e; omega)
          have hB := hB.grown hg (by omega) (fun g e => by have e2 : bt = g := Option.some.inj e; omega)
          have hsz := Nat.lt_of_lt_of_le hsz hg.size
          clear cN hg
          go_wp2_with fail
          go_loopw [12] (fun i wr => i = .int .i64 0 ∧ Tk 94 wr bt w.heap.size none ∧ Ob wr W1.heap.size 26 #[.int .i64 (dO b).1, .int .i64 (dF b).1, .int .i64 (dR b).1, .slice Aw (dW b).1.length cw, .bool (dA b).1, .int .i64 (dS b).1, .int .i64 (dK b).1, vg, .slice none 0 0, .bool false] ∧ Ob wr w.heap.size 26 #[.int .i64 0, .int .i64 0, .int .i64 0, .slice none 0 0, .bool false, .int .i64 0, .int .i64 0, .slice none 0 0, .slice none 0 0, .bool false] ∧ Below w.heap.size w wr ∧ W1.heap.size < wr.heap.size) (fun _ _ => 0)
          case atStart => exact ⟨rfl, hT, oS, oR, hB, hsz⟩
          case round =>
            clear hT oS oR hB hsz
            obtain ⟨rfl, hT, oS, oR, hB, hsz⟩ := hrel
            go_upto_region 25 with (fail)
            have cN := Lib.hid (show Calls _ _ _ wr (fun e w' => e = .returned (.bool false) ∧ Tk 94 w' bt w.heap.size none ∧ wr.grownBy w' (some bt)) from rflag_calls bt w.heap.size none wr hT)
            go_wp2_with fail
            refine cN.out.mono ?_
            rintro e W ⟨rfl, hT, hg⟩
            have oR := oR.kept hg (fun e => by have e2 : w.heap.size = bt := Option.some.inj e; omega)
            have oS := oS.kept hg (fun e => by have e2 : W1.heap.size = bt := Option.some.inj e; omega)
            have hB := hB.grown hg (by omega) (fun g e => by have e2 : bt = g := Option.some.inj e; omega)
            have hsz := Nat.lt_of_lt_of_le hsz hg.size
            clear cN hg
            have g : W.cell? ⟨W1.heap.size, 9, none⟩ = some _ := oS.cell rfl
            have f := oS.frozen 9
            have hgs := grownBy_set W W1.heap.size 9 (.bool false)
            have oS : Ob (W.setCell ⟨W1.heap.size, 9, none⟩ (.bool false)) W1.heap.size 26 #[.int .i64 (dO b).1, .int .i64 (dF b).1, .int .i64 (dR b).1, .slice Aw (dW b).1.length cw, .bool (dA b).1, .int .i64 (dS b).1, .int .i64 (dK b).1, vg, .slice none 0 0, .bool false] := oS.set 9 (.bool false)
            have oR := oR.other (show w.heap.size ≠ W1.heap.size by omega) 9 (.bool false)
            have hT := hT.kept hgs (fun e => by have e2 : bt = W1.heap.size := Option.some.inj e; omega) (fun g e => by have e2 : W1.heap.size = g := Option.some.inj e; omega)
            have hB := hB.trans ((below_set W W1.heap.size 9 (.bool false)).mono (show w.heap.size ≤ W1.heap.size by omega))
            have hsz : W1.heap.size < (W.setCell ⟨W1.heap.size, 9, none⟩ (.bool false)).heap.size := by rw [set_size]; exact hsz
            go_upto_region 26 with (fail)
            clear g f
            generalize W.setCell ⟨W1.heap.size, 9, none⟩ (.bool false) = U at *
            clear hgs
            obtain ⟨v0, hO⟩ := hT.none_form
            have q := hO.cell (j := 1) rfl
            clear hO
            go_wp2_with (refine wpList_store_ob (cells := #[.int .i64 0, .int .i64 0, .int .i64 0, .slice none 0 0, .bool false, .int .i64 0, .int .i64 0, .slice none 0 0, .slice none 0 0, .bool false]) rfl 26 (.tmp 2) (.tmp 113) rfl rfl rfl oR rfl (by kernel_rfl) (by simp [Value.oneCell']) ?_; intro W9 ho9 hg9)
            have hB9 := hB.grown hg9 hB.size (fun g e => by have e2 : w.heap.size = g := Option.some.inj e; omega)
            obtain ⟨p0, p1, p2, p3, p4, p5, p6, p7, p8, p9⟩ := ob_ten ho9
            go_wp2
            refine bodyPost_ret (v := .tuple #[.agg #[.int .i64 0, .int .i64 0, .int .i64 0, .slice none 0 0, .bool false, .int .i64 0, .int .i64 0, .slice none 0 0, .slice none 0 0, .bool false], .bool false]) ?_ rfl ⟨by rw [HNO.out]; rfl, hB9⟩
            simp [results, Tryz.f20, go_sem, p0, p1, p2, p3, p4, p5, p6, p7, p8, p9]
        | some r0 =>
          obtain ⟨v0, lo0, hO, -⟩ := hT.some_form
          have q := hO.cell (j := 1) rfl
          clear hO hln
          have cX := Lib.hid (refread_calls bt w.heap.size (some r0) wr hT)
          clear hT
          go_wp2_with fail
          refine cX.out.mono ?_
          rintro e W2 ⟨⟨vx, l, rfl, hvx, hl, hfl⟩, ⟨st, hT, hst⟩, hg⟩
          have hX := SlA.of (Av := (fun i => (fun i => i = w.heap.size ∨ i = bt ∨ i = W1.heap.size) i ∨ (vg : Value).ownBlock = some i)) (ItemsAt.of_own hvx) (Nat.le_refl _) (fun i ha _ hx => by
            have := hB.size
            obtain ⟨vs, hvl, hown, hsl⟩ := hG.row
            rcases hx with (hx | hx | hx) | hx
            · omega
            · omega
            · omega
            · have := (hown.lt i hx).2; omega)
          obtain ⟨Ax, cx, rfl, -⟩ := (ItemsAt.of_own hvx).form
          have oR := oR.kept hg (fun e => by have e2 : w.heap.size = bt := Option.some.inj e; omega)
          have oS := oS.kept hg (fun e => by have e2 : W1.heap.size = bt := Option.some.inj e; omega)
          have hB := hB.grown hg (by omega) (fun g e => by have e2 : bt = g := Option.some.inj e; omega)
          have hsz := Nat.lt_of_lt_of_le hsz hg.size
          have hW := hW.grow hg (.inl (.inr (.inl rfl)))
          have hG := hG.keep hg (.inr (.inl rfl)) (by omega)
          clear cX hg q g2 hd hvx hfl
          obtain ⟨m, hm⟩ : ∃ m, (readI (some r0)).2.isSome = m := ⟨_, rfl⟩
          rw [hm] at hl hst
          rw [hm]
          cases m with
          | false =>
            have HNO := Lib.hid (dec_no (HNX.out (by cases h : (readI (some r0)).2 with | none => rfl | some x => rw [h] at hm; cases hm)))
            clear hm hl hst hT hX hG hW HE HNX HST
            go_wp2_with (refine wpList_store_ob (cells := #[.int .i64 0, .int .i64 0, .int .i64 0, .slice none 0 0, .bool false, .int .i64 0, .int .i64 0, .slice none 0 0, .slice none 0 0, .bool false]) rfl 26 (.tmp 2) (.tmp 65) rfl rfl rfl oR rfl (by kernel_rfl) (by simp [Value.oneCell']) ?_; intro W9 ho9 hg9)
            have hB9 := hB.grown hg9 hB.size (fun g e => by have e2 : w.heap.size = g := Option.some.inj e; omega)
            obtain ⟨p0, p1, p2, p3, p4, p5, p6, p7, p8, p9⟩ := ob_ten ho9
            go_wp2
            refine bodyPost_ret (v := .tuple #[.agg #[.int .i64 0, .int .i64 0, .int .i64 0, .slice none 0 0, .bool false, .int .i64 0, .int .i64 0, .slice none 0 0, .slice none 0 0, .bool false], .bool false]) ?_ rfl ⟨by rw [HNO.out]; rfl, hB9⟩
            simp [results, Tryz.f20, go_sem, p0, p1, p2, p3, p4, p5, p6, p7, p8, p9]
          | true =>
            obtain rfl := hl rfl
            obtain rfl := hst rfl
            clear hl hst hm HNX HST
            obtain ⟨hi0, hz0, hz1, hz2⟩ := HI0.out
            obtain ⟨vs, hvl, hown, hsl⟩ := hG.row
            have hal := (Below.refl W2.heap.size W2).alloc (Nat.le_refl _) (.cells #[.slice Ax (readI (some r0)).1.length cx] 22)
            have hl : Sl (W2.alloc (.cells #[.slice Ax (readI (some r0)).1.length cx] 22)) W2.heap.size (W2.heap.size + 1) 1 (.slice (some ⟨W2.heap.size, 0, none⟩) 1 1) 1 [.slice Ax (readI (some r0)).1.length cx] := Sl.new W2 #[.slice Ax (readI (some r0)).1.length cx] 22 (n := 1) rfl (by unfold maxLen; omega)
            have g7 : W2.cell? ⟨W1.heap.size, 7, none⟩ = some vg := oS.cell rfl
            have oS2 := oS.same hal
            have oR2 := oR.same hal
            have hT2 := hT.same hal
            have hB2 := hB.trans (hal.mono (by have := hB.size; omega))
            have hW2 := hW.later hal
            have hG2 := hG.later hal
            have hX2 := hX.later hal
            have hsz2 := Nat.lt_of_lt_of_le hsz hal.size
            have hown2 := row_later hown hal
            have hsl2 := fun k hk => (hsl k hk).later hal
            clear oS oR hT hB hW hG hX hown hsl hal
            go_wp2_with (at_builtin
                         refine wpList_append_sl _ rfl (.tmp 67) (.tmp 69) _ rfl (W1.heap.size + 1) 22 i0 _ 1 24 Tryz.underlying23 hi0 hz0 hz1 hz2 rfl (by omega) vg RL.length vs rfl hown2 W2.heap.size (W2.heap.size + 1) _ 1 [.slice Ax (readI (some r0)).1.length cx] rfl hl (by intro y hy; rw [List.mem_singleton.1 hy]; rfl) (by unfold maxLen; omega) (by omega) hsz2 ?_
                         intro v3 w3 hv3 hg3 hat3
                         clear hi0 hz0 hz1 hz2 g7
                         generalize W2.alloc (.cells #[.slice Ax (readI (some r0)).1.length cx] 22) = W3 at *
                         have hgo : ∀ i, (i = w.heap.size ∨ i = bt ∨ i = W1.heap.size) → vg.ownBlock ≠ some i := fun i hi e => by
                           have h1 := (hown2.lt i e).1
                           have h2 := hB2.size
                           rcases hi with hi | hi | hi <;> omega
                         have oS3 := oS2.kept hg3 (fun e => hgo W1.heap.size (.inr (.inr rfl)) e.symm)
                         have oR3 := oR2.kept hg3 (fun e => hgo w.heap.size (.inl rfl) e.symm)
                         have hT3 := hT2.kept hg3 (fun e => hgo bt (.inr (.inl rfl)) e.symm) (fun g e => by have := (hown2.lt g e).1; omega)
                         have hB3 := hB2.grown hg3 hB2.size (fun g e => by have := (hown2.lt g e).1; omega)
                         have hW3 := hW2.turn hg3 hat3
                         have hG3 := GotI.snoc hvl hsl2 hX2 hv3 hg3 hat3
                         have hsz3 := Nat.lt_of_lt_of_le hsz2 hg3.size
                         obtain ⟨A5, c5, rfl, -⟩ := (Sl.of_own hv3).at_
                         clear hv3 hg3 hat3 hown2 hsl2 hvl hX2 oS2 oR2 hT2 hB2 hW2 hG2 hl hgo
                         have g : w3.cell? ⟨W1.heap.size, 7, none⟩ = some vg := oS3.cell rfl
                         have f := oS3.frozen 7
                         have hgs := grownBy_set w3 W1.heap.size 7 (.slice A5 (RL.length + 1) c5)
                         have oS4 : Ob (w3.setCell ⟨W1.heap.size, 7, none⟩ (.slice A5 (RL.length + 1) c5)) W1.heap.size 26 #[.int .i64 (dO b).1, .int .i64 (dF b).1, .int .i64 (dR b).1, .slice Aw (dW b).1.length cw, .bool (dA b).1, .int .i64 (dS b).1, .int .i64 (dK b).1, .slice A5 (RL.length + 1) c5, .slice none 0 0, .bool false] := oS3.set 7 (.slice A5 (RL.length + 1) c5)
                         have oR4 := oR3.other (show w.heap.size ≠ W1.heap.size by omega) 7 (.slice A5 (RL.length + 1) c5)
                         have hT4 := hT3.kept hgs (fun e => by have e2 : bt = W1.heap.size := Option.some.inj e; omega) (fun g e => by have e2 : W1.heap.size = g := Option.some.inj e; omega)
                         have hB4 := hB3.trans ((below_set w3 W1.heap.size 7 (.slice A5 (RL.length + 1) c5)).mono (show w.heap.size ≤ W1.heap.size by omega))
                         have hsz4 : W1.heap.size < (w3.setCell ⟨W1.heap.size, 7, none⟩ (.slice A5 (RL.length + 1) c5)).heap.size := by rw [set_size]; exact hsz3
                         have hG4 := hG3.keep hgs (.inr (.inr rfl)) (Nat.lt_succ_self _)
                         have hW4 := hW3.grow hgs (.inl (.inr (.inr rfl)))
                         clear oS3 oR3 hT3 hB3 hsz3 hG3 hW3 hgs)
            go_roundw
            case rel =>
              refine ⟨k + 1, .slice A5 (RL.length + 1) c5, by omega, by go_num, ?_, oS4, oR4, ?_, hW4, hB4, hsz4⟩
              · rw [HE.out]; exact hT4
              · rw [HE.out]; exact hG4
            case measure => simp [intOf]; omega
      · have hkn : (dR b).1.toNat = k := by omega
        have HDG := Lib.hid (show gIt ([], (dK b).2) k = dG b by rw [← hkn]; rfl)
        rw [HDG.out] at hT hG
        have hd : decide ((k : Int) < (dR b).1) = false := by simp; omega
        have g2 : wr.cell? ⟨W1.heap.size, 2, none⟩ = some (.int .i64 (dR b).1) := oS.cell rfl
        clear HST hln
        go_upto_region 20 with (fail)
        clear hd hkn hk hge g2 HDG
        have cX := rnum_calls 0 8 bt w.heap.size (dG b).2 wr hT
        rw [show tNum 0 8 (dG b).2 = dN b from rfl] at cX
        have cX := Lib.hid cX
        obtain ⟨hn0, hn1⟩ := tNum_le (st := (dG b).2) (show (0 : Int) ≤ 0 by omega) (show (0 : Int) ≤ 8 by omega)
        rw [show tNum 0 8 (dG b).2 = dN b from rfl] at hn0 hn1
        go_wp2_with fail
        refine cX.out.mono ?_
        rintro e V ⟨rfl, hT, hg, -⟩
        have oR := oR.kept hg (fun e => by have e2 : w.heap.size = bt := Option.some.inj e; omega)
        have oS := oS.kept hg (fun e => by have e2 : W1.heap.size = bt := Option.some.inj e; omega)
        have hB := hB.grown hg (by omega) (fun g e => by have e2 : bt = g := Option.some.inj e; omega)
        have hsz := Nat.lt_of_lt_of_le hsz hg.size
        have hW := hW.grow hg (.inl (.inr (.inl rfl)))
        have hG := hG.keep hg (.inr (.inl rfl)) (by omega)
        clear cX hg
        go_wp2_with fail
        go_loopw [12] (fun i wr => ∃ (k : Nat) (vp : Value), (k : Int) ≤ (dN b).1 ∧ i = .int .i64 k ∧ Tk 94 wr bt w.heap.size (pIt ([], (dN b).2) k).2 ∧ Ob wr W1.heap.size 26 #[.int .i64 (dO b).1, .int .i64 (dF b).1, .int .i64 (dR b).1, .slice Aw (dW b).1.length cw, .bool (dA b).1, .int .i64 (dS b).1, .int .i64 (dK b).1, vg, vp, .bool false] ∧ Ob wr w.heap.size 26 #[.int .i64 0, .int .i64 0, .int .i64 0, .slice none 0 0, .bool false, .int .i64 0, .int .i64 0, .slice none 0 0, .slice none 0 0, .bool false] ∧ wr.ownsRow V.heap.size 3 1 vp k (ints (pIt ([], (dN b).2) k).1) ∧ Kept (fun i => i < V.heap.size ∧ ¬ (fun i => i = w.heap.size ∨ i = bt ∨ i = W1.heap.size) i) V wr ∧ Below w.heap.size w wr) (fun i _ => (dN b).1.toNat - (intOf i).toNat)
        case atStart => exact ⟨0, .slice none 0 0, by omega, rfl, hT, oS, oR, World.ownsRow_nil _ _ _ _, Kept.refl _ _, hB⟩
        case round =>
          clear hT oS oR hB
          obtain ⟨k, vp, hk, rfl, hT, oS, oR, hown, hK, hB⟩ := hrel
          have HST := Lib.hid (show (pIt ([], (dN b).2) k).2 = none → (dC b).2 = none from fun h => dP_no (pIt_stays _ k _ (by omega) h))
          have hszr := Nat.lt_of_lt_of_le hsz hK.size
          rcases Int.lt_or_le (k : Int) (dN b).1 with hlt | hge
          · have hd : decide ((k : Int) < (dN b).1) = true := by simp; omega
            have HE := Lib.hid (show pIt ([], (dN b).2) (k + 1) = ((pIt ([], (dN b).2) k).1 ++ [(tNum 0 7 (pIt ([], (dN b).2) k).2).1], (tNum 0 7 (pIt ([], (dN b).2) k).2).2) from rfl)
            generalize pIt ([], (dN b).2) k = R at *
            obtain ⟨RL, Rs⟩ := R
            dsimp only at HE HST hT hown
            have hkk : k < 8 := by omega
            cases Rs with
            | none =>
              have HNO := Lib.hid (dec_no (HST.out rfl))
              obtain ⟨v0, hO⟩ := hT.none_form
              have q := hO.cell (j := 1) rfl
              have hsz := hszr
              clear hO HE HST hG hW hkk hown hK hszr
              go_upto_region 25 with (fail)
              clear q hd
              have cN := Lib.hid (show Calls _ _ _ wr (fun e w' => e = .returned (.bool false) ∧ Tk 94 w' bt w.heap.size none ∧ wr.grownBy w' (some bt)) from rflag_calls bt w.heap.size none wr hT)
              go_wp2_with fail
              refine cN.out.mono ?_
              rintro e W ⟨rfl, hT, hg⟩
              have oR := oR.kept hg (fun e => by have e2 : w.heap.size = bt := Option.some.inj e; omega)
              have oS := oS.kept hg (fun e => by have e2 : W1.heap.size = bt := Option.some.inj e; omega)
              have hB := hB.grown hg (by omega) (fun g e => by have e2 : bt = g := Option.some.inj e; omega)
              have hsz := Nat.lt_of_lt_of_le hsz hg.size
              clear cN hg
              have g : W.cell? ⟨W1.heap.size, 9, none⟩ = some _ := oS.cell rfl
              have f := oS.frozen 9
              have hgs := grownBy_set W W1.heap.size 9 (.bool false)
              have oS : Ob (W.setCell ⟨W1.heap.size, 9, none⟩ (.bool false)) W1.heap.size 26 #[.int .i64 (dO b).1, .int .i64 (dF b).1, .int .i64 (dR b).1, .slice Aw (dW b).1.length cw, .bool (dA b).1, .int .i64 (dS b).1, .int .i64 (dK b).1, vg, vp, .bool false] := oS.set 9 (.bool false)
              have oR := oR.other (show w.heap.size ≠ W1.heap.size by omega) 9 (.bool false)
              have hT := hT.kept hgs (fun e => by have e2 : bt = W1.heap.size := Option.some.inj e; omega) (fun g e => by have e2 : W1.heap.size = g := Option.some.inj e; omega)
              have hB := hB.trans ((below_set W W1.heap.size 9 (.bool false)).mono (show w.heap.size ≤ W1.heap.size by omega))
              have hsz : W1.heap.size < (W.setCell ⟨W1.heap.size, 9, none⟩ (.bool false)).heap.size := by rw [set_size]; exact hsz
              go_upto_region 26 with (fail)
              clear g f
              generalize W.setCell ⟨W1.heap.size, 9, none⟩ (.bool false) = U at *
              clear hgs
              obtain ⟨v0, hO⟩ := hT.none_form
              have q := hO.cell (j := 1) rfl
              clear hO
              go_wp2_with (refine wpList_store_ob (cells := #[.int .i64 0, .int .i64 0, .int .i64 0, .slice none 0 0, .bool false, .int .i64 0, .int .i64 0, .slice none 0 0, .slice none 0 0, .bool false]) rfl 26 (.tmp 2) (.tmp 113) rfl rfl rfl oR rfl (by kernel_rfl) (by simp [Value.oneCell']) ?_; intro W9 ho9 hg9)
              have hB9 := hB.grown hg9 hB.size (fun g e => by have e2 : w.heap.size = g := Option.some.inj e; omega)
              obtain ⟨p0, p1, p2, p3, p4, p5, p6, p7, p8, p9⟩ := ob_ten ho9
              go_wp2
              refine bodyPost_ret (v := .tuple #[.agg #[.int .i64 0, .int .i64 0, .int .i64 0, .slice none 0 0, .bool false, .int .i64 0, .int .i64 0, .slice none 0 0, .slice none 0 0, .bool false], .bool false]) ?_ rfl ⟨by rw [HNO.out]; rfl, hB9⟩
              simp [results, Tryz.f20, go_sem, p0, p1, p2, p3, p4, p5, p6, p7, p8, p9]
            | some r0 =>
              have hd0 := (Below.refl wr.heap.size wr).drew
              obtain ⟨v0, lo0, hO, -⟩ := hT.some_form
              have q := hO.cell (j := 1) rfl
              clear hO HST
              have oS := oS.same hd0
              have oR := oR.same hd0
              have hT := hT.same hd0
              have hB := hB.drew
              have hown := row_later hown hd0
              have hK : Kept (fun i => i < V.heap.size ∧ ¬ (fun i => i = w.heap.size ∨ i = bt ∨ i = W1.heap.size) i) V wr.drew := hK.trans (Kept.of_below hd0 fun i hi => Nat.lt_of_lt_of_le hi.1 hK.size)
              have hszr : W1.heap.size < wr.drew.heap.size := hszr
              go_upto_region 24 with (fail)
              clear hd0 q
              refine Pt.regionT (.look 0 (.look 1 (.look 2 (.look 6 (.make 3 (.make 4 (.make 5 (.make 7 .nil)))))))) (fun V => Ob V W1.heap.size 26 #[.int .i64 (dO b).1, .int .i64 (dF b).1, .int .i64 (dR b).1, .slice Aw (dW b).1.length cw, .bool (dA b).1, .int .i64 (dS b).1, .int .i64 (dK b).1, vg, vp, .bool false]) hmx (by kernel_rfl) (by kernel_rfl) (by kernel_rfl) oS rfl ?_
              simp only [Pt.named, List.getElem?_toArray, List.getElem?_cons_succ, List.getElem?_cons_zero, Option.map_some]
              iterate 4 (
                apply Pt.WalkT.on (by rfl)
                · intro V hV
                  obtain ⟨-, -, -, -, -, -, -, -, q8, -⟩ := ob_ten hV
                  go_wp2_with fail
                  refine ⟨rfl, ?_, rfl⟩
                  try simp only [Act.put, List.setIfInBounds_toArray, List.set_cons_succ, List.set_cons_zero]
                  rfl
                simp only [Act.put, List.setIfInBounds_toArray, List.set_cons_succ, List.set_cons_zero])
              generalize wr.drew = W0 at *
              have cX := Lib.hid (rnum_calls 0 7 bt w.heap.size (some r0) W0 hT)
              refine Pt.WalkT.make (by rfl) ?_
              intro W hWJ
              cases hWJ.symm
              go_wp2_with (go_at_call 60; refine cX.out.mono ?_; rintro e Y1 ⟨rfl, hT1, hg1, -⟩)
              have oS1 := oS.kept hg1 (fun e => by have e2 : W1.heap.size = bt := Option.some.inj e; omega)
              have oR1 := oR.kept hg1 (fun e => by have e2 : w.heap.size = bt := Option.some.inj e; omega)
              have hB1 := hB.grown hg1 (by omega) (fun g e => by have e2 : bt = g := Option.some.inj e; omega)
              have hK1 := hK.trans (Kept.of_grown hg1 fun i hi => ⟨Nat.lt_of_lt_of_le hi.1 hK.size, fun e => hi.2 (by cases e; exact .inr (.inl rfl))⟩)
              have hown1 := ownsRow_far hown hg1 (by omega)
              have hsz1 := Nat.lt_of_lt_of_le hszr hg1.size
              clear hg1 cX hT oS oR hB hown hK hszr
              refine ⟨rfl, .int .i64 (tNum 0 7 (some r0)).1, _, (fun V => V = Y1), ?_, rfl, (fun V h => by rw [h]; exact oS1), (.inr (fun _ h => h)), ?_⟩
              · simp only [Act.put, List.setIfInBounds_toArray, List.set_cons_succ, List.set_cons_zero]
              simp only [Act.put, List.setIfInBounds_toArray, List.set_cons_succ, List.set_cons_zero]
              refine Pt.WalkT.make (by rfl) ?_
              intro W hWJ
              cases hWJ.symm
              have hal := (Below.refl Y1.heap.size Y1).alloc (Nat.le_refl _) (.cells #[.int .i64 (tNum 0 7 (some r0)).1] 3)
              have hl : Sl (Y1.alloc (.cells #[.int .i64 (tNum 0 7 (some r0)).1] 3)) Y1.heap.size (Y1.heap.size + 1) 1 (.slice (some ⟨Y1.heap.size, 0, none⟩) 1 1) 1 [.int .i64 (tNum 0 7 (some r0)).1] := Sl.new Y1 #[.int .i64 (tNum 0 7 (some r0)).1] 3 (n := 1) rfl (by unfold maxLen; omega)
              have oS2 := oS1.same hal
              have oR2 := oR1.same hal
              have hT2 := hT1.same hal
              have hB2 := hB1.trans (hal.mono (by have := hB1.size; omega))
              have hown2 := row_later hown1 hal
              have hK2 := hK1.trans (Kept.of_below hal fun i hi => Nat.lt_of_lt_of_le hi.1 hK1.size)
              have hsz2 := Nat.lt_of_lt_of_le hsz1 hal.size
              go_wp2_with fail
              refine ⟨rfl, .slice (some ⟨Y1.heap.size, 0, none⟩) 1 1, _, (fun V => V = Y1.alloc (.cells #[.int .i64 (tNum 0 7 (some r0)).1] 3)), ?_, rfl, (fun V h => by rw [h]; exact oS2), (.inr (fun _ h => h)), ?_⟩
              · simp only [Act.put, List.setIfInBounds_toArray, List.set_cons_succ, List.set_cons_zero]
              simp only [Act.put, List.setIfInBounds_toArray, List.set_cons_succ, List.set_cons_zero]
              generalize Y1.alloc (.cells #[.int .i64 (tNum 0 7 (some r0)).1] 3) = Y2 at *
              clear oS1 oR1 hT1 hB1 hown1 hK1 hal
              refine Pt.WalkT.make (by rfl) ?_
              intro W hWJ
              cases hWJ.symm
              obtain ⟨hj0, hy0, hy1, hy2⟩ := HJ0.out
              refine wpList_append_sl _ rfl (.tmp 87) (.tmp 90) _ rfl V.heap.size 3 j0 _ 1 8 Tryz.underlying24 hj0 hy0 hy1 hy2 rfl (by omega) vp k (ints RL) rfl hown2 Y1.heap.size (Y1.heap.size + 1) _ 1 [.int .i64 (tNum 0 7 (some r0)).1] rfl hl (by intro y hy; rw [List.mem_singleton.1 hy]; rfl) (by unfold maxLen; omega) (by omega) hK2.size ?_
              clear hj0 hy0 hy1 hy2
              intro v3 w3 hv3 hg3 hat3
              have hgo : ∀ i, i < V.heap.size → vp.ownBlock ≠ some i := fun i hi e => by have h1 := (hown2.lt i e).1; omega
              have oS3 := oS2.kept hg3 (fun e => hgo W1.heap.size hsz e.symm)
              have hnV : w.heap.size < V.heap.size := by omega
              have hbV : bt < V.heap.size := by omega
              have oR3 := oR2.kept hg3 (fun e => hgo w.heap.size hnV e.symm)
              have hT3 := hT2.kept hg3 (fun e => hgo bt hbV e.symm) (fun g e => by have := (hown2.lt g e).1; omega)
              have hB3 := hB2.grown hg3 hB2.size (fun g e => by have := (hown2.lt g e).1; omega)
              have hK3 := hK2.trans (Kept.of_grown hg3 fun i hi => ⟨Nat.lt_of_lt_of_le hi.1 hK2.size, fun e => hgo i hi.1 e.symm⟩)
              have hsz3 := Nat.lt_of_lt_of_le hsz2 hg3.size
              have hv3 : w3.ownsRow V.heap.size 3 1 v3 (k + 1) (ints (RL ++ [(tNum 0 7 (some r0)).1])) := by have h := hv3; unfold ints at h ⊢; rw [List.map_append]; exact h
              obtain ⟨A5, c5, rfl, -⟩ := (Sl.of_own hv3).at_
              clear hg3 hat3 hown2 oS2 oR2 hT2 hB2 hK2 hl
              refine ⟨rfl, .slice A5 (k + 1) c5, _, (fun V => V = w3), rfl, rfl, (fun V h => by rw [h]; exact oS3), (.inr (fun _ h => h)), ?_⟩
              simp only [Act.put, List.setIfInBounds_toArray, List.set_cons_succ, List.set_cons_zero]
              refine Pt.WalkT.make (by rfl) ?_
              intro W hWJ
              cases hWJ.symm
              have g : w3.cell? ⟨W1.heap.size, 8, none⟩ = some vp := oS3.cell rfl
              have f := oS3.frozen 8
              have hgs := grownBy_set w3 W1.heap.size 8 (.slice A5 (k + 1) c5)
              have oS4 : Ob (w3.setCell ⟨W1.heap.size, 8, none⟩ (.slice A5 (k + 1) c5)) W1.heap.size 26 #[.int .i64 (dO b).1, .int .i64 (dF b).1, .int .i64 (dR b).1, .slice Aw (dW b).1.length cw, .bool (dA b).1, .int .i64 (dS b).1, .int .i64 (dK b).1, vg, .slice A5 (k + 1) c5, .bool false] := oS3.set 8 (.slice A5 (k + 1) c5)
              have oR4 := oR3.other (show w.heap.size ≠ W1.heap.size by omega) 8 (.slice A5 (k + 1) c5)
              have hT4 := hT3.kept hgs (fun e => by have e2 : bt = W1.heap.size := Option.some.inj e; omega) (fun g e => by have e2 : W1.heap.size = g := Option.some.inj e; omega)
              have hB4 := hB3.trans ((below_set w3 W1.heap.size 8 (.slice A5 (k + 1) c5)).mono (show w.heap.size ≤ W1.heap.size by omega))
              have hK4 := hK3.trans (Kept.of_grown hgs fun i hi => ⟨Nat.lt_of_lt_of_le hi.1 hK3.size, fun e => hi.2 (by cases e; exact .inr (.inr rfl))⟩)
              have hv4 := ownsRow_far hv3 hgs hsz
              go_wp2_with fail
              clear g f oS3 oR3 hT3 hB3 hsz3 hK3 hgs hv3
              refine ⟨rfl, undef, (fun _ => True), (fun V => V = w3.setCell ⟨W1.heap.size, 8, none⟩ (.slice A5 (k + 1) c5)), rfl, rfl, (fun _ _ => trivial), (.inl (by kernel_rfl)), Pt.WalkT.nil ?_⟩
              intro V' hV
              cases hV.symm
              simp only [Act.put]
              generalize w3.setCell ⟨W1.heap.size, 8, none⟩ (.slice A5 (k + 1) c5) = Y5 at *
              go_wp2
              go_roundw
              case rel =>
                refine ⟨k + 1, .slice A5 (k + 1) c5, by omega, by go_num, ?_, oS4, oR4, ?_, hK4, hB4⟩
                · rw [HE.out]; exact hT4
                · rw [HE.out]; exact hv4
              case measure => simp [intOf]; omega
          · have hd : decide ((k : Int) < (dN b).1) = false := by simp; omega
            have hke : (k : Int) = (dN b).1 := by omega
            have hkn : (dN b).1.toNat = k := by omega
            have HDP := Lib.hid (show pIt ([], (dN b).2) k = dP b by rw [← hkn]; rfl)
            rw [HDP.out] at hT hown
            have hlP : (dP b).1.length = k := by rw [← HDP.out]; exact (pIt_len ([], (dN b).2) k).trans (Nat.zero_add k)
            rw [← hlP] at hown
            obtain ⟨Ag, cg, rfl⟩ := hG.form
            have hgA := (hG.gota (fun i hi hx => by rcases hx with hx | hx | hx <;> omega)).keep hK
            have hwA : SlA (fun i => i = w.heap.size ∨ i = bt ∨ i = W1.heap.size) wr 2 (.slice Aw (dW b).1.length cw) (dW b).1.length (itemCells (dW b).1) := (hW.more (fun i _ hx => .inl hx)).keep hK
            have hpA := SlA.of (Av := (fun i => i = w.heap.size ∨ i = bt ∨ i = W1.heap.size)) (Sl.of_own hown) (Nat.le_refl _) (fun i hi _ hx => by rcases hx with hx | hx | hx <;> omega)
            obtain ⟨Ap, cp, rfl, -⟩ := (Sl.of_own hown).at_
            have hPA : PartsA (fun i => i = w.heap.size ∨ i = bt ∨ i = W1.heap.size) wr (dSaga b) (.slice Aw (dW b).1.length cw) (.slice Ag (dG b).1.length cg) (.slice Ap (dP b).1.length cp) := ⟨hwA, hgA, hpA⟩
            have hsz := hszr
            go_upto_region 25 with (fail)
            clear hd hkn hk hge hke hG hW hK hown hgA hwA hpA hlP HST hszr
            have cX := Lib.hid (rflag_calls bt w.heap.size (dP b).2 wr hT)
            go_wp2_with fail
            refine cX.out.mono ?_
            rintro e W ⟨rfl, hT, hg⟩
            have oR := oR.kept hg (fun e => by have e2 : w.heap.size = bt := Option.some.inj e; omega)
            have oS := oS.kept hg (fun e => by have e2 : W1.heap.size = bt := Option.some.inj e; omega)
            have hB := hB.grown hg (by omega) (fun g e => by have e2 : bt = g := Option.some.inj e; omega)
            have hsz := Nat.lt_of_lt_of_le hsz hg.size
            have hPA := hPA.grow hg (.inr (.inl rfl))
            clear cX hg
            have g : W.cell? ⟨W1.heap.size, 9, none⟩ = some (.bool false) := oS.cell rfl
            have f := oS.frozen 9
            have hgs := grownBy_set W W1.heap.size 9 (.bool (tFlag (dP b).2).1)
            have oS : Ob (W.setCell ⟨W1.heap.size, 9, none⟩ (.bool (tFlag (dP b).2).1)) W1.heap.size 26 #[.int .i64 (dO b).1, .int .i64 (dF b).1, .int .i64 (dR b).1, .slice Aw (dW b).1.length cw, .bool (dA b).1, .int .i64 (dS b).1, .int .i64 (dK b).1, .slice Ag (dG b).1.length cg, .slice Ap (dP b).1.length cp, .bool (dC b).1] := oS.set 9 (.bool (tFlag (dP b).2).1)
            have oR := oR.other (show w.heap.size ≠ W1.heap.size by omega) 9 (.bool (tFlag (dP b).2).1)
            have hT : Tk 94 (W.setCell ⟨W1.heap.size, 9, none⟩ (.bool (tFlag (dP b).2).1)) bt w.heap.size (dC b).2 := hT.kept hgs (fun e => by have e2 : bt = W1.heap.size := Option.some.inj e; omega) (fun g e => by have e2 : W1.heap.size = g := Option.some.inj e; omega)
            have hB := hB.trans ((below_set W W1.heap.size 9 (.bool (tFlag (dP b).2).1)).mono (show w.heap.size ≤ W1.heap.size by omega))
            have hPA := hPA.grow hgs (.inr (.inr rfl))
            go_upto_region 26 with (fail)
            clear g f hgs
            generalize W.setCell ⟨W1.heap.size, 9, none⟩ (.bool (tFlag (dP b).2).1) = U at *
            have HDS := Lib.hid (show decS b = if doneOf (dC b).2 = 0 ∧ mayS (dSaga b) = true then some (dSaga b) else none from rfl)
            have cM := Lib.hid (refmay15_calls (dSaga b) (.slice Aw (dW b).1.length cw) (.slice Ag (dG b).1.length cg) (.slice Ap (dP b).1.length cp) U hPA.parts (dSaga_fit b))
            have HPA := Lib.hid hPA
            clear hPA
            obtain ⟨sC, hsC⟩ : ∃ st, (dC b).2 = st := ⟨_, rfl⟩
            rw [hsC] at HDS hT
            clear hsC
            cases sC with
            | none =>
              have HNO := Lib.hid (show decS b = none by rw [HDS.out, if_neg (by rintro ⟨h, -⟩; cases h)])
              obtain ⟨v0, hO⟩ := hT.none_form
              have q := hO.cell (j := 1) rfl
              clear hO cM HPA HDS
              go_wp2_with (refine wpList_store_ob (cells := #[.int .i64 0, .int .i64 0, .int .i64 0, .slice none 0 0, .bool false, .int .i64 0, .int .i64 0, .slice none 0 0, .slice none 0 0, .bool false]) rfl 26 (.tmp 2) (.tmp 113) rfl rfl rfl oR rfl (by kernel_rfl) (by simp [Value.oneCell']) ?_; intro W9 ho9 hg9)
              have hB9 := hB.grown hg9 hB.size (fun g e => by have e2 : w.heap.size = g := Option.some.inj e; omega)
              obtain ⟨p0, p1, p2, p3, p4, p5, p6, p7, p8, p9⟩ := ob_ten ho9
              go_wp2
              refine bodyPost_ret (v := .tuple #[.agg #[.int .i64 0, .int .i64 0, .int .i64 0, .slice none 0 0, .bool false, .int .i64 0, .int .i64 0, .slice none 0 0, .slice none 0 0, .bool false], .bool false]) ?_ rfl ⟨by rw [HNO.out]; rfl, hB9⟩
              simp [results, Tryz.f20, go_sem, p0, p1, p2, p3, p4, p5, p6, p7, p8, p9]
            | some l =>
              obtain ⟨v0, lo0, hO, hbl, -⟩ := hT.some_form
              obtain ⟨Al, cl, rfl, -⟩ := hbl.form
              have q0 := hO.cell (j := 0) rfl
              have q := hO.cell (j := 1) rfl
              clear hO hbl hT
              cases l with
              | cons x0 x1 =>
                have HNO := Lib.hid (show decS b = none by rw [HDS.out, if_neg (by rintro ⟨h, -⟩; cases h)])
                have hd : decide (0 < (x0 :: x1).length) = true := by simp
                generalize (x0 :: x1).length = k2 at *
                clear cM HPA HDS
                go_wp2_with (refine wpList_store_ob (cells := #[.int .i64 0, .int .i64 0, .int .i64 0, .slice none 0 0, .bool false, .int .i64 0, .int .i64 0, .slice none 0 0, .slice none 0 0, .bool false]) rfl 26 (.tmp 2) (.tmp 113) rfl rfl rfl oR rfl (by kernel_rfl) (by simp [Value.oneCell']) ?_; intro W9 ho9 hg9)
                have hB9 := hB.grown hg9 hB.size (fun g e => by have e2 : w.heap.size = g := Option.some.inj e; omega)
                obtain ⟨p0, p1, p2, p3, p4, p5, p6, p7, p8, p9⟩ := ob_ten ho9
                go_wp2
                refine bodyPost_ret (v := .tuple #[.agg #[.int .i64 0, .int .i64 0, .int .i64 0, .slice none 0 0, .bool false, .int .i64 0, .int .i64 0, .slice none 0 0, .slice none 0 0, .bool false], .bool false]) ?_ rfl ⟨by rw [HNO.out]; rfl, hB9⟩
                simp [results, Tryz.f20, go_sem, p0, p1, p2, p3, p4, p5, p6, p7, p8, p9]
              | nil =>
                simp only [List.length_nil] at q0
                obtain ⟨m, hm⟩ : ∃ m, mayS (dSaga b) = m := ⟨_, rfl⟩
                rw [hm] at HDS cM
                clear hm
                cases m with
                | false =>
                  have HNO := Lib.hid (show decS b = none by rw [HDS.out, if_neg (by simp)])
                  go_upto_region 27 with (first
                    | (refine wpList_load_obg (by rfl) _ _ rfl rfl _ oS Tryz.underlying26 rfl (by kernel_rfl) ?_)
                    | (go_at_call 14; refine cM.out.mono ?_; rintro e U2 ⟨rfl, hb2⟩))
                  have oR := oR.same hb2
                  have hB := hB.trans (hb2.mono hB.size)
                  go_wp2_with (refine wpList_store_ob (cells := #[.int .i64 0, .int .i64 0, .int .i64 0, .slice none 0 0, .bool false, .int .i64 0, .int .i64 0, .slice none 0 0, .slice none 0 0, .bool false]) rfl 26 (.tmp 2) (.tmp 113) rfl rfl rfl oR rfl (by kernel_rfl) (by simp [Value.oneCell']) ?_; intro W9 ho9 hg9)
                  have hB9 := hB.grown hg9 hB.size (fun g e => by have e2 : w.heap.size = g := Option.some.inj e; omega)
                  obtain ⟨p0, p1, p2, p3, p4, p5, p6, p7, p8, p9⟩ := ob_ten ho9
                  go_wp2
                  refine bodyPost_ret (v := .tuple #[.agg #[.int .i64 0, .int .i64 0, .int .i64 0, .slice none 0 0, .bool false, .int .i64 0, .int .i64 0, .slice none 0 0, .slice none 0 0, .bool false], .bool false]) ?_ rfl ⟨by rw [HNO.out]; rfl, hB9⟩
                  simp [results, Tryz.f20, go_sem, p0, p1, p2, p3, p4, p5, p6, p7, p8, p9]
                | true =>
                  go_upto_region 28 with (first
                    | (refine wpList_load_obg (by rfl) _ _ rfl rfl _ oS Tryz.underlying26 rfl (by kernel_rfl) ?_)
                    | (go_at_call 14; refine cM.out.mono ?_; rintro e U2 ⟨rfl, hb2⟩))
                  have hPA := (HPA.out.later hb2)
                  have oS := oS.same hb2
                  have oR := oR.same hb2
                  have hB := hB.trans (hb2.mono hB.size)
                  go_wp2_with (first | refine wpList_load_obg (by rfl) _ _ rfl rfl _ oS Tryz.underlying26 rfl (by kernel_rfl) ?_ | refine wpList_store_ob (cells := #[.int .i64 (dO b).1, .int .i64 (dF b).1, .int .i64 (dR b).1, .slice Aw (dW b).1.length cw, .bool (dA b).1, .int .i64 (dS b).1, .int .i64 (dK b).1, .slice Ag (dG b).1.length cg, .slice Ap (dP b).1.length cp, .bool (dC b).1]) rfl 26 (.tmp 2) (.tmp 114) rfl rfl rfl oR rfl (by kernel_rfl) (by simp [Value.oneCell']) ?_; intro W9 ho9 hg9)
                  have hP9 := hPA.grow hg9 (.inl rfl)
                  have hB9 := hB.grown hg9 hB.size (fun g e => by have e2 : w.heap.size = g := Option.some.inj e; omega)
                  obtain ⟨p0, p1, p2, p3, p4, p5, p6, p7, p8, p9⟩ := ob_ten ho9
                  go_wp2
                  refine bodyPost_ret (v := .tuple #[.agg #[.int .i64 (dO b).1, .int .i64 (dF b).1, .int .i64 (dR b).1, .slice Aw (dW b).1.length cw, .bool (dA b).1, .int .i64 (dS b).1, .int .i64 (dK b).1, .slice Ag (dG b).1.length cg, .slice Ap (dP b).1.length cp, .bool (dC b).1], .bool true]) ?_ rfl ⟨by rw [HDS.out, if_pos ⟨rfl, trivial⟩]; exact ⟨_, _, _, rfl, hP9.parts.wide (Nat.zero_le _) (Nat.le_refl _)⟩, hB9⟩
                  simp [results, Tryz.f20, go_sem, p0, p1, p2, p3, p4, p5, p6, p7, p8, p9]
end Sa
end Go.Proofs.YthfpfomifebpbaaGreat

namespace Go.Proofs.YthfpfomifebpbaaGreat
open Go.RowKit Go.Maps
namespace Sa
open It Ce
set_option linter.unusedSimpArgs false

theorem RetD.no {w' : World} {e : Ending} (h : RetD w' e none) : ∃ vw vg vp, e = .returned (.tuple #[.agg (sagaC saga0 vw vg vp), .int .i64 10]) ∧ Parts w' 0 w'.heap.size saga0 vw vg vp := ⟨_, _, _, h, parts0 w' 0 w'.heap.size⟩
theorem RetR.no {w' : World} {e : Ending} (h : RetR w' e none) : ∃ vw vg vp, e = .returned (.tuple #[.agg (sagaC saga0 vw vg vp), .bool false]) ∧ Parts w' 0 w'.heap.size saga0 vw vg vp := ⟨_, _, _, h, parts0 w' 0 w'.heap.size⟩
theorem fit0 : Fit saga0 := ⟨fun x hx => (by cases hx), fun l hl => by cases hl⟩
theorem may0 : mayS saga0 = false := by decide +kernel

set_option maxRecDepth 100000 in
set_option maxHeartbeats 8000000 in
theorem reads_law (bl : List UInt8) (v : Value) (w : World) (hI : BytesAt w 0 w.heap.size v bl) (hbl : bl.length ≤ 140737488351232) :
    Calls Tryz.prog 5 #[v] w fun e w' => e = .returned (.bool true) ∧ Below w.heap.size w w' := by
  obtain ⟨i0, hi0, hz0⟩ := Option.map_eq_some_iff.1 byte_info
  simp only [Prod.mk.injEq] at hz0
  obtain ⟨hz0, hz1, hz2⟩ := hz0
  have HI := Lib.hid (fun W (h : Below w.heap.size w W) => hI.mono h h.size)
  have HBL := Lib.hid hbl
  have cD0 := Lib.hid (fun u W h => decode_calls bl u W h HBL.out)
  have cR0 := Lib.hid (fun W (h : Below w.heap.size w W) => refdecode15_calls bl v W (HI.out W h))
  have cL := Lib.hid (fun W => lives_calls W)
  obtain ⟨A, c, rfl, hc1, hc2⟩ := hI.form
  have h0 := Lib.hid hI
  clear hI hbl
  unfold maxLen at hc2
  go_enter Tryz.func5, Tryz.ntmps5
  go_wp2_with (at_builtin
               refine wpList_append_sl _ rfl (.tmp 10) (.tmp 11) _ rfl w.heap.size 5 i0 _ 1 1 Tryz.underlying39 hi0 hz0 hz1 hz2 rfl (by omega) (.slice (some ⟨w.heap.size, 0, none⟩) 0 0) 0 [] rfl (World.ownsRow_lit w #[] 0 (Nat.le_refl _) (Nat.zero_le _) rfl) 0 w.heap.size _ bl.length (bytesV bl) rfl (Sl.below h0.out ((Below.refl _ w).alloc (Nat.le_refl _) _)) (bytesV_one bl) (by have := HBL.out; unfold maxLen; omega) (by have := HBL.out; omega) (by simp) ?_
               intro v1 w1 hv1 hg1 hat1
               have hB : Below w.heap.size w w1 := ((Below.refl _ w).alloc (Nat.le_refl _) (.cells #[] 5)).grown hg1 (by simp) (fun g hg => by cases hg; exact Nat.le_refl _)
               clear hg1 hat1)
  have hown : w1.ownsRow w.heap.size 5 1 v1 bl.length (bytesV bl) := by simpa using hv1
  have hx1 := BytesAt.all hown
  obtain ⟨A1, c1, rfl, -⟩ := hx1.form
  clear hv1 hown hi0 hz0 hz1 hz2
  generalize hsb : (⟨bl.toArray⟩ : ByteArray) = sb at *
  have HSB := Lib.hid hsb
  clear hsb
  have HC1 := Lib.hid (fun V (hb : Below w1.heap.size w1 V) => show (convert 39 9 (.slice A1 bl.length c1)).run Tryz.prog V = .ok (.string sb) V from by rw [← HSB.out]; exact run_string_at (P := Tryz.prog) (w := V) (dst := 9) Tryz.underlying39 Tryz.underlying5 Tryz.underlying9 (hx1.below hb))
  have HC0 := Lib.hid (fun V (hb : Below w.heap.size w V) => show (convert 39 9 (.slice A bl.length c)).run Tryz.prog V = .ok (.string sb) V from by rw [← HSB.out]; exact run_string_at (P := Tryz.prog) (w := V) (dst := 9) Tryz.underlying39 Tryz.underlying5 Tryz.underlying9 (HI.out V hb))
  have cD := cD0.out (.slice A1 bl.length c1) w1 hx1
  have cR := cR0.out
  clear cD0 cR0
  obtain ⟨R, hR⟩ : ∃ R, decS bl = R := ⟨_, rfl⟩
  rw [hR] at cD cR
  have cD := Lib.hid cD
  have cR := Lib.hid cR
  cases R with
  | none =>
    clear hR
    go_wp2_with fail
    refine cD.out.mono ?_
    rintro e W2 ⟨hret, hb2⟩
    obtain ⟨xw, xg, xp, rfl, hPx⟩ := hret.no
    have hB := hB.trans (hb2.mono hB.size)
    have hE := hb2
    clear hb2 cD hx1
    obtain ⟨x1, xd1, rfl, -⟩ := hPx.want.form
    obtain ⟨x2, xd2, rfl, -⟩ := hPx.got.form
    obtain ⟨x3, xd3, rfl, -⟩ := hPx.pend.form
    obtain ⟨xc, hxc⟩ : ∃ xc, xc = sagaC saga0 (.slice x1 saga0.want.length xd1) (.slice x2 saga0.got.length xd2) (.slice x3 saga0.pending.length xd3) := ⟨_, rfl⟩
    rw [← hxc]
    have xc1 : xc.size = 10 := by rw [hxc]; rfl
    have xc2 : xc.all (·.oneCell') = true := by rw [hxc]; simp [sagaC, Value.oneCell']
    have HxC := Lib.hid hxc
    clear hxc
    have hoN := Ob.new W2 26 #[.int .i64 0, .int .i64 0, .int .i64 0, .slice none 0 0, .bool false, .int .i64 0, .int .i64 0, .slice none 0 0, .slice none 0 0, .bool false]
    have hal3 := (Below.refl W2.heap.size W2).alloc (Nat.le_refl _) (.cells #[.int .i64 0, .int .i64 0, .int .i64 0, .slice none 0 0, .bool false, .int .i64 0, .int .i64 0, .slice none 0 0, .slice none 0 0, .bool false] 26)
    have z3 : (W2.alloc (.cells #[.int .i64 0, .int .i64 0, .int .i64 0, .slice none 0 0, .bool false, .int .i64 0, .int .i64 0, .slice none 0 0, .slice none 0 0, .bool false] 26)).heap.size = W2.heap.size + 1 := World.size_alloc _ _
    go_wp2_with (refine wpList_store_ob (cells := xc) rfl 26 (.tmp 4) (.tmp 16) rfl rfl rfl hoN xc1 (by rw [xc1]; kernel_rfl) xc2 ?_
                 intro W3 o3 hgq
                 have hbq : Below W2.heap.size W2 W3 := hal3.grown hgq (by omega) (fun g e => by have e2 : W2.heap.size = g := Option.some.inj e; omega)
                 have hB := hB.trans (hbq.mono hB.size)
                 have hE := hE.trans (hbq.mono hE.size)
                 have hPx := hPx.later hbq

                 clear hoN hal3 z3 hgq hbq)
    refine (cR.out W3 hB).mono ?_
    rintro e W4 ⟨hret, hb4⟩
    obtain ⟨yw, yg, yp, rfl, hPy⟩ := hret.no
    have o3 := o3.same hb4
    have hPx := hPx.later hb4
    have hB := hB.trans (hb4.mono hB.size)
    have hE := hE.trans (hb4.mono hE.size)
    clear hb4 cR
    obtain ⟨y1, yd1, rfl, -⟩ := hPy.want.form
    obtain ⟨y2, yd2, rfl, -⟩ := hPy.got.form
    obtain ⟨y3, yd3, rfl, -⟩ := hPy.pend.form
    obtain ⟨yc, hyc⟩ : ∃ xc, xc = sagaC saga0 (.slice y1 saga0.want.length yd1) (.slice y2 saga0.got.length yd2) (.slice y3 saga0.pending.length yd3) := ⟨_, rfl⟩
    rw [← hyc]
    have yc1 : yc.size = 10 := by rw [hyc]; rfl
    have yc2 : yc.all (·.oneCell') = true := by rw [hyc]; simp [sagaC, Value.oneCell']
    have HyC := Lib.hid hyc
    clear hyc
    have hoN := Ob.new W4 26 #[.int .i64 0, .int .i64 0, .int .i64 0, .slice none 0 0, .bool false, .int .i64 0, .int .i64 0, .slice none 0 0, .slice none 0 0, .bool false]
    have hal3 := (Below.refl W4.heap.size W4).alloc (Nat.le_refl _) (.cells #[.int .i64 0, .int .i64 0, .int .i64 0, .slice none 0 0, .bool false, .int .i64 0, .int .i64 0, .slice none 0 0, .slice none 0 0, .bool false] 26)
    have z3 : (W4.alloc (.cells #[.int .i64 0, .int .i64 0, .int .i64 0, .slice none 0 0, .bool false, .int .i64 0, .int .i64 0, .slice none 0 0, .slice none 0 0, .bool false] 26)).heap.size = W4.heap.size + 1 := World.size_alloc _ _
    go_wp2_with (refine wpList_store_ob (cells := yc) rfl 26 (.tmp 6) (.tmp 21) rfl rfl rfl hoN yc1 (by rw [yc1]; kernel_rfl) yc2 ?_
                 intro W5 o5 hgq
                 have hbq : Below W4.heap.size W4 W5 := hal3.grown hgq (by omega) (fun g e => by have e2 : W4.heap.size = g := Option.some.inj e; omega)
                 have hB := hB.trans (hbq.mono hB.size)
                 have hE := hE.trans (hbq.mono hE.size)
                 have hPy := hPy.later hbq
                 have o3 := o3.same hbq
                 have hPx := hPx.later hbq
                 clear hoN hal3 z3 hgq hbq)
    refine (cL.out W5).mono ?_
    rintro e W6 ⟨rfl, hb6⟩
    have o3 := o3.same hb6
    have o5 := o5.same hb6
    have hPx := hPx.later hb6
    have hPy := hPy.later hb6
    have hB := hB.trans (hb6.mono hB.size)
    have hE := hE.trans (hb6.mono hE.size)
    clear hb6 cL
    have cZ := refsame15_calls saga0 saga0 _ _ _ _ _ _ W6 hPx hPy
    rw [← HxC.out, ← HyC.out, show sameS saga0 saga0 = true from sameS_iff.2 rfl] at cZ
    have cZ := Lib.hid cZ
    go_wp2_with (first | (refine wpList_load_obg (by rfl) _ _ rfl rfl _ o3 Tryz.underlying26 rfl (by rw [xc1]; kernel_rfl) ?_) | (refine wpList_load_obg (by rfl) _ _ rfl rfl _ o5 Tryz.underlying26 rfl (by rw [yc1]; kernel_rfl) ?_) | (go_at_call 11; refine cZ.out.mono ?_; rintro e W7 ⟨rfl, hb7⟩; have o3 := o3.same hb7; have o5 := o5.same hb7; have hPx := hPx.later hb7; have hB := hB.trans (hb7.mono hB.size); have hE := hE.trans (hb7.mono hE.size); have hcv1 := HC1.out W7 hE; have hcv0 := HC0.out W7 hB; clear hb7 cZ))
    have cE := encode_no saga0 _ _ _ W7 hPx fit0 may0
    rw [← HxC.out] at cE
    refine cE.mono ?_
    rintro e W8 ⟨rfl, hb8⟩
    clear hcv1 hcv0
    have hcv0 := HC0.out W8 (hB.trans (hb8.mono hB.size))
    go_wp2
    go_ret
    exact ⟨rfl, hB.trans (hb8.mono hB.size)⟩
  | some s =>
    have HEN := Lib.hid (enc_dec hR).1
    have HM := Lib.hid (enc_dec hR).2
    have HF := Lib.hid (show Fit s by
      unfold decS at hR
      split at hR
      · cases hR; exact dSaga_fit bl
      · cases hR)
    clear hR
    go_wp2_with fail
    refine cD.out.mono ?_
    rintro e W2 ⟨hret, hb2⟩
    obtain ⟨xw, xg, xp, rfl, hPx⟩ := hret
    have hB := hB.trans (hb2.mono hB.size)
    have hE := hb2
    clear hb2 cD hx1
    obtain ⟨x1, xd1, rfl, -⟩ := hPx.want.form
    obtain ⟨x2, xd2, rfl, -⟩ := hPx.got.form
    obtain ⟨x3, xd3, rfl, -⟩ := hPx.pend.form
    obtain ⟨xc, hxc⟩ : ∃ xc, xc = sagaC s (.slice x1 s.want.length xd1) (.slice x2 s.got.length xd2) (.slice x3 s.pending.length xd3) := ⟨_, rfl⟩
    rw [← hxc]
    have xc1 : xc.size = 10 := by rw [hxc]; rfl
    have xc2 : xc.all (·.oneCell') = true := by rw [hxc]; simp [sagaC, Value.oneCell']
    have HxC := Lib.hid hxc
    clear hxc
    have hoN := Ob.new W2 26 #[.int .i64 0, .int .i64 0, .int .i64 0, .slice none 0 0, .bool false, .int .i64 0, .int .i64 0, .slice none 0 0, .slice none 0 0, .bool false]
    have hal3 := (Below.refl W2.heap.size W2).alloc (Nat.le_refl _) (.cells #[.int .i64 0, .int .i64 0, .int .i64 0, .slice none 0 0, .bool false, .int .i64 0, .int .i64 0, .slice none 0 0, .slice none 0 0, .bool false] 26)
    have z3 : (W2.alloc (.cells #[.int .i64 0, .int .i64 0, .int .i64 0, .slice none 0 0, .bool false, .int .i64 0, .int .i64 0, .slice none 0 0, .slice none 0 0, .bool false] 26)).heap.size = W2.heap.size + 1 := World.size_alloc _ _
    go_wp2_with (refine wpList_store_ob (cells := xc) rfl 26 (.tmp 4) (.tmp 16) rfl rfl rfl hoN xc1 (by rw [xc1]; kernel_rfl) xc2 ?_
                 intro W3 o3 hgq
                 have hbq : Below W2.heap.size W2 W3 := hal3.grown hgq (by omega) (fun g e => by have e2 : W2.heap.size = g := Option.some.inj e; omega)
                 have hB := hB.trans (hbq.mono hB.size)
                 have hE := hE.trans (hbq.mono hE.size)
                 have hPx := hPx.later hbq

                 clear hoN hal3 z3 hgq hbq)
    refine (cR.out W3 hB).mono ?_
    rintro e W4 ⟨hret, hb4⟩
    obtain ⟨yw, yg, yp, rfl, hPy⟩ := hret
    have o3 := o3.same hb4
    have hPx := hPx.later hb4
    have hB := hB.trans (hb4.mono hB.size)
    have hE := hE.trans (hb4.mono hE.size)
    clear hb4 cR
    obtain ⟨y1, yd1, rfl, -⟩ := hPy.want.form
    obtain ⟨y2, yd2, rfl, -⟩ := hPy.got.form
    obtain ⟨y3, yd3, rfl, -⟩ := hPy.pend.form
    obtain ⟨yc, hyc⟩ : ∃ xc, xc = sagaC s (.slice y1 s.want.length yd1) (.slice y2 s.got.length yd2) (.slice y3 s.pending.length yd3) := ⟨_, rfl⟩
    rw [← hyc]
    have yc1 : yc.size = 10 := by rw [hyc]; rfl
    have yc2 : yc.all (·.oneCell') = true := by rw [hyc]; simp [sagaC, Value.oneCell']
    have HyC := Lib.hid hyc
    clear hyc
    have hoN := Ob.new W4 26 #[.int .i64 0, .int .i64 0, .int .i64 0, .slice none 0 0, .bool false, .int .i64 0, .int .i64 0, .slice none 0 0, .slice none 0 0, .bool false]
    have hal3 := (Below.refl W4.heap.size W4).alloc (Nat.le_refl _) (.cells #[.int .i64 0, .int .i64 0, .int .i64 0, .slice none 0 0, .bool false, .int .i64 0, .int .i64 0, .slice none 0 0, .slice none 0 0, .bool false] 26)
    have z3 : (W4.alloc (.cells #[.int .i64 0, .int .i64 0, .int .i64 0, .slice none 0 0, .bool false, .int .i64 0, .int .i64 0, .slice none 0 0, .slice none 0 0, .bool false] 26)).heap.size = W4.heap.size + 1 := World.size_alloc _ _
    go_wp2_with (refine wpList_store_ob (cells := yc) rfl 26 (.tmp 6) (.tmp 21) rfl rfl rfl hoN yc1 (by rw [yc1]; kernel_rfl) yc2 ?_
                 intro W5 o5 hgq
                 have hbq : Below W4.heap.size W4 W5 := hal3.grown hgq (by omega) (fun g e => by have e2 : W4.heap.size = g := Option.some.inj e; omega)
                 have hB := hB.trans (hbq.mono hB.size)
                 have hE := hE.trans (hbq.mono hE.size)
                 have hPy := hPy.later hbq
                 have o3 := o3.same hbq
                 have hPx := hPx.later hbq
                 clear hoN hal3 z3 hgq hbq)
    refine (cL.out W5).mono ?_
    rintro e W6 ⟨rfl, hb6⟩
    have o3 := o3.same hb6
    have o5 := o5.same hb6
    have hPx := hPx.later hb6
    have hPy := hPy.later hb6
    have hB := hB.trans (hb6.mono hB.size)
    have hE := hE.trans (hb6.mono hE.size)
    clear hb6 cL
    have cZ := refsame15_calls s s _ _ _ _ _ _ W6 hPx hPy
    rw [← HxC.out, ← HyC.out, show sameS s s = true from sameS_iff.2 rfl] at cZ
    have cZ := Lib.hid cZ
    go_wp2_with (first | (refine wpList_load_obg (by rfl) _ _ rfl rfl _ o3 Tryz.underlying26 rfl (by rw [xc1]; kernel_rfl) ?_) | (refine wpList_load_obg (by rfl) _ _ rfl rfl _ o5 Tryz.underlying26 rfl (by rw [yc1]; kernel_rfl) ?_) | (go_at_call 11; refine cZ.out.mono ?_; rintro e W7 ⟨rfl, hb7⟩; have o3 := o3.same hb7; have o5 := o5.same hb7; have hPx := hPx.later hb7; have hB := hB.trans (hb7.mono hB.size); have hE := hE.trans (hb7.mono hE.size); have hcv1 := HC1.out W7 hE; have hcv0 := HC0.out W7 hB; clear hb7 cZ))
    have cE := encode_yes s _ _ _ W7 hPx (HF.out) HM.out (b64_of HM.out)
    rw [← HxC.out, HEN.out] at cE
    refine cE.mono ?_
    rintro e W8 ⟨⟨v8, rfl, hv8⟩, hb8⟩
    clear hcv1 hcv0
    have hI8 : BytesAt W8 0 W8.heap.size v8 bl := (Sl.of_own hv8).wide (Nat.zero_le _) (Nat.le_refl _)
    obtain ⟨A8, c8, rfl, -⟩ := hI8.form
    have hB := hB.trans (hb8.mono hB.size)
    have hcv0 := HC0.out W8 hB
    have hcv8 : (convert 39 9 (.slice A8 bl.length c8)).run Tryz.prog W8 = .ok (.string sb) W8 := by rw [← HSB.out]; exact run_string_at (P := Tryz.prog) (w := W8) (dst := 9) Tryz.underlying39 Tryz.underlying5 Tryz.underlying9 hI8
    clear hb8 hv8 hI8
    go_wp2
    go_ret
    exact ⟨rfl, hB⟩
end Sa
end Go.Proofs.YthfpfomifebpbaaGreat
