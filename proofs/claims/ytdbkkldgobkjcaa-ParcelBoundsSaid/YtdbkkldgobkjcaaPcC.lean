/-
  parcels: New, made, Len, row, within.
-/
import Derived.Test.YtdbkkldgobkjcaaPcB
namespace Go.Proofs.Ytdbkkldgobkjcaa
open Go.RowKit Go.Maps
namespace Pc
open It Mv

def zrow : Value := .agg #[.int .i64 0, .slice none 0 0, .slice none 0 0, .slice none 0 0, .map none]
theorem zeroR (w : World) : (zeroValue 96).run Try.prog w = .ok zrow w := by kernel_rfl

theorem new_calls (w : World) :
    Calls Try.prog 28 #[] w fun e w' => (∃ b mb, e = .returned (.pointer (some ⟨b, 0, none⟩)) ∧ ∀ X : Nat → Prop, (∀ i, X i → i < w.heap.size) → PcAt w' w.heap.size b mb X []) ∧ Below w.heap.size w w' := by
  have hmm := @run_makeMap Try.prog
  go_enter Try.func28, Try.ntmps28
  go_wp2
  go_ret
  have h1 : Below w.heap.size w ((w.alloc (.map #[] 0)).alloc (.cells #[.map (some w.heap.size)] 94)) := ((Below.refl _ w).alloc (Nat.le_refl _) _).alloc (by simp) _
  refine ⟨⟨w.heap.size + 1, w.heap.size, rfl, fun X hX => ⟨?_, ⟨[], ?_, trivial⟩, fun d hd => (by cases hd), List.Pairwise.nil, fun d hd => (by cases hd), by omega, ⟨by omega, by omega⟩, ⟨fun h => by have := hX _ h; omega, fun h => by have := hX _ h; omega⟩, fun i hi => by have := hX i hi; have := h1.size; omega, fun d hd => (by cases hd)⟩⟩, h1⟩
  · have := Ob.new (w.alloc (.map #[] 0)) 94 #[.map (some w.heap.size)]
    rwa [World.size_alloc] at this
  · exact (GMap.made (K := intK) w Try.prog 3).below ((Below.refl (w.heap.size + 1) _).alloc (by simp) _) (by omega)

theorem made_calls (b mb : Nat) (w : World) (h : w.cell? ⟨b, 0, none⟩ = some (.map (some mb))) :
    Calls Try.prog 50 #[.pointer (some ⟨b, 0, none⟩)] w fun e w' => e = .returned (.bool true) ∧ w = w' := by
  have hn := fun (w : World) (r : Option Nat) => run_neq_map_nil (P := Try.prog) w 92 _ _ r Try.underlying92
  go_enter Try.func50, Try.ntmps50
  go_wp2
  go_ret
  exact ⟨rfl, rfl⟩
theorem made_nil (w : World) :
    Calls Try.prog 50 #[.pointer none] w fun e w' => e = .returned (.bool false) ∧ w = w' := by
  go_enter Try.func50, Try.ntmps50
  go_wp2
  go_ret
  exact ⟨rfl, rfl⟩
theorem len_calls (base b mb : Nat) (X : Nat → Prop) (ds : List Row) (w : World) (h : PcAt w base b mb X ds) :
    Calls Try.prog 38 #[.pointer (some ⟨b, 0, none⟩)] w fun e w' => e = .returned (.int .i64 ds.length) ∧ w = w' := by
  obtain ⟨m, hm, hR⟩ := h.map
  have g0 : w.cell? ⟨b, 0, none⟩ = some (.map (some mb)) := h.ob.cell (j := 0) rfl
  have hl := fun ty => hm.len (tm := 92) Try.underlying92 ty
  rw [hR.length] at hl
  have cM := Lib.hid (made_calls b mb w g0)
  clear hR hm h
  go_enter Try.func38, Try.ntmps38
  go_wp2_with fail
  refine cM.out.mono ?_
  rintro e W ⟨rfl, rfl⟩
  go_wp2
  go_ret
  exact ⟨rfl, rfl⟩

/-- lists that fit -/
theorem fits_of {l : List It.Item} (h : M l) : Fits l := fun x hx => by
  have h1 := h.ok x hx
  have h2 := h1.1
  unfold good at h2
  simp only [Bool.and_eq_true, decide_eq_true_eq] at h2
  refine ⟨Nat.le_trans h2.2 (by unfold maxLen; omega), by omega, by omega⟩

set_option maxRecDepth 100000 in
theorem within_calls (all a b : List It.Item) (v va vb : Value) (w : World) (h : ItemsAt w 0 w.heap.size v all) (ha : ItemsAt w 0 w.heap.size va a) (hb : ItemsAt w 0 w.heap.size vb b) (hF : Fits all) (hFa : Fits a) (hFb : Fits b) (hFp : (plusOf a b).2 = 0 → Fits (plusOf a b).1) :
    Calls Try.prog 52 #[v, va, vb] w fun e w' =>
      (∃ v, e = .returned (.tuple #[v, .int .i64 (withinOf all a b).2]) ∧ w'.ownsRow w.heap.size 36 2 v (withinOf all a b).1.length (itemCells (withinOf all a b).1)) ∧ Below w.heap.size w w' := by
  have cP := Lib.hid (plus_calls a b va vb w ha hb hFa hFb)
  have cC := Lib.hid (fun W vs hz hI hJ => covers_calls all (plusOf a b).1 v vs W hI hJ hF (hFp hz))
  have HI := Lib.hid h
  have HW := Lib.hid (show withinOf all a b = if (plusOf a b).2 = 0 ∧ covers all (plusOf a b).1 = true then ((plusOf a b).1, 0) else ([], 50) from rfl)
  generalize withinOf all a b = R at *
  generalize plusOf a b = S at *
  obtain ⟨sl, sc⟩ := S
  dsimp only at cP cC HW
  obtain ⟨Av, cv, rfl, -⟩ := h.form
  clear h
  by_cases hc : sc = 0
  · subst hc
    go_enter Try.func52, Try.ntmps52
    go_wp2_with fail
    refine cP.out.mono ?_
    rintro e W ⟨⟨vs, rfl, hs⟩, hb1⟩
    have HS := Lib.hid hs
    obtain ⟨As, cs, rfl, -⟩ := (toAt hs).form
    have cC2 := Lib.hid (cC.out W _ (by trivial) (HI.out.mono hb1 hb1.size) (toAt hs))
    clear hs cC cP
    cases hcv : covers all sl with
    | true =>
      obtain rfl : R = (sl, 0) := by rw [HW.out, hcv]; rfl
      rw [hcv] at cC2
      go_wp2_with fail
      refine cC2.out.mono ?_
      rintro e W2 ⟨rfl, hb2⟩
      go_wp2
      go_ret2
      exact ⟨⟨_, rfl, row_below HS.out hb2⟩, hb1.trans (hb2.mono hb1.size)⟩
    | false =>
      obtain rfl : R = ([], 50) := by rw [HW.out, hcv]; rfl
      rw [hcv] at cC2
      go_wp2_with fail
      refine cC2.out.mono ?_
      rintro e W2 ⟨rfl, hb2⟩
      go_wp2
      go_ret2
      exact ⟨⟨_, rfl, World.ownsRow_nil _ _ _ _⟩, hb1.trans (hb2.mono hb1.size)⟩
  · obtain rfl : R = ([], 50) := by rw [HW.out, if_neg (fun h => hc h.1)]
    have hcb : (sc != 0) = true := by simpa using hc
    go_enter Try.func52, Try.ntmps52
    go_wp2_with fail
    refine cP.out.mono ?_
    rintro e W ⟨⟨vs, rfl, hs⟩, hb1⟩
    obtain ⟨As, cs, rfl, -⟩ := (toAt hs).form
    clear hs
    go_wp2
    go_ret2
    exact ⟨⟨_, rfl, World.ownsRow_nil _ _ _ _⟩, hb1⟩

/-- which row a call works on -/
def rowVal (ds : List Row) (od : Int) (l : List It.Item) (m : List (Int × Value)) : Value := if rowCode ds od l = 0 then (mGet m od).getD zrow else zrow
set_option maxRecDepth 100000 in
set_option maxHeartbeats 1000000 in
theorem row_calls (od : Int) (l : List It.Item) (lv : Value) (b mb : Nat) (m : List (Int × Value)) (ds : List Row) (w : World) (g0 : w.cell? ⟨b, 0, none⟩ = some (.map (some mb))) (hbl : b < w.heap.size) (hm : GMap intK w Try.prog 3 mb m) (hs : (mGet m od).isSome = (findR ds od).isSome)
    (hval : ∃ x0 A1 n1 c1 A2 n2 c2 A3 n3 c3 x4, (mGet m od).getD zrow = .agg #[.int .i64 x0, .slice A1 n1 c1, .slice A2 n2 c2, .slice A3 n3 c3, .map x4]) (hI : ItemsAt w 0 w.heap.size lv l) (hF : Fits l) (h0 : -9223372036854775808 ≤ od) (h1 : od ≤ 9223372036854775807) :
    Calls Try.prog 51 #[.pointer (some ⟨b, 0, none⟩), .int .i64 od, lv] w fun e w' => e = .returned (.tuple #[rowVal ds od l m, .int .i64 (rowCode ds od l)]) ∧ Below w.heap.size w w' := by
  obtain ⟨x0, A1, n1, c1, A2, n2, c2, A3, n3, c3, x4, hg⟩ := hval
  have hmb := hm.lt
  have hkey := Lib.hid (keyI h0 h1)
  have hal0 := (Below.refl w.heap.size w).alloc (Nat.le_refl _) (.cells #[.int .i64 0, .slice none 0 0, .slice none 0 0, .slice none 0 0, .map none] 96)
  have hal := hal0.alloc hal0.size (.cells #[.int .i64 x0, .slice A1 n1 c1, .slice A2 n2 c2, .slice A3 n3 c3, .map x4] 96)
  have cM := Lib.hid (made_calls b mb _ ((hal0.cell (p := ⟨b, 0, none⟩) hbl).trans g0))
  have HM := Lib.hid (hm.below hal0 hmb)
  have cMay := Lib.hid (may_calls l lv _ (hI.mono hal hal.size) hF)
  have HG := Lib.hid hg
  have HS := Lib.hid hs
  have HC := Lib.hid (show rowCode ds od l = if (findR ds od).isSome then (if may l then 0 else 60) else 4 from rfl)
  have HV := Lib.hid (show rowVal ds od l m = if rowCode ds od l = 0 then (mGet m od).getD zrow else zrow from rfl)
  generalize rowVal ds od l m = RV at *
  generalize rowCode ds od l = RC at *
  generalize (findR ds od).isSome = kn at *
  have hO1 := (Ob.new w 96 #[.int .i64 0, .slice none 0 0, .slice none 0 0, .slice none 0 0, .map none]).alloc (.cells #[.int .i64 x0, .slice A1 n1 c1, .slice A2 n2 c2, .slice A3 n3 c3, .map x4] 96)
  have hO2 := Ob.new (w.alloc (.cells #[.int .i64 0, .slice none 0 0, .slice none 0 0, .slice none 0 0, .map none] 96)) 96 #[.int .i64 x0, .slice A1 n1 c1, .slice A2 n2 c2, .slice A3 n3 c3, .map x4]
  rw [World.size_alloc] at hO2
  obtain ⟨Al, cl, rfl, -⟩ := hI.form
  clear hg hs hI hm
  cases kn with
  | false =>
    obtain rfl : RC = 4 := by rw [HC.out]; rfl
    obtain rfl : RV = zrow := by rw [HV.out]; rfl
    go_enter Try.func51, Try.ntmps51
    go_wp2_with (first
      | (go_at_call 50; refine cM.out.mono ?_; rintro e W ⟨rfl, rfl⟩)
      | (at_lookup; refine wpList_look_ok_g rfl (.tmp 18) (.tmp 19) _ rfl 3 _ keyedI Try.underlying92 rfl HM.out (zeroR _) _ _ rfl hkey.out _ _ HG.out HS.out ?_))
    obtain ⟨q0, q1, q2, q3, q4⟩ := hO1.five
    refine bodyPost_ret (v := .tuple #[zrow, .int .i64 4]) ?_ rfl ⟨rfl, hal⟩
    simp [results, Try.f51, go_sem, q0, q1, q2, q3, q4, zrow]
  | true =>
    cases hml : may l with
    | false =>
      rw [hml] at cMay
      obtain rfl : RC = 60 := by rw [HC.out, hml]; rfl
      obtain rfl : RV = zrow := by rw [HV.out]; rfl
      clear hml
      go_enter Try.func51, Try.ntmps51
      go_wp2_with (first
        | (go_at_call 50; refine cM.out.mono ?_; rintro e W ⟨rfl, rfl⟩)
        | (at_lookup; refine wpList_look_ok_g rfl (.tmp 18) (.tmp 19) _ rfl 3 _ keyedI Try.underlying92 rfl HM.out (zeroR _) _ _ rfl hkey.out _ _ HG.out HS.out ?_))
      refine cMay.out.mono ?_
      rintro e W ⟨rfl, hb1⟩
      replace hO1 := hO1.same hb1
      have hB := hal.trans (hb1.mono hal.size)
      obtain ⟨q0, q1, q2, q3, q4⟩ := hO1.five
      obtain ⟨f0, f1, f2, f3, f4⟩ := hO1.free5
      clear hal hal0 cM HM HG hO2
      go_wp2
      have hO3 := hO1.set5 (.int .i64 0) (.slice none 0 0) (.slice none 0 0) (.slice none 0 0) (.map none)
      obtain ⟨p0, p1, p2, p3, p4⟩ := hO3.five
      have hB2 := hB.grown (grown_set5 W w.heap.size (.int .i64 0) (.slice none 0 0) (.slice none 0 0) (.slice none 0 0) (.map none)) (by have := hB.size; omega) (fun g e => by have := Option.some.inj e; omega)
      refine bodyPost_ret (v := .tuple #[zrow, .int .i64 60]) ?_ rfl ⟨rfl, hB2⟩
      simp [results, Try.f51, go_sem, p0, p1, p2, p3, p4, zrow]
    | true =>
      rw [hml] at cMay
      obtain rfl : RC = 0 := by rw [HC.out, hml]; rfl
      obtain rfl : RV = .agg #[.int .i64 x0, .slice A1 n1 c1, .slice A2 n2 c2, .slice A3 n3 c3, .map x4] := by rw [HV.out]; exact HG.out
      clear hml
      go_enter Try.func51, Try.ntmps51
      go_wp2_with (first
        | (go_at_call 50; refine cM.out.mono ?_; rintro e W ⟨rfl, rfl⟩)
        | (at_lookup; refine wpList_look_ok_g rfl (.tmp 18) (.tmp 19) _ rfl 3 _ keyedI Try.underlying92 rfl HM.out (zeroR _) _ _ rfl hkey.out _ _ HG.out HS.out ?_))
      refine cMay.out.mono ?_
      rintro e W ⟨rfl, hb1⟩
      replace hO1 := hO1.same hb1
      replace hO2 := hO2.same hb1
      have hB := hal.trans (hb1.mono hal.size)
      obtain ⟨q0, q1, q2, q3, q4⟩ := hO2.five
      obtain ⟨r0, r1, r2, r3, r4⟩ := hO1.five
      obtain ⟨f0, f1, f2, f3, f4⟩ := hO1.free5
      clear hal hal0 cM HM HG
      go_wp2
      have hO3 := hO1.set5 (.int .i64 x0) (.slice A1 n1 c1) (.slice A2 n2 c2) (.slice A3 n3 c3) (.map x4)
      obtain ⟨p0, p1, p2, p3, p4⟩ := hO3.five
      have hB2 := hB.grown (grown_set5 W w.heap.size (.int .i64 x0) (.slice A1 n1 c1) (.slice A2 n2 c2) (.slice A3 n3 c3) (.map x4)) (by have := hB.size; omega) (fun g e => by have := Option.some.inj e; omega)
      refine bodyPost_ret (v := .tuple #[.agg #[.int .i64 x0, .slice A1 n1 c1, .slice A2 n2 c2, .slice A3 n3 c3, .map x4], .int .i64 0]) ?_ rfl ⟨rfl, hB2⟩
      simp [results, Try.f51, go_sem, p0, p1, p2, p3, p4]
end Pc
end Go.Proofs.Ytdbkkldgobkjcaa
