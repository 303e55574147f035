/-
  sagas played: Begin, whose steps are a slice of its own.
-/
import Derived.Test.YthfpfomifebpbaaPz6
import Derived.Test.YthfpfomifebpbaaSs6
import Derived.Test.YthfpfomifebpbaaSs4

set_option linter.unusedVariables false
set_option linter.unusedSimpArgs false
namespace Go.Proofs.Ythfpfomifebpbaa
open Go.RowKit Go.Maps
namespace Sa
open It
set_option linter.unusedSimpArgs false

/-- a saga, steps in an array of their own, an error -/
def RetB (lo : Nat) (w' : World) (e : Ending) : Except Int (Saga × List Step) → Prop
  | .error x => e = .returned (.tuple #[.agg (sagaC saga0 nilS nilS nilS), nilS, .int .i64 x])
  | .ok y => ∃ vw vg vp vl, e = .returned (.tuple #[.agg (sagaC y.1 vw vg vp), vl, .int .i64 0]) ∧ ∃ g xv x, vl = .slice (some ⟨g, 0, none⟩) 1 1 ∧ y.2 = [x] ∧ lo ≤ g ∧ Ob w' g 52 #[.int .i64 x.kind, .int .i64 x.region, xv, .int .i64 x.state] ∧ Parts w' lo g y.1 vw vg vp ∧ ItemsAt w' lo g xv x.items
set_option maxRecDepth 100000 in
set_option maxHeartbeats 4000000 in
theorem begin_fresh (order first regions : Int) (want : List It.Item) (waits : Bool) (vw : Value) (w : World) (hw : ItemsAt w 0 w.heap.size vw want) (hF : Fits want) (hl : want.length ≤ 1000000) :
    Calls Try.prog 10 #[.int .i64 order, .int .i64 first, .int .i64 regions, vw, .bool waits] w fun e w' => RetB w.heap.size w' e (beginS order first regions want waits) ∧ Below w.heap.size w w' := by
  have hmx : Try.prog.follows .mixedOrders = true := by kernel_rfl
  obtain ⟨i0, hi0, hz0⟩ := Option.map_eq_some_iff.1 list_info
  simp only [Prod.mk.injEq] at hz0
  obtain ⟨hz0, hz1, hz2⟩ := hz0
  have HW := Lib.hid (fun W (hb : Below w.heap.size w W) => hw.mono hb hb.size)
  obtain ⟨A, c, rfl, -⟩ := hw.form
  clear hw
  have hal := (Below.refl w.heap.size w).alloc (Nat.le_refl _) (.cells #[.int .i64 0, .int .i64 0, .int .i64 0, .slice none 0 0, .bool false, .int .i64 0, .int .i64 0, .slice none 0 0, .slice none 0 0, .bool false] 27)
  have hoR := Ob.new w 27 #[.int .i64 0, .int .i64 0, .int .i64 0, .slice none 0 0, .bool false, .int .i64 0, .int .i64 0, .slice none 0 0, .slice none 0 0, .bool false]
  have hza : (w.alloc (.cells #[.int .i64 0, .int .i64 0, .int .i64 0, .slice none 0 0, .bool false, .int .i64 0, .int .i64 0, .slice none 0 0, .slice none 0 0, .bool false] 27)).heap.size = w.heap.size + 1 := World.size_alloc _ _
  have cV := Lib.hid (fun W => visit_calls first regions W)
  unfold beginS
  by_cases hv : (visit first regions).length = 0
  · rw [if_pos hv]
    rw [hv] at cV
    clear hv
    go_enter Try.func10, Try.ntmps10
    go_wp2_with fail
    refine (cV.out _).mono ?_
    rintro e W1 ⟨⟨v1, rfl, hv1⟩, hb1⟩
    obtain ⟨A1, c1, rfl, -⟩ := (Sl.of_own hv1).at_
    have hoR1 := hoR.same hb1
    have hB1 := hal.trans (hb1.mono hal.size)
    go_wp2_with (refine wpList_store_ob (cells := #[.int .i64 0, .int .i64 0, .int .i64 0, .slice none 0 0, .bool false, .int .i64 0, .int .i64 0, .slice none 0 0, .slice none 0 0, .bool false]) rfl 27 (.tmp 10) (.tmp 19) rfl rfl rfl hoR1 rfl (by kernel_rfl) (by simp [Value.oneCell']) ?_; intro W8 ho8 hg8)
    have hBf := hB1.grown hg8 (by have := hB1.size; omega) (fun g e => by have e2 : w.heap.size = g := Option.some.inj e; omega)
    obtain ⟨p0, p1, p2, p3, p4, p5, p6, p7, p8, p9⟩ := ob_ten ho8
    refine bodyPost_ret (v := .tuple #[.agg (sagaC saga0 nilS nilS nilS), nilS, .int .i64 1]) ?_ rfl ⟨rfl, hBf⟩
    simp [results, Try.f10, go_sem, sagaC, saga0, nilS, p0, p1, p2, p3, p4, p5, p6, p7, p8, p9]
  · rw [if_neg hv]
    have hd : decide (((visit first regions).length : Int) = 0) = false := decide_eq_false (by omega)
    have hd2 : (((visit first regions).length : Int) == 0) = false := by rw [beq_eq_false_iff_ne]; omega
    have hr : ¬ (regions < 1 ∨ 8 < regions ∨ first < 0 ∨ regions ≤ first) := fun hb => hv (by rw [visit_none hb]; rfl)
    obtain ⟨n, hn⟩ : ∃ n : Nat, regions = n := ⟨regions.toNat, by omega⟩
    have hn1 : 1 ≤ n ∧ n ≤ 8 := by omega
    unfold saga1
    rw [hn] at cV hd hd2 ⊢
    rw [Int.toNat_natCast]
    generalize hvs : visit first (n : Int) = vs at cV hd hd2
    clear hvs hv hr hn
    go_enter Try.func10, Try.ntmps10
    go_wp2_with fail
    refine (cV.out _).mono ?_
    rintro e W1 ⟨⟨v1, rfl, hv1⟩, hb1⟩
    obtain ⟨A1, c1, rfl, -⟩ := (Sl.of_own hv1).at_
    have hoR1 := hoR.same hb1
    have hB1 := hal.trans (hb1.mono hal.size)
    have cC := Lib.hid (clonei_calls want _ W1 (HW.out _ hB1) hl)
    have hs1 : w.heap.size + 1 ≤ W1.heap.size := hoR1.lt
    clear hv1 hoR hal hb1 cV
    go_wp2_with fail
    refine cC.out.mono ?_
    rintro e W2 ⟨⟨v2, rfl, hv2⟩, hb2⟩
    have hoR2 := hoR1.same hb2
    have hB2 := hB1.trans (hb2.mono hB1.size)
    obtain ⟨A2, c2, rfl, -⟩ := (ItemsAt.of_own hv2).form
    clear hoR1 hB1 cC hb2
    obtain ⟨s0, hs0⟩ : ∃ s0 : Saga, s0 = ⟨order, first, n, want, waits, 1, 1, [], [], false⟩ := ⟨_, rfl⟩
    have hC0 : sagaC s0 (.slice A2 want.length c2) nilS nilS = #[.int .i64 order, .int .i64 first, .int .i64 n, .slice A2 want.length c2, .bool waits, .int .i64 1, .int .i64 1, .slice none 0 0, .slice none 0 0, .bool false] := by rw [hs0]; rfl
    have hal3 := (Below.refl W2.heap.size W2).alloc (Nat.le_refl _) (.cells #[.int .i64 order, .int .i64 first, .int .i64 n, .slice A2 want.length c2, .bool waits, .int .i64 1, .int .i64 1, .slice none 0 0, .slice none 0 0, .bool false] 27)
    have ho3 := Ob.new W2 27 #[.int .i64 order, .int .i64 first, .int .i64 n, .slice A2 want.length c2, .bool waits, .int .i64 1, .int .i64 1, .slice none 0 0, .slice none 0 0, .bool false]
    have hv3 := row_later hv2 hal3
    have hoR3 := hoR2.same hal3
    have hlow := fun g e => (hv2.lt g e).2
    have hz3 : (W2.alloc (.cells #[.int .i64 order, .int .i64 first, .int .i64 n, .slice A2 want.length c2, .bool waits, .int .i64 1, .int .i64 1, .slice none 0 0, .slice none 0 0, .bool false] 27)).heap.size = W2.heap.size + 1 := World.size_alloc _ _
    have hB3 := hB2.trans (hal3.mono hB2.size)
    have hs2 := hoR2.lt
    obtain ⟨W4, hmk, hrow4, hgr4⟩ := run_make_full (P := Try.prog) (W2.alloc (.cells #[.int .i64 order, .int .i64 first, .int .i64 n, .slice A2 want.length c2, .bool waits, .int .i64 1, .int .i64 1, .slice none 0 0, .slice none 0 0, .bool false] 27)) (W2.heap.size + 1) 24 22 i0 _ 1 Try.underlying24 hi0 hz0 hz1 .i64 .i64 n (by rw [hz2]; omega) (by unfold maxLen; omega) (by omega)
    have hz34 := hgr4.size
    rw [hz3] at hmk hrow4 hz34
    have ho4 : Ob W4 W2.heap.size 27 (sagaC s0 (.slice A2 want.length c2) nilS nilS) := by rw [hC0]; exact ho3.kept hgr4 (by simp)
    have hrow4' : W4.ownsRow (W2.heap.size + 1) 22 1 (.slice (some ⟨W2.heap.size + 1, 0, none⟩) n n) n (List.replicate n nilS) := by
      rw [← toList_madeCells_one]
      have h := hrow4
      rw [Nat.mul_one] at h
      exact h
    have hv4 : ItemsAt W4 (w.heap.size + 1) W2.heap.size (.slice A2 want.length c2) s0.want := by
      rw [hs0]
      have h2 := hv3.kept hgr4 (by
        cases hq : Value.ownBlock (.slice A2 want.length c2) with
        | none => exact .inl rfl
        | some g => exact .inr (by simp))
      exact (own_sl h2 hlow).wide hs1 (Nat.le_refl _)
    obtain ⟨g7, f7, g8, f8, W6, hW6, ho6, hP6, hb6⟩ := begin_mem n first ho4 hv4 (by omega) hrow4'
    have hB4 : Below w.heap.size w W4 := hB3.grown hgr4 (by omega) (fun g e => by cases e)
    have hoR6 := (hoR3.kept hgr4 (by simp)).below hb6 (by omega)
    have hB6 := Lib.hid (hB4.trans (hb6.mono (by omega)))
    obtain ⟨S, hS⟩ : ∃ S : Saga, S = { s0 with got := List.replicate n [], pending := [first] } := ⟨_, rfl⟩
    rw [← hS] at ho6 hP6
    have hSP : (⟨order, first, n, want, waits, 1, 1, List.replicate n [], [first], false⟩ : Saga) = S := by rw [hS, hs0]
    have hFS : Fit S := by
      rw [hS, hs0]
      refine ⟨hF, fun l hl => ?_⟩
      obtain ⟨-, rfl⟩ := List.mem_replicate.1 hl
      intro x hx
      simp at hx
    have hSw : S.want = want ∧ S.first = first := by rw [hS, hs0]; exact ⟨rfl, rfl⟩
    have HSW := Lib.hid hSw
    have HSP := Lib.hid hSP
    have HO6 := Lib.hid ho6
    have cM := Lib.hid (sagamay_calls S _ _ _ W6 (hP6.wide (Nat.zero_le _) (Nat.le_refl _)) hFS)
    have HP6 := Lib.hid hP6
    have HOR6 := Lib.hid hoR6
    have hs6 := hB6.out.size
    clear hal3 ho3 hv3 hoR3 hlow hB3 hrow4 ho4 hrow4' hv4 hB4 hb6 hs0 ho6 hP6 hoR6 hC0 hv2 hgr4 hSP hSw hFS hS
    go_wp2_with (refine wpList_load_obg (by rfl) _ _ rfl rfl _ HO6.out Try.underlying27 rfl (by kernel_rfl) ?_)
    refine cM.out.mono ?_
    rintro e W7 ⟨rfl, hb7⟩
    have hoR7 := HOR6.out.same hb7
    have hB7 := hB6.out.trans (hb7.mono hs6)
    have hs7 := hoR7.lt
    generalize hm : mayS S = m
    have HM := Lib.hid hm
    clear hm
    cases m with
    | false =>
      go_wp2_with (refine wpList_store_ob (cells := #[.int .i64 0, .int .i64 0, .int .i64 0, .slice none 0 0, .bool false, .int .i64 0, .int .i64 0, .slice none 0 0, .slice none 0 0, .bool false]) rfl 27 (.tmp 10) (.tmp 36) rfl rfl rfl hoR7 rfl (by kernel_rfl) (by simp [Value.oneCell']) ?_; intro W8 ho8 hg8)
      have hBf := hB7.grown hg8 (by omega) (fun g e => by have e2 : w.heap.size = g := Option.some.inj e; omega)
      obtain ⟨p0, p1, p2, p3, p4, p5, p6, p7, p8, p9⟩ := ob_ten ho8
      refine bodyPost_ret (v := .tuple #[.agg (sagaC saga0 nilS nilS nilS), nilS, .int .i64 1]) ?_ rfl ⟨by rw [HSP.out]; unfold beginU; rw [HM.out]; exact rfl, hBf⟩
      simp [results, Try.f10, go_sem, sagaC, saga0, nilS, p0, p1, p2, p3, p4, p5, p6, p7, p8, p9]
    | true =>
      have hob70 := HO6.out.same hb7
      have hob7 : Ob W7.drew W2.heap.size 27 (sagaC S (.slice A2 want.length c2) (.slice (some ⟨W2.heap.size + 1, 0, none⟩) n n) (.slice (some ⟨W4.heap.size, 0, none⟩) 1 1)) := hob70
      clear hob70
      have hP7 : Parts W7.drew _ W7.drew.heap.size S _ _ _ := (HP6.out.mono hb7 hb7.size).mono ((Below.refl W7.heap.size W7).drew) (Nat.le_refl _)
      have hoR7 : Ob W7.drew w.heap.size 27 _ := hoR7
      have hB7 := hB7.drew
      have cK := Lib.hid (clonei_calls want _ W7.drew (HW.out _ hB7) hl)
      have hlt7 := hob7.lt
      clear HO6 HP6 HOR6 cM hb7
      go_wp2
      refine Pt.regionT (.look 0 (.look 1 (.look 2 (.make 3 (.look 4 (.fork 5 (.make 6 (.look 7 (.look 8 .nil))) 6 (.make 5 (.look 7 (.look 8 .nil))))))))) (fun V => Ob V W2.heap.size 27 (sagaC S (.slice A2 want.length c2) (.slice (some ⟨W2.heap.size + 1, 0, none⟩) n n) (.slice (some ⟨W4.heap.size, 0, none⟩) 1 1))) hmx (by kernel_rfl) (by kernel_rfl) (by kernel_rfl) hob7 rfl ?_
      simp only [Pt.named, List.getElem?_toArray, List.getElem?_cons_succ, List.getElem?_cons_zero, Option.map_some]
      iterate 3 (
        apply Pt.WalkT.on (by rfl)
        · intro V hV
          go_wp2_with (refine wpList_load_obg (by rfl) _ _ rfl rfl _ hV Try.underlying27 rfl (by kernel_rfl) ?_)
          refine ⟨rfl, ?_, rfl⟩
          try simp only [Act.put, List.setIfInBounds_toArray, List.set_cons_succ, List.set_cons_zero]
          rfl
        simp only [Act.put, List.setIfInBounds_toArray, List.set_cons_succ, List.set_cons_zero])
      refine Pt.WalkT.make (by rfl) ?_
      rintro W rfl
      go_wp2_with (go_at_call 29; refine cK.out.mono ?_; rintro e W8 ⟨⟨v8, rfl, hv8⟩, hb8⟩)
      have hob8 := hob7.same hb8
      have hP8 := hP7.mono hb8 hb8.size
      have hoR8 := hoR7.same hb8
      have hB8 := hB7.trans (hb8.mono hB7.size)
      have hs7' : w.heap.size + 1 ≤ W7.drew.heap.size := hs7
      have hs8 := hb8.size
      have hv8 := (ItemsAt.of_own hv8).wide hs7' (Nat.le_refl _)
      obtain ⟨A8, c8, rfl, -⟩ := hv8.form
      clear cK
      refine ⟨rfl, .slice A8 want.length c8, _, (fun V => V = W8), ?_, rfl, (fun V h => by rw [h]; exact hob8), (.inr (fun _ h => h)), ?_⟩
      · simp only [Act.put, List.setIfInBounds_toArray, List.set_cons_succ, List.set_cons_zero]
      simp only [Act.put, List.setIfInBounds_toArray, List.set_cons_succ, List.set_cons_zero]
      iterate 1 (
        apply Pt.WalkT.on (by rfl)
        · intro V hV
          go_wp2_with fail
          refine ⟨rfl, ?_, rfl⟩
          try simp only [Act.put, List.setIfInBounds_toArray, List.set_cons_succ, List.set_cons_zero]
          rfl
        simp only [Act.put, List.setIfInBounds_toArray, List.set_cons_succ, List.set_cons_zero])
      refine Pt.WalkT.fork (by rfl) (by rfl) ?_ ?_
      · intro W hWJ
        cases hWJ.symm
        have hst := StepsAt.one' (w := W8) (x := ⟨3, first, want, 0⟩) hv8 (Nat.le_refl _) (by omega)
        have hal9 := (Below.refl W8.heap.size W8).alloc (Nat.le_refl _) (.cells #[.int .i64 3, .int .i64 first, .slice A8 want.length c8, .int .i64 0] 52)
        have hob9 := hob8.same hal9
        have hP9 := hP8.mono hal9 hal9.size
        have hz9 : (W8.alloc (.cells #[.int .i64 3, .int .i64 first, .slice A8 want.length c8, .int .i64 0] 52)).heap.size = W8.heap.size + 1 := World.size_alloc _ _
        have hoR9 := hoR8.same hal9
        have hB9 := hB8.trans (hal9.mono hB8.size)
        go_wp2_with fail
        refine ⟨rfl, .slice (some ⟨W8.heap.size, 0, none⟩) 1 1, _, (fun V => V = _), ?_, rfl, (fun V h => by rw [h]; exact hob9), (.inr (fun _ h => h)), ?_⟩
        · simp only [Act.put, List.setIfInBounds_toArray, List.set_cons_succ, List.set_cons_zero]
        simp only [Act.put, List.setIfInBounds_toArray, List.set_cons_succ, List.set_cons_zero]
        refine Pt.WalkT.make (by rfl) ?_
        intro W hWJ
        subst hWJ
        go_wp2_with (refine wpList_store_ob (cells := (sagaC S (.slice A2 want.length c2) (.slice (some ⟨W2.heap.size + 1, 0, none⟩) n n) (.slice (some ⟨W4.heap.size, 0, none⟩) 1 1))) rfl 27 (.tmp 10) (.tmp 37) rfl rfl rfl hoR9 rfl (by kernel_rfl) (by simp [sagaC, Value.oneCell']) ?_; intro W10 ho10 hg10)
        have hk10 := Kept.of_grown (Fr := fun i => i < (W8.alloc (.cells #[.int .i64 3, .int .i64 first, .slice A8 want.length c8, .int .i64 0] 52)).heap.size ∧ i ≠ w.heap.size) hg10 fun i hi => ⟨hi.1, fun e => hi.2 (by cases e; rfl)⟩
        have hs10 := hg10.size
        have hob10 := hob9.kept hg10 (by simp; omega)
        have hP10 := (hP9.kept hk10 fun i ha hb => ⟨hb, by omega⟩).wide (show w.heap.size ≤ w.heap.size + 1 by omega) hs10
        have hst10 := (hst.kept hk10 fun i ha hb => ⟨by omega, by omega⟩).wide (show w.heap.size ≤ w.heap.size + 1 by omega) (show W8.heap.size + 1 ≤ W10.heap.size by omega)
        have hB10 := hB9.grown hg10 (by omega) (fun g e => by have e2 : w.heap.size = g := Option.some.inj e; omega)
        refine ⟨rfl, undef, _, (fun V => V = W10), ?_, rfl, (fun V h => by rw [h]; exact hob10), (.inr (fun _ h => h)), ?_⟩
        · simp only [Act.put, List.setIfInBounds_toArray, List.set_cons_succ, List.set_cons_zero]
        simp only [Act.put, List.setIfInBounds_toArray, List.set_cons_succ, List.set_cons_zero]
        iterate 2 (
          apply Pt.WalkT.on (by rfl)
          · intro V hV
            go_wp2_with fail
            refine ⟨rfl, ?_, rfl⟩
            try simp only [Act.put, List.setIfInBounds_toArray, List.set_cons_succ, List.set_cons_zero]
            rfl
          simp only [Act.put, List.setIfInBounds_toArray, List.set_cons_succ, List.set_cons_zero])
        refine Pt.WalkT.nil ?_
        rintro V hVJ
        cases hVJ.symm
        obtain ⟨p0, p1, p2, p3, p4, p5, p6, p7, p8, p9⟩ := ob_ten ho10
        obtain ⟨es, ef⟩ := HSW.out
        go_wp2
        have hk8 : Kept (fun i => i < W8.heap.size ∧ i ≠ w.heap.size) W8 W10 := (Kept.of_below hal9 fun i hi => hi.1).trans (Kept.of_grown hg10 fun i hi => ⟨Nat.lt_of_lt_of_le hi.1 hal9.size, fun e => hi.2 (by cases e; rfl)⟩)
        refine bodyPost_ret (v := .tuple #[.agg (sagaC S (.slice A2 want.length c2) (.slice (some ⟨W2.heap.size + 1, 0, none⟩) n n) (.slice (some ⟨W4.heap.size, 0, none⟩) 1 1)), .slice (some ⟨W8.heap.size, 0, none⟩) 1 1, .int .i64 0]) ?_ rfl ⟨by rw [HSP.out]; unfold beginU; rw [HM.out, es, ef]; exact ⟨_, _, _, _, rfl, W8.heap.size, .slice A8 want.length c8, ⟨3, first, want, 0⟩, rfl, rfl, by omega, (Ob.new W8 52 _).kept hg10 (fun e => by have e2 : W8.heap.size = w.heap.size := Option.some.inj e; omega), (hP8.kept hk8 fun i ha hb => ⟨hb, by omega⟩).wide (show w.heap.size ≤ w.heap.size + 1 by omega) (Nat.le_refl _), ItemsAt.wide (hk8.sl hv8 fun i ha hb => ⟨hb, by omega⟩) (show w.heap.size ≤ w.heap.size + 1 by omega) (Nat.le_refl _)⟩, hB10⟩
        simp [results, Try.f10, go_sem, sagaC, p0, p1, p2, p3, p4, p5, p6, p7, p8, p9]
      · intro W hWJ
        cases hWJ.symm
        go_wp2_with (refine wpList_store_ob (cells := (sagaC S (.slice A2 want.length c2) (.slice (some ⟨W2.heap.size + 1, 0, none⟩) n n) (.slice (some ⟨W4.heap.size, 0, none⟩) 1 1))) rfl 27 (.tmp 10) (.tmp 37) rfl rfl rfl hoR8 rfl (by kernel_rfl) (by simp [sagaC, Value.oneCell']) ?_; intro W9 ho9 hg9)
        have hk9 := Kept.of_grown (Fr := fun i => i < W8.heap.size ∧ i ≠ w.heap.size) hg9 fun i hi => ⟨hi.1, fun e => hi.2 (by cases e; rfl)⟩
        have hs9 := hg9.size
        have hob9 := hob8.kept hg9 (by simp; omega)
        have hP9 := (hP8.kept hk9 fun i ha hb => ⟨hb, by omega⟩).wide (show w.heap.size ≤ w.heap.size + 1 by omega) hs9
        have hv9 := ItemsAt.wide (hk9.sl hv8 fun i ha hb => ⟨hb, by omega⟩) (show w.heap.size ≤ w.heap.size + 1 by omega) hs9
        have hB9 := hB8.grown hg9 (by omega) (fun g e => by have e2 : w.heap.size = g := Option.some.inj e; omega)
        refine ⟨rfl, undef, _, (fun V => V = W9), ?_, rfl, (fun V h => by rw [h]; exact hob9), (.inr (fun _ h => h)), ?_⟩
        · simp only [Act.put, List.setIfInBounds_toArray, List.set_cons_succ, List.set_cons_zero]
        simp only [Act.put, List.setIfInBounds_toArray, List.set_cons_succ, List.set_cons_zero]
        refine Pt.WalkT.make (by rfl) ?_
        intro W hWJ
        cases hWJ.symm
        have hst0 := StepsAt.one' (w := W9) (x := ⟨3, first, want, 0⟩) hv9 (Nat.le_refl _) (by omega)
        have hst := hst0.wide (Nat.le_refl _) (show W9.heap.size + 1 ≤ (W9.alloc (.cells #[.int .i64 3, .int .i64 first, .slice A8 want.length c8, .int .i64 0] 52)).heap.size by rw [World.size_alloc]; omega)
        clear hst0
        have hal10 := (Below.refl W9.heap.size W9).alloc (Nat.le_refl _) (.cells #[.int .i64 3, .int .i64 first, .slice A8 want.length c8, .int .i64 0] 52)
        have hob10 := hob9.same hal10
        have hP10 := hP9.mono hal10 hal10.size
        have hB10 := hB9.trans (hal10.mono hB9.size)
        have ho10 := ho9.same hal10
        go_wp2_with fail
        refine ⟨rfl, .slice (some ⟨W9.heap.size, 0, none⟩) 1 1, _, (fun V => V = _), ?_, rfl, (fun V h => by rw [h]; exact hob10), (.inr (fun _ h => h)), ?_⟩
        · simp only [Act.put, List.setIfInBounds_toArray, List.set_cons_succ, List.set_cons_zero]
        simp only [Act.put, List.setIfInBounds_toArray, List.set_cons_succ, List.set_cons_zero]
        iterate 2 (
          apply Pt.WalkT.on (by rfl)
          · intro V hV
            go_wp2_with fail
            refine ⟨rfl, ?_, rfl⟩
            try simp only [Act.put, List.setIfInBounds_toArray, List.set_cons_succ, List.set_cons_zero]
            rfl
          simp only [Act.put, List.setIfInBounds_toArray, List.set_cons_succ, List.set_cons_zero])
        refine Pt.WalkT.nil ?_
        rintro V hVJ
        cases hVJ.symm
        obtain ⟨p0, p1, p2, p3, p4, p5, p6, p7, p8, p9⟩ := ob_ten ho10
        obtain ⟨es, ef⟩ := HSW.out
        go_wp2
        have hk8 : Kept (fun i => i < W8.heap.size ∧ i ≠ w.heap.size) W8 (W9.alloc (.cells #[.int .i64 3, .int .i64 first, .slice A8 want.length c8, .int .i64 0] 52)) := hk9.trans (Kept.of_below hal10 fun i hi => Nat.lt_of_lt_of_le hi.1 hs9)
        refine bodyPost_ret (v := .tuple #[.agg (sagaC S (.slice A2 want.length c2) (.slice (some ⟨W2.heap.size + 1, 0, none⟩) n n) (.slice (some ⟨W4.heap.size, 0, none⟩) 1 1)), .slice (some ⟨W9.heap.size, 0, none⟩) 1 1, .int .i64 0]) ?_ rfl ⟨by rw [HSP.out]; unfold beginU; rw [HM.out, es, ef]; exact ⟨_, _, _, _, rfl, W9.heap.size, .slice A8 want.length c8, ⟨3, first, want, 0⟩, rfl, rfl, by omega, Ob.new W9 52 _, (hP8.kept hk8 fun i ha hb => ⟨hb, by omega⟩).wide (show w.heap.size ≤ w.heap.size + 1 by omega) hs9, ItemsAt.wide (hk8.sl hv8 fun i ha hb => ⟨hb, by omega⟩) (show w.heap.size ≤ w.heap.size + 1 by omega) hs9⟩, hB10⟩
        simp [results, Try.f10, go_sem, sagaC, p0, p1, p2, p3, p4, p5, p6, p7, p8, p9]
end Sa
end Go.Proofs.Ythfpfomifebpbaa
