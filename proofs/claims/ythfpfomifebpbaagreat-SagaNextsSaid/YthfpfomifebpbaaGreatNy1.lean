/-
  saga: the law SagaNexts.
  the row SagaNexts: for every input the call returns true, and the arguments read as they did.
-/
import Derived.Test.YthfpfomifebpbaaGreatNz11
import Derived.Test.YthfpfomifebpbaaGreatNz12

set_option linter.unusedVariables false
set_option linter.unusedSimpArgs false
namespace Go.Proofs.YthfpfomifebpbaaGreat
open Go.RowKit Go.Maps
namespace Sa
open It
set_option linter.unusedSimpArgs false

theorem out_fit {s : Saga} {ev : Ev} {r : Except Int (Saga × List Step)} (_ : Fit s) (_ : Fits ev.items) (h : nextS s ev = r) : Fit (outS r) := by
  cases r with
  | error z => exact ⟨fun x hx => by simp [outS, saga0] at hx, fun l hl => by simp [outS, saga0] at hl⟩
  | ok u =>
    have hm := (next_may h).2
    obtain ⟨h1, h2, -⟩ := mayS_M hm
    exact ⟨h1.fits, fun l hl => (h2 l hl).fits⟩

set_option maxRecDepth 100000 in
set_option maxHeartbeats 8000000 in
theorem nexts_law (s : Saga) (ev : Ev) (vw vg vp ve : Value) (w : World) (h : Parts w 0 w.heap.size s vw vg vp) (hF : Fit s) (hv : ItemsAt w 0 w.heap.size ve ev.items) (hFe : Fits ev.items) :
    Calls Tryz.prog 3 #[.agg (sagaC s vw vg vp), .agg (evC ev ve)] w fun e w' => e = .returned (.bool true) ∧ Below w.heap.size w w' := by
  have hmx : Tryz.prog.follows .mixedOrders = true := by kernel_rfl
  obtain ⟨A1, c1, rfl, -⟩ := h.want.form
  obtain ⟨A2, c2, rfl, -⟩ := h.got.form
  obtain ⟨A3, c3, rfl, -⟩ := h.pend.form
  obtain ⟨A4, c4, rfl, -⟩ := hv.form
  obtain ⟨sc, hsc⟩ : ∃ sc, sc = sagaC s (.slice A1 s.want.length c1) (.slice A2 s.got.length c2) (.slice A3 s.pending.length c3) := ⟨_, rfl⟩
  obtain ⟨ec, hec⟩ : ∃ ec, ec = evC ev (.slice A4 ev.items.length c4) := ⟨_, rfl⟩
  have cS := Lib.hid (fun W (hb : Below w.heap.size w W) => small_calls s _ _ _ W (h.later hb))
  have cN := Lib.hid (fun W (hb : Below w.heap.size w W) => next_calls s _ _ _ ev _ W (h.later hb) hF (hv.mono hb hb.size) hFe)
  have cL := Lib.hid (fun W => lives_calls W)
  have cMp := Lib.hid (fun W (hb : Below w.heap.size w W) => sagamay_calls s _ _ _ W (h.later hb) hF)
  have cMr := Lib.hid (fun W (hb : Below w.heap.size w W) => refmay15_calls s _ _ _ W (h.later hb) hF)
  have HPP := Lib.hid (fun W (hb : Below w.heap.size w W) => h.later hb)
  have HVV := Lib.hid (fun W (hb : Below w.heap.size w W) => hv.mono hb hb.size)
  have HSC := Lib.hid hsc
  have HEC := Lib.hid hec
  rw [← hsc] at cS cN cMp cMr
  rw [← hec] at cN
  rw [← hsc, ← hec]
  have ha1 := (Below.refl w.heap.size w).alloc (Nat.le_refl _) (.cells sc 26)
  have ha2 := ha1.alloc ha1.size (.cells ec 28)
  have o1 := (Ob.new w 26 sc).alloc (.cells ec 28)
  have o2 := Ob.new (w.alloc (.cells sc 26)) 28 ec
  rw [World.size_alloc] at o2
  have hs1 : sc.size = 10 := by rw [hsc]; rfl
  have he1 : ec.size = 3 := by rw [hec]; rfl
  have he2 : (w.alloc (.cells sc 26)).alloc (.cells ec 28) = (w.alloc (.cells sc 26)).alloc (.cells ec 28) := rfl
  have HEV := Lib.hid (show ∀ V, Ob V (w.heap.size + 1) 28 ec → V.cell? ⟨w.heap.size + 1, 2, none⟩ = some (.slice A4 ev.items.length c4) from fun V hV => by rw [hec] at hV; exact hV.cell rfl)
  clear h hv hsc hec ha1 he2
  go_enter Tryz.func3, Tryz.ntmps3
  go_wp2_with (refine wpList_load_obg (by rfl) _ _ rfl rfl _ o1 Tryz.underlying26 rfl (by rw [hs1]; kernel_rfl) ?_)
  generalize (w.alloc (.cells sc 26)).alloc (.cells ec 28) = W0 at *
  have hz0 := o2.lt
  refine (cS.out _ ha2).mono ?_
  rintro e W1 ⟨rfl, hb1⟩
  have o1 := o1.same hb1
  have o2 := o2.same hb1
  have hB1 := ha2.trans (hb1.mono ha2.size)
  have hs1' := hb1.size
  have hev := HEV.out W1 o2
  clear ha2 hb1 cS
  generalize hsm : smallS s = sm
  have HSM := Lib.hid hsm
  clear hsm
  cases sm with
  | false =>
    go_wp2_with fail
    refine (cL.out _).mono ?_
    rintro e W2 ⟨rfl, hb2⟩
    go_wp2
    go_ret
    exact ⟨rfl, hB1.trans (hb2.mono hB1.size)⟩
  | true =>
  by_cases hil : ev.items.length ≤ 50
  rotate_left
  · have di : decide ((ev.items.length : Int) > 50) = true := decide_eq_true (by omega)
    clear hil
    go_wp2_with fail
    refine (cL.out _).mono ?_
    rintro e W2 ⟨rfl, hb2⟩
    go_wp2
    go_ret
    exact ⟨rfl, hB1.trans (hb2.mono hB1.size)⟩
  have di : decide ((ev.items.length : Int) > 50) = false := decide_eq_false (by omega)
  have HIL := Lib.hid hil
  clear hil
  go_wp2_with (first
    | (refine wpList_load_obg (by rfl) _ _ rfl rfl _ o1 Tryz.underlying26 rfl (by rw [hs1]; kernel_rfl) ?_)
    | (refine wpList_load_obg (by rfl) _ _ rfl rfl _ o2 Tryz.underlying28 rfl (by rw [he1]; kernel_rfl) ?_))
  refine (cN.out _ hB1).mono ?_
  rintro e W2 ⟨hR, hb2⟩
  have hB2 := hB1.trans (hb2.mono hB1.size)
  have o1 := o1.same hb2
  have o2 := o2.same hb2
  generalize hnx : nextS s ev = r at hR
  have HNX := Lib.hid hnx
  obtain ⟨uw, ug, up, ul, rfl, hP, hS⟩ := hR.all
  clear hnx cN hb2 hR hev
  have HP2 := Lib.hid hP
  have HS2 := Lib.hid hS
  obtain ⟨D1, dl1, rfl, -⟩ := hP.want.form
  obtain ⟨D2, dl2, rfl, -⟩ := hP.got.form
  obtain ⟨D3, dl3, rfl, -⟩ := hP.pend.form
  obtain ⟨D4, dl4, rfl, -⟩ := hS.form
  clear hP hS
  obtain ⟨sd, hsd⟩ : ∃ sd, sd = sagaC (outS r) (.slice D1 (outS r).want.length dl1) (.slice D2 (outS r).got.length dl2) (.slice D3 (outS r).pending.length dl3) := ⟨_, rfl⟩
  rw [← hsd]
  have sd1 : sd.size = 10 := by rw [hsd]; rfl
  have sd2 : sd.all (·.oneCell') = true := by rw [hsd]; simp [sagaC, Value.oneCell']
  have HSD := Lib.hid hsd
  clear hsd
  have hoN := Ob.new W2 26 #[.int .i64 0, .int .i64 0, .int .i64 0, .slice none 0 0, .bool false, .int .i64 0, .int .i64 0, .slice none 0 0, .slice none 0 0, .bool false]
  have hal3 := (Below.refl W2.heap.size W2).alloc (Nat.le_refl _) (.cells #[.int .i64 0, .int .i64 0, .int .i64 0, .slice none 0 0, .bool false, .int .i64 0, .int .i64 0, .slice none 0 0, .slice none 0 0, .bool false] 26)
  have z3 : (W2.alloc (.cells #[.int .i64 0, .int .i64 0, .int .i64 0, .slice none 0 0, .bool false, .int .i64 0, .int .i64 0, .slice none 0 0, .slice none 0 0, .bool false] 26)).heap.size = W2.heap.size + 1 := World.size_alloc _ _
  go_wp2_with (first
    | (refine wpList_store_ob (cells := sd) rfl 26 (.tmp 5) (.tmp 28) rfl rfl rfl hoN sd1 (by rw [sd1]; kernel_rfl) sd2 ?_
       intro W3 ho3 hg3
       have hb3 : Below W2.heap.size W2 W3 := hal3.grown hg3 (by omega) (fun g e => by have e2 : W2.heap.size = g := Option.some.inj e; omega)
       have hB3 := hB2.trans (hb3.mono hB2.size)
       have o1 := o1.same hb3
       have o2 := o2.same hb3
       have cR := Lib.hid (refnext_calls s ev _ _ _ _ W3 (HPP.out _ hB3) (HVV.out _ hB3) hF hFe (by have := HIL.out; omega))
       rw [← HSC.out, ← HEC.out, HNX.out] at cR)
    | (refine wpList_load_obg (by rfl) _ _ rfl rfl _ o1 Tryz.underlying26 rfl (by rw [hs1]; kernel_rfl) ?_)
    | (refine wpList_load_obg (by rfl) _ _ rfl rfl _ o2 Tryz.underlying28 rfl (by rw [he1]; kernel_rfl) ?_))
  refine cR.out.mono ?_
  rintro e W4 ⟨⟨uw, ug, up, ul, rfl, hPr, hSr⟩, hb4⟩
  have ho4 := ho3.same hb4
  have o1 := o1.same hb4
  have hb24 := hb3.trans (hb4.mono hb3.size)
  have hB4 := hB3.trans (hb4.mono hB3.size)
  have hP := hPr.parts
  have hS := hSr.steps
  have HP4 := Lib.hid (HP2.out.later hb24)
  have HS4 := Lib.hid (HS2.out.later hb24)
  have HP4' := Lib.hid hP
  have HS4' := Lib.hid hS
  obtain ⟨E1, el1, rfl, -⟩ := hP.want.form
  obtain ⟨E2, el2, rfl, -⟩ := hP.got.form
  obtain ⟨E3, el3, rfl, -⟩ := hP.pend.form
  obtain ⟨E4, el4, rfl, -⟩ := hS.form
  clear hP hS hPr hSr cR hb3 hb4 hoN hal3 z3 hg3 ho3 hB3 hb24
  obtain ⟨se, hse⟩ : ∃ se, se = sagaC (outS r) (.slice E1 (outS r).want.length el1) (.slice E2 (outS r).got.length el2) (.slice E3 (outS r).pending.length el3) := ⟨_, rfl⟩
  rw [← hse]
  have se1 : se.size = 10 := by rw [hse]; rfl
  have se2 : se.all (·.oneCell') = true := by rw [hse]; simp [sagaC, Value.oneCell']
  have HSE := Lib.hid hse
  clear hse
  have hoN := Ob.new W4 26 #[.int .i64 0, .int .i64 0, .int .i64 0, .slice none 0 0, .bool false, .int .i64 0, .int .i64 0, .slice none 0 0, .slice none 0 0, .bool false]
  have hal3 := (Below.refl W4.heap.size W4).alloc (Nat.le_refl _) (.cells #[.int .i64 0, .int .i64 0, .int .i64 0, .slice none 0 0, .bool false, .int .i64 0, .int .i64 0, .slice none 0 0, .slice none 0 0, .bool false] 26)
  have z3 : (W4.alloc (.cells #[.int .i64 0, .int .i64 0, .int .i64 0, .slice none 0 0, .bool false, .int .i64 0, .int .i64 0, .slice none 0 0, .slice none 0 0, .bool false] 26)).heap.size = W4.heap.size + 1 := World.size_alloc _ _
  go_wp2_with (refine wpList_store_ob (cells := se) rfl 26 (.tmp 8) (.tmp 35) rfl rfl rfl hoN se1 (by rw [se1]; kernel_rfl) se2 ?_
               intro W5 ho5 hg5
               have hb5 : Below W4.heap.size W4 W5 := hal3.grown hg5 (by omega) (fun g e => by have e2 : W4.heap.size = g := Option.some.inj e; omega)
               have hB5 := hB4.trans (hb5.mono hB4.size))
  have o1 := o1.same hb5
  have ho4 := ho4.same hb5
  have hBd := hB5.drew
  have hdr : Below W5.heap.size W5 W5.drew := (Below.refl _ _).drew
  have hb45 := hb5.trans (hdr.mono hb5.size)
  have hQ := Lib.hid (fun V (h : Below W5.drew.heap.size W5.drew V) => show Ob V w.heap.size 26 sc ∧ Ob V W2.heap.size 26 sd ∧ Ob V W4.heap.size 26 se from ⟨(o1.same hdr).same h, (ho4.same hdr).same h, (ho5.same hdr).same h⟩)
  have cSm := Lib.hid (fun V (h : Below W5.drew.heap.size W5.drew V) => refsame15_calls _ _ _ _ _ _ _ _ V (HP4.out.later (hb45.trans (h.mono hb45.size))) (HP4'.out.later (hb45.trans (h.mono hb45.size))))
  have cSt := Lib.hid (fun V (h : Below W5.drew.heap.size W5.drew V) => samesteps_calls _ _ _ _ V (HS4.out.later (hb45.trans (h.mono hb45.size))) (HS4'.out.later (hb45.trans (h.mono hb45.size))))
  have cA := Lib.hid (fun V (h : Below W5.drew.heap.size W5.drew V) => cMp.out V (hBd.trans (h.mono hBd.size)))
  have cB := Lib.hid (fun V (h : Below W5.drew.heap.size W5.drew V) => cMr.out V (hBd.trans (h.mono hBd.size)))
  rw [sameS_iff.2 rfl, ← HSD.out, ← HSE.out] at cSm
  simp only [decide_true] at cSt
  have HPa := Lib.hid (fun V (h : Below W5.drew.heap.size W5.drew V) => HP4.out.later (hb45.trans (h.mono hb45.size)))
  have HFit := Lib.hid (out_fit hF hFe HNX.out)
  generalize mayS s = ms at cA cB
  clear hoN hal3 z3 hg5 cMp cMr hb5
  generalize hoe : outE r = oe
  have HOE := Lib.hid hoe
  clear hoe
  go_wp2
  refine Pu.regionW (fun Wq => Below W5.drew.heap.size W5.drew Wq) hmx (by kernel_rfl) (by kernel_rfl) (Below.refl _ _) rfl ?_
  repeat (first
    | (refine Pu.Walk.off (by rfl) ?_; simp only [Act.put, List.setIfInBounds_toArray, List.set_cons_succ, List.set_cons_zero])
    | (apply Pu.Walk.on (by rfl)
       · intro V1 h1
         obtain ⟨q1, q2, q3⟩ := hQ.out V1 h1
         go_wp2_with (first
           | (refine wpList_load_obg (by rfl) _ _ rfl rfl _ q1 Tryz.underlying26 rfl (by rw [hs1]; kernel_rfl) ?_)
           | (refine wpList_load_obg (by rfl) _ _ rfl rfl _ q2 Tryz.underlying26 rfl (by rw [sd1]; kernel_rfl) ?_)
           | (refine wpList_load_obg (by rfl) _ _ rfl rfl _ q3 Tryz.underlying26 rfl (by rw [se1]; kernel_rfl) ?_)
           | (go_at_call 8; refine (cL.out V1).mono ?_; rintro e V2 ⟨rfl, hb⟩; replace h1 := h1.trans (hb.mono h1.size); clear hb)
           | (go_at_call 11; refine (cSm.out V1 h1).mono ?_; rintro e V2 ⟨rfl, hb⟩; replace h1 := h1.trans (hb.mono h1.size); clear hb)
           | (go_at_call 12; refine (cSt.out V1 h1).mono ?_; rintro e V2 ⟨rfl, hb⟩; replace h1 := h1.trans (hb.mono h1.size); clear hb)
           | (go_at_call 13; refine (cA.out V1 h1).mono ?_; rintro e V2 ⟨rfl, hb⟩; replace h1 := h1.trans (hb.mono h1.size); clear hb)
           | (go_at_call 14; refine (cB.out V1 h1).mono ?_; rintro e V2 ⟨rfl, hb⟩; replace h1 := h1.trans (hb.mono h1.size); clear hb))
         refine ⟨rfl, ?_, h1⟩
         try simp only [Act.put, List.setIfInBounds_toArray, List.set_cons_succ, List.set_cons_zero]
         rfl
       simp only [Act.put, List.setIfInBounds_toArray, List.set_cons_succ, List.set_cons_zero]))
  refine Pu.Walk.nil (fun W6 h6 => ?_)
  have hB6 := hBd.trans (h6.mono hBd.size)
  obtain ⟨o1, ho5, -⟩ := hQ.out W6 h6
  have HPa := Lib.hid (fun V (h : Below W6.heap.size W6 V) => HPa.out V (h6.trans (h.mono h6.size)))
  clear cSm cSt cA cB hQ hBd hdr hb45 ho4 cL hB1 hB2 hB4 hB5
  have hgl : s.got.length ≤ 1000000 := by have := (small_len HSM.out).2; omega
  have cHp := Lib.hid (fun V (hb : Below w.heap.size w V) => holders_calls s _ _ _ V (HPP.out V hb) hgl)
  have cHr := Lib.hid (fun V (hb : Below w.heap.size w V) => refholders_calls s _ _ _ V (HPP.out V hb) hgl)
  rw [← HSC.out] at cHp cHr
  have hHl : (holders s.got).length ≤ 1000000 := by have := holders_len s.got; omega
  generalize holders s.got = H at cHp cHr hHl
  have hB7 := hB6.drew
  have o1d := Ob.drewn o1
  have ho5d := Ob.drewn ho5
  have h6d : Below W6.heap.size W6 W6.drew := (Below.refl _ _).drew
  clear o1 ho5 hB6 h6
  go_wp2
  refine Pt.regionT (.look 0 (.look 2 (.fork 1 (.make 3 (.look 4 (.look 5 .nil))) 3 (.make 1 (.look 4 (.look 5 .nil)))))) (fun V => Ob V w.heap.size 26 sc) hmx (by kernel_rfl) (by kernel_rfl) (by kernel_rfl) o1d rfl ?_
  simp only [Pt.named, List.getElem?_toArray, List.getElem?_cons_succ, List.getElem?_cons_zero, Option.map_some]
  iterate 2 (
    apply Pt.WalkT.on (by rfl)
    · intro V hV
      go_wp2_with (refine wpList_load_obg (by rfl) _ _ rfl rfl _ hV Tryz.underlying26 rfl (by rw [hs1]; kernel_rfl) ?_)
      refine ⟨rfl, ?_, rfl⟩
      try simp only [Act.put, List.setIfInBounds_toArray, List.set_cons_succ, List.set_cons_zero]
      rfl
    simp only [Act.put, List.setIfInBounds_toArray, List.set_cons_succ, List.set_cons_zero])
  generalize W6.drew = W7 at *
  refine Pt.WalkT.fork (by rfl) (by rfl) ?_ ?_
  · skip
    intro W hWJ
    rw [hWJ]
    clear hWJ W
    go_wp2_with (go_at_call 15; refine (cHp.out _ hB7).mono ?_; rintro e W8 ⟨⟨v7, rfl, hv7⟩, hb8⟩)
    have hI7 := IntsAt.of_own hv7
    obtain ⟨A7, c7, rfl, -⟩ := hI7.form
    have hB8 := hB7.trans (hb8.mono hB7.size)
    refine ⟨rfl, .slice A7 H.length c7, _, (fun V => V = W8), ?_, rfl, (fun V h => by rw [h]; exact o1d.same hb8), (.inr (fun _ h => h)), ?_⟩
    · simp only [Act.put, List.setIfInBounds_toArray, List.set_cons_succ, List.set_cons_zero]
    simp only [Act.put, List.setIfInBounds_toArray, List.set_cons_succ, List.set_cons_zero]
    refine Pt.WalkT.make (by rfl) ?_
    intro W hWJ
    cases hWJ.symm
    go_wp2_with (go_at_call 16; refine (cHr.out _ hB8).mono ?_; rintro e V ⟨⟨v8, rfl, hv8⟩, hb9⟩)
    have hI8 := IntsAt.of_own hv8
    obtain ⟨A8, c8, rfl, -⟩ := hI8.form
    refine ⟨rfl, .slice A8 H.length c8, _, (fun W => W = V), ?_, rfl, (fun W h => by rw [h]; exact (o1d.same hb8).same hb9), (.inr (fun _ h => h)), ?_⟩
    · simp only [Act.put, List.setIfInBounds_toArray, List.set_cons_succ, List.set_cons_zero]
    simp only [Act.put, List.setIfInBounds_toArray, List.set_cons_succ, List.set_cons_zero]
    iterate 2 (
      apply Pt.WalkT.on (by rfl)
      · intro V hV
        go_wp2_with fail
        refine ⟨rfl, ?_, rfl⟩
        try simp only [Act.put, List.setIfInBounds_toArray, List.set_cons_succ, List.set_cons_zero]
        rfl
      simp only [Act.put, List.setIfInBounds_toArray, List.set_cons_succ, List.set_cons_zero])
    refine Pt.WalkT.nil ?_
    rintro W hVJ
    cases hVJ.symm
    have hI7 := Sl.wide (Sl.mono hI7 hb9 hb9.size) (Nat.zero_le _) (Nat.le_refl _)
    have hI8 := Sl.wide hI8 (Nat.zero_le _) (Nat.le_refl _)
    have hIa : IntsAt V 0 V.heap.size (.slice A7 H.length c7) H := hI7
    have hIb : IntsAt V 0 V.heap.size (.slice A8 H.length c8) H := hI8
    have hb79 := hb8.trans (hb9.mono hb8.size)
    have hBV := hB8.trans (hb9.mono hB8.size)
    have ho5V := (ho5d.same hb8).same hb9
    have HPa := Lib.hid (fun U (h : Below V.heap.size V U) => HPa.out U ((h6d.trans (hb79.mono h6d.size)).trans (h.mono (h6d.trans (hb79.mono h6d.size)).size)))
    clear hI7 hI8 hv7 hv8 hb8 hb9 hB8 hB7 cHp cHr o1d ho5d
    have HIa := Lib.hid hIa
    have HIb := Lib.hid hIb
    obtain ⟨_, _, e7, hc71, hc72, -⟩ := hIa.form
    cases e7
    obtain ⟨_, _, e8, hc81, hc82, -⟩ := hIb.form
    cases e8
    unfold maxLen at hc72 hc82
    have hln : (((H.length : Nat) : Int) != ((H.length : Nat) : Int)) = false := by simp
    have HBV := Lib.hid hBV
    have HO5 := Lib.hid ho5V
    clear hIa hIb hBV ho5V
    go_wp2
    go_loopw [13] (fun i wr => ∃ k : Nat, k ≤ H.length ∧ i = .int .i64 k ∧ Below V.heap.size V wr) (fun i _ => H.length - (intOf i).toNat)
    case atStart => exact ⟨0, by omega, rfl, Below.refl _ _⟩
    case round =>
      obtain ⟨k, hk, rfl, hbr⟩ := hrel
      have hBr := HBV.out.trans (hbr.mono HBV.out.size)
      by_cases hlt : k < H.length
      · have hd : decide ((k : Int) < (H.length : Int)) = true := decide_eq_true (by omega)
        have hdr : Below wr.heap.size wr wr.drew := (Below.refl _ _).drew
        obtain ⟨p, o, rfl, -, hp, g1⟩ := IntsAt.cellAt (IntsAt.mono HIa.out hbr hbr.size) hlt
        obtain ⟨p', o', rfl, -, hp', g2⟩ := IntsAt.cellAt (IntsAt.mono HIb.out hbr hbr.size) hlt
        generalize H.getD k 0 = y at g1 g2
        have hQ := Lib.hid (fun V1 (h1 : Below wr.drew.heap.size wr.drew V1) => show V1.cell? ⟨p, o + k, none⟩ = some (.int .i64 y) ∧ V1.cell? ⟨p', o' + k, none⟩ = some (.int .i64 y) from
          ⟨(Below.cell (p := ⟨p, o + k, none⟩) h1 hp).trans g1, (Below.cell (p := ⟨p', o' + k, none⟩) h1 hp').trans g2⟩)
        clear g1 g2
        go_wp2
        refine Pu.regionW (fun Wq => Below wr.drew.heap.size wr.drew Wq) hmx (by kernel_rfl) (by kernel_rfl) (Below.refl _ _) rfl ?_
        repeat (first
          | (refine Pu.Walk.off (by rfl) ?_; simp only [Act.put, List.setIfInBounds_toArray, List.set_cons_succ, List.set_cons_zero])
          | (apply Pu.Walk.on (by rfl)
             · intro V1 h1
               obtain ⟨q1, q2⟩ := hQ.out V1 h1
               go_wp2_with fail
               refine ⟨rfl, ?_, h1⟩
               try simp only [Act.put, List.setIfInBounds_toArray, List.set_cons_succ, List.set_cons_zero]
               rfl
             simp only [Act.put, List.setIfInBounds_toArray, List.set_cons_succ, List.set_cons_zero]))
        refine Pu.Walk.nil (fun V1 h1 => ?_)
        have hbr1 : Below V.heap.size V V1 := (hbr.drew).trans (h1.mono hbr.size)
        go_wp2
        go_roundw
        case rel => exact ⟨k + 1, by omega, by go_num, hbr1⟩
        case measure => simp [intOf]; omega
      · obtain rfl : k = H.length := by omega
        have hd : decide ((H.length : Int) < (H.length : Int)) = false := decide_eq_false (by omega)
        have ho5r := HO5.out.same hbr
        cases r with
        | error z =>
          have hoz : z = oe := HOE.out
          have hx0 : oe ≠ 0 := by
            intro e0
            rw [← hoz] at e0
            have hn := HNX.out
            unfold nextS nextU at hn
            split at hn
            · exact happen_err hn e0
            · cases hn
              omega
          have dx : decide (oe = 0) = false := decide_eq_false hx0
          have dx2 : (oe == 0) = false := by rw [beq_eq_false_iff_ne]; exact hx0
          have dx3 : (oe != 0) = true := by simp [bne, dx2]
          clear hx0 hoz
          go_wp2
          go_ret
          exact ⟨rfl, hBr⟩
        | ok u =>
          have cF := Lib.hid (sagamay_calls (outS (.ok u)) _ _ _ wr (HPa.out _ hbr) (HFit.out))
          rw [show mayS (outS (.ok u)) = true from (next_may HNX.out).2, ← HSD.out] at cF
          have hoz : oe = 0 := HOE.out.symm
          have dx : decide (oe = 0) = true := decide_eq_true hoz
          have dx2 : (oe == 0) = true := by rw [beq_iff_eq]; exact hoz
          have dx3 : (oe != 0) = false := by simp [bne, dx2]
          clear hoz
          go_wp2_with (refine wpList_load_obg (by rfl) _ _ rfl rfl _ ho5r Tryz.underlying26 rfl (by rw [sd1]; kernel_rfl) ?_)
          refine cF.out.mono ?_
          rintro e W9 ⟨rfl, hb9⟩
          go_wp2
          go_ret
          exact ⟨rfl, hBr.trans (hb9.mono hBr.size)⟩
  · skip
    intro W hWJ
    rw [hWJ]
    clear hWJ W
    go_wp2_with (go_at_call 16; refine (cHr.out _ hB7).mono ?_; rintro e W8 ⟨⟨v8, rfl, hv8⟩, hb8⟩)
    have hI8 := IntsAt.of_own hv8
    obtain ⟨A8, c8, rfl, -⟩ := hI8.form
    have hB8 := hB7.trans (hb8.mono hB7.size)
    refine ⟨rfl, .slice A8 H.length c8, _, (fun V => V = W8), ?_, rfl, (fun V h => by rw [h]; exact o1d.same hb8), (.inr (fun _ h => h)), ?_⟩
    · simp only [Act.put, List.setIfInBounds_toArray, List.set_cons_succ, List.set_cons_zero]
    simp only [Act.put, List.setIfInBounds_toArray, List.set_cons_succ, List.set_cons_zero]
    refine Pt.WalkT.make (by rfl) ?_
    intro W hWJ
    cases hWJ.symm
    go_wp2_with (go_at_call 15; refine (cHp.out _ hB8).mono ?_; rintro e V ⟨⟨v7, rfl, hv7⟩, hb9⟩)
    have hI7 := IntsAt.of_own hv7
    obtain ⟨A7, c7, rfl, -⟩ := hI7.form
    refine ⟨rfl, .slice A7 H.length c7, _, (fun W => W = V), ?_, rfl, (fun W h => by rw [h]; exact (o1d.same hb8).same hb9), (.inr (fun _ h => h)), ?_⟩
    · simp only [Act.put, List.setIfInBounds_toArray, List.set_cons_succ, List.set_cons_zero]
    simp only [Act.put, List.setIfInBounds_toArray, List.set_cons_succ, List.set_cons_zero]
    iterate 2 (
      apply Pt.WalkT.on (by rfl)
      · intro V hV
        go_wp2_with fail
        refine ⟨rfl, ?_, rfl⟩
        try simp only [Act.put, List.setIfInBounds_toArray, List.set_cons_succ, List.set_cons_zero]
        rfl
      simp only [Act.put, List.setIfInBounds_toArray, List.set_cons_succ, List.set_cons_zero])
    refine Pt.WalkT.nil ?_
    rintro W hVJ
    cases hVJ.symm
    have hI8 := Sl.wide (Sl.mono hI8 hb9 hb9.size) (Nat.zero_le _) (Nat.le_refl _)
    have hI7 := Sl.wide hI7 (Nat.zero_le _) (Nat.le_refl _)
    have hIa : IntsAt V 0 V.heap.size (.slice A7 H.length c7) H := hI7
    have hIb : IntsAt V 0 V.heap.size (.slice A8 H.length c8) H := hI8
    have hb79 := hb8.trans (hb9.mono hb8.size)
    have hBV := hB8.trans (hb9.mono hB8.size)
    have ho5V := (ho5d.same hb8).same hb9
    have HPa := Lib.hid (fun U (h : Below V.heap.size V U) => HPa.out U ((h6d.trans (hb79.mono h6d.size)).trans (h.mono (h6d.trans (hb79.mono h6d.size)).size)))
    clear hI7 hI8 hv7 hv8 hb8 hb9 hB8 hB7 cHp cHr o1d ho5d
    have HIa := Lib.hid hIa
    have HIb := Lib.hid hIb
    obtain ⟨_, _, e7, hc71, hc72, -⟩ := hIa.form
    cases e7
    obtain ⟨_, _, e8, hc81, hc82, -⟩ := hIb.form
    cases e8
    unfold maxLen at hc72 hc82
    have hln : (((H.length : Nat) : Int) != ((H.length : Nat) : Int)) = false := by simp
    have HBV := Lib.hid hBV
    have HO5 := Lib.hid ho5V
    clear hIa hIb hBV ho5V
    go_wp2
    go_loopw [13] (fun i wr => ∃ k : Nat, k ≤ H.length ∧ i = .int .i64 k ∧ Below V.heap.size V wr) (fun i _ => H.length - (intOf i).toNat)
    case atStart => exact ⟨0, by omega, rfl, Below.refl _ _⟩
    case round =>
      obtain ⟨k, hk, rfl, hbr⟩ := hrel
      have hBr := HBV.out.trans (hbr.mono HBV.out.size)
      by_cases hlt : k < H.length
      · have hd : decide ((k : Int) < (H.length : Int)) = true := decide_eq_true (by omega)
        have hdr : Below wr.heap.size wr wr.drew := (Below.refl _ _).drew
        obtain ⟨p, o, rfl, -, hp, g1⟩ := IntsAt.cellAt (IntsAt.mono HIa.out hbr hbr.size) hlt
        obtain ⟨p', o', rfl, -, hp', g2⟩ := IntsAt.cellAt (IntsAt.mono HIb.out hbr hbr.size) hlt
        generalize H.getD k 0 = y at g1 g2
        have hQ := Lib.hid (fun V1 (h1 : Below wr.drew.heap.size wr.drew V1) => show V1.cell? ⟨p, o + k, none⟩ = some (.int .i64 y) ∧ V1.cell? ⟨p', o' + k, none⟩ = some (.int .i64 y) from
          ⟨(Below.cell (p := ⟨p, o + k, none⟩) h1 hp).trans g1, (Below.cell (p := ⟨p', o' + k, none⟩) h1 hp').trans g2⟩)
        clear g1 g2
        go_wp2
        refine Pu.regionW (fun Wq => Below wr.drew.heap.size wr.drew Wq) hmx (by kernel_rfl) (by kernel_rfl) (Below.refl _ _) rfl ?_
        repeat (first
          | (refine Pu.Walk.off (by rfl) ?_; simp only [Act.put, List.setIfInBounds_toArray, List.set_cons_succ, List.set_cons_zero])
          | (apply Pu.Walk.on (by rfl)
             · intro V1 h1
               obtain ⟨q1, q2⟩ := hQ.out V1 h1
               go_wp2_with fail
               refine ⟨rfl, ?_, h1⟩
               try simp only [Act.put, List.setIfInBounds_toArray, List.set_cons_succ, List.set_cons_zero]
               rfl
             simp only [Act.put, List.setIfInBounds_toArray, List.set_cons_succ, List.set_cons_zero]))
        refine Pu.Walk.nil (fun V1 h1 => ?_)
        have hbr1 : Below V.heap.size V V1 := (hbr.drew).trans (h1.mono hbr.size)
        go_wp2
        go_roundw
        case rel => exact ⟨k + 1, by omega, by go_num, hbr1⟩
        case measure => simp [intOf]; omega
      · obtain rfl : k = H.length := by omega
        have hd : decide ((H.length : Int) < (H.length : Int)) = false := decide_eq_false (by omega)
        have ho5r := HO5.out.same hbr
        cases r with
        | error z =>
          have hoz : z = oe := HOE.out
          have hx0 : oe ≠ 0 := by
            intro e0
            rw [← hoz] at e0
            have hn := HNX.out
            unfold nextS nextU at hn
            split at hn
            · exact happen_err hn e0
            · cases hn
              omega
          have dx : decide (oe = 0) = false := decide_eq_false hx0
          have dx2 : (oe == 0) = false := by rw [beq_eq_false_iff_ne]; exact hx0
          have dx3 : (oe != 0) = true := by simp [bne, dx2]
          clear hx0 hoz
          go_wp2
          go_ret
          exact ⟨rfl, hBr⟩
        | ok u =>
          have cF := Lib.hid (sagamay_calls (outS (.ok u)) _ _ _ wr (HPa.out _ hbr) (HFit.out))
          rw [show mayS (outS (.ok u)) = true from (next_may HNX.out).2, ← HSD.out] at cF
          have hoz : oe = 0 := HOE.out.symm
          have dx : decide (oe = 0) = true := decide_eq_true hoz
          have dx2 : (oe == 0) = true := by rw [beq_iff_eq]; exact hoz
          have dx3 : (oe != 0) = false := by simp [bne, dx2]
          clear hoz
          go_wp2_with (refine wpList_load_obg (by rfl) _ _ rfl rfl _ ho5r Tryz.underlying26 rfl (by rw [sd1]; kernel_rfl) ?_)
          refine cF.out.mono ?_
          rintro e W9 ⟨rfl, hb9⟩
          go_wp2
          go_ret
          exact ⟨rfl, hBr.trans (hb9.mono hBr.size)⟩
end Sa
end Go.Proofs.YthfpfomifebpbaaGreat

namespace Go.Proofs.YthfpfomifebpbaaGreat
open Go.ChangeShapes Go.WideShapes Go.ChangeAt Go.RowKit
namespace Sa
set_option maxRecDepth 100000 in
theorem sagaNexts_lifted (os : Os) (started : os.Started) (H : Type) (enc : TypeId × Value → H) :
    ReturnsInHanded {} Tryz.checked os 3 .any (Rows.sagaNextsSpec.pre6 enc Tryz.prog Tryz.f3 Rows.sagaNextsRow.domain false) (Rows.sagaNextsSpec.post enc Tryz.prog Tryz.f3 false true false false) := by
  refine returnsInHanded_of_change (C := Tryz.checked) own started (by kernel_rfl) Tryz.func3
    (ChangeSpec.witness6 (enc := enc) (C := Tryz.checked) false ⟨#[], #[.agg #[.int .i64 0, .int .i64 0, .int .i64 0, .slice none 0 0, .bool false, .int .i64 0, .int .i64 0, .slice none 0 0, .slice none 0 0, .bool false], .agg #[.int .i64 0, .int .i64 0, .slice none 0 0]], []⟩ 8 (by kernel_rfl) (by kernel_rfl) (by kernel_rfl) (by kernel_rfl)) ?_
  intro W base args ds gs before hval0 hW _ _
  have hval : ∀ (j : Nat) t v, Tryz.f3.params[j]? = some t → args[j]? = some v → Value.okWide Tryz.prog W .any base t v := hval0
  obtain ⟨p, q, hA0, hV, hps, hfz, hnd⟩ := id hW
  have hA : DataW.TrodAll enc Tryz.prog W 0 (fun _ => true) true Tryz.f3.params.toList args.toList ds p := hA0
  rw [Tryz.params3] at hA hval
  obtain ⟨v0, vs0, d0, ds0, p0, q0, hargs, rfl, rfl, h0, r0⟩ := trodAll_cons hA
  obtain ⟨v1, vs1, d1, ds1, p1, q1, rfl, rfl, rfl, h1, r1⟩ := trodAll_cons r0
  obtain ⟨rfl, rfl, rfl⟩ := trodAll_nil r1
  obtain rfl : args = #[v0, v1] := by cases args; simp_all
  obtain ⟨rfl, rfl⟩ := trodVars_none hV
  obtain ⟨s, sw, sg, sp, rfl, fs, hs⟩ := Sa.open_saga (hval 0 26 v0 rfl rfl) h0
  obtain ⟨e, ev, rfl, fe, he⟩ := Sa.open_event (hval 1 28 v1 rfl rfl) h1
  refine (nexts_law s e _ _ _ _ W hs fs.fit he fe.2.2).mono fun e W' ⟨he, hb⟩ => ?_
  subst he
  exact ⟨_, rfl, law_post laidOut (by kernel_rfl) rfl Tryz.underlying4 rfl hW rfl hb⟩

theorem sagaNexts_holds : Rows.SagaNextsSaid :=
  OpenClaim.holds_of_wide 3 Tryz.f3 rfl rfl rfl rfl rfl rfl rfl ⟨rfl, rfl, rfl, rfl, rfl⟩ rfl rfl rfl rfl rfl (by kernel_rfl) Tryz.func3 (by kernel_rfl)
    (of_decide_eq_true (by kernel_rfl)) (by unfold Func.isWrapper; first | (rw [if_pos (by decide +kernel)]; kernel_rfl) | (rw [if_neg (by decide +kernel)]; exact ⟨rfl, rfl⟩))
    (fun os started H enc _ => sagaNexts_lifted os started H enc)

end Sa
end Go.Proofs.YthfpfomifebpbaaGreat
