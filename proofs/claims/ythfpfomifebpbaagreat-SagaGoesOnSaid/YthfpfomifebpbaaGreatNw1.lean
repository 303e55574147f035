/-
  saga: the law SagaGoesOn.
  the row SagaGoesOn.
-/
import Derived.Test.YthfpfomifebpbaaGreatNx5
import Derived.Test.YthfpfomifebpbaaGreatNz9
import Derived.Test.YthfpfomifebpbaaGreatNz12

set_option linter.unusedVariables false
set_option linter.unusedSimpArgs false
namespace Go.Proofs.YthfpfomifebpbaaGreat
open Go.RowKit Go.Maps
namespace Sa
open It Ce
set_option linter.unusedSimpArgs false

set_option maxRecDepth 100000 in
set_option maxHeartbeats 8000000 in
theorem goes_law (s : Saga) (ev : Ev) (vw vg vp ve : Value) (w : World) (h : Parts w 0 w.heap.size s vw vg vp) (hF : Fit s) (hv : ItemsAt w 0 w.heap.size ve ev.items) (hFe : Fits ev.items) :
    Calls Tryz.prog 6 #[.agg (sagaC s vw vg vp), .agg (evC ev ve)] w fun e w' => e = .returned (.bool true) ∧ Below w.heap.size w w' := by
  have hmx : Tryz.prog.follows .mixedOrders = true := by kernel_rfl
  obtain ⟨A1, c1, rfl, -⟩ := h.want.form
  obtain ⟨A2, c2, rfl, -⟩ := h.got.form
  obtain ⟨A3, c3, rfl, -⟩ := h.pend.form
  obtain ⟨A4, c4, rfl, -⟩ := hv.form
  obtain ⟨sc, hsc⟩ : ∃ sc, sc = sagaC s (.slice A1 s.want.length c1) (.slice A2 s.got.length c2) (.slice A3 s.pending.length c3) := ⟨_, rfl⟩
  obtain ⟨ec, hec⟩ : ∃ ec, ec = evC ev (.slice A4 ev.items.length c4) := ⟨_, rfl⟩
  have cS := Lib.hid (fun W (hb : Below w.heap.size w W) => small_calls s _ _ _ W (h.later hb))
  have cN := Lib.hid (fun W (hb : Below w.heap.size w W) => next_calls s _ _ _ ev _ W (h.later hb) hF (hv.mono hb hb.size) hFe)
  have cL := Lib.hid (fun W => lives_calls W)
  have cEn := Lib.hid (fun W (hb : Below w.heap.size w W) hm => encode_no s _ _ _ W (h.later hb) hF hm)
  have cY := Lib.hid (fun W (hb : Below w.heap.size w W) hm => encode_yes s _ _ _ W (h.later hb) hF hm (b64_of hm))
  have HVV := Lib.hid (fun W (hb : Below w.heap.size w W) => hv.mono hb hb.size)
  have HEC := Lib.hid hec
  rw [← hsc] at cS cN cEn cY
  rw [← hec] at cN
  rw [← hsc, ← hec]
  have ha1 := (Below.refl w.heap.size w).alloc (Nat.le_refl _) (.cells sc 26)
  have ha2 := ha1.alloc ha1.size (.cells ec 28)
  have o1 := (Ob.new w 26 sc).alloc (.cells ec 28)
  have o2 := Ob.new (w.alloc (.cells sc 26)) 28 ec
  rw [World.size_alloc] at o2
  have hs1 : sc.size = 10 := by rw [hsc]; rfl
  have he1 : ec.size = 3 := by rw [hec]; rfl
  have he2 : (w.alloc (.cells sc 26)).alloc (.cells ec 28) = (w.alloc (.cells sc 26)).alloc (.cells ec 28) := rfl
  have HEV := Lib.hid (show ∀ V, Ob V (w.heap.size + 1) 28 ec → V.cell? ⟨w.heap.size + 1, 2, none⟩ = some (.slice A4 ev.items.length c4) from fun V hV => by rw [hec] at hV; exact hV.cell rfl)
  clear h hv hsc hec ha1 he2
  go_enter Tryz.func6, Tryz.ntmps6
  go_wp2_with (refine wpList_load_obg (by rfl) _ _ rfl rfl _ o1 Tryz.underlying26 rfl (by rw [hs1]; kernel_rfl) ?_)
  generalize (w.alloc (.cells sc 26)).alloc (.cells ec 28) = W0 at *
  have hz0 := o2.lt
  refine (cS.out _ ha2).mono ?_
  rintro e W1 ⟨rfl, hb1⟩
  have o1 := o1.same hb1
  have o2 := o2.same hb1
  have hB1 := ha2.trans (hb1.mono ha2.size)
  have hs1' := hb1.size
  have hev := HEV.out W1 o2
  clear ha2 hb1 cS
  have hB := hB1
  clear hB1
  generalize hsm : smallS s = sm
  clear hsm
  cases sm with
  | false =>
    go_wp2_with fail
    refine (cL.out _).mono ?_
    rintro e W2 ⟨rfl, hb2⟩
    go_wp2
    go_ret
    exact ⟨rfl, hB.trans (hb2.mono hB.size)⟩
  | true =>
  by_cases hil : ev.items.length ≤ 50
  rotate_left
  · have di : decide ((ev.items.length : Int) > 50) = true := decide_eq_true (by omega)
    clear hil
    go_wp2_with fail
    refine (cL.out _).mono ?_
    rintro e W2 ⟨rfl, hb2⟩
    go_wp2
    go_ret
    exact ⟨rfl, hB.trans (hb2.mono hB.size)⟩
  have di : decide ((ev.items.length : Int) > 50) = false := decide_eq_false (by omega)
  clear hil
  obtain ⟨m, hm⟩ : ∃ m, mayS s = m := ⟨_, rfl⟩
  cases m with
  | false =>
    have cEn := Lib.hid (fun W hb => cEn.out W hb hm)
    clear hm cY
    go_wp2_with (first | (refine wpList_load_obg (by rfl) _ _ rfl rfl _ o1 Tryz.underlying26 rfl (by rw [hs1]; kernel_rfl) ?_) | (refine wpList_load_obg (by rfl) _ _ rfl rfl _ o2 Tryz.underlying28 rfl (by rw [he1]; kernel_rfl) ?_))
    refine (cEn.out _ hB).mono ?_
    rintro e W2 ⟨rfl, hb2⟩
    have hB := hB.trans (hb2.mono hB.size)
    clear hb2
    go_wp2_with fail
    refine (cL.out _).mono ?_
    rintro e W3 ⟨rfl, hb3⟩
    have hB := hB.trans (hb3.mono hB.size)
    clear hb3
    go_wp2_with fail
    refine (cL.out _).mono ?_
    rintro e W4 ⟨rfl, hb2⟩
    go_wp2
    go_ret
    exact ⟨rfl, hB.trans (hb2.mono hB.size)⟩
  | true =>
    have cY := Lib.hid (fun W hb => cY.out W hb hm)
    have HDE := Lib.hid (dec_enc hm)
    have HEL := Lib.hid (encS_len hm)
    clear hm cEn
    go_wp2_with (first | (refine wpList_load_obg (by rfl) _ _ rfl rfl _ o1 Tryz.underlying26 rfl (by rw [hs1]; kernel_rfl) ?_) | (refine wpList_load_obg (by rfl) _ _ rfl rfl _ o2 Tryz.underlying28 rfl (by rw [he1]; kernel_rfl) ?_))
    refine (cY.out _ hB).mono ?_
    rintro e W2 ⟨⟨v, rfl, hv⟩, hb2⟩
    have hI : BytesAt W2 0 W2.heap.size v (encS s) := (Sl.of_own hv).wide (Nat.zero_le _) (Nat.le_refl _)
    clear hv
    obtain ⟨A, c, rfl, -⟩ := hI.form
    have o1 := o1.same hb2
    have o2 := o2.same hb2
    have hB := hB.trans (hb2.mono hB.size)
    clear hb2
    go_wp2_with fail
    refine (cL.out _).mono ?_
    rintro e W3 ⟨rfl, hb3⟩
    have hI := Sl.mono hI hb3 hb3.size
    have o1 := o1.same hb3
    have o2 := o2.same hb3
    have hB := hB.trans (hb3.mono hB.size)
    clear hb3
    have cD := decode_calls (encS s) _ W3 hI (by have := HEL.out; omega)
    rw [HDE.out] at cD
    have cD := Lib.hid cD
    go_wp2_with fail
    refine cD.out.mono ?_
    rintro e W5 ⟨⟨vw, vg, vp, rfl, hPx⟩, hb5⟩
    have o1 := o1.same hb5
    have o2 := o2.same hb5
    have hB := hB.trans (hb5.mono hB.size)
    clear hb5 cD hI
    obtain ⟨E1, d1, rfl, -⟩ := hPx.want.form
    obtain ⟨E2, d2, rfl, -⟩ := hPx.got.form
    obtain ⟨E3, d3, rfl, -⟩ := hPx.pend.form
    obtain ⟨xc, hxc⟩ : ∃ xc, xc = sagaC s (.slice E1 s.want.length d1) (.slice E2 s.got.length d2) (.slice E3 s.pending.length d3) := ⟨_, rfl⟩
    rw [← hxc]
    have xc1 : xc.size = 10 := by rw [hxc]; rfl
    have xc2 : xc.all (·.oneCell') = true := by rw [hxc]; simp [sagaC, Value.oneCell']
    have HXC := Lib.hid hxc
    clear hxc
    have hoN := Ob.new W5 26 #[.int .i64 0, .int .i64 0, .int .i64 0, .slice none 0 0, .bool false, .int .i64 0, .int .i64 0, .slice none 0 0, .slice none 0 0, .bool false]
    have hal3 := (Below.refl W5.heap.size W5).alloc (Nat.le_refl _) (.cells #[.int .i64 0, .int .i64 0, .int .i64 0, .slice none 0 0, .bool false, .int .i64 0, .int .i64 0, .slice none 0 0, .slice none 0 0, .bool false] 26)
    have z3 : (W5.alloc (.cells #[.int .i64 0, .int .i64 0, .int .i64 0, .slice none 0 0, .bool false, .int .i64 0, .int .i64 0, .slice none 0 0, .slice none 0 0, .bool false] 26)).heap.size = W5.heap.size + 1 := World.size_alloc _ _
    go_wp2_with (first | (refine wpList_store_ob (cells := xc) rfl 26 (.tmp 7) (.tmp 40) rfl rfl rfl hoN xc1 (by rw [xc1]; kernel_rfl) xc2 ?_
                          intro W6 ho6 hg6
                          have hb6 : Below W5.heap.size W5 W6 := hal3.grown hg6 (by omega) (fun g e => by have e2 : W5.heap.size = g := Option.some.inj e; omega)
                          have o1 := o1.same hb6
                          have o2 := o2.same hb6
                          have hB := hB.trans (hb6.mono hB.size)
                          have hPx := hPx.later hb6
                          clear hoN hal3 z3 hg6 hb6) | (refine wpList_load_obg (by rfl) _ _ rfl rfl _ o1 Tryz.underlying26 rfl (by rw [hs1]; kernel_rfl) ?_) | (refine wpList_load_obg (by rfl) _ _ rfl rfl _ o2 Tryz.underlying28 rfl (by rw [he1]; kernel_rfl) ?_))
    have cN2 := Lib.hid (fun V (hb : Below W6.heap.size W6 V) => next_calls s _ _ _ ev _ V (hPx.later hb) hF (HVV.out V (hB.trans (hb.mono hB.size))) hFe)
    rw [← HXC.out, ← HEC.out] at cN2
    generalize nextS s ev = r at cN cN2
    refine (cN.out _ hB).mono ?_
    rintro e W7 ⟨hR, hb7⟩
    have o1 := o1.same hb7
    have o2 := o2.same hb7
    have ho6 := ho6.same hb7
    have hB := hB.trans (hb7.mono hB.size)
    obtain ⟨uw, ug, up, ul, rfl, hP, hS⟩ := hR.all
    have HP7 := Lib.hid hP
    have HS7 := Lib.hid hS
    obtain ⟨D1, dl1, rfl, -⟩ := hP.want.form
    obtain ⟨D2, dl2, rfl, -⟩ := hP.got.form
    obtain ⟨D3, dl3, rfl, -⟩ := hP.pend.form
    obtain ⟨D4, dl4, rfl, -⟩ := hS.form
    clear hP hS hR cN
    obtain ⟨sd, hsd⟩ : ∃ sd, sd = sagaC (outS r) (.slice D1 (outS r).want.length dl1) (.slice D2 (outS r).got.length dl2) (.slice D3 (outS r).pending.length dl3) := ⟨_, rfl⟩
    rw [← hsd]
    have sd1 : sd.size = 10 := by rw [hsd]; rfl
    have sd2 : sd.all (·.oneCell') = true := by rw [hsd]; simp [sagaC, Value.oneCell']
    have HSD := Lib.hid hsd
    clear hsd
    have hoN := Ob.new W7 26 #[.int .i64 0, .int .i64 0, .int .i64 0, .slice none 0 0, .bool false, .int .i64 0, .int .i64 0, .slice none 0 0, .slice none 0 0, .bool false]
    have hal3 := (Below.refl W7.heap.size W7).alloc (Nat.le_refl _) (.cells #[.int .i64 0, .int .i64 0, .int .i64 0, .slice none 0 0, .bool false, .int .i64 0, .int .i64 0, .slice none 0 0, .slice none 0 0, .bool false] 26)
    have z3 : (W7.alloc (.cells #[.int .i64 0, .int .i64 0, .int .i64 0, .slice none 0 0, .bool false, .int .i64 0, .int .i64 0, .slice none 0 0, .slice none 0 0, .bool false] 26)).heap.size = W7.heap.size + 1 := World.size_alloc _ _
    have hb67 := hb7
    go_wp2_with (first | (refine wpList_store_ob (cells := sd) rfl 26 (.tmp 9) (.tmp 46) rfl rfl rfl hoN sd1 (by rw [sd1]; kernel_rfl) sd2 ?_
                          intro W8 ho8 hg8
                          have hb8 : Below W7.heap.size W7 W8 := hal3.grown hg8 (by omega) (fun g e => by have e2 : W7.heap.size = g := Option.some.inj e; omega)
                          have o1 := o1.same hb8
                          have o2 := o2.same hb8
                          have ho6 := ho6.same hb8
                          have hB := hB.trans (hb8.mono hB.size)
                          have hb68 := hb67.trans (hb8.mono hb67.size)
                          clear hoN hal3 z3 hg8) | (refine wpList_load_obg (by rfl) _ _ rfl rfl _ o1 Tryz.underlying26 rfl (by rw [hs1]; kernel_rfl) ?_) | (refine wpList_load_obg (by rfl) _ _ rfl rfl _ o2 Tryz.underlying28 rfl (by rw [he1]; kernel_rfl) ?_) | (refine wpList_load_obg (by rfl) _ _ rfl rfl _ ho6 Tryz.underlying26 rfl (by rw [xc1]; kernel_rfl) ?_))
    refine (cN2.out _ hb68).mono ?_
    rintro e W9 ⟨hR, hb9⟩
    have o1 := o1.same hb9
    have o2 := o2.same hb9
    have ho6 := ho6.same hb9
    have ho8 := ho8.same hb9
    have hB := hB.trans (hb9.mono hB.size)
    have hb79 := hb8.trans (hb9.mono hb8.size)
    obtain ⟨uw, ug, up, ul, rfl, hP, hS⟩ := hR.all
    have HP9 := Lib.hid hP
    have HS9 := Lib.hid hS
    obtain ⟨E1, el1, rfl, -⟩ := hP.want.form
    obtain ⟨E2, el2, rfl, -⟩ := hP.got.form
    obtain ⟨E3, el3, rfl, -⟩ := hP.pend.form
    obtain ⟨E4, el4, rfl, -⟩ := hS.form
    clear hP hS hR cN2 hb8 hb9 hb67 hb68 hb7
    obtain ⟨se, hse⟩ : ∃ se, se = sagaC (outS r) (.slice E1 (outS r).want.length el1) (.slice E2 (outS r).got.length el2) (.slice E3 (outS r).pending.length el3) := ⟨_, rfl⟩
    rw [← hse]
    have se1 : se.size = 10 := by rw [hse]; rfl
    have se2 : se.all (·.oneCell') = true := by rw [hse]; simp [sagaC, Value.oneCell']
    have HSE := Lib.hid hse
    clear hse
    have hoN := Ob.new W9 26 #[.int .i64 0, .int .i64 0, .int .i64 0, .slice none 0 0, .bool false, .int .i64 0, .int .i64 0, .slice none 0 0, .slice none 0 0, .bool false]
    have hal3 := (Below.refl W9.heap.size W9).alloc (Nat.le_refl _) (.cells #[.int .i64 0, .int .i64 0, .int .i64 0, .slice none 0 0, .bool false, .int .i64 0, .int .i64 0, .slice none 0 0, .slice none 0 0, .bool false] 26)
    have z3 : (W9.alloc (.cells #[.int .i64 0, .int .i64 0, .int .i64 0, .slice none 0 0, .bool false, .int .i64 0, .int .i64 0, .slice none 0 0, .slice none 0 0, .bool false] 26)).heap.size = W9.heap.size + 1 := World.size_alloc _ _
    have dee : decide (outE r = outE r) = true := decide_eq_true rfl
    have dee2 : (outE r == outE r) = true := beq_self_eq_true _
    go_wp2_with (first
      | (refine wpList_store_ob (cells := se) rfl 26 (.tmp 12) (.tmp 53) rfl rfl rfl hoN se1 (by rw [se1]; kernel_rfl) se2 ?_
         intro W10 ho10 hg10
         have hb10 : Below W9.heap.size W9 W10 := hal3.grown hg10 (by omega) (fun g e => by have e2 : W9.heap.size = g := Option.some.inj e; omega)
         have ho8 := ho8.same hb10
         have hB := hB.trans (hb10.mono hB.size)
         have hb7 := hb79.trans (hb10.mono hb79.size)
         have HPa := Lib.hid (fun V (hb : Below W10.heap.size W10 V) => HP7.out.later (hb7.trans (hb.mono hb7.size)))
         have HSa := Lib.hid (fun V (hb : Below W10.heap.size W10 V) => HS7.out.later (hb7.trans (hb.mono hb7.size)))
         have HPb := Lib.hid (fun V (hb : Below W10.heap.size W10 V) => HP9.out.later (hb10.trans (hb.mono hb10.size)))
         have HSb := Lib.hid (fun V (hb : Below W10.heap.size W10 V) => HS9.out.later (hb10.trans (hb.mono hb10.size)))
         clear hoN hal3 z3 hg10 hb10 hb7 hb79 o1 o2 ho6
         have cQ := refsame15_calls (outS r) (outS r) _ _ _ _ _ _ W10 (HPa.out _ (Below.refl _ _)) (HPb.out _ (Below.refl _ _))
         rw [← HSD.out, ← HSE.out, show sameS (outS r) (outS r) = true from sameS_iff.2 rfl] at cQ
         have cQ := Lib.hid cQ
         have cP := Lib.hid (fun V (hb : Below W10.heap.size W10 V) => samesteps_calls (outL r) (outL r) _ _ V (HSa.out V hb) (HSb.out V hb))
         rw [show decide (outL r = outL r) = true from decide_eq_true rfl] at cP)
      | (refine wpList_load_obg (by rfl) _ _ rfl rfl _ ho8 Tryz.underlying26 rfl (by rw [sd1]; kernel_rfl) ?_)
      | (refine wpList_load_obg (by rfl) _ _ rfl rfl _ ho10 Tryz.underlying26 rfl (by rw [se1]; kernel_rfl) ?_)
      | (go_at_call 11; refine cQ.out.mono ?_; rintro e W11 ⟨rfl, hb11⟩)
      | (go_at_call 12; refine (cP.out _ hb11).mono ?_; rintro e W12 ⟨rfl, hb12⟩))
    go_ret
    exact ⟨rfl, hB.trans ((hb11.trans (hb12.mono hb11.size)).mono hB.size)⟩
end Sa
end Go.Proofs.YthfpfomifebpbaaGreat

namespace Go.Proofs.YthfpfomifebpbaaGreat
open Go.ChangeShapes Go.WideShapes Go.ChangeAt Go.RowKit
namespace Sa
set_option maxRecDepth 100000 in
theorem sagaGoesOn_lifted (os : Os) (started : os.Started) (H : Type) (enc : TypeId × Value → H) :
    ReturnsInHanded {} Tryz.checked os 6 .any (Rows.sagaGoesOnSpec.pre6 enc Tryz.prog Tryz.f6 Rows.sagaGoesOnRow.domain false) (Rows.sagaGoesOnSpec.post enc Tryz.prog Tryz.f6 false true false false) := by
  refine returnsInHanded_of_change (C := Tryz.checked) own started (by kernel_rfl) Tryz.func6
    (ChangeSpec.witness6 (enc := enc) (C := Tryz.checked) false ⟨#[], #[.agg #[.int .i64 0, .int .i64 0, .int .i64 0, .slice none 0 0, .bool false, .int .i64 0, .int .i64 0, .slice none 0 0, .slice none 0 0, .bool false], .agg #[.int .i64 0, .int .i64 0, .slice none 0 0]], []⟩ 8 (by kernel_rfl) (by kernel_rfl) (by kernel_rfl) (by kernel_rfl)) ?_
  intro W base args ds gs before hval0 hW _ _
  have hval : ∀ (j : Nat) t v, Tryz.f6.params[j]? = some t → args[j]? = some v → Value.okWide Tryz.prog W .any base t v := hval0
  obtain ⟨p, q, hA0, hV, hps, hfz, hnd⟩ := id hW
  have hA : DataW.TrodAll enc Tryz.prog W 0 (fun _ => true) true Tryz.f6.params.toList args.toList ds p := hA0
  rw [Tryz.params6] at hA hval
  obtain ⟨v0, vs0, d0, ds0, p0, q0, hargs, rfl, rfl, h0, r0⟩ := trodAll_cons hA
  obtain ⟨v1, vs1, d1, ds1, p1, q1, rfl, rfl, rfl, h1, r1⟩ := trodAll_cons r0
  obtain ⟨rfl, rfl, rfl⟩ := trodAll_nil r1
  obtain rfl : args = #[v0, v1] := by cases args; simp_all
  obtain ⟨rfl, rfl⟩ := trodVars_none hV
  obtain ⟨s, sw, sg, sp, rfl, fs, hs⟩ := Sa.open_saga (hval 0 26 v0 rfl rfl) h0
  obtain ⟨e, ev, rfl, fe, he⟩ := Sa.open_event (hval 1 28 v1 rfl rfl) h1
  refine (goes_law s e _ _ _ _ W hs fs.fit he fe.2.2).mono fun e W' ⟨he, hb⟩ => ?_
  subst he
  exact ⟨_, rfl, law_post laidOut (by kernel_rfl) rfl Tryz.underlying4 rfl hW rfl hb⟩

theorem sagaGoesOn_holds : Rows.SagaGoesOnSaid :=
  OpenClaim.holds_of_wide 6 Tryz.f6 rfl rfl rfl rfl rfl rfl rfl ⟨rfl, rfl, rfl, rfl, rfl⟩ rfl rfl rfl rfl rfl (by kernel_rfl) Tryz.func6 (by kernel_rfl)
    (of_decide_eq_true (by kernel_rfl)) (by unfold Func.isWrapper; first | (rw [if_pos (by decide +kernel)]; kernel_rfl) | (rw [if_neg (by decide +kernel)]; exact ⟨rfl, rfl⟩))
    (fun os started H enc _ => sagaGoesOn_lifted os started H enc)

end Sa
end Go.Proofs.YthfpfomifebpbaaGreat
