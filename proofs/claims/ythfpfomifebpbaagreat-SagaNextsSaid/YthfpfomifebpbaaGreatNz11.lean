/-
  saga: the document's Next.
-/
import Derived.Test.YthfpfomifebpbaaGreatNz10

set_option linter.unusedVariables false
set_option linter.unusedSimpArgs false
namespace Go.Proofs.YthfpfomifebpbaaGreat
open Go.RowKit Go.Maps
namespace Sa
open It
set_option linter.unusedSimpArgs false

set_option maxRecDepth 100000 in
set_option maxHeartbeats 8000000 in
theorem refnext_took (s : Saga) (er : Int) (ei : List It.Item) (vw vg vp ve : Value) (w : World) (h : Parts w 0 w.heap.size s vw vg vp) (hv : ItemsAt w 0 w.heap.size ve ei) (hF : Fit s) (hFe : Fits ei) (hil : ei.length ≤ 1000000) (hm : mayS s = true) :
    Calls Tryz.prog 10 #[.agg (sagaC s vw vg vp), .agg (evC ⟨1, er, ei⟩ ve)] w fun e w' => Ret3A (fun _ => False) w' e (tookS s ⟨1, er, ei⟩) ∧ Below w.heap.size w w' := by
  have hmx : Tryz.prog.follows .mixedOrders = true := by kernel_rfl
  have h8 := (pend_in hm).2
  have hgl : s.got.length ≤ 1000000 := by have := (mayS_M hm).2.2; omega
  have hPA0 : PartsA (fun i => i = w.heap.size ∨ i = w.heap.size + 1 ∨ i = w.heap.size + 2) w s vw vg vp := .of h (Nat.le_refl _) (fun i _ hb hx => by omega)
  have hVA0 : SlA (fun i => i = w.heap.size ∨ i = w.heap.size + 1 ∨ i = w.heap.size + 2) w 2 ve ei.length (itemCells ei) := .of hv (Nat.le_refl _) (fun i _ hb hx => by omega)
  obtain ⟨A1, c1, rfl, -⟩ := h.want.form
  obtain ⟨A2, c2, rfl, -⟩ := h.got.form
  obtain ⟨A3, c3, rfl, -⟩ := h.pend.form
  obtain ⟨A4, c4, rfl, -⟩ := hv.form
  have HP := Lib.hid hPA0
  have HV := Lib.hid hVA0
  have HPE := Lib.hid h.pend
  have HW := Lib.hid (fun W (hb : Below w.heap.size w W) => (h.want.mono hb hb.size))
  have cM := Lib.hid (fun V (hb : Below w.heap.size w V) => refmay15_calls s _ _ _ V (h.later hb) hF)
  rw [hm] at cM
  have hal1 := (Below.refl w.heap.size w).alloc (Nat.le_refl _) (.cells #[.int .i64 s.order, .int .i64 s.first, .int .i64 s.regions, .slice A1 s.want.length c1, .bool s.waits, .int .i64 s.state, .int .i64 s.asked, .slice A2 s.got.length c2, .slice A3 s.pending.length c3, .bool s.cancelled] 26)
  have hal2 := hal1.alloc hal1.size (.cells #[.int .i64 1, .int .i64 er, .slice A4 ei.length c4] 28)
  have hB := hal2.alloc hal2.size (.cells #[.int .i64 0, .int .i64 0, .int .i64 0, .slice none 0 0, .bool false, .int .i64 0, .int .i64 0, .slice none 0 0, .slice none 0 0, .bool false] 26)
  have o1 := ((Ob.new w 26 #[.int .i64 s.order, .int .i64 s.first, .int .i64 s.regions, .slice A1 s.want.length c1, .bool s.waits, .int .i64 s.state, .int .i64 s.asked, .slice A2 s.got.length c2, .slice A3 s.pending.length c3, .bool s.cancelled]).alloc (.cells #[.int .i64 1, .int .i64 er, .slice A4 ei.length c4] 28)).alloc (.cells #[.int .i64 0, .int .i64 0, .int .i64 0, .slice none 0 0, .bool false, .int .i64 0, .int .i64 0, .slice none 0 0, .slice none 0 0, .bool false] 26)
  have o2 := (Ob.new (w.alloc (.cells #[.int .i64 s.order, .int .i64 s.first, .int .i64 s.regions, .slice A1 s.want.length c1, .bool s.waits, .int .i64 s.state, .int .i64 s.asked, .slice A2 s.got.length c2, .slice A3 s.pending.length c3, .bool s.cancelled] 26)) 28 #[.int .i64 1, .int .i64 er, .slice A4 ei.length c4]).alloc (.cells #[.int .i64 0, .int .i64 0, .int .i64 0, .slice none 0 0, .bool false, .int .i64 0, .int .i64 0, .slice none 0 0, .slice none 0 0, .bool false] 26)
  have o3 := Ob.new ((w.alloc (.cells #[.int .i64 s.order, .int .i64 s.first, .int .i64 s.regions, .slice A1 s.want.length c1, .bool s.waits, .int .i64 s.state, .int .i64 s.asked, .slice A2 s.got.length c2, .slice A3 s.pending.length c3, .bool s.cancelled] 26)).alloc (.cells #[.int .i64 1, .int .i64 er, .slice A4 ei.length c4] 28)) 26 #[.int .i64 0, .int .i64 0, .int .i64 0, .slice none 0 0, .bool false, .int .i64 0, .int .i64 0, .slice none 0 0, .slice none 0 0, .bool false]
  rw [World.size_alloc, World.size_alloc] at o3
  rw [World.size_alloc] at o2
  have HM := Lib.hid hm
  clear hal1 hal2 h hv hPA0 hVA0 hm
  unfold sagaC evC
  unfold sagaC at cM
  dsimp only
  go_enter Tryz.func10, Tryz.ntmps10
  go_upto_region 1 with (fail)
  generalize ((w.alloc (.cells #[.int .i64 s.order, .int .i64 s.first, .int .i64 s.regions, .slice A1 s.want.length c1, .bool s.waits, .int .i64 s.state, .int .i64 s.asked, .slice A2 s.got.length c2, .slice A3 s.pending.length c3, .bool s.cancelled] 26)).alloc (.cells #[.int .i64 1, .int .i64 er, .slice A4 ei.length c4] 28)).alloc (.cells #[.int .i64 0, .int .i64 0, .int .i64 0, .slice none 0 0, .bool false, .int .i64 0, .int .i64 0, .slice none 0 0, .slice none 0 0, .bool false] 26) = W0 at *
  go_wp2_with (refine wpList_load_obg (by rfl) _ _ rfl rfl _ o1 Tryz.underlying26 rfl (by kernel_rfl) ?_)
  refine (cM.out _ hB).mono ?_
  rintro e W1 ⟨rfl, hb1⟩
  have hB1 := hB.trans (hb1.mono hB.size)
  have x1 := o1.same hb1
  have x2 := o2.same hb1
  have x3 := o3.same hb1
  have hz := x3.lt
  have hPA := HP.out.later hB1
  have hVA := HV.out.later hB1
  have hav : ∀ i, (fun i => i = w.heap.size ∨ i = w.heap.size + 1 ∨ i = w.heap.size + 2) i → i < W1.heap.size := fun i hx => by rcases hx with hx | hx | hx <;> omega
  have hno : ∀ b, (fun i => i = w.heap.size ∨ i = w.heap.size + 1 ∨ i = w.heap.size + 2) b → NoText W1 b := fun b hb => by
    rcases hb with rfl | rfl | rfl
    · exact noText_saga (s := s) x1
    · exact noText_ev (e := ⟨1, er, ei⟩) x2
    · exact noText_zero x3
  obtain ⟨e0, e1, e2⟩ := ob_three x2
  clear o1 o2 o3 hb1 hB cM
  have cX := Lib.hid (reftook_calls (fun i => i = w.heap.size ∨ i = w.heap.size + 1 ∨ i = w.heap.size + 2) s ⟨1, er, ei⟩ _ _ _ _ W1 HM.out hPA hVA hno hFe hil)
  obtain ⟨r, hr⟩ : ∃ r, r = tookS s ⟨1, er, ei⟩ := ⟨_, rfl⟩
  rw [← hr] at cX
  unfold sagaC at cX
  unfold evC at cX
  try dsimp only at cX
  have HR := Lib.hid hr
  clear hr
  go_wp2_with (first
    | (refine wpList_load_obg (by rfl) _ _ rfl rfl _ x1 Tryz.underlying26 rfl (by kernel_rfl) ?_)
    | (refine wpList_load_obg (by rfl) _ _ rfl rfl _ x2 Tryz.underlying28 rfl (by kernel_rfl) ?_))
  refine cX.out.mono ?_
  rintro e W2 ⟨⟨uw, ug, up, ul, rfl, hP2, hS2⟩, hb2⟩
  have hB2 := hB1.trans (hb2.mono hB1.size)
  have y3 := x3.same hb2
  have hz2 := y3.lt
  obtain ⟨E1, l1, rfl, -⟩ := hP2.want.form
  obtain ⟨E3, l3, rfl, -⟩ := hP2.pend.form
  obtain ⟨us, -, hu2, -⟩ := hP2.got
  obtain ⟨E2, l2, rfl, -⟩ := hu2.form
  obtain ⟨E4, l4, rfl⟩ := hS2.form
  clear hu2 us cX x1 x2 e0 e1 e2
  obtain ⟨Y, hY⟩ : ∃ Y, Y = outS r := ⟨_, rfl⟩
  obtain ⟨L, hL⟩ : ∃ L, L = outL r := ⟨_, rfl⟩
  rw [← hY] at hP2 ⊢
  rw [← hL] at hS2 ⊢
  have HY := Lib.hid hY
  have HL := Lib.hid hL
  clear hY hL
  obtain ⟨se, hse⟩ : ∃ se, se = sagaC Y (.slice E1 Y.want.length l1) (.slice E2 Y.got.length l2) (.slice E3 Y.pending.length l3) := ⟨_, rfl⟩
  rw [← hse]
  have he1 : se.size = 10 := by rw [hse]; rfl
  have he2 : se.all (·.oneCell') = true := by rw [hse]; simp [sagaC, Value.oneCell']
  have HSE := Lib.hid hse
  clear hse
  go_wp2_with (refine wpList_store_ob (cells := se) rfl 26 (.tmp 4) (.tmp 30) rfl rfl rfl y3 he1 (by rw [he1]; kernel_rfl) he2 ?_; intro W13 ho13 hg13)
  rw [HSE.out] at ho13
  have hB13 := hB2.grown hg13 (by omega) (fun g e => by have e2 : w.heap.size + 2 = g := Option.some.inj e; omega)
  have hP13 := ((hP2).grow hg13 (.inr (.inr rfl))).more (Av' := fun _ => False) fun i _ hx => hx.elim
  have hS13 := ((hS2).grow hg13 (.inr (.inr rfl))).more (Av' := fun _ => False) fun i _ hx => hx.elim
  obtain ⟨p0, p1, p2, p3, p4, p5, p6, p7, p8, p9⟩ := ob_ten ho13
  refine bodyPost_ret (v := .tuple #[.agg (sagaC Y (.slice E1 Y.want.length l1) (.slice E2 Y.got.length l2) (.slice E3 Y.pending.length l3)), .slice E4 L.length l4, .int .i64 (outE r)]) ?_ rfl ⟨by rw [← HR.out]; unfold Ret3A; rw [← HY.out, ← HL.out]; exact ⟨_, _, _, _, rfl, hP13, hS13⟩, hB13⟩
  simp [results, Tryz.f10, go_sem, sagaC, p0, p1, p2, p3, p4, p5, p6, p7, p8, p9]

set_option maxRecDepth 100000 in
set_option maxHeartbeats 8000000 in
theorem refnext_did6 (s : Saga) (er : Int) (ei : List It.Item) (vw vg vp ve : Value) (w : World) (h : Parts w 0 w.heap.size s vw vg vp) (hv : ItemsAt w 0 w.heap.size ve ei) (hF : Fit s) (hFe : Fits ei) (hil : ei.length ≤ 1000000) (hm : mayS s = true) :
    Calls Tryz.prog 10 #[.agg (sagaC s vw vg vp), .agg (evC ⟨6, er, ei⟩ ve)] w fun e w' => Ret3A (fun _ => False) w' e (didS s ⟨6, er, ei⟩ 7 8) ∧ Below w.heap.size w w' := by
  have hmx : Tryz.prog.follows .mixedOrders = true := by kernel_rfl
  have h8 := (pend_in hm).2
  have hgl : s.got.length ≤ 1000000 := by have := (mayS_M hm).2.2; omega
  have hPA0 : PartsA (fun i => i = w.heap.size ∨ i = w.heap.size + 1 ∨ i = w.heap.size + 2) w s vw vg vp := .of h (Nat.le_refl _) (fun i _ hb hx => by omega)
  have hVA0 : SlA (fun i => i = w.heap.size ∨ i = w.heap.size + 1 ∨ i = w.heap.size + 2) w 2 ve ei.length (itemCells ei) := .of hv (Nat.le_refl _) (fun i _ hb hx => by omega)
  obtain ⟨A1, c1, rfl, -⟩ := h.want.form
  obtain ⟨A2, c2, rfl, -⟩ := h.got.form
  obtain ⟨A3, c3, rfl, -⟩ := h.pend.form
  obtain ⟨A4, c4, rfl, -⟩ := hv.form
  have HP := Lib.hid hPA0
  have HV := Lib.hid hVA0
  have HPE := Lib.hid h.pend
  have HW := Lib.hid (fun W (hb : Below w.heap.size w W) => (h.want.mono hb hb.size))
  have cM := Lib.hid (fun V (hb : Below w.heap.size w V) => refmay15_calls s _ _ _ V (h.later hb) hF)
  rw [hm] at cM
  have hal1 := (Below.refl w.heap.size w).alloc (Nat.le_refl _) (.cells #[.int .i64 s.order, .int .i64 s.first, .int .i64 s.regions, .slice A1 s.want.length c1, .bool s.waits, .int .i64 s.state, .int .i64 s.asked, .slice A2 s.got.length c2, .slice A3 s.pending.length c3, .bool s.cancelled] 26)
  have hal2 := hal1.alloc hal1.size (.cells #[.int .i64 6, .int .i64 er, .slice A4 ei.length c4] 28)
  have hB := hal2.alloc hal2.size (.cells #[.int .i64 0, .int .i64 0, .int .i64 0, .slice none 0 0, .bool false, .int .i64 0, .int .i64 0, .slice none 0 0, .slice none 0 0, .bool false] 26)
  have o1 := ((Ob.new w 26 #[.int .i64 s.order, .int .i64 s.first, .int .i64 s.regions, .slice A1 s.want.length c1, .bool s.waits, .int .i64 s.state, .int .i64 s.asked, .slice A2 s.got.length c2, .slice A3 s.pending.length c3, .bool s.cancelled]).alloc (.cells #[.int .i64 6, .int .i64 er, .slice A4 ei.length c4] 28)).alloc (.cells #[.int .i64 0, .int .i64 0, .int .i64 0, .slice none 0 0, .bool false, .int .i64 0, .int .i64 0, .slice none 0 0, .slice none 0 0, .bool false] 26)
  have o2 := (Ob.new (w.alloc (.cells #[.int .i64 s.order, .int .i64 s.first, .int .i64 s.regions, .slice A1 s.want.length c1, .bool s.waits, .int .i64 s.state, .int .i64 s.asked, .slice A2 s.got.length c2, .slice A3 s.pending.length c3, .bool s.cancelled] 26)) 28 #[.int .i64 6, .int .i64 er, .slice A4 ei.length c4]).alloc (.cells #[.int .i64 0, .int .i64 0, .int .i64 0, .slice none 0 0, .bool false, .int .i64 0, .int .i64 0, .slice none 0 0, .slice none 0 0, .bool false] 26)
  have o3 := Ob.new ((w.alloc (.cells #[.int .i64 s.order, .int .i64 s.first, .int .i64 s.regions, .slice A1 s.want.length c1, .bool s.waits, .int .i64 s.state, .int .i64 s.asked, .slice A2 s.got.length c2, .slice A3 s.pending.length c3, .bool s.cancelled] 26)).alloc (.cells #[.int .i64 6, .int .i64 er, .slice A4 ei.length c4] 28)) 26 #[.int .i64 0, .int .i64 0, .int .i64 0, .slice none 0 0, .bool false, .int .i64 0, .int .i64 0, .slice none 0 0, .slice none 0 0, .bool false]
  rw [World.size_alloc, World.size_alloc] at o3
  rw [World.size_alloc] at o2
  have HM := Lib.hid hm
  clear hal1 hal2 h hv hPA0 hVA0 hm
  unfold sagaC evC
  unfold sagaC at cM
  dsimp only
  go_enter Tryz.func10, Tryz.ntmps10
  go_upto_region 1 with (fail)
  generalize ((w.alloc (.cells #[.int .i64 s.order, .int .i64 s.first, .int .i64 s.regions, .slice A1 s.want.length c1, .bool s.waits, .int .i64 s.state, .int .i64 s.asked, .slice A2 s.got.length c2, .slice A3 s.pending.length c3, .bool s.cancelled] 26)).alloc (.cells #[.int .i64 6, .int .i64 er, .slice A4 ei.length c4] 28)).alloc (.cells #[.int .i64 0, .int .i64 0, .int .i64 0, .slice none 0 0, .bool false, .int .i64 0, .int .i64 0, .slice none 0 0, .slice none 0 0, .bool false] 26) = W0 at *
  go_wp2_with (refine wpList_load_obg (by rfl) _ _ rfl rfl _ o1 Tryz.underlying26 rfl (by kernel_rfl) ?_)
  refine (cM.out _ hB).mono ?_
  rintro e W1 ⟨rfl, hb1⟩
  have hB1 := hB.trans (hb1.mono hB.size)
  have x1 := o1.same hb1
  have x2 := o2.same hb1
  have x3 := o3.same hb1
  have hz := x3.lt
  have hPA := HP.out.later hB1
  have hVA := HV.out.later hB1
  have hav : ∀ i, (fun i => i = w.heap.size ∨ i = w.heap.size + 1 ∨ i = w.heap.size + 2) i → i < W1.heap.size := fun i hx => by rcases hx with hx | hx | hx <;> omega
  have hno : ∀ b, (fun i => i = w.heap.size ∨ i = w.heap.size + 1 ∨ i = w.heap.size + 2) b → NoText W1 b := fun b hb => by
    rcases hb with rfl | rfl | rfl
    · exact noText_saga (s := s) x1
    · exact noText_ev (e := ⟨6, er, ei⟩) x2
    · exact noText_zero x3
  obtain ⟨e0, e1, e2⟩ := ob_three x2
  clear o1 o2 o3 hb1 hB cM
  have cX := Lib.hid (refdone_calls (fun i => i = w.heap.size ∨ i = w.heap.size + 1 ∨ i = w.heap.size + 2) s ⟨6, er, ei⟩ 7 8 (.inl rfl) _ _ _ _ W1 HM.out hPA hVA hav)
  obtain ⟨r, hr⟩ : ∃ r, r = didS s ⟨6, er, ei⟩ 7 8 := ⟨_, rfl⟩
  rw [← hr] at cX
  unfold sagaC at cX
  unfold evC at cX
  try dsimp only at cX
  have HR := Lib.hid hr
  clear hr
  go_wp2_with (first
    | (refine wpList_load_obg (by rfl) _ _ rfl rfl _ x1 Tryz.underlying26 rfl (by kernel_rfl) ?_)
    | (refine wpList_load_obg (by rfl) _ _ rfl rfl _ x2 Tryz.underlying28 rfl (by kernel_rfl) ?_))
  refine cX.out.mono ?_
  rintro e W2 ⟨⟨uw, ug, up, ul, rfl, hP2, hS2⟩, hb2⟩
  have hB2 := hB1.trans (hb2.mono hB1.size)
  have y3 := x3.same hb2
  have hz2 := y3.lt
  obtain ⟨E1, l1, rfl, -⟩ := hP2.want.form
  obtain ⟨E3, l3, rfl, -⟩ := hP2.pend.form
  obtain ⟨us, -, hu2, -⟩ := hP2.got
  obtain ⟨E2, l2, rfl, -⟩ := hu2.form
  obtain ⟨E4, l4, rfl⟩ := hS2.form
  clear hu2 us cX x1 x2 e0 e1 e2
  obtain ⟨Y, hY⟩ : ∃ Y, Y = outS r := ⟨_, rfl⟩
  obtain ⟨L, hL⟩ : ∃ L, L = outL r := ⟨_, rfl⟩
  rw [← hY] at hP2 ⊢
  rw [← hL] at hS2 ⊢
  have HY := Lib.hid hY
  have HL := Lib.hid hL
  clear hY hL
  obtain ⟨se, hse⟩ : ∃ se, se = sagaC Y (.slice E1 Y.want.length l1) (.slice E2 Y.got.length l2) (.slice E3 Y.pending.length l3) := ⟨_, rfl⟩
  rw [← hse]
  have he1 : se.size = 10 := by rw [hse]; rfl
  have he2 : se.all (·.oneCell') = true := by rw [hse]; simp [sagaC, Value.oneCell']
  have HSE := Lib.hid hse
  clear hse
  go_wp2_with (refine wpList_store_ob (cells := se) rfl 26 (.tmp 4) (.tmp 147) rfl rfl rfl y3 he1 (by rw [he1]; kernel_rfl) he2 ?_; intro W13 ho13 hg13)
  rw [HSE.out] at ho13
  have hB13 := hB2.grown hg13 (by omega) (fun g e => by have e2 : w.heap.size + 2 = g := Option.some.inj e; omega)
  have hP13 := ((hP2).grow hg13 (.inr (.inr rfl))).more (Av' := fun _ => False) fun i _ hx => hx.elim
  have hS13 := ((hS2).grow hg13 (.inr (.inr rfl))).more (Av' := fun _ => False) fun i _ hx => hx.elim
  obtain ⟨p0, p1, p2, p3, p4, p5, p6, p7, p8, p9⟩ := ob_ten ho13
  refine bodyPost_ret (v := .tuple #[.agg (sagaC Y (.slice E1 Y.want.length l1) (.slice E2 Y.got.length l2) (.slice E3 Y.pending.length l3)), .slice E4 L.length l4, .int .i64 (outE r)]) ?_ rfl ⟨by rw [← HR.out]; unfold Ret3A; rw [← HY.out, ← HL.out]; exact ⟨_, _, _, _, rfl, hP13, hS13⟩, hB13⟩
  simp [results, Tryz.f10, go_sem, sagaC, p0, p1, p2, p3, p4, p5, p6, p7, p8, p9]

set_option maxRecDepth 100000 in
set_option maxHeartbeats 8000000 in
theorem refnext_did8 (s : Saga) (er : Int) (ei : List It.Item) (vw vg vp ve : Value) (w : World) (h : Parts w 0 w.heap.size s vw vg vp) (hv : ItemsAt w 0 w.heap.size ve ei) (hF : Fit s) (hFe : Fits ei) (hil : ei.length ≤ 1000000) (hm : mayS s = true) :
    Calls Tryz.prog 10 #[.agg (sagaC s vw vg vp), .agg (evC ⟨8, er, ei⟩ ve)] w fun e w' => Ret3A (fun _ => False) w' e (didS s ⟨8, er, ei⟩ 9 10) ∧ Below w.heap.size w w' := by
  have hmx : Tryz.prog.follows .mixedOrders = true := by kernel_rfl
  have h8 := (pend_in hm).2
  have hgl : s.got.length ≤ 1000000 := by have := (mayS_M hm).2.2; omega
  have hPA0 : PartsA (fun i => i = w.heap.size ∨ i = w.heap.size + 1 ∨ i = w.heap.size + 2) w s vw vg vp := .of h (Nat.le_refl _) (fun i _ hb hx => by omega)
  have hVA0 : SlA (fun i => i = w.heap.size ∨ i = w.heap.size + 1 ∨ i = w.heap.size + 2) w 2 ve ei.length (itemCells ei) := .of hv (Nat.le_refl _) (fun i _ hb hx => by omega)
  obtain ⟨A1, c1, rfl, -⟩ := h.want.form
  obtain ⟨A2, c2, rfl, -⟩ := h.got.form
  obtain ⟨A3, c3, rfl, -⟩ := h.pend.form
  obtain ⟨A4, c4, rfl, -⟩ := hv.form
  have HP := Lib.hid hPA0
  have HV := Lib.hid hVA0
  have HPE := Lib.hid h.pend
  have HW := Lib.hid (fun W (hb : Below w.heap.size w W) => (h.want.mono hb hb.size))
  have cM := Lib.hid (fun V (hb : Below w.heap.size w V) => refmay15_calls s _ _ _ V (h.later hb) hF)
  rw [hm] at cM
  have hal1 := (Below.refl w.heap.size w).alloc (Nat.le_refl _) (.cells #[.int .i64 s.order, .int .i64 s.first, .int .i64 s.regions, .slice A1 s.want.length c1, .bool s.waits, .int .i64 s.state, .int .i64 s.asked, .slice A2 s.got.length c2, .slice A3 s.pending.length c3, .bool s.cancelled] 26)
  have hal2 := hal1.alloc hal1.size (.cells #[.int .i64 8, .int .i64 er, .slice A4 ei.length c4] 28)
  have hB := hal2.alloc hal2.size (.cells #[.int .i64 0, .int .i64 0, .int .i64 0, .slice none 0 0, .bool false, .int .i64 0, .int .i64 0, .slice none 0 0, .slice none 0 0, .bool false] 26)
  have o1 := ((Ob.new w 26 #[.int .i64 s.order, .int .i64 s.first, .int .i64 s.regions, .slice A1 s.want.length c1, .bool s.waits, .int .i64 s.state, .int .i64 s.asked, .slice A2 s.got.length c2, .slice A3 s.pending.length c3, .bool s.cancelled]).alloc (.cells #[.int .i64 8, .int .i64 er, .slice A4 ei.length c4] 28)).alloc (.cells #[.int .i64 0, .int .i64 0, .int .i64 0, .slice none 0 0, .bool false, .int .i64 0, .int .i64 0, .slice none 0 0, .slice none 0 0, .bool false] 26)
  have o2 := (Ob.new (w.alloc (.cells #[.int .i64 s.order, .int .i64 s.first, .int .i64 s.regions, .slice A1 s.want.length c1, .bool s.waits, .int .i64 s.state, .int .i64 s.asked, .slice A2 s.got.length c2, .slice A3 s.pending.length c3, .bool s.cancelled] 26)) 28 #[.int .i64 8, .int .i64 er, .slice A4 ei.length c4]).alloc (.cells #[.int .i64 0, .int .i64 0, .int .i64 0, .slice none 0 0, .bool false, .int .i64 0, .int .i64 0, .slice none 0 0, .slice none 0 0, .bool false] 26)
  have o3 := Ob.new ((w.alloc (.cells #[.int .i64 s.order, .int .i64 s.first, .int .i64 s.regions, .slice A1 s.want.length c1, .bool s.waits, .int .i64 s.state, .int .i64 s.asked, .slice A2 s.got.length c2, .slice A3 s.pending.length c3, .bool s.cancelled] 26)).alloc (.cells #[.int .i64 8, .int .i64 er, .slice A4 ei.length c4] 28)) 26 #[.int .i64 0, .int .i64 0, .int .i64 0, .slice none 0 0, .bool false, .int .i64 0, .int .i64 0, .slice none 0 0, .slice none 0 0, .bool false]
  rw [World.size_alloc, World.size_alloc] at o3
  rw [World.size_alloc] at o2
  have HM := Lib.hid hm
  clear hal1 hal2 h hv hPA0 hVA0 hm
  unfold sagaC evC
  unfold sagaC at cM
  dsimp only
  go_enter Tryz.func10, Tryz.ntmps10
  go_upto_region 1 with (fail)
  generalize ((w.alloc (.cells #[.int .i64 s.order, .int .i64 s.first, .int .i64 s.regions, .slice A1 s.want.length c1, .bool s.waits, .int .i64 s.state, .int .i64 s.asked, .slice A2 s.got.length c2, .slice A3 s.pending.length c3, .bool s.cancelled] 26)).alloc (.cells #[.int .i64 8, .int .i64 er, .slice A4 ei.length c4] 28)).alloc (.cells #[.int .i64 0, .int .i64 0, .int .i64 0, .slice none 0 0, .bool false, .int .i64 0, .int .i64 0, .slice none 0 0, .slice none 0 0, .bool false] 26) = W0 at *
  go_wp2_with (refine wpList_load_obg (by rfl) _ _ rfl rfl _ o1 Tryz.underlying26 rfl (by kernel_rfl) ?_)
  refine (cM.out _ hB).mono ?_
  rintro e W1 ⟨rfl, hb1⟩
  have hB1 := hB.trans (hb1.mono hB.size)
  have x1 := o1.same hb1
  have x2 := o2.same hb1
  have x3 := o3.same hb1
  have hz := x3.lt
  have hPA := HP.out.later hB1
  have hVA := HV.out.later hB1
  have hav : ∀ i, (fun i => i = w.heap.size ∨ i = w.heap.size + 1 ∨ i = w.heap.size + 2) i → i < W1.heap.size := fun i hx => by rcases hx with hx | hx | hx <;> omega
  have hno : ∀ b, (fun i => i = w.heap.size ∨ i = w.heap.size + 1 ∨ i = w.heap.size + 2) b → NoText W1 b := fun b hb => by
    rcases hb with rfl | rfl | rfl
    · exact noText_saga (s := s) x1
    · exact noText_ev (e := ⟨8, er, ei⟩) x2
    · exact noText_zero x3
  obtain ⟨e0, e1, e2⟩ := ob_three x2
  clear o1 o2 o3 hb1 hB cM
  have cX := Lib.hid (refdone_calls (fun i => i = w.heap.size ∨ i = w.heap.size + 1 ∨ i = w.heap.size + 2) s ⟨8, er, ei⟩ 9 10 (.inr rfl) _ _ _ _ W1 HM.out hPA hVA hav)
  obtain ⟨r, hr⟩ : ∃ r, r = didS s ⟨8, er, ei⟩ 9 10 := ⟨_, rfl⟩
  rw [← hr] at cX
  unfold sagaC at cX
  unfold evC at cX
  try dsimp only at cX
  have HR := Lib.hid hr
  clear hr
  go_wp2_with (first
    | (refine wpList_load_obg (by rfl) _ _ rfl rfl _ x1 Tryz.underlying26 rfl (by kernel_rfl) ?_)
    | (refine wpList_load_obg (by rfl) _ _ rfl rfl _ x2 Tryz.underlying28 rfl (by kernel_rfl) ?_))
  refine cX.out.mono ?_
  rintro e W2 ⟨⟨uw, ug, up, ul, rfl, hP2, hS2⟩, hb2⟩
  have hB2 := hB1.trans (hb2.mono hB1.size)
  have y3 := x3.same hb2
  have hz2 := y3.lt
  obtain ⟨E1, l1, rfl, -⟩ := hP2.want.form
  obtain ⟨E3, l3, rfl, -⟩ := hP2.pend.form
  obtain ⟨us, -, hu2, -⟩ := hP2.got
  obtain ⟨E2, l2, rfl, -⟩ := hu2.form
  obtain ⟨E4, l4, rfl⟩ := hS2.form
  clear hu2 us cX x1 x2 e0 e1 e2
  obtain ⟨Y, hY⟩ : ∃ Y, Y = outS r := ⟨_, rfl⟩
  obtain ⟨L, hL⟩ : ∃ L, L = outL r := ⟨_, rfl⟩
  rw [← hY] at hP2 ⊢
  rw [← hL] at hS2 ⊢
  have HY := Lib.hid hY
  have HL := Lib.hid hL
  clear hY hL
  obtain ⟨se, hse⟩ : ∃ se, se = sagaC Y (.slice E1 Y.want.length l1) (.slice E2 Y.got.length l2) (.slice E3 Y.pending.length l3) := ⟨_, rfl⟩
  rw [← hse]
  have he1 : se.size = 10 := by rw [hse]; rfl
  have he2 : se.all (·.oneCell') = true := by rw [hse]; simp [sagaC, Value.oneCell']
  have HSE := Lib.hid hse
  clear hse
  go_wp2_with (refine wpList_store_ob (cells := se) rfl 26 (.tmp 4) (.tmp 155) rfl rfl rfl y3 he1 (by rw [he1]; kernel_rfl) he2 ?_; intro W13 ho13 hg13)
  rw [HSE.out] at ho13
  have hB13 := hB2.grown hg13 (by omega) (fun g e => by have e2 : w.heap.size + 2 = g := Option.some.inj e; omega)
  have hP13 := ((hP2).grow hg13 (.inr (.inr rfl))).more (Av' := fun _ => False) fun i _ hx => hx.elim
  have hS13 := ((hS2).grow hg13 (.inr (.inr rfl))).more (Av' := fun _ => False) fun i _ hx => hx.elim
  obtain ⟨p0, p1, p2, p3, p4, p5, p6, p7, p8, p9⟩ := ob_ten ho13
  refine bodyPost_ret (v := .tuple #[.agg (sagaC Y (.slice E1 Y.want.length l1) (.slice E2 Y.got.length l2) (.slice E3 Y.pending.length l3)), .slice E4 L.length l4, .int .i64 (outE r)]) ?_ rfl ⟨by rw [← HR.out]; unfold Ret3A; rw [← HY.out, ← HL.out]; exact ⟨_, _, _, _, rfl, hP13, hS13⟩, hB13⟩
  simp [results, Tryz.f10, go_sem, sagaC, p0, p1, p2, p3, p4, p5, p6, p7, p8, p9]

set_option maxRecDepth 100000 in
set_option maxHeartbeats 8000000 in
theorem refnext_pick (s : Saga) (er : Int) (ei : List It.Item) (vw vg vp ve : Value) (w : World) (h : Parts w 0 w.heap.size s vw vg vp) (hv : ItemsAt w 0 w.heap.size ve ei) (hF : Fit s) (hFe : Fits ei) (hil : ei.length ≤ 1000000) (hm : mayS s = true) :
    Calls Tryz.prog 10 #[.agg (sagaC s vw vg vp), .agg (evC ⟨5, er, ei⟩ ve)] w fun e w' => Ret3A (fun _ => False) w' e (allS s 2 7 7) ∧ Below w.heap.size w w' := by
  have hmx : Tryz.prog.follows .mixedOrders = true := by kernel_rfl
  have h8 := (pend_in hm).2
  have hgl : s.got.length ≤ 1000000 := by have := (mayS_M hm).2.2; omega
  have hPA0 : PartsA (fun i => i = w.heap.size ∨ i = w.heap.size + 1 ∨ i = w.heap.size + 2) w s vw vg vp := .of h (Nat.le_refl _) (fun i _ hb hx => by omega)
  have hVA0 : SlA (fun i => i = w.heap.size ∨ i = w.heap.size + 1 ∨ i = w.heap.size + 2) w 2 ve ei.length (itemCells ei) := .of hv (Nat.le_refl _) (fun i _ hb hx => by omega)
  obtain ⟨A1, c1, rfl, -⟩ := h.want.form
  obtain ⟨A2, c2, rfl, -⟩ := h.got.form
  obtain ⟨A3, c3, rfl, -⟩ := h.pend.form
  obtain ⟨A4, c4, rfl, -⟩ := hv.form
  have HP := Lib.hid hPA0
  have HV := Lib.hid hVA0
  have HPE := Lib.hid h.pend
  have HW := Lib.hid (fun W (hb : Below w.heap.size w W) => (h.want.mono hb hb.size))
  have cM := Lib.hid (fun V (hb : Below w.heap.size w V) => refmay15_calls s _ _ _ V (h.later hb) hF)
  rw [hm] at cM
  have hal1 := (Below.refl w.heap.size w).alloc (Nat.le_refl _) (.cells #[.int .i64 s.order, .int .i64 s.first, .int .i64 s.regions, .slice A1 s.want.length c1, .bool s.waits, .int .i64 s.state, .int .i64 s.asked, .slice A2 s.got.length c2, .slice A3 s.pending.length c3, .bool s.cancelled] 26)
  have hal2 := hal1.alloc hal1.size (.cells #[.int .i64 5, .int .i64 er, .slice A4 ei.length c4] 28)
  have hB := hal2.alloc hal2.size (.cells #[.int .i64 0, .int .i64 0, .int .i64 0, .slice none 0 0, .bool false, .int .i64 0, .int .i64 0, .slice none 0 0, .slice none 0 0, .bool false] 26)
  have o1 := ((Ob.new w 26 #[.int .i64 s.order, .int .i64 s.first, .int .i64 s.regions, .slice A1 s.want.length c1, .bool s.waits, .int .i64 s.state, .int .i64 s.asked, .slice A2 s.got.length c2, .slice A3 s.pending.length c3, .bool s.cancelled]).alloc (.cells #[.int .i64 5, .int .i64 er, .slice A4 ei.length c4] 28)).alloc (.cells #[.int .i64 0, .int .i64 0, .int .i64 0, .slice none 0 0, .bool false, .int .i64 0, .int .i64 0, .slice none 0 0, .slice none 0 0, .bool false] 26)
  have o2 := (Ob.new (w.alloc (.cells #[.int .i64 s.order, .int .i64 s.first, .int .i64 s.regions, .slice A1 s.want.length c1, .bool s.waits, .int .i64 s.state, .int .i64 s.asked, .slice A2 s.got.length c2, .slice A3 s.pending.length c3, .bool s.cancelled] 26)) 28 #[.int .i64 5, .int .i64 er, .slice A4 ei.length c4]).alloc (.cells #[.int .i64 0, .int .i64 0, .int .i64 0, .slice none 0 0, .bool false, .int .i64 0, .int .i64 0, .slice none 0 0, .slice none 0 0, .bool false] 26)
  have o3 := Ob.new ((w.alloc (.cells #[.int .i64 s.order, .int .i64 s.first, .int .i64 s.regions, .slice A1 s.want.length c1, .bool s.waits, .int .i64 s.state, .int .i64 s.asked, .slice A2 s.got.length c2, .slice A3 s.pending.length c3, .bool s.cancelled] 26)).alloc (.cells #[.int .i64 5, .int .i64 er, .slice A4 ei.length c4] 28)) 26 #[.int .i64 0, .int .i64 0, .int .i64 0, .slice none 0 0, .bool false, .int .i64 0, .int .i64 0, .slice none 0 0, .slice none 0 0, .bool false]
  rw [World.size_alloc, World.size_alloc] at o3
  rw [World.size_alloc] at o2
  have HM := Lib.hid hm
  clear hal1 hal2 h hv hPA0 hVA0 hm
  unfold sagaC evC
  unfold sagaC at cM
  dsimp only
  go_enter Tryz.func10, Tryz.ntmps10
  go_upto_region 1 with (fail)
  generalize ((w.alloc (.cells #[.int .i64 s.order, .int .i64 s.first, .int .i64 s.regions, .slice A1 s.want.length c1, .bool s.waits, .int .i64 s.state, .int .i64 s.asked, .slice A2 s.got.length c2, .slice A3 s.pending.length c3, .bool s.cancelled] 26)).alloc (.cells #[.int .i64 5, .int .i64 er, .slice A4 ei.length c4] 28)).alloc (.cells #[.int .i64 0, .int .i64 0, .int .i64 0, .slice none 0 0, .bool false, .int .i64 0, .int .i64 0, .slice none 0 0, .slice none 0 0, .bool false] 26) = W0 at *
  go_wp2_with (refine wpList_load_obg (by rfl) _ _ rfl rfl _ o1 Tryz.underlying26 rfl (by kernel_rfl) ?_)
  refine (cM.out _ hB).mono ?_
  rintro e W1 ⟨rfl, hb1⟩
  have hB1 := hB.trans (hb1.mono hB.size)
  have x1 := o1.same hb1
  have x2 := o2.same hb1
  have x3 := o3.same hb1
  have hz := x3.lt
  have hPA := HP.out.later hB1
  have hVA := HV.out.later hB1
  have hav : ∀ i, (fun i => i = w.heap.size ∨ i = w.heap.size + 1 ∨ i = w.heap.size + 2) i → i < W1.heap.size := fun i hx => by rcases hx with hx | hx | hx <;> omega
  have hno : ∀ b, (fun i => i = w.heap.size ∨ i = w.heap.size + 1 ∨ i = w.heap.size + 2) b → NoText W1 b := fun b hb => by
    rcases hb with rfl | rfl | rfl
    · exact noText_saga (s := s) x1
    · exact noText_ev (e := ⟨5, er, ei⟩) x2
    · exact noText_zero x3
  obtain ⟨e0, e1, e2⟩ := ob_three x2
  clear o1 o2 o3 hb1 hB cM
  obtain ⟨-, -, -, -, -, k5, -, -, -, -⟩ := ob_ten x1
  rcases neq_cases s.state 2 with ⟨h1, d1, d2, d3⟩ | ⟨h1, d1, d2, d3⟩
  rotate_left
  · have hr := Lib.hid (show allS s 2 7 7 = .error 80 by unfold allS; rw [if_neg h1])
    clear h1
    go_wp2_with (refine wpList_store_ob (cells := #[.int .i64 0, .int .i64 0, .int .i64 0, .slice none 0 0, .bool false, .int .i64 0, .int .i64 0, .slice none 0 0, .slice none 0 0, .bool false]) rfl 26 (.tmp 4) (.tmp 158) rfl rfl rfl x3 rfl (by kernel_rfl) (by simp [Value.oneCell']) ?_; intro W10 ho10 hg10)
    have hB10 := hB1.grown hg10 (by omega) (fun g e => by have e2 : w.heap.size + 2 = g := Option.some.inj e; omega)
    obtain ⟨p0, p1, p2, p3, p4, p5, p6, p7, p8, p9⟩ := ob_ten ho10
    refine bodyPost_ret (v := .tuple #[.agg #[.int .i64 0, .int .i64 0, .int .i64 0, .slice none 0 0, .bool false, .int .i64 0, .int .i64 0, .slice none 0 0, .slice none 0 0, .bool false], .slice none 0 0, .int .i64 80]) ?_ rfl ⟨by rw [hr.out]; exact ⟨_, _, _, _, rfl, partsA0 _ _, StepsA.nil _ _⟩, hB10⟩
    simp [results, Tryz.f10, go_sem, p0, p1, p2, p3, p4, p5, p6, p7, p8, p9]
  have hr := Lib.hid (show allS s 2 7 7 = .ok (eachS s 7, eachL 7 (holders s.got)) by unfold allS; rw [if_pos h1])
  clear h1
  have cX := Lib.hid (refall_calls (fun i => i = w.heap.size ∨ i = w.heap.size + 1 ∨ i = w.heap.size + 2) s 7 7 _ _ _ W1 hPA hav hgl)
  unfold sagaC at cX
  try dsimp only at cX
  go_wp2_with (refine wpList_load_obg (by rfl) _ _ rfl rfl _ x1 Tryz.underlying26 rfl (by kernel_rfl) ?_)
  refine cX.out.mono ?_
  rintro e W2 ⟨⟨uw, ug, up, ul, rfl, hP2, hS2⟩, hb2⟩
  have hB2 := hB1.trans (hb2.mono hB1.size)
  have y1 := x1.same hb2
  have y3 := x3.same hb2
  have hz2 := y3.lt
  have hbs := hb2.size
  obtain ⟨E1, l1, rfl, -⟩ := hP2.want.form
  obtain ⟨E3, l3, rfl, -⟩ := hP2.pend.form
  obtain ⟨us, -, hu2, -⟩ := hP2.got
  obtain ⟨E2, l2, rfl, -⟩ := hu2.form
  obtain ⟨E4, l4, rfl, -⟩ := hS2.form
  have hS2 := StepsA.of (Av := (fun i => i = w.heap.size ∨ i = w.heap.size + 1 ∨ i = w.heap.size + 2)) hS2 (Nat.le_refl _) (fun i ha _ hx => by rcases hx with hx | hx | hx <;> omega)
  clear hu2 us cX
  obtain ⟨Y, hY⟩ : ∃ Y : Saga, Y = eachS s 7 := ⟨_, rfl⟩
  obtain ⟨L, hL⟩ : ∃ L : List Step, L = eachL 7 (holders s.got) := ⟨_, rfl⟩
  rw [← hY] at hP2 ⊢
  rw [← hL] at hS2 ⊢
  have HY := Lib.hid hY
  have HL := Lib.hid hL
  clear hY hL
  obtain ⟨se, hse⟩ : ∃ se, se = sagaC Y (.slice E1 Y.want.length l1) (.slice E2 Y.got.length l2) (.slice E3 Y.pending.length l3) := ⟨_, rfl⟩
  rw [← hse]
  have he1 : se.size = 10 := by rw [hse]; rfl
  have he2 : se.all (·.oneCell') = true := by rw [hse]; simp [sagaC, Value.oneCell']
  have HSE := Lib.hid hse
  have HX := Lib.hid (And.intro hP2 (And.intro hS2 hB2))
  clear hse hP2 hS2 hB2
  go_wp2_with (first
    | (refine wpList_store_ob (cells := se) rfl 26 (.tmp 2) (.tmp 126) rfl rfl rfl y1 he1 (by rw [he1]; kernel_rfl) he2 ?_
       intro W3 ho3 hg3
       have z3 := y3.kept hg3 (fun e => by have e2 : w.heap.size + 2 = w.heap.size := Option.some.inj e; omega))
    | (refine wpList_load_obg (by rfl) _ _ rfl rfl _ ho3 Tryz.underlying26 rfl (by rw [he1]; kernel_rfl) ?_)
    | (refine wpList_store_ob (cells := se) rfl 26 (.tmp 4) (.tmp 128) rfl rfl rfl z3 he1 (by rw [he1]; kernel_rfl) he2 ?_; intro W13 ho13 hg13))
  obtain ⟨hP2, hS2, hB2⟩ := HX.out
  have hzz := z3.lt
  have hP3 := hP2.grow hg3 (.inl rfl)
  have hS3 := hS2.grow hg3 (.inl rfl)
  have hB3 := hB2.grown hg3 (by omega) (fun g e => by have e2 : w.heap.size = g := Option.some.inj e; omega)
  rw [HSE.out] at ho13
  have hB13 := hB3.grown hg13 (by omega) (fun g e => by have e2 : w.heap.size + 2 = g := Option.some.inj e; omega)
  have hP13 := ((hP3).grow hg13 (.inr (.inr rfl))).more (Av' := fun _ => False) fun i _ hx => hx.elim
  have hS13 := ((hS3).grow hg13 (.inr (.inr rfl))).more (Av' := fun _ => False) fun i _ hx => hx.elim
  obtain ⟨p0, p1, p2, p3, p4, p5, p6, p7, p8, p9⟩ := ob_ten ho13
  refine bodyPost_ret (v := .tuple #[.agg (sagaC Y (.slice E1 Y.want.length l1) (.slice E2 Y.got.length l2) (.slice E3 Y.pending.length l3)), .slice E4 L.length l4, .int .i64 0]) ?_ rfl ⟨by rw [hr.out]; show Ret3A _ _ _ (.ok (_, _)); rw [← HY.out, ← HL.out]; exact ⟨_, _, _, _, rfl, hP13, hS13⟩, hB13⟩
  simp [results, Tryz.f10, go_sem, sagaC, p0, p1, p2, p3, p4, p5, p6, p7, p8, p9]

set_option maxRecDepth 100000 in
set_option maxHeartbeats 8000000 in
theorem refnext_ship (s : Saga) (er : Int) (ei : List It.Item) (vw vg vp ve : Value) (w : World) (h : Parts w 0 w.heap.size s vw vg vp) (hv : ItemsAt w 0 w.heap.size ve ei) (hF : Fit s) (hFe : Fits ei) (hil : ei.length ≤ 1000000) (hm : mayS s = true) :
    Calls Tryz.prog 10 #[.agg (sagaC s vw vg vp), .agg (evC ⟨7, er, ei⟩ ve)] w fun e w' => Ret3A (fun _ => False) w' e (allS s 8 9 9) ∧ Below w.heap.size w w' := by
  have hmx : Tryz.prog.follows .mixedOrders = true := by kernel_rfl
  have h8 := (pend_in hm).2
  have hgl : s.got.length ≤ 1000000 := by have := (mayS_M hm).2.2; omega
  have hPA0 : PartsA (fun i => i = w.heap.size ∨ i = w.heap.size + 1 ∨ i = w.heap.size + 2) w s vw vg vp := .of h (Nat.le_refl _) (fun i _ hb hx => by omega)
  have hVA0 : SlA (fun i => i = w.heap.size ∨ i = w.heap.size + 1 ∨ i = w.heap.size + 2) w 2 ve ei.length (itemCells ei) := .of hv (Nat.le_refl _) (fun i _ hb hx => by omega)
  obtain ⟨A1, c1, rfl, -⟩ := h.want.form
  obtain ⟨A2, c2, rfl, -⟩ := h.got.form
  obtain ⟨A3, c3, rfl, -⟩ := h.pend.form
  obtain ⟨A4, c4, rfl, -⟩ := hv.form
  have HP := Lib.hid hPA0
  have HV := Lib.hid hVA0
  have HPE := Lib.hid h.pend
  have HW := Lib.hid (fun W (hb : Below w.heap.size w W) => (h.want.mono hb hb.size))
  have cM := Lib.hid (fun V (hb : Below w.heap.size w V) => refmay15_calls s _ _ _ V (h.later hb) hF)
  rw [hm] at cM
  have hal1 := (Below.refl w.heap.size w).alloc (Nat.le_refl _) (.cells #[.int .i64 s.order, .int .i64 s.first, .int .i64 s.regions, .slice A1 s.want.length c1, .bool s.waits, .int .i64 s.state, .int .i64 s.asked, .slice A2 s.got.length c2, .slice A3 s.pending.length c3, .bool s.cancelled] 26)
  have hal2 := hal1.alloc hal1.size (.cells #[.int .i64 7, .int .i64 er, .slice A4 ei.length c4] 28)
  have hB := hal2.alloc hal2.size (.cells #[.int .i64 0, .int .i64 0, .int .i64 0, .slice none 0 0, .bool false, .int .i64 0, .int .i64 0, .slice none 0 0, .slice none 0 0, .bool false] 26)
  have o1 := ((Ob.new w 26 #[.int .i64 s.order, .int .i64 s.first, .int .i64 s.regions, .slice A1 s.want.length c1, .bool s.waits, .int .i64 s.state, .int .i64 s.asked, .slice A2 s.got.length c2, .slice A3 s.pending.length c3, .bool s.cancelled]).alloc (.cells #[.int .i64 7, .int .i64 er, .slice A4 ei.length c4] 28)).alloc (.cells #[.int .i64 0, .int .i64 0, .int .i64 0, .slice none 0 0, .bool false, .int .i64 0, .int .i64 0, .slice none 0 0, .slice none 0 0, .bool false] 26)
  have o2 := (Ob.new (w.alloc (.cells #[.int .i64 s.order, .int .i64 s.first, .int .i64 s.regions, .slice A1 s.want.length c1, .bool s.waits, .int .i64 s.state, .int .i64 s.asked, .slice A2 s.got.length c2, .slice A3 s.pending.length c3, .bool s.cancelled] 26)) 28 #[.int .i64 7, .int .i64 er, .slice A4 ei.length c4]).alloc (.cells #[.int .i64 0, .int .i64 0, .int .i64 0, .slice none 0 0, .bool false, .int .i64 0, .int .i64 0, .slice none 0 0, .slice none 0 0, .bool false] 26)
  have o3 := Ob.new ((w.alloc (.cells #[.int .i64 s.order, .int .i64 s.first, .int .i64 s.regions, .slice A1 s.want.length c1, .bool s.waits, .int .i64 s.state, .int .i64 s.asked, .slice A2 s.got.length c2, .slice A3 s.pending.length c3, .bool s.cancelled] 26)).alloc (.cells #[.int .i64 7, .int .i64 er, .slice A4 ei.length c4] 28)) 26 #[.int .i64 0, .int .i64 0, .int .i64 0, .slice none 0 0, .bool false, .int .i64 0, .int .i64 0, .slice none 0 0, .slice none 0 0, .bool false]
  rw [World.size_alloc, World.size_alloc] at o3
  rw [World.size_alloc] at o2
  have HM := Lib.hid hm
  clear hal1 hal2 h hv hPA0 hVA0 hm
  unfold sagaC evC
  unfold sagaC at cM
  dsimp only
  go_enter Tryz.func10, Tryz.ntmps10
  go_upto_region 1 with (fail)
  generalize ((w.alloc (.cells #[.int .i64 s.order, .int .i64 s.first, .int .i64 s.regions, .slice A1 s.want.length c1, .bool s.waits, .int .i64 s.state, .int .i64 s.asked, .slice A2 s.got.length c2, .slice A3 s.pending.length c3, .bool s.cancelled] 26)).alloc (.cells #[.int .i64 7, .int .i64 er, .slice A4 ei.length c4] 28)).alloc (.cells #[.int .i64 0, .int .i64 0, .int .i64 0, .slice none 0 0, .bool false, .int .i64 0, .int .i64 0, .slice none 0 0, .slice none 0 0, .bool false] 26) = W0 at *
  go_wp2_with (refine wpList_load_obg (by rfl) _ _ rfl rfl _ o1 Tryz.underlying26 rfl (by kernel_rfl) ?_)
  refine (cM.out _ hB).mono ?_
  rintro e W1 ⟨rfl, hb1⟩
  have hB1 := hB.trans (hb1.mono hB.size)
  have x1 := o1.same hb1
  have x2 := o2.same hb1
  have x3 := o3.same hb1
  have hz := x3.lt
  have hPA := HP.out.later hB1
  have hVA := HV.out.later hB1
  have hav : ∀ i, (fun i => i = w.heap.size ∨ i = w.heap.size + 1 ∨ i = w.heap.size + 2) i → i < W1.heap.size := fun i hx => by rcases hx with hx | hx | hx <;> omega
  have hno : ∀ b, (fun i => i = w.heap.size ∨ i = w.heap.size + 1 ∨ i = w.heap.size + 2) b → NoText W1 b := fun b hb => by
    rcases hb with rfl | rfl | rfl
    · exact noText_saga (s := s) x1
    · exact noText_ev (e := ⟨7, er, ei⟩) x2
    · exact noText_zero x3
  obtain ⟨e0, e1, e2⟩ := ob_three x2
  clear o1 o2 o3 hb1 hB cM
  obtain ⟨-, -, -, -, -, k5, -, -, -, -⟩ := ob_ten x1
  rcases neq_cases s.state 8 with ⟨h1, d1, d2, d3⟩ | ⟨h1, d1, d2, d3⟩
  rotate_left
  · have hr := Lib.hid (show allS s 8 9 9 = .error 80 by unfold allS; rw [if_neg h1])
    clear h1
    go_wp2_with (refine wpList_store_ob (cells := #[.int .i64 0, .int .i64 0, .int .i64 0, .slice none 0 0, .bool false, .int .i64 0, .int .i64 0, .slice none 0 0, .slice none 0 0, .bool false]) rfl 26 (.tmp 4) (.tmp 158) rfl rfl rfl x3 rfl (by kernel_rfl) (by simp [Value.oneCell']) ?_; intro W10 ho10 hg10)
    have hB10 := hB1.grown hg10 (by omega) (fun g e => by have e2 : w.heap.size + 2 = g := Option.some.inj e; omega)
    obtain ⟨p0, p1, p2, p3, p4, p5, p6, p7, p8, p9⟩ := ob_ten ho10
    refine bodyPost_ret (v := .tuple #[.agg #[.int .i64 0, .int .i64 0, .int .i64 0, .slice none 0 0, .bool false, .int .i64 0, .int .i64 0, .slice none 0 0, .slice none 0 0, .bool false], .slice none 0 0, .int .i64 80]) ?_ rfl ⟨by rw [hr.out]; exact ⟨_, _, _, _, rfl, partsA0 _ _, StepsA.nil _ _⟩, hB10⟩
    simp [results, Tryz.f10, go_sem, p0, p1, p2, p3, p4, p5, p6, p7, p8, p9]
  have hr := Lib.hid (show allS s 8 9 9 = .ok (eachS s 9, eachL 9 (holders s.got)) by unfold allS; rw [if_pos h1])
  clear h1
  have cX := Lib.hid (refall_calls (fun i => i = w.heap.size ∨ i = w.heap.size + 1 ∨ i = w.heap.size + 2) s 9 9 _ _ _ W1 hPA hav hgl)
  unfold sagaC at cX
  try dsimp only at cX
  go_wp2_with (refine wpList_load_obg (by rfl) _ _ rfl rfl _ x1 Tryz.underlying26 rfl (by kernel_rfl) ?_)
  refine cX.out.mono ?_
  rintro e W2 ⟨⟨uw, ug, up, ul, rfl, hP2, hS2⟩, hb2⟩
  have hB2 := hB1.trans (hb2.mono hB1.size)
  have y1 := x1.same hb2
  have y3 := x3.same hb2
  have hz2 := y3.lt
  have hbs := hb2.size
  obtain ⟨E1, l1, rfl, -⟩ := hP2.want.form
  obtain ⟨E3, l3, rfl, -⟩ := hP2.pend.form
  obtain ⟨us, -, hu2, -⟩ := hP2.got
  obtain ⟨E2, l2, rfl, -⟩ := hu2.form
  obtain ⟨E4, l4, rfl, -⟩ := hS2.form
  have hS2 := StepsA.of (Av := (fun i => i = w.heap.size ∨ i = w.heap.size + 1 ∨ i = w.heap.size + 2)) hS2 (Nat.le_refl _) (fun i ha _ hx => by rcases hx with hx | hx | hx <;> omega)
  clear hu2 us cX
  obtain ⟨Y, hY⟩ : ∃ Y : Saga, Y = eachS s 9 := ⟨_, rfl⟩
  obtain ⟨L, hL⟩ : ∃ L : List Step, L = eachL 9 (holders s.got) := ⟨_, rfl⟩
  rw [← hY] at hP2 ⊢
  rw [← hL] at hS2 ⊢
  have HY := Lib.hid hY
  have HL := Lib.hid hL
  clear hY hL
  obtain ⟨se, hse⟩ : ∃ se, se = sagaC Y (.slice E1 Y.want.length l1) (.slice E2 Y.got.length l2) (.slice E3 Y.pending.length l3) := ⟨_, rfl⟩
  rw [← hse]
  have he1 : se.size = 10 := by rw [hse]; rfl
  have he2 : se.all (·.oneCell') = true := by rw [hse]; simp [sagaC, Value.oneCell']
  have HSE := Lib.hid hse
  have HX := Lib.hid (And.intro hP2 (And.intro hS2 hB2))
  clear hse hP2 hS2 hB2
  go_wp2_with (first
    | (refine wpList_store_ob (cells := se) rfl 26 (.tmp 2) (.tmp 138) rfl rfl rfl y1 he1 (by rw [he1]; kernel_rfl) he2 ?_
       intro W3 ho3 hg3
       have z3 := y3.kept hg3 (fun e => by have e2 : w.heap.size + 2 = w.heap.size := Option.some.inj e; omega))
    | (refine wpList_load_obg (by rfl) _ _ rfl rfl _ ho3 Tryz.underlying26 rfl (by rw [he1]; kernel_rfl) ?_)
    | (refine wpList_store_ob (cells := se) rfl 26 (.tmp 4) (.tmp 140) rfl rfl rfl z3 he1 (by rw [he1]; kernel_rfl) he2 ?_; intro W13 ho13 hg13))
  obtain ⟨hP2, hS2, hB2⟩ := HX.out
  have hzz := z3.lt
  have hP3 := hP2.grow hg3 (.inl rfl)
  have hS3 := hS2.grow hg3 (.inl rfl)
  have hB3 := hB2.grown hg3 (by omega) (fun g e => by have e2 : w.heap.size = g := Option.some.inj e; omega)
  rw [HSE.out] at ho13
  have hB13 := hB3.grown hg13 (by omega) (fun g e => by have e2 : w.heap.size + 2 = g := Option.some.inj e; omega)
  have hP13 := ((hP3).grow hg13 (.inr (.inr rfl))).more (Av' := fun _ => False) fun i _ hx => hx.elim
  have hS13 := ((hS3).grow hg13 (.inr (.inr rfl))).more (Av' := fun _ => False) fun i _ hx => hx.elim
  obtain ⟨p0, p1, p2, p3, p4, p5, p6, p7, p8, p9⟩ := ob_ten ho13
  refine bodyPost_ret (v := .tuple #[.agg (sagaC Y (.slice E1 Y.want.length l1) (.slice E2 Y.got.length l2) (.slice E3 Y.pending.length l3)), .slice E4 L.length l4, .int .i64 0]) ?_ rfl ⟨by rw [hr.out]; show Ret3A _ _ _ (.ok (_, _)); rw [← HY.out, ← HL.out]; exact ⟨_, _, _, _, rfl, hP13, hS13⟩, hB13⟩
  simp [results, Tryz.f10, go_sem, sagaC, p0, p1, p2, p3, p4, p5, p6, p7, p8, p9]

set_option maxRecDepth 100000 in
set_option maxHeartbeats 8000000 in
theorem refnext_retry (s : Saga) (er : Int) (ei : List It.Item) (vw vg vp ve : Value) (w : World) (h : Parts w 0 w.heap.size s vw vg vp) (hv : ItemsAt w 0 w.heap.size ve ei) (hF : Fit s) (hFe : Fits ei) (hil : ei.length ≤ 1000000) (hm : mayS s = true) :
    Calls Tryz.prog 10 #[.agg (sagaC s vw vg vp), .agg (evC ⟨4, er, ei⟩ ve)] w fun e w' => Ret3A (fun _ => False) w' e (retryS s) ∧ Below w.heap.size w w' := by
  have hmx : Tryz.prog.follows .mixedOrders = true := by kernel_rfl
  have h8 := (pend_in hm).2
  have hgl : s.got.length ≤ 1000000 := by have := (mayS_M hm).2.2; omega
  have hPA0 : PartsA (fun i => i = w.heap.size ∨ i = w.heap.size + 1 ∨ i = w.heap.size + 2) w s vw vg vp := .of h (Nat.le_refl _) (fun i _ hb hx => by omega)
  have hVA0 : SlA (fun i => i = w.heap.size ∨ i = w.heap.size + 1 ∨ i = w.heap.size + 2) w 2 ve ei.length (itemCells ei) := .of hv (Nat.le_refl _) (fun i _ hb hx => by omega)
  obtain ⟨A1, c1, rfl, -⟩ := h.want.form
  obtain ⟨A2, c2, rfl, -⟩ := h.got.form
  obtain ⟨A3, c3, rfl, -⟩ := h.pend.form
  obtain ⟨A4, c4, rfl, -⟩ := hv.form
  have HP := Lib.hid hPA0
  have HV := Lib.hid hVA0
  have HPE := Lib.hid h.pend
  have HW := Lib.hid (fun W (hb : Below w.heap.size w W) => (h.want.mono hb hb.size))
  have cM := Lib.hid (fun V (hb : Below w.heap.size w V) => refmay15_calls s _ _ _ V (h.later hb) hF)
  rw [hm] at cM
  have hal1 := (Below.refl w.heap.size w).alloc (Nat.le_refl _) (.cells #[.int .i64 s.order, .int .i64 s.first, .int .i64 s.regions, .slice A1 s.want.length c1, .bool s.waits, .int .i64 s.state, .int .i64 s.asked, .slice A2 s.got.length c2, .slice A3 s.pending.length c3, .bool s.cancelled] 26)
  have hal2 := hal1.alloc hal1.size (.cells #[.int .i64 4, .int .i64 er, .slice A4 ei.length c4] 28)
  have hB := hal2.alloc hal2.size (.cells #[.int .i64 0, .int .i64 0, .int .i64 0, .slice none 0 0, .bool false, .int .i64 0, .int .i64 0, .slice none 0 0, .slice none 0 0, .bool false] 26)
  have o1 := ((Ob.new w 26 #[.int .i64 s.order, .int .i64 s.first, .int .i64 s.regions, .slice A1 s.want.length c1, .bool s.waits, .int .i64 s.state, .int .i64 s.asked, .slice A2 s.got.length c2, .slice A3 s.pending.length c3, .bool s.cancelled]).alloc (.cells #[.int .i64 4, .int .i64 er, .slice A4 ei.length c4] 28)).alloc (.cells #[.int .i64 0, .int .i64 0, .int .i64 0, .slice none 0 0, .bool false, .int .i64 0, .int .i64 0, .slice none 0 0, .slice none 0 0, .bool false] 26)
  have o2 := (Ob.new (w.alloc (.cells #[.int .i64 s.order, .int .i64 s.first, .int .i64 s.regions, .slice A1 s.want.length c1, .bool s.waits, .int .i64 s.state, .int .i64 s.asked, .slice A2 s.got.length c2, .slice A3 s.pending.length c3, .bool s.cancelled] 26)) 28 #[.int .i64 4, .int .i64 er, .slice A4 ei.length c4]).alloc (.cells #[.int .i64 0, .int .i64 0, .int .i64 0, .slice none 0 0, .bool false, .int .i64 0, .int .i64 0, .slice none 0 0, .slice none 0 0, .bool false] 26)
  have o3 := Ob.new ((w.alloc (.cells #[.int .i64 s.order, .int .i64 s.first, .int .i64 s.regions, .slice A1 s.want.length c1, .bool s.waits, .int .i64 s.state, .int .i64 s.asked, .slice A2 s.got.length c2, .slice A3 s.pending.length c3, .bool s.cancelled] 26)).alloc (.cells #[.int .i64 4, .int .i64 er, .slice A4 ei.length c4] 28)) 26 #[.int .i64 0, .int .i64 0, .int .i64 0, .slice none 0 0, .bool false, .int .i64 0, .int .i64 0, .slice none 0 0, .slice none 0 0, .bool false]
  rw [World.size_alloc, World.size_alloc] at o3
  rw [World.size_alloc] at o2
  have HM := Lib.hid hm
  clear hal1 hal2 h hv hPA0 hVA0 hm
  unfold sagaC evC
  unfold sagaC at cM
  dsimp only
  go_enter Tryz.func10, Tryz.ntmps10
  go_upto_region 1 with (fail)
  generalize ((w.alloc (.cells #[.int .i64 s.order, .int .i64 s.first, .int .i64 s.regions, .slice A1 s.want.length c1, .bool s.waits, .int .i64 s.state, .int .i64 s.asked, .slice A2 s.got.length c2, .slice A3 s.pending.length c3, .bool s.cancelled] 26)).alloc (.cells #[.int .i64 4, .int .i64 er, .slice A4 ei.length c4] 28)).alloc (.cells #[.int .i64 0, .int .i64 0, .int .i64 0, .slice none 0 0, .bool false, .int .i64 0, .int .i64 0, .slice none 0 0, .slice none 0 0, .bool false] 26) = W0 at *
  go_wp2_with (refine wpList_load_obg (by rfl) _ _ rfl rfl _ o1 Tryz.underlying26 rfl (by kernel_rfl) ?_)
  refine (cM.out _ hB).mono ?_
  rintro e W1 ⟨rfl, hb1⟩
  have hB1 := hB.trans (hb1.mono hB.size)
  have x1 := o1.same hb1
  have x2 := o2.same hb1
  have x3 := o3.same hb1
  have hz := x3.lt
  have hPA := HP.out.later hB1
  have hVA := HV.out.later hB1
  have hav : ∀ i, (fun i => i = w.heap.size ∨ i = w.heap.size + 1 ∨ i = w.heap.size + 2) i → i < W1.heap.size := fun i hx => by rcases hx with hx | hx | hx <;> omega
  have hno : ∀ b, (fun i => i = w.heap.size ∨ i = w.heap.size + 1 ∨ i = w.heap.size + 2) b → NoText W1 b := fun b hb => by
    rcases hb with rfl | rfl | rfl
    · exact noText_saga (s := s) x1
    · exact noText_ev (e := ⟨4, er, ei⟩) x2
    · exact noText_zero x3
  obtain ⟨e0, e1, e2⟩ := ob_three x2
  clear o1 o2 o3 hb1 hB cM
  obtain ⟨k0, k1, k2, k3, k4, k5, -, -, -, -⟩ := ob_ten x1
  rcases neq_cases s.state 3 with ⟨h1, d1, d2, d3⟩ | ⟨h1, d1, d2, d3⟩
  rotate_left
  · have hr := Lib.hid (show retryS s = .error 80 by unfold retryS; rw [if_neg h1])
    clear h1 k0 k1 k2 k3 k4
    go_wp2_with (refine wpList_store_ob (cells := #[.int .i64 0, .int .i64 0, .int .i64 0, .slice none 0 0, .bool false, .int .i64 0, .int .i64 0, .slice none 0 0, .slice none 0 0, .bool false]) rfl 26 (.tmp 4) (.tmp 158) rfl rfl rfl x3 rfl (by kernel_rfl) (by simp [Value.oneCell']) ?_; intro W10 ho10 hg10)
    have hB10 := hB1.grown hg10 (by omega) (fun g e => by have e2 : w.heap.size + 2 = g := Option.some.inj e; omega)
    obtain ⟨p0, p1, p2, p3, p4, p5, p6, p7, p8, p9⟩ := ob_ten ho10
    refine bodyPost_ret (v := .tuple #[.agg #[.int .i64 0, .int .i64 0, .int .i64 0, .slice none 0 0, .bool false, .int .i64 0, .int .i64 0, .slice none 0 0, .slice none 0 0, .bool false], .slice none 0 0, .int .i64 80]) ?_ rfl ⟨by rw [hr.out]; exact ⟨_, _, _, _, rfl, partsA0 _ _, StepsA.nil _ _⟩, hB10⟩
    simp [results, Tryz.f10, go_sem, p0, p1, p2, p3, p4, p5, p6, p7, p8, p9]
  have hq := Lib.hid (show retryS s = beginS s.order s.first s.regions s.want s.waits by unfold retryS; rw [if_pos h1])
  clear h1
  have cX := Lib.hid (refbegin_A (fun i => i = w.heap.size ∨ i = w.heap.size + 1 ∨ i = w.heap.size + 2) s.order s.first s.regions s.want s.waits _ W1 hPA.want hav hF.want)
  obtain ⟨r, hr⟩ : ∃ r, r = beginS s.order s.first s.regions s.want s.waits := ⟨_, rfl⟩
  rw [← hr] at cX
  skip
  try dsimp only at cX
  have HR := Lib.hid hr
  clear hr
  go_wp2_with (first
    | (refine wpList_load_obg (by rfl) _ _ rfl rfl _ x1 Tryz.underlying26 rfl (by kernel_rfl) ?_)
    | (refine wpList_load_obg (by rfl) _ _ rfl rfl _ x2 Tryz.underlying28 rfl (by kernel_rfl) ?_))
  refine cX.out.mono ?_
  rintro e W2 ⟨⟨uw, ug, up, ul, rfl, hP2, hS2⟩, hb2⟩
  have hB2 := hB1.trans (hb2.mono hB1.size)
  have y3 := x3.same hb2
  have hz2 := y3.lt
  obtain ⟨E1, l1, rfl, -⟩ := hP2.want.form
  obtain ⟨E3, l3, rfl, -⟩ := hP2.pend.form
  obtain ⟨us, -, hu2, -⟩ := hP2.got
  obtain ⟨E2, l2, rfl, -⟩ := hu2.form
  obtain ⟨E4, l4, rfl⟩ := hS2.form
  clear hu2 us cX x1 x2 e0 e1 e2
  obtain ⟨Y, hY⟩ : ∃ Y, Y = outS r := ⟨_, rfl⟩
  obtain ⟨L, hL⟩ : ∃ L, L = outL r := ⟨_, rfl⟩
  rw [← hY] at hP2 ⊢
  rw [← hL] at hS2 ⊢
  have HY := Lib.hid hY
  have HL := Lib.hid hL
  clear hY hL
  obtain ⟨se, hse⟩ : ∃ se, se = sagaC Y (.slice E1 Y.want.length l1) (.slice E2 Y.got.length l2) (.slice E3 Y.pending.length l3) := ⟨_, rfl⟩
  rw [← hse]
  have he1 : se.size = 10 := by rw [hse]; rfl
  have he2 : se.all (·.oneCell') = true := by rw [hse]; simp [sagaC, Value.oneCell']
  have HSE := Lib.hid hse
  clear hse
  go_wp2_with (refine wpList_store_ob (cells := se) rfl 26 (.tmp 4) (.tmp 115) rfl rfl rfl y3 he1 (by rw [he1]; kernel_rfl) he2 ?_; intro W13 ho13 hg13)
  rw [HSE.out] at ho13
  have hB13 := hB2.grown hg13 (by omega) (fun g e => by have e2 : w.heap.size + 2 = g := Option.some.inj e; omega)
  have hP13 := ((hP2).grow hg13 (.inr (.inr rfl))).more (Av' := fun _ => False) fun i _ hx => hx.elim
  have hS13 := ((hS2).grow hg13 (.inr (.inr rfl))).more (Av' := fun _ => False) fun i _ hx => hx.elim
  obtain ⟨p0, p1, p2, p3, p4, p5, p6, p7, p8, p9⟩ := ob_ten ho13
  refine bodyPost_ret (v := .tuple #[.agg (sagaC Y (.slice E1 Y.want.length l1) (.slice E2 Y.got.length l2) (.slice E3 Y.pending.length l3)), .slice E4 L.length l4, .int .i64 (outE r)]) ?_ rfl ⟨by rw [hq.out]; rw [← HR.out]; unfold Ret3A; rw [← HY.out, ← HL.out]; exact ⟨_, _, _, _, rfl, hP13, hS13⟩, hB13⟩
  simp [results, Tryz.f10, go_sem, sagaC, p0, p1, p2, p3, p4, p5, p6, p7, p8, p9]

set_option maxRecDepth 100000 in
set_option maxHeartbeats 8000000 in
theorem refnext_freed (s : Saga) (er : Int) (ei : List It.Item) (vw vg vp ve : Value) (w : World) (h : Parts w 0 w.heap.size s vw vg vp) (hv : ItemsAt w 0 w.heap.size ve ei) (hF : Fit s) (hFe : Fits ei) (hil : ei.length ≤ 1000000) (hm : mayS s = true) :
    Calls Tryz.prog 10 #[.agg (sagaC s vw vg vp), .agg (evC ⟨2, er, ei⟩ ve)] w fun e w' => Ret3A (fun _ => False) w' e (freedS s ⟨2, er, ei⟩) ∧ Below w.heap.size w w' := by
  have hmx : Tryz.prog.follows .mixedOrders = true := by kernel_rfl
  have h8 := (pend_in hm).2
  have hgl : s.got.length ≤ 1000000 := by have := (mayS_M hm).2.2; omega
  have hPA0 : PartsA (fun i => i = w.heap.size ∨ i = w.heap.size + 1 ∨ i = w.heap.size + 2) w s vw vg vp := .of h (Nat.le_refl _) (fun i _ hb hx => by omega)
  have hVA0 : SlA (fun i => i = w.heap.size ∨ i = w.heap.size + 1 ∨ i = w.heap.size + 2) w 2 ve ei.length (itemCells ei) := .of hv (Nat.le_refl _) (fun i _ hb hx => by omega)
  obtain ⟨A1, c1, rfl, -⟩ := h.want.form
  obtain ⟨A2, c2, rfl, -⟩ := h.got.form
  obtain ⟨A3, c3, rfl, -⟩ := h.pend.form
  obtain ⟨A4, c4, rfl, -⟩ := hv.form
  have HP := Lib.hid hPA0
  have HV := Lib.hid hVA0
  have HPE := Lib.hid h.pend
  have HW := Lib.hid (fun W (hb : Below w.heap.size w W) => (h.want.mono hb hb.size))
  have cM := Lib.hid (fun V (hb : Below w.heap.size w V) => refmay15_calls s _ _ _ V (h.later hb) hF)
  rw [hm] at cM
  have hal1 := (Below.refl w.heap.size w).alloc (Nat.le_refl _) (.cells #[.int .i64 s.order, .int .i64 s.first, .int .i64 s.regions, .slice A1 s.want.length c1, .bool s.waits, .int .i64 s.state, .int .i64 s.asked, .slice A2 s.got.length c2, .slice A3 s.pending.length c3, .bool s.cancelled] 26)
  have hal2 := hal1.alloc hal1.size (.cells #[.int .i64 2, .int .i64 er, .slice A4 ei.length c4] 28)
  have hB := hal2.alloc hal2.size (.cells #[.int .i64 0, .int .i64 0, .int .i64 0, .slice none 0 0, .bool false, .int .i64 0, .int .i64 0, .slice none 0 0, .slice none 0 0, .bool false] 26)
  have o1 := ((Ob.new w 26 #[.int .i64 s.order, .int .i64 s.first, .int .i64 s.regions, .slice A1 s.want.length c1, .bool s.waits, .int .i64 s.state, .int .i64 s.asked, .slice A2 s.got.length c2, .slice A3 s.pending.length c3, .bool s.cancelled]).alloc (.cells #[.int .i64 2, .int .i64 er, .slice A4 ei.length c4] 28)).alloc (.cells #[.int .i64 0, .int .i64 0, .int .i64 0, .slice none 0 0, .bool false, .int .i64 0, .int .i64 0, .slice none 0 0, .slice none 0 0, .bool false] 26)
  have o2 := (Ob.new (w.alloc (.cells #[.int .i64 s.order, .int .i64 s.first, .int .i64 s.regions, .slice A1 s.want.length c1, .bool s.waits, .int .i64 s.state, .int .i64 s.asked, .slice A2 s.got.length c2, .slice A3 s.pending.length c3, .bool s.cancelled] 26)) 28 #[.int .i64 2, .int .i64 er, .slice A4 ei.length c4]).alloc (.cells #[.int .i64 0, .int .i64 0, .int .i64 0, .slice none 0 0, .bool false, .int .i64 0, .int .i64 0, .slice none 0 0, .slice none 0 0, .bool false] 26)
  have o3 := Ob.new ((w.alloc (.cells #[.int .i64 s.order, .int .i64 s.first, .int .i64 s.regions, .slice A1 s.want.length c1, .bool s.waits, .int .i64 s.state, .int .i64 s.asked, .slice A2 s.got.length c2, .slice A3 s.pending.length c3, .bool s.cancelled] 26)).alloc (.cells #[.int .i64 2, .int .i64 er, .slice A4 ei.length c4] 28)) 26 #[.int .i64 0, .int .i64 0, .int .i64 0, .slice none 0 0, .bool false, .int .i64 0, .int .i64 0, .slice none 0 0, .slice none 0 0, .bool false]
  rw [World.size_alloc, World.size_alloc] at o3
  rw [World.size_alloc] at o2
  have HM := Lib.hid hm
  clear hal1 hal2 h hv hPA0 hVA0 hm
  unfold sagaC evC
  unfold sagaC at cM
  dsimp only
  go_enter Tryz.func10, Tryz.ntmps10
  go_upto_region 1 with (fail)
  generalize ((w.alloc (.cells #[.int .i64 s.order, .int .i64 s.first, .int .i64 s.regions, .slice A1 s.want.length c1, .bool s.waits, .int .i64 s.state, .int .i64 s.asked, .slice A2 s.got.length c2, .slice A3 s.pending.length c3, .bool s.cancelled] 26)).alloc (.cells #[.int .i64 2, .int .i64 er, .slice A4 ei.length c4] 28)).alloc (.cells #[.int .i64 0, .int .i64 0, .int .i64 0, .slice none 0 0, .bool false, .int .i64 0, .int .i64 0, .slice none 0 0, .slice none 0 0, .bool false] 26) = W0 at *
  go_wp2_with (refine wpList_load_obg (by rfl) _ _ rfl rfl _ o1 Tryz.underlying26 rfl (by kernel_rfl) ?_)
  refine (cM.out _ hB).mono ?_
  rintro e W1 ⟨rfl, hb1⟩
  have hB1 := hB.trans (hb1.mono hB.size)
  have x1 := o1.same hb1
  have x2 := o2.same hb1
  have x3 := o3.same hb1
  have hz := x3.lt
  have hPA := HP.out.later hB1
  have hVA := HV.out.later hB1
  have hav : ∀ i, (fun i => i = w.heap.size ∨ i = w.heap.size + 1 ∨ i = w.heap.size + 2) i → i < W1.heap.size := fun i hx => by rcases hx with hx | hx | hx <;> omega
  have hno : ∀ b, (fun i => i = w.heap.size ∨ i = w.heap.size + 1 ∨ i = w.heap.size + 2) b → NoText W1 b := fun b hb => by
    rcases hb with rfl | rfl | rfl
    · exact noText_saga (s := s) x1
    · exact noText_ev (e := ⟨2, er, ei⟩) x2
    · exact noText_zero x3
  obtain ⟨e0, e1, e2⟩ := ob_three x2
  clear o1 o2 o3 hb1 hB cM
  obtain ⟨-, -, -, -, -, k5, -, -, k8, -⟩ := ob_ten x1
  have cI := Lib.hid (refin_calls s.pending er (.slice A3 s.pending.length c3) 0 w.heap.size W1 (Sl.below HPE.out hB1))
  rcases neq_cases s.state 4 with ⟨h1, d1, d2, d3⟩ | ⟨h1, d1, d2, d3⟩
  rotate_left
  · have hr := Lib.hid (show freedS s ⟨2, er, ei⟩ = .error 80 by rw [freed_eq HM.out]; unfold rfreedS; rw [if_neg fun h => h1 h.1])
    clear h1 cI
    go_wp2_with (refine wpList_store_ob (cells := #[.int .i64 0, .int .i64 0, .int .i64 0, .slice none 0 0, .bool false, .int .i64 0, .int .i64 0, .slice none 0 0, .slice none 0 0, .bool false]) rfl 26 (.tmp 4) (.tmp 46) rfl rfl rfl x3 rfl (by kernel_rfl) (by simp [Value.oneCell']) ?_; intro W10 ho10 hg10)
    have hB10 := hB1.grown hg10 (by omega) (fun g e => by have e2 : w.heap.size + 2 = g := Option.some.inj e; omega)
    obtain ⟨p0, p1, p2, p3, p4, p5, p6, p7, p8, p9⟩ := ob_ten ho10
    refine bodyPost_ret (v := .tuple #[.agg #[.int .i64 0, .int .i64 0, .int .i64 0, .slice none 0 0, .bool false, .int .i64 0, .int .i64 0, .slice none 0 0, .slice none 0 0, .bool false], .slice none 0 0, .int .i64 80]) ?_ rfl ⟨by rw [hr.out]; exact ⟨_, _, _, _, rfl, partsA0 _ _, StepsA.nil _ _⟩, hB10⟩
    simp [results, Tryz.f10, go_sem, p0, p1, p2, p3, p4, p5, p6, p7, p8, p9]
  by_cases hin : er ∈ s.pending
  rotate_left
  · have hr := Lib.hid (show freedS s ⟨2, er, ei⟩ = .error 80 by rw [freed_eq HM.out]; unfold rfreedS; rw [if_neg fun h => hin h.2])
    rw [decide_eq_false hin] at cI
    clear h1 hin
    go_wp2_with fail
    refine cI.out.mono ?_
    rintro e W2 ⟨rfl, rfl⟩
    go_wp2_with (refine wpList_store_ob (cells := #[.int .i64 0, .int .i64 0, .int .i64 0, .slice none 0 0, .bool false, .int .i64 0, .int .i64 0, .slice none 0 0, .slice none 0 0, .bool false]) rfl 26 (.tmp 4) (.tmp 46) rfl rfl rfl x3 rfl (by kernel_rfl) (by simp [Value.oneCell']) ?_; intro W10 ho10 hg10)
    have hB10 := hB1.grown hg10 (by omega) (fun g e => by have e2 : w.heap.size + 2 = g := Option.some.inj e; omega)
    obtain ⟨p0, p1, p2, p3, p4, p5, p6, p7, p8, p9⟩ := ob_ten ho10
    refine bodyPost_ret (v := .tuple #[.agg #[.int .i64 0, .int .i64 0, .int .i64 0, .slice none 0 0, .bool false, .int .i64 0, .int .i64 0, .slice none 0 0, .slice none 0 0, .bool false], .slice none 0 0, .int .i64 80]) ?_ rfl ⟨by rw [hr.out]; exact ⟨_, _, _, _, rfl, partsA0 _ _, StepsA.nil _ _⟩, hB10⟩
    simp [results, Tryz.f10, go_sem, p0, p1, p2, p3, p4, p5, p6, p7, p8, p9]
  have hr := Lib.hid (show freedS s ⟨2, er, ei⟩ = .ok (freedT { s with got := s.got.set er.toNat [], pending := withoutL er s.pending }) by rw [freed_eq HM.out]; unfold rfreedS; rw [if_pos ⟨h1, hin⟩])
  rw [decide_eq_true hin] at cI
  have her := (pend_in HM.out).1 _ hin
  clear h1 hin
  have cT := Lib.hid (show Calls Tryz.prog 28 #[.agg #[.int .i64 s.order, .int .i64 s.first, .int .i64 s.regions, .slice A1 s.want.length c1, .bool s.waits, .int .i64 s.state, .int .i64 s.asked, .slice A2 s.got.length c2, .slice A3 s.pending.length c3, .bool s.cancelled], .int .i64 er, .slice none 0 0] W1 (fun e w' => (∃ vg', e = .returned (.agg #[.int .i64 s.order, .int .i64 s.first, .int .i64 s.regions, .slice A1 s.want.length c1, .bool s.waits, .int .i64 s.state, .int .i64 s.asked, vg', .slice A3 s.pending.length c3, .bool s.cancelled]) ∧ PartsA (fun i => i = w.heap.size ∨ i = w.heap.size + 1 ∨ i = w.heap.size + 2) w' { s with got := s.got.set er.toNat [] } (.slice A1 s.want.length c1) vg' (.slice A3 s.pending.length c3)) ∧ Below W1.heap.size W1 w') from refset_int (fun i => i = w.heap.size ∨ i = w.heap.size + 1 ∨ i = w.heap.size + 2) s er [] _ _ _ _ W1 hPA (SlA.nil _ _ _) hav ⟨her.1, her.2⟩ hgl)
  have cW := Lib.hid (fun V (hb : Below w.heap.size w V) => refwithout_calls s.pending er _ V (Sl.mono HPE.out hb hb.size) (by omega))
  have HER := Lib.hid her
  clear her
  go_wp2_with fail
  refine cI.out.mono ?_
  rintro e W2 ⟨rfl, rfl⟩
  clear cI d1 d2 d3
  go_wp2_with (refine wpList_load_obg (by rfl) _ _ rfl rfl _ x1 Tryz.underlying26 rfl (by kernel_rfl) ?_)
  refine cT.out.mono ?_
  rintro e W2 ⟨⟨ug, rfl, hP2⟩, hb2⟩
  have hB2 := hB1.trans (hb2.mono hB1.size)
  have y1 := x1.same hb2
  have y2 := x2.same hb2
  have y3 := x3.same hb2
  have hz2 := y3.lt
  obtain ⟨us, -, hu2, -⟩ := hP2.got
  obtain ⟨B2, d2, hug, -⟩ := hu2.form
  obtain ⟨n, hn⟩ : ∃ n, n = ({ s with got := s.got.set er.toNat [] } : Saga).got.length := ⟨_, rfl⟩
  rw [← hn] at hug
  subst hug
  clear hu2 us hn cT e0 e1 e2 k5 k8 x1 x2 x3 hb2
  go_wp2_with (refine wpList_store_ob (cells := #[.int .i64 s.order, .int .i64 s.first, .int .i64 s.regions, .slice A1 s.want.length c1, .bool s.waits, .int .i64 s.state, .int .i64 s.asked, .slice B2 n d2, .slice A3 s.pending.length c3, .bool s.cancelled]) rfl 26 (.tmp 2) (.tmp 50) rfl rfl rfl y1 rfl (by kernel_rfl) (by simp [Value.oneCell']) ?_
               intro W3 ho3 hg3
               have hB3 := hB2.grown hg3 (by omega) (fun g e => by have e2 : w.heap.size = g := Option.some.inj e; omega)
               have z2 := y2.kept hg3 (fun e => by have e2 : w.heap.size + 1 = w.heap.size := Option.some.inj e; omega)
               have z3 := y3.kept hg3 (fun e => by have e2 : w.heap.size + 2 = w.heap.size := Option.some.inj e; omega)
               have hP3 := hP2.grow hg3 (.inl rfl)
               obtain ⟨-, q1, -⟩ := ob_three z2
               have q8 : W3.cell? ⟨w.heap.size, 8, none⟩ = some (.slice A3 s.pending.length c3) := ho3.cell rfl)
  refine (cW.out _ hB3).mono ?_
  rintro e W4 ⟨⟨vr, rfl, hvr⟩, hb4⟩
  have hB4 := hB3.trans (hb4.mono hB3.size)
  have v1 := ho3.same hb4
  have v3 := z3.same hb4
  have hz3 := z3.lt
  have hbs := hb4.size
  have hIr := IntsAt.of_own hvr
  obtain ⟨A5, c5, rfl, -⟩ := hIr.form
  have hpA := SlA.of (Av := (fun i => i = w.heap.size ∨ i = w.heap.size + 1 ∨ i = w.heap.size + 2)) hIr (Nat.le_refl _) (fun i ha _ hx => by rcases hx with hx | hx | hx <;> omega)
  have hP4 := hP3.later hb4
  clear hvr hIr y1 y2 y3 z2 z3 ho3 hb4 q1 q8 cW hP2 hP3 hg3 hB3 hB2
  have g8 : W4.cell? ⟨w.heap.size, 8, none⟩ = some (.slice A3 s.pending.length c3) := v1.cell rfl
  have f8 := v1.frozen 8
  have u1 : Ob (W4.setCell ⟨w.heap.size, 8, none⟩ (.slice A5 (withoutL er s.pending).length c5)) w.heap.size 26 #[.int .i64 s.order, .int .i64 s.first, .int .i64 s.regions, .slice A1 s.want.length c1, .bool s.waits, .int .i64 s.state, .int .i64 s.asked, .slice B2 n d2, .slice A5 (withoutL er s.pending).length c5, .bool s.cancelled] := v1.set 8 (.slice A5 (withoutL er s.pending).length c5)
  have u3 := v3.other (show w.heap.size + 2 ≠ w.heap.size by omega) 8 (.slice A5 (withoutL er s.pending).length c5)
  have hzb : (W4.setCell ⟨w.heap.size, 8, none⟩ (.slice A5 (withoutL er s.pending).length c5)).heap.size = W4.heap.size := set_size _ _ _ _
  have hBb := hB4.trans (below_set W4 w.heap.size 8 (.slice A5 (withoutL er s.pending).length c5))
  have hPb := hP4.grow (grownBy_set W4 w.heap.size 8 (.slice A5 (withoutL er s.pending).length c5)) (.inl rfl)
  have hpb := hpA.grow (grownBy_set W4 w.heap.size 8 (.slice A5 (withoutL er s.pending).length c5)) (.inl rfl)
  obtain ⟨SS, hSS⟩ : ∃ SS : Saga, SS = { s with got := s.got.set er.toNat [], pending := withoutL er s.pending } := ⟨_, rfl⟩
  have hPS : PartsA (fun i => i = w.heap.size ∨ i = w.heap.size + 1 ∨ i = w.heap.size + 2) (W4.setCell ⟨w.heap.size, 8, none⟩ (.slice A5 (withoutL er s.pending).length c5)) SS (.slice A1 s.want.length c1) (.slice B2 n d2) (.slice A5 (withoutL er s.pending).length c5) := by rw [hSS]; exact ⟨hPb.want, hPb.got, hpb⟩
  have hu3 := u3.lt
  clear hP4 hpA hPb hpb hB4 v1 v3
  obtain ⟨-, -, -, -, -, -, -, -, k8, -⟩ := ob_ten u1
  have hsp : SS.pending.length = (withoutL er s.pending).length := by rw [hSS]
  have HSP := Lib.hid hsp
  have cE := Lib.hid (show Calls Tryz.prog 30 #[.agg #[.int .i64 s.order, .int .i64 s.first, .int .i64 s.regions, .slice A1 s.want.length c1, .bool s.waits, .int .i64 s.state, .int .i64 s.asked, .slice B2 n d2, .slice A5 (withoutL er s.pending).length c5, .bool s.cancelled]] (W4.setCell ⟨w.heap.size, 8, none⟩ (.slice A5 (withoutL er s.pending).length c5)) (fun e w' => Ret2 (fun i => i = w.heap.size ∨ i = w.heap.size + 1 ∨ i = w.heap.size + 2) (W4.setCell ⟨w.heap.size, 8, none⟩ (.slice A5 (withoutL er s.pending).length c5)).heap.size w' e (endS SS, told (endSt SS)) ∧ Below (W4.setCell ⟨w.heap.size, 8, none⟩ (.slice A5 (withoutL er s.pending).length c5)).heap.size (W4.setCell ⟨w.heap.size, 8, none⟩ (.slice A5 (withoutL er s.pending).length c5)) w') from by
    have := refends_calls (fun i => i = w.heap.size ∨ i = w.heap.size + 1 ∨ i = w.heap.size + 2) SS _ _ _ (W4.setCell ⟨w.heap.size, 8, none⟩ (.slice A5 (withoutL er s.pending).length c5)) hPS
    rw [hSS] at this ⊢
    exact this)
  rw [← hSS] at hr
  have HSS := Lib.hid hSS
  clear hSS hsp
  by_cases hl : (withoutL er s.pending).length = 0
  · have hq := Lib.hid (show freedT SS = (endS SS, told (endSt SS)) by unfold freedT; rw [if_pos (by rw [HSP.out]; exact hl)])
    have dl : decide ((((withoutL er s.pending).length : Nat) : Int) = 0) = true := decide_eq_true (by omega)
    have dl2 : ((((withoutL er s.pending).length : Nat) : Int) == 0) = true := by rw [beq_iff_eq]; omega
    clear hl
    have cX := cE
    clear cE
    go_wp2_with (refine wpList_load_obg (by rfl) _ _ rfl rfl _ u1 Tryz.underlying26 rfl (by kernel_rfl) ?_)
    refine cX.out.mono ?_
    rintro e W2 ⟨⟨uw, ug, up, ul, rfl, hP2, hS2⟩, hb2⟩
    have hB2 := hBb.trans (hb2.mono hBb.size)
    have y1 := u1.same hb2
    have y3 := u3.same hb2
    have hz2 := y3.lt
    have hbs := hb2.size
    obtain ⟨E1, l1, rfl, -⟩ := hP2.want.form
    obtain ⟨E3, l3, rfl, -⟩ := hP2.pend.form
    obtain ⟨us, -, hu2, -⟩ := hP2.got
    obtain ⟨E2, l2, rfl, -⟩ := hu2.form
    obtain ⟨E4, l4, rfl, -⟩ := hS2.form
    have hS2 := StepsA.of (Av := (fun i => i = w.heap.size ∨ i = w.heap.size + 1 ∨ i = w.heap.size + 2)) hS2 (Nat.le_refl _) (fun i ha _ hx => by rw [hzb] at ha; rcases hx with hx | hx | hx <;> omega)
    clear hu2 us cX
    obtain ⟨Y, hY⟩ : ∃ Y : Saga, Y = (endS SS) := ⟨_, rfl⟩
    obtain ⟨L, hL⟩ : ∃ L : List Step, L = (told (endSt SS)) := ⟨_, rfl⟩
    rw [← hY] at hP2 ⊢
    rw [← hL] at hS2 ⊢
    have HY := Lib.hid hY
    have HL := Lib.hid hL
    clear hY hL
    obtain ⟨se, hse⟩ : ∃ se, se = sagaC Y (.slice E1 Y.want.length l1) (.slice E2 Y.got.length l2) (.slice E3 Y.pending.length l3) := ⟨_, rfl⟩
    rw [← hse]
    have he1 : se.size = 10 := by rw [hse]; rfl
    have he2 : se.all (·.oneCell') = true := by rw [hse]; simp [sagaC, Value.oneCell']
    have HSE := Lib.hid hse
    have HX := Lib.hid (And.intro hP2 (And.intro hS2 hB2))
    clear hse hP2 hS2 hB2
    go_wp2_with (first
      | (refine wpList_store_ob (cells := se) rfl 26 (.tmp 2) (.tmp 64) rfl rfl rfl y1 he1 (by rw [he1]; kernel_rfl) he2 ?_
         intro W3 ho3 hg3
         have z3 := y3.kept hg3 (fun e => by have e2 : w.heap.size + 2 = w.heap.size := Option.some.inj e; omega))
      | (refine wpList_load_obg (by rfl) _ _ rfl rfl _ ho3 Tryz.underlying26 rfl (by rw [he1]; kernel_rfl) ?_)
      | (refine wpList_store_ob (cells := se) rfl 26 (.tmp 4) (.tmp 66) rfl rfl rfl z3 he1 (by rw [he1]; kernel_rfl) he2 ?_; intro W13 ho13 hg13))
    obtain ⟨hP2, hS2, hB2⟩ := HX.out
    have hzz := z3.lt
    have hP3 := hP2.grow hg3 (.inl rfl)
    have hS3 := hS2.grow hg3 (.inl rfl)
    have hB3 := hB2.grown hg3 (by omega) (fun g e => by have e2 : w.heap.size = g := Option.some.inj e; omega)
    rw [HSE.out] at ho13
    have hB13 := hB3.grown hg13 (by omega) (fun g e => by have e2 : w.heap.size + 2 = g := Option.some.inj e; omega)
    have hP13 := ((hP3).grow hg13 (.inr (.inr rfl))).more (Av' := fun _ => False) fun i _ hx => hx.elim
    have hS13 := ((hS3).grow hg13 (.inr (.inr rfl))).more (Av' := fun _ => False) fun i _ hx => hx.elim
    obtain ⟨p0, p1, p2, p3, p4, p5, p6, p7, p8, p9⟩ := ob_ten ho13
    refine bodyPost_ret (v := .tuple #[.agg (sagaC Y (.slice E1 Y.want.length l1) (.slice E2 Y.got.length l2) (.slice E3 Y.pending.length l3)), .slice E4 L.length l4, .int .i64 0]) ?_ rfl ⟨by rw [hr.out, hq.out]; show Ret3A _ _ _ (.ok (_, _)); rw [← HY.out, ← HL.out]; exact ⟨_, _, _, _, rfl, hP13, hS13⟩, hB13⟩
    simp [results, Tryz.f10, go_sem, sagaC, p0, p1, p2, p3, p4, p5, p6, p7, p8, p9]
  · have hq := Lib.hid (show freedT SS = (SS, []) by unfold freedT; rw [if_neg (by rw [HSP.out]; exact hl)])
    have dl : decide ((((withoutL er s.pending).length : Nat) : Int) = 0) = false := decide_eq_false (by omega)
    have dl2 : ((((withoutL er s.pending).length : Nat) : Int) == 0) = false := by rw [beq_eq_false_iff_ne]; omega
    clear hl cE
    have HX := Lib.hid (And.intro hPS hBb)
    clear hPS hBb
    go_wp2_with (first
      | (refine wpList_load_obg (by rfl) _ _ rfl rfl _ u1 Tryz.underlying26 rfl (by kernel_rfl) ?_)
      | (refine wpList_store_ob (cells := #[.int .i64 s.order, .int .i64 s.first, .int .i64 s.regions, .slice A1 s.want.length c1, .bool s.waits, .int .i64 s.state, .int .i64 s.asked, .slice B2 n d2, .slice A5 (withoutL er s.pending).length c5, .bool s.cancelled]) rfl 26 (.tmp 4) (.tmp 66) rfl rfl rfl u3 rfl (by kernel_rfl) (by simp [Value.oneCell']) ?_; intro W13 ho13 hg13))
    obtain ⟨hPS, hBb⟩ := HX.out
    rw [HSS.out] at hPS
    have hB13 := hBb.grown hg13 (by omega) (fun g e => by have e2 : w.heap.size + 2 = g := Option.some.inj e; omega)
    have hP13 := ((hPS).grow hg13 (.inr (.inr rfl))).more (Av' := fun _ => False) fun i _ hx => hx.elim
    have hS13 := ((StepsA.nil (fun i => i = w.heap.size ∨ i = w.heap.size + 1 ∨ i = w.heap.size + 2) (W4.setCell ⟨w.heap.size, 8, none⟩ (.slice A5 (withoutL er s.pending).length c5))).grow hg13 (.inr (.inr rfl))).more (Av' := fun _ => False) fun i _ hx => hx.elim
    obtain ⟨p0, p1, p2, p3, p4, p5, p6, p7, p8, p9⟩ := ob_ten ho13
    refine bodyPost_ret (v := .tuple #[.agg #[.int .i64 s.order, .int .i64 s.first, .int .i64 s.regions, .slice A1 s.want.length c1, .bool s.waits, .int .i64 s.state, .int .i64 s.asked, .slice B2 n d2, .slice A5 (withoutL er s.pending).length c5, .bool s.cancelled], .slice none 0 0, .int .i64 0]) ?_ rfl ⟨by rw [hr.out, hq.out, HSS.out]; exact ⟨_, _, _, _, rfl, hP13, hS13⟩, hB13⟩
    simp [results, Tryz.f10, go_sem, sagaC, p0, p1, p2, p3, p4, p5, p6, p7, p8, p9]

set_option maxRecDepth 100000 in
set_option maxHeartbeats 8000000 in
theorem refnext_cancel (s : Saga) (er : Int) (ei : List It.Item) (vw vg vp ve : Value) (w : World) (h : Parts w 0 w.heap.size s vw vg vp) (hv : ItemsAt w 0 w.heap.size ve ei) (hF : Fit s) (hFe : Fits ei) (hil : ei.length ≤ 1000000) (hm : mayS s = true) :
    Calls Tryz.prog 10 #[.agg (sagaC s vw vg vp), .agg (evC ⟨3, er, ei⟩ ve)] w fun e w' => Ret3A (fun _ => False) w' e (cancelS s) ∧ Below w.heap.size w w' := by
  have hmx : Tryz.prog.follows .mixedOrders = true := by kernel_rfl
  have h8 := (pend_in hm).2
  have hgl : s.got.length ≤ 1000000 := by have := (mayS_M hm).2.2; omega
  have hPA0 : PartsA (fun i => i = w.heap.size ∨ i = w.heap.size + 1 ∨ i = w.heap.size + 2) w s vw vg vp := .of h (Nat.le_refl _) (fun i _ hb hx => by omega)
  have hVA0 : SlA (fun i => i = w.heap.size ∨ i = w.heap.size + 1 ∨ i = w.heap.size + 2) w 2 ve ei.length (itemCells ei) := .of hv (Nat.le_refl _) (fun i _ hb hx => by omega)
  obtain ⟨A1, c1, rfl, -⟩ := h.want.form
  obtain ⟨A2, c2, rfl, -⟩ := h.got.form
  obtain ⟨A3, c3, rfl, -⟩ := h.pend.form
  obtain ⟨A4, c4, rfl, -⟩ := hv.form
  have HP := Lib.hid hPA0
  have HV := Lib.hid hVA0
  have HPE := Lib.hid h.pend
  have HW := Lib.hid (fun W (hb : Below w.heap.size w W) => (h.want.mono hb hb.size))
  have cM := Lib.hid (fun V (hb : Below w.heap.size w V) => refmay15_calls s _ _ _ V (h.later hb) hF)
  rw [hm] at cM
  have hal1 := (Below.refl w.heap.size w).alloc (Nat.le_refl _) (.cells #[.int .i64 s.order, .int .i64 s.first, .int .i64 s.regions, .slice A1 s.want.length c1, .bool s.waits, .int .i64 s.state, .int .i64 s.asked, .slice A2 s.got.length c2, .slice A3 s.pending.length c3, .bool s.cancelled] 26)
  have hal2 := hal1.alloc hal1.size (.cells #[.int .i64 3, .int .i64 er, .slice A4 ei.length c4] 28)
  have hB := hal2.alloc hal2.size (.cells #[.int .i64 0, .int .i64 0, .int .i64 0, .slice none 0 0, .bool false, .int .i64 0, .int .i64 0, .slice none 0 0, .slice none 0 0, .bool false] 26)
  have o1 := ((Ob.new w 26 #[.int .i64 s.order, .int .i64 s.first, .int .i64 s.regions, .slice A1 s.want.length c1, .bool s.waits, .int .i64 s.state, .int .i64 s.asked, .slice A2 s.got.length c2, .slice A3 s.pending.length c3, .bool s.cancelled]).alloc (.cells #[.int .i64 3, .int .i64 er, .slice A4 ei.length c4] 28)).alloc (.cells #[.int .i64 0, .int .i64 0, .int .i64 0, .slice none 0 0, .bool false, .int .i64 0, .int .i64 0, .slice none 0 0, .slice none 0 0, .bool false] 26)
  have o2 := (Ob.new (w.alloc (.cells #[.int .i64 s.order, .int .i64 s.first, .int .i64 s.regions, .slice A1 s.want.length c1, .bool s.waits, .int .i64 s.state, .int .i64 s.asked, .slice A2 s.got.length c2, .slice A3 s.pending.length c3, .bool s.cancelled] 26)) 28 #[.int .i64 3, .int .i64 er, .slice A4 ei.length c4]).alloc (.cells #[.int .i64 0, .int .i64 0, .int .i64 0, .slice none 0 0, .bool false, .int .i64 0, .int .i64 0, .slice none 0 0, .slice none 0 0, .bool false] 26)
  have o3 := Ob.new ((w.alloc (.cells #[.int .i64 s.order, .int .i64 s.first, .int .i64 s.regions, .slice A1 s.want.length c1, .bool s.waits, .int .i64 s.state, .int .i64 s.asked, .slice A2 s.got.length c2, .slice A3 s.pending.length c3, .bool s.cancelled] 26)).alloc (.cells #[.int .i64 3, .int .i64 er, .slice A4 ei.length c4] 28)) 26 #[.int .i64 0, .int .i64 0, .int .i64 0, .slice none 0 0, .bool false, .int .i64 0, .int .i64 0, .slice none 0 0, .slice none 0 0, .bool false]
  rw [World.size_alloc, World.size_alloc] at o3
  rw [World.size_alloc] at o2
  have HM := Lib.hid hm
  clear hal1 hal2 h hv hPA0 hVA0 hm
  unfold sagaC evC
  unfold sagaC at cM
  dsimp only
  go_enter Tryz.func10, Tryz.ntmps10
  go_upto_region 1 with (fail)
  generalize ((w.alloc (.cells #[.int .i64 s.order, .int .i64 s.first, .int .i64 s.regions, .slice A1 s.want.length c1, .bool s.waits, .int .i64 s.state, .int .i64 s.asked, .slice A2 s.got.length c2, .slice A3 s.pending.length c3, .bool s.cancelled] 26)).alloc (.cells #[.int .i64 3, .int .i64 er, .slice A4 ei.length c4] 28)).alloc (.cells #[.int .i64 0, .int .i64 0, .int .i64 0, .slice none 0 0, .bool false, .int .i64 0, .int .i64 0, .slice none 0 0, .slice none 0 0, .bool false] 26) = W0 at *
  go_wp2_with (refine wpList_load_obg (by rfl) _ _ rfl rfl _ o1 Tryz.underlying26 rfl (by kernel_rfl) ?_)
  refine (cM.out _ hB).mono ?_
  rintro e W1 ⟨rfl, hb1⟩
  have hB1 := hB.trans (hb1.mono hB.size)
  have x1 := o1.same hb1
  have x2 := o2.same hb1
  have x3 := o3.same hb1
  have hz := x3.lt
  have hPA := HP.out.later hB1
  have hVA := HV.out.later hB1
  have hav : ∀ i, (fun i => i = w.heap.size ∨ i = w.heap.size + 1 ∨ i = w.heap.size + 2) i → i < W1.heap.size := fun i hx => by rcases hx with hx | hx | hx <;> omega
  have hno : ∀ b, (fun i => i = w.heap.size ∨ i = w.heap.size + 1 ∨ i = w.heap.size + 2) b → NoText W1 b := fun b hb => by
    rcases hb with rfl | rfl | rfl
    · exact noText_saga (s := s) x1
    · exact noText_ev (e := ⟨3, er, ei⟩) x2
    · exact noText_zero x3
  obtain ⟨e0, e1, e2⟩ := ob_three x2
  clear o1 o2 o3 hb1 hB cM
  obtain ⟨-, -, -, -, -, k5, -, -, -, k9⟩ := ob_ten x1
  have f9 := x1.frozen 9
  have u1 : Ob (W1.setCell ⟨w.heap.size, 9, none⟩ (.bool true)) w.heap.size 26 #[.int .i64 s.order, .int .i64 s.first, .int .i64 s.regions, .slice A1 s.want.length c1, .bool s.waits, .int .i64 s.state, .int .i64 s.asked, .slice A2 s.got.length c2, .slice A3 s.pending.length c3, .bool true] := x1.set 9 (.bool true)
  have u3 := x3.other (show w.heap.size + 2 ≠ w.heap.size by omega) 9 (.bool true)
  have hzb : (W1.setCell ⟨w.heap.size, 9, none⟩ (.bool true)).heap.size = W1.heap.size := set_size _ _ _ _
  have hBb := hB1.trans (below_set W1 w.heap.size 9 (.bool true))
  have hPS : PartsA (fun i => i = w.heap.size ∨ i = w.heap.size + 1 ∨ i = w.heap.size + 2) (W1.setCell ⟨w.heap.size, 9, none⟩ (.bool true)) ({ s with cancelled := true } : Saga) (.slice A1 s.want.length c1) (.slice A2 s.got.length c2) (.slice A3 s.pending.length c3) := (hPA.grow (grownBy_set W1 w.heap.size 9 (.bool true)) (.inl rfl)).same rfl rfl rfl
  obtain ⟨-, -, -, -, -, q5, -, -, -, -⟩ := ob_ten u1
  have hu3 := u3.lt
  clear x1 x2 x3 e1 e2 hPA hVA
  rcases neq_cases s.state 1 with ⟨h1, d1, d2, d3⟩ | ⟨h1, d1, d2, d3⟩
  · have hcc : s.cancelled = true ∨ s.cancelled = false := by cases s.cancelled <;> simp
    rcases hcc with hc | hc
    · have hr := Lib.hid (show cancelS s = .error 5 by unfold cancelS cancelAt; rw [if_pos (.inl h1), hc]; rfl)
      rw [hc] at k9
      clear h1 hc
      go_wp2_with (refine wpList_store_ob (cells := #[.int .i64 0, .int .i64 0, .int .i64 0, .slice none 0 0, .bool false, .int .i64 0, .int .i64 0, .slice none 0 0, .slice none 0 0, .bool false]) rfl 26 (.tmp 4) (.tmp 79) rfl rfl rfl u3 rfl (by kernel_rfl) (by simp [Value.oneCell']) ?_; intro W10 ho10 hg10)
      have hB10 := hBb.grown hg10 (by omega) (fun g e => by have e2 : w.heap.size + 2 = g := Option.some.inj e; omega)
      obtain ⟨p0, p1, p2, p3, p4, p5, p6, p7, p8, p9⟩ := ob_ten ho10
      refine bodyPost_ret (v := .tuple #[.agg #[.int .i64 0, .int .i64 0, .int .i64 0, .slice none 0 0, .bool false, .int .i64 0, .int .i64 0, .slice none 0 0, .slice none 0 0, .bool false], .slice none 0 0, .int .i64 5]) ?_ rfl ⟨by rw [hr.out]; exact ⟨_, _, _, _, rfl, partsA0 _ _, StepsA.nil _ _⟩, hB10⟩
      simp [results, Tryz.f10, go_sem, p0, p1, p2, p3, p4, p5, p6, p7, p8, p9]
    · have hr := Lib.hid (show cancelS s = .ok (({ s with cancelled := true } : Saga), []) by unfold cancelS cancelAt; rw [if_pos (.inl h1), hc]; rfl)
      rw [hc] at k9
      clear h1 hc
      have HX := Lib.hid (And.intro hPS hBb)
      clear hPS hBb
      go_wp2_with (first
        | (refine wpList_load_obg (by rfl) _ _ rfl rfl _ u1 Tryz.underlying26 rfl (by kernel_rfl) ?_)
        | (refine wpList_store_ob (cells := #[.int .i64 s.order, .int .i64 s.first, .int .i64 s.regions, .slice A1 s.want.length c1, .bool s.waits, .int .i64 s.state, .int .i64 s.asked, .slice A2 s.got.length c2, .slice A3 s.pending.length c3, .bool true]) rfl 26 (.tmp 4) (.tmp 80) rfl rfl rfl u3 rfl (by kernel_rfl) (by simp [Value.oneCell']) ?_; intro W13 ho13 hg13))
      obtain ⟨hPS, hBb⟩ := HX.out
      have hB13 := hBb.grown hg13 (by omega) (fun g e => by have e2 : w.heap.size + 2 = g := Option.some.inj e; omega)
      have hP13 := ((hPS).grow hg13 (.inr (.inr rfl))).more (Av' := fun _ => False) fun i _ hx => hx.elim
      have hS13 := ((StepsA.nil (fun i => i = w.heap.size ∨ i = w.heap.size + 1 ∨ i = w.heap.size + 2) (W1.setCell ⟨w.heap.size, 9, none⟩ (.bool true))).grow hg13 (.inr (.inr rfl))).more (Av' := fun _ => False) fun i _ hx => hx.elim
      obtain ⟨p0, p1, p2, p3, p4, p5, p6, p7, p8, p9⟩ := ob_ten ho13
      refine bodyPost_ret (v := .tuple #[.agg #[.int .i64 s.order, .int .i64 s.first, .int .i64 s.regions, .slice A1 s.want.length c1, .bool s.waits, .int .i64 s.state, .int .i64 s.asked, .slice A2 s.got.length c2, .slice A3 s.pending.length c3, .bool true], .slice none 0 0, .int .i64 0]) ?_ rfl ⟨by rw [hr.out]; exact ⟨_, _, _, _, rfl, hP13, hS13⟩, hB13⟩
      simp [results, Tryz.f10, go_sem, sagaC, p0, p1, p2, p3, p4, p5, p6, p7, p8, p9]
  rcases neq_cases s.state 4 with ⟨h4, d4, d5, d6⟩ | ⟨h4, d4, d5, d6⟩
  · have hcc : s.cancelled = true ∨ s.cancelled = false := by cases s.cancelled <;> simp
    rcases hcc with hc | hc
    · have hr := Lib.hid (show cancelS s = .error 5 by unfold cancelS cancelAt; rw [if_pos (.inr h4), hc]; rfl)
      rw [hc] at k9
      clear h1 h4 hc
      go_wp2_with (refine wpList_store_ob (cells := #[.int .i64 0, .int .i64 0, .int .i64 0, .slice none 0 0, .bool false, .int .i64 0, .int .i64 0, .slice none 0 0, .slice none 0 0, .bool false]) rfl 26 (.tmp 4) (.tmp 79) rfl rfl rfl u3 rfl (by kernel_rfl) (by simp [Value.oneCell']) ?_; intro W10 ho10 hg10)
      have hB10 := hBb.grown hg10 (by omega) (fun g e => by have e2 : w.heap.size + 2 = g := Option.some.inj e; omega)
      obtain ⟨p0, p1, p2, p3, p4, p5, p6, p7, p8, p9⟩ := ob_ten ho10
      refine bodyPost_ret (v := .tuple #[.agg #[.int .i64 0, .int .i64 0, .int .i64 0, .slice none 0 0, .bool false, .int .i64 0, .int .i64 0, .slice none 0 0, .slice none 0 0, .bool false], .slice none 0 0, .int .i64 5]) ?_ rfl ⟨by rw [hr.out]; exact ⟨_, _, _, _, rfl, partsA0 _ _, StepsA.nil _ _⟩, hB10⟩
      simp [results, Tryz.f10, go_sem, p0, p1, p2, p3, p4, p5, p6, p7, p8, p9]
    · have hr := Lib.hid (show cancelS s = .ok (({ s with cancelled := true } : Saga), []) by unfold cancelS cancelAt; rw [if_pos (.inr h4), hc]; rfl)
      rw [hc] at k9
      clear h1 h4 hc
      have HX := Lib.hid (And.intro hPS hBb)
      clear hPS hBb
      go_wp2_with (first
        | (refine wpList_load_obg (by rfl) _ _ rfl rfl _ u1 Tryz.underlying26 rfl (by kernel_rfl) ?_)
        | (refine wpList_store_ob (cells := #[.int .i64 s.order, .int .i64 s.first, .int .i64 s.regions, .slice A1 s.want.length c1, .bool s.waits, .int .i64 s.state, .int .i64 s.asked, .slice A2 s.got.length c2, .slice A3 s.pending.length c3, .bool true]) rfl 26 (.tmp 4) (.tmp 80) rfl rfl rfl u3 rfl (by kernel_rfl) (by simp [Value.oneCell']) ?_; intro W13 ho13 hg13))
      obtain ⟨hPS, hBb⟩ := HX.out
      have hB13 := hBb.grown hg13 (by omega) (fun g e => by have e2 : w.heap.size + 2 = g := Option.some.inj e; omega)
      have hP13 := ((hPS).grow hg13 (.inr (.inr rfl))).more (Av' := fun _ => False) fun i _ hx => hx.elim
      have hS13 := ((StepsA.nil (fun i => i = w.heap.size ∨ i = w.heap.size + 1 ∨ i = w.heap.size + 2) (W1.setCell ⟨w.heap.size, 9, none⟩ (.bool true))).grow hg13 (.inr (.inr rfl))).more (Av' := fun _ => False) fun i _ hx => hx.elim
      obtain ⟨p0, p1, p2, p3, p4, p5, p6, p7, p8, p9⟩ := ob_ten ho13
      refine bodyPost_ret (v := .tuple #[.agg #[.int .i64 s.order, .int .i64 s.first, .int .i64 s.regions, .slice A1 s.want.length c1, .bool s.waits, .int .i64 s.state, .int .i64 s.asked, .slice A2 s.got.length c2, .slice A3 s.pending.length c3, .bool true], .slice none 0 0, .int .i64 0]) ?_ rfl ⟨by rw [hr.out]; exact ⟨_, _, _, _, rfl, hP13, hS13⟩, hB13⟩
      simp [results, Tryz.f10, go_sem, sagaC, p0, p1, p2, p3, p4, p5, p6, p7, p8, p9]
  have h14 : ¬ (s.state = 1 ∨ s.state = 4) := fun h => h.elim h1 h4
  rcases neq_cases s.state 3 with ⟨h3, d7, d8, d9⟩ | ⟨h3, d7, d8, d9⟩
  · have hr := Lib.hid (show cancelS s = .ok (endS ({ s with cancelled := true } : Saga), told (endSt ({ s with cancelled := true } : Saga))) by unfold cancelS cancelAt; rw [if_neg h14, if_pos h3])
    clear h14 h1 h4 h3
    have cX := Lib.hid (refends_calls (fun i => i = w.heap.size ∨ i = w.heap.size + 1 ∨ i = w.heap.size + 2) ({ s with cancelled := true } : Saga) _ _ _ (W1.setCell ⟨w.heap.size, 9, none⟩ (.bool true)) hPS)
    unfold sagaC at cX
    try dsimp only at cX
    go_wp2_with (refine wpList_load_obg (by rfl) _ _ rfl rfl _ u1 Tryz.underlying26 rfl (by kernel_rfl) ?_)
    refine cX.out.mono ?_
    rintro e W2 ⟨⟨uw, ug, up, ul, rfl, hP2, hS2⟩, hb2⟩
    have hB2 := hBb.trans (hb2.mono hBb.size)
    have y1 := u1.same hb2
    have y3 := u3.same hb2
    have hz2 := y3.lt
    have hbs := hb2.size
    obtain ⟨E1, l1, rfl, -⟩ := hP2.want.form
    obtain ⟨E3, l3, rfl, -⟩ := hP2.pend.form
    obtain ⟨us, -, hu2, -⟩ := hP2.got
    obtain ⟨E2, l2, rfl, -⟩ := hu2.form
    obtain ⟨E4, l4, rfl, -⟩ := hS2.form
    have hS2 := StepsA.of (Av := (fun i => i = w.heap.size ∨ i = w.heap.size + 1 ∨ i = w.heap.size + 2)) hS2 (Nat.le_refl _) (fun i ha _ hx => by rw [hzb] at ha; rcases hx with hx | hx | hx <;> omega)
    clear hu2 us cX
    obtain ⟨Y, hY⟩ : ∃ Y : Saga, Y = (endS ({ s with cancelled := true } : Saga)) := ⟨_, rfl⟩
    obtain ⟨L, hL⟩ : ∃ L : List Step, L = (told (endSt ({ s with cancelled := true } : Saga))) := ⟨_, rfl⟩
    rw [← hY] at hP2 ⊢
    rw [← hL] at hS2 ⊢
    have HY := Lib.hid hY
    have HL := Lib.hid hL
    clear hY hL
    obtain ⟨se, hse⟩ : ∃ se, se = sagaC Y (.slice E1 Y.want.length l1) (.slice E2 Y.got.length l2) (.slice E3 Y.pending.length l3) := ⟨_, rfl⟩
    rw [← hse]
    have he1 : se.size = 10 := by rw [hse]; rfl
    have he2 : se.all (·.oneCell') = true := by rw [hse]; simp [sagaC, Value.oneCell']
    have HSE := Lib.hid hse
    have HX := Lib.hid (And.intro hP2 (And.intro hS2 hB2))
    clear hse hP2 hS2 hB2
    go_wp2_with (first
      | (refine wpList_store_ob (cells := se) rfl 26 (.tmp 2) (.tmp 86) rfl rfl rfl y1 he1 (by rw [he1]; kernel_rfl) he2 ?_
         intro W3 ho3 hg3
         have z3 := y3.kept hg3 (fun e => by have e2 : w.heap.size + 2 = w.heap.size := Option.some.inj e; omega))
      | (refine wpList_load_obg (by rfl) _ _ rfl rfl _ ho3 Tryz.underlying26 rfl (by rw [he1]; kernel_rfl) ?_)
      | (refine wpList_store_ob (cells := se) rfl 26 (.tmp 4) (.tmp 88) rfl rfl rfl z3 he1 (by rw [he1]; kernel_rfl) he2 ?_; intro W13 ho13 hg13))
    obtain ⟨hP2, hS2, hB2⟩ := HX.out
    have hzz := z3.lt
    have hP3 := hP2.grow hg3 (.inl rfl)
    have hS3 := hS2.grow hg3 (.inl rfl)
    have hB3 := hB2.grown hg3 (by omega) (fun g e => by have e2 : w.heap.size = g := Option.some.inj e; omega)
    rw [HSE.out] at ho13
    have hB13 := hB3.grown hg13 (by omega) (fun g e => by have e2 : w.heap.size + 2 = g := Option.some.inj e; omega)
    have hP13 := ((hP3).grow hg13 (.inr (.inr rfl))).more (Av' := fun _ => False) fun i _ hx => hx.elim
    have hS13 := ((hS3).grow hg13 (.inr (.inr rfl))).more (Av' := fun _ => False) fun i _ hx => hx.elim
    obtain ⟨p0, p1, p2, p3, p4, p5, p6, p7, p8, p9⟩ := ob_ten ho13
    refine bodyPost_ret (v := .tuple #[.agg (sagaC Y (.slice E1 Y.want.length l1) (.slice E2 Y.got.length l2) (.slice E3 Y.pending.length l3)), .slice E4 L.length l4, .int .i64 0]) ?_ rfl ⟨by rw [hr.out]; show Ret3A _ _ _ (.ok (_, _)); rw [← HY.out, ← HL.out]; exact ⟨_, _, _, _, rfl, hP13, hS13⟩, hB13⟩
    simp [results, Tryz.f10, go_sem, sagaC, p0, p1, p2, p3, p4, p5, p6, p7, p8, p9]
  rcases neq_cases s.state 2 with ⟨h2, d10, d11, d12⟩ | ⟨h2, d10, d11, d12⟩
  · have hr := Lib.hid (show cancelS s = .ok (undoS ({ s with cancelled := true } : Saga)) by unfold cancelS cancelAt; rw [if_neg h14, if_neg h3, if_pos h2])
    clear h14 h1 h4 h3 h2
    have cX := Lib.hid (refundo_calls (fun i => i = w.heap.size ∨ i = w.heap.size + 1 ∨ i = w.heap.size + 2) ({ s with cancelled := true } : Saga) _ _ _ (W1.setCell ⟨w.heap.size, 9, none⟩ (.bool true)) hPS (fun i hx => by rw [hzb]; exact hav i hx) hgl)
    unfold sagaC at cX
    try dsimp only at cX
    go_wp2_with (refine wpList_load_obg (by rfl) _ _ rfl rfl _ u1 Tryz.underlying26 rfl (by kernel_rfl) ?_)
    refine cX.out.mono ?_
    rintro e W2 ⟨⟨uw, ug, up, ul, rfl, hP2, hS2⟩, hb2⟩
    have hB2 := hBb.trans (hb2.mono hBb.size)
    have y1 := u1.same hb2
    have y3 := u3.same hb2
    have hz2 := y3.lt
    have hbs := hb2.size
    obtain ⟨E1, l1, rfl, -⟩ := hP2.want.form
    obtain ⟨E3, l3, rfl, -⟩ := hP2.pend.form
    obtain ⟨us, -, hu2, -⟩ := hP2.got
    obtain ⟨E2, l2, rfl, -⟩ := hu2.form
    obtain ⟨E4, l4, rfl, -⟩ := hS2.form
    have hS2 := StepsA.of (Av := (fun i => i = w.heap.size ∨ i = w.heap.size + 1 ∨ i = w.heap.size + 2)) hS2 (Nat.le_refl _) (fun i ha _ hx => by rw [hzb] at ha; rcases hx with hx | hx | hx <;> omega)
    clear hu2 us cX
    obtain ⟨Y, hY⟩ : ∃ Y : Saga, Y = (undoS ({ s with cancelled := true } : Saga)).1 := ⟨_, rfl⟩
    obtain ⟨L, hL⟩ : ∃ L : List Step, L = (undoS ({ s with cancelled := true } : Saga)).2 := ⟨_, rfl⟩
    rw [← hY] at hP2 ⊢
    rw [← hL] at hS2 ⊢
    have HY := Lib.hid hY
    have HL := Lib.hid hL
    clear hY hL
    obtain ⟨se, hse⟩ : ∃ se, se = sagaC Y (.slice E1 Y.want.length l1) (.slice E2 Y.got.length l2) (.slice E3 Y.pending.length l3) := ⟨_, rfl⟩
    rw [← hse]
    have he1 : se.size = 10 := by rw [hse]; rfl
    have he2 : se.all (·.oneCell') = true := by rw [hse]; simp [sagaC, Value.oneCell']
    have HSE := Lib.hid hse
    have HX := Lib.hid (And.intro hP2 (And.intro hS2 hB2))
    clear hse hP2 hS2 hB2
    go_wp2_with (first
      | (refine wpList_store_ob (cells := se) rfl 26 (.tmp 2) (.tmp 95) rfl rfl rfl y1 he1 (by rw [he1]; kernel_rfl) he2 ?_
         intro W3 ho3 hg3
         have z3 := y3.kept hg3 (fun e => by have e2 : w.heap.size + 2 = w.heap.size := Option.some.inj e; omega))
      | (refine wpList_load_obg (by rfl) _ _ rfl rfl _ ho3 Tryz.underlying26 rfl (by rw [he1]; kernel_rfl) ?_)
      | (refine wpList_store_ob (cells := se) rfl 26 (.tmp 4) (.tmp 97) rfl rfl rfl z3 he1 (by rw [he1]; kernel_rfl) he2 ?_; intro W13 ho13 hg13))
    obtain ⟨hP2, hS2, hB2⟩ := HX.out
    have hzz := z3.lt
    have hP3 := hP2.grow hg3 (.inl rfl)
    have hS3 := hS2.grow hg3 (.inl rfl)
    have hB3 := hB2.grown hg3 (by omega) (fun g e => by have e2 : w.heap.size = g := Option.some.inj e; omega)
    rw [HSE.out] at ho13
    have hB13 := hB3.grown hg13 (by omega) (fun g e => by have e2 : w.heap.size + 2 = g := Option.some.inj e; omega)
    have hP13 := ((hP3).grow hg13 (.inr (.inr rfl))).more (Av' := fun _ => False) fun i _ hx => hx.elim
    have hS13 := ((hS3).grow hg13 (.inr (.inr rfl))).more (Av' := fun _ => False) fun i _ hx => hx.elim
    obtain ⟨p0, p1, p2, p3, p4, p5, p6, p7, p8, p9⟩ := ob_ten ho13
    refine bodyPost_ret (v := .tuple #[.agg (sagaC Y (.slice E1 Y.want.length l1) (.slice E2 Y.got.length l2) (.slice E3 Y.pending.length l3)), .slice E4 L.length l4, .int .i64 0]) ?_ rfl ⟨by rw [hr.out]; show Ret3A _ _ _ (.ok ((undoS ({ s with cancelled := true } : Saga)).1, (undoS ({ s with cancelled := true } : Saga)).2)); rw [← HY.out, ← HL.out]; exact ⟨_, _, _, _, rfl, hP13, hS13⟩, hB13⟩
    simp [results, Tryz.f10, go_sem, sagaC, p0, p1, p2, p3, p4, p5, p6, p7, p8, p9]
  have hr := Lib.hid (show cancelS s = .error 80 by unfold cancelS cancelAt; rw [if_neg h14, if_neg h3, if_neg h2])
  clear h14 h1 h4 h3 h2
  go_wp2_with (refine wpList_store_ob (cells := #[.int .i64 0, .int .i64 0, .int .i64 0, .slice none 0 0, .bool false, .int .i64 0, .int .i64 0, .slice none 0 0, .slice none 0 0, .bool false]) rfl 26 (.tmp 4) (.tmp 158) rfl rfl rfl u3 rfl (by kernel_rfl) (by simp [Value.oneCell']) ?_; intro W10 ho10 hg10)
  have hB10 := hBb.grown hg10 (by omega) (fun g e => by have e2 : w.heap.size + 2 = g := Option.some.inj e; omega)
  obtain ⟨p0, p1, p2, p3, p4, p5, p6, p7, p8, p9⟩ := ob_ten ho10
  refine bodyPost_ret (v := .tuple #[.agg #[.int .i64 0, .int .i64 0, .int .i64 0, .slice none 0 0, .bool false, .int .i64 0, .int .i64 0, .slice none 0 0, .slice none 0 0, .bool false], .slice none 0 0, .int .i64 80]) ?_ rfl ⟨by rw [hr.out]; exact ⟨_, _, _, _, rfl, partsA0 _ _, StepsA.nil _ _⟩, hB10⟩
  simp [results, Tryz.f10, go_sem, p0, p1, p2, p3, p4, p5, p6, p7, p8, p9]

set_option maxRecDepth 100000 in
set_option maxHeartbeats 4000000 in
theorem refnext_no (s : Saga) (ev : Ev) (vw vg vp ve : Value) (w : World) (h : Parts w 0 w.heap.size s vw vg vp) (hv : ItemsAt w 0 w.heap.size ve ev.items) (hF : Fit s) (hm : mayS s = false) :
    Calls Tryz.prog 10 #[.agg (sagaC s vw vg vp), .agg (evC ev ve)] w fun e w' => Ret3A (fun _ => False) w' e (if false = true then happenS s ev else .error 1) ∧ Below w.heap.size w w' := by
  rw [if_neg (by decide)]
  have hmx : Tryz.prog.follows .mixedOrders = true := by kernel_rfl
  have cM := Lib.hid (fun V (hb : Below w.heap.size w V) => refmay15_calls s _ _ _ V (h.later hb) hF)
  rw [hm] at cM
  obtain ⟨A1, c1, rfl, -⟩ := h.want.form
  obtain ⟨A2, c2, rfl, -⟩ := h.got.form
  obtain ⟨A3, c3, rfl, -⟩ := h.pend.form
  obtain ⟨A4, c4, rfl, -⟩ := hv.form
  have hal1 := (Below.refl w.heap.size w).alloc (Nat.le_refl _) (.cells #[.int .i64 s.order, .int .i64 s.first, .int .i64 s.regions, .slice A1 s.want.length c1, .bool s.waits, .int .i64 s.state, .int .i64 s.asked, .slice A2 s.got.length c2, .slice A3 s.pending.length c3, .bool s.cancelled] 26)
  have hal2 := hal1.alloc hal1.size (.cells #[.int .i64 ev.kind, .int .i64 ev.region, .slice A4 ev.items.length c4] 28)
  have hB := hal2.alloc hal2.size (.cells #[.int .i64 0, .int .i64 0, .int .i64 0, .slice none 0 0, .bool false, .int .i64 0, .int .i64 0, .slice none 0 0, .slice none 0 0, .bool false] 26)
  have o1 := ((Ob.new w 26 #[.int .i64 s.order, .int .i64 s.first, .int .i64 s.regions, .slice A1 s.want.length c1, .bool s.waits, .int .i64 s.state, .int .i64 s.asked, .slice A2 s.got.length c2, .slice A3 s.pending.length c3, .bool s.cancelled]).alloc (.cells #[.int .i64 ev.kind, .int .i64 ev.region, .slice A4 ev.items.length c4] 28)).alloc (.cells #[.int .i64 0, .int .i64 0, .int .i64 0, .slice none 0 0, .bool false, .int .i64 0, .int .i64 0, .slice none 0 0, .slice none 0 0, .bool false] 26)
  have o2 := (Ob.new (w.alloc (.cells #[.int .i64 s.order, .int .i64 s.first, .int .i64 s.regions, .slice A1 s.want.length c1, .bool s.waits, .int .i64 s.state, .int .i64 s.asked, .slice A2 s.got.length c2, .slice A3 s.pending.length c3, .bool s.cancelled] 26)) 28 #[.int .i64 ev.kind, .int .i64 ev.region, .slice A4 ev.items.length c4]).alloc (.cells #[.int .i64 0, .int .i64 0, .int .i64 0, .slice none 0 0, .bool false, .int .i64 0, .int .i64 0, .slice none 0 0, .slice none 0 0, .bool false] 26)
  have o3 := Ob.new ((w.alloc (.cells #[.int .i64 s.order, .int .i64 s.first, .int .i64 s.regions, .slice A1 s.want.length c1, .bool s.waits, .int .i64 s.state, .int .i64 s.asked, .slice A2 s.got.length c2, .slice A3 s.pending.length c3, .bool s.cancelled] 26)).alloc (.cells #[.int .i64 ev.kind, .int .i64 ev.region, .slice A4 ev.items.length c4] 28)) 26 #[.int .i64 0, .int .i64 0, .int .i64 0, .slice none 0 0, .bool false, .int .i64 0, .int .i64 0, .slice none 0 0, .slice none 0 0, .bool false]
  rw [World.size_alloc, World.size_alloc] at o3
  rw [World.size_alloc] at o2
  clear hal1 hal2 h hv hm
  unfold sagaC evC
  unfold sagaC at cM
  go_enter Tryz.func10, Tryz.ntmps10
  go_upto_region 1 with (fail)
  generalize ((w.alloc (.cells #[.int .i64 s.order, .int .i64 s.first, .int .i64 s.regions, .slice A1 s.want.length c1, .bool s.waits, .int .i64 s.state, .int .i64 s.asked, .slice A2 s.got.length c2, .slice A3 s.pending.length c3, .bool s.cancelled] 26)).alloc (.cells #[.int .i64 ev.kind, .int .i64 ev.region, .slice A4 ev.items.length c4] 28)).alloc (.cells #[.int .i64 0, .int .i64 0, .int .i64 0, .slice none 0 0, .bool false, .int .i64 0, .int .i64 0, .slice none 0 0, .slice none 0 0, .bool false] 26) = W0 at *
  go_wp2_with (refine wpList_load_obg (by rfl) _ _ rfl rfl _ o1 Tryz.underlying26 rfl (by kernel_rfl) ?_)
  refine (cM.out _ hB).mono ?_
  rintro e W1 ⟨rfl, hb1⟩
  have hB1 := hB.trans (hb1.mono hB.size)
  have x2 := o2.same hb1
  have x3 := o3.same hb1
  have hz := x3.lt
  obtain ⟨e0, -, -⟩ := ob_three x2
  clear o1 o2 o3 hb1 hB cM x2
  go_wp2_with (refine wpList_store_ob (cells := #[.int .i64 0, .int .i64 0, .int .i64 0, .slice none 0 0, .bool false, .int .i64 0, .int .i64 0, .slice none 0 0, .slice none 0 0, .bool false]) rfl 26 (.tmp 4) (.tmp 22) rfl rfl rfl x3 rfl (by kernel_rfl) (by simp [Value.oneCell']) ?_; intro W10 ho10 hg10)
  have hB10 := hB1.grown hg10 (by omega) (fun g e => by have e2 : w.heap.size + 2 = g := Option.some.inj e; omega)
  obtain ⟨p0, p1, p2, p3, p4, p5, p6, p7, p8, p9⟩ := ob_ten ho10
  refine bodyPost_ret (v := .tuple #[.agg #[.int .i64 0, .int .i64 0, .int .i64 0, .slice none 0 0, .bool false, .int .i64 0, .int .i64 0, .slice none 0 0, .slice none 0 0, .bool false], .slice none 0 0, .int .i64 1]) ?_ rfl ⟨⟨_, _, _, _, rfl, partsA0 _ _, StepsA.nil _ _⟩, hB10⟩
  simp [results, Tryz.f10, go_sem, p0, p1, p2, p3, p4, p5, p6, p7, p8, p9]

set_option maxRecDepth 100000 in
set_option maxHeartbeats 4000000 in
theorem refnext_other (s : Saga) (ek er : Int) (ei : List It.Item) (vw vg vp ve : Value) (w : World) (h : Parts w 0 w.heap.size s vw vg vp) (hv : ItemsAt w 0 w.heap.size ve ei) (hF : Fit s) (hm : mayS s = true) (hk : ek < 1 ∨ 8 < ek) :
    Calls Tryz.prog 10 #[.agg (sagaC s vw vg vp), .agg (evC ⟨ek, er, ei⟩ ve)] w fun e w' => Ret3A (fun _ => False) w' e (.error 1) ∧ Below w.heap.size w w' := by
  have HK := Lib.hid hk
  clear hk
  have hmx : Tryz.prog.follows .mixedOrders = true := by kernel_rfl
  have cM := Lib.hid (fun V (hb : Below w.heap.size w V) => refmay15_calls s _ _ _ V (h.later hb) hF)
  rw [hm] at cM
  obtain ⟨A1, c1, rfl, -⟩ := h.want.form
  obtain ⟨A2, c2, rfl, -⟩ := h.got.form
  obtain ⟨A3, c3, rfl, -⟩ := h.pend.form
  obtain ⟨A4, c4, rfl, -⟩ := hv.form
  have hal1 := (Below.refl w.heap.size w).alloc (Nat.le_refl _) (.cells #[.int .i64 s.order, .int .i64 s.first, .int .i64 s.regions, .slice A1 s.want.length c1, .bool s.waits, .int .i64 s.state, .int .i64 s.asked, .slice A2 s.got.length c2, .slice A3 s.pending.length c3, .bool s.cancelled] 26)
  have hal2 := hal1.alloc hal1.size (.cells #[.int .i64 ek, .int .i64 er, .slice A4 ei.length c4] 28)
  have hB := hal2.alloc hal2.size (.cells #[.int .i64 0, .int .i64 0, .int .i64 0, .slice none 0 0, .bool false, .int .i64 0, .int .i64 0, .slice none 0 0, .slice none 0 0, .bool false] 26)
  have o1 := ((Ob.new w 26 #[.int .i64 s.order, .int .i64 s.first, .int .i64 s.regions, .slice A1 s.want.length c1, .bool s.waits, .int .i64 s.state, .int .i64 s.asked, .slice A2 s.got.length c2, .slice A3 s.pending.length c3, .bool s.cancelled]).alloc (.cells #[.int .i64 ek, .int .i64 er, .slice A4 ei.length c4] 28)).alloc (.cells #[.int .i64 0, .int .i64 0, .int .i64 0, .slice none 0 0, .bool false, .int .i64 0, .int .i64 0, .slice none 0 0, .slice none 0 0, .bool false] 26)
  have o2 := (Ob.new (w.alloc (.cells #[.int .i64 s.order, .int .i64 s.first, .int .i64 s.regions, .slice A1 s.want.length c1, .bool s.waits, .int .i64 s.state, .int .i64 s.asked, .slice A2 s.got.length c2, .slice A3 s.pending.length c3, .bool s.cancelled] 26)) 28 #[.int .i64 ek, .int .i64 er, .slice A4 ei.length c4]).alloc (.cells #[.int .i64 0, .int .i64 0, .int .i64 0, .slice none 0 0, .bool false, .int .i64 0, .int .i64 0, .slice none 0 0, .slice none 0 0, .bool false] 26)
  have o3 := Ob.new ((w.alloc (.cells #[.int .i64 s.order, .int .i64 s.first, .int .i64 s.regions, .slice A1 s.want.length c1, .bool s.waits, .int .i64 s.state, .int .i64 s.asked, .slice A2 s.got.length c2, .slice A3 s.pending.length c3, .bool s.cancelled] 26)).alloc (.cells #[.int .i64 ek, .int .i64 er, .slice A4 ei.length c4] 28)) 26 #[.int .i64 0, .int .i64 0, .int .i64 0, .slice none 0 0, .bool false, .int .i64 0, .int .i64 0, .slice none 0 0, .slice none 0 0, .bool false]
  rw [World.size_alloc, World.size_alloc] at o3
  rw [World.size_alloc] at o2
  clear hal1 hal2 h hv hm
  unfold sagaC evC
  unfold sagaC at cM
  dsimp only
  go_enter Tryz.func10, Tryz.ntmps10
  go_upto_region 1 with (fail)
  generalize ((w.alloc (.cells #[.int .i64 s.order, .int .i64 s.first, .int .i64 s.regions, .slice A1 s.want.length c1, .bool s.waits, .int .i64 s.state, .int .i64 s.asked, .slice A2 s.got.length c2, .slice A3 s.pending.length c3, .bool s.cancelled] 26)).alloc (.cells #[.int .i64 ek, .int .i64 er, .slice A4 ei.length c4] 28)).alloc (.cells #[.int .i64 0, .int .i64 0, .int .i64 0, .slice none 0 0, .bool false, .int .i64 0, .int .i64 0, .slice none 0 0, .slice none 0 0, .bool false] 26) = W0 at *
  go_wp2_with (refine wpList_load_obg (by rfl) _ _ rfl rfl _ o1 Tryz.underlying26 rfl (by kernel_rfl) ?_)
  refine (cM.out _ hB).mono ?_
  rintro e W1 ⟨rfl, hb1⟩
  have hB1 := hB.trans (hb1.mono hB.size)
  have x2 := o2.same hb1
  have x3 := o3.same hb1
  have hz := x3.lt
  obtain ⟨e0, -, -⟩ := ob_three x2
  clear o1 o2 o3 hb1 hB cM x2
  by_cases h1 : ek < 1
  · have d1 : decide (ek < 1) = true := decide_eq_true h1
    clear h1
    go_wp2_with (refine wpList_store_ob (cells := #[.int .i64 0, .int .i64 0, .int .i64 0, .slice none 0 0, .bool false, .int .i64 0, .int .i64 0, .slice none 0 0, .slice none 0 0, .bool false]) rfl 26 (.tmp 4) (.tmp 22) rfl rfl rfl x3 rfl (by kernel_rfl) (by simp [Value.oneCell']) ?_; intro W10 ho10 hg10)
    have hB10 := hB1.grown hg10 (by omega) (fun g e => by have e2 : w.heap.size + 2 = g := Option.some.inj e; omega)
    obtain ⟨p0, p1, p2, p3, p4, p5, p6, p7, p8, p9⟩ := ob_ten ho10
    refine bodyPost_ret (v := .tuple #[.agg #[.int .i64 0, .int .i64 0, .int .i64 0, .slice none 0 0, .bool false, .int .i64 0, .int .i64 0, .slice none 0 0, .slice none 0 0, .bool false], .slice none 0 0, .int .i64 1]) ?_ rfl ⟨⟨_, _, _, _, rfl, partsA0 _ _, StepsA.nil _ _⟩, hB10⟩
    simp [results, Tryz.f10, go_sem, p0, p1, p2, p3, p4, p5, p6, p7, p8, p9]
  · have d1 : decide (ek < 1) = false := decide_eq_false h1
    have d2 : decide (ek > 8) = true := decide_eq_true (by have := HK.out; omega)
    clear h1
    go_wp2_with (refine wpList_store_ob (cells := #[.int .i64 0, .int .i64 0, .int .i64 0, .slice none 0 0, .bool false, .int .i64 0, .int .i64 0, .slice none 0 0, .slice none 0 0, .bool false]) rfl 26 (.tmp 4) (.tmp 22) rfl rfl rfl x3 rfl (by kernel_rfl) (by simp [Value.oneCell']) ?_; intro W10 ho10 hg10)
    have hB10 := hB1.grown hg10 (by omega) (fun g e => by have e2 : w.heap.size + 2 = g := Option.some.inj e; omega)
    obtain ⟨p0, p1, p2, p3, p4, p5, p6, p7, p8, p9⟩ := ob_ten ho10
    refine bodyPost_ret (v := .tuple #[.agg #[.int .i64 0, .int .i64 0, .int .i64 0, .slice none 0 0, .bool false, .int .i64 0, .int .i64 0, .slice none 0 0, .slice none 0 0, .bool false], .slice none 0 0, .int .i64 1]) ?_ rfl ⟨⟨_, _, _, _, rfl, partsA0 _ _, StepsA.nil _ _⟩, hB10⟩
    simp [results, Tryz.f10, go_sem, p0, p1, p2, p3, p4, p5, p6, p7, p8, p9]

theorem refnext_calls (s : Saga) (ev : Ev) (vw vg vp ve : Value) (w : World) (h : Parts w 0 w.heap.size s vw vg vp) (hv : ItemsAt w 0 w.heap.size ve ev.items) (hF : Fit s) (hFe : Fits ev.items) (hil : ev.items.length ≤ 1000000) :
    Calls Tryz.prog 10 #[.agg (sagaC s vw vg vp), .agg (evC ev ve)] w fun e w' => Ret3A (fun _ => False) w' e (nextS s ev) ∧ Below w.heap.size w w' := by
  unfold nextS nextU
  cases hm : mayS s with
  | false => exact refnext_no s ev vw vg vp ve w h hv hF hm
  | true =>
    rw [if_pos rfl]
    obtain ⟨ek, er, ei⟩ := ev
    unfold happenS
    dsimp only at *
    by_cases h1 : ek = 1
    · subst h1; rw [if_pos rfl]; exact refnext_took s er ei vw vg vp ve w h hv hF hFe hil hm
    by_cases h2 : ek = 2
    · subst h2; rw [if_neg (by omega), if_pos rfl]; exact refnext_freed s er ei vw vg vp ve w h hv hF hFe hil hm
    by_cases h3 : ek = 3
    · subst h3; rw [if_neg (by omega), if_neg (by omega), if_pos rfl]; exact refnext_cancel s er ei vw vg vp ve w h hv hF hFe hil hm
    by_cases h4 : ek = 4
    · subst h4; rw [if_neg (by omega), if_neg (by omega), if_neg (by omega), if_pos rfl]; exact refnext_retry s er ei vw vg vp ve w h hv hF hFe hil hm
    by_cases h5 : ek = 5
    · subst h5; rw [if_neg (by omega), if_neg (by omega), if_neg (by omega), if_neg (by omega), if_pos rfl]; exact refnext_pick s er ei vw vg vp ve w h hv hF hFe hil hm
    by_cases h6 : ek = 6
    · subst h6; rw [if_neg (by omega), if_neg (by omega), if_neg (by omega), if_neg (by omega), if_neg (by omega), if_pos rfl]; exact refnext_did6 s er ei vw vg vp ve w h hv hF hFe hil hm
    by_cases h7 : ek = 7
    · subst h7; rw [if_neg (by omega), if_neg (by omega), if_neg (by omega), if_neg (by omega), if_neg (by omega), if_neg (by omega), if_pos rfl]; exact refnext_ship s er ei vw vg vp ve w h hv hF hFe hil hm
    by_cases h8 : ek = 8
    · subst h8; rw [if_neg (by omega), if_neg (by omega), if_neg (by omega), if_neg (by omega), if_neg (by omega), if_neg (by omega), if_neg (by omega), if_pos rfl]; exact refnext_did8 s er ei vw vg vp ve w h hv hF hFe hil hm
    rw [if_neg h1, if_neg h2, if_neg h3, if_neg h4, if_neg h5, if_neg h6, if_neg h7, if_neg h8]
    exact refnext_other s ek er ei vw vg vp ve w h hv hF hm (by omega)
end Sa
end Go.Proofs.YthfpfomifebpbaaGreat
