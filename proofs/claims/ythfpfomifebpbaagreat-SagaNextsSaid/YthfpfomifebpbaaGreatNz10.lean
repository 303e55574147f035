/-
  saga: the document's took.
  saga: the document's took: where it goes on.
  saga: the document's done.
  saga: plain: the document's answers are the program's.
  saga: the document's Begin: what it gives lies in none of some blocks.
-/
import Derived.Test.YthfpfomifebpbaaGreatNz8
import Derived.Test.YthfpfomifebpbaaGreatNz9

set_option linter.unusedVariables false
set_option linter.unusedSimpArgs false
namespace Go.Proofs.YthfpfomifebpbaaGreat
open Go.RowKit Go.Maps
namespace Sa
open It
set_option linter.unusedSimpArgs false

/-- a saga, steps and an error, by value: they lie in none of the blocks of Av -/
def Ret3A (Av : Nat → Prop) (w' : World) (e : Ending) (r : Except Int (Saga × List Step)) : Prop :=
  ∃ vw vg vp vl, e = .returned (.tuple #[.agg (sagaC (outS r) vw vg vp), vl, .int .i64 (outE r)]) ∧ PartsA Av w' (outS r) vw vg vp ∧ StepsA Av w' vl (outL r)
def NoText (w : World) (b : Nat) : Prop := ∃ t cs, Ob w b t cs ∧ ∀ x ∈ cs.toList, ∀ s, x ≠ .string s
theorem NoText.later {w w' : World} {b : Nat} (h : NoText w b) (hb : Below w.heap.size w w') : NoText w' b := by
  obtain ⟨t, cs, h1, h2⟩ := h
  exact ⟨t, cs, h1.same hb, h2⟩
theorem noText_saga {w : World} {b n1 n2 n3 d1 d2 d3 : Nat} {t : TypeId} {A1 A2 A3 : Option Addr} {s : Saga} (h : Ob w b t (sagaC s (.slice A1 n1 d1) (.slice A2 n2 d2) (.slice A3 n3 d3))) : NoText w b :=
  ⟨t, _, h, fun x hx u => by
    simp only [sagaC, List.mem_cons, List.not_mem_nil, or_false] at hx
    rcases hx with rfl | rfl | rfl | rfl | rfl | rfl | rfl | rfl | rfl | rfl <;> simp⟩
theorem noText_ev {w : World} {b n1 d1 : Nat} {t : TypeId} {A1 : Option Addr} {e : Ev} (h : Ob w b t (evC e (.slice A1 n1 d1))) : NoText w b :=
  ⟨t, _, h, fun x hx u => by
    simp only [evC, List.mem_cons, List.not_mem_nil, or_false] at hx
    rcases hx with rfl | rfl | rfl <;> simp⟩
theorem noText_zero {w : World} {b : Nat} {t : TypeId} (h : Ob w b t #[.int .i64 0, .int .i64 0, .int .i64 0, .slice none 0 0, .bool false, .int .i64 0, .int .i64 0, .slice none 0 0, .slice none 0 0, .bool false]) : NoText w b := noText_saga (s := saga0) h
theorem items_noText {Av : Nat → Prop} {w : World} {lo B : Nat} {v : Value} {l : List It.Item} (h : ItemsAt w lo B v l) (ha : ∀ b, Av b → NoText w b) : SlA Av w 2 v l.length (itemCells l) := items_no h fun b hb _ => ha b hb

/-- behind a region's answer -/
def rtookT (t : Saga) : Saga × List Step :=
  if t.cancelled then undoS t
  else if (leftR t.want t.got).length = 0 then ({ t with state := 2 }, told 2)
  else if t.asked < t.regions then ({ t with asked := t.asked + 1, pending := [(t.first + t.asked) % t.regions] }, [⟨3, (t.first + t.asked) % t.regions, leftR t.want t.got, 0⟩])
  else undoS t
def rtookU (c : Bool) (t : Saga) : Except Int (Saga × List Step) := if c then .ok (rtookT t) else .error 60
def rtookS (s : Saga) (e : Ev) : Except Int (Saga × List Step) :=
  if s.state = 1 ∧ e.region ∈ s.pending then
    rtookU (may e.items && decide ((It.eachL restF e.items (leftR s.want s.got)).length = 0)) { s with pending := [], got := s.got.set e.region.toNat e.items }
  else .error 80

set_option maxRecDepth 100000 in
set_option maxHeartbeats 4000000 in
theorem reftook_no (Av : Nat → Prop) (s : Saga) (ev : Ev) (vw vg vp ve : Value) (w : World) (h : PartsA Av w s vw vg vp) (hv : SlA Av w 2 ve ev.items.length (itemCells ev.items)) (hno : ¬ (s.state = 1 ∧ ev.region ∈ s.pending)) :
    Calls Tryz.prog 26 #[.agg (sagaC s vw vg vp), .agg (evC ev ve)] w fun e w' => Ret3A Av w' e (.error 80) ∧ Below w.heap.size w w' := by
  have hmx : Tryz.prog.follows .mixedOrders = true := by kernel_rfl
  obtain ⟨A1, c1, rfl, -⟩ := h.want.form
  obtain ⟨us, -, hv2, -⟩ := h.got
  obtain ⟨A2, c2, rfl, -⟩ := hv2.form
  obtain ⟨A3, c3, rfl, -⟩ := h.pend.form
  obtain ⟨A4, c4, rfl, -⟩ := hv.form
  clear hv2 us
  have HP := Lib.hid h
  have HV := Lib.hid hv
  have HPE := Lib.hid h.parts.pend
  have hal1 := (Below.refl w.heap.size w).alloc (Nat.le_refl _) (.cells #[.int .i64 s.order, .int .i64 s.first, .int .i64 s.regions, .slice A1 s.want.length c1, .bool s.waits, .int .i64 s.state, .int .i64 s.asked, .slice A2 s.got.length c2, .slice A3 s.pending.length c3, .bool s.cancelled] 26)
  have hal2 := hal1.alloc hal1.size (.cells #[.int .i64 ev.kind, .int .i64 ev.region, .slice A4 ev.items.length c4] 28)
  have hB := hal2.alloc hal2.size (.cells #[.int .i64 0, .int .i64 0, .int .i64 0, .slice none 0 0, .bool false, .int .i64 0, .int .i64 0, .slice none 0 0, .slice none 0 0, .bool false] 26)
  have o1 := ((Ob.new w 26 #[.int .i64 s.order, .int .i64 s.first, .int .i64 s.regions, .slice A1 s.want.length c1, .bool s.waits, .int .i64 s.state, .int .i64 s.asked, .slice A2 s.got.length c2, .slice A3 s.pending.length c3, .bool s.cancelled]).alloc (.cells #[.int .i64 ev.kind, .int .i64 ev.region, .slice A4 ev.items.length c4] 28)).alloc (.cells #[.int .i64 0, .int .i64 0, .int .i64 0, .slice none 0 0, .bool false, .int .i64 0, .int .i64 0, .slice none 0 0, .slice none 0 0, .bool false] 26)
  have o2 := (Ob.new (w.alloc (.cells #[.int .i64 s.order, .int .i64 s.first, .int .i64 s.regions, .slice A1 s.want.length c1, .bool s.waits, .int .i64 s.state, .int .i64 s.asked, .slice A2 s.got.length c2, .slice A3 s.pending.length c3, .bool s.cancelled] 26)) 28 #[.int .i64 ev.kind, .int .i64 ev.region, .slice A4 ev.items.length c4]).alloc (.cells #[.int .i64 0, .int .i64 0, .int .i64 0, .slice none 0 0, .bool false, .int .i64 0, .int .i64 0, .slice none 0 0, .slice none 0 0, .bool false] 26)
  have o3 := Ob.new ((w.alloc (.cells #[.int .i64 s.order, .int .i64 s.first, .int .i64 s.regions, .slice A1 s.want.length c1, .bool s.waits, .int .i64 s.state, .int .i64 s.asked, .slice A2 s.got.length c2, .slice A3 s.pending.length c3, .bool s.cancelled] 26)).alloc (.cells #[.int .i64 ev.kind, .int .i64 ev.region, .slice A4 ev.items.length c4] 28)) 26 #[.int .i64 0, .int .i64 0, .int .i64 0, .slice none 0 0, .bool false, .int .i64 0, .int .i64 0, .slice none 0 0, .slice none 0 0, .bool false]
  rw [World.size_alloc, World.size_alloc] at o3
  rw [World.size_alloc] at o2
  clear hal1 hal2 h hv
  unfold sagaC evC
  go_enter Tryz.func26, Tryz.ntmps26
  go_upto_region 1 with (fail)
  generalize ((w.alloc (.cells #[.int .i64 s.order, .int .i64 s.first, .int .i64 s.regions, .slice A1 s.want.length c1, .bool s.waits, .int .i64 s.state, .int .i64 s.asked, .slice A2 s.got.length c2, .slice A3 s.pending.length c3, .bool s.cancelled] 26)).alloc (.cells #[.int .i64 ev.kind, .int .i64 ev.region, .slice A4 ev.items.length c4] 28)).alloc (.cells #[.int .i64 0, .int .i64 0, .int .i64 0, .slice none 0 0, .bool false, .int .i64 0, .int .i64 0, .slice none 0 0, .slice none 0 0, .bool false] 26) = W0 at *
  have hz := o3.lt
  obtain ⟨-, -, -, -, -, k5, -, -, k8, k9⟩ := ob_ten o1
  obtain ⟨-, e1, e2⟩ := ob_three o2
  have cI := Lib.hid (refin_calls s.pending ev.region (.slice A3 s.pending.length c3) 0 w.heap.size W0 (Sl.below HPE.out hB))
  by_cases h1 : s.state = 1
  · rw [decide_eq_false fun hm => hno ⟨h1, hm⟩] at cI
    have d1 : decide (s.state = 1) = true := decide_eq_true h1
    have d2 : (s.state == 1) = true := by rw [beq_iff_eq]; exact h1
    have d3 : (s.state != 1) = false := by simp [h1]
    have HN := Lib.hid hno
    clear hno h1
    go_wp2_with fail
    refine cI.out.mono ?_
    rintro e W1 ⟨rfl, rfl⟩
    go_wp2_with (refine wpList_store_ob (cells := #[.int .i64 0, .int .i64 0, .int .i64 0, .slice none 0 0, .bool false, .int .i64 0, .int .i64 0, .slice none 0 0, .slice none 0 0, .bool false]) rfl 26 (.tmp 4) (.tmp 22) rfl rfl rfl o3 rfl (by kernel_rfl) (by simp [Value.oneCell']) ?_; intro W10 ho10 hg10)
    have hB10 := hB.grown hg10 (by omega) (fun g e => by have e2 : w.heap.size + 2 = g := Option.some.inj e; omega)
    obtain ⟨p0, p1, p2, p3, p4, p5, p6, p7, p8, p9⟩ := ob_ten ho10
    refine bodyPost_ret (v := .tuple #[.agg #[.int .i64 0, .int .i64 0, .int .i64 0, .slice none 0 0, .bool false, .int .i64 0, .int .i64 0, .slice none 0 0, .slice none 0 0, .bool false], .slice none 0 0, .int .i64 80]) ?_ rfl ⟨⟨_, _, _, _, rfl, partsA0 _ _, StepsA.nil _ _⟩, hB10⟩
    simp [results, Tryz.f26, go_sem, p0, p1, p2, p3, p4, p5, p6, p7, p8, p9]
  · have d1 : decide (s.state = 1) = false := decide_eq_false h1
    have d2 : (s.state == 1) = false := by rw [beq_eq_false_iff_ne]; exact h1
    have d3 : (s.state != 1) = true := by simp [h1]
    have HN := Lib.hid hno
    clear hno h1 cI
    go_wp2_with (refine wpList_store_ob (cells := #[.int .i64 0, .int .i64 0, .int .i64 0, .slice none 0 0, .bool false, .int .i64 0, .int .i64 0, .slice none 0 0, .slice none 0 0, .bool false]) rfl 26 (.tmp 4) (.tmp 22) rfl rfl rfl o3 rfl (by kernel_rfl) (by simp [Value.oneCell']) ?_; intro W10 ho10 hg10)
    have hB10 := hB.grown hg10 (by omega) (fun g e => by have e2 : w.heap.size + 2 = g := Option.some.inj e; omega)
    obtain ⟨p0, p1, p2, p3, p4, p5, p6, p7, p8, p9⟩ := ob_ten ho10
    refine bodyPost_ret (v := .tuple #[.agg #[.int .i64 0, .int .i64 0, .int .i64 0, .slice none 0 0, .bool false, .int .i64 0, .int .i64 0, .slice none 0 0, .slice none 0 0, .bool false], .slice none 0 0, .int .i64 80]) ?_ rfl ⟨⟨_, _, _, _, rfl, partsA0 _ _, StepsA.nil _ _⟩, hB10⟩
    simp [results, Tryz.f26, go_sem, p0, p1, p2, p3, p4, p5, p6, p7, p8, p9]

set_option maxRecDepth 100000 in
set_option maxHeartbeats 8000000 in
theorem reftook_bad (Av : Nat → Prop) (s : Saga) (ev : Ev) (vw vg vp ve : Value) (w : World) (h : PartsA Av w s vw vg vp) (hv : SlA Av w 2 ve ev.items.length (itemCells ev.items)) (hFe : Fits ev.items) (hwl : s.want.length ≤ 1000000) (hgl : s.got.length ≤ 1000000) (hil : ev.items.length ≤ 1000000) (hst : s.state = 1) (hin : ev.region ∈ s.pending) (hbad : (may ev.items && decide ((It.eachL restF ev.items (leftR s.want s.got)).length = 0)) = false) :
    Calls Tryz.prog 26 #[.agg (sagaC s vw vg vp), .agg (evC ev ve)] w fun e w' => Ret3A Av w' e (.error 60) ∧ Below w.heap.size w w' := by
  have HST := Lib.hid hst
  have HINN := Lib.hid hin
  clear hst hin
  have hmx : Tryz.prog.follows .mixedOrders = true := by kernel_rfl
  obtain ⟨A1, c1, rfl, -⟩ := h.want.form
  obtain ⟨us, -, hv2, -⟩ := h.got
  obtain ⟨A2, c2, rfl, -⟩ := hv2.form
  obtain ⟨A3, c3, rfl, -⟩ := h.pend.form
  obtain ⟨A4, c4, rfl, -⟩ := hv.form
  clear hv2 us
  have HP := Lib.hid h
  have HV := Lib.hid hv
  have HPE := Lib.hid h.parts.pend
  have hal1 := (Below.refl w.heap.size w).alloc (Nat.le_refl _) (.cells #[.int .i64 s.order, .int .i64 s.first, .int .i64 s.regions, .slice A1 s.want.length c1, .bool s.waits, .int .i64 s.state, .int .i64 s.asked, .slice A2 s.got.length c2, .slice A3 s.pending.length c3, .bool s.cancelled] 26)
  have hal2 := hal1.alloc hal1.size (.cells #[.int .i64 ev.kind, .int .i64 ev.region, .slice A4 ev.items.length c4] 28)
  have hB := hal2.alloc hal2.size (.cells #[.int .i64 0, .int .i64 0, .int .i64 0, .slice none 0 0, .bool false, .int .i64 0, .int .i64 0, .slice none 0 0, .slice none 0 0, .bool false] 26)
  have o1 := ((Ob.new w 26 #[.int .i64 s.order, .int .i64 s.first, .int .i64 s.regions, .slice A1 s.want.length c1, .bool s.waits, .int .i64 s.state, .int .i64 s.asked, .slice A2 s.got.length c2, .slice A3 s.pending.length c3, .bool s.cancelled]).alloc (.cells #[.int .i64 ev.kind, .int .i64 ev.region, .slice A4 ev.items.length c4] 28)).alloc (.cells #[.int .i64 0, .int .i64 0, .int .i64 0, .slice none 0 0, .bool false, .int .i64 0, .int .i64 0, .slice none 0 0, .slice none 0 0, .bool false] 26)
  have o2 := (Ob.new (w.alloc (.cells #[.int .i64 s.order, .int .i64 s.first, .int .i64 s.regions, .slice A1 s.want.length c1, .bool s.waits, .int .i64 s.state, .int .i64 s.asked, .slice A2 s.got.length c2, .slice A3 s.pending.length c3, .bool s.cancelled] 26)) 28 #[.int .i64 ev.kind, .int .i64 ev.region, .slice A4 ev.items.length c4]).alloc (.cells #[.int .i64 0, .int .i64 0, .int .i64 0, .slice none 0 0, .bool false, .int .i64 0, .int .i64 0, .slice none 0 0, .slice none 0 0, .bool false] 26)
  have o3 := Ob.new ((w.alloc (.cells #[.int .i64 s.order, .int .i64 s.first, .int .i64 s.regions, .slice A1 s.want.length c1, .bool s.waits, .int .i64 s.state, .int .i64 s.asked, .slice A2 s.got.length c2, .slice A3 s.pending.length c3, .bool s.cancelled] 26)).alloc (.cells #[.int .i64 ev.kind, .int .i64 ev.region, .slice A4 ev.items.length c4] 28)) 26 #[.int .i64 0, .int .i64 0, .int .i64 0, .slice none 0 0, .bool false, .int .i64 0, .int .i64 0, .slice none 0 0, .slice none 0 0, .bool false]
  rw [World.size_alloc, World.size_alloc] at o3
  rw [World.size_alloc] at o2
  clear hal1 hal2 h hv
  unfold sagaC evC
  go_enter Tryz.func26, Tryz.ntmps26
  go_upto_region 1 with (fail)
  generalize ((w.alloc (.cells #[.int .i64 s.order, .int .i64 s.first, .int .i64 s.regions, .slice A1 s.want.length c1, .bool s.waits, .int .i64 s.state, .int .i64 s.asked, .slice A2 s.got.length c2, .slice A3 s.pending.length c3, .bool s.cancelled] 26)).alloc (.cells #[.int .i64 ev.kind, .int .i64 ev.region, .slice A4 ev.items.length c4] 28)).alloc (.cells #[.int .i64 0, .int .i64 0, .int .i64 0, .slice none 0 0, .bool false, .int .i64 0, .int .i64 0, .slice none 0 0, .slice none 0 0, .bool false] 26) = W0 at *
  have hz := o3.lt
  obtain ⟨-, -, -, -, -, k5, -, -, k8, k9⟩ := ob_ten o1
  obtain ⟨-, e1, e2⟩ := ob_three o2
  have hm0 : ∀ i, i < w.heap.size → (Av i ∨ i = w.heap.size ∨ i = w.heap.size + 1 ∨ i = w.heap.size + 2) → Av i := fun i hi hx => by
    rcases hx with hx | hx | hx | hx
    · exact hx
    · omega
    · omega
    · omega
  have hBd := hB.drew
  have x1 := Ob.drewn o1
  have x2 := Ob.drewn o2
  have x3 := Ob.drewn o3
  have hzd : w.heap.size + 2 < W0.drew.heap.size := hz
  have cM := Lib.hid (fun V (hb : Below w.heap.size w V) => refmay_calls ev.items _ V ((HV.out.later hb).all) hFe)
  have cI := Lib.hid (refin_calls s.pending ev.region (.slice A3 s.pending.length c3) 0 w.heap.size W0 (Sl.below HPE.out hB))
  have cS := Lib.hid (fun V (hb : Below w.heap.size w V) => refmissing_calls s _ _ _ V (HP.out.later hb).parts (by omega) (by omega))
  have hQ := Lib.hid (fun V (h : Below W0.drew.heap.size W0.drew V) => show V.cell? ⟨w.heap.size + 1, 2, none⟩ = some (.slice A4 ev.items.length c4) ∧ Ob V w.heap.size 26 #[.int .i64 s.order, .int .i64 s.first, .int .i64 s.regions, .slice A1 s.want.length c1, .bool s.waits, .int .i64 s.state, .int .i64 s.asked, .slice A2 s.got.length c2, .slice A3 s.pending.length c3, .bool s.cancelled] ∧ Ob V (w.heap.size + 1) 28 #[.int .i64 ev.kind, .int .i64 ev.region, .slice A4 ev.items.length c4] ∧ Ob V (w.heap.size + 2) 26 #[.int .i64 0, .int .i64 0, .int .i64 0, .slice none 0 0, .bool false, .int .i64 0, .int .i64 0, .slice none 0 0, .slice none 0 0, .bool false] from
    ⟨(x2.same h).cell rfl, x1.same h, x2.same h, x3.same h⟩)
  unfold sagaC at cS
  rw [decide_eq_true HINN.out] at cI
  have d1 : decide (s.state = 1) = true := decide_eq_true HST.out
  have d2 : (s.state == 1) = true := by rw [beq_iff_eq]; exact HST.out
  have d3 : (s.state != 1) = false := by simp [HST.out]
  clear hB o1 o2 o3
  go_wp2_with fail
  refine cI.out.mono ?_
  rintro e W1 ⟨rfl, rfl⟩
  clear k5 k8 k9 e1 e2 cI d1 d2 d3
  go_wp2
  generalize hmb : may ev.items = mb at cM hbad
  have HMB := Lib.hid hmb
  clear hmb
  cases mb with
  | false =>
    refine Pu.regionM [(0, false), (1, false), (2, true), (3, false), (4, false), (5, false), (6, false), (7, false), (8, true), (9, true), (10, false), (11, false), (12, false)] (fun V => Below W0.drew.heap.size W0.drew V) hmx (by kernel_rfl) (by kernel_rfl) (by kernel_rfl) (Below.refl _ _) rfl ?_
    simp only [Pu.named, List.filterMap_cons, List.filterMap_nil, List.getElem?_toArray, List.getElem?_cons_succ, List.getElem?_cons_zero, Option.map_some]
    iterate 2 (
      apply Pu.WalkM.on (by rfl)
      · intro V1 h1
        obtain ⟨q2, qo, -, -⟩ := hQ.out V1 h1
        go_wp2_with (first
           | (refine wpList_load_obg (by rfl) _ _ rfl rfl _ qo Tryz.underlying26 rfl (by kernel_rfl) ?_))
        refine ⟨rfl, ?_, rfl⟩
        try simp only [Act.put, List.setIfInBounds_toArray, List.set_cons_succ, List.set_cons_zero]
        rfl
      simp only [Act.put, List.setIfInBounds_toArray, List.set_cons_succ, List.set_cons_zero])
    refine Pu.WalkM.make (by rfl) ?_
    rintro W rfl
    go_wp2_with (go_at_call 74; refine (cM.out _ hBd).mono ?_; rintro e W3 ⟨rfl, hb3⟩)
    have hB3 := hBd.trans (hb3.mono hBd.size)
    refine ⟨rfl, .bool false, _, (fun V => V = W3), ?_, rfl, (fun V h => by rw [h]; exact hb3), (.inr (fun _ h => h)), ?_⟩
    · simp only [Act.put, List.setIfInBounds_toArray, List.set_cons_succ, List.set_cons_zero]
    simp only [Act.put, List.setIfInBounds_toArray, List.set_cons_succ, List.set_cons_zero]
    iterate 2 (
      apply Pu.WalkM.on (by rfl)
      · intro V1 h1
        obtain ⟨q2, qo, -, -⟩ := hQ.out V1 h1
        go_wp2_with (first
           | (refine wpList_load_obg (by rfl) _ _ rfl rfl _ qo Tryz.underlying26 rfl (by kernel_rfl) ?_))
        refine ⟨rfl, ?_, rfl⟩
        try simp only [Act.put, List.setIfInBounds_toArray, List.set_cons_succ, List.set_cons_zero]
        rfl
      simp only [Act.put, List.setIfInBounds_toArray, List.set_cons_succ, List.set_cons_zero])
    iterate 7 (refine Pu.WalkM.off (by rfl) ?_; simp only [Act.put, List.setIfInBounds_toArray, List.set_cons_succ, List.set_cons_zero])
    iterate 1 (
      apply Pu.WalkM.on (by rfl)
      · intro V1 h1
        obtain ⟨q2, qo, -, -⟩ := hQ.out V1 h1
        go_wp2_with (first
           | (refine wpList_load_obg (by rfl) _ _ rfl rfl _ qo Tryz.underlying26 rfl (by kernel_rfl) ?_))
        refine ⟨rfl, ?_, rfl⟩
        try simp only [Act.put, List.setIfInBounds_toArray, List.set_cons_succ, List.set_cons_zero]
        rfl
      simp only [Act.put, List.setIfInBounds_toArray, List.set_cons_succ, List.set_cons_zero])
    refine Pu.WalkM.nil ?_
    intro V hVJ
    cases hVJ.symm
    obtain ⟨-, -, -, y3⟩ := hQ.out _ hb3
    have hz3 := y3.lt
    go_wp2_with (refine wpList_store_ob (cells := #[.int .i64 0, .int .i64 0, .int .i64 0, .slice none 0 0, .bool false, .int .i64 0, .int .i64 0, .slice none 0 0, .slice none 0 0, .bool false]) rfl 26 (.tmp 4) (.tmp 36) rfl rfl rfl y3 rfl (by kernel_rfl) (by simp [Value.oneCell']) ?_; intro W10 ho10 hg10)
    have hB10 := hB3.grown hg10 (by omega) (fun g e => by have e2 : w.heap.size + 2 = g := Option.some.inj e; omega)
    obtain ⟨p0, p1, p2, p3, p4, p5, p6, p7, p8, p9⟩ := ob_ten ho10
    refine bodyPost_ret (v := .tuple #[.agg #[.int .i64 0, .int .i64 0, .int .i64 0, .slice none 0 0, .bool false, .int .i64 0, .int .i64 0, .slice none 0 0, .slice none 0 0, .bool false], .slice none 0 0, .int .i64 60]) ?_ rfl ⟨⟨_, _, _, _, rfl, partsA0 _ _, StepsA.nil _ _⟩, hB10⟩
    simp [results, Tryz.f26, go_sem, p0, p1, p2, p3, p4, p5, p6, p7, p8, p9]
  | true =>
    rw [Bool.true_and] at hbad
    have hrl := of_decide_eq_false hbad
    have HRL := Lib.hid hrl
    clear hbad
    refine Pu.regionM [(0, false), (1, false), (2, true), (3, false), (4, false), (5, false), (6, false), (7, false), (8, true), (9, true), (10, false), (11, false), (12, false)] (fun V => Below W0.drew.heap.size W0.drew V) hmx (by kernel_rfl) (by kernel_rfl) (by kernel_rfl) (Below.refl _ _) rfl ?_
    simp only [Pu.named, List.filterMap_cons, List.filterMap_nil, List.getElem?_toArray, List.getElem?_cons_succ, List.getElem?_cons_zero, Option.map_some]
    iterate 2 (
      apply Pu.WalkM.on (by rfl)
      · intro V1 h1
        obtain ⟨q2, qo, -, -⟩ := hQ.out V1 h1
        go_wp2_with (first
           | (refine wpList_load_obg (by rfl) _ _ rfl rfl _ qo Tryz.underlying26 rfl (by kernel_rfl) ?_))
        refine ⟨rfl, ?_, rfl⟩
        try simp only [Act.put, List.setIfInBounds_toArray, List.set_cons_succ, List.set_cons_zero]
        rfl
      simp only [Act.put, List.setIfInBounds_toArray, List.set_cons_succ, List.set_cons_zero])
    refine Pu.WalkM.make (by rfl) ?_
    rintro W rfl
    go_wp2_with (go_at_call 74; refine (cM.out _ hBd).mono ?_; rintro e W3 ⟨rfl, hb3⟩)
    have hB3 := hBd.trans (hb3.mono hBd.size)
    refine ⟨rfl, .bool true, _, (fun V => V = W3), ?_, rfl, (fun V h => by rw [h]; exact hb3), (.inr (fun _ h => h)), ?_⟩
    · simp only [Act.put, List.setIfInBounds_toArray, List.set_cons_succ, List.set_cons_zero]
    simp only [Act.put, List.setIfInBounds_toArray, List.set_cons_succ, List.set_cons_zero]
    iterate 2 (
      apply Pu.WalkM.on (by rfl)
      · intro V1 h1
        obtain ⟨q2, qo, -, -⟩ := hQ.out V1 h1
        go_wp2_with (first
           | (refine wpList_load_obg (by rfl) _ _ rfl rfl _ qo Tryz.underlying26 rfl (by kernel_rfl) ?_))
        refine ⟨rfl, ?_, rfl⟩
        try simp only [Act.put, List.setIfInBounds_toArray, List.set_cons_succ, List.set_cons_zero]
        rfl
      simp only [Act.put, List.setIfInBounds_toArray, List.set_cons_succ, List.set_cons_zero])
    iterate 3 (
      apply Pu.WalkM.on (by rfl)
      · intro V1 h1
        obtain ⟨q2, qo, -, -⟩ := hQ.out V1 h1
        go_wp2_with (first
           | (refine wpList_load_obg (by rfl) _ _ rfl rfl _ qo Tryz.underlying26 rfl (by kernel_rfl) ?_))
        refine ⟨rfl, ?_, rfl⟩
        try simp only [Act.put, List.setIfInBounds_toArray, List.set_cons_succ, List.set_cons_zero]
        rfl
      simp only [Act.put, List.setIfInBounds_toArray, List.set_cons_succ, List.set_cons_zero])
    refine Pu.WalkM.make (by rfl) ?_
    intro W hWJ
    cases hWJ.symm
    go_wp2_with (go_at_call 46; refine (cS.out _ hB3).mono ?_; rintro e W6 ⟨⟨vm, rfl, hvm⟩, hb6⟩)
    have hB6 := hB3.trans (hb6.mono hB3.size)
    obtain ⟨A6, c6, rfl, -⟩ := hvm.form
    have cR := Lib.hid (refrest_calls ev.items (leftR s.want s.got) _ _ W6 ((HV.out.later hB6).all) hvm hil)
    have hb36 := hb3.trans (hb6.mono hb3.size)
    refine ⟨rfl, .slice A6 (leftR s.want s.got).length c6, _, (fun V => V = W6), ?_, rfl, (fun V h => by rw [h]; exact hb36), (.inr (fun _ h => h)), ?_⟩
    · simp only [Act.put, List.setIfInBounds_toArray, List.set_cons_succ, List.set_cons_zero]
    simp only [Act.put, List.setIfInBounds_toArray, List.set_cons_succ, List.set_cons_zero]
    refine Pu.WalkM.make (by rfl) ?_
    intro W hWJ
    cases hWJ.symm
    go_wp2_with (go_at_call 75; refine (cR.out).mono ?_; rintro e W7 ⟨⟨vr, rfl, hvr⟩, hb7⟩)
    have hB7 := hB6.trans (hb7.mono hB6.size)
    obtain ⟨A7, c7, rfl, -⟩ := (ItemsAt.of_own hvr).form
    have hb37 := hb36.trans (hb7.mono hb36.size)
    generalize (It.eachL restF ev.items (leftR s.want s.got)).length = nr at *
    have dr : decide ((nr : Int) > 0) = true := decide_eq_true (by omega)
    refine ⟨rfl, .slice A7 nr c7, _, (fun V => V = W7), ?_, rfl, (fun V h => by rw [h]; exact hb37), (.inr (fun _ h => h)), ?_⟩
    · simp only [Act.put, List.setIfInBounds_toArray, List.set_cons_succ, List.set_cons_zero]
    simp only [Act.put, List.setIfInBounds_toArray, List.set_cons_succ, List.set_cons_zero]
    iterate 3 (
      apply Pu.WalkM.on (by rfl)
      · intro V1 h1
        obtain ⟨q2, qo, -, -⟩ := hQ.out V1 h1
        go_wp2_with (first
           | (refine wpList_load_obg (by rfl) _ _ rfl rfl _ qo Tryz.underlying26 rfl (by kernel_rfl) ?_))
        refine ⟨rfl, ?_, rfl⟩
        try simp only [Act.put, List.setIfInBounds_toArray, List.set_cons_succ, List.set_cons_zero]
        rfl
      simp only [Act.put, List.setIfInBounds_toArray, List.set_cons_succ, List.set_cons_zero])
    refine Pu.WalkM.nil ?_
    intro V hVJ
    cases hVJ.symm
    obtain ⟨-, -, -, y3⟩ := hQ.out _ hb37
    have hz3 := y3.lt
    go_wp2_with (refine wpList_store_ob (cells := #[.int .i64 0, .int .i64 0, .int .i64 0, .slice none 0 0, .bool false, .int .i64 0, .int .i64 0, .slice none 0 0, .slice none 0 0, .bool false]) rfl 26 (.tmp 4) (.tmp 36) rfl rfl rfl y3 rfl (by kernel_rfl) (by simp [Value.oneCell']) ?_; intro W10 ho10 hg10)
    have hB10 := hB7.grown hg10 (by omega) (fun g e => by have e2 : w.heap.size + 2 = g := Option.some.inj e; omega)
    obtain ⟨p0, p1, p2, p3, p4, p5, p6, p7, p8, p9⟩ := ob_ten ho10
    refine bodyPost_ret (v := .tuple #[.agg #[.int .i64 0, .int .i64 0, .int .i64 0, .slice none 0 0, .bool false, .int .i64 0, .int .i64 0, .slice none 0 0, .slice none 0 0, .bool false], .slice none 0 0, .int .i64 60]) ?_ rfl ⟨⟨_, _, _, _, rfl, partsA0 _ _, StepsA.nil _ _⟩, hB10⟩
    simp [results, Tryz.f26, go_sem, p0, p1, p2, p3, p4, p5, p6, p7, p8, p9]

end Sa
end Go.Proofs.YthfpfomifebpbaaGreat

namespace Go.Proofs.YthfpfomifebpbaaGreat
open Go.RowKit Go.Maps
namespace Sa
open It
set_option linter.unusedSimpArgs false

theorem refset_int (Av : Nat → Prop) (s : Saga) (x : Int) (l : List It.Item) (vw vg vp vl : Value) (w : World) (h : PartsA Av w s vw vg vp) (hl : SlA Av w 2 vl l.length (itemCells l)) (hav : ∀ i, Av i → i < w.heap.size) (hx : 0 ≤ x ∧ x < s.got.length) (hL : s.got.length ≤ 1000000) :
    Calls Tryz.prog 28 #[.agg (sagaC s vw vg vp), .int .i64 x, vl] w fun e w' => (∃ vg', e = .returned (.agg (sagaC { s with got := s.got.set x.toNat l } vw vg' vp)) ∧ PartsA Av w' { s with got := s.got.set x.toNat l } vw vg' vp) ∧ Below w.heap.size w w' := by
  obtain ⟨r, rfl⟩ : ∃ r : Nat, x = r := ⟨x.toNat, by omega⟩
  rw [Int.toNat_natCast]
  exact refset_calls Av s r l vw vg vp vl w h hl hav (by omega) hL
theorem rtook_c {t : Saga} (h : t.cancelled = true) : rtookT t = undoS t := by unfold rtookT; rw [if_pos h]
theorem rtook_h {t : Saga} (h : t.cancelled = false) (hl : (leftR t.want t.got).length = 0) : rtookT t = ({ t with state := 2 }, told 2) := by unfold rtookT; rw [if_neg (by simp [h]), if_pos hl]
theorem rtook_n {t : Saga} (h : t.cancelled = false) (hl : ¬ (leftR t.want t.got).length = 0) (ha : t.asked < t.regions) : rtookT t = ({ t with asked := t.asked + 1, pending := [(t.first + t.asked) % t.regions] }, [⟨3, (t.first + t.asked) % t.regions, leftR t.want t.got, 0⟩]) := by unfold rtookT; rw [if_neg (by simp [h]), if_neg hl, if_pos ha]
theorem rtook_u {t : Saga} (h : t.cancelled = false) (hl : ¬ (leftR t.want t.got).length = 0) (ha : ¬ t.asked < t.regions) : rtookT t = undoS t := by unfold rtookT; rw [if_neg (by simp [h]), if_neg hl, if_neg ha]

set_option maxRecDepth 100000 in
set_option maxHeartbeats 8000000 in
theorem reftook_yes (Av : Nat → Prop) (s : Saga) (ev : Ev) (vw vg vp ve : Value) (w : World) (h : PartsA Av w s vw vg vp) (hv : SlA Av w 2 ve ev.items.length (itemCells ev.items)) (hno : ∀ b, Av b → NoText w b) (hFe : Fits ev.items) (hwl : s.want.length ≤ 1000000) (hgl : s.got.length ≤ 1000000) (hil : ev.items.length ≤ 1000000) (hst : s.state = 1) (hin : ev.region ∈ s.pending)
    (hr : 0 ≤ ev.region ∧ ev.region < s.got.length) (hnn : 0 ≤ s.first ∧ s.first < s.regions ∧ 0 ≤ s.asked ∧ s.regions ≤ 8 ∧ s.asked ≤ s.regions) (hmay : may ev.items = true) (hrl : (It.eachL restF ev.items (leftR s.want s.got)).length = 0) :
    Calls Tryz.prog 26 #[.agg (sagaC s vw vg vp), .agg (evC ev ve)] w fun e w' => Ret3A Av w' e (.ok (rtookT { s with pending := [], got := s.got.set ev.region.toNat ev.items })) ∧ Below w.heap.size w w' := by
  have HAV := Lib.hid (fun b (hb : Av b) => show b < w.heap.size from by obtain ⟨t, cs, h1, -⟩ := hno b hb; exact h1.lt)
  have HNO := Lib.hid hno
  have HR := Lib.hid hr
  have HNN := Lib.hid hnn
  clear hno hr hnn
  have HST := Lib.hid hst
  have HINN := Lib.hid hin
  clear hst hin
  have hmx : Tryz.prog.follows .mixedOrders = true := by kernel_rfl
  obtain ⟨A1, c1, rfl, -⟩ := h.want.form
  obtain ⟨us, -, hv2, -⟩ := h.got
  obtain ⟨A2, c2, rfl, -⟩ := hv2.form
  obtain ⟨A3, c3, rfl, -⟩ := h.pend.form
  obtain ⟨A4, c4, rfl, -⟩ := hv.form
  clear hv2 us
  have HP := Lib.hid h
  have HV := Lib.hid hv
  have HPE := Lib.hid h.parts.pend
  have hal1 := (Below.refl w.heap.size w).alloc (Nat.le_refl _) (.cells #[.int .i64 s.order, .int .i64 s.first, .int .i64 s.regions, .slice A1 s.want.length c1, .bool s.waits, .int .i64 s.state, .int .i64 s.asked, .slice A2 s.got.length c2, .slice A3 s.pending.length c3, .bool s.cancelled] 26)
  have hal2 := hal1.alloc hal1.size (.cells #[.int .i64 ev.kind, .int .i64 ev.region, .slice A4 ev.items.length c4] 28)
  have hB := hal2.alloc hal2.size (.cells #[.int .i64 0, .int .i64 0, .int .i64 0, .slice none 0 0, .bool false, .int .i64 0, .int .i64 0, .slice none 0 0, .slice none 0 0, .bool false] 26)
  have o1 := ((Ob.new w 26 #[.int .i64 s.order, .int .i64 s.first, .int .i64 s.regions, .slice A1 s.want.length c1, .bool s.waits, .int .i64 s.state, .int .i64 s.asked, .slice A2 s.got.length c2, .slice A3 s.pending.length c3, .bool s.cancelled]).alloc (.cells #[.int .i64 ev.kind, .int .i64 ev.region, .slice A4 ev.items.length c4] 28)).alloc (.cells #[.int .i64 0, .int .i64 0, .int .i64 0, .slice none 0 0, .bool false, .int .i64 0, .int .i64 0, .slice none 0 0, .slice none 0 0, .bool false] 26)
  have o2 := (Ob.new (w.alloc (.cells #[.int .i64 s.order, .int .i64 s.first, .int .i64 s.regions, .slice A1 s.want.length c1, .bool s.waits, .int .i64 s.state, .int .i64 s.asked, .slice A2 s.got.length c2, .slice A3 s.pending.length c3, .bool s.cancelled] 26)) 28 #[.int .i64 ev.kind, .int .i64 ev.region, .slice A4 ev.items.length c4]).alloc (.cells #[.int .i64 0, .int .i64 0, .int .i64 0, .slice none 0 0, .bool false, .int .i64 0, .int .i64 0, .slice none 0 0, .slice none 0 0, .bool false] 26)
  have o3 := Ob.new ((w.alloc (.cells #[.int .i64 s.order, .int .i64 s.first, .int .i64 s.regions, .slice A1 s.want.length c1, .bool s.waits, .int .i64 s.state, .int .i64 s.asked, .slice A2 s.got.length c2, .slice A3 s.pending.length c3, .bool s.cancelled] 26)).alloc (.cells #[.int .i64 ev.kind, .int .i64 ev.region, .slice A4 ev.items.length c4] 28)) 26 #[.int .i64 0, .int .i64 0, .int .i64 0, .slice none 0 0, .bool false, .int .i64 0, .int .i64 0, .slice none 0 0, .slice none 0 0, .bool false]
  rw [World.size_alloc, World.size_alloc] at o3
  rw [World.size_alloc] at o2
  clear hal1 hal2 h hv
  unfold sagaC evC
  go_enter Tryz.func26, Tryz.ntmps26
  go_upto_region 1 with (fail)
  generalize ((w.alloc (.cells #[.int .i64 s.order, .int .i64 s.first, .int .i64 s.regions, .slice A1 s.want.length c1, .bool s.waits, .int .i64 s.state, .int .i64 s.asked, .slice A2 s.got.length c2, .slice A3 s.pending.length c3, .bool s.cancelled] 26)).alloc (.cells #[.int .i64 ev.kind, .int .i64 ev.region, .slice A4 ev.items.length c4] 28)).alloc (.cells #[.int .i64 0, .int .i64 0, .int .i64 0, .slice none 0 0, .bool false, .int .i64 0, .int .i64 0, .slice none 0 0, .slice none 0 0, .bool false] 26) = W0 at *
  have hz := o3.lt
  obtain ⟨-, -, -, -, -, k5, -, -, k8, k9⟩ := ob_ten o1
  obtain ⟨-, e1, e2⟩ := ob_three o2
  have hm0 : ∀ i, i < w.heap.size → (Av i ∨ i = w.heap.size ∨ i = w.heap.size + 1 ∨ i = w.heap.size + 2) → Av i := fun i hi hx => by
    rcases hx with hx | hx | hx | hx
    · exact hx
    · omega
    · omega
    · omega
  have hBd := hB.drew
  have x1 := Ob.drewn o1
  have x2 := Ob.drewn o2
  have x3 := Ob.drewn o3
  have hzd : w.heap.size + 2 < W0.drew.heap.size := hz
  have cM := Lib.hid (fun V (hb : Below w.heap.size w V) => refmay_calls ev.items _ V ((HV.out.later hb).all) hFe)
  have cI := Lib.hid (refin_calls s.pending ev.region (.slice A3 s.pending.length c3) 0 w.heap.size W0 (Sl.below HPE.out hB))
  have cS := Lib.hid (fun V (hb : Below w.heap.size w V) => refmissing_calls s _ _ _ V (HP.out.later hb).parts (by omega) (by omega))
  have hQ := Lib.hid (fun V (h : Below W0.drew.heap.size W0.drew V) => show V.cell? ⟨w.heap.size + 1, 2, none⟩ = some (.slice A4 ev.items.length c4) ∧ Ob V w.heap.size 26 #[.int .i64 s.order, .int .i64 s.first, .int .i64 s.regions, .slice A1 s.want.length c1, .bool s.waits, .int .i64 s.state, .int .i64 s.asked, .slice A2 s.got.length c2, .slice A3 s.pending.length c3, .bool s.cancelled] ∧ Ob V (w.heap.size + 1) 28 #[.int .i64 ev.kind, .int .i64 ev.region, .slice A4 ev.items.length c4] ∧ Ob V (w.heap.size + 2) 26 #[.int .i64 0, .int .i64 0, .int .i64 0, .slice none 0 0, .bool false, .int .i64 0, .int .i64 0, .slice none 0 0, .slice none 0 0, .bool false] from
    ⟨(x2.same h).cell rfl, x1.same h, x2.same h, x3.same h⟩)
  unfold sagaC at cS
  rw [decide_eq_true HINN.out] at cI
  have d1 : decide (s.state = 1) = true := decide_eq_true HST.out
  have d2 : (s.state == 1) = true := by rw [beq_iff_eq]; exact HST.out
  have d3 : (s.state != 1) = false := by simp [HST.out]
  clear hB o1 o2 o3
  go_wp2_with fail
  refine cI.out.mono ?_
  rintro e W1 ⟨rfl, rfl⟩
  clear k5 k8 k9 e1 e2 cI d1 d2 d3
  go_wp2
  rw [hmay] at cM
  have HRL := Lib.hid hrl
  clear hmay hrl
  refine Pu.regionM [(0, false), (1, false), (2, true), (3, false), (4, false), (5, false), (6, false), (7, false), (8, true), (9, true), (10, false), (11, false), (12, false)] (fun V => Below W0.drew.heap.size W0.drew V) hmx (by kernel_rfl) (by kernel_rfl) (by kernel_rfl) (Below.refl _ _) rfl ?_
  simp only [Pu.named, List.filterMap_cons, List.filterMap_nil, List.getElem?_toArray, List.getElem?_cons_succ, List.getElem?_cons_zero, Option.map_some]
  iterate 2 (
    apply Pu.WalkM.on (by rfl)
    · intro V1 h1
      obtain ⟨q2, qo, -, -⟩ := hQ.out V1 h1
      go_wp2_with (first
         | (refine wpList_load_obg (by rfl) _ _ rfl rfl _ qo Tryz.underlying26 rfl (by kernel_rfl) ?_))
      refine ⟨rfl, ?_, rfl⟩
      try simp only [Act.put, List.setIfInBounds_toArray, List.set_cons_succ, List.set_cons_zero]
      rfl
    simp only [Act.put, List.setIfInBounds_toArray, List.set_cons_succ, List.set_cons_zero])
  refine Pu.WalkM.make (by rfl) ?_
  rintro W rfl
  go_wp2_with (go_at_call 74; refine (cM.out _ hBd).mono ?_; rintro e W3 ⟨rfl, hb3⟩)
  have hB3 := hBd.trans (hb3.mono hBd.size)
  refine ⟨rfl, .bool true, _, (fun V => V = W3), ?_, rfl, (fun V h => by rw [h]; exact hb3), (.inr (fun _ h => h)), ?_⟩
  · simp only [Act.put, List.setIfInBounds_toArray, List.set_cons_succ, List.set_cons_zero]
  simp only [Act.put, List.setIfInBounds_toArray, List.set_cons_succ, List.set_cons_zero]
  iterate 2 (
    apply Pu.WalkM.on (by rfl)
    · intro V1 h1
      obtain ⟨q2, qo, -, -⟩ := hQ.out V1 h1
      go_wp2_with (first
         | (refine wpList_load_obg (by rfl) _ _ rfl rfl _ qo Tryz.underlying26 rfl (by kernel_rfl) ?_))
      refine ⟨rfl, ?_, rfl⟩
      try simp only [Act.put, List.setIfInBounds_toArray, List.set_cons_succ, List.set_cons_zero]
      rfl
    simp only [Act.put, List.setIfInBounds_toArray, List.set_cons_succ, List.set_cons_zero])
  iterate 3 (
    apply Pu.WalkM.on (by rfl)
    · intro V1 h1
      obtain ⟨q2, qo, -, -⟩ := hQ.out V1 h1
      go_wp2_with (first
         | (refine wpList_load_obg (by rfl) _ _ rfl rfl _ qo Tryz.underlying26 rfl (by kernel_rfl) ?_))
      refine ⟨rfl, ?_, rfl⟩
      try simp only [Act.put, List.setIfInBounds_toArray, List.set_cons_succ, List.set_cons_zero]
      rfl
    simp only [Act.put, List.setIfInBounds_toArray, List.set_cons_succ, List.set_cons_zero])
  refine Pu.WalkM.make (by rfl) ?_
  intro W hWJ
  cases hWJ.symm
  go_wp2_with (go_at_call 46; refine (cS.out _ hB3).mono ?_; rintro e W6 ⟨⟨vm, rfl, hvm⟩, hb6⟩)
  have hB6 := hB3.trans (hb6.mono hB3.size)
  obtain ⟨A6, c6, rfl, -⟩ := hvm.form
  have cR := Lib.hid (refrest_calls ev.items (leftR s.want s.got) _ _ W6 ((HV.out.later hB6).all) hvm hil)
  have hb36 := hb3.trans (hb6.mono hb3.size)
  refine ⟨rfl, .slice A6 (leftR s.want s.got).length c6, _, (fun V => V = W6), ?_, rfl, (fun V h => by rw [h]; exact hb36), (.inr (fun _ h => h)), ?_⟩
  · simp only [Act.put, List.setIfInBounds_toArray, List.set_cons_succ, List.set_cons_zero]
  simp only [Act.put, List.setIfInBounds_toArray, List.set_cons_succ, List.set_cons_zero]
  refine Pu.WalkM.make (by rfl) ?_
  intro W hWJ
  cases hWJ.symm
  go_wp2_with (go_at_call 75; refine (cR.out).mono ?_; rintro e W7 ⟨⟨vr, rfl, hvr⟩, hb7⟩)
  have hB7 := hB6.trans (hb7.mono hB6.size)
  obtain ⟨A7, c7, rfl, -⟩ := (ItemsAt.of_own hvr).form
  have hb37 := hb36.trans (hb7.mono hb36.size)
  rw [HRL.out]
  refine ⟨rfl, .slice A7 0 c7, _, (fun V => V = W7), ?_, rfl, (fun V h => by rw [h]; exact hb37), (.inr (fun _ h => h)), ?_⟩
  · simp only [Act.put, List.setIfInBounds_toArray, List.set_cons_succ, List.set_cons_zero]
  simp only [Act.put, List.setIfInBounds_toArray, List.set_cons_succ, List.set_cons_zero]
  iterate 3 (
    apply Pu.WalkM.on (by rfl)
    · intro V1 h1
      obtain ⟨q2, qo, -, -⟩ := hQ.out V1 h1
      go_wp2_with (first
         | (refine wpList_load_obg (by rfl) _ _ rfl rfl _ qo Tryz.underlying26 rfl (by kernel_rfl) ?_))
      refine ⟨rfl, ?_, rfl⟩
      try simp only [Act.put, List.setIfInBounds_toArray, List.set_cons_succ, List.set_cons_zero]
      rfl
    simp only [Act.put, List.setIfInBounds_toArray, List.set_cons_succ, List.set_cons_zero])
  refine Pu.WalkM.nil ?_
  intro V hVJ
  cases hVJ.symm
  obtain ⟨-, y1, y2, y3⟩ := hQ.out _ hb37
  have hz7 := y3.lt
  obtain ⟨-, e1, e2⟩ := ob_three y2
  have cT := Lib.hid (show Calls Tryz.prog 28 #[.agg #[.int .i64 s.order, .int .i64 s.first, .int .i64 s.regions, .slice A1 s.want.length c1, .bool s.waits, .int .i64 s.state, .int .i64 s.asked, .slice A2 s.got.length c2, .slice A3 s.pending.length c3, .bool s.cancelled], .int .i64 ev.region, .slice A4 ev.items.length c4] W7 (fun e w' => (∃ vg', e = .returned (.agg #[.int .i64 s.order, .int .i64 s.first, .int .i64 s.regions, .slice A1 s.want.length c1, .bool s.waits, .int .i64 s.state, .int .i64 s.asked, vg', .slice A3 s.pending.length c3, .bool s.cancelled]) ∧ PartsA (fun i => Av i ∨ i = w.heap.size ∨ i = w.heap.size + 1 ∨ i = w.heap.size + 2) w' { s with got := s.got.set ev.region.toNat ev.items } (.slice A1 s.want.length c1) vg' (.slice A3 s.pending.length c3)) ∧ Below W7.heap.size W7 w') from refset_int (fun i => Av i ∨ i = w.heap.size ∨ i = w.heap.size + 1 ∨ i = w.heap.size + 2) s ev.region ev.items _ _ _ _ W7 ((HP.out.more hm0).later hB7) ((HV.out.more hm0).later hB7) (fun i hx => by rcases hx with hx | hx | hx | hx <;> first | (have := HAV.out i hx; omega) | omega) HR.out hgl)
  clear cM cS cR hb3 hb6 hb7 hb36 hb37 hB3 hB6 hvm hvr hBd x1 x2 x3 hQ
  go_wp2_with (refine wpList_load_obg (by rfl) _ _ rfl rfl _ y1 Tryz.underlying26 rfl (by kernel_rfl) ?_)
  refine cT.out.mono ?_
  rintro e W8 ⟨⟨ug, rfl, hPA8⟩, hb8⟩
  have hB8 := hB7.trans (hb8.mono hB7.size)
  have y1 := y1.same hb8
  have y2 := y2.same hb8
  have y3 := y3.same hb8
  have hz8 := y3.lt
  obtain ⟨us, -, hu2, -⟩ := hPA8.got
  obtain ⟨B2, d2, hug, -⟩ := hu2.form
  obtain ⟨n, hn⟩ : ∃ n, n = ({ s with got := s.got.set ev.region.toNat ev.items } : Saga).got.length := ⟨_, rfl⟩
  rw [← hn] at hug
  subst hug
  clear hu2 us hn cT hb8 hB7 hz7 e1 e2
  obtain ⟨S, hS⟩ : ∃ S : Saga, S = { s with pending := [], got := s.got.set ev.region.toNat ev.items } := ⟨_, rfl⟩
  have hgS : S.got.length ≤ 1000000 := by rw [hS]; simpa using hgl
  have hwS : S.want.length ≤ 1000000 := by rw [hS]; exact hwl
  have HH := Lib.hid (show 0 ≤ S.first ∧ S.first < S.regions ∧ 0 ≤ S.asked ∧ S.regions ≤ 8 ∧ S.asked ≤ S.regions by rw [hS]; exact HNN.out)
  go_wp2_with (first
    | (refine wpList_store_ob (cells := #[.int .i64 s.order, .int .i64 s.first, .int .i64 s.regions, .slice A1 s.want.length c1, .bool s.waits, .int .i64 s.state, .int .i64 s.asked, .slice B2 n d2, .slice A3 s.pending.length c3, .bool s.cancelled]) rfl 26 (.tmp 2) (.tmp 42) rfl rfl rfl y1 rfl (by kernel_rfl) (by simp [Value.oneCell']) ?_
       intro W9 ho9 hg9
       have g8 : W9.cell? ⟨w.heap.size, 8, none⟩ = some (.slice A3 s.pending.length c3) := ho9.cell rfl
       have f8 := ho9.frozen 8
       have hB9 := hB8.grown hg9 (by omega) (fun g e => by have e2 : w.heap.size = g := Option.some.inj e; omega)
       have y2 := y2.kept hg9 (fun e => by have e2 : w.heap.size + 1 = w.heap.size := Option.some.inj e; omega)
       have y3 := y3.kept hg9 (fun e => by have e2 : w.heap.size + 2 = w.heap.size := Option.some.inj e; omega)
       have hPA9 := hPA8.grow hg9 (.inr (.inl rfl))
       have z1 : Ob (W9.setCell ⟨w.heap.size, 8, none⟩ (.slice none 0 0)) w.heap.size 26 #[.int .i64 S.order, .int .i64 S.first, .int .i64 S.regions, .slice A1 S.want.length c1, .bool S.waits, .int .i64 S.state, .int .i64 S.asked, .slice B2 n d2, .slice none 0 0, .bool S.cancelled] := (by rw [hS]; exact ho9.set 8 (.slice none 0 0))
       have z2 := y2.other (show w.heap.size + 1 ≠ w.heap.size by omega) 8 (.slice none 0 0)
       have z3 := y3.other (show w.heap.size + 2 ≠ w.heap.size by omega) 8 (.slice none 0 0)
       have hPA9' := hPA9.grow (grownBy_set W9 w.heap.size 8 (.slice none 0 0)) (.inr (.inl rfl))
       have hPS : PartsA (fun i => Av i ∨ i = w.heap.size ∨ i = w.heap.size + 1 ∨ i = w.heap.size + 2) (W9.setCell ⟨w.heap.size, 8, none⟩ (.slice none 0 0)) S (.slice A1 S.want.length c1) (.slice B2 n d2) (.slice none 0 0) := (by rw [hS]; exact ⟨hPA9'.want, hPA9'.got, SlA.nil _ _ _⟩)
       have hB9 := hB9.trans (below_set W9 w.heap.size 8 (.slice none 0 0))
       have cM2 := Lib.hid (refmissing_calls S _ _ _ _ hPS.parts hwS hgS)
       unfold sagaC at cM2
       have HS := Lib.hid hS
       have HG8 := Lib.hid g8
       clear hPA8 hPA9 hPA9' hB8 y1 y2 y3 ho9 hg9 hS)
    | (refine wpList_load_obg (by rfl) _ _ rfl rfl _ z1 Tryz.underlying26 rfl (by kernel_rfl) ?_))
  generalize W9.setCell ⟨w.heap.size, 8, none⟩ (.slice none 0 0) = Wa at *
  refine cM2.out.mono ?_
  rintro e W10 ⟨⟨vm, rfl, hvm⟩, hb10⟩
  have z1 := z1.same hb10
  have z2 := z2.same hb10
  have z3 := z3.same hb10
  have hB10 := hB9.trans (hb10.mono hB9.size)
  have hPA10 := hPS.later hb10
  obtain ⟨A8, c8, rfl, -⟩ := hvm.form
  have hmA := items_noText (Av := (fun i => Av i ∨ i = w.heap.size ∨ i = w.heap.size + 1 ∨ i = w.heap.size + 2)) hvm (fun b hb => by
    rcases hb with hb | rfl | rfl | rfl
    · exact (HNO.out b hb).later hB10
    · exact noText_saga (s := S) z1
    · exact noText_ev (e := ev) z2
    · exact noText_zero z3)
  clear hPS hB9 hb10 cM2 hvm
  have hz10 := z3.lt
  obtain ⟨-, k1, k2, -, -, -, k6, -, -, k9⟩ := ob_ten z1
  have hcc : S.cancelled = true ∨ S.cancelled = false := by cases S.cancelled <;> simp
  rcases hcc with hc | hc
  · have hTT := Lib.hid (rtook_c hc)
    rw [hc] at k9
    clear hc
    have cU := Lib.hid (refundo_calls (fun i => Av i ∨ i = w.heap.size ∨ i = w.heap.size + 1 ∨ i = w.heap.size + 2) S _ _ _ W10 hPA10 (fun i hx => by rcases hx with hx | hx | hx | hx <;> first | (have := HAV.out i hx; omega) | omega) hgS)
    unfold sagaC at cU
    go_wp2_with (refine wpList_load_obg (by rfl) _ _ rfl rfl _ z1 Tryz.underlying26 rfl (by kernel_rfl) ?_)
    refine cU.out.mono ?_
    rintro e W11 ⟨⟨uw, ug, up, ul, rfl, hPA, hst⟩, hb11⟩
    have hB11 := hB10.trans (hb11.mono hB10.size)
    have u3 := z3.same hb11
    have hbs := hb11.size
    obtain ⟨E1, l1, rfl, -⟩ := hPA.want.form
    obtain ⟨E3, l3, rfl, -⟩ := hPA.pend.form
    obtain ⟨us, -, hu2, -⟩ := hPA.got
    obtain ⟨E2, l2, rfl, -⟩ := hu2.form
    obtain ⟨E4, l4, rfl, -⟩ := hst.form
    clear hu2 us cU z1 z3
    generalize hUS : undoS S = U at *
    obtain ⟨YY, L⟩ := U
    dsimp only at *
    have HUS := hTT
    clear hUS
    obtain ⟨se, hse⟩ : ∃ se, se = sagaC YY (.slice E1 YY.want.length l1) (.slice E2 YY.got.length l2) (.slice E3 YY.pending.length l3) := ⟨_, rfl⟩
    rw [← hse]
    have he1 : se.size = 10 := by rw [hse]; rfl
    have he2 : se.all (·.oneCell') = true := by rw [hse]; simp [sagaC, Value.oneCell']
    have HSE := Lib.hid hse
    clear hse
    have hoN := Ob.new W11 26 #[.int .i64 0, .int .i64 0, .int .i64 0, .slice none 0 0, .bool false, .int .i64 0, .int .i64 0, .slice none 0 0, .slice none 0 0, .bool false]
    have hal3 := (Below.refl W11.heap.size W11).alloc (Nat.le_refl _) (.cells #[.int .i64 0, .int .i64 0, .int .i64 0, .slice none 0 0, .bool false, .int .i64 0, .int .i64 0, .slice none 0 0, .slice none 0 0, .bool false] 26)
    have z3' : (W11.alloc (.cells #[.int .i64 0, .int .i64 0, .int .i64 0, .slice none 0 0, .bool false, .int .i64 0, .int .i64 0, .slice none 0 0, .slice none 0 0, .bool false] 26)).heap.size = W11.heap.size + 1 := World.size_alloc _ _
    have hS11 := StepsA.of (Av := (fun i => Av i ∨ i = w.heap.size ∨ i = w.heap.size + 1 ∨ i = w.heap.size + 2)) hst (Nat.le_refl _) (fun i ha hb hx => by rcases hx with hx | hx | hx | hx <;> first | (have := HAV.out i hx; omega) | omega)
    go_wp2_with (first
      | (refine wpList_store_ob (cells := se) rfl 26 (.tmp 9) (.tmp 91) rfl rfl rfl hoN he1 (by rw [he1]; kernel_rfl) he2 ?_
         intro W12 ho12 hg12
         have hb12 : Below W11.heap.size W11 W12 := hal3.grown hg12 (by omega) (fun g e => by have e2 : W11.heap.size = g := Option.some.inj e; omega)
         have hB12 := hB11.trans (hb12.mono hB11.size)
         have v3 := u3.same hb12)
      | (refine wpList_load_obg (by rfl) _ _ rfl rfl _ ho12 Tryz.underlying26 rfl (by rw [he1]; kernel_rfl) ?_)
      | (refine wpList_store_ob (cells := se) rfl 26 (.tmp 4) (.tmp 93) rfl rfl rfl v3 he1 (by rw [he1]; kernel_rfl) he2 ?_; intro W13 ho13 hg13))
    have hz12 := hb12.size
    have hP12 := hPA.later hb12
    have hS12 := hS11.later hb12
    rw [HSE.out] at ho13
    unfold sagaC at ho13
    have hB13 := hB12.grown hg13 (by omega) (fun g e => by have e2 : w.heap.size + 2 = g := Option.some.inj e; omega)
    have hP13 := (hP12.grow hg13 (.inr (.inr (.inr rfl)))).more (Av' := Av) fun i _ hx => .inl hx
    have hS13 := (hS12.grow hg13 (.inr (.inr (.inr rfl)))).more (Av' := Av) fun i _ hx => .inl hx
    obtain ⟨p0, p1, p2, p3, p4, p5, p6, p7, p8, p9⟩ := ob_ten ho13
    refine bodyPost_ret (v := .tuple #[.agg (sagaC YY (.slice E1 YY.want.length l1) (.slice E2 YY.got.length l2) (.slice E3 YY.pending.length l3)), .slice E4 L.length l4, .int .i64 0]) ?_ rfl ⟨by rw [← HS.out, HUS.out]; exact ⟨_, _, _, _, rfl, hP13, hS13⟩, hB13⟩
    simp [results, Tryz.f26, go_sem, sagaC, p0, p1, p2, p3, p4, p5, p6, p7, p8, p9]
  by_cases hl : (leftR S.want S.got).length = 0
  · skip
    have dl : decide ((((leftR S.want S.got).length : Nat) : Int) = 0) = true := decide_eq_true (by omega)
    have dl2 : ((((leftR S.want S.got).length : Nat) : Int) == 0) = true := by rw [beq_iff_eq]; omega
    have hTT := Lib.hid (rtook_h hc hl)
    rw [hc] at k9
    clear hl hc
    have g5 : W10.cell? ⟨w.heap.size, 5, none⟩ = some (.int .i64 S.state) := z1.cell rfl
    have f5 := z1.frozen 5
    have u1 : Ob (W10.setCell ⟨w.heap.size, 5, none⟩ (.int .i64 2)) w.heap.size 26 #[.int .i64 S.order, .int .i64 S.first, .int .i64 S.regions, .slice A1 S.want.length c1, .bool S.waits, .int .i64 2, .int .i64 S.asked, .slice B2 n d2, .slice none 0 0, .bool S.cancelled] := z1.set 5 (.int .i64 2)
    have u3 := z3.other (show w.heap.size + 2 ≠ w.heap.size by omega) 5 (.int .i64 2)
    have hB11 := hB10.trans (below_set W10 w.heap.size 5 (.int .i64 2))
    have hP11 := hPA10.grow (grownBy_set W10 w.heap.size 5 (.int .i64 2)) (.inr (.inl rfl))
    have hz11 : (W10.setCell ⟨w.heap.size, 5, none⟩ (.int .i64 2)).heap.size = W10.heap.size := set_size _ _ _ _
    have hal := (Below.refl (W10.setCell ⟨w.heap.size, 5, none⟩ (.int .i64 2)).heap.size (W10.setCell ⟨w.heap.size, 5, none⟩ (.int .i64 2))).alloc (Nat.le_refl _) (.cells #[.int .i64 100, .int .i64 0, .slice none 0 0, .int .i64 2] 52)
    have hst := told_at (W10.setCell ⟨w.heap.size, 5, none⟩ (.int .i64 2)) 2
    have hz12 : ((W10.setCell ⟨w.heap.size, 5, none⟩ (.int .i64 2)).alloc (.cells #[.int .i64 100, .int .i64 0, .slice none 0 0, .int .i64 2] 52)).heap.size = W10.heap.size + 1 := by rw [World.size_alloc, hz11]
    have v3 := u3.same hal
    have hB12 := hB11.trans (hal.mono hB11.size)
    have hP12 := hP11.later hal
    have hS12 := StepsA.of (Av := (fun i => Av i ∨ i = w.heap.size ∨ i = w.heap.size + 1 ∨ i = w.heap.size + 2)) hst (by rw [hz12, hz11]; omega) (fun i ha hb hx => by rw [hz11] at ha; rcases hx with hx | hx | hx | hx <;> first | (have := HAV.out i hx; omega) | omega)
    rw [hz11] at hS12
    have HX := Lib.hid (And.intro hP12 (And.intro hS12 hB12))
    clear hB11 hP11 hst hal u3 hP12 hS12 z1 z3 hB12
    go_wp2_with (first
      | (refine wpList_load_obg (by rfl) _ _ rfl rfl _ u1 Tryz.underlying26 rfl (by kernel_rfl) ?_)
      | (refine wpList_store_ob (cells := #[.int .i64 S.order, .int .i64 S.first, .int .i64 S.regions, .slice A1 S.want.length c1, .bool S.waits, .int .i64 2, .int .i64 S.asked, .slice B2 n d2, .slice none 0 0, .bool S.cancelled]) rfl 26 (.tmp 4) (.tmp 55) rfl rfl rfl v3 rfl (by kernel_rfl) (by simp [Value.oneCell']) ?_; intro W13 ho13 hg13))
    obtain ⟨hP12, hS12, hB12⟩ := HX.out
    have hB13 := hB12.grown hg13 (by omega) (fun g e => by have e2 : w.heap.size + 2 = g := Option.some.inj e; omega)
    have hP13 := ((PartsA.same (s' := { S with state := 2 }) hP12 rfl rfl rfl).grow hg13 (.inr (.inr (.inr rfl)))).more (Av' := Av) fun i _ hx => .inl hx
    have hS13 := (hS12.grow hg13 (.inr (.inr (.inr rfl)))).more (Av' := Av) fun i _ hx => .inl hx
    obtain ⟨p0, p1, p2, p3, p4, p5, p6, p7, p8, p9⟩ := ob_ten ho13
    refine bodyPost_ret (v := .tuple #[.agg #[.int .i64 S.order, .int .i64 S.first, .int .i64 S.regions, .slice A1 S.want.length c1, .bool S.waits, .int .i64 2, .int .i64 S.asked, .slice B2 n d2, .slice none 0 0, .bool S.cancelled], .slice (some ⟨W10.heap.size, 0, none⟩) 1 1, .int .i64 0]) ?_ rfl ⟨by rw [← HS.out, hTT.out]; exact ⟨_, _, _, _, rfl, hP13, hS13⟩, hB13⟩
    simp [results, Tryz.f26, go_sem, p0, p1, p2, p3, p4, p5, p6, p7, p8, p9]
  by_cases ha : S.asked < S.regions
  · skip
    have dl : decide ((((leftR S.want S.got).length : Nat) : Int) = 0) = false := decide_eq_false (by omega)
    have dl2 : ((((leftR S.want S.got).length : Nat) : Int) == 0) = false := by rw [beq_eq_false_iff_ne]; omega
    have hTT := Lib.hid (rtook_n hc hl ha)
    have da : decide (S.asked < S.regions) = true := decide_eq_true ha
    rw [hc] at k9
    have hn1 := HH.out
    clear hl hc ha
    have f6 := z1.frozen 6
    have u1 : Ob (W10.setCell ⟨w.heap.size, 6, none⟩ (.int .i64 (S.asked + 1))) w.heap.size 26 #[.int .i64 S.order, .int .i64 S.first, .int .i64 S.regions, .slice A1 S.want.length c1, .bool S.waits, .int .i64 S.state, .int .i64 (S.asked + 1), .slice B2 n d2, .slice none 0 0, .bool S.cancelled] := z1.set 6 (.int .i64 (S.asked + 1))
    have u3 := z3.other (show w.heap.size + 2 ≠ w.heap.size by omega) 6 (.int .i64 (S.asked + 1))
    have hzb : (W10.setCell ⟨w.heap.size, 6, none⟩ (.int .i64 (S.asked + 1))).heap.size = W10.heap.size := set_size _ _ _ _
    have hBb := hB10.trans (below_set W10 w.heap.size 6 (.int .i64 (S.asked + 1)))
    have hPb := hPA10.grow (grownBy_set W10 w.heap.size 6 (.int .i64 (S.asked + 1))) (.inr (.inl rfl))
    have hmb := hmA.grow (grownBy_set W10 w.heap.size 6 (.int .i64 (S.asked + 1))) (.inr (.inl rfl))
    have hal := (Below.refl (W10.setCell ⟨w.heap.size, 6, none⟩ (.int .i64 (S.asked + 1))).heap.size (W10.setCell ⟨w.heap.size, 6, none⟩ (.int .i64 (S.asked + 1)))).alloc (Nat.le_refl _) (.cells #[.int .i64 ((S.first + S.asked) % S.regions)] 3)
    have hsl : Sl ((W10.setCell ⟨w.heap.size, 6, none⟩ (.int .i64 (S.asked + 1))).alloc (.cells #[.int .i64 ((S.first + S.asked) % S.regions)] 3)) (W10.setCell ⟨w.heap.size, 6, none⟩ (.int .i64 (S.asked + 1))).heap.size ((W10.setCell ⟨w.heap.size, 6, none⟩ (.int .i64 (S.asked + 1))).heap.size + 1) 1 (.slice (some ⟨(W10.setCell ⟨w.heap.size, 6, none⟩ (.int .i64 (S.asked + 1))).heap.size, 0, none⟩) 1 1) 1 [.int .i64 ((S.first + S.asked) % S.regions)] := Sl.new (W10.setCell ⟨w.heap.size, 6, none⟩ (.int .i64 (S.asked + 1))) #[.int .i64 ((S.first + S.asked) % S.regions)] 3 (size := 1) (n := 1) rfl (by unfold maxLen; omega)
    rw [hzb] at hsl
    have hzc : ((W10.setCell ⟨w.heap.size, 6, none⟩ (.int .i64 (S.asked + 1))).alloc (.cells #[.int .i64 ((S.first + S.asked) % S.regions)] 3)).heap.size = W10.heap.size + 1 := by rw [World.size_alloc, hzb]
    have hpc := SlA.of (Av := (fun i => Av i ∨ i = w.heap.size ∨ i = w.heap.size + 1 ∨ i = w.heap.size + 2)) hsl (by omega) (fun i ha hb hx => by rcases hx with hx | hx | hx | hx <;> first | (have := HAV.out i hx; omega) | omega)
    have u1c := u1.same hal
    have u3c := u3.same hal
    have hBc := hBb.trans (hal.mono hBb.size)
    have hPc := hPb.later hal
    have hmc := hmb.later hal
    have g8 : ((W10.setCell ⟨w.heap.size, 6, none⟩ (.int .i64 (S.asked + 1))).alloc (.cells #[.int .i64 ((S.first + S.asked) % S.regions)] 3)).cell? ⟨w.heap.size, 8, none⟩ = some (.slice none 0 0) := u1c.cell rfl
    have f8 := u1c.frozen 8
    have u1d : Ob (((W10.setCell ⟨w.heap.size, 6, none⟩ (.int .i64 (S.asked + 1))).alloc (.cells #[.int .i64 ((S.first + S.asked) % S.regions)] 3)).setCell ⟨w.heap.size, 8, none⟩ (.slice (some ⟨W10.heap.size, 0, none⟩) 1 1)) w.heap.size 26 #[.int .i64 S.order, .int .i64 S.first, .int .i64 S.regions, .slice A1 S.want.length c1, .bool S.waits, .int .i64 S.state, .int .i64 (S.asked + 1), .slice B2 n d2, .slice (some ⟨W10.heap.size, 0, none⟩) 1 1, .bool S.cancelled] := u1c.set 8 (.slice (some ⟨W10.heap.size, 0, none⟩) 1 1)
    have u3d := u3c.other (show w.heap.size + 2 ≠ w.heap.size by omega) 8 (.slice (some ⟨W10.heap.size, 0, none⟩) 1 1)
    have hBd := hBc.trans (below_set ((W10.setCell ⟨w.heap.size, 6, none⟩ (.int .i64 (S.asked + 1))).alloc (.cells #[.int .i64 ((S.first + S.asked) % S.regions)] 3)) w.heap.size 8 (.slice (some ⟨W10.heap.size, 0, none⟩) 1 1))
    have hPd := hPc.grow (grownBy_set ((W10.setCell ⟨w.heap.size, 6, none⟩ (.int .i64 (S.asked + 1))).alloc (.cells #[.int .i64 ((S.first + S.asked) % S.regions)] 3)) w.heap.size 8 (.slice (some ⟨W10.heap.size, 0, none⟩) 1 1)) (.inr (.inl rfl))
    have hmd := hmc.grow (grownBy_set ((W10.setCell ⟨w.heap.size, 6, none⟩ (.int .i64 (S.asked + 1))).alloc (.cells #[.int .i64 ((S.first + S.asked) % S.regions)] 3)) w.heap.size 8 (.slice (some ⟨W10.heap.size, 0, none⟩) 1 1)) (.inr (.inl rfl))
    have hpd := hpc.grow (grownBy_set ((W10.setCell ⟨w.heap.size, 6, none⟩ (.int .i64 (S.asked + 1))).alloc (.cells #[.int .i64 ((S.first + S.asked) % S.regions)] 3)) w.heap.size 8 (.slice (some ⟨W10.heap.size, 0, none⟩) 1 1)) (.inr (.inl rfl))
    have hzd : (((W10.setCell ⟨w.heap.size, 6, none⟩ (.int .i64 (S.asked + 1))).alloc (.cells #[.int .i64 ((S.first + S.asked) % S.regions)] 3)).setCell ⟨w.heap.size, 8, none⟩ (.slice (some ⟨W10.heap.size, 0, none⟩) 1 1)).heap.size = W10.heap.size + 1 := by rw [set_size, hzc]
    have hale := (Below.refl (((W10.setCell ⟨w.heap.size, 6, none⟩ (.int .i64 (S.asked + 1))).alloc (.cells #[.int .i64 ((S.first + S.asked) % S.regions)] 3)).setCell ⟨w.heap.size, 8, none⟩ (.slice (some ⟨W10.heap.size, 0, none⟩) 1 1)).heap.size (((W10.setCell ⟨w.heap.size, 6, none⟩ (.int .i64 (S.asked + 1))).alloc (.cells #[.int .i64 ((S.first + S.asked) % S.regions)] 3)).setCell ⟨w.heap.size, 8, none⟩ (.slice (some ⟨W10.heap.size, 0, none⟩) 1 1))).alloc (Nat.le_refl _) (.cells #[.int .i64 3, .int .i64 ((S.first + S.asked) % S.regions), .slice A8 (leftR S.want S.got).length c8, .int .i64 0] 52)
    have hsle : Sl ((((W10.setCell ⟨w.heap.size, 6, none⟩ (.int .i64 (S.asked + 1))).alloc (.cells #[.int .i64 ((S.first + S.asked) % S.regions)] 3)).setCell ⟨w.heap.size, 8, none⟩ (.slice (some ⟨W10.heap.size, 0, none⟩) 1 1)).alloc (.cells #[.int .i64 3, .int .i64 ((S.first + S.asked) % S.regions), .slice A8 (leftR S.want S.got).length c8, .int .i64 0] 52)) (((W10.setCell ⟨w.heap.size, 6, none⟩ (.int .i64 (S.asked + 1))).alloc (.cells #[.int .i64 ((S.first + S.asked) % S.regions)] 3)).setCell ⟨w.heap.size, 8, none⟩ (.slice (some ⟨W10.heap.size, 0, none⟩) 1 1)).heap.size ((((W10.setCell ⟨w.heap.size, 6, none⟩ (.int .i64 (S.asked + 1))).alloc (.cells #[.int .i64 ((S.first + S.asked) % S.regions)] 3)).setCell ⟨w.heap.size, 8, none⟩ (.slice (some ⟨W10.heap.size, 0, none⟩) 1 1)).heap.size + 1) 4 (.slice (some ⟨(((W10.setCell ⟨w.heap.size, 6, none⟩ (.int .i64 (S.asked + 1))).alloc (.cells #[.int .i64 ((S.first + S.asked) % S.regions)] 3)).setCell ⟨w.heap.size, 8, none⟩ (.slice (some ⟨W10.heap.size, 0, none⟩) 1 1)).heap.size, 0, none⟩) 1 1) 1 [.int .i64 3, .int .i64 ((S.first + S.asked) % S.regions), .slice A8 (leftR S.want S.got).length c8, .int .i64 0] := Sl.new (((W10.setCell ⟨w.heap.size, 6, none⟩ (.int .i64 (S.asked + 1))).alloc (.cells #[.int .i64 ((S.first + S.asked) % S.regions)] 3)).setCell ⟨w.heap.size, 8, none⟩ (.slice (some ⟨W10.heap.size, 0, none⟩) 1 1)) #[.int .i64 3, .int .i64 ((S.first + S.asked) % S.regions), .slice A8 (leftR S.want S.got).length c8, .int .i64 0] 52 (size := 4) (n := 1) rfl (by unfold maxLen; omega)
    rw [hzd] at hsle
    have hze : ((((W10.setCell ⟨w.heap.size, 6, none⟩ (.int .i64 (S.asked + 1))).alloc (.cells #[.int .i64 ((S.first + S.asked) % S.regions)] 3)).setCell ⟨w.heap.size, 8, none⟩ (.slice (some ⟨W10.heap.size, 0, none⟩) 1 1)).alloc (.cells #[.int .i64 3, .int .i64 ((S.first + S.asked) % S.regions), .slice A8 (leftR S.want S.got).length c8, .int .i64 0] 52)).heap.size = W10.heap.size + 1 + 1 := by rw [World.size_alloc, hzd]
    have hse := SlA.of (Av := (fun i => Av i ∨ i = w.heap.size ∨ i = w.heap.size + 1 ∨ i = w.heap.size + 2)) hsle (by omega) (fun i ha hb hx => by rcases hx with hx | hx | hx | hx <;> first | (have := HAV.out i hx; omega) | omega)
    have v3 := u3d.same hale
    have hB12 := hBd.trans (hale.mono hBd.size)
    have hPe := hPd.later hale
    have hme := hmd.later hale
    have hpe := hpd.later hale
    have hP12 : PartsA (fun i => Av i ∨ i = w.heap.size ∨ i = w.heap.size + 1 ∨ i = w.heap.size + 2) ((((W10.setCell ⟨w.heap.size, 6, none⟩ (.int .i64 (S.asked + 1))).alloc (.cells #[.int .i64 ((S.first + S.asked) % S.regions)] 3)).setCell ⟨w.heap.size, 8, none⟩ (.slice (some ⟨W10.heap.size, 0, none⟩) 1 1)).alloc (.cells #[.int .i64 3, .int .i64 ((S.first + S.asked) % S.regions), .slice A8 (leftR S.want S.got).length c8, .int .i64 0] 52)) ({ S with asked := S.asked + 1, pending := [((S.first + S.asked) % S.regions)] } : Saga) (.slice A1 S.want.length c1) (.slice B2 n d2) (.slice (some ⟨W10.heap.size, 0, none⟩) 1 1) := ⟨hPe.want, hPe.got, hpe⟩
    have hS12 : StepsA (fun i => Av i ∨ i = w.heap.size ∨ i = w.heap.size + 1 ∨ i = w.heap.size + 2) ((((W10.setCell ⟨w.heap.size, 6, none⟩ (.int .i64 (S.asked + 1))).alloc (.cells #[.int .i64 ((S.first + S.asked) % S.regions)] 3)).setCell ⟨w.heap.size, 8, none⟩ (.slice (some ⟨W10.heap.size, 0, none⟩) 1 1)).alloc (.cells #[.int .i64 3, .int .i64 ((S.first + S.asked) % S.regions), .slice A8 (leftR S.want S.got).length c8, .int .i64 0] 52)) (.slice (some ⟨W10.heap.size + 1, 0, none⟩) 1 1) [⟨3, ((S.first + S.asked) % S.regions), leftR S.want S.got, 0⟩] := by
      refine ⟨[.slice A8 (leftR S.want S.got).length c8], rfl, hse, fun k hk => ?_⟩
      have : k = 0 := by simp at hk; omega
      subst this
      exact hme
    have HX := Lib.hid (And.intro hP12 (And.intro hS12 hB12))
    have HZE := Lib.hid hze
    clear hP12 hS12 hB12 hPe hme hpe hse hsle hale hPd hmd hpd hBd u3d u3c hPc hmc hBc u1c u1 u3 hPb hmb hBb hsl hpc hal z1 z3 hmA hPA10 hB10 hzb hzc hzd hze
    go_wp2_with (first
      | (refine wpList_load_obg (by rfl) _ _ rfl rfl _ u1d Tryz.underlying26 rfl (by kernel_rfl) ?_)
      | (refine wpList_store_ob (cells := #[.int .i64 S.order, .int .i64 S.first, .int .i64 S.regions, .slice A1 S.want.length c1, .bool S.waits, .int .i64 S.state, .int .i64 (S.asked + 1), .slice B2 n d2, .slice (some ⟨W10.heap.size, 0, none⟩) 1 1, .bool S.cancelled]) rfl 26 (.tmp 4) (.tmp 83) rfl rfl rfl v3 rfl (by kernel_rfl) (by simp [Value.oneCell']) ?_; intro W13 ho13 hg13))
    obtain ⟨hP12, hS12, hB12⟩ := HX.out
    have hze := HZE.out
    have hB13 := hB12.grown hg13 (by omega) (fun g e => by have e2 : w.heap.size + 2 = g := Option.some.inj e; omega)
    have hP13 := (hP12.grow hg13 (.inr (.inr (.inr rfl)))).more (Av' := Av) fun i _ hx => .inl hx
    have hS13 := (hS12.grow hg13 (.inr (.inr (.inr rfl)))).more (Av' := Av) fun i _ hx => .inl hx
    obtain ⟨p0, p1, p2, p3, p4, p5, p6, p7, p8, p9⟩ := ob_ten ho13
    refine bodyPost_ret (v := .tuple #[.agg #[.int .i64 S.order, .int .i64 S.first, .int .i64 S.regions, .slice A1 S.want.length c1, .bool S.waits, .int .i64 S.state, .int .i64 (S.asked + 1), .slice B2 n d2, .slice (some ⟨W10.heap.size, 0, none⟩) 1 1, .bool S.cancelled], .slice (some ⟨W10.heap.size + 1, 0, none⟩) 1 1, .int .i64 0]) ?_ rfl ⟨by rw [← HS.out, hTT.out]; exact ⟨_, _, _, _, rfl, hP13, hS13⟩, hB13⟩
    simp [results, Tryz.f26, go_sem, p0, p1, p2, p3, p4, p5, p6, p7, p8, p9]
  · have dl : decide ((((leftR S.want S.got).length : Nat) : Int) = 0) = false := decide_eq_false (by omega)
    have dl2 : ((((leftR S.want S.got).length : Nat) : Int) == 0) = false := by rw [beq_eq_false_iff_ne]; omega
    have hTT := Lib.hid (rtook_u hc hl ha)
    have da : decide (S.asked < S.regions) = false := decide_eq_false ha
    rw [hc] at k9
    clear hl hc ha
    have cU := Lib.hid (refundo_calls (fun i => Av i ∨ i = w.heap.size ∨ i = w.heap.size + 1 ∨ i = w.heap.size + 2) S _ _ _ W10 hPA10 (fun i hx => by rcases hx with hx | hx | hx | hx <;> first | (have := HAV.out i hx; omega) | omega) hgS)
    unfold sagaC at cU
    go_wp2_with (refine wpList_load_obg (by rfl) _ _ rfl rfl _ z1 Tryz.underlying26 rfl (by kernel_rfl) ?_)
    refine cU.out.mono ?_
    rintro e W11 ⟨⟨uw, ug, up, ul, rfl, hPA, hst⟩, hb11⟩
    have hB11 := hB10.trans (hb11.mono hB10.size)
    have u3 := z3.same hb11
    have hbs := hb11.size
    obtain ⟨E1, l1, rfl, -⟩ := hPA.want.form
    obtain ⟨E3, l3, rfl, -⟩ := hPA.pend.form
    obtain ⟨us, -, hu2, -⟩ := hPA.got
    obtain ⟨E2, l2, rfl, -⟩ := hu2.form
    obtain ⟨E4, l4, rfl, -⟩ := hst.form
    clear hu2 us cU z1 z3
    generalize hUS : undoS S = U at *
    obtain ⟨YY, L⟩ := U
    dsimp only at *
    have HUS := hTT
    clear hUS
    obtain ⟨se, hse⟩ : ∃ se, se = sagaC YY (.slice E1 YY.want.length l1) (.slice E2 YY.got.length l2) (.slice E3 YY.pending.length l3) := ⟨_, rfl⟩
    rw [← hse]
    have he1 : se.size = 10 := by rw [hse]; rfl
    have he2 : se.all (·.oneCell') = true := by rw [hse]; simp [sagaC, Value.oneCell']
    have HSE := Lib.hid hse
    clear hse
    have hoN := Ob.new W11 26 #[.int .i64 0, .int .i64 0, .int .i64 0, .slice none 0 0, .bool false, .int .i64 0, .int .i64 0, .slice none 0 0, .slice none 0 0, .bool false]
    have hal3 := (Below.refl W11.heap.size W11).alloc (Nat.le_refl _) (.cells #[.int .i64 0, .int .i64 0, .int .i64 0, .slice none 0 0, .bool false, .int .i64 0, .int .i64 0, .slice none 0 0, .slice none 0 0, .bool false] 26)
    have z3' : (W11.alloc (.cells #[.int .i64 0, .int .i64 0, .int .i64 0, .slice none 0 0, .bool false, .int .i64 0, .int .i64 0, .slice none 0 0, .slice none 0 0, .bool false] 26)).heap.size = W11.heap.size + 1 := World.size_alloc _ _
    have hS11 := StepsA.of (Av := (fun i => Av i ∨ i = w.heap.size ∨ i = w.heap.size + 1 ∨ i = w.heap.size + 2)) hst (Nat.le_refl _) (fun i ha hb hx => by rcases hx with hx | hx | hx | hx <;> first | (have := HAV.out i hx; omega) | omega)
    go_wp2_with (first
      | (refine wpList_store_ob (cells := se) rfl 26 (.tmp 9) (.tmp 91) rfl rfl rfl hoN he1 (by rw [he1]; kernel_rfl) he2 ?_
         intro W12 ho12 hg12
         have hb12 : Below W11.heap.size W11 W12 := hal3.grown hg12 (by omega) (fun g e => by have e2 : W11.heap.size = g := Option.some.inj e; omega)
         have hB12 := hB11.trans (hb12.mono hB11.size)
         have v3 := u3.same hb12)
      | (refine wpList_load_obg (by rfl) _ _ rfl rfl _ ho12 Tryz.underlying26 rfl (by rw [he1]; kernel_rfl) ?_)
      | (refine wpList_store_ob (cells := se) rfl 26 (.tmp 4) (.tmp 93) rfl rfl rfl v3 he1 (by rw [he1]; kernel_rfl) he2 ?_; intro W13 ho13 hg13))
    have hz12 := hb12.size
    have hP12 := hPA.later hb12
    have hS12 := hS11.later hb12
    rw [HSE.out] at ho13
    unfold sagaC at ho13
    have hB13 := hB12.grown hg13 (by omega) (fun g e => by have e2 : w.heap.size + 2 = g := Option.some.inj e; omega)
    have hP13 := (hP12.grow hg13 (.inr (.inr (.inr rfl)))).more (Av' := Av) fun i _ hx => .inl hx
    have hS13 := (hS12.grow hg13 (.inr (.inr (.inr rfl)))).more (Av' := Av) fun i _ hx => .inl hx
    obtain ⟨p0, p1, p2, p3, p4, p5, p6, p7, p8, p9⟩ := ob_ten ho13
    refine bodyPost_ret (v := .tuple #[.agg (sagaC YY (.slice E1 YY.want.length l1) (.slice E2 YY.got.length l2) (.slice E3 YY.pending.length l3)), .slice E4 L.length l4, .int .i64 0]) ?_ rfl ⟨by rw [← HS.out, HUS.out]; exact ⟨_, _, _, _, rfl, hP13, hS13⟩, hB13⟩
    simp [results, Tryz.f26, go_sem, sagaC, p0, p1, p2, p3, p4, p5, p6, p7, p8, p9]
end Sa
end Go.Proofs.YthfpfomifebpbaaGreat

namespace Go.Proofs.YthfpfomifebpbaaGreat
open Go.RowKit Go.Maps
namespace Sa
open It
set_option linter.unusedSimpArgs false

set_option maxRecDepth 100000 in
set_option maxHeartbeats 4000000 in
theorem refdone_no (Av : Nat → Prop) (s : Saga) (ev : Ev) (a b : Int) (vw vg vp ve : Value) (w : World) (h : PartsA Av w s vw vg vp) (hv : SlA Av w 2 ve ev.items.length (itemCells ev.items)) (hno : ¬ (s.state = a ∧ ev.region ∈ s.pending)) :
    Calls Tryz.prog 34 #[.agg (sagaC s vw vg vp), .agg (evC ev ve), .int .i64 a, .int .i64 b] w fun e w' => Ret3A Av w' e (.error 80) ∧ Below w.heap.size w w' := by
  have hmx : Tryz.prog.follows .mixedOrders = true := by kernel_rfl
  obtain ⟨A1, c1, rfl, -⟩ := h.want.form
  obtain ⟨us, -, hv2, -⟩ := h.got
  obtain ⟨A2, c2, rfl, -⟩ := hv2.form
  obtain ⟨A3, c3, rfl, -⟩ := h.pend.form
  obtain ⟨A4, c4, rfl, -⟩ := hv.form
  clear hv2 us
  have HP := Lib.hid h
  have HV := Lib.hid hv
  have HPE := Lib.hid h.parts.pend
  have hal1 := (Below.refl w.heap.size w).alloc (Nat.le_refl _) (.cells #[.int .i64 s.order, .int .i64 s.first, .int .i64 s.regions, .slice A1 s.want.length c1, .bool s.waits, .int .i64 s.state, .int .i64 s.asked, .slice A2 s.got.length c2, .slice A3 s.pending.length c3, .bool s.cancelled] 26)
  have hal2 := hal1.alloc hal1.size (.cells #[.int .i64 ev.kind, .int .i64 ev.region, .slice A4 ev.items.length c4] 28)
  have hB := hal2.alloc hal2.size (.cells #[.int .i64 0, .int .i64 0, .int .i64 0, .slice none 0 0, .bool false, .int .i64 0, .int .i64 0, .slice none 0 0, .slice none 0 0, .bool false] 26)
  have o1 := ((Ob.new w 26 #[.int .i64 s.order, .int .i64 s.first, .int .i64 s.regions, .slice A1 s.want.length c1, .bool s.waits, .int .i64 s.state, .int .i64 s.asked, .slice A2 s.got.length c2, .slice A3 s.pending.length c3, .bool s.cancelled]).alloc (.cells #[.int .i64 ev.kind, .int .i64 ev.region, .slice A4 ev.items.length c4] 28)).alloc (.cells #[.int .i64 0, .int .i64 0, .int .i64 0, .slice none 0 0, .bool false, .int .i64 0, .int .i64 0, .slice none 0 0, .slice none 0 0, .bool false] 26)
  have o2 := (Ob.new (w.alloc (.cells #[.int .i64 s.order, .int .i64 s.first, .int .i64 s.regions, .slice A1 s.want.length c1, .bool s.waits, .int .i64 s.state, .int .i64 s.asked, .slice A2 s.got.length c2, .slice A3 s.pending.length c3, .bool s.cancelled] 26)) 28 #[.int .i64 ev.kind, .int .i64 ev.region, .slice A4 ev.items.length c4]).alloc (.cells #[.int .i64 0, .int .i64 0, .int .i64 0, .slice none 0 0, .bool false, .int .i64 0, .int .i64 0, .slice none 0 0, .slice none 0 0, .bool false] 26)
  have o3 := Ob.new ((w.alloc (.cells #[.int .i64 s.order, .int .i64 s.first, .int .i64 s.regions, .slice A1 s.want.length c1, .bool s.waits, .int .i64 s.state, .int .i64 s.asked, .slice A2 s.got.length c2, .slice A3 s.pending.length c3, .bool s.cancelled] 26)).alloc (.cells #[.int .i64 ev.kind, .int .i64 ev.region, .slice A4 ev.items.length c4] 28)) 26 #[.int .i64 0, .int .i64 0, .int .i64 0, .slice none 0 0, .bool false, .int .i64 0, .int .i64 0, .slice none 0 0, .slice none 0 0, .bool false]
  rw [World.size_alloc, World.size_alloc] at o3
  rw [World.size_alloc] at o2
  clear hal1 hal2 h hv
  unfold sagaC evC
  go_enter Tryz.func34, Tryz.ntmps34
  go_upto_region 1 with (fail)
  generalize ((w.alloc (.cells #[.int .i64 s.order, .int .i64 s.first, .int .i64 s.regions, .slice A1 s.want.length c1, .bool s.waits, .int .i64 s.state, .int .i64 s.asked, .slice A2 s.got.length c2, .slice A3 s.pending.length c3, .bool s.cancelled] 26)).alloc (.cells #[.int .i64 ev.kind, .int .i64 ev.region, .slice A4 ev.items.length c4] 28)).alloc (.cells #[.int .i64 0, .int .i64 0, .int .i64 0, .slice none 0 0, .bool false, .int .i64 0, .int .i64 0, .slice none 0 0, .slice none 0 0, .bool false] 26) = W0 at *
  have hz := o3.lt
  obtain ⟨-, -, -, -, -, k5, -, -, k8, k9⟩ := ob_ten o1
  obtain ⟨-, e1, e2⟩ := ob_three o2
  have cI := Lib.hid (refin_calls s.pending ev.region (.slice A3 s.pending.length c3) 0 w.heap.size W0 (Sl.below HPE.out hB))
  rcases neq_cases s.state a with ⟨h1, d1, d2, d3⟩ | ⟨h1, d1, d2, d3⟩
  · rw [decide_eq_false fun hm => hno ⟨h1, hm⟩] at cI
    have HN := Lib.hid hno
    clear hno h1
    go_wp2_with fail
    refine cI.out.mono ?_
    rintro e W1 ⟨rfl, rfl⟩
    go_wp2_with (refine wpList_store_ob (cells := #[.int .i64 0, .int .i64 0, .int .i64 0, .slice none 0 0, .bool false, .int .i64 0, .int .i64 0, .slice none 0 0, .slice none 0 0, .bool false]) rfl 26 (.tmp 8) (.tmp 23) rfl rfl rfl o3 rfl (by kernel_rfl) (by simp [Value.oneCell']) ?_; intro W10 ho10 hg10)
    have hB10 := hB.grown hg10 (by omega) (fun g e => by have e2 : w.heap.size + 2 = g := Option.some.inj e; omega)
    obtain ⟨p0, p1, p2, p3, p4, p5, p6, p7, p8, p9⟩ := ob_ten ho10
    refine bodyPost_ret (v := .tuple #[.agg #[.int .i64 0, .int .i64 0, .int .i64 0, .slice none 0 0, .bool false, .int .i64 0, .int .i64 0, .slice none 0 0, .slice none 0 0, .bool false], .slice none 0 0, .int .i64 80]) ?_ rfl ⟨⟨_, _, _, _, rfl, partsA0 _ _, StepsA.nil _ _⟩, hB10⟩
    simp [results, Tryz.f34, go_sem, p0, p1, p2, p3, p4, p5, p6, p7, p8, p9]
  · have HN := Lib.hid hno
    clear hno h1 cI
    go_wp2_with (refine wpList_store_ob (cells := #[.int .i64 0, .int .i64 0, .int .i64 0, .slice none 0 0, .bool false, .int .i64 0, .int .i64 0, .slice none 0 0, .slice none 0 0, .bool false]) rfl 26 (.tmp 8) (.tmp 23) rfl rfl rfl o3 rfl (by kernel_rfl) (by simp [Value.oneCell']) ?_; intro W10 ho10 hg10)
    have hB10 := hB.grown hg10 (by omega) (fun g e => by have e2 : w.heap.size + 2 = g := Option.some.inj e; omega)
    obtain ⟨p0, p1, p2, p3, p4, p5, p6, p7, p8, p9⟩ := ob_ten ho10
    refine bodyPost_ret (v := .tuple #[.agg #[.int .i64 0, .int .i64 0, .int .i64 0, .slice none 0 0, .bool false, .int .i64 0, .int .i64 0, .slice none 0 0, .slice none 0 0, .bool false], .slice none 0 0, .int .i64 80]) ?_ rfl ⟨⟨_, _, _, _, rfl, partsA0 _ _, StepsA.nil _ _⟩, hB10⟩
    simp [results, Tryz.f34, go_sem, p0, p1, p2, p3, p4, p5, p6, p7, p8, p9]

set_option maxRecDepth 100000 in
set_option maxHeartbeats 8000000 in
theorem refdone_go (Av : Nat → Prop) (s : Saga) (ek : Int) (r : Nat) (ei : List It.Item) (a b : Int) (vw vg vp ve : Value) (w : World) (h : PartsA Av w s vw vg vp) (hv : SlA Av w 2 ve ei.length (itemCells ei)) (hav : ∀ i, Av i → i < w.heap.size) (hst : s.state = a) (hin : (r : Int) ∈ s.pending) (hrl : r < s.got.length) (hpl : s.pending.length ≤ 1000000) :
    Calls Tryz.prog 34 #[.agg (sagaC s vw vg vp), .agg (evC ⟨ek, r, ei⟩ ve), .int .i64 a, .int .i64 b] w fun e w' => Ret3A Av w' e (didU ei (s.got.getD r []) { s with pending := withoutL r s.pending } b) ∧ Below w.heap.size w w' := by
  have HAV := Lib.hid hav
  have HRL := Lib.hid hrl
  clear hav
  have HST := Lib.hid hst
  have HINN := Lib.hid hin
  clear hst hin
  have hmx : Tryz.prog.follows .mixedOrders = true := by kernel_rfl
  obtain ⟨A1, c1, rfl, -⟩ := h.want.form
  obtain ⟨us, -, hv2, -⟩ := h.got
  obtain ⟨A2, c2, rfl, -⟩ := hv2.form
  obtain ⟨A3, c3, rfl, -⟩ := h.pend.form
  obtain ⟨A4, c4, rfl, -⟩ := hv.form
  clear hv2 us
  have HP := Lib.hid h
  have HV := Lib.hid hv
  have HPE := Lib.hid h.parts.pend
  have hal1 := (Below.refl w.heap.size w).alloc (Nat.le_refl _) (.cells #[.int .i64 s.order, .int .i64 s.first, .int .i64 s.regions, .slice A1 s.want.length c1, .bool s.waits, .int .i64 s.state, .int .i64 s.asked, .slice A2 s.got.length c2, .slice A3 s.pending.length c3, .bool s.cancelled] 26)
  have hal2 := hal1.alloc hal1.size (.cells #[.int .i64 ek, .int .i64 (r : Int), .slice A4 ei.length c4] 28)
  have hB := hal2.alloc hal2.size (.cells #[.int .i64 0, .int .i64 0, .int .i64 0, .slice none 0 0, .bool false, .int .i64 0, .int .i64 0, .slice none 0 0, .slice none 0 0, .bool false] 26)
  have o1 := ((Ob.new w 26 #[.int .i64 s.order, .int .i64 s.first, .int .i64 s.regions, .slice A1 s.want.length c1, .bool s.waits, .int .i64 s.state, .int .i64 s.asked, .slice A2 s.got.length c2, .slice A3 s.pending.length c3, .bool s.cancelled]).alloc (.cells #[.int .i64 ek, .int .i64 (r : Int), .slice A4 ei.length c4] 28)).alloc (.cells #[.int .i64 0, .int .i64 0, .int .i64 0, .slice none 0 0, .bool false, .int .i64 0, .int .i64 0, .slice none 0 0, .slice none 0 0, .bool false] 26)
  have o2 := (Ob.new (w.alloc (.cells #[.int .i64 s.order, .int .i64 s.first, .int .i64 s.regions, .slice A1 s.want.length c1, .bool s.waits, .int .i64 s.state, .int .i64 s.asked, .slice A2 s.got.length c2, .slice A3 s.pending.length c3, .bool s.cancelled] 26)) 28 #[.int .i64 ek, .int .i64 (r : Int), .slice A4 ei.length c4]).alloc (.cells #[.int .i64 0, .int .i64 0, .int .i64 0, .slice none 0 0, .bool false, .int .i64 0, .int .i64 0, .slice none 0 0, .slice none 0 0, .bool false] 26)
  have o3 := Ob.new ((w.alloc (.cells #[.int .i64 s.order, .int .i64 s.first, .int .i64 s.regions, .slice A1 s.want.length c1, .bool s.waits, .int .i64 s.state, .int .i64 s.asked, .slice A2 s.got.length c2, .slice A3 s.pending.length c3, .bool s.cancelled] 26)).alloc (.cells #[.int .i64 ek, .int .i64 (r : Int), .slice A4 ei.length c4] 28)) 26 #[.int .i64 0, .int .i64 0, .int .i64 0, .slice none 0 0, .bool false, .int .i64 0, .int .i64 0, .slice none 0 0, .slice none 0 0, .bool false]
  rw [World.size_alloc, World.size_alloc] at o3
  rw [World.size_alloc] at o2
  clear hal1 hal2 h hv
  unfold sagaC evC
  dsimp only
  have hm0 : ∀ i, i < w.heap.size → (Av i ∨ i = w.heap.size ∨ i = w.heap.size + 1 ∨ i = w.heap.size + 2) → Av i := fun i hi hx => by
    rcases hx with hx | hx | hx | hx
    · exact hx
    · omega
    · omega
    · omega
  obtain ⟨vs, hvs, hv2, hv3⟩ := HP.out.got
  have hcell := GotAt.cellAt (GotA.got ⟨vs, hvs, hv2, hv3⟩) hrl
  obtain ⟨gb, go, x, rfl, -, hgB, hgc, hx⟩ := hcell
  obtain ⟨A2', c2', e2', hcn, hcm⟩ := hv2.form
  cases e2'
  unfold maxLen at hcm
  clear hvs hv2 hv3
  generalize hgr : s.got.getD r [] = gr at hx ⊢
  clear hgr vs
  go_enter Tryz.func34, Tryz.ntmps34
  go_upto_region 1 with (fail)
  generalize ((w.alloc (.cells #[.int .i64 s.order, .int .i64 s.first, .int .i64 s.regions, .slice A1 s.want.length c1, .bool s.waits, .int .i64 s.state, .int .i64 s.asked, .slice (some ⟨gb, go, none⟩) s.got.length c2, .slice A3 s.pending.length c3, .bool s.cancelled] 26)).alloc (.cells #[.int .i64 ek, .int .i64 (r : Int), .slice A4 ei.length c4] 28)).alloc (.cells #[.int .i64 0, .int .i64 0, .int .i64 0, .slice none 0 0, .bool false, .int .i64 0, .int .i64 0, .slice none 0 0, .slice none 0 0, .bool false] 26) = W0 at *
  have hz := o3.lt
  obtain ⟨-, -, -, -, -, k5, -, -, k8, k9⟩ := ob_ten o1
  obtain ⟨-, e1, e2⟩ := ob_three o2
  have hBd := hB.drew
  have x1 := Ob.drewn o1
  have x2 := Ob.drewn o2
  have x3 := Ob.drewn o3
  have cE := Lib.hid (fun V (h : Below W0.drew.heap.size W0.drew V) => refsame_calls ei gr (.slice A4 ei.length c4) x V (((HV.out.later (hBd.trans (h.mono hBd.size)))).all) (hx.mono (hBd.trans (h.mono hBd.size)) (by have := hBd.size; have := h.size; omega)))
  obtain ⟨A7, c7, rfl, -⟩ := hx.form
  have cI := Lib.hid (refin_calls s.pending r (.slice A3 s.pending.length c3) 0 w.heap.size W0 (Sl.below HPE.out hB))
  rw [decide_eq_true HINN.out] at cI
  have cW := Lib.hid (fun V (hb : Below w.heap.size w V) => refwithout_calls s.pending r _ V ((HP.out.later hb).parts.pend) hpl)
  have hQ := Lib.hid (fun V (h : Below W0.drew.heap.size W0.drew V) => show V.cell? ⟨w.heap.size + 1, 2, none⟩ = some (.slice A4 ei.length c4) ∧ V.cell? ⟨w.heap.size + 1, 1, none⟩ = some (.int .i64 (r : Int)) ∧ V.cell? ⟨w.heap.size, 7, none⟩ = some (.slice (some ⟨gb, go, none⟩) s.got.length c2) ∧ V.cell? ⟨gb, go + r, none⟩ = some (.slice A7 gr.length c7) ∧ Ob V w.heap.size 26 #[.int .i64 s.order, .int .i64 s.first, .int .i64 s.regions, .slice A1 s.want.length c1, .bool s.waits, .int .i64 s.state, .int .i64 s.asked, .slice (some ⟨gb, go, none⟩) s.got.length c2, .slice A3 s.pending.length c3, .bool s.cancelled] ∧ Ob V (w.heap.size + 1) 28 #[.int .i64 ek, .int .i64 (r : Int), .slice A4 ei.length c4] ∧ Ob V (w.heap.size + 2) 26 #[.int .i64 0, .int .i64 0, .int .i64 0, .slice none 0 0, .bool false, .int .i64 0, .int .i64 0, .slice none 0 0, .slice none 0 0, .bool false] from
    ⟨(x2.same h).cell rfl, (x2.same h).cell rfl, (x1.same h).cell rfl, ((Below.cell (p := ⟨gb, go + r, none⟩) (hBd.trans (h.mono hBd.size)) hgB).trans hgc), x1.same h, x2.same h, x3.same h⟩)
  have d1 : decide (s.state = a) = true := decide_eq_true HST.out
  have d2 : (s.state == a) = true := by rw [beq_iff_eq]; exact HST.out
  have d3 : (s.state != a) = false := by simp [HST.out]
  generalize hqq : decide (ei = gr) = q at cE
  have HQQ := Lib.hid hqq
  clear hqq hB o1 o2 o3 hx hgc
  go_wp2_with fail
  refine cI.out.mono ?_
  rintro e W1 ⟨rfl, rfl⟩
  clear k5 k8 k9 e1 e2 cI d1 d2 d3
  have hrl := HRL.out
  go_wp2
  refine Pu.regionW (fun Wq => Below W0.drew.heap.size W0.drew Wq) hmx (by kernel_rfl) (by kernel_rfl) (Below.refl _ _) rfl ?_
  iterate 10 (first
    | (refine Pu.Walk.off (by rfl) ?_; simp only [Act.put, List.setIfInBounds_toArray, List.set_cons_succ, List.set_cons_zero])
    | (apply Pu.Walk.on (by rfl)
       · intro V1 h1
         obtain ⟨q1, q2, q3, q4, -⟩ := hQ.out V1 h1
         go_wp2_with (go_at_call 35; refine (cE.out V1 h1).mono ?_; rintro e V2 ⟨rfl, hb⟩; replace h1 := h1.trans (hb.mono h1.size); clear hb)
         refine ⟨rfl, ?_, h1⟩
         try simp only [Act.put, List.setIfInBounds_toArray, List.set_cons_succ, List.set_cons_zero]
         rfl
       simp only [Act.put, List.setIfInBounds_toArray, List.set_cons_succ, List.set_cons_zero]))
  refine Pu.Walk.nil (fun W1 h1 => ?_)
  have hB1 := hBd.trans (h1.mono hBd.size)
  obtain ⟨-, q2, -, -, y1, y2, y3⟩ := hQ.out W1 h1
  have hz1 := y3.lt
  have g8 : W1.cell? ⟨w.heap.size, 8, none⟩ = some (.slice A3 s.pending.length c3) := y1.cell rfl
  clear cE hQ x1 x2 x3 hBd
  cases q with
  | false =>
    have hdu := Lib.hid (show didU ei gr { s with pending := withoutL r s.pending } b = .error 60 by unfold didU; rw [if_neg (of_decide_eq_false HQQ.out)])
    go_wp2_with (refine wpList_store_ob (cells := #[.int .i64 0, .int .i64 0, .int .i64 0, .slice none 0 0, .bool false, .int .i64 0, .int .i64 0, .slice none 0 0, .slice none 0 0, .bool false]) rfl 26 (.tmp 8) (.tmp 34) rfl rfl rfl y3 rfl (by kernel_rfl) (by simp [Value.oneCell']) ?_; intro W10 ho10 hg10)
    have hB10 := hB1.grown hg10 (by omega) (fun g e => by have e2 : w.heap.size + 2 = g := Option.some.inj e; omega)
    obtain ⟨p0, p1, p2, p3, p4, p5, p6, p7, p8, p9⟩ := ob_ten ho10
    refine bodyPost_ret (v := .tuple #[.agg #[.int .i64 0, .int .i64 0, .int .i64 0, .slice none 0 0, .bool false, .int .i64 0, .int .i64 0, .slice none 0 0, .slice none 0 0, .bool false], .slice none 0 0, .int .i64 60]) ?_ rfl ⟨by rw [hdu.out]; exact ⟨_, _, _, _, rfl, partsA0 _ _, StepsA.nil _ _⟩, hB10⟩
    simp [results, Tryz.f34, go_sem, p0, p1, p2, p3, p4, p5, p6, p7, p8, p9]
  | true =>
    have hdu := Lib.hid (show didU ei gr { s with pending := withoutL r s.pending } b = .ok (didT { s with pending := withoutL r s.pending } b) by unfold didU; rw [if_pos (of_decide_eq_true HQQ.out)])
    go_wp2_with fail
    refine (cW.out _ hB1).mono ?_
    rintro e W2 ⟨⟨vr, rfl, hvr⟩, hb2⟩
    have hB2 := hB1.trans (hb2.mono hB1.size)
    have z1 := y1.same hb2
    have z3 := y3.same hb2
    have hz2 := hb2.size
    have hIr := IntsAt.of_own hvr
    obtain ⟨A5, c5, rfl, -⟩ := hIr.form
    have hpA := SlA.of (Av := (fun i => Av i ∨ i = w.heap.size ∨ i = w.heap.size + 1 ∨ i = w.heap.size + 2)) hIr (Nat.le_refl _) (fun i ha hb hx => by rcases hx with hx | hx | hx | hx <;> first | (have := HAV.out i hx; omega) | omega)
    have hPA2 := (HP.out.more hm0).later hB2
    clear hvr hIr y1 y2 y3 hb2 g8 q2 cW
    have g8 : W2.cell? ⟨w.heap.size, 8, none⟩ = some (.slice A3 s.pending.length c3) := z1.cell rfl
    have f8 := z1.frozen 8
    have f5' := z1.frozen 5
    have u1 : Ob (W2.setCell ⟨w.heap.size, 8, none⟩ (.slice A5 (withoutL r s.pending).length c5)) w.heap.size 26 #[.int .i64 s.order, .int .i64 s.first, .int .i64 s.regions, .slice A1 s.want.length c1, .bool s.waits, .int .i64 s.state, .int .i64 s.asked, .slice (some ⟨gb, go, none⟩) s.got.length c2, .slice A5 (withoutL r s.pending).length c5, .bool s.cancelled] := z1.set 8 (.slice A5 (withoutL r s.pending).length c5)
    have u3 := z3.other (show w.heap.size + 2 ≠ w.heap.size by omega) 8 (.slice A5 (withoutL r s.pending).length c5)
    have hzb : (W2.setCell ⟨w.heap.size, 8, none⟩ (.slice A5 (withoutL r s.pending).length c5)).heap.size = W2.heap.size := set_size _ _ _ _
    have hBb := hB2.trans (below_set W2 w.heap.size 8 (.slice A5 (withoutL r s.pending).length c5))
    have hPb := hPA2.grow (grownBy_set W2 w.heap.size 8 (.slice A5 (withoutL r s.pending).length c5)) (.inr (.inl rfl))
    have hpb := hpA.grow (grownBy_set W2 w.heap.size 8 (.slice A5 (withoutL r s.pending).length c5)) (.inr (.inl rfl))
    have hPS : PartsA (fun i => Av i ∨ i = w.heap.size ∨ i = w.heap.size + 1 ∨ i = w.heap.size + 2) (W2.setCell ⟨w.heap.size, 8, none⟩ (.slice A5 (withoutL r s.pending).length c5)) ({ s with pending := withoutL r s.pending } : Saga) (.slice A1 s.want.length c1) (.slice (some ⟨gb, go, none⟩) s.got.length c2) (.slice A5 (withoutL r s.pending).length c5) := ⟨hPb.want, hPb.got, hpb⟩
    obtain ⟨-, -, -, -, -, k5, -, -, k8, -⟩ := ob_ten u1
    have hz3 := u3.lt
    clear z1 z3 hPA2 hpA hPb hpb hB2
    by_cases hl : (withoutL r s.pending).length = 0
    · have hTT := Lib.hid (show didT { s with pending := withoutL r s.pending } b = ({ s with pending := withoutL r s.pending, state := b }, told b) by unfold didT; rw [if_pos hl])
      have dl : decide ((((withoutL r s.pending).length : Nat) : Int) > 0) = false := decide_eq_false (by omega)
      have dn : ¬ 0 < (withoutL r s.pending).length := by omega
      clear hl
      have f5 := u1.frozen 5
      have w1 : Ob ((W2.setCell ⟨w.heap.size, 8, none⟩ (.slice A5 (withoutL r s.pending).length c5)).setCell ⟨w.heap.size, 5, none⟩ (.int .i64 b)) w.heap.size 26 #[.int .i64 s.order, .int .i64 s.first, .int .i64 s.regions, .slice A1 s.want.length c1, .bool s.waits, .int .i64 b, .int .i64 s.asked, .slice (some ⟨gb, go, none⟩) s.got.length c2, .slice A5 (withoutL r s.pending).length c5, .bool s.cancelled] := u1.set 5 (.int .i64 b)
      have w3 := u3.other (show w.heap.size + 2 ≠ w.heap.size by omega) 5 (.int .i64 b)
      have hzc : ((W2.setCell ⟨w.heap.size, 8, none⟩ (.slice A5 (withoutL r s.pending).length c5)).setCell ⟨w.heap.size, 5, none⟩ (.int .i64 b)).heap.size = W2.heap.size := by rw [set_size, hzb]
      have hBc := hBb.trans (below_set (W2.setCell ⟨w.heap.size, 8, none⟩ (.slice A5 (withoutL r s.pending).length c5)) w.heap.size 5 (.int .i64 b))
      have hPc := hPS.grow (grownBy_set (W2.setCell ⟨w.heap.size, 8, none⟩ (.slice A5 (withoutL r s.pending).length c5)) w.heap.size 5 (.int .i64 b)) (.inr (.inl rfl))
      have hal := (Below.refl ((W2.setCell ⟨w.heap.size, 8, none⟩ (.slice A5 (withoutL r s.pending).length c5)).setCell ⟨w.heap.size, 5, none⟩ (.int .i64 b)).heap.size ((W2.setCell ⟨w.heap.size, 8, none⟩ (.slice A5 (withoutL r s.pending).length c5)).setCell ⟨w.heap.size, 5, none⟩ (.int .i64 b))).alloc (Nat.le_refl _) (.cells #[.int .i64 100, .int .i64 0, .slice none 0 0, .int .i64 b] 52)
      have hst := told_at ((W2.setCell ⟨w.heap.size, 8, none⟩ (.slice A5 (withoutL r s.pending).length c5)).setCell ⟨w.heap.size, 5, none⟩ (.int .i64 b)) b
      have hzd : (((W2.setCell ⟨w.heap.size, 8, none⟩ (.slice A5 (withoutL r s.pending).length c5)).setCell ⟨w.heap.size, 5, none⟩ (.int .i64 b)).alloc (.cells #[.int .i64 100, .int .i64 0, .slice none 0 0, .int .i64 b] 52)).heap.size = W2.heap.size + 1 := by rw [World.size_alloc, hzc]
      have v3 := w3.same hal
      have hB12 := hBc.trans (hal.mono hBc.size)
      have hP12 := hPc.later hal
      have hS12 := StepsA.of (Av := (fun i => Av i ∨ i = w.heap.size ∨ i = w.heap.size + 1 ∨ i = w.heap.size + 2)) hst (by rw [hzd, hzc]; omega) (fun i ha hb hx => by rw [hzc] at ha; rcases hx with hx | hx | hx | hx <;> first | (have := HAV.out i hx; omega) | omega)
      rw [hzc] at hS12
      have HX := Lib.hid (And.intro hP12 (And.intro hS12 hB12))
      clear hBc hPc hst hal w3 hP12 hS12 hB12 u3 hBb hPS
      go_wp2_with (first
        | (refine wpList_load_obg (by rfl) _ _ rfl rfl _ w1 Tryz.underlying26 rfl (by kernel_rfl) ?_)
        | (refine wpList_store_ob (cells := #[.int .i64 s.order, .int .i64 s.first, .int .i64 s.regions, .slice A1 s.want.length c1, .bool s.waits, .int .i64 b, .int .i64 s.asked, .slice (some ⟨gb, go, none⟩) s.got.length c2, .slice A5 (withoutL r s.pending).length c5, .bool s.cancelled]) rfl 26 (.tmp 8) (.tmp 48) rfl rfl rfl v3 rfl (by kernel_rfl) (by simp [Value.oneCell']) ?_; intro W13 ho13 hg13))
      obtain ⟨hP12, hS12, hB12⟩ := HX.out
      have hB13 := hB12.grown hg13 (by omega) (fun g e => by have e2 : w.heap.size + 2 = g := Option.some.inj e; omega)
      have hP13 := ((PartsA.same (s' := ({ s with pending := withoutL r s.pending, state := b } : Saga)) hP12 rfl rfl rfl).grow hg13 (.inr (.inr (.inr rfl)))).more (Av' := Av) fun i _ hx => .inl hx
      have hS13 := (hS12.grow hg13 (.inr (.inr (.inr rfl)))).more (Av' := Av) fun i _ hx => .inl hx
      obtain ⟨p0, p1, p2, p3, p4, p5, p6, p7, p8, p9⟩ := ob_ten ho13
      refine bodyPost_ret (v := .tuple #[.agg #[.int .i64 s.order, .int .i64 s.first, .int .i64 s.regions, .slice A1 s.want.length c1, .bool s.waits, .int .i64 b, .int .i64 s.asked, .slice (some ⟨gb, go, none⟩) s.got.length c2, .slice A5 (withoutL r s.pending).length c5, .bool s.cancelled], .slice (some ⟨W2.heap.size, 0, none⟩) 1 1, .int .i64 0]) ?_ rfl ⟨by rw [hdu.out, hTT.out]; exact ⟨_, _, _, _, rfl, hP13, hS13⟩, hB13⟩
      simp [results, Tryz.f34, go_sem, p0, p1, p2, p3, p4, p5, p6, p7, p8, p9]
    · have hTT := Lib.hid (show didT { s with pending := withoutL r s.pending } b = ({ s with pending := withoutL r s.pending }, []) by unfold didT; rw [if_neg hl])
      have dl : decide ((((withoutL r s.pending).length : Nat) : Int) > 0) = true := decide_eq_true (by omega)
      have dn : 0 < (withoutL r s.pending).length := by omega
      clear hl
      have HX := Lib.hid (And.intro hPS hBb)
      clear hPS hBb
      go_wp2_with (first
        | (refine wpList_load_obg (by rfl) _ _ rfl rfl _ u1 Tryz.underlying26 rfl (by kernel_rfl) ?_)
        | (refine wpList_store_ob (cells := #[.int .i64 s.order, .int .i64 s.first, .int .i64 s.regions, .slice A1 s.want.length c1, .bool s.waits, .int .i64 s.state, .int .i64 s.asked, .slice (some ⟨gb, go, none⟩) s.got.length c2, .slice A5 (withoutL r s.pending).length c5, .bool s.cancelled]) rfl 26 (.tmp 8) (.tmp 45) rfl rfl rfl u3 rfl (by kernel_rfl) (by simp [Value.oneCell']) ?_; intro W13 ho13 hg13))
      obtain ⟨hP12, hB12⟩ := HX.out
      have hB13 := hB12.grown hg13 (by omega) (fun g e => by have e2 : w.heap.size + 2 = g := Option.some.inj e; omega)
      have hP13 := (hP12.grow hg13 (.inr (.inr (.inr rfl)))).more (Av' := Av) fun i _ hx => .inl hx
      have hS13 := (StepsA.nil (fun i => Av i ∨ i = w.heap.size ∨ i = w.heap.size + 1 ∨ i = w.heap.size + 2) W13).more (Av' := Av) fun i _ hx => .inl hx
      obtain ⟨p0, p1, p2, p3, p4, p5, p6, p7, p8, p9⟩ := ob_ten ho13
      refine bodyPost_ret (v := .tuple #[.agg #[.int .i64 s.order, .int .i64 s.first, .int .i64 s.regions, .slice A1 s.want.length c1, .bool s.waits, .int .i64 s.state, .int .i64 s.asked, .slice (some ⟨gb, go, none⟩) s.got.length c2, .slice A5 (withoutL r s.pending).length c5, .bool s.cancelled], .slice none 0 0, .int .i64 0]) ?_ rfl ⟨by rw [hdu.out, hTT.out]; exact ⟨_, _, _, _, rfl, hP13, hS13⟩, hB13⟩
      simp [results, Tryz.f34, go_sem, p0, p1, p2, p3, p4, p5, p6, p7, p8, p9]
end Sa
end Go.Proofs.YthfpfomifebpbaaGreat

namespace Go.Proofs.YthfpfomifebpbaaGreat
open Go.RowKit Go.Maps
namespace Sa
open It

theorem without_off {r : Int} {l : List Int} (hl : l.Pairwise (· < ·)) (hr : r ∈ l) : withoutL r l = takeOff r l := (take_off hl hr).symm
theorem took_eq {s : Saga} (hm : mayS s = true) (e : Ev) : tookS s e = rtookS s e := by
  obtain ⟨hh, hw, hb⟩ := mayS_iff.1 hm
  obtain ⟨hMw, hMg, h8⟩ := hh.M
  unfold tookS rtookS
  by_cases hst : s.state = 1 ∧ Life.idxOf e.region s.pending ≠ -1
  rotate_left
  · rw [if_neg hst, if_neg fun h => hst ⟨h.1, idx_none.2 h.2⟩]
  rw [if_pos hst, if_pos ⟨hst.1, idx_none.1 hst.2⟩]
  obtain ⟨h1, hix⟩ := hst
  have hmem := idx_none.1 hix
  rw [missing_R hMw hMg h8]
  have hML := (leftR_M hMw hMg).1
  have hc : covers (leftR s.want s.got) e.items = (may e.items && decide ((It.eachL restF e.items (leftR s.want s.got)).length = 0)) := by
    unfold covers
    rw [(may_iff _).2 hML, Bool.true_and]
    cases hq : may e.items with
    | false => simp
    | true =>
      rw [both_of (M_of hq) hML, Bool.true_and, Bool.true_and, Bool.eq_iff_iff, beq_iff_eq, decide_eq_true_eq]
  rw [← hc]
  unfold tookU rtookU
  cases hcv : covers (leftR s.want s.got) e.items with
  | false => rfl
  | true =>
    rw [if_pos rfl, if_pos rfl]
    have hr := (pend_in hm).1 _ hmem
    have h0 := asked_none hm h1 hmem
    rw [h1] at hb
    obtain ⟨hah, hleft, hp⟩ := (body1 hh).1 hb
    have hone : takeOff e.region s.pending = [] := by
      rw [hp] at hmem ⊢
      have he := List.mem_singleton.1 hmem
      rw [← he]
      unfold takeOff delAt Life.idxOf
      simp
    rw [hone]
    have hMe := (covers_left hML hcv).1
    rw [both_of hML hMe, left_set hMw hMg hMe (by omega) h0]
    congr 1
    unfold tookT rtookT
    have hv : ((visit s.first s.regions).length : Int) = s.regions := (mayS_split hm).1.visit
    have a1 := hh.a1
    have a2 := hh.a2
    by_cases hca : s.cancelled = true
    · rw [if_pos hca, if_pos hca]
    · rw [if_neg hca, if_neg hca]
      split
      · rfl
      · split
        · rename_i hlt
          have hlt' : s.asked < s.regions := hlt
          have hnx : (visit s.first s.regions).getD s.asked.toNat 0 = (s.first + s.asked) % s.regions := by
            rw [visit_get (by omega)]
            congr 1
            omega
          dsimp only
          rw [hnx]
        · rfl
theorem up_state4 {s : Saga} (hm : mayS s = true) (h : s.state = 4) : s.pending.Pairwise (· < ·) := by
  obtain ⟨hh, hw, hb⟩ := mayS_iff.1 hm
  rw [h, bodyU] at hb
  simp only [Bool.and_eq_true, decide_eq_true_eq] at hb
  rw [hb.2]
  exact holders_up _
theorem up_state7 {s : Saga} (hm : mayS s = true) (h : s.state = 7 ∨ s.state = 9) : s.pending.Pairwise (· < ·) := by
  obtain ⟨hh, hw, hb⟩ := mayS_iff.1 hm
  rw [bodyP hh h] at hb
  simp only [Bool.and_eq_true] at hb
  exact (rises_up' hb.2).1
/-- a region that is freed, as the document says -/
def rfreedS (s : Saga) (e : Ev) : Except Int (Saga × List Step) :=
  if s.state = 4 ∧ e.region ∈ s.pending then .ok (freedT { s with got := s.got.set e.region.toNat [], pending := withoutL e.region s.pending }) else .error 80
theorem freed_eq {s : Saga} (hm : mayS s = true) (e : Ev) : freedS s e = rfreedS s e := by
  unfold freedS rfreedS
  by_cases hst : s.state = 4 ∧ Life.idxOf e.region s.pending ≠ -1
  · rw [if_pos hst, if_pos ⟨hst.1, idx_none.1 hst.2⟩, without_off (up_state4 hm hst.1) (idx_none.1 hst.2)]
  · rw [if_neg hst, if_neg fun h => hst ⟨h.1, idx_none.2 h.2⟩]
def rdidS (s : Saga) (e : Ev) (a b : Int) : Except Int (Saga × List Step) :=
  if s.state = a ∧ e.region ∈ s.pending then didU e.items (s.got.getD e.region.toNat []) { s with pending := withoutL e.region s.pending } b else .error 80
theorem did_eq {s : Saga} (hm : mayS s = true) (e : Ev) {a : Int} (ha : a = 7 ∨ a = 9) (b : Int) : didS s e a b = rdidS s e a b := by
  unfold didS rdidS
  by_cases hst : s.state = a ∧ Life.idxOf e.region s.pending ≠ -1
  · rw [if_pos hst, if_pos ⟨hst.1, idx_none.1 hst.2⟩, without_off (up_state7 hm (by have := hst.1; omega)) (idx_none.1 hst.2)]
  · rw [if_neg hst, if_neg fun h => hst ⟨h.1, idx_none.2 h.2⟩]

/-- the document's took -/
theorem reftook_calls (Av : Nat → Prop) (s : Saga) (ev : Ev) (vw vg vp ve : Value) (w : World) (hm : mayS s = true) (h : PartsA Av w s vw vg vp) (hv : SlA Av w 2 ve ev.items.length (itemCells ev.items)) (hno : ∀ b, Av b → NoText w b) (hFe : Fits ev.items) (hil : ev.items.length ≤ 1000000) :
    Calls Tryz.prog 26 #[.agg (sagaC s vw vg vp), .agg (evC ev ve)] w fun e w' => Ret3A Av w' e (tookS s ev) ∧ Below w.heap.size w w' := by
  obtain ⟨hh, hw, hb⟩ := mayS_iff.1 hm
  have h8 := hh.M.2.2
  have h16 := hh.M.1.len
  rw [took_eq hm]
  unfold rtookS
  by_cases hst : s.state = 1 ∧ ev.region ∈ s.pending
  · rw [if_pos hst]
    unfold rtookU
    cases hq : (may ev.items && decide ((It.eachL restF ev.items (leftR s.want s.got)).length = 0)) with
    | false => exact reftook_bad Av s ev vw vg vp ve w h hv hFe (by omega) (by omega) hil hst.1 hst.2 hq
    | true =>
      rw [Bool.and_eq_true, decide_eq_true_eq] at hq
      have hr := (pend_in hm).1 _ hst.2
      have f1 := hh.f1
      have f2 := hh.f2
      have a1 := hh.a1
      have a2 := hh.a2
      have r2 := hh.r2
      exact reftook_yes Av s ev vw vg vp ve w h hv hno hFe (by omega) (by omega) hil hst.1 hst.2 ⟨hr.1, hr.2⟩ ⟨f1, f2, by omega, r2, a2⟩ hq.1 hq.2
  · rw [if_neg hst]
    exact reftook_no Av s ev vw vg vp ve w h hv hst
/-- the document's done -/
theorem refdone_calls (Av : Nat → Prop) (s : Saga) (ev : Ev) (a b : Int) (ha : a = 7 ∨ a = 9) (vw vg vp ve : Value) (w : World) (hm : mayS s = true) (h : PartsA Av w s vw vg vp) (hv : SlA Av w 2 ve ev.items.length (itemCells ev.items)) (hav : ∀ i, Av i → i < w.heap.size) :
    Calls Tryz.prog 34 #[.agg (sagaC s vw vg vp), .agg (evC ev ve), .int .i64 a, .int .i64 b] w fun e w' => Ret3A Av w' e (didS s ev a b) ∧ Below w.heap.size w w' := by
  rw [did_eq hm ev ha]
  unfold rdidS
  by_cases hst : s.state = a ∧ ev.region ∈ s.pending
  · rw [if_pos hst]
    have hr := (pend_in hm).1 _ hst.2
    have h8 := (pend_in hm).2
    obtain ⟨ek, er, ei⟩ := ev
    obtain ⟨r, rfl⟩ : ∃ r : Nat, er = r := ⟨er.toNat, by have : 0 ≤ er := hr.1; omega⟩
    dsimp only at *
    rw [Int.toNat_natCast]
    exact refdone_go Av s ek r ei a b vw vg vp ve w h hv hav hst.1 hst.2 (by omega) (by omega)
  · rw [if_neg hst]
    exact refdone_no Av s ev a b vw vg vp ve w h hv hst
end Sa
end Go.Proofs.YthfpfomifebpbaaGreat

namespace Go.Proofs.YthfpfomifebpbaaGreat
open Go.RowKit Go.Maps
namespace Sa
open It
set_option linter.unusedSimpArgs false

set_option maxRecDepth 100000 in
set_option maxHeartbeats 4000000 in
theorem refbegin_A (Av : Nat → Prop) (order first regions : Int) (want : List It.Item) (waits : Bool) (vw : Value) (w : World) (hwA : SlA Av w 2 vw want.length (itemCells want)) (hav : ∀ i, Av i → i < w.heap.size) (hF : Fits want) :
    Calls Tryz.prog 32 #[.int .i64 order, .int .i64 first, .int .i64 regions, vw, .bool waits] w fun e w' => Ret3A Av w' e (beginS order first regions want waits) ∧ Below w.heap.size w w' := by
  obtain ⟨i0, hi0, hz0⟩ := Option.map_eq_some_iff.1 list_info
  simp only [Prod.mk.injEq] at hz0
  obtain ⟨hz0, hz1, hz2⟩ := hz0
  have hw : ItemsAt w 0 w.heap.size vw want := hwA.all
  have HWA := Lib.hid hwA
  have HAV := Lib.hid hav
  have HW := Lib.hid (fun W (hb : Below w.heap.size w W) => hw.mono hb hb.size)
  obtain ⟨A, c, rfl, -⟩ := hw.form
  clear hw hwA hav
  have hal := (Below.refl w.heap.size w).alloc (Nat.le_refl _) (.cells #[.int .i64 0, .int .i64 0, .int .i64 0, .slice none 0 0, .bool false, .int .i64 0, .int .i64 0, .slice none 0 0, .slice none 0 0, .bool false] 26)
  have hoR := Ob.new w 26 #[.int .i64 0, .int .i64 0, .int .i64 0, .slice none 0 0, .bool false, .int .i64 0, .int .i64 0, .slice none 0 0, .slice none 0 0, .bool false]
  have hza : (w.alloc (.cells #[.int .i64 0, .int .i64 0, .int .i64 0, .slice none 0 0, .bool false, .int .i64 0, .int .i64 0, .slice none 0 0, .slice none 0 0, .bool false] 26)).heap.size = w.heap.size + 1 := World.size_alloc _ _
  by_cases hr : 1 ≤ regions ∧ regions ≤ 8
  rotate_left
  · rw [beginS_no hr]
    have hcs : regions < 1 ∨ (¬ regions < 1 ∧ regions > 8) := by omega
    clear hr
    rcases hcs with h1 | ⟨h1, h2⟩
    · have d1 : decide (regions < 1) = true := decide_eq_true h1
      clear h1
      go_enter Tryz.func32, Tryz.ntmps32
      go_wp2_with (refine wpList_store_ob (cells := #[.int .i64 0, .int .i64 0, .int .i64 0, .slice none 0 0, .bool false, .int .i64 0, .int .i64 0, .slice none 0 0, .slice none 0 0, .bool false]) rfl 26 (.tmp 10) (.tmp 20) rfl rfl rfl hoR rfl (by kernel_rfl) (by simp [Value.oneCell']) ?_; intro W8 ho8 hg8)
      have hBf := hal.grown hg8 (by omega) (fun g e => by have e2 : w.heap.size = g := Option.some.inj e; omega)
      obtain ⟨p0, p1, p2, p3, p4, p5, p6, p7, p8, p9⟩ := ob_ten ho8
      refine bodyPost_ret (v := .tuple #[.agg (sagaC saga0 nilS nilS nilS), nilS, .int .i64 1]) ?_ rfl ⟨⟨_, _, _, _, rfl, partsA0 _ _, StepsA.nil _ _⟩, hBf⟩
      simp [results, Tryz.f32, go_sem, sagaC, saga0, nilS, p0, p1, p2, p3, p4, p5, p6, p7, p8, p9]
    · have d1 : decide (regions < 1) = false := decide_eq_false h1
      have d2 : decide (regions > 8) = true := decide_eq_true h2
      clear h1 h2
      go_enter Tryz.func32, Tryz.ntmps32
      go_wp2_with (refine wpList_store_ob (cells := #[.int .i64 0, .int .i64 0, .int .i64 0, .slice none 0 0, .bool false, .int .i64 0, .int .i64 0, .slice none 0 0, .slice none 0 0, .bool false]) rfl 26 (.tmp 10) (.tmp 20) rfl rfl rfl hoR rfl (by kernel_rfl) (by simp [Value.oneCell']) ?_; intro W8 ho8 hg8)
      have hBf := hal.grown hg8 (by omega) (fun g e => by have e2 : w.heap.size = g := Option.some.inj e; omega)
      obtain ⟨p0, p1, p2, p3, p4, p5, p6, p7, p8, p9⟩ := ob_ten ho8
      refine bodyPost_ret (v := .tuple #[.agg (sagaC saga0 nilS nilS nilS), nilS, .int .i64 1]) ?_ rfl ⟨⟨_, _, _, _, rfl, partsA0 _ _, StepsA.nil _ _⟩, hBf⟩
      simp [results, Tryz.f32, go_sem, sagaC, saga0, nilS, p0, p1, p2, p3, p4, p5, p6, p7, p8, p9]
  · rw [beginS_ref hr]
    obtain ⟨n, hn⟩ : ∃ n : Nat, regions = n := ⟨regions.toNat, by omega⟩
    have hn1 : 1 ≤ n ∧ n ≤ 8 := by omega
    unfold saga1
    rw [hn]
    rw [Int.toNat_natCast]
    clear hr hn
    have d1 : decide ((n : Int) < 1) = false := decide_eq_false (by omega)
    have d2 : decide ((n : Int) > 8) = false := decide_eq_false (by omega)
    obtain ⟨W4, hmk, hrow4, hgr4⟩ := run_make_full (P := Tryz.prog) (w.alloc (.cells #[.int .i64 0, .int .i64 0, .int .i64 0, .slice none 0 0, .bool false, .int .i64 0, .int .i64 0, .slice none 0 0, .slice none 0 0, .bool false] 26)) (w.heap.size + 1) 23 22 i0 _ 1 Tryz.underlying23 hi0 hz0 hz1 .i64 .i64 n (by rw [hz2]; omega) (by unfold maxLen; omega) (by omega)
    have hz34 := hgr4.size
    rw [hza] at hmk hrow4 hz34
    have hrow4' : W4.ownsRow (w.heap.size + 1) 22 1 (.slice (some ⟨w.heap.size + 1, 0, none⟩) n n) n (List.replicate n nilS) := by
      rw [← toList_madeCells_one]
      have h := hrow4
      rw [Nat.mul_one] at h
      exact h
    have hB4 : Below w.heap.size w W4 := hal.grown hgr4 (by omega) (fun g e => by cases e)
    have hoR4 := hoR.kept hgr4 (by simp)
    obtain ⟨S, hS⟩ : ∃ S : Saga, S = ⟨order, first, n, want, waits, 1, 1, List.replicate n [], [first], false⟩ := ⟨_, rfl⟩
    have hal5 := (Below.refl W4.heap.size W4).alloc (Nat.le_refl _) (.cells #[.int .i64 first] 3)
    have hs5 : Sl (W4.alloc (.cells #[.int .i64 first] 3)) W4.heap.size (W4.heap.size + 1) 1 (.slice (some ⟨W4.heap.size, 0, none⟩) 1 1) 1 [.int .i64 first] := Sl.new W4 #[.int .i64 first] 3 (size := 1) (n := 1) rfl (by unfold maxLen; omega)
    have hz5 : (W4.alloc (.cells #[.int .i64 first] 3)).heap.size = W4.heap.size + 1 := World.size_alloc _ _
    have hrow5 := row_later hrow4' hal5
    have hoR5 := hoR4.same hal5
    have hB5 := hB4.trans (hal5.mono (by omega))
    have hal6 := (Below.refl (W4.alloc (.cells #[.int .i64 first] 3)).heap.size (W4.alloc (.cells #[.int .i64 first] 3))).alloc (Nat.le_refl _) (.cells #[.int .i64 order, .int .i64 first, .int .i64 n, .slice A want.length c, .bool waits, .int .i64 1, .int .i64 1, .slice (some ⟨w.heap.size + 1, 0, none⟩) n n, .slice (some ⟨W4.heap.size, 0, none⟩) 1 1, .bool false] 26)
    have ho6 := Ob.new (W4.alloc (.cells #[.int .i64 first] 3)) 26 #[.int .i64 order, .int .i64 first, .int .i64 n, .slice A want.length c, .bool waits, .int .i64 1, .int .i64 1, .slice (some ⟨w.heap.size + 1, 0, none⟩) n n, .slice (some ⟨W4.heap.size, 0, none⟩) 1 1, .bool false]
    have hz6 : ((W4.alloc (.cells #[.int .i64 first] 3)).alloc (.cells #[.int .i64 order, .int .i64 first, .int .i64 n, .slice A want.length c, .bool waits, .int .i64 1, .int .i64 1, .slice (some ⟨w.heap.size + 1, 0, none⟩) n n, .slice (some ⟨W4.heap.size, 0, none⟩) 1 1, .bool false] 26)).heap.size = W4.heap.size + 1 + 1 := by rw [World.size_alloc, hz5]
    have hrow6 := row_later hrow5 hal6
    have hoR6 := hoR5.same hal6
    have hB6 := hB5.trans (hal6.mono hB5.size)
    have hs6 := hs5.mono (hal6.mono (by omega)) (show W4.heap.size + 1 ≤ W4.heap.size + 1 from Nat.le_refl _)
    rw [hz5] at ho6
    have hPm : ∀ W, ItemsAt W 0 W.heap.size (.slice A want.length c) want → GotAt W 0 W.heap.size (.slice (some ⟨w.heap.size + 1, 0, none⟩) n n) (List.replicate n []) → IntsAt W 0 W.heap.size (.slice (some ⟨W4.heap.size, 0, none⟩) 1 1) [first] → Parts W 0 W.heap.size S (.slice A want.length c) (.slice (some ⟨w.heap.size + 1, 0, none⟩) n n) (.slice (some ⟨W4.heap.size, 0, none⟩) 1 1) := fun W a b c => by
      rw [hS]
      exact ⟨a, b, c⟩
    have hP6 := hPm _ (HW.out _ hB6) ((got_new hrow6).wide (Nat.zero_le _) (Nat.le_refl _)) (hs6.wide (Nat.zero_le _) (by rw [hz6]; omega))
    have hG6 := got_new (n := n) hrow6
    have hFS : Fit S := by
      rw [hS]
      refine ⟨hF, fun l hl => ?_⟩
      obtain ⟨-, rfl⟩ := List.mem_replicate.1 hl
      intro x hx
      simp at hx
    have cM := Lib.hid (refmay15_calls S _ _ _ _ hP6 hFS)
    have hSP := Lib.hid hS
    have hsc : sagaC S (.slice A want.length c) (.slice (some ⟨w.heap.size + 1, 0, none⟩) n n) (.slice (some ⟨W4.heap.size, 0, none⟩) 1 1) = #[.int .i64 order, .int .i64 first, .int .i64 n, .slice A want.length c, .bool waits, .int .i64 1, .int .i64 1, .slice (some ⟨w.heap.size + 1, 0, none⟩) n n, .slice (some ⟨W4.heap.size, 0, none⟩) 1 1, .bool false] := by rw [hS]; rfl
    rw [hsc] at cM
    rw [← hS]
    have HG6 := Lib.hid hG6
    have HS6 := Lib.hid hs6
    have HO6 := Lib.hid ho6
    have HOR6 := Lib.hid hoR6
    have HB6 := Lib.hid hB6
    have HSC := Lib.hid hsc
    clear hS hFS hPm hP6 hG6 ho6 hoR6 hB6 hrow6 hs6 hrow5 hs5 hB5 hoR5 hal5 hal6 hrow4' hrow4 hoR4 hB4 hgr4 hal hoR hsc
    go_enter Tryz.func32, Tryz.ntmps32
    go_wp2_with (refine wpList_load_obg (by rfl) _ _ rfl rfl _ HO6.out Tryz.underlying26 rfl (by kernel_rfl) ?_)
    refine cM.out.mono ?_
    rintro e W7 ⟨rfl, hb7⟩
    have hoR7 := HOR6.out.same hb7
    have hB7 := HB6.out.trans (hb7.mono HB6.out.size)
    have hob7 := HO6.out.same hb7
    have hG7 := HG6.out.mono hb7 hb7.size
    have hS7 := HS6.out.mono (hb7.mono (by omega)) (show W4.heap.size + 1 ≤ W7.heap.size by have := hb7.size; omega)
    generalize hm : mayS S = m
    have HM := Lib.hid hm
    clear hm
    have hs7 := hoR7.lt
    have HZ34 := Lib.hid hz34
    clear hmk hz34 hz5 hz6
    cases m with
    | false =>
      go_wp2_with (refine wpList_store_ob (cells := #[.int .i64 0, .int .i64 0, .int .i64 0, .slice none 0 0, .bool false, .int .i64 0, .int .i64 0, .slice none 0 0, .slice none 0 0, .bool false]) rfl 26 (.tmp 10) (.tmp 34) rfl rfl rfl hoR7 rfl (by kernel_rfl) (by simp [Value.oneCell']) ?_; intro W8 ho8 hg8)
      have hBf := hB7.grown hg8 (by omega) (fun g e => by have e2 : w.heap.size = g := Option.some.inj e; omega)
      obtain ⟨p0, p1, p2, p3, p4, p5, p6, p7, p8, p9⟩ := ob_ten ho8
      refine bodyPost_ret (v := .tuple #[.agg (sagaC saga0 nilS nilS nilS), nilS, .int .i64 1]) ?_ rfl ⟨by unfold beginU; rw [HM.out]; exact ⟨_, _, _, _, rfl, partsA0 _ _, StepsA.nil _ _⟩, hBf⟩
      simp [results, Tryz.f32, go_sem, sagaC, saga0, nilS, p0, p1, p2, p3, p4, p5, p6, p7, p8, p9]
    | true =>
      have hal8 := (Below.refl W7.heap.size W7).alloc (Nat.le_refl _) (.cells #[.int .i64 3, .int .i64 first, .slice A want.length c, .int .i64 0] 52)
      have hst8 : Sl (W7.alloc (.cells #[.int .i64 3, .int .i64 first, .slice A want.length c, .int .i64 0] 52)) W7.heap.size (W7.heap.size + 1) 4 (.slice (some ⟨W7.heap.size, 0, none⟩) 1 1) 1 [.int .i64 3, .int .i64 first, .slice A want.length c, .int .i64 0] := Sl.new W7 #[.int .i64 3, .int .i64 first, .slice A want.length c, .int .i64 0] 52 (size := 4) (n := 1) rfl (by unfold maxLen; omega)
      have hoR8 := hoR7.same hal8
      have hG8 := hG7.mono hal8 hal8.size
      have hS8 := hS7.mono hal8 hal8.size
      have hB8 := hB7.trans (hal8.mono hB7.size)
      have hz8 : (W7.alloc (.cells #[.int .i64 3, .int .i64 first, .slice A want.length c, .int .i64 0] 52)).heap.size = W7.heap.size + 1 := World.size_alloc _ _
      go_wp2_with (first
        | (refine wpList_load_obg (by rfl) _ _ rfl rfl _ hob7 Tryz.underlying26 rfl (by kernel_rfl) ?_)
        | (refine wpList_store_ob (cells := #[.int .i64 order, .int .i64 first, .int .i64 n, .slice A want.length c, .bool waits, .int .i64 1, .int .i64 1, .slice (some ⟨w.heap.size + 1, 0, none⟩) n n, .slice (some ⟨W4.heap.size, 0, none⟩) 1 1, .bool false]) rfl 26 (.tmp 10) (.tmp 35) rfl rfl rfl hoR8 rfl (by kernel_rfl) (by simp [Value.oneCell']) ?_; intro W9 ho9 hg9))
      have hs9 := hg9.size
      have hz34 := HZ34.out
      have hk9 := Kept.of_grown (Fr := fun i => i < (W7.alloc (.cells #[.int .i64 3, .int .i64 first, .slice A want.length c, .int .i64 0] 52)).heap.size ∧ i ≠ w.heap.size) hg9 fun i hi => ⟨hi.1, fun e => hi.2 (by cases e; rfl)⟩
      have hB9 := hB8.grown hg9 (by omega) (fun g e => by have e2 : w.heap.size = g := Option.some.inj e; omega)
      have hG9 := hG8.kept hk9 fun i ha hb => ⟨hb, by omega⟩
      have hS9 := hk9.sl hS8 fun i ha hb => ⟨hb, by omega⟩
      have hst9 := hk9.sl hst8 fun i ha hb => ⟨by omega, by omega⟩
      have hGA : GotA Av W9 (.slice (some ⟨w.heap.size + 1, 0, none⟩) n n) (List.replicate n []) := by
        obtain ⟨vs, q1, q2, q3⟩ := hG9
        exact ⟨vs, q1, .of q2 hs9 (fun i ha _ hx => by have := HAV.out i hx; omega), fun k hk => .of (q3 k hk) hs9 (fun i ha _ hx => by have := HAV.out i hx; omega)⟩
      have hP9 : PartsA Av W9 S (.slice A want.length c) (.slice (some ⟨w.heap.size + 1, 0, none⟩) n n) (.slice (some ⟨W4.heap.size, 0, none⟩) 1 1) := by
        rw [hSP.out]
        exact ⟨HWA.out.later hB9, hGA, .of hS9 hs9 (fun i ha _ hx => by have := HAV.out i hx; omega)⟩
      have hT9 : StepsA Av W9 (.slice (some ⟨W7.heap.size, 0, none⟩) 1 1) [⟨3, first, want, 0⟩] := by
        refine ⟨[.slice A want.length c], rfl, .of hst9 (by omega) (fun i ha _ hx => by have := HAV.out i hx; omega), fun k hk => ?_⟩
        have : k = 0 := by simp at hk; omega
        subst this
        exact HWA.out.later hB9
      obtain ⟨p0, p1, p2, p3, p4, p5, p6, p7, p8, p9⟩ := ob_ten ho9
      have hSw : S.want = want ∧ S.first = first := by rw [hSP.out]; exact ⟨rfl, rfl⟩
      refine bodyPost_ret (v := .tuple #[.agg (sagaC S (.slice A want.length c) (.slice (some ⟨w.heap.size + 1, 0, none⟩) n n) (.slice (some ⟨W4.heap.size, 0, none⟩) 1 1)), .slice (some ⟨W7.heap.size, 0, none⟩) 1 1, .int .i64 0]) ?_ rfl ⟨by unfold beginU; rw [HM.out, hSw.1, hSw.2]; exact ⟨_, _, _, _, rfl, hP9, hT9⟩, hB9⟩
      rw [HSC.out]
      simp [results, Tryz.f32, go_sem, p0, p1, p2, p3, p4, p5, p6, p7, p8, p9]
end Sa
end Go.Proofs.YthfpfomifebpbaaGreat
