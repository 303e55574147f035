/-
  parcels: copied, Parcel, Left.
-/
import Derived.Test.YtdbkkldgobkjcaaPcC
import Derived.Test.YtdbkkldgobkjcaaMvG
namespace Go.Proofs.Ytdbkkldgobkjcaa
open Go.RowKit Go.Maps
namespace Pc
open It Mv

theorem _root_.Go.Proofs.Ytdbkkldgobkjcaa.Ob.four {w : World} {b : Nat} {t : TypeId} {x0 x1 x2 x3 : Value} (h : Ob w b t #[x0, x1, x2, x3]) :
    w.cell? ⟨b, 0, none⟩ = some x0 ∧ w.cell? ⟨b, 1, none⟩ = some x1 ∧ w.cell? ⟨b, 2, none⟩ = some x2 ∧ w.cell? ⟨b, 3, none⟩ = some x3 :=
  ⟨h.cell (j := 0) rfl, h.cell (j := 1) rfl, h.cell (j := 2) rfl, h.cell (j := 3) rfl⟩
theorem _root_.Go.Proofs.Ytdbkkldgobkjcaa.Ob.free4 {w : World} {b : Nat} {t : TypeId} {cs : Array Value} (h : Ob w b t cs) :
    w.frozen? ⟨b, 0, none⟩ = false ∧ w.frozen? ⟨b, 1, none⟩ = false ∧ w.frozen? ⟨b, 2, none⟩ = false ∧ w.frozen? ⟨b, 3, none⟩ = false :=
  ⟨h.frozen 0, h.frozen 1, h.frozen 2, h.frozen 3⟩
theorem _root_.Go.Proofs.Ytdbkkldgobkjcaa.Ob.set4 {w : World} {b : Nat} {t : TypeId} {y0 y1 y2 y3 : Value} (h : Ob w b t #[y0, y1, y2, y3]) (x0 x1 x2 x3 : Value) :
    Ob ((((w.setCell ⟨b, 0, none⟩ x0).setCell ⟨b, 1, none⟩ x1).setCell ⟨b, 2, none⟩ x2).setCell ⟨b, 3, none⟩ x3) b t #[x0, x1, x2, x3] :=
  (((h.set 0 x0).set 1 x1).set 2 x2).set 3 x3
theorem _root_.Go.Proofs.Ytdbkkldgobkjcaa.grown_set4 (w : World) (b : Nat) (x0 x1 x2 x3 : Value) :
    w.grownBy ((((w.setCell ⟨b, 0, none⟩ x0).setCell ⟨b, 1, none⟩ x1).setCell ⟨b, 2, none⟩ x2).setCell ⟨b, 3, none⟩ x3) (some b) :=
  (((grownBy_set w b 0 x0).trans (grownBy_set _ b 1 x1)).trans (grownBy_set _ b 2 x2)).trans (grownBy_set _ b 3 x3)

def pclV (od : Int) (v1 v2 v3 : Value) : Value := .agg #[.int .i64 od, v1, v2, v3]
set_option maxRecDepth 100000 in
set_option maxHeartbeats 4000000 in
theorem copied_calls (od : Int) (l1 l2 l3 : List It.Item) (v1 v2 v3 : Value) (w : World) (h1 : ItemsAt w 0 w.heap.size v1 l1) (h2 : ItemsAt w 0 w.heap.size v2 l2) (h3 : ItemsAt w 0 w.heap.size v3 l3)
    (hn1 : l1.length ≤ 1000000) (hn2 : l2.length ≤ 1000000) (hn3 : l3.length ≤ 1000000) :
    Calls Try.prog 54 #[pclV od v1 v2 v3] w fun e w' =>
      (∃ u1 u2 u3, e = .returned (pclV od u1 u2 u3) ∧ w'.ownsRow w.heap.size 36 2 u1 l1.length (itemCells l1) ∧ w'.ownsRow w.heap.size 36 2 u2 l2.length (itemCells l2) ∧ w'.ownsRow w.heap.size 36 2 u3 l3.length (itemCells l3)) ∧ Below w.heap.size w w' := by
  have H1 := Lib.hid h1
  have H2 := Lib.hid h2
  have H3 := Lib.hid h3
  obtain ⟨A1, c1, rfl, -⟩ := h1.form
  obtain ⟨A2, c2, rfl, -⟩ := h2.form
  obtain ⟨A3, c3, rfl, -⟩ := h3.form
  clear h1 h2 h3
  dsimp only [pclV]
  go_enter Try.func54, Try.ntmps54
  go_wp2_with fail
  have hal0 := (Below.refl w.heap.size w).alloc (Nat.le_refl _) (.cells #[.int .i64 od, .slice A1 l1.length c1, .slice A2 l2.length c2, .slice A3 l3.length c3] 70)
  have hal := (hal0.alloc hal0.size (.cells #[.int .i64 0, .slice none 0 0, .slice none 0 0, .slice none 0 0] 70)).drew
  have hO1 : Ob ((w.alloc (.cells #[.int .i64 od, .slice A1 l1.length c1, .slice A2 l2.length c2, .slice A3 l3.length c3] 70)).alloc (.cells #[.int .i64 0, .slice none 0 0, .slice none 0 0, .slice none 0 0] 70)).drew w.heap.size 70 #[.int .i64 od, .slice A1 l1.length c1, .slice A2 l2.length c2, .slice A3 l3.length c3] := (Ob.new w 70 #[.int .i64 od, .slice A1 l1.length c1, .slice A2 l2.length c2, .slice A3 l3.length c3]).alloc (.cells #[.int .i64 0, .slice none 0 0, .slice none 0 0, .slice none 0 0] 70)
  have hO2 : Ob ((w.alloc (.cells #[.int .i64 od, .slice A1 l1.length c1, .slice A2 l2.length c2, .slice A3 l3.length c3] 70)).alloc (.cells #[.int .i64 0, .slice none 0 0, .slice none 0 0, .slice none 0 0] 70)).drew (w.heap.size + 1) 70 #[.int .i64 0, .slice none 0 0, .slice none 0 0, .slice none 0 0] := by
    have := Ob.new (w.alloc (.cells #[.int .i64 od, .slice A1 l1.length c1, .slice A2 l2.length c2, .slice A3 l3.length c3] 70)) 70 #[.int .i64 0, .slice none 0 0, .slice none 0 0, .slice none 0 0]
    rwa [World.size_alloc] at this
  have hI := Lib.hid (fun W (h : Below w.heap.size w W) => And.intro (H1.out.mono h h.size) (And.intro (H2.out.mono h h.size) (H3.out.mono h h.size)))
  generalize hW0 : ((w.alloc (.cells #[.int .i64 od, .slice A1 l1.length c1, .slice A2 l2.length c2, .slice A3 l3.length c3] 70)).alloc (.cells #[.int .i64 0, .slice none 0 0, .slice none 0 0, .slice none 0 0] 70)) = W0 at *
  have HAL := Lib.hid hal
  have HO2 := Lib.hid hO2
  have hO2lt := hO2.lt
  clear hal0 hW0 H1 H2 H3
  have cC1 := Lib.hid (clonei_calls l1 _ W0.drew (hI.out _ hal).1 hn1)
  clear hal hO2
  refine Pu.regionM [(0, false), (1, false), (2, false), (3, false), (5, false), (6, false), (8, false), (9, false), (4, true), (7, true), (10, true), (11, false), (12, true)] (fun W => Ob W w.heap.size 70 #[.int .i64 od, .slice A1 l1.length c1, .slice A2 l2.length c2, .slice A3 l3.length c3]) hmx (by kernel_rfl) (by kernel_rfl) (by kernel_rfl) hO1 rfl ?_
  simp only [Pu.named, List.filterMap_cons, List.filterMap_nil, List.getElem?_toArray, List.getElem?_cons_succ, List.getElem?_cons_zero, Option.map_some]
  iterate 8 (apply Pu.WalkM.on (by rfl)
             · rintro W hOW
               obtain ⟨q0, q1, q2, q3⟩ := hOW.four
               go_wp2_with fail
               refine ⟨rfl, ?_, rfl⟩
               try simp only [Act.put, List.setIfInBounds_toArray, List.set_cons_succ, List.set_cons_zero]
               rfl
             simp only [Act.put, List.setIfInBounds_toArray, List.set_cons_succ, List.set_cons_zero])
  refine Pu.WalkM.make (by rfl) ?_
  rintro W rfl
  go_wp2_with (go_at_call 42; refine cC1.out.mono ?_; rintro e W1 ⟨⟨u1, rfl, hu1⟩, hb1⟩)
  have hO11 := hO1.same hb1
  have HAL1 := Lib.hid (HAL.out.trans (hb1.mono HAL.out.size))
  have HO21 := Lib.hid (HO2.out.same hb1)
  have HU1 := Lib.hid hu1
  have cC2 := Lib.hid (clonei_calls l2 _ W1 (hI.out _ HAL1.out).2.1 hn2)
  have hs1 := hb1.size
  obtain ⟨B1, d1, rfl, -⟩ := (ItemsAt.of_own hu1).form
  clear hu1 hO1
  refine ⟨rfl, .slice B1 l1.length d1, _, (fun W => W = W1), ?_, rfl, (fun W h => by rw [h]; exact hO11), (.inr (fun _ h => h)), ?_⟩
  · simp only [Act.put, List.setIfInBounds_toArray, List.set_cons_succ, List.set_cons_zero]
  simp only [Act.put, List.setIfInBounds_toArray, List.set_cons_succ, List.set_cons_zero]
  refine Pu.WalkM.make (by rfl) ?_
  rintro W rfl
  go_wp2_with (go_at_call 42; refine cC2.out.mono ?_; rintro e W2 ⟨⟨u2, rfl, hu2⟩, hb2⟩)
  have hO12 := hO11.same hb2
  have HAL2 := Lib.hid (HAL1.out.trans (hb2.mono HAL1.out.size))
  have HO22 := Lib.hid (HO21.out.same hb2)
  have HU2 := Lib.hid hu2
  have HU12 := Lib.hid (row_below HU1.out hb2)
  have cC3 := Lib.hid (clonei_calls l3 _ W2 (hI.out _ HAL2.out).2.2 hn3)
  have hs2 := hb2.size
  obtain ⟨B2, d2, rfl, -⟩ := (ItemsAt.of_own hu2).form
  clear hu2 hO11 hb1
  refine ⟨rfl, .slice B2 l2.length d2, _, (fun W => W = W2), ?_, rfl, (fun W h => by rw [h]; exact hO12), (.inr (fun _ h => h)), ?_⟩
  · simp only [Act.put, List.setIfInBounds_toArray, List.set_cons_succ, List.set_cons_zero]
  simp only [Act.put, List.setIfInBounds_toArray, List.set_cons_succ, List.set_cons_zero]
  refine Pu.WalkM.make (by rfl) ?_
  rintro W rfl
  go_wp2_with (go_at_call 42; refine cC3.out.mono ?_; rintro e W3 ⟨⟨u3, rfl, hu3⟩, hb3⟩)
  have hO13 := hO12.same hb3
  have HAL3 := Lib.hid (HAL2.out.trans (hb3.mono HAL2.out.size))
  have hO23 := HO22.out.same hb3
  have HU3 := Lib.hid hu3
  have HU13 := Lib.hid (row_below HU12.out hb3)
  have HU23 := Lib.hid (row_below HU2.out hb3)
  have hs3 := hb3.size
  obtain ⟨B3, d3, rfl, -⟩ := (ItemsAt.of_own hu3).form
  clear hu3 hO12 hb2 hb3
  refine ⟨rfl, .slice B3 l3.length d3, _, (fun W => W = W3), ?_, rfl, (fun W h => by rw [h]; exact hO13), (.inr (fun _ h => h)), ?_⟩
  · simp only [Act.put, List.setIfInBounds_toArray, List.set_cons_succ, List.set_cons_zero]
  simp only [Act.put, List.setIfInBounds_toArray, List.set_cons_succ, List.set_cons_zero]
  apply Pu.WalkM.on (by rfl)
  · rintro W hOW
    go_wp2_with fail
    refine ⟨rfl, ?_, rfl⟩
    try simp only [Act.put, List.setIfInBounds_toArray, List.set_cons_succ, List.set_cons_zero]
    rfl
  simp only [Act.put, List.setIfInBounds_toArray, List.set_cons_succ, List.set_cons_zero]
  refine Pu.WalkM.make (by rfl) ?_
  rintro W rfl
  obtain ⟨q0, q1, q2, q3⟩ := hO23.four
  obtain ⟨f0, f1, f2, f3⟩ := hO23.free4
  go_wp2_with fail
  have hO4 := hO23.set4 (.int .i64 od) (.slice B1 l1.length d1) (.slice B2 l2.length d2) (.slice B3 l3.length d3)
  have hg4 := grown_set4 W (w.heap.size + 1) (.int .i64 od) (.slice B1 l1.length d1) (.slice B2 l2.length d2) (.slice B3 l3.length d3)
  refine ⟨rfl, undef, (fun _ => True), (fun V => V = _), rfl, rfl, (fun _ _ => trivial), (.inl (by kernel_rfl)), Pu.WalkM.nil ?_⟩
  rintro V rfl
  simp only [Act.put]
  obtain ⟨p0, p1, p2, p3⟩ := hO4.four
  have hz0 := HAL.out.size
  have hz1 := hO2lt
  have hBf := HAL3.out.grown hg4 (by have := HAL3.out.size; omega) (fun g e => by have := Option.some.inj e; omega)
  have hU1 := ownsRow_far HU13.out hg4 (by omega)
  have hU2 := ownsRow_far HU23.out hg4 (by omega)
  have hU3 := ownsRow_far HU3.out hg4 (by omega)
  generalize ((((W.setCell ⟨w.heap.size + 1, 0, none⟩ (.int .i64 od)).setCell ⟨w.heap.size + 1, 1, none⟩ (.slice B1 l1.length d1)).setCell ⟨w.heap.size + 1, 2, none⟩ (.slice B2 l2.length d2)).setCell ⟨w.heap.size + 1, 3, none⟩ (.slice B3 l3.length d3)) = W4 at *
  clear q0 q1 q2 q3 f0 f1 f2 f3
  go_wp2
  refine bodyPost_ret (v := .agg #[.int .i64 od, .slice B1 l1.length d1, .slice B2 l2.length d2, .slice B3 l3.length d3]) ?_ rfl ⟨⟨_, _, _, rfl, ownsRow_wide hU1 (by omega), ownsRow_wide hU2 (by omega), ownsRow_wide hU3 (by omega)⟩, hBf⟩
  simp [results, Try.f54, go_sem, p0, p1, p2, p3]

/-- a parcel as it is asked for -/
def pcl0 : Row := ⟨0, [], [], [], [], 0⟩
theorem PcAt.val {w : World} {base b mb : Nat} {X : Nat → Prop} {ds : List Row} (h : PcAt w base b mb X ds) (od : Int) {m : List (Int × Value)} (hR : Rel w (Fo b mb X ds) m ds) :
    (mGet m od).isSome = (findR ds od).isSome ∧ ∃ x0 A1 n1 c1 A2 n2 c2 A3 n3 c3 x4, (mGet m od).getD zrow = .agg #[.int .i64 x0, .slice A1 n1 c1, .slice A2 n2 c2, .slice A3 n3 c3, .map x4] := by
  cases hf : findR ds od with
  | none => exact ⟨by rw [hR.none hf]; rfl, 0, none, 0, 0, none, 0, 0, none, 0, 0, none, by rw [hR.none hf]; rfl⟩
  | some d =>
    obtain ⟨val, hg, v1, v2, v3, e, h1, h2, h3⟩ := hR.some hf
    obtain ⟨A1, c1, rfl, -⟩ := h1.items.form
    obtain ⟨A2, c2, rfl, -⟩ := h2.items.form
    obtain ⟨A3, c3, rfl, -⟩ := h3.items.form
    exact ⟨by rw [hg]; rfl, _, _, _, _, _, _, _, _, _, _, _, by rw [hg]; exact e⟩
theorem may_nil : may [] = true := by decide +kernel

set_option maxRecDepth 100000 in
set_option maxHeartbeats 4000000 in
theorem parcel_calls (od : Int) (base b mb : Nat) (X : Nat → Prop) (ds : List Row) (w : World) (h : PcAt w base b mb X ds) (h0 : -9223372036854775808 ≤ od) (h1 : od ≤ 9223372036854775807) :
    Calls Try.prog 34 #[.pointer (some ⟨b, 0, none⟩), .int .i64 od] w fun e w' =>
      (∃ u1 u2 u3, e = .returned (.tuple #[pclV ((findR ds od).getD pcl0).od u1 u2 u3, .bool (findR ds od).isSome]) ∧ w'.ownsRow w.heap.size 36 2 u1 ((findR ds od).getD pcl0).wa.length (itemCells ((findR ds od).getD pcl0).wa) ∧
        w'.ownsRow w.heap.size 36 2 u2 ((findR ds od).getD pcl0).sh.length (itemCells ((findR ds od).getD pcl0).sh) ∧ w'.ownsRow w.heap.size 36 2 u3 ((findR ds od).getD pcl0).ba.length (itemCells ((findR ds od).getD pcl0).ba)) ∧ Below w.heap.size w w' := by
  obtain ⟨m, hm, hR⟩ := h.map
  have g0 : w.cell? ⟨b, 0, none⟩ = some (.map (some mb)) := h.ob.cell (j := 0) rfl
  have hbl := h.ob.lt
  obtain ⟨hs, hv⟩ := h.val od hR
  have hal := (Below.refl w.heap.size w).alloc (Nat.le_refl _) (.cells #[.int .i64 0, .slice none 0 0, .slice none 0 0, .slice none 0 0] 70)
  have hO1 := Ob.new w 70 #[.int .i64 0, .slice none 0 0, .slice none 0 0, .slice none 0 0]
  have cR := Lib.hid (row_calls od [] (.slice none 0 0) b mb m ds (w.alloc (.cells #[.int .i64 0, .slice none 0 0, .slice none 0 0, .slice none 0 0] 70)) ((hal.cell (p := ⟨b, 0, none⟩) hbl).trans g0) (Nat.lt_of_lt_of_le hbl hal.size) (hm.below hal hm.lt) hs hv (ItemsAt.nil _ _ _) (fun x hx => by cases hx) h0 h1)
  have H := Lib.hid h
  have hcode : rowCode ds od [] = if (findR ds od).isSome then 0 else 4 := by unfold rowCode; rw [may_nil]; rfl
  have HRV := Lib.hid (show rowVal ds od [] m = if rowCode ds od [] = 0 then (mGet m od).getD zrow else zrow from rfl)
  rw [hcode] at cR HRV
  cases hf : findR ds od with
  | none =>
    rw [hf] at cR HRV
    have e : rowVal ds od [] m = zrow := by rw [HRV.out]; rfl
    rw [e] at cR
    simp only [Option.isSome_none, Bool.false_eq_true, if_false, Option.getD_none, pcl0, zrow] at cR ⊢
    clear hs hv hm hR hf HRV hcode e h
    go_enter Try.func34, Try.ntmps34
    go_wp2_with fail
    refine cR.out.mono ?_
    rintro e W ⟨rfl, hb1⟩
    replace hO1 := hO1.same hb1
    have hB := hal.trans (hb1.mono hal.size)
    obtain ⟨q0, q1, q2, q3⟩ := (hO1.alloc (.cells #[.int .i64 0, .slice none 0 0, .slice none 0 0, .slice none 0 0, .map none] 96)).four
    obtain ⟨f0, f1, f2, f3⟩ := (hO1.alloc (.cells #[.int .i64 0, .slice none 0 0, .slice none 0 0, .slice none 0 0, .map none] 96)).free4
    go_wp2
    have hO2 := (hO1.alloc (.cells #[.int .i64 0, .slice none 0 0, .slice none 0 0, .slice none 0 0, .map none] 96)).set4 (.int .i64 0) (.slice none 0 0) (.slice none 0 0) (.slice none 0 0)
    obtain ⟨p0, p1, p2, p3⟩ := hO2.four
    have hB2 := (hB.alloc hB.size (.cells #[.int .i64 0, .slice none 0 0, .slice none 0 0, .slice none 0 0, .map none] 96)).grown (grown_set4 _ w.heap.size (.int .i64 0) (.slice none 0 0) (.slice none 0 0) (.slice none 0 0)) (by have := hB.size; simp; omega) (fun g e => by have := Option.some.inj e; omega)
    refine bodyPost_ret (v := .tuple #[.agg #[.int .i64 0, .slice none 0 0, .slice none 0 0, .slice none 0 0], .bool false]) ?_ rfl ⟨⟨.slice none 0 0, .slice none 0 0, .slice none 0 0, rfl, World.ownsRow_nil _ _ _ _, World.ownsRow_nil _ _ _ _, World.ownsRow_nil _ _ _ _⟩, hB2⟩
    simp [results, Try.f34, go_sem, p0, p1, p2, p3]
  | some d =>
    obtain ⟨val, hg, v1, v2, v3, ev, i1, i2, i3⟩ := hR.some hf
    have hd := H.out.ok d (findR_mem hf).1
    have e : rowVal ds od [] m = rowV d v1 v2 v3 := by rw [HRV.out, hf, hg, ← ev]; rfl
    rw [hf, e] at cR
    simp only [Option.isSome_some, if_true, Option.getD_some] at cR ⊢
    have cC := Lib.hid (fun W (hb : Below w.heap.size w W) => copied_calls d.od d.wa d.sh d.ba v1 v2 v3 W (i1.items.mono hb hb.size) (i2.items.mono hb hb.size) (i3.items.mono hb hb.size) (by have := hd.wa.len; omega) (by have := hd.sh.len; omega) (by have := hd.ba.len; omega))
    obtain ⟨A1, c1, rfl, -⟩ := i1.items.form
    obtain ⟨A2, c2, rfl, -⟩ := i2.items.form
    obtain ⟨A3, c3, rfl, -⟩ := i3.items.form
    simp only [rowV] at cR
    simp only [pclV] at cC ⊢
    clear hs hv hm hR hf HRV hcode e h hd hg ev i1 i2 i3
    go_enter Try.func34, Try.ntmps34
    go_wp2_with fail
    refine cR.out.mono ?_
    rintro e W ⟨rfl, hb1⟩
    replace hO1 := (hO1.same hb1).alloc (.cells #[.int .i64 d.od, .slice A1 d.wa.length c1, .slice A2 d.sh.length c2, .slice A3 d.ba.length c3, .map (some d.fb)] 96)
    have hB := (hal.trans (hb1.mono hal.size)).alloc (by have := hb1.size; have := hal.size; omega) (.cells #[.int .i64 d.od, .slice A1 d.wa.length c1, .slice A2 d.sh.length c2, .slice A3 d.ba.length c3, .map (some d.fb)] 96)
    have hO2 := Ob.new W 96 #[.int .i64 d.od, .slice A1 d.wa.length c1, .slice A2 d.sh.length c2, .slice A3 d.ba.length c3, .map (some d.fb)]
    have cC2 := Lib.hid (cC.out _ hB)
    clear hal hb1 cC cR
    obtain ⟨q0, q1, q2, q3, q4⟩ := hO2.five
    go_wp2_with fail
    refine cC2.out.mono ?_
    rintro e W2 ⟨⟨u1, u2, u3, rfl, o1, o2, o3⟩, hb2⟩
    have hB2 := hB.trans (hb2.mono hB.size)
    obtain ⟨B1, d1, rfl, -⟩ := (ItemsAt.of_own o1).form
    obtain ⟨B2, d2, rfl, -⟩ := (ItemsAt.of_own o2).form
    obtain ⟨B3, d3, rfl, -⟩ := (ItemsAt.of_own o3).form
    have O1 := Lib.hid o1
    have O2 := Lib.hid o2
    have O3 := Lib.hid o3
    clear q0 q1 q2 q3 q4 o1 o2 o3
    have hO3 := hO1.same hb2
    obtain ⟨q0, q1, q2, q3⟩ := hO3.four
    obtain ⟨f0, f1, f2, f3⟩ := hO3.free4
    have hl1 := hO1.lt
    have hz := hB.size
    clear hO2 hO1 hb2
    go_wp2
    have hO4 := hO3.set4 (.int .i64 d.od) (.slice B1 d.wa.length d1) (.slice B2 d.sh.length d2) (.slice B3 d.ba.length d3)
    have hg4 := grown_set4 W2 w.heap.size (.int .i64 d.od) (.slice B1 d.wa.length d1) (.slice B2 d.sh.length d2) (.slice B3 d.ba.length d3)
    obtain ⟨p0, p1, p2, p3⟩ := hO4.four
    have hB3 := hB2.grown hg4 (by have := hB2.size; omega) (fun g e => by have := Option.some.inj e; omega)
    refine bodyPost_ret (v := .tuple #[.agg #[.int .i64 d.od, .slice B1 d.wa.length d1, .slice B2 d.sh.length d2, .slice B3 d.ba.length d3], .bool true]) ?_ rfl ⟨⟨_, _, _, rfl, ownsRow_wide (ownsRow_far O1.out hg4 (by omega)) (by omega), ownsRow_wide (ownsRow_far O2.out hg4 (by omega)) (by omega), ownsRow_wide (ownsRow_far O3.out hg4 (by omega)) (by omega)⟩, hB3⟩
    simp [results, Try.f34, go_sem, p0, p1, p2, p3]
end Pc
end Go.Proofs.Ytdbkkldgobkjcaa
