/-
  parcels: Back, Undo.
  parcels: what lives says.
  parcels: the document's parcels in memory; Find.
  the document's answers on items: put.
-/
import Derived.Test.YtdbkkldgobkjcaaGreatMz14
import Derived.Test.YtdbkkldgobkjcaaGreatMz4
import Derived.Deep.AppendLies
import Derived.Test.YtdbkkldgobkjcaaGreatMz9
import Derived.Laws.OwnMore

set_option linter.unusedVariables false
set_option linter.unusedSimpArgs false
namespace Go.Proofs.YtdbkkldgobkjcaaGreat
open Go.RowKit Go.Maps
namespace Pc
open It Mv

theorem back_ok {d : Row} (hd : OkR d) {l : List It.Item} (hM : M l) (h : (withinOf d.sh d.ba l).2 = 0) : OkR { d with ba := (withinOf d.sh d.ba l).1 } := by
  obtain ⟨h1, h2, -, -⟩ := within_ok hd.ba hM h
  exact ⟨hd.od, hd.wa, hd.some, hd.sh, h1, hd.cs, h2, hd.fr⟩
theorem undo_ok {d : Row} (hd : OkR d) {l : List It.Item} (hM : M l) (h : (minusOf d.ba l).2 = 0) : OkR { d with ba := (minusOf d.ba l).1 } := by
  obtain ⟨h1, h2⟩ := minus_ok hd.ba hM h
  exact ⟨hd.od, hd.wa, hd.some, hd.sh, h1, hd.cs, order_trans hd.sh hd.ba h1 hd.cb h2, hd.fr⟩

set_option maxRecDepth 100000 in
set_option maxHeartbeats 8000000 in
theorem back_calls (od : Int) (l : List It.Item) (lv : Value) (base b mb : Nat) (X : Nat → Prop) (ds : List Row) (w : World) (h : PcAt w base b mb X ds) (hI : ItemsAt w 0 w.heap.size lv l) (hF : Fits l) (h0 : -9223372036854775808 ≤ od) (h1 : od ≤ 9223372036854775807) :
    Calls Tryz.prog 13 #[.pointer (some ⟨b, 0, none⟩), .int .i64 od, lv] w fun e w' => e = .returned (.int .i64 (backOf ds od l).2) ∧ PcAt w' base b mb X (backOf ds od l).1 ∧ Other mb ds w w' := by
  obtain ⟨m, hm, hR⟩ := h.map
  have g0 : w.cell? ⟨b, 0, none⟩ = some (.map (some mb)) := h.ob.cell (j := 0) rfl
  have hmb := hm.lt
  have hbl := h.ob.lt
  obtain ⟨hs, hv⟩ := h.val od hR
  have cR := row_calls od l lv b mb m ds w g0 hbl hm hs hv hI hF h0 h1
  have HM := Lib.hid hm
  have HR := Lib.hid hR
  have H := Lib.hid h
  have HI := Lib.hid hI
  have HS1 := Lib.hid (show backOf ds od l = match findR ds od with
    | none => (ds, 4)
    | some d => if may l = false then (ds, 60) else if (withinOf d.sh d.ba l).2 = 0 then (putR ds { d with ba := (withinOf d.sh d.ba l).1 }, 0) else (ds, (withinOf d.sh d.ba l).2) from rfl)
  obtain ⟨Al, cl, rfl, -⟩ := hI.form
  generalize backOf ds od l = R at *
  have CR := Lib.hid cR
  clear hm hR h hI hs hv cR
  by_cases hrc : rowCode ds od l = 0
  · obtain ⟨d, hf, hml⟩ : ∃ d, findR ds od = some d ∧ may l = true := by
      unfold rowCode at hrc
      cases hf : findR ds od with
      | none => rw [hf] at hrc; simp at hrc
      | some d =>
        rw [hf] at hrc
        cases hml : may l with
        | false => rw [hml] at hrc; simp at hrc
        | true => exact ⟨d, rfl, rfl⟩
    obtain ⟨hmem, hdod⟩ := findR_mem hf
    have hd := H.out.ok d hmem
    obtain ⟨val, hg, v1, v2, v3, ev, i1, i2, i3⟩ := HR.out.some hf
    have e : rowVal ds od l m = rowV d v1 v2 v3 := by unfold rowVal; rw [if_pos hrc, hg, ← ev]; rfl
    have cR := CR.out
    rw [hrc, e] at cR
    have hS1 := HS1.out
    rw [hf] at hS1
    dsimp only at hS1
    rw [hml, if_neg (by simp)] at hS1
    have I1 := Lib.hid i1
    have I2 := Lib.hid i2
    have I3 := Lib.hid i3
    obtain ⟨A1, c1, rfl, -⟩ := i1.items.form
    obtain ⟨A2, c2, rfl, -⟩ := i2.items.form
    obtain ⟨A3, c3, rfl, -⟩ := i3.items.form
    simp only [rowV] at cR
    have CR2 := Lib.hid cR
    have HS3 := Lib.hid hS1
    have HF := Lib.hid (H.out.frm d hmem)
    have HD := Lib.hid hd
    have HFL := Lib.hid (H.out.frm d hmem).lt
    have HE := Lib.hid (And.intro hf (And.intro hml (And.intro hmem hdod)))
    clear CR HS1 hrc hg ev i1 i2 i3 e cR hS1 hd hf hml hmem hdod
    have cW := Lib.hid (fun W (hb : Below w.heap.size w W) => within_calls d.sh d.ba l _ _ _ W (I2.out.items.mono hb hb.size) (I3.out.items.mono hb hb.size) (HI.out.mono hb hb.size) (fits_of HD.out.sh) (fits_of HD.out.ba) hF plus_fits)
    go_enter Tryz.func13, Tryz.ntmps13
    go_wp2_with fail
    refine CR2.out.mono ?_
    rintro e W ⟨rfl, hb1⟩
    have hb2 := hb1.alloc hb1.size (.cells #[.int .i64 d.od, .slice A1 d.wa.length c1, .slice A2 d.sh.length c2, .slice A3 d.ba.length c3, .map (some d.fb)] 87)
    have hO := Ob.new W 87 #[.int .i64 d.od, .slice A1 d.wa.length c1, .slice A2 d.sh.length c2, .slice A3 d.ba.length c3, .map (some d.fb)]
    have cW2 := Lib.hid (cW.out _ hb2)
    have HW1 := Lib.hid hb1.size
    clear cW CR2
    by_cases hwc : (withinOf d.sh d.ba l).2 = 0
    · obtain rfl : R = (putR ds { d with ba := (withinOf d.sh d.ba l).1 }, 0) := by rw [HS3.out, if_pos hwc]
      have HOK := Lib.hid (back_ok HD.out ((may_iff l).1 HE.out.2.1) hwc)
      generalize hRW : withinOf d.sh d.ba l = RW at cW2 hwc
      obtain ⟨sl, sc⟩ := RW
      dsimp only at cW2 hwc
      subst hwc
      have HRW := Lib.hid hRW
      clear hRW
      go_wp2_with fail
      refine cW2.out.mono ?_
      rintro e W2 ⟨⟨vs, rfl, hvs⟩, hb3⟩
      have HVS := Lib.hid (LiAt.of_own (F := fun i => W.heap.size + 1 ≤ i) hvs (fun i hi _ => by simpa using hi))
      obtain ⟨As, cs, rfl, -⟩ := (ItemsAt.of_own hvs).form
      have hb4 := hb2.trans (hb3.mono hb2.size)
      have hO2 := hO.same hb3
      have hO3 := hO2.set 3 (.slice As sl.length cs)
      have hg3 := grownBy_set W2 W.heap.size 3 (.slice As sl.length cs)
      have hw1 := HW1.out
      have hb5 := hb4.grown hg3 hb4.size (fun g e => by cases e; exact hw1)
      have HB5 := Lib.hid hb5
      have HG3 := Lib.hid hg3
      have HF4 := Lib.hid (HF.out.below hb5 HFL.out)
      have hfl2 := HFL.out
      obtain ⟨q0, q1, q2, q3, q4⟩ := hO2.five
      have f3 := hO2.frozen 3
      clear hvs hb1 hb2 hb3 hb4 hb5 hg3 hO
      go_wp2_with fail
      generalize hW4 : W2.setCell ⟨W.heap.size, 3, none⟩ (.slice As sl.length cs) = W4 at *
      clear hW4
      have hdn : W4.grownBy W4.drew none := only_of_below (Below.refl _ W4).drew none
      have gbd : W4.drew.cell? ⟨b, 0, none⟩ = some (.map (some mb)) := (HB5.out.cell (p := ⟨b, 0, none⟩) hbl).trans g0
      have hOd := hO3.kept hdn (by simp)
      have hMd := Lib.hid ((HM.out.below HB5.out hmb).kept hdn (by simp))
      have hm40 := H.out.short HM.out HR.out
      have hkey := Lib.hid (keyI h0 h1)
      clear q0 q1 q2 q3 q4 f3 hO2 hO3
      refine Pu.regionM [(0, false), (1, false), (2, false), (3, false), (4, false), (5, false), (6, true)] (fun V => Ob V W.heap.size 87 #[.int .i64 d.od, .slice A1 d.wa.length c1, .slice A2 d.sh.length c2, .slice As sl.length cs, .map (some d.fb)] ∧ V.cell? ⟨b, 0, none⟩ = some (.map (some mb))) hmx (by kernel_rfl) (by kernel_rfl) (by kernel_rfl) ⟨hOd, gbd⟩ rfl ?_
      simp only [Pu.named, List.filterMap_cons, List.filterMap_nil, List.getElem?_toArray, List.getElem?_cons_succ, List.getElem?_cons_zero, Option.map_some]
      iterate 6 (apply Pu.WalkM.on (by rfl)
                 · rintro V ⟨hOW, gW⟩
                   obtain ⟨q0, q1, q2, q3, q4⟩ := hOW.five
                   go_wp2_with fail
                   refine ⟨rfl, ?_, rfl⟩
                   try simp only [Act.put, List.setIfInBounds_toArray, List.set_cons_succ, List.set_cons_zero]
                   rfl
                 simp only [Act.put, List.setIfInBounds_toArray, List.set_cons_succ, List.set_cons_zero])
      refine Pu.WalkM.make (by rfl) ?_
      rintro V rfl
      refine wpList_put_g rfl (.tmp 39) (.tmp 40) (.tmp 41) _ rfl 3 _ keyedI Tryz.underlying78 rfl hMd.out (by unfold maxLen; omega) _ (.agg #[.int .i64 d.od, .slice A1 d.wa.length c1, .slice A2 d.sh.length c2, .slice As sl.length cs, .map (some d.fb)]) _ rfl rfl hkey.out ?_
      intro W5 hM5 hg5
      refine ⟨rfl, undef, (fun _ => True), (fun V => V = W5), rfl, rfl, (fun _ _ => trivial), (.inl (by kernel_rfl)), Pu.WalkM.nil ?_⟩
      rintro V rfl
      simp only [Act.put]
      have hk4 : Kept (fun i => i < w.heap.size ∧ i ≠ d.fb) w W4.drew := (Kept.of_below HB5.out.drew fun _ hi => hi.1)
      have hks : Kept (fun i => i < W2.heap.size ∧ W.heap.size + 1 ≤ i) W2 W4.drew := (Kept.of_grown HG3.out fun i hi => ⟨hi.1, fun e => by have := Option.some.inj e; omega⟩).trans (Kept.of_below (Below.refl W4.heap.size W4).drew fun i hi => Nat.lt_of_lt_of_le hi.1 HG3.out.size)
      rw [show od = d.od from HE.out.2.2.2.symm] at hM5
      obtain ⟨f1, f2⟩ := set_fin (d := { d with ba := sl }) H.out HR.out HE.out.2.2.1 rfl rfl (fun x hx e => uniq H.out HM.out HR.out HE.out.2.2.1 hx e) hk4 (by have := HOK.out; rw [HRW.out] at this; exact this)
        ⟨_, _, _, rfl, I1.out.keep hk4 (fun i hi hf => ⟨⟨hi, hf.2.2.2 d HE.out.2.2.1⟩, .inl ⟨hi, hf⟩⟩), I2.out.keep hk4 (fun i hi hf => ⟨⟨hi, hf.2.2.2 d HE.out.2.2.1⟩, .inl ⟨hi, hf⟩⟩), HVS.out.keep hks (fun i hi hf => ⟨⟨hi, hf⟩, .inr (by omega)⟩)⟩ (HF4.out.kept hdn (by simp)) hM5 hg5
      have F1 := Lib.hid f1
      have F2 := Lib.hid f2
      clear f1 f2 hM5 hg5
      go_wp2
      go_ret
      exact ⟨rfl, by rw [HRW.out]; exact F1.out, F2.out⟩
    · have hwb : ((withinOf d.sh d.ba l).2 == 0) = false := by simpa using hwc
      obtain rfl : R = (ds, (withinOf d.sh d.ba l).2) := by rw [HS3.out, if_neg hwc]
      generalize hRW : withinOf d.sh d.ba l = RW at cW2 hwb
      have HRW := Lib.hid hRW
      clear hRW
      go_wp2_with fail
      refine cW2.out.mono ?_
      rintro e W2 ⟨⟨v, rfl, hv⟩, hb3⟩
      have hb4 := hb2.trans (hb3.mono hb2.size)
      go_wp2
      go_ret
      exact ⟨by rw [HRW.out]; rfl, H.out.same hb4, Other.of_below hb4⟩
  · have hRc : R = (ds, rowCode ds od l) := by
      rw [HS1.out]
      unfold rowCode
      cases hf : findR ds od with
      | none => rfl
      | some d =>
        cases hml : may l with
        | false => rfl
        | true => unfold rowCode at hrc; rw [hf, hml] at hrc; simp at hrc
    subst hRc
    have hrb : (rowCode ds od l != 0) = true := by simpa using hrc
    have cR := CR.out
    rw [rowVal_not hrc] at cR
    simp only [zrow] at cR
    have CR2 := Lib.hid cR
    generalize rowCode ds od l = RC at *
    clear cR CR HS1 hrc
    go_enter Tryz.func13, Tryz.ntmps13
    go_wp2_with fail
    refine CR2.out.mono ?_
    rintro e W ⟨rfl, hb1⟩
    have hb2 := hb1.alloc hb1.size (.cells #[.int .i64 0, .slice none 0 0, .slice none 0 0, .slice none 0 0, .map none] 87)
    go_wp2
    go_ret
    exact ⟨rfl, H.out.same hb2, Other.of_below hb2⟩

set_option maxRecDepth 100000 in
set_option maxHeartbeats 8000000 in
theorem undo_calls (od : Int) (l : List It.Item) (lv : Value) (base b mb : Nat) (X : Nat → Prop) (ds : List Row) (w : World) (h : PcAt w base b mb X ds) (hI : ItemsAt w 0 w.heap.size lv l) (hF : Fits l) (h0 : -9223372036854775808 ≤ od) (h1 : od ≤ 9223372036854775807) :
    Calls Tryz.prog 15 #[.pointer (some ⟨b, 0, none⟩), .int .i64 od, lv] w fun e w' => e = .returned (.int .i64 (undoOf ds od l).2) ∧ PcAt w' base b mb X (undoOf ds od l).1 ∧ Other mb ds w w' := by
  obtain ⟨m, hm, hR⟩ := h.map
  have g0 : w.cell? ⟨b, 0, none⟩ = some (.map (some mb)) := h.ob.cell (j := 0) rfl
  have hmb := hm.lt
  have hbl := h.ob.lt
  obtain ⟨hs, hv⟩ := h.val od hR
  have cR := row_calls od l lv b mb m ds w g0 hbl hm hs hv hI hF h0 h1
  have HM := Lib.hid hm
  have HR := Lib.hid hR
  have H := Lib.hid h
  have HI := Lib.hid hI
  have HS1 := Lib.hid (show undoOf ds od l = match findR ds od with
    | none => (ds, 4)
    | some d => if may l = false then (ds, 60) else if (minusOf d.ba l).2 = 0 then (putR ds { d with ba := (minusOf d.ba l).1 }, 0) else (ds, (minusOf d.ba l).2) from rfl)
  obtain ⟨Al, cl, rfl, -⟩ := hI.form
  generalize undoOf ds od l = R at *
  have CR := Lib.hid cR
  clear hm hR h hI hs hv cR
  by_cases hrc : rowCode ds od l = 0
  · obtain ⟨d, hf, hml⟩ : ∃ d, findR ds od = some d ∧ may l = true := by
      unfold rowCode at hrc
      cases hf : findR ds od with
      | none => rw [hf] at hrc; simp at hrc
      | some d =>
        rw [hf] at hrc
        cases hml : may l with
        | false => rw [hml] at hrc; simp at hrc
        | true => exact ⟨d, rfl, rfl⟩
    obtain ⟨hmem, hdod⟩ := findR_mem hf
    have hd := H.out.ok d hmem
    obtain ⟨val, hg, v1, v2, v3, ev, i1, i2, i3⟩ := HR.out.some hf
    have e : rowVal ds od l m = rowV d v1 v2 v3 := by unfold rowVal; rw [if_pos hrc, hg, ← ev]; rfl
    have cR := CR.out
    rw [hrc, e] at cR
    have hS1 := HS1.out
    rw [hf] at hS1
    dsimp only at hS1
    rw [hml, if_neg (by simp)] at hS1
    have I1 := Lib.hid i1
    have I2 := Lib.hid i2
    have I3 := Lib.hid i3
    obtain ⟨A1, c1, rfl, -⟩ := i1.items.form
    obtain ⟨A2, c2, rfl, -⟩ := i2.items.form
    obtain ⟨A3, c3, rfl, -⟩ := i3.items.form
    simp only [rowV] at cR
    have CR2 := Lib.hid cR
    have HS3 := Lib.hid hS1
    have HF := Lib.hid (H.out.frm d hmem)
    have HD := Lib.hid hd
    have HFL := Lib.hid (H.out.frm d hmem).lt
    have HE := Lib.hid (And.intro hf (And.intro hml (And.intro hmem hdod)))
    clear CR HS1 hrc hg ev i1 i2 i3 e cR hS1 hd hf hml hmem hdod
    have cW := Lib.hid (fun W (hb : Below w.heap.size w W) => minus_calls d.ba l _ _ W (I3.out.items.mono hb hb.size) (HI.out.mono hb hb.size) (fits_of HD.out.ba) hF)
    go_enter Tryz.func15, Tryz.ntmps15
    go_wp2_with fail
    refine CR2.out.mono ?_
    rintro e W ⟨rfl, hb1⟩
    have hb2 := hb1.alloc hb1.size (.cells #[.int .i64 d.od, .slice A1 d.wa.length c1, .slice A2 d.sh.length c2, .slice A3 d.ba.length c3, .map (some d.fb)] 87)
    have hO := Ob.new W 87 #[.int .i64 d.od, .slice A1 d.wa.length c1, .slice A2 d.sh.length c2, .slice A3 d.ba.length c3, .map (some d.fb)]
    have cW2 := Lib.hid (cW.out _ hb2)
    have HW1 := Lib.hid hb1.size
    clear cW CR2
    by_cases hwc : (minusOf d.ba l).2 = 0
    · obtain rfl : R = (putR ds { d with ba := (minusOf d.ba l).1 }, 0) := by rw [HS3.out, if_pos hwc]
      have HOK := Lib.hid (undo_ok HD.out ((may_iff l).1 HE.out.2.1) hwc)
      generalize hRW : minusOf d.ba l = RW at cW2 hwc
      obtain ⟨sl, sc⟩ := RW
      dsimp only at cW2 hwc
      subst hwc
      have HRW := Lib.hid hRW
      clear hRW
      go_wp2_with fail
      refine cW2.out.mono ?_
      rintro e W2 ⟨⟨vs, rfl, hvs⟩, hb3⟩
      have HVS := Lib.hid (LiAt.of_own (F := fun i => W.heap.size + 1 ≤ i) hvs (fun i hi _ => by simpa using hi))
      obtain ⟨As, cs, rfl, -⟩ := (ItemsAt.of_own hvs).form
      have hb4 := hb2.trans (hb3.mono hb2.size)
      have hO2 := hO.same hb3
      have hO3 := hO2.set 3 (.slice As sl.length cs)
      have hg3 := grownBy_set W2 W.heap.size 3 (.slice As sl.length cs)
      have hw1 := HW1.out
      have hb5 := hb4.grown hg3 hb4.size (fun g e => by cases e; exact hw1)
      have HB5 := Lib.hid hb5
      have HG3 := Lib.hid hg3
      have HF4 := Lib.hid (HF.out.below hb5 HFL.out)
      have hfl2 := HFL.out
      obtain ⟨q0, q1, q2, q3, q4⟩ := hO2.five
      have f3 := hO2.frozen 3
      clear hvs hb1 hb2 hb3 hb4 hb5 hg3 hO
      go_wp2_with fail
      generalize hW4 : W2.setCell ⟨W.heap.size, 3, none⟩ (.slice As sl.length cs) = W4 at *
      clear hW4
      have hdn : W4.grownBy W4.drew none := only_of_below (Below.refl _ W4).drew none
      have gbd : W4.drew.cell? ⟨b, 0, none⟩ = some (.map (some mb)) := (HB5.out.cell (p := ⟨b, 0, none⟩) hbl).trans g0
      have hOd := hO3.kept hdn (by simp)
      have hMd := Lib.hid ((HM.out.below HB5.out hmb).kept hdn (by simp))
      have hm40 := H.out.short HM.out HR.out
      have hkey := Lib.hid (keyI h0 h1)
      clear q0 q1 q2 q3 q4 f3 hO2 hO3
      refine Pu.regionM [(0, false), (1, false), (2, false), (3, false), (4, false), (5, false), (6, true)] (fun V => Ob V W.heap.size 87 #[.int .i64 d.od, .slice A1 d.wa.length c1, .slice A2 d.sh.length c2, .slice As sl.length cs, .map (some d.fb)] ∧ V.cell? ⟨b, 0, none⟩ = some (.map (some mb))) hmx (by kernel_rfl) (by kernel_rfl) (by kernel_rfl) ⟨hOd, gbd⟩ rfl ?_
      simp only [Pu.named, List.filterMap_cons, List.filterMap_nil, List.getElem?_toArray, List.getElem?_cons_succ, List.getElem?_cons_zero, Option.map_some]
      iterate 6 (apply Pu.WalkM.on (by rfl)
                 · rintro V ⟨hOW, gW⟩
                   obtain ⟨q0, q1, q2, q3, q4⟩ := hOW.five
                   go_wp2_with fail
                   refine ⟨rfl, ?_, rfl⟩
                   try simp only [Act.put, List.setIfInBounds_toArray, List.set_cons_succ, List.set_cons_zero]
                   rfl
                 simp only [Act.put, List.setIfInBounds_toArray, List.set_cons_succ, List.set_cons_zero])
      refine Pu.WalkM.make (by rfl) ?_
      rintro V rfl
      refine wpList_put_g rfl (.tmp 36) (.tmp 37) (.tmp 38) _ rfl 3 _ keyedI Tryz.underlying78 rfl hMd.out (by unfold maxLen; omega) _ (.agg #[.int .i64 d.od, .slice A1 d.wa.length c1, .slice A2 d.sh.length c2, .slice As sl.length cs, .map (some d.fb)]) _ rfl rfl hkey.out ?_
      intro W5 hM5 hg5
      refine ⟨rfl, undef, (fun _ => True), (fun V => V = W5), rfl, rfl, (fun _ _ => trivial), (.inl (by kernel_rfl)), Pu.WalkM.nil ?_⟩
      rintro V rfl
      simp only [Act.put]
      have hk4 : Kept (fun i => i < w.heap.size ∧ i ≠ d.fb) w W4.drew := (Kept.of_below HB5.out.drew fun _ hi => hi.1)
      have hks : Kept (fun i => i < W2.heap.size ∧ W.heap.size + 1 ≤ i) W2 W4.drew := (Kept.of_grown HG3.out fun i hi => ⟨hi.1, fun e => by have := Option.some.inj e; omega⟩).trans (Kept.of_below (Below.refl W4.heap.size W4).drew fun i hi => Nat.lt_of_lt_of_le hi.1 HG3.out.size)
      rw [show od = d.od from HE.out.2.2.2.symm] at hM5
      obtain ⟨f1, f2⟩ := set_fin (d := { d with ba := sl }) H.out HR.out HE.out.2.2.1 rfl rfl (fun x hx e => uniq H.out HM.out HR.out HE.out.2.2.1 hx e) hk4 (by have := HOK.out; rw [HRW.out] at this; exact this)
        ⟨_, _, _, rfl, I1.out.keep hk4 (fun i hi hf => ⟨⟨hi, hf.2.2.2 d HE.out.2.2.1⟩, .inl ⟨hi, hf⟩⟩), I2.out.keep hk4 (fun i hi hf => ⟨⟨hi, hf.2.2.2 d HE.out.2.2.1⟩, .inl ⟨hi, hf⟩⟩), HVS.out.keep hks (fun i hi hf => ⟨⟨hi, hf⟩, .inr (by omega)⟩)⟩ (HF4.out.kept hdn (by simp)) hM5 hg5
      have F1 := Lib.hid f1
      have F2 := Lib.hid f2
      clear f1 f2 hM5 hg5
      go_wp2
      go_ret
      exact ⟨rfl, by rw [HRW.out]; exact F1.out, F2.out⟩
    · have hwb : ((minusOf d.ba l).2 == 0) = false := by simpa using hwc
      obtain rfl : R = (ds, (minusOf d.ba l).2) := by rw [HS3.out, if_neg hwc]
      generalize hRW : minusOf d.ba l = RW at cW2 hwb
      have HRW := Lib.hid hRW
      clear hRW
      go_wp2_with fail
      refine cW2.out.mono ?_
      rintro e W2 ⟨⟨v, rfl, hv⟩, hb3⟩
      have hb4 := hb2.trans (hb3.mono hb2.size)
      go_wp2
      go_ret
      exact ⟨by rw [HRW.out]; rfl, H.out.same hb4, Other.of_below hb4⟩
  · have hRc : R = (ds, rowCode ds od l) := by
      rw [HS1.out]
      unfold rowCode
      cases hf : findR ds od with
      | none => rfl
      | some d =>
        cases hml : may l with
        | false => rfl
        | true => unfold rowCode at hrc; rw [hf, hml] at hrc; simp at hrc
    subst hRc
    have hrb : (rowCode ds od l != 0) = true := by simpa using hrc
    have cR := CR.out
    rw [rowVal_not hrc] at cR
    simp only [zrow] at cR
    have CR2 := Lib.hid cR
    generalize rowCode ds od l = RC at *
    clear cR CR HS1 hrc
    go_enter Tryz.func15, Tryz.ntmps15
    go_wp2_with fail
    refine CR2.out.mono ?_
    rintro e W ⟨rfl, hb1⟩
    have hb2 := hb1.alloc hb1.size (.cells #[.int .i64 0, .slice none 0 0, .slice none 0 0, .slice none 0 0, .map none] 87)
    go_wp2
    go_ret
    exact ⟨rfl, H.out.same hb2, Other.of_below hb2⟩
end Pc
end Go.Proofs.YtdbkkldgobkjcaaGreat

namespace Go.Proofs.YtdbkkldgobkjcaaGreat
open Go.RowKit Go.Maps
namespace Pc
open It Mv

/-- Parcels.All: the receiver is boxed, the function value captures the box -/
theorem all_calls (p : Option Addr) (w : World) :
    Calls Tryz.prog 41 #[.pointer p] w fun e w' => e = .returned (.func (.func 85) #[] #[.pointer (some ⟨w.heap.size, 0, none⟩)]) ∧ w.alloc (.cells #[.pointer p] 23) = w' := by
  go_enter Tryz.func41, Tryz.ntmps41
  go_wp2
  go_ret
  exact ⟨rfl, rfl⟩
def la3 : List It.Item := [(sa, 3)]
theorem fits3 : Fits la3 := by
  intro x hx
  simp only [la3, List.mem_cons, List.not_mem_nil, or_false] at hx
  subst hx
  exact ⟨by decide, by decide, by decide⟩
def r1 (fb : Nat) : Row := ⟨1, la5, [], [], [], fb⟩
def r2 (fb : Nat) : Row := ⟨1, la5, la3, [], [(0, .bool true)], fb⟩
theorem l_open (fb : Nat) : openOf [] 1 la5 fb = ([r1 fb], 0) := by kernel_rfl
theorem l_ship (fb : Nat) : shipOf [r1 fb] 1 0 la3 = ([r2 fb], 0) := by kernel_rfl
theorem l_ship2 (fb : Nat) : shipOf [r2 fb] 1 1 la3 = ([r2 fb], 50) := by kernel_rfl
theorem l_find (fb : Nat) : findR [r2 fb] 1 = some (r2 fb) := by kernel_rfl
theorem l_left (fb : Nat) : leftOf [r2 fb] 1 = la3 := by kernel_rfl
theorem eql_nilP (b : Nat) (w : World) : (binOp .eql 82 (.func (.func 85) #[] #[.pointer (some ⟨b, 0, none⟩)]) .nilFunc).run Tryz.prog w = .ok (.bool false) w := by kernel_rfl

/-- a literal list of one item -/
theorem lit1 (w : World) (n : Int) (k : Nat) (hk : w.heap.size = k) : ItemsAt (w.alloc (.cells #[.string ⟨#[97]⟩, .int .i64 n] 37)) 0 (w.alloc (.cells #[.string ⟨#[97]⟩, .int .i64 n] 37)).heap.size (.slice (some ⟨k, 0, none⟩) 1 1) [(sa, n)] := by
  subst hk
  have h2 : ItemsAt (w.alloc (.cells #[.string ⟨#[97]⟩, .int .i64 n] 37)) w.heap.size (w.heap.size + 1) (.slice (some ⟨w.heap.size, 0, none⟩) 1 1) [(sa, n)] := Sl.new w #[.string ⟨#[97]⟩, .int .i64 n] 37 (n := 1) rfl (by unfold maxLen; omega)
  exact h2.wide (Nat.zero_le _) (by simp)

set_option maxRecDepth 100000 in
set_option maxHeartbeats 4000000 in
theorem lives_calls (w : World) : Calls Tryz.prog 8 #[] w fun e w' => e = .returned (.bool true) ∧ Below w.heap.size w w' := by
  have hen := eql_nilP
  have cA := Lib.hid (fun b W => all_calls (some ⟨b, 0, none⟩) W)
  go_enter Tryz.func8, Tryz.ntmps8
  go_wp2_with fail
  refine (new_calls w).mono ?_
  rintro e w1 ⟨⟨b, mb, rfl, hM⟩, h1⟩
  replace hM := hM (fun _ => False) (fun _ h => h.elim)
  go_wp2_with fail
  refine (cA.out _ _).mono ?_
  rintro e w2 ⟨rfl, rfl⟩
  have hal := (Below.refl w1.heap.size w1).alloc (Nat.le_refl _) (.cells #[.pointer (some ⟨b, 0, none⟩)] 23)
  have hal2 := hal.alloc hal.size (.cells #[.string ⟨#[97]⟩, .int .i64 5] 37)
  have hM2 := hM.same hal2
  have hB2 := h1.trans (hal2.mono h1.size)
  have hL2 := lit1 (w1.alloc (.cells #[.pointer (some ⟨b, 0, none⟩)] 23)) 5 (w1.heap.size + 1) (by simp)
  go_wp2_with fail
  refine (open_calls 1 la5 _ w.heap.size b mb _ [] _ hM2 hL2 fits5 (by omega) (by omega) hB2.size).mono ?_
  clear hM hal hal2 hL2 h1
  rintro e w3 ⟨⟨fb, rfl, hM3, -⟩, ho3⟩
  rw [l_open] at hM3 ⊢
  have hB3 := ho3.below hM2 (Nat.le_refl _) hB2 (Nat.le_refl _)
  have hal := (Below.refl w3.heap.size w3).alloc (Nat.le_refl _) (.cells #[.string ⟨#[97]⟩, .int .i64 3] 37)
  have hM4 := hM3.same hal
  have hB4 := hB3.trans (hal.mono hB3.size)
  have hL4 := lit1 w3 3 _ rfl
  clear hM2 hB2 ho3
  go_wp2_with fail
  refine (ship_calls 1 0 la3 _ w.heap.size b mb _ _ _ hM4 hL4 fits3 (by omega) (by omega)).mono ?_
  clear hM3 hB3 hal hL4
  rintro e w5 ⟨rfl, hM5, ho5⟩
  rw [l_ship] at hM5 ⊢
  have hB5 := ho5.below hM4 (Nat.le_refl _) hB4 (Nat.le_refl _)
  have hal := (Below.refl w5.heap.size w5).alloc (Nat.le_refl _) (.cells #[.string ⟨#[97]⟩, .int .i64 3] 37)
  have hM6 := hM5.same hal
  have hB6 := hB5.trans (hal.mono hB5.size)
  have hL6 := lit1 w5 3 _ rfl
  clear hM4 hB4 ho5
  go_wp2_with fail
  refine (ship_calls 1 1 la3 _ w.heap.size b mb _ _ _ hM6 hL6 fits3 (by omega) (by omega)).mono ?_
  clear hM5 hB5 hal hL6
  rintro e w7 ⟨rfl, hM7, ho7⟩
  rw [l_ship2] at hM7 ⊢
  have hB7 := ho7.below hM6 (Nat.le_refl _) hB6 (Nat.le_refl _)
  clear hM6 hB6 ho7
  go_wp2_with fail
  have cP := parcel_calls 1 w.heap.size b mb _ _ _ hM7 (by omega) (by omega)
  rw [l_find] at cP
  refine cP.mono ?_
  clear cP
  rintro e w8 ⟨⟨u1, u2, u3, rfl, o1, o2, o3⟩, h8⟩
  have hM8 := hM7.same h8
  have hB8 := hB7.trans (h8.mono hB7.size)
  obtain ⟨B1, d1, rfl, -⟩ := (toAt o1).form
  obtain ⟨B3, d3, rfl, -⟩ := (toAt o3).form
  have I2 : ItemsAt w8 0 w8.heap.size u2 la3 := toAt o2
  obtain ⟨B2, d2, rfl, -⟩ := I2.form
  obtain ⟨p, q, rfl, -, hp, -, hc⟩ := I2.cellAt (j := 0) (by decide)
  have hc1 : w8.cell? ⟨p, q + 1, none⟩ = some (.int .i64 3) := hc
  simp only [Option.getD_some, Option.isSome_some, r2, pclV, List.length_nil]
  rw [show la3.length = 1 from rfl, show la5.length = 1 from rfl]
  have hal := (Below.refl w8.heap.size w8).alloc (Nat.le_refl _) (.cells #[.int .i64 1, .slice B1 1 d1, .slice (some ⟨p, q, none⟩) 1 d2, .slice B3 0 d3] 39)
  have hc2 := (hal.cell (p := ⟨p, q + 1, none⟩) hp).trans hc1
  have hM9 := hM8.same hal
  have hB9 := hB8.trans (hal.mono hB8.size)
  have cL := left_calls 1 w.heap.size b mb _ _ _ hM9 (by omega) (by omega)
  rw [l_left] at cL
  clear hM7 hB7 h8 o1 o2 o3 hM8 hB8 hal hc I2
  go_wp2_with fail
  refine cL.mono ?_
  clear cL
  rintro e w10 ⟨⟨v, rfl, hv⟩, h10⟩
  have hM10 := hM9.same h10
  have hB10 := hB9.trans (h10.mono hB9.size)
  have I10 : ItemsAt w10 0 w10.heap.size v la3 := toAt hv
  obtain ⟨B4, d4, rfl, -⟩ := I10.form
  rw [show la3.length = 1 from rfl]
  clear hM9 hB9 h10 hv I10
  go_wp2_with fail
  refine (len_calls w.heap.size b mb _ _ _ hM10).mono ?_
  rintro e w11 ⟨rfl, rfl⟩
  go_wp2
  go_ret
  exact ⟨rfl, hB10⟩
end Pc
end Go.Proofs.YtdbkkldgobkjcaaGreat

namespace Go.Proofs.YtdbkkldgobkjcaaGreat
open Go.RowKit Go.Maps
namespace Pc
open It Mv

/-- one of the document's rows: the parcel (its map of regions, told as a list) and the values of its lists -/
structure DR where
  d : Row
  v1 : Value
  v2 : Value
  v3 : Value
def rowC (p : DR) : List Value := [.int .i64 p.d.od, p.v1, p.v2, p.v3, .bool (isIn p.d 0), .bool (isIn p.d 1), .bool (isIn p.d 2), .bool (isIn p.d 3), .bool (isIn p.d 4), .bool (isIn p.d 5), .bool (isIn p.d 6), .bool (isIn p.d 7)]
def rowCs (es : List DR) : List Value := es.flatMap rowC
theorem rowC_length (p : DR) : (rowC p).length = 12 := rfl
theorem rowCs_length : ∀ es : List DR, (rowCs es).length = es.length * 12
  | [] => rfl
  | p :: r => by
    have := rowCs_length r
    simp only [rowCs, List.flatMap_cons, List.length_append, rowC_length, List.length_cons] at this ⊢
    omega
theorem rowCs_append (a b : List DR) : rowCs (a ++ b) = rowCs a ++ rowCs b := by simp [rowCs]
theorem rowCs_get : ∀ (es : List DR) (j i : Nat) (h : j < es.length), i < 12 → (rowCs es)[j * 12 + i]? = (rowC es[j])[i]?
  | p :: r, 0, i, _, hi => by
    simp only [rowCs, List.flatMap_cons, Nat.zero_mul, Nat.zero_add, List.getElem_cons_zero]
    rw [List.getElem?_append_left (by rw [rowC_length]; exact hi)]
  | p :: r, j + 1, i, h, hi => by
    have := rowCs_get r j i (by simpa using h) hi
    simp only [rowCs, List.flatMap_cons, List.getElem_cons_succ] at this ⊢
    rw [List.getElem?_append_right (by rw [rowC_length]; omega), ← this, rowC_length]
    congr 1
    omega
theorem rowCs_take : ∀ (es : List DR) (k : Nat), rowCs (es.take k) = (rowCs es).take (k * 12)
  | [], k => by simp [rowCs]
  | p :: r, 0 => by simp [rowCs]
  | p :: r, k + 1 => by
    have := rowCs_take r k
    have e : (k + 1) * 12 = k * 12 + 12 := by omega
    simp only [rowCs, List.take_succ_cons, List.flatMap_cons] at this ⊢
    have h1 : (rowC p).take (k * 12 + 12) = rowC p := List.take_of_length_le (by rw [rowC_length]; omega)
    rw [this, e, List.take_append, h1, rowC_length, Nat.add_sub_cancel]
theorem rowCs_drop : ∀ (es : List DR) (k : Nat), rowCs (es.drop k) = (rowCs es).drop (k * 12)
  | [], k => by simp [rowCs]
  | p :: r, 0 => by simp [rowCs]
  | p :: r, k + 1 => by
    have := rowCs_drop r k
    have e : (k + 1) * 12 = k * 12 + 12 := by omega
    simp only [rowCs, List.drop_succ_cons, List.flatMap_cons] at this ⊢
    have h1 : (rowC p).drop (k * 12 + 12) = [] := List.drop_eq_nil_of_le (by rw [rowC_length]; omega)
    rw [this, e, List.drop_append, h1, rowC_length, Nat.add_sub_cancel]
    rfl

/-- the document's parcels: block xb, their row from base on; Y: blocks that others may write -/
structure DocP (w : World) (xb base : Nat) (Y : Nat → Prop) (es : List DR) : Prop where
  ob : ∃ v, Ob w xb 28 #[v] ∧ w.ownsRow base 46 12 v es.length (rowCs es) ∧ ∀ g, v.ownBlock = some g → ¬ Y g
  nest : ∀ p ∈ es, LiAt w (fun i => i ≠ xb ∧ ¬ Y i) p.v1 p.d.wa ∧ LiAt w (fun i => i ≠ xb ∧ ¬ Y i) p.v2 p.d.sh ∧ LiAt w (fun i => i ≠ xb ∧ ¬ Y i) p.v3 p.d.ba
  nx : ¬ Y xb
  yl : ∀ i, Y i → i < w.heap.size
theorem DocP.keep {w w' : World} {xb base : Nat} {Y : Nat → Prop} {es : List DR} (h : DocP w xb base Y es) (hk : Kept (fun i => i < w.heap.size ∧ ¬ Y i) w w') : DocP w' xb base Y es := by
  obtain ⟨v, h1, h2, h3⟩ := h.ob
  refine ⟨⟨v, hk.ob h1 ⟨h1.lt, h.nx⟩, ?_, h3⟩, fun p hp => ?_, h.nx, fun i hi => Nat.lt_of_lt_of_le (h.yl i hi) hk.size⟩
  · refine ⟨h2.1, ?_⟩
    rcases h2.2 with h4 | ⟨g, cap, cur, e, hb, hg, hr⟩
    · exact .inl h4
    · refine .inr ⟨g, cap, cur, e, hb, (hk.block g ⟨(Array.getElem?_eq_some_iff.1 hg).1, h3 g (by rw [e]; rfl)⟩).trans hg, hr⟩
  · obtain ⟨n1, n2, n3⟩ := h.nest p hp
    have hF : ∀ i, i < w.heap.size → (i ≠ xb ∧ ¬ Y i) → (i < w.heap.size ∧ ¬ Y i) ∧ (i ≠ xb ∧ ¬ Y i) := fun i hi hh => ⟨⟨hi, hh.2⟩, hh⟩
    exact ⟨n1.keep hk hF, n2.keep hk hF, n3.keep hk hF⟩
theorem DocP.same {w w' : World} {xb base : Nat} {Y : Nat → Prop} {es : List DR} (h : DocP w xb base Y es) (hb : Below w.heap.size w w') : DocP w' xb base Y es := h.keep (Kept.of_below hb fun _ hi => hi.1)
/-- others may write more blocks, if they are new to it -/
theorem DocP.more {w w' : World} {xb base : Nat} {Y Y' : Nat → Prop} {es : List DR} (h : DocP w xb base Y es) (hb : Below w.heap.size w w') (hY : ∀ i, Y' i → (Y i ∨ w.heap.size ≤ i) ∧ i < w'.heap.size) : DocP w' xb base Y' es := by
  have h0 := h.same hb
  obtain ⟨v, h1, h2, h3⟩ := h.ob
  obtain ⟨v', g1, g2, -⟩ := h0.ob
  have hn : ∀ i, i < w.heap.size → ¬ Y i → ¬ Y' i := fun i hi hx hx' => by
    rcases (hY i hx').1 with h | h
    · exact hx h
    · omega
  have e : v' = v := by
    have h4 := h1.same hb
    unfold Ob at h4 g1
    rw [g1] at h4
    simpa using h4
  subst e
  refine ⟨⟨v', g1, g2, fun g hg => hn g (h2.lt g hg).2 (h3 g hg)⟩, fun p hp => ?_, hn xb h1.lt h.nx, fun i hi => (hY i hi).2⟩
  obtain ⟨n1, n2, n3⟩ := h.nest p hp
  have hk : Kept (fun i => i < w.heap.size) w w' := Kept.of_below hb fun _ hi => hi
  have hF : ∀ i, i < w.heap.size → (i ≠ xb ∧ ¬ Y i) → i < w.heap.size ∧ (i ≠ xb ∧ ¬ Y' i) := fun i hi hh => ⟨hi, hh.1, hn i hi hh.2⟩
  exact ⟨n1.keep hk hF, n2.keep hk hF, n3.keep hk hF⟩
theorem DocP.less {w : World} {xb base : Nat} {Y Y' : Nat → Prop} {es : List DR} (h : DocP w xb base Y es) (hY : ∀ i, Y' i → Y i) : DocP w xb base Y' es := by
  obtain ⟨v, h1, h2, h3⟩ := h.ob
  refine ⟨⟨v, h1, h2, fun g hg hy => h3 g hg (hY g hy)⟩, fun p hp => ?_, fun hy => h.nx (hY _ hy), fun i hi => h.yl i (hY i hi)⟩
  obtain ⟨n1, n2, n3⟩ := h.nest p hp
  have hF : ∀ i, i < w.heap.size → (i ≠ xb ∧ ¬ Y i) → True ∧ (i ≠ xb ∧ ¬ Y' i) := fun i _ hh => ⟨trivial, hh.1, fun hy => hh.2 (hY i hy)⟩
  exact ⟨n1.keep (Kept.refl (fun _ => True) w) hF, n2.keep (Kept.refl (fun _ => True) w) hF, n3.keep (Kept.refl (fun _ => True) w) hF⟩

/-- where the document finds an order -/
def idxR (ds : List Row) (k : Int) : Int := match ds.findIdx? (fun d => decide (d.od = k)) with | some i => i | none => -1
theorem docP_cell {w : World} {lo B c j n : Nat} {A : Option Addr} {es : List DR} (h : Sl w lo B 12 (.slice A n c) es.length (rowCs es)) (hj : j < es.length) : ∃ b o, A = some ⟨b, o, none⟩ ∧ lo ≤ b ∧ b < B ∧ ∀ i v, (rowC es[j])[i]? = some v → w.cell? ⟨b, o + j * 12 + i, none⟩ = some v := by
  obtain ⟨A', c', e, h1, h2, h3⟩ := h.at_
  cases e
  obtain ⟨b, o, ea, hl, hb, hc⟩ := h3 (by omega)
  refine ⟨b, o, ea, hl, hb, fun i v hv => ?_⟩
  have hi : i < 12 := by have := (List.getElem?_eq_some_iff.1 hv).1; rwa [rowC_length] at this
  rw [Nat.add_assoc]
  exact (hc (j * 12 + i) (by omega)).trans ((rowCs_get es j i hj hi).trans hv)
theorem idxR_lt (ds : List Row) (k : Int) (j : Nat) (hj : j < ds.length) (hlt : ∀ i (h : i < ds.length), i < j → ds[i].od ≠ k) (he : ds[j].od = k) : idxR ds k = j := by
  unfold idxR
  have : ds.findIdx? (fun d => decide (d.od = k)) = some j := by
    rw [List.findIdx?_eq_some_iff_getElem]
    exact ⟨hj, by simpa using he, fun i hi => by simpa using hlt i (by omega) hi⟩
  rw [this]
theorem idxR_none (ds : List Row) (k : Int) (h : ∀ i (h : i < ds.length), ds[i].od ≠ k) : idxR ds k = -1 := by
  unfold idxR
  have : ds.findIdx? (fun d => decide (d.od = k)) = none := by
    rw [List.findIdx?_eq_none_iff]
    intro d hd
    obtain ⟨i, hi, rfl⟩ := List.getElem_of_mem hd
    simpa using h i hi
  rw [this]

set_option maxRecDepth 100000 in
set_option maxHeartbeats 4000000 in
theorem findP_calls (k : Int) (xb base : Nat) (Y : Nat → Prop) (es : List DR) (w : World) (h : DocP w xb base Y es) :
    Calls Tryz.prog 18 #[.pointer (some ⟨xb, 0, none⟩), .int .i64 k] w fun e w' => e = .returned (.int .i64 (idxR (es.map (·.d)) k)) ∧ w = w' := by
  obtain ⟨v, hx, hv, -⟩ := h.ob
  have hS := Sl.of_own hv
  obtain ⟨A, c, rfl, hc1, hc2, -⟩ := hS.at_
  unfold maxLen at hc2
  have g0 := hx.cell (j := 0) (v := .slice A es.length c) rfl
  have HS := Lib.hid hS
  clear hS hv hx h
  go_enter Tryz.func18, Tryz.ntmps18
  go_wp2
  go_loopw [5] (fun i wr => ∃ j : Nat, j ≤ es.length ∧ i = .int .i64 j ∧ wr = w ∧ ∀ i (h : i < es.length), i < j → es[i].d.od ≠ k) (fun i _ => es.length - (intOf i).toNat)
  case atStart => exact ⟨0, by omega, rfl, rfl, fun i h hi => by omega⟩
  case round =>
    obtain ⟨j, hj, rfl, rfl, hne⟩ := hrel
    have HNE := Lib.hid hne
    clear hne
    by_cases hlt : j < es.length
    · have hd : decide ((j : Int) < (es.length : Int)) = true := by simp; omega
      obtain ⟨b, o, rfl, -, -, hcs0⟩ := docP_cell HS.out hlt
      have c0 := hcs0 0 _ rfl
      simp only [Nat.add_zero] at c0
      clear hcs0
      have hcs : (es[j].d.od == k) = true ∨ (es[j].d.od == k) = false := by cases (es[j].d.od == k) <;> simp
      generalize hm : es[j].d.od = m at *
      have HM := Lib.hid hm
      clear hm
      rcases hcs with hq | hq
      · go_wp2
        go_ret
        have he : m = k := by simpa using hq
        refine ⟨ret1 (congrArg (Value.int .i64) ?_), rfl⟩
        exact (idxR_lt _ _ j (by simpa using hlt) (fun i h hi => by simpa using HNE.out i (by simpa using h) hi) (by simpa using HM.out.trans he)).symm
      · go_wp2
        have hq2 : m ≠ k := by simpa using hq
        refine ⟨⟨j + 1, by omega, by go_num, trivial, fun i h hi => ?_⟩, by simp [intOf]; omega⟩
        by_cases e : i = j
        · subst e; rw [HM.out]; exact hq2
        · exact HNE.out i h (by omega)
    · obtain rfl : j = es.length := by omega
      have hd : decide ((es.length : Int) < (es.length : Int)) = false := by simp
      go_wp2
      go_ret
      refine ⟨ret1 (congrArg (Value.int .i64) ?_), rfl⟩
      exact (idxR_none _ _ (fun i h => by simpa using HNE.out i (by simpa using h) (by simpa using h))).symm
end Pc
end Go.Proofs.YtdbkkldgobkjcaaGreat

namespace Go.Proofs.YtdbkkldgobkjcaaGreat
open Go.RowKit Go.Maps
namespace It

def putL (g : ByteArray) (n : Int) : List Item → List Item
  | [] => [(g, n)]
  | x :: r => if key x < g.data.toList then x :: putL g n r else if key x = g.data.toList then (x.1, n) :: r else (g, n) :: x :: r
theorem putL_new (g : ByteArray) (n : Int) : ∀ (l : List Item) (j : Nat), (∀ i (h : i < l.length), i < j → key l[i] < g.data.toList) → j ≤ l.length → (∀ h : j < l.length, ¬ key l[j] < g.data.toList ∧ key l[j] ≠ g.data.toList) →
    putL g n l = l.take j ++ [(g, n)] ++ l.drop j
  | [], j, _, hj, _ => by simp at hj; subst hj; rfl
  | x :: r, 0, _, _, h => by
    have := h (by simp)
    simp only [List.getElem_cons_zero] at this
    simp [putL, this.1, this.2]
  | x :: r, j + 1, h1, hj, h => by
    have h0 := h1 0 (by simp) (by omega)
    simp only [List.getElem_cons_zero] at h0
    unfold putL
    rw [if_pos h0, putL_new g n r j (fun i hi hij => h1 (i + 1) (by simpa using hi) (by omega)) (by simpa using hj) (fun hh => h (by simpa using hh))]
    rfl
theorem putL_set (g : ByteArray) (n : Int) : ∀ (l : List Item) (j : Nat), (∀ i (h : i < l.length), i < j → key l[i] < g.data.toList) → (h : j < l.length) → key l[j] = g.data.toList →
    putL g n l = l.set j (l[j].1, n)
  | [], j, _, hj, _ => absurd hj (by simp)
  | x :: r, 0, _, _, h => by
    simp only [List.getElem_cons_zero] at h
    unfold putL
    rw [if_neg (by rw [h]; exact bs_irr _), if_pos h]
    rfl
  | x :: r, j + 1, h1, hj, h => by
    have h0 := h1 0 (by simp) (by omega)
    simp only [List.getElem_cons_zero] at h0
    unfold putL
    rw [if_pos h0, putL_set g n r j (fun i hi hij => h1 (i + 1) (by simpa using hi) (by omega)) (by simpa using hj) (by simpa using h)]
    rfl
theorem putL_len (g : ByteArray) (n : Int) : ∀ l : List Item, (putL g n l).length ≤ l.length + 1
  | [] => by simp [putL]
  | x :: r => by
    unfold putL
    split
    · have := putL_len g n r; simp; omega
    · split <;> simp
theorem putL_mem (g : ByteArray) (n : Int) (x : Item) : ∀ l : List Item, l.Pairwise (fun a b => key a < key b) → (x ∈ putL g n l ↔ x = (g, n) ∨ (x ∈ l ∧ key x ≠ g.data.toList))
  | [], _ => by simp [putL]
  | y :: r, h => by
    have h' := List.pairwise_cons.1 h
    have hg : key ((g, n) : Item) = g.data.toList := rfl
    unfold putL
    split
    · rename_i hy
      have hne : key y ≠ g.data.toList := fun e => by rw [e] at hy; exact bs_irr _ hy
      rw [List.mem_cons, putL_mem g n x r h'.2, List.mem_cons]
      constructor
      · rintro (rfl | h | h)
        · exact .inr ⟨.inl rfl, hne⟩
        · exact .inl h
        · exact .inr ⟨.inr h.1, h.2⟩
      · rintro (h | ⟨rfl | h, h2⟩)
        · exact .inr (.inl h)
        · exact .inl rfl
        · exact .inr (.inr ⟨h, h2⟩)
    · have hr : ∀ z ∈ r, key z ≠ g.data.toList ∨ key y < g.data.toList := fun z hz => by
        by_cases hy : key y < g.data.toList
        · exact .inr hy
        · refine .inl fun e => hy ?_
          have := h'.1 z hz
          rwa [e] at this
      rename_i hy
      split
      · rename_i he
        have e1 : ((y.1, n) : Item) = (g, n) := key_item _ _ (show key y = key ((g, n) : Item) from he) rfl
        rw [e1, List.mem_cons, List.mem_cons]
        constructor
        · rintro (h | h)
          · exact .inl h
          · exact .inr ⟨.inr h, (hr x h).resolve_right hy⟩
        · rintro (h | ⟨rfl | h, h2⟩)
          · exact .inl h
          · exact absurd he h2
          · exact .inr h
      · rename_i he
        rw [List.mem_cons, List.mem_cons]
        constructor
        · rintro (h | rfl | h)
          · exact .inl h
          · exact .inr ⟨.inl rfl, he⟩
          · exact .inr ⟨.inr h, (hr x h).resolve_right hy⟩
        · rintro (h | ⟨rfl | h, h2⟩)
          · exact .inl h
          · exact .inr (.inl rfl)
          · exact .inr (.inr h)
theorem putL_sorted (g : ByteArray) (n : Int) : ∀ l : List Item, l.Pairwise (fun a b => key a < key b) → (putL g n l).Pairwise (fun a b => key a < key b)
  | [], _ => by simp [putL]
  | y :: r, h => by
    have h' := List.pairwise_cons.1 h
    unfold putL
    split
    · rename_i hy
      refine List.pairwise_cons.2 ⟨fun z hz => ?_, putL_sorted g n r h'.2⟩
      rcases (putL_mem g n z r h'.2).1 hz with rfl | ⟨h1, _⟩
      · exact hy
      · exact h'.1 z h1
    · split
      · exact List.pairwise_cons.2 ⟨fun z hz => h'.1 z hz, h'.2⟩
      · rename_i h1 h2
        have hlt : g.data.toList < key y := by
          rcases bs_tri (key y) g.data.toList with h | h | h
          · exact absurd h h1
          · exact absurd h h2
          · exact h
        refine List.pairwise_cons.2 ⟨fun z hz => ?_, h⟩
        rcases List.mem_cons.1 hz with rfl | hz
        · exact hlt
        · exact List.lt_trans hlt (h'.1 z hz)

theorem itemCells_take (l : List Item) (k : Nat) : itemCells (l.take k) = (itemCells l).take (k * 2) := by
  induction l generalizing k with
  | nil => simp [itemCells]
  | cons x r ih =>
    cases k with
    | zero => simp [itemCells]
    | succ k =>
      have e : (k + 1) * 2 = k * 2 + 1 + 1 := by omega
      simp only [itemCells, List.take_succ_cons, List.flatMap_cons, List.cons_append, List.nil_append, e] at ih ⊢
      rw [ih]
theorem itemCells_drop (l : List Item) (k : Nat) : itemCells (l.drop k) = (itemCells l).drop (k * 2) := by
  induction l generalizing k with
  | nil => simp [itemCells]
  | cons x r ih =>
    cases k with
    | zero => simp [itemCells]
    | succ k =>
      have e : (k + 1) * 2 = k * 2 + 1 + 1 := by omega
      simp only [itemCells, List.flatMap_cons, List.cons_append, List.nil_append, e, List.drop_succ_cons] at ih ⊢
      rw [ih]
theorem itemCells_set (l : List Item) (j : Nat) (hj : j < l.length) (n : Int) : itemCells (l.set j (l[j].1, n)) = (itemCells l).set (j * 2 + 1) (.int .i64 n) := by
  induction l generalizing j with
  | nil => simp at hj
  | cons x r ih =>
    cases j with
    | zero => rfl
    | succ j =>
      have e : (j + 1) * 2 + 1 = j * 2 + 1 + 1 + 1 := by omega
      have := ih j (by simpa using hj)
      simp only [List.set_cons_succ, List.getElem_cons_succ, itemCells, List.flatMap_cons, List.cons_append, List.nil_append, e] at this ⊢
      rw [this]

set_option maxRecDepth 100000 in
set_option maxHeartbeats 40000000 in
theorem refput_calls (L : List Item) (g : ByteArray) (n : Int) (v : Value) (w : World) (hI : ItemsAt w 0 w.heap.size v L) (hv : v = .slice none 0 0 ∨ ∃ b o n c, v = .slice (some ⟨b, o, none⟩) n c) (hL : L.length ≤ 1000000) :
    Calls Tryz.prog 120 #[v, .string g, .int .i64 n] w fun e w' =>
      (∃ u, e = .returned u ∧ w'.ownsRow w.heap.size 37 2 u (putL g n L).length (itemCells (putL g n L))) ∧ Below w.heap.size w w' := by
  obtain ⟨A, c, rfl, hc1, hc2⟩ := hI.form
  have hnil : (A = none ∧ c = 0 ∧ L.length = 0) ∨ ∃ b o, A = some ⟨b, o, none⟩ := by
    rcases hv with h | ⟨b, o, n, c', h⟩
    · simp at h; exact .inl ⟨h.1, h.2.2, by simp [h.2.1]⟩
    · simp at h; exact .inr ⟨b, o, h.1⟩
  clear hv
  unfold maxLen at hc2
  obtain ⟨i0, hi0, hz0⟩ := Option.map_eq_some_iff.1 item_info
  simp only [Prod.mk.injEq] at hz0
  obtain ⟨hz0, hz1, hz2⟩ := hz0
  have HNew := Lib.hid (putL_new g n L)
  have HSet := Lib.hid (putL_set g n L)
  have hlen := putL_len g n L
  generalize putL g n L = R at *
  go_enter Tryz.func120, Tryz.ntmps120
  go_wp2
  go_loop [7] (fun i => ∃ k : Nat, k ≤ L.length ∧ i = .int .i64 k ∧ ∀ i (h : i < L.length), i < k → key L[i] < g.data.toList) (fun i => L.length - (intOf i).toNat)
  case atStart => exact ⟨0, by omega, rfl, fun i _ h => by omega⟩
  case round =>
    obtain ⟨k, hk, rfl, hm⟩ := hrel
    by_cases hlt : k < L.length
    · clear hnil
      obtain ⟨b, o, rfl, -, hb, g1, g2⟩ := hI.cellAt hlt
      have hd : decide ((k : Int) < (L.length : Int)) = true := by simp; omega
      have HM := Lib.hid (show key L[k] < g.data.toList → ∀ i (h : i < L.length), i < k + 1 → key L[i] < g.data.toList from fun h i hi hik => by
        rcases Nat.lt_or_ge i k with h1 | h1
        · exact hm i hi h1
        · obtain rfl : i = k := by omega
          exact h)
      have HMN := Lib.hid (fun h => HNew.out k hm hk h)
      have HMS := Lib.hid (fun h => HSet.out k hm hlt h)
      clear hm
      have hlt' : Op.bytesLess L[k].1.toList g.toList = decide (key L[k] < g.data.toList) := by rw [less_eq, toList_key, toList_key]; rfl
      have heq' : (L[k].1.toList == g.toList) = decide (key L[k] = g.data.toList) := by
        rw [toList_key, toList_key]
        exact Bool.eq_iff_iff.2 (by simp [key])
      have HCS := Lib.hid (show (Op.bytesLess L[k].1.toList g.toList = true ∧ key L[k] < g.data.toList) ∨ (Op.bytesLess L[k].1.toList g.toList = false ∧ (L[k].1.toList == g.toList) = true ∧ key L[k] = g.data.toList) ∨ (Op.bytesLess L[k].1.toList g.toList = false ∧ (L[k].1.toList == g.toList) = false ∧ ¬ key L[k] < g.data.toList ∧ key L[k] ≠ g.data.toList) by
        rw [hlt', heq']
        rcases bs_tri (key L[k]) g.data.toList with h | h | h
        · exact .inl ⟨decide_eq_true h, h⟩
        · exact .inr (.inl ⟨decide_eq_false (by rw [h]; exact bs_irr _), decide_eq_true h, h⟩)
        · exact .inr (.inr ⟨decide_eq_false (bs_asy _ _ h), decide_eq_false (fun e => by rw [e] at h; exact bs_irr _ h), bs_asy _ _ h, fun e => by rw [e] at h; exact bs_irr _ h⟩))
      clear hlt' heq'
      rcases HCS.out with ⟨e1, e2⟩ | ⟨e1, e2, e3⟩ | ⟨e1, e2, e3⟩
      · have HM2 := Lib.hid (HM.out e2)
        clear HM HMN HMS HCS e2
        generalize L[k] = x at *
        obtain ⟨xs, xn⟩ := x
        dsimp only at g1 g2 e1
        go_wp2
        go_round
        case rel => exact ⟨k + 1, by omega, by go_num, HM2.out⟩
        case measure => simp [intOf]; omega
      · have HR := Lib.hid (HMS.out e3)
        have HC := Lib.hid (itemCells_set L k hlt n)
        clear HM HMN HMS HCS e3
        have hownE : (w.alloc (.cells #[] 37)).ownsRow w.heap.size 37 2 (.slice (some ⟨w.heap.size, 0, none⟩) 0 0) 0 [] := World.ownsRow_lit w #[] 0 (Nat.le_refl _) (by unfold maxLen; omega) rfl
        have hIE := hI.below ((Below.refl _ w).alloc (Nat.le_refl _) (.cells #[] 37))
        generalize hxx : L[k] = x at *
        obtain ⟨xs, xn⟩ := x
        dsimp only at g1 g2 e1 e2
        go_wp2_with (at_builtin
                     refine wpList_append_sl _ rfl (.tmp 37) (.tmp 38) _ rfl w.heap.size 37 i0 _ 2 24 Tryz.underlying30 hi0 hz0 hz1 hz2 rfl (by omega) (.slice (some ⟨w.heap.size, 0, none⟩) 0 0) 0 [] rfl hownE 0 w.heap.size _ L.length (itemCells L) rfl hIE (itemCells_one L) (by unfold maxLen; omega) (by omega) (by simp) ?_
                     intro v1 w1 hv1 hg1 hat1
                     simp only [Nat.zero_add, List.nil_append] at hv1
                     obtain ⟨gg, cap, rfl, hgb, hgl⟩ := hv1.form (by omega)
                     have hcell := hv1.cellAt (k * 2 + 1) (by omega)
                     have hfr := hv1.frozenAt (k * 2 + 1)
                     rw [(itemCells_get L k hlt).2] at hcell)
        go_ret
        obtain ⟨hv2, hg2⟩ := hv1.stored (k * 2 + 1) (.int .i64 n)
        have hB1 : Below w.heap.size w w1 := ((Below.refl _ w).alloc (Nat.le_refl _) _).grown hg1 (by simp) (fun g hg => by cases hg; exact Nat.le_refl _)
        refine ⟨⟨_, rfl, ?_⟩, hB1.setCell (p := ⟨gg, k * 2 + 1, none⟩) hgb _⟩
        have hRl : R.length = L.length := by rw [HR.out, List.length_set]
        rw [hRl, HR.out, HC.out]
        exact hv2
      · have HR := Lib.hid (HMN.out (fun _ => e3))
        clear HM HMN HMS HCS e3 HNew HSet
        generalize L[k] = x at *
        obtain ⟨xs, xn⟩ := x
        dsimp only at g1 g2 e1 e2
        go_wp2_with fail
        clear g1 g2 e1 e2 hd
        have HP := Lib.hid (fun W (h : Below w.heap.size w W) => (hI.below h).upTo hk)
        have HQ := Lib.hid (fun W (h : Below w.heap.size w W) => (hI.below h).onFrom hk)
        have hkc1 : ((0 : Int) ≤ (k : Int)) := by omega
        have hkc2 : ((k : Int) ≤ (L.length : Int)) := by omega
        have hkc3 : ((k : Int) ≤ (c : Int)) := by omega
        have hkc4 : ((L.length : Int) ≤ (c : Int)) := by omega
        have own1 : (w.alloc (.cells #[] 37)).drew.ownsRow w.heap.size 37 2 (.slice (some ⟨w.heap.size, 0, none⟩) 0 0) 0 [] := World.ownsRow_lit w #[] 0 (Nat.le_refl _) (Nat.zero_le _) rfl
        have own2 : ((w.alloc (.cells #[] 37)).alloc (.cells #[.string g, .int .i64 n] 37)).drew.ownsRow w.heap.size 37 2 (.slice (some ⟨w.heap.size, 0, none⟩) 0 0) 0 [] := (World.ownsRow_lit (size := 2) (base := w.heap.size) (e := 37) w #[] 0 (Nat.le_refl _) (Nat.zero_le _) rfl).alloc _
        have own3 : ((w.alloc (.cells #[.string g, .int .i64 n] 37)).alloc (.cells #[] 37)).drew.ownsRow w.heap.size 37 2 (.slice (some ⟨w.heap.size + 1, 0, none⟩) 0 0) 0 [] := by
          have := World.ownsRow_lit (size := 2) (base := w.heap.size) (e := 37) (w.alloc (.cells #[.string g, .int .i64 n] 37)) #[] 0 (by simp) (Nat.zero_le _) rfl
          rwa [World.size_alloc] at this
        have bb1 : Below w.heap.size w (w.alloc (.cells #[] 37)).drew := ((Below.refl _ w).alloc (Nat.le_refl _) _).drew
        have bb2 : Below w.heap.size w ((w.alloc (.cells #[] 37)).alloc (.cells #[.string g, .int .i64 n] 37)).drew := (((Below.refl _ w).alloc (Nat.le_refl _) _).alloc (by simp) _).drew
        have bb3 : Below w.heap.size w ((w.alloc (.cells #[.string g, .int .i64 n] 37)).alloc (.cells #[] 37)).drew := (((Below.refl _ w).alloc (Nat.le_refl _) _).alloc (by simp) _).drew
        have sl2 : Sl ((w.alloc (.cells #[] 37)).alloc (.cells #[.string g, .int .i64 n] 37)).drew (w.heap.size + 1) (w.heap.size + 1 + 1) 2 (.slice (some ⟨w.heap.size + 1, 0, none⟩) 1 1) 1 [.string g, .int .i64 n] := by
          have := Sl.new (w.alloc (.cells #[] 37)) #[.string g, .int .i64 n] 37 (n := 1) (size := 2) rfl (by unfold maxLen; omega)
          rw [World.size_alloc] at this
          exact this.below (Below.refl _ _).drew
        have sl3 : Sl ((w.alloc (.cells #[.string g, .int .i64 n] 37)).alloc (.cells #[] 37)).drew w.heap.size (w.heap.size + 1) 2 (.slice (some ⟨w.heap.size, 0, none⟩) 1 1) 1 [.string g, .int .i64 n] :=
          (Sl.new w #[.string g, .int .i64 n] 37 (n := 1) (size := 2) rfl (by unfold maxLen; omega)).below (((Below.refl (w.heap.size + 1) (w.alloc (.cells #[.string g, .int .i64 n] 37))).alloc (Nat.le_of_eq (World.size_alloc _ _).symm) _).drew)
        have G1 := Lib.hid (show ∀ w1 : World, (w.alloc (.cells #[] 37)).drew.grownBy w1 (some w.heap.size) → Below w.heap.size w w1 from fun w1 hg => bb1.grown hg bb1.size (fun g hg => by cases hg; exact Nat.le_refl _))
        have G2 := Lib.hid (show ∀ w1 : World, ((w.alloc (.cells #[] 37)).alloc (.cells #[.string g, .int .i64 n] 37)).drew.grownBy w1 (some w.heap.size) → Below w.heap.size w w1 ∧ Sl w1 (w.heap.size + 1) (w.heap.size + 1 + 1) 2 (.slice (some ⟨w.heap.size + 1, 0, none⟩) 1 1) 1 [.string g, .int .i64 n] from fun w1 hg => ⟨bb2.grown hg bb2.size (fun g hg => by cases hg; exact Nat.le_refl _), sl2.grown hg (by simp [World.drew]) (fun r hr => by cases hr; exact .inl (Nat.lt_succ_self _))⟩)
        have G3 := Lib.hid (show ∀ w1 : World, ((w.alloc (.cells #[.string g, .int .i64 n] 37)).alloc (.cells #[] 37)).drew.grownBy w1 (some (w.heap.size + 1)) → Below w.heap.size w w1 ∧ Sl w1 w.heap.size (w.heap.size + 1) 2 (.slice (some ⟨w.heap.size, 0, none⟩) 1 1) 1 [.string g, .int .i64 n] from fun w1 hg => ⟨bb3.grown hg bb3.size (fun g hg => by cases hg; exact Nat.le_succ _), sl3.grown hg (by simp [World.drew]) (fun r hr => by cases hr; exact .inr (Nat.le_refl _))⟩)
        have OP := Lib.hid (show ∀ y ∈ ((itemCells L).take (k * 2) : List Value), y.oneCell' = true from (fun y hy => itemCells_one L y (List.mem_of_mem_take hy)))
        have OQ := Lib.hid (show ∀ y ∈ ((itemCells L).drop (k * 2) : List Value), y.oneCell' = true from (fun y hy => itemCells_one L y (List.mem_of_mem_drop hy)))
        have OX := Lib.hid (show ∀ y ∈ ([.string g, .int .i64 n] : List Value), y.oneCell' = true from (by simp [Value.oneCell']))
        have m1 : 0 + (k) ≤ maxLen := by unfold maxLen; omega
        have m2 : 0 + (k) + 1 ≤ maxLen := by unfold maxLen; omega
        have m3 : 0 + (k) + 1 + (L.length - k) ≤ maxLen := by unfold maxLen; omega
        have q1 : (0 + (k)) * 24 ≤ 140737488355328 := by omega
        have q2 : (0 + (k) + 1) * 24 ≤ 140737488355328 := by omega
        have q3 : (0 + (k) + 1 + (L.length - k)) * 24 ≤ 140737488355328 := by omega
        have M1 := Lib.hid m1; have M2 := Lib.hid m2; have M3 := Lib.hid m3; have Q1 := Lib.hid q1; have Q2 := Lib.hid q2; have Q3 := Lib.hid q3
        have OW1 := Lib.hid own1; have OW2 := Lib.hid own2; have OW3 := Lib.hid own3; have BB1 := Lib.hid bb1; have BB2 := Lib.hid bb2; have BB3 := Lib.hid bb3
        clear m1 m2 m3 q1 q2 q3 own1 own2 own3 bb1 bb2 bb3 sl2 sl3
        go_region_law (first
          | ((with_reducible refine step_append_sl _ (o := ⟨some 50, _, _, _, _, _⟩) ?_ (.tmp 46) (.tmp 49) 30 ?_ w.heap.size 37 i0 _ 2 24 Tryz.underlying30 hi0 hz0 hz1 hz2 ?_ (by omega) _ 0 [] ?_ OW1.out 0 w.heap.size _ ((k)) ((itemCells L).take (k * 2)) ?_ (HP.out _ BB1.out) OP.out M1.out Q1.out BB1.out.size ?_)
             rfl; rfl; rfl; (simp [Act.eval]); (simp [Act.eval])
             intro v1 w1 hv1 hg1 hat1
             have hB1 := G1.out _ hg1; clear hg1 hat1)
          | ((with_reducible refine step_append_sl _ (o := ⟨some 50, _, _, _, _, _⟩) ?_ (.tmp 46) (.tmp 49) 30 ?_ w.heap.size 37 i0 _ 2 24 Tryz.underlying30 hi0 hz0 hz1 hz2 ?_ (by omega) _ 0 [] ?_ OW2.out 0 w.heap.size _ ((k)) ((itemCells L).take (k * 2)) ?_ (HP.out _ BB2.out) OP.out M1.out Q1.out BB2.out.size ?_)
             rfl; rfl; rfl; (simp [Act.eval]); (simp [Act.eval])
             intro v1 w1 hv1 hg1 hat1
             have hB1 := (G2.out _ hg1).1; have hs54 := (G2.out _ hg1).2; clear hg1 hat1)
          | ((with_reducible refine step_append_sl _ (o := ⟨some 50, _, _, _, _, _⟩) ?_ (.tmp 46) (.tmp 49) 30 ?_ w.heap.size 37 i0 _ 2 24 Tryz.underlying30 hi0 hz0 hz1 hz2 ?_ (by omega) _ 0 [] ?_ OW3.out 0 w.heap.size _ ((k)) ((itemCells L).take (k * 2)) ?_ (HP.out _ BB3.out) OP.out M1.out Q1.out BB3.out.size ?_)
             rfl; rfl; rfl; (simp [Act.eval]); (simp [Act.eval])
             intro v1 w1 hv1 hg1 hat1
             have hB1 := (G3.out _ hg1).1; have hs54 := (G3.out _ hg1).2; clear hg1 hat1)
          | ((with_reducible refine step_append_sl _ (o := ⟨some 55, _, _, _, _, _⟩) ?_ (.tmp 50) (.tmp 54) 30 ?_ w.heap.size 37 i0 _ 2 24 Tryz.underlying30 hi0 hz0 hz1 hz2 ?_ (by omega) _ (0 + (k)) _ ?_ hv1 _ _ _ 1 [.string g, .int .i64 n] ?_ hs54 OX.out M2.out Q2.out hB1.size ?_)
             rfl; rfl; rfl; (simp [Act.eval]); (simp [Act.eval])
             intro v2 w2 hv2 hg2 hat2
             have hB2 : Below w.heap.size w w2 := hB1.grown hg2 hB1.size (fun g hg => (hv1.lt g hg).1); clear hg2 hat2 hv1 hs54)
          | ((with_reducible refine step_append_sl _ (o := ⟨some 55, _, _, _, _, _⟩) ?_ (.tmp 50) (.tmp 54) 30 ?_ w.heap.size 37 i0 _ 2 24 Tryz.underlying30 hi0 hz0 hz1 hz2 ?_ (by omega) _ (0 + (k)) _ ?_ (hv1.alloc _) _ _ _ 1 [.string g, .int .i64 n] ?_ (Sl.new w1 #[.string g, .int .i64 n] 37 (n := 1) (size := 2) rfl (Nat.le_trans (Nat.le_add_left _ _) M2.out)) OX.out M2.out Q2.out (hB1.alloc hB1.size _).size ?_)
             rfl; rfl; rfl; (simp [Act.eval]); (simp [Act.eval])
             intro v2 w2 hv2 hg2 hat2
             have hB2 : Below w.heap.size w w2 := (hB1.alloc hB1.size _).grown hg2 (hB1.alloc hB1.size _).size (fun g hg => (hv1.lt g hg).1); clear hg2 hat2 hv1)
          | ((with_reducible refine step_append_sl _ (o := ⟨some 59, _, _, _, _, _⟩) ?_ (.tmp 55) (.tmp 58) 30 ?_ w.heap.size 37 i0 _ 2 24 Tryz.underlying30 hi0 hz0 hz1 hz2 ?_ (by omega) _ (0 + (k) + 1) _ ?_ hv2 0 w.heap.size _ ((L.length - k)) ((itemCells L).drop (k * 2)) ?_ (HQ.out _ hB2) OQ.out M3.out Q3.out hB2.size ?_)
             rfl; rfl; rfl; (simp [Act.eval]); (simp [Act.eval])
             intro v3 w3 hv3 hg3 hat3
             have hB3 : Below w.heap.size w w3 := hB2.grown hg3 hB2.size (fun g hg => (hv2.lt g hg).1); clear hg3 hat3 hv2 hB2))
        all_goals
          rw [show ([] ++ (itemCells L).take (k * 2) ++ [.string g, .int .i64 n] ++ (itemCells L).drop (k * 2)) = itemCells R by rw [HR.out, itemCells_append, itemCells_append, itemCells_take, itemCells_drop]; rfl, show 0 + k + 1 + (L.length - k) = R.length by rw [HR.out]; simp; omega] at hv3
          obtain ⟨A9, c9, rfl, -⟩ := (ItemsAt.of_own hv3).form
          go_wp2
          go_ret
          exact ⟨⟨_, rfl, hv3⟩, hB3⟩
    · obtain rfl : k = L.length := by omega
      have HR := Lib.hid (HNew.out L.length hm (Nat.le_refl _) (fun h => by omega))
      clear hm HNew HSet
      rcases hnil with ⟨rfl, rfl, h0⟩ | ⟨b, o, rfl⟩
      · obtain rfl : L = [] := List.eq_nil_of_length_eq_zero h0
        have HR := Lib.hid (show R = [(g, n)] from HR.out)
        simp only [List.length_nil, Int.natCast_zero]
        clear h0 hlt
        go_wp2_with fail
        have own1 : (w.alloc (.cells #[] 37)).drew.ownsRow w.heap.size 37 2 (.slice (some ⟨w.heap.size, 0, none⟩) 0 0) 0 [] := World.ownsRow_lit w #[] 0 (Nat.le_refl _) (Nat.zero_le _) rfl
        have own2 : ((w.alloc (.cells #[] 37)).alloc (.cells #[.string g, .int .i64 n] 37)).drew.ownsRow w.heap.size 37 2 (.slice (some ⟨w.heap.size, 0, none⟩) 0 0) 0 [] := (World.ownsRow_lit (size := 2) (base := w.heap.size) (e := 37) w #[] 0 (Nat.le_refl _) (Nat.zero_le _) rfl).alloc _
        have own3 : ((w.alloc (.cells #[.string g, .int .i64 n] 37)).alloc (.cells #[] 37)).drew.ownsRow w.heap.size 37 2 (.slice (some ⟨w.heap.size + 1, 0, none⟩) 0 0) 0 [] := by
          have := World.ownsRow_lit (size := 2) (base := w.heap.size) (e := 37) (w.alloc (.cells #[.string g, .int .i64 n] 37)) #[] 0 (by simp) (Nat.zero_le _) rfl
          rwa [World.size_alloc] at this
        have bb1 : Below w.heap.size w (w.alloc (.cells #[] 37)).drew := ((Below.refl _ w).alloc (Nat.le_refl _) _).drew
        have bb2 : Below w.heap.size w ((w.alloc (.cells #[] 37)).alloc (.cells #[.string g, .int .i64 n] 37)).drew := (((Below.refl _ w).alloc (Nat.le_refl _) _).alloc (by simp) _).drew
        have bb3 : Below w.heap.size w ((w.alloc (.cells #[.string g, .int .i64 n] 37)).alloc (.cells #[] 37)).drew := (((Below.refl _ w).alloc (Nat.le_refl _) _).alloc (by simp) _).drew
        have sl2 : Sl ((w.alloc (.cells #[] 37)).alloc (.cells #[.string g, .int .i64 n] 37)).drew (w.heap.size + 1) (w.heap.size + 1 + 1) 2 (.slice (some ⟨w.heap.size + 1, 0, none⟩) 1 1) 1 [.string g, .int .i64 n] := by
          have := Sl.new (w.alloc (.cells #[] 37)) #[.string g, .int .i64 n] 37 (n := 1) (size := 2) rfl (by unfold maxLen; omega)
          rw [World.size_alloc] at this
          exact this.below (Below.refl _ _).drew
        have sl3 : Sl ((w.alloc (.cells #[.string g, .int .i64 n] 37)).alloc (.cells #[] 37)).drew w.heap.size (w.heap.size + 1) 2 (.slice (some ⟨w.heap.size, 0, none⟩) 1 1) 1 [.string g, .int .i64 n] :=
          (Sl.new w #[.string g, .int .i64 n] 37 (n := 1) (size := 2) rfl (by unfold maxLen; omega)).below (((Below.refl (w.heap.size + 1) (w.alloc (.cells #[.string g, .int .i64 n] 37))).alloc (Nat.le_of_eq (World.size_alloc _ _).symm) _).drew)
        have G1 := Lib.hid (show ∀ w1 : World, (w.alloc (.cells #[] 37)).drew.grownBy w1 (some w.heap.size) → Below w.heap.size w w1 from fun w1 hg => bb1.grown hg bb1.size (fun g hg => by cases hg; exact Nat.le_refl _))
        have G2 := Lib.hid (show ∀ w1 : World, ((w.alloc (.cells #[] 37)).alloc (.cells #[.string g, .int .i64 n] 37)).drew.grownBy w1 (some w.heap.size) → Below w.heap.size w w1 ∧ Sl w1 (w.heap.size + 1) (w.heap.size + 1 + 1) 2 (.slice (some ⟨w.heap.size + 1, 0, none⟩) 1 1) 1 [.string g, .int .i64 n] from fun w1 hg => ⟨bb2.grown hg bb2.size (fun g hg => by cases hg; exact Nat.le_refl _), sl2.grown hg (by simp [World.drew]) (fun r hr => by cases hr; exact .inl (Nat.lt_succ_self _))⟩)
        have G3 := Lib.hid (show ∀ w1 : World, ((w.alloc (.cells #[.string g, .int .i64 n] 37)).alloc (.cells #[] 37)).drew.grownBy w1 (some (w.heap.size + 1)) → Below w.heap.size w w1 ∧ Sl w1 w.heap.size (w.heap.size + 1) 2 (.slice (some ⟨w.heap.size, 0, none⟩) 1 1) 1 [.string g, .int .i64 n] from fun w1 hg => ⟨bb3.grown hg bb3.size (fun g hg => by cases hg; exact Nat.le_succ _), sl3.grown hg (by simp [World.drew]) (fun r hr => by cases hr; exact .inr (Nat.le_refl _))⟩)
        have OP := Lib.hid (show ∀ y ∈ (([] : List Value) : List Value), y.oneCell' = true from (by simp))
        have OQ := Lib.hid (show ∀ y ∈ (([] : List Value) : List Value), y.oneCell' = true from (by simp))
        have OX := Lib.hid (show ∀ y ∈ ([.string g, .int .i64 n] : List Value), y.oneCell' = true from (by simp [Value.oneCell']))
        have m1 : 0 + (0) ≤ maxLen := by unfold maxLen; omega
        have m2 : 0 + (0) + 1 ≤ maxLen := by unfold maxLen; omega
        have m3 : 0 + (0) + 1 + (0) ≤ maxLen := by unfold maxLen; omega
        have q1 : (0 + (0)) * 24 ≤ 140737488355328 := by omega
        have q2 : (0 + (0) + 1) * 24 ≤ 140737488355328 := by omega
        have q3 : (0 + (0) + 1 + (0)) * 24 ≤ 140737488355328 := by omega
        have M1 := Lib.hid m1; have M2 := Lib.hid m2; have M3 := Lib.hid m3; have Q1 := Lib.hid q1; have Q2 := Lib.hid q2; have Q3 := Lib.hid q3
        have OW1 := Lib.hid own1; have OW2 := Lib.hid own2; have OW3 := Lib.hid own3; have BB1 := Lib.hid bb1; have BB2 := Lib.hid bb2; have BB3 := Lib.hid bb3
        clear m1 m2 m3 q1 q2 q3 own1 own2 own3 bb1 bb2 bb3 sl2 sl3
        go_region_law (first
          | ((with_reducible refine step_append_sl _ (o := ⟨some 50, _, _, _, _, _⟩) ?_ (.tmp 46) (.tmp 49) 30 ?_ w.heap.size 37 i0 _ 2 24 Tryz.underlying30 hi0 hz0 hz1 hz2 ?_ (by omega) _ 0 [] ?_ OW1.out 0 w.heap.size _ ((0)) (([] : List Value)) ?_ ((fun _ => Sl.nil _ _ _ _) BB1.out) OP.out M1.out Q1.out BB1.out.size ?_)
             rfl; rfl; rfl; (simp [Act.eval]); (simp [Act.eval])
             intro v1 w1 hv1 hg1 hat1
             have hB1 := G1.out _ hg1; clear hg1 hat1)
          | ((with_reducible refine step_append_sl _ (o := ⟨some 50, _, _, _, _, _⟩) ?_ (.tmp 46) (.tmp 49) 30 ?_ w.heap.size 37 i0 _ 2 24 Tryz.underlying30 hi0 hz0 hz1 hz2 ?_ (by omega) _ 0 [] ?_ OW2.out 0 w.heap.size _ ((0)) (([] : List Value)) ?_ ((fun _ => Sl.nil _ _ _ _) BB2.out) OP.out M1.out Q1.out BB2.out.size ?_)
             rfl; rfl; rfl; (simp [Act.eval]); (simp [Act.eval])
             intro v1 w1 hv1 hg1 hat1
             have hB1 := (G2.out _ hg1).1; have hs54 := (G2.out _ hg1).2; clear hg1 hat1)
          | ((with_reducible refine step_append_sl _ (o := ⟨some 50, _, _, _, _, _⟩) ?_ (.tmp 46) (.tmp 49) 30 ?_ w.heap.size 37 i0 _ 2 24 Tryz.underlying30 hi0 hz0 hz1 hz2 ?_ (by omega) _ 0 [] ?_ OW3.out 0 w.heap.size _ ((0)) (([] : List Value)) ?_ ((fun _ => Sl.nil _ _ _ _) BB3.out) OP.out M1.out Q1.out BB3.out.size ?_)
             rfl; rfl; rfl; (simp [Act.eval]); (simp [Act.eval])
             intro v1 w1 hv1 hg1 hat1
             have hB1 := (G3.out _ hg1).1; have hs54 := (G3.out _ hg1).2; clear hg1 hat1)
          | ((with_reducible refine step_append_sl _ (o := ⟨some 55, _, _, _, _, _⟩) ?_ (.tmp 50) (.tmp 54) 30 ?_ w.heap.size 37 i0 _ 2 24 Tryz.underlying30 hi0 hz0 hz1 hz2 ?_ (by omega) _ (0 + (0)) _ ?_ hv1 _ _ _ 1 [.string g, .int .i64 n] ?_ hs54 OX.out M2.out Q2.out hB1.size ?_)
             rfl; rfl; rfl; (simp [Act.eval]); (simp [Act.eval])
             intro v2 w2 hv2 hg2 hat2
             have hB2 : Below w.heap.size w w2 := hB1.grown hg2 hB1.size (fun g hg => (hv1.lt g hg).1); clear hg2 hat2 hv1 hs54)
          | ((with_reducible refine step_append_sl _ (o := ⟨some 55, _, _, _, _, _⟩) ?_ (.tmp 50) (.tmp 54) 30 ?_ w.heap.size 37 i0 _ 2 24 Tryz.underlying30 hi0 hz0 hz1 hz2 ?_ (by omega) _ (0 + (0)) _ ?_ (hv1.alloc _) _ _ _ 1 [.string g, .int .i64 n] ?_ (Sl.new w1 #[.string g, .int .i64 n] 37 (n := 1) (size := 2) rfl (Nat.le_trans (Nat.le_add_left _ _) M2.out)) OX.out M2.out Q2.out (hB1.alloc hB1.size _).size ?_)
             rfl; rfl; rfl; (simp [Act.eval]); (simp [Act.eval])
             intro v2 w2 hv2 hg2 hat2
             have hB2 : Below w.heap.size w w2 := (hB1.alloc hB1.size _).grown hg2 (hB1.alloc hB1.size _).size (fun g hg => (hv1.lt g hg).1); clear hg2 hat2 hv1)
          | ((with_reducible refine step_append_sl _ (o := ⟨some 59, _, _, _, _, _⟩) ?_ (.tmp 55) (.tmp 58) 30 ?_ w.heap.size 37 i0 _ 2 24 Tryz.underlying30 hi0 hz0 hz1 hz2 ?_ (by omega) _ (0 + (0) + 1) _ ?_ hv2 0 w.heap.size _ ((0)) (([] : List Value)) ?_ ((fun _ => Sl.nil _ _ _ _) hB2) OQ.out M3.out Q3.out hB2.size ?_)
             rfl; rfl; rfl; (simp [Act.eval]); (simp [Act.eval])
             intro v3 w3 hv3 hg3 hat3
             have hB3 : Below w.heap.size w w3 := hB2.grown hg3 hB2.size (fun g hg => (hv2.lt g hg).1); clear hg3 hat3 hv2 hB2))
        all_goals
          rw [show ([] ++ [] ++ [Value.string g, .int .i64 n] ++ []) = itemCells R by rw [HR.out]; rfl, show 0 + 0 + 1 + 0 = R.length by rw [HR.out]; rfl] at hv3
          obtain ⟨A9, c9, rfl, -⟩ := (ItemsAt.of_own hv3).form
          go_wp2
          go_ret
          exact ⟨⟨_, rfl, hv3⟩, hB3⟩
      · have HC1 := Lib.hid (show c - L.length ≤ maxLen by unfold maxLen; omega)
        have HP := Lib.hid (fun W (h : Below w.heap.size w W) => show Sl W 0 w.heap.size 2 (.slice (some ⟨b, o, none⟩) L.length c) L.length (itemCells L) from hI.below h)
        have HQ := Lib.hid (fun W => show Sl W 0 w.heap.size 2 (.slice (if c = L.length then some ⟨b, o, none⟩ else some ⟨b, o + L.length * 2, none⟩) 0 (c - L.length)) 0 [] from Sl.zero HC1.out)
        go_wp2_with fail
        have hkc3 : ((L.length : Int) ≤ (c : Int)) := by omega
        have own1 : (w.alloc (.cells #[] 37)).drew.ownsRow w.heap.size 37 2 (.slice (some ⟨w.heap.size, 0, none⟩) 0 0) 0 [] := World.ownsRow_lit w #[] 0 (Nat.le_refl _) (Nat.zero_le _) rfl
        have own2 : ((w.alloc (.cells #[] 37)).alloc (.cells #[.string g, .int .i64 n] 37)).drew.ownsRow w.heap.size 37 2 (.slice (some ⟨w.heap.size, 0, none⟩) 0 0) 0 [] := (World.ownsRow_lit (size := 2) (base := w.heap.size) (e := 37) w #[] 0 (Nat.le_refl _) (Nat.zero_le _) rfl).alloc _
        have own3 : ((w.alloc (.cells #[.string g, .int .i64 n] 37)).alloc (.cells #[] 37)).drew.ownsRow w.heap.size 37 2 (.slice (some ⟨w.heap.size + 1, 0, none⟩) 0 0) 0 [] := by
          have := World.ownsRow_lit (size := 2) (base := w.heap.size) (e := 37) (w.alloc (.cells #[.string g, .int .i64 n] 37)) #[] 0 (by simp) (Nat.zero_le _) rfl
          rwa [World.size_alloc] at this
        have bb1 : Below w.heap.size w (w.alloc (.cells #[] 37)).drew := ((Below.refl _ w).alloc (Nat.le_refl _) _).drew
        have bb2 : Below w.heap.size w ((w.alloc (.cells #[] 37)).alloc (.cells #[.string g, .int .i64 n] 37)).drew := (((Below.refl _ w).alloc (Nat.le_refl _) _).alloc (by simp) _).drew
        have bb3 : Below w.heap.size w ((w.alloc (.cells #[.string g, .int .i64 n] 37)).alloc (.cells #[] 37)).drew := (((Below.refl _ w).alloc (Nat.le_refl _) _).alloc (by simp) _).drew
        have sl2 : Sl ((w.alloc (.cells #[] 37)).alloc (.cells #[.string g, .int .i64 n] 37)).drew (w.heap.size + 1) (w.heap.size + 1 + 1) 2 (.slice (some ⟨w.heap.size + 1, 0, none⟩) 1 1) 1 [.string g, .int .i64 n] := by
          have := Sl.new (w.alloc (.cells #[] 37)) #[.string g, .int .i64 n] 37 (n := 1) (size := 2) rfl (by unfold maxLen; omega)
          rw [World.size_alloc] at this
          exact this.below (Below.refl _ _).drew
        have sl3 : Sl ((w.alloc (.cells #[.string g, .int .i64 n] 37)).alloc (.cells #[] 37)).drew w.heap.size (w.heap.size + 1) 2 (.slice (some ⟨w.heap.size, 0, none⟩) 1 1) 1 [.string g, .int .i64 n] :=
          (Sl.new w #[.string g, .int .i64 n] 37 (n := 1) (size := 2) rfl (by unfold maxLen; omega)).below (((Below.refl (w.heap.size + 1) (w.alloc (.cells #[.string g, .int .i64 n] 37))).alloc (Nat.le_of_eq (World.size_alloc _ _).symm) _).drew)
        have G1 := Lib.hid (show ∀ w1 : World, (w.alloc (.cells #[] 37)).drew.grownBy w1 (some w.heap.size) → Below w.heap.size w w1 from fun w1 hg => bb1.grown hg bb1.size (fun g hg => by cases hg; exact Nat.le_refl _))
        have G2 := Lib.hid (show ∀ w1 : World, ((w.alloc (.cells #[] 37)).alloc (.cells #[.string g, .int .i64 n] 37)).drew.grownBy w1 (some w.heap.size) → Below w.heap.size w w1 ∧ Sl w1 (w.heap.size + 1) (w.heap.size + 1 + 1) 2 (.slice (some ⟨w.heap.size + 1, 0, none⟩) 1 1) 1 [.string g, .int .i64 n] from fun w1 hg => ⟨bb2.grown hg bb2.size (fun g hg => by cases hg; exact Nat.le_refl _), sl2.grown hg (by simp [World.drew]) (fun r hr => by cases hr; exact .inl (Nat.lt_succ_self _))⟩)
        have G3 := Lib.hid (show ∀ w1 : World, ((w.alloc (.cells #[.string g, .int .i64 n] 37)).alloc (.cells #[] 37)).drew.grownBy w1 (some (w.heap.size + 1)) → Below w.heap.size w w1 ∧ Sl w1 w.heap.size (w.heap.size + 1) 2 (.slice (some ⟨w.heap.size, 0, none⟩) 1 1) 1 [.string g, .int .i64 n] from fun w1 hg => ⟨bb3.grown hg bb3.size (fun g hg => by cases hg; exact Nat.le_succ _), sl3.grown hg (by simp [World.drew]) (fun r hr => by cases hr; exact .inr (Nat.le_refl _))⟩)
        have OP := Lib.hid (show ∀ y ∈ (itemCells L : List Value), y.oneCell' = true from (itemCells_one L))
        have OQ := Lib.hid (show ∀ y ∈ (([] : List Value) : List Value), y.oneCell' = true from (by simp))
        have OX := Lib.hid (show ∀ y ∈ ([.string g, .int .i64 n] : List Value), y.oneCell' = true from (by simp [Value.oneCell']))
        have m1 : 0 + (L.length) ≤ maxLen := by unfold maxLen; omega
        have m2 : 0 + (L.length) + 1 ≤ maxLen := by unfold maxLen; omega
        have m3 : 0 + (L.length) + 1 + (0) ≤ maxLen := by unfold maxLen; omega
        have q1 : (0 + (L.length)) * 24 ≤ 140737488355328 := by omega
        have q2 : (0 + (L.length) + 1) * 24 ≤ 140737488355328 := by omega
        have q3 : (0 + (L.length) + 1 + (0)) * 24 ≤ 140737488355328 := by omega
        have M1 := Lib.hid m1; have M2 := Lib.hid m2; have M3 := Lib.hid m3; have Q1 := Lib.hid q1; have Q2 := Lib.hid q2; have Q3 := Lib.hid q3
        have OW1 := Lib.hid own1; have OW2 := Lib.hid own2; have OW3 := Lib.hid own3; have BB1 := Lib.hid bb1; have BB2 := Lib.hid bb2; have BB3 := Lib.hid bb3
        clear m1 m2 m3 q1 q2 q3 own1 own2 own3 bb1 bb2 bb3 sl2 sl3
        go_region_law (first
          | ((with_reducible refine step_append_sl _ (o := ⟨some 50, _, _, _, _, _⟩) ?_ (.tmp 46) (.tmp 49) 30 ?_ w.heap.size 37 i0 _ 2 24 Tryz.underlying30 hi0 hz0 hz1 hz2 ?_ (by omega) _ 0 [] ?_ OW1.out 0 w.heap.size _ ((L.length)) (itemCells L) ?_ (HP.out _ BB1.out) OP.out M1.out Q1.out BB1.out.size ?_)
             rfl; rfl; rfl; (simp [Act.eval]); (simp [Act.eval])
             intro v1 w1 hv1 hg1 hat1
             have hB1 := G1.out _ hg1; clear hg1 hat1)
          | ((with_reducible refine step_append_sl _ (o := ⟨some 50, _, _, _, _, _⟩) ?_ (.tmp 46) (.tmp 49) 30 ?_ w.heap.size 37 i0 _ 2 24 Tryz.underlying30 hi0 hz0 hz1 hz2 ?_ (by omega) _ 0 [] ?_ OW2.out 0 w.heap.size _ ((L.length)) (itemCells L) ?_ (HP.out _ BB2.out) OP.out M1.out Q1.out BB2.out.size ?_)
             rfl; rfl; rfl; (simp [Act.eval]); (simp [Act.eval])
             intro v1 w1 hv1 hg1 hat1
             have hB1 := (G2.out _ hg1).1; have hs54 := (G2.out _ hg1).2; clear hg1 hat1)
          | ((with_reducible refine step_append_sl _ (o := ⟨some 50, _, _, _, _, _⟩) ?_ (.tmp 46) (.tmp 49) 30 ?_ w.heap.size 37 i0 _ 2 24 Tryz.underlying30 hi0 hz0 hz1 hz2 ?_ (by omega) _ 0 [] ?_ OW3.out 0 w.heap.size _ ((L.length)) (itemCells L) ?_ (HP.out _ BB3.out) OP.out M1.out Q1.out BB3.out.size ?_)
             rfl; rfl; rfl; (simp [Act.eval]); (simp [Act.eval])
             intro v1 w1 hv1 hg1 hat1
             have hB1 := (G3.out _ hg1).1; have hs54 := (G3.out _ hg1).2; clear hg1 hat1)
          | ((with_reducible refine step_append_sl _ (o := ⟨some 55, _, _, _, _, _⟩) ?_ (.tmp 50) (.tmp 54) 30 ?_ w.heap.size 37 i0 _ 2 24 Tryz.underlying30 hi0 hz0 hz1 hz2 ?_ (by omega) _ (0 + (L.length)) _ ?_ hv1 _ _ _ 1 [.string g, .int .i64 n] ?_ hs54 OX.out M2.out Q2.out hB1.size ?_)
             rfl; rfl; rfl; (simp [Act.eval]); (simp [Act.eval])
             intro v2 w2 hv2 hg2 hat2
             have hB2 : Below w.heap.size w w2 := hB1.grown hg2 hB1.size (fun g hg => (hv1.lt g hg).1); clear hg2 hat2 hv1 hs54)
          | ((with_reducible refine step_append_sl _ (o := ⟨some 55, _, _, _, _, _⟩) ?_ (.tmp 50) (.tmp 54) 30 ?_ w.heap.size 37 i0 _ 2 24 Tryz.underlying30 hi0 hz0 hz1 hz2 ?_ (by omega) _ (0 + (L.length)) _ ?_ (hv1.alloc _) _ _ _ 1 [.string g, .int .i64 n] ?_ (Sl.new w1 #[.string g, .int .i64 n] 37 (n := 1) (size := 2) rfl (Nat.le_trans (Nat.le_add_left _ _) M2.out)) OX.out M2.out Q2.out (hB1.alloc hB1.size _).size ?_)
             rfl; rfl; rfl; (simp [Act.eval]); (simp [Act.eval])
             intro v2 w2 hv2 hg2 hat2
             have hB2 : Below w.heap.size w w2 := (hB1.alloc hB1.size _).grown hg2 (hB1.alloc hB1.size _).size (fun g hg => (hv1.lt g hg).1); clear hg2 hat2 hv1)
          | ((with_reducible refine step_append_sl _ (o := ⟨some 59, _, _, _, _, _⟩) ?_ (.tmp 55) (.tmp 58) 30 ?_ w.heap.size 37 i0 _ 2 24 Tryz.underlying30 hi0 hz0 hz1 hz2 ?_ (by omega) _ (0 + (L.length) + 1) _ ?_ hv2 0 w.heap.size _ ((0)) (([] : List Value)) ?_ ((fun _ => HQ.out _) hB2) OQ.out M3.out Q3.out hB2.size ?_)
             rfl; rfl; rfl; (simp [Act.eval]); (simp [Act.eval])
             intro v3 w3 hv3 hg3 hat3
             have hB3 : Below w.heap.size w w3 := hB2.grown hg3 hB2.size (fun g hg => (hv2.lt g hg).1); clear hg3 hat3 hv2 hB2))
        all_goals
          rw [show ([] ++ itemCells L ++ [Value.string g, .int .i64 n] ++ []) = itemCells R by rw [HR.out, List.take_length, List.drop_length, itemCells_append, itemCells_append]; rfl, show 0 + L.length + 1 + 0 = R.length by rw [HR.out]; simp] at hv3
          generalize (if c = L.length then (some (⟨b, o, none⟩ : Addr)) else some ⟨b, o + L.length * 2, none⟩) = A58
          obtain ⟨A9, c9, rfl, -⟩ := (ItemsAt.of_own hv3).form
          go_wp2
          go_ret
          exact ⟨⟨_, rfl, hv3⟩, hB3⟩
end It
end Go.Proofs.YtdbkkldgobkjcaaGreat
