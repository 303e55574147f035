/-
  parcels: Back, Undo.
-/
import Derived.Test.YtdbkkldgobkjcaaPcF
namespace Go.Proofs.Ytdbkkldgobkjcaa
open Go.RowKit Go.Maps
namespace Pc
open It Mv

theorem back_ok {d : Row} (hd : OkR d) {l : List It.Item} (hM : M l) (h : (withinOf d.sh d.ba l).2 = 0) : OkR { d with ba := (withinOf d.sh d.ba l).1 } := by
  obtain ⟨h1, h2, -, -⟩ := within_ok hd.ba hM h
  exact ⟨hd.od, hd.wa, hd.some, hd.sh, h1, hd.cs, h2, hd.fr⟩
theorem undo_ok {d : Row} (hd : OkR d) {l : List It.Item} (hM : M l) (h : (minusOf d.ba l).2 = 0) : OkR { d with ba := (minusOf d.ba l).1 } := by
  obtain ⟨h1, h2⟩ := minus_ok hd.ba hM h
  exact ⟨hd.od, hd.wa, hd.some, hd.sh, h1, hd.cs, order_trans hd.sh hd.ba h1 hd.cb h2, hd.fr⟩

set_option maxRecDepth 100000 in
set_option maxHeartbeats 8000000 in
theorem back_calls (od : Int) (l : List It.Item) (lv : Value) (base b mb : Nat) (X : Nat → Prop) (ds : List Row) (w : World) (h : PcAt w base b mb X ds) (hI : ItemsAt w 0 w.heap.size lv l) (hF : Fits l) (h0 : -9223372036854775808 ≤ od) (h1 : od ≤ 9223372036854775807) :
    Calls Try.prog 32 #[.pointer (some ⟨b, 0, none⟩), .int .i64 od, lv] w fun e w' => e = .returned (.int .i64 (backOf ds od l).2) ∧ PcAt w' base b mb X (backOf ds od l).1 ∧ Other mb ds w w' := by
  obtain ⟨m, hm, hR⟩ := h.map
  have g0 : w.cell? ⟨b, 0, none⟩ = some (.map (some mb)) := h.ob.cell (j := 0) rfl
  have hmb := hm.lt
  have hbl := h.ob.lt
  obtain ⟨hs, hv⟩ := h.val od hR
  have cR := row_calls od l lv b mb m ds w g0 hbl hm hs hv hI hF h0 h1
  have HM := Lib.hid hm
  have HR := Lib.hid hR
  have H := Lib.hid h
  have HI := Lib.hid hI
  have HS1 := Lib.hid (show backOf ds od l = match findR ds od with
    | none => (ds, 4)
    | some d => if may l = false then (ds, 60) else if (withinOf d.sh d.ba l).2 = 0 then (putR ds { d with ba := (withinOf d.sh d.ba l).1 }, 0) else (ds, (withinOf d.sh d.ba l).2) from rfl)
  obtain ⟨Al, cl, rfl, -⟩ := hI.form
  generalize backOf ds od l = R at *
  have CR := Lib.hid cR
  clear hm hR h hI hs hv cR
  by_cases hrc : rowCode ds od l = 0
  · obtain ⟨d, hf, hml⟩ : ∃ d, findR ds od = some d ∧ may l = true := by
      unfold rowCode at hrc
      cases hf : findR ds od with
      | none => rw [hf] at hrc; simp at hrc
      | some d =>
        rw [hf] at hrc
        cases hml : may l with
        | false => rw [hml] at hrc; simp at hrc
        | true => exact ⟨d, rfl, rfl⟩
    obtain ⟨hmem, hdod⟩ := findR_mem hf
    have hd := H.out.ok d hmem
    obtain ⟨val, hg, v1, v2, v3, ev, i1, i2, i3⟩ := HR.out.some hf
    have e : rowVal ds od l m = rowV d v1 v2 v3 := by unfold rowVal; rw [if_pos hrc, hg, ← ev]; rfl
    have cR := CR.out
    rw [hrc, e] at cR
    have hS1 := HS1.out
    rw [hf] at hS1
    dsimp only at hS1
    rw [hml, if_neg (by simp)] at hS1
    have I1 := Lib.hid i1
    have I2 := Lib.hid i2
    have I3 := Lib.hid i3
    obtain ⟨A1, c1, rfl, -⟩ := i1.items.form
    obtain ⟨A2, c2, rfl, -⟩ := i2.items.form
    obtain ⟨A3, c3, rfl, -⟩ := i3.items.form
    simp only [rowV] at cR
    have CR2 := Lib.hid cR
    have HS3 := Lib.hid hS1
    have HF := Lib.hid (H.out.frm d hmem)
    have HD := Lib.hid hd
    have HFL := Lib.hid (H.out.frm d hmem).lt
    have HE := Lib.hid (And.intro hf (And.intro hml (And.intro hmem hdod)))
    clear CR HS1 hrc hg ev i1 i2 i3 e cR hS1 hd hf hml hmem hdod
    have cW := Lib.hid (fun W (hb : Below w.heap.size w W) => within_calls d.sh d.ba l _ _ _ W (I2.out.items.mono hb hb.size) (I3.out.items.mono hb hb.size) (HI.out.mono hb hb.size) (fits_of HD.out.sh) (fits_of HD.out.ba) hF plus_fits)
    go_enter Try.func32, Try.ntmps32
    go_wp2_with fail
    refine CR2.out.mono ?_
    rintro e W ⟨rfl, hb1⟩
    have hb2 := hb1.alloc hb1.size (.cells #[.int .i64 d.od, .slice A1 d.wa.length c1, .slice A2 d.sh.length c2, .slice A3 d.ba.length c3, .map (some d.fb)] 96)
    have hO := Ob.new W 96 #[.int .i64 d.od, .slice A1 d.wa.length c1, .slice A2 d.sh.length c2, .slice A3 d.ba.length c3, .map (some d.fb)]
    have cW2 := Lib.hid (cW.out _ hb2)
    have HW1 := Lib.hid hb1.size
    clear cW CR2
    by_cases hwc : (withinOf d.sh d.ba l).2 = 0
    · obtain rfl : R = (putR ds { d with ba := (withinOf d.sh d.ba l).1 }, 0) := by rw [HS3.out, if_pos hwc]
      have HOK := Lib.hid (back_ok HD.out ((may_iff l).1 HE.out.2.1) hwc)
      generalize hRW : withinOf d.sh d.ba l = RW at cW2 hwc
      obtain ⟨sl, sc⟩ := RW
      dsimp only at cW2 hwc
      subst hwc
      have HRW := Lib.hid hRW
      clear hRW
      go_wp2_with fail
      refine cW2.out.mono ?_
      rintro e W2 ⟨⟨vs, rfl, hvs⟩, hb3⟩
      have HVS := Lib.hid (LiAt.of_own (F := fun i => W.heap.size + 1 ≤ i) hvs (fun i hi _ => by simpa using hi))
      obtain ⟨As, cs, rfl, -⟩ := (ItemsAt.of_own hvs).form
      have hb4 := hb2.trans (hb3.mono hb2.size)
      have hO2 := hO.same hb3
      have hO3 := hO2.set 3 (.slice As sl.length cs)
      have hg3 := grownBy_set W2 W.heap.size 3 (.slice As sl.length cs)
      have hw1 := HW1.out
      have hb5 := hb4.grown hg3 hb4.size (fun g e => by cases e; exact hw1)
      have HB5 := Lib.hid hb5
      have HG3 := Lib.hid hg3
      have HF4 := Lib.hid (HF.out.below hb5 HFL.out)
      have hfl2 := HFL.out
      obtain ⟨q0, q1, q2, q3, q4⟩ := hO2.five
      have f3 := hO2.frozen 3
      clear hvs hb1 hb2 hb3 hb4 hb5 hg3 hO
      go_wp2_with fail
      generalize hW4 : W2.setCell ⟨W.heap.size, 3, none⟩ (.slice As sl.length cs) = W4 at *
      clear hW4
      have hdn : W4.grownBy W4.drew none := only_of_below (Below.refl _ W4).drew none
      have gbd : W4.drew.cell? ⟨b, 0, none⟩ = some (.map (some mb)) := (HB5.out.cell (p := ⟨b, 0, none⟩) hbl).trans g0
      have hOd := hO3.kept hdn (by simp)
      have hMd := Lib.hid ((HM.out.below HB5.out hmb).kept hdn (by simp))
      have hm40 := H.out.short HM.out HR.out
      have hkey := Lib.hid (keyI h0 h1)
      clear q0 q1 q2 q3 q4 f3 hO2 hO3
      refine Pu.regionM [(0, false), (1, false), (2, false), (3, false), (4, false), (5, false), (6, true)] (fun V => Ob V W.heap.size 96 #[.int .i64 d.od, .slice A1 d.wa.length c1, .slice A2 d.sh.length c2, .slice As sl.length cs, .map (some d.fb)] ∧ V.cell? ⟨b, 0, none⟩ = some (.map (some mb))) hmx (by kernel_rfl) (by kernel_rfl) (by kernel_rfl) ⟨hOd, gbd⟩ rfl ?_
      simp only [Pu.named, List.filterMap_cons, List.filterMap_nil, List.getElem?_toArray, List.getElem?_cons_succ, List.getElem?_cons_zero, Option.map_some]
      iterate 6 (apply Pu.WalkM.on (by rfl)
                 · rintro V ⟨hOW, gW⟩
                   obtain ⟨q0, q1, q2, q3, q4⟩ := hOW.five
                   go_wp2_with fail
                   refine ⟨rfl, ?_, rfl⟩
                   try simp only [Act.put, List.setIfInBounds_toArray, List.set_cons_succ, List.set_cons_zero]
                   rfl
                 simp only [Act.put, List.setIfInBounds_toArray, List.set_cons_succ, List.set_cons_zero])
      refine Pu.WalkM.make (by rfl) ?_
      rintro V rfl
      refine wpList_put_g rfl (.tmp 39) (.tmp 40) (.tmp 41) _ rfl 3 _ keyedI Try.underlying92 rfl hMd.out (by unfold maxLen; omega) _ (.agg #[.int .i64 d.od, .slice A1 d.wa.length c1, .slice A2 d.sh.length c2, .slice As sl.length cs, .map (some d.fb)]) _ rfl rfl hkey.out ?_
      intro W5 hM5 hg5
      refine ⟨rfl, undef, (fun _ => True), (fun V => V = W5), rfl, rfl, (fun _ _ => trivial), (.inl (by kernel_rfl)), Pu.WalkM.nil ?_⟩
      rintro V rfl
      simp only [Act.put]
      have hk4 : Kept (fun i => i < w.heap.size ∧ i ≠ d.fb) w W4.drew := (Kept.of_below HB5.out.drew fun _ hi => hi.1)
      have hks : Kept (fun i => i < W2.heap.size ∧ W.heap.size + 1 ≤ i) W2 W4.drew := (Kept.of_grown HG3.out fun i hi => ⟨hi.1, fun e => by have := Option.some.inj e; omega⟩).trans (Kept.of_below (Below.refl W4.heap.size W4).drew fun i hi => Nat.lt_of_lt_of_le hi.1 HG3.out.size)
      rw [show od = d.od from HE.out.2.2.2.symm] at hM5
      obtain ⟨f1, f2⟩ := set_fin (d := { d with ba := sl }) H.out HR.out HE.out.2.2.1 rfl rfl (fun x hx e => uniq H.out HM.out HR.out HE.out.2.2.1 hx e) hk4 (by have := HOK.out; rw [HRW.out] at this; exact this)
        ⟨_, _, _, rfl, I1.out.keep hk4 (fun i hi hf => ⟨⟨hi, hf.2.2.2 d HE.out.2.2.1⟩, .inl ⟨hi, hf⟩⟩), I2.out.keep hk4 (fun i hi hf => ⟨⟨hi, hf.2.2.2 d HE.out.2.2.1⟩, .inl ⟨hi, hf⟩⟩), HVS.out.keep hks (fun i hi hf => ⟨⟨hi, hf⟩, .inr (by omega)⟩)⟩ (HF4.out.kept hdn (by simp)) hM5 hg5
      have F1 := Lib.hid f1
      have F2 := Lib.hid f2
      clear f1 f2 hM5 hg5
      go_wp2
      go_ret
      exact ⟨rfl, by rw [HRW.out]; exact F1.out, F2.out⟩
    · have hwb : ((withinOf d.sh d.ba l).2 == 0) = false := by simpa using hwc
      obtain rfl : R = (ds, (withinOf d.sh d.ba l).2) := by rw [HS3.out, if_neg hwc]
      generalize hRW : withinOf d.sh d.ba l = RW at cW2 hwb
      have HRW := Lib.hid hRW
      clear hRW
      go_wp2_with fail
      refine cW2.out.mono ?_
      rintro e W2 ⟨⟨v, rfl, hv⟩, hb3⟩
      have hb4 := hb2.trans (hb3.mono hb2.size)
      go_wp2
      go_ret
      exact ⟨by rw [HRW.out]; rfl, H.out.same hb4, Other.of_below hb4⟩
  · have hRc : R = (ds, rowCode ds od l) := by
      rw [HS1.out]
      unfold rowCode
      cases hf : findR ds od with
      | none => rfl
      | some d =>
        cases hml : may l with
        | false => rfl
        | true => unfold rowCode at hrc; rw [hf, hml] at hrc; simp at hrc
    subst hRc
    have hrb : (rowCode ds od l != 0) = true := by simpa using hrc
    have cR := CR.out
    rw [rowVal_not hrc] at cR
    simp only [zrow] at cR
    have CR2 := Lib.hid cR
    generalize rowCode ds od l = RC at *
    clear cR CR HS1 hrc
    go_enter Try.func32, Try.ntmps32
    go_wp2_with fail
    refine CR2.out.mono ?_
    rintro e W ⟨rfl, hb1⟩
    have hb2 := hb1.alloc hb1.size (.cells #[.int .i64 0, .slice none 0 0, .slice none 0 0, .slice none 0 0, .map none] 96)
    go_wp2
    go_ret
    exact ⟨rfl, H.out.same hb2, Other.of_below hb2⟩

set_option maxRecDepth 100000 in
set_option maxHeartbeats 8000000 in
theorem undo_calls (od : Int) (l : List It.Item) (lv : Value) (base b mb : Nat) (X : Nat → Prop) (ds : List Row) (w : World) (h : PcAt w base b mb X ds) (hI : ItemsAt w 0 w.heap.size lv l) (hF : Fits l) (h0 : -9223372036854775808 ≤ od) (h1 : od ≤ 9223372036854775807) :
    Calls Try.prog 33 #[.pointer (some ⟨b, 0, none⟩), .int .i64 od, lv] w fun e w' => e = .returned (.int .i64 (undoOf ds od l).2) ∧ PcAt w' base b mb X (undoOf ds od l).1 ∧ Other mb ds w w' := by
  obtain ⟨m, hm, hR⟩ := h.map
  have g0 : w.cell? ⟨b, 0, none⟩ = some (.map (some mb)) := h.ob.cell (j := 0) rfl
  have hmb := hm.lt
  have hbl := h.ob.lt
  obtain ⟨hs, hv⟩ := h.val od hR
  have cR := row_calls od l lv b mb m ds w g0 hbl hm hs hv hI hF h0 h1
  have HM := Lib.hid hm
  have HR := Lib.hid hR
  have H := Lib.hid h
  have HI := Lib.hid hI
  have HS1 := Lib.hid (show undoOf ds od l = match findR ds od with
    | none => (ds, 4)
    | some d => if may l = false then (ds, 60) else if (minusOf d.ba l).2 = 0 then (putR ds { d with ba := (minusOf d.ba l).1 }, 0) else (ds, (minusOf d.ba l).2) from rfl)
  obtain ⟨Al, cl, rfl, -⟩ := hI.form
  generalize undoOf ds od l = R at *
  have CR := Lib.hid cR
  clear hm hR h hI hs hv cR
  by_cases hrc : rowCode ds od l = 0
  · obtain ⟨d, hf, hml⟩ : ∃ d, findR ds od = some d ∧ may l = true := by
      unfold rowCode at hrc
      cases hf : findR ds od with
      | none => rw [hf] at hrc; simp at hrc
      | some d =>
        rw [hf] at hrc
        cases hml : may l with
        | false => rw [hml] at hrc; simp at hrc
        | true => exact ⟨d, rfl, rfl⟩
    obtain ⟨hmem, hdod⟩ := findR_mem hf
    have hd := H.out.ok d hmem
    obtain ⟨val, hg, v1, v2, v3, ev, i1, i2, i3⟩ := HR.out.some hf
    have e : rowVal ds od l m = rowV d v1 v2 v3 := by unfold rowVal; rw [if_pos hrc, hg, ← ev]; rfl
    have cR := CR.out
    rw [hrc, e] at cR
    have hS1 := HS1.out
    rw [hf] at hS1
    dsimp only at hS1
    rw [hml, if_neg (by simp)] at hS1
    have I1 := Lib.hid i1
    have I2 := Lib.hid i2
    have I3 := Lib.hid i3
    obtain ⟨A1, c1, rfl, -⟩ := i1.items.form
    obtain ⟨A2, c2, rfl, -⟩ := i2.items.form
    obtain ⟨A3, c3, rfl, -⟩ := i3.items.form
    simp only [rowV] at cR
    have CR2 := Lib.hid cR
    have HS3 := Lib.hid hS1
    have HF := Lib.hid (H.out.frm d hmem)
    have HD := Lib.hid hd
    have HFL := Lib.hid (H.out.frm d hmem).lt
    have HE := Lib.hid (And.intro hf (And.intro hml (And.intro hmem hdod)))
    clear CR HS1 hrc hg ev i1 i2 i3 e cR hS1 hd hf hml hmem hdod
    have cW := Lib.hid (fun W (hb : Below w.heap.size w W) => minus_calls d.ba l _ _ W (I3.out.items.mono hb hb.size) (HI.out.mono hb hb.size) (fits_of HD.out.ba) hF)
    go_enter Try.func33, Try.ntmps33
    go_wp2_with fail
    refine CR2.out.mono ?_
    rintro e W ⟨rfl, hb1⟩
    have hb2 := hb1.alloc hb1.size (.cells #[.int .i64 d.od, .slice A1 d.wa.length c1, .slice A2 d.sh.length c2, .slice A3 d.ba.length c3, .map (some d.fb)] 96)
    have hO := Ob.new W 96 #[.int .i64 d.od, .slice A1 d.wa.length c1, .slice A2 d.sh.length c2, .slice A3 d.ba.length c3, .map (some d.fb)]
    have cW2 := Lib.hid (cW.out _ hb2)
    have HW1 := Lib.hid hb1.size
    clear cW CR2
    by_cases hwc : (minusOf d.ba l).2 = 0
    · obtain rfl : R = (putR ds { d with ba := (minusOf d.ba l).1 }, 0) := by rw [HS3.out, if_pos hwc]
      have HOK := Lib.hid (undo_ok HD.out ((may_iff l).1 HE.out.2.1) hwc)
      generalize hRW : minusOf d.ba l = RW at cW2 hwc
      obtain ⟨sl, sc⟩ := RW
      dsimp only at cW2 hwc
      subst hwc
      have HRW := Lib.hid hRW
      clear hRW
      go_wp2_with fail
      refine cW2.out.mono ?_
      rintro e W2 ⟨⟨vs, rfl, hvs⟩, hb3⟩
      have HVS := Lib.hid (LiAt.of_own (F := fun i => W.heap.size + 1 ≤ i) hvs (fun i hi _ => by simpa using hi))
      obtain ⟨As, cs, rfl, -⟩ := (ItemsAt.of_own hvs).form
      have hb4 := hb2.trans (hb3.mono hb2.size)
      have hO2 := hO.same hb3
      have hO3 := hO2.set 3 (.slice As sl.length cs)
      have hg3 := grownBy_set W2 W.heap.size 3 (.slice As sl.length cs)
      have hw1 := HW1.out
      have hb5 := hb4.grown hg3 hb4.size (fun g e => by cases e; exact hw1)
      have HB5 := Lib.hid hb5
      have HG3 := Lib.hid hg3
      have HF4 := Lib.hid (HF.out.below hb5 HFL.out)
      have hfl2 := HFL.out
      obtain ⟨q0, q1, q2, q3, q4⟩ := hO2.five
      have f3 := hO2.frozen 3
      clear hvs hb1 hb2 hb3 hb4 hb5 hg3 hO
      go_wp2_with fail
      generalize hW4 : W2.setCell ⟨W.heap.size, 3, none⟩ (.slice As sl.length cs) = W4 at *
      clear hW4
      have hdn : W4.grownBy W4.drew none := only_of_below (Below.refl _ W4).drew none
      have gbd : W4.drew.cell? ⟨b, 0, none⟩ = some (.map (some mb)) := (HB5.out.cell (p := ⟨b, 0, none⟩) hbl).trans g0
      have hOd := hO3.kept hdn (by simp)
      have hMd := Lib.hid ((HM.out.below HB5.out hmb).kept hdn (by simp))
      have hm40 := H.out.short HM.out HR.out
      have hkey := Lib.hid (keyI h0 h1)
      clear q0 q1 q2 q3 q4 f3 hO2 hO3
      refine Pu.regionM [(0, false), (1, false), (2, false), (3, false), (4, false), (5, false), (6, true)] (fun V => Ob V W.heap.size 96 #[.int .i64 d.od, .slice A1 d.wa.length c1, .slice A2 d.sh.length c2, .slice As sl.length cs, .map (some d.fb)] ∧ V.cell? ⟨b, 0, none⟩ = some (.map (some mb))) hmx (by kernel_rfl) (by kernel_rfl) (by kernel_rfl) ⟨hOd, gbd⟩ rfl ?_
      simp only [Pu.named, List.filterMap_cons, List.filterMap_nil, List.getElem?_toArray, List.getElem?_cons_succ, List.getElem?_cons_zero, Option.map_some]
      iterate 6 (apply Pu.WalkM.on (by rfl)
                 · rintro V ⟨hOW, gW⟩
                   obtain ⟨q0, q1, q2, q3, q4⟩ := hOW.five
                   go_wp2_with fail
                   refine ⟨rfl, ?_, rfl⟩
                   try simp only [Act.put, List.setIfInBounds_toArray, List.set_cons_succ, List.set_cons_zero]
                   rfl
                 simp only [Act.put, List.setIfInBounds_toArray, List.set_cons_succ, List.set_cons_zero])
      refine Pu.WalkM.make (by rfl) ?_
      rintro V rfl
      refine wpList_put_g rfl (.tmp 36) (.tmp 37) (.tmp 38) _ rfl 3 _ keyedI Try.underlying92 rfl hMd.out (by unfold maxLen; omega) _ (.agg #[.int .i64 d.od, .slice A1 d.wa.length c1, .slice A2 d.sh.length c2, .slice As sl.length cs, .map (some d.fb)]) _ rfl rfl hkey.out ?_
      intro W5 hM5 hg5
      refine ⟨rfl, undef, (fun _ => True), (fun V => V = W5), rfl, rfl, (fun _ _ => trivial), (.inl (by kernel_rfl)), Pu.WalkM.nil ?_⟩
      rintro V rfl
      simp only [Act.put]
      have hk4 : Kept (fun i => i < w.heap.size ∧ i ≠ d.fb) w W4.drew := (Kept.of_below HB5.out.drew fun _ hi => hi.1)
      have hks : Kept (fun i => i < W2.heap.size ∧ W.heap.size + 1 ≤ i) W2 W4.drew := (Kept.of_grown HG3.out fun i hi => ⟨hi.1, fun e => by have := Option.some.inj e; omega⟩).trans (Kept.of_below (Below.refl W4.heap.size W4).drew fun i hi => Nat.lt_of_lt_of_le hi.1 HG3.out.size)
      rw [show od = d.od from HE.out.2.2.2.symm] at hM5
      obtain ⟨f1, f2⟩ := set_fin (d := { d with ba := sl }) H.out HR.out HE.out.2.2.1 rfl rfl (fun x hx e => uniq H.out HM.out HR.out HE.out.2.2.1 hx e) hk4 (by have := HOK.out; rw [HRW.out] at this; exact this)
        ⟨_, _, _, rfl, I1.out.keep hk4 (fun i hi hf => ⟨⟨hi, hf.2.2.2 d HE.out.2.2.1⟩, .inl ⟨hi, hf⟩⟩), I2.out.keep hk4 (fun i hi hf => ⟨⟨hi, hf.2.2.2 d HE.out.2.2.1⟩, .inl ⟨hi, hf⟩⟩), HVS.out.keep hks (fun i hi hf => ⟨⟨hi, hf⟩, .inr (by omega)⟩)⟩ (HF4.out.kept hdn (by simp)) hM5 hg5
      have F1 := Lib.hid f1
      have F2 := Lib.hid f2
      clear f1 f2 hM5 hg5
      go_wp2
      go_ret
      exact ⟨rfl, by rw [HRW.out]; exact F1.out, F2.out⟩
    · have hwb : ((minusOf d.ba l).2 == 0) = false := by simpa using hwc
      obtain rfl : R = (ds, (minusOf d.ba l).2) := by rw [HS3.out, if_neg hwc]
      generalize hRW : minusOf d.ba l = RW at cW2 hwb
      have HRW := Lib.hid hRW
      clear hRW
      go_wp2_with fail
      refine cW2.out.mono ?_
      rintro e W2 ⟨⟨v, rfl, hv⟩, hb3⟩
      have hb4 := hb2.trans (hb3.mono hb2.size)
      go_wp2
      go_ret
      exact ⟨by rw [HRW.out]; rfl, H.out.same hb4, Other.of_below hb4⟩
  · have hRc : R = (ds, rowCode ds od l) := by
      rw [HS1.out]
      unfold rowCode
      cases hf : findR ds od with
      | none => rfl
      | some d =>
        cases hml : may l with
        | false => rfl
        | true => unfold rowCode at hrc; rw [hf, hml] at hrc; simp at hrc
    subst hRc
    have hrb : (rowCode ds od l != 0) = true := by simpa using hrc
    have cR := CR.out
    rw [rowVal_not hrc] at cR
    simp only [zrow] at cR
    have CR2 := Lib.hid cR
    generalize rowCode ds od l = RC at *
    clear cR CR HS1 hrc
    go_enter Try.func33, Try.ntmps33
    go_wp2_with fail
    refine CR2.out.mono ?_
    rintro e W ⟨rfl, hb1⟩
    have hb2 := hb1.alloc hb1.size (.cells #[.int .i64 0, .slice none 0 0, .slice none 0 0, .slice none 0 0, .map none] 96)
    go_wp2
    go_ret
    exact ⟨rfl, H.out.same hb2, Other.of_below hb2⟩
end Pc
end Go.Proofs.Ytdbkkldgobkjcaa
