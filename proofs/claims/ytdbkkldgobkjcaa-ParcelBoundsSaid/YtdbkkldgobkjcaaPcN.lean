/-
  parcels: the law Bounds.
-/
import Derived.Test.YtdbkkldgobkjcaaPcM
import Derived.Test.YtdbkkldgobkjcaaPcH
import Derived.Test.YtdbkkldgobkjcaaOpp
namespace Go.Proofs.Ytdbkkldgobkjcaa
open Go.RowKit Go.Maps
namespace Pc
open It Mv

theorem zeroI (w : World) : (zeroValue 3).run Try.prog w = .ok (.int .i64 0) w := by kernel_rfl
theorem sent_get (ds : List Row) (od : Int) : ofSum sa ((findR ds od).getD pcl0).sh = sentOf ds od := by unfold sentOf; cases findR ds od <;> rfl
theorem back_get (ds : List Row) (od : Int) : ofSum sa ((findR ds od).getD pcl0).ba = backA ds od := by unfold backA; cases findR ds od <;> rfl

set_option maxRecDepth 100000 in
set_option maxHeartbeats 16000000 in
theorem bounds_law (os : List OpV) (v : Value) (w : World) (hO : OpsAt w w.heap.size v os) (hok : ∀ o ∈ os, OkOp o) :
    Calls Try.prog 8 #[v] w fun e w' => e = .returned (.bool true) ∧ Below w.heap.size w w' := by
  obtain ⟨A, c, rfl, hc1, hc2⟩ := hO.form
  unfold maxLen at hc2
  have cL := Lib.hid lives_calls
  have hmm := @run_makeMap Try.prog
  go_enter Try.func8, Try.ntmps8
  go_wp2_with fail
  refine (new_calls w).mono ?_
  rintro e w1 ⟨⟨b, mb, rfl, hM⟩, h1⟩
  replace hM := hM (fun _ => False) (fun _ h => h.elim)
  go_wp2_with fail
  refine (cL.out w1).mono ?_
  rintro e w2 ⟨rfl, h2⟩
  have hM2 := hM.same h2
  have hB2 := h1.trans (h2.mono h1.size)
  clear hM h1 h2
  go_wp2
  have hB3 := (hB2.alloc hB2.size (.map #[] 0)).alloc (by have := hB2.size; simp; omega) (.map #[] 0)
  have hal := ((Below.refl w2.heap.size w2).alloc (Nat.le_refl _) (.map #[] 0)).alloc (by simp) (.map #[] 0)
  have hM3 : PcAt ((w2.alloc (.map #[] 0)).alloc (.map #[] 0)) w.heap.size b mb (fun i => i = w2.heap.size ∨ i = w2.heap.size + 1) [] := hM2.more hal fun i hi => ⟨.inr (by omega), by simp; omega⟩
  have hW3 : GMap intK ((w2.alloc (.map #[] 0)).alloc (.map #[] 0)) Try.prog 3 w2.heap.size [] := (GMap.made (K := intK) w2 Try.prog 3).below ((Below.refl (w2.heap.size + 1) _).alloc (by simp) _) (by omega)
  have hG3 : GMap intK ((w2.alloc (.map #[] 0)).alloc (.map #[] 0)) Try.prog 3 (w2.heap.size + 1) [] := by
    have := GMap.made (K := intK) (w2.alloc (.map #[] 0)) Try.prog 3
    rwa [World.size_alloc] at this
  have hws := hB2.size
  generalize (w2.alloc (.map #[] 0)).alloc (.map #[] 0) = w3 at *
  generalize w2.heap.size = wb at *
  have HM3 := Lib.hid hM3
  have HW3 := Lib.hid hW3
  have HG3 := Lib.hid hG3
  have HB3 := Lib.hid hB3
  clear hM3 hW3 hG3 hB3 hM2 hB2 hal hmm
  go_loopw [6] (fun i wr => ∃ (k : Nat) (ds : List Row) (mw ms : List (Int × Value)), k ≤ os.length ∧ k ≤ 200 ∧ i = .int .i64 k ∧ Below w.heap.size w wr ∧ PcAt wr w.heap.size b mb (fun i => i = wb ∨ i = wb + 1) ds ∧ GMap intK wr Try.prog 3 wb mw ∧ GMap intK wr Try.prog 3 (wb + 1) ms ∧ Bnd ds mw ms ∧ mw.length ≤ k ∧ ms.length ≤ k) (fun i _ => os.length - (intOf i).toNat)
  case atStart => exact ⟨0, [], [], [], by omega, by omega, rfl, HB3.out, HM3.out, HW3.out, HG3.out, Bnd.nil, by simp, by simp⟩
  case round =>
    obtain ⟨k, ds, mw, ms, hk, hk2, rfl, hB, hM, hW, hG, hR, hl1, hl2⟩ := hrel
    clear HM3 HW3 HG3 HB3
    by_cases hlt : k < os.length ∧ k < 200
    · obtain ⟨hlt, hlt2⟩ := hlt
      obtain ⟨bo, po, lv, rfl, hbo, hIo, g0, g1, g2, g3⟩ := hO.at_ hlt
      replace g0 := (hB.cell (p := ⟨bo, po + k * 4, none⟩) hbo).trans g0
      replace g1 := (hB.cell (p := ⟨bo, po + k * 4 + 1, none⟩) hbo).trans g1
      replace g2 := (hB.cell (p := ⟨bo, po + k * 4 + 2, none⟩) hbo).trans g2
      replace g3 := (hB.cell (p := ⟨bo, po + k * 4 + 3, none⟩) hbo).trans g3
      have hoo := hok _ (List.getElem_mem hlt)
      generalize os[k] = o at *
      obtain ⟨kd, od, rg, l⟩ := o
      dsimp only at hIo g0 g1 g2 g3
      have hOK := Lib.hid hoo
      obtain ⟨Al, cl, rfl, hcl1, hcl2⟩ := hIo.form
      unfold maxLen at hcl2
      have hd : decide ((k : Int) < (os.length : Int)) = true := by simp; omega
      have hd2 : decide ((k : Int) < 200) = true := by simp; omega
      have hal1 := (Below.refl wr.heap.size wr).alloc (Nat.le_refl _) (.cells #[.int .i64 kd, .int .i64 od, .int .i64 rg, .slice Al l.length cl] 64)
      have hB1 := hB.trans (hal1.mono hB.size)
      have hM1 := hM.same hal1
      have hW1 := hW.below hal1 hW.lt
      have hG1 := hG.below hal1 hG.lt
      have HI0 := Lib.hid (fun W (h : Below w.heap.size w W) => hIo.mono h h.size)
      have hI1 := HI0.out _ hB1
      have hbr := hM.ob.lt
      have hwr := hG.lt
      obtain ⟨m', hm', -⟩ := hM.map
      have hmbr := hm'.lt
      have HFR := Lib.hid (fun (d : Row) (hd : d ∈ ds) => GMap.lt (hM.frm d hd))
      have HSEP := Lib.hid (And.intro hM.nx.2 hM.sep)
      have HOTH := Lib.hid (fun (i : Nat) (hi : i = wb ∨ i = wb + 1) => And.intro (show i ≠ mb from fun e => hM.nx.2 (by rw [← e]; exact hi)) (show ∀ d ∈ ds, i ≠ d.fb from fun d hd e => (hM.sep d hd).2.2.1 (by rw [← e]; exact hi)))
      have HOB := Lib.hid (And.intro (show wr.heap.size ≠ mb by omega) (show ∀ d ∈ ds, wr.heap.size ≠ d.fb from fun d hd e => by have := HFR.out d hd; omega))
      have hO7 := Ob.new wr 64 #[.int .i64 kd, .int .i64 od, .int .i64 rg, .slice Al l.length cl]
      have HB := Lib.hid hB1
      have HM := Lib.hid hM1
      have HW := Lib.hid hW1
      have HG := Lib.hid hG1
      have HR := Lib.hid hR
      have HI := Lib.hid hI1
      clear hB hM hW hG hR hoo hIo hB1 hM1 hW1 hG1 hI1 hal1 hm'
      by_cases hlong : 100 < l.length
      · have hd3 : decide ((l.length : Int) > 100) = true := by simp; omega
        go_wp2
        exact ⟨⟨k + 1, ds, mw, ms, by omega, by omega, by go_num, HB.out, HM.out, HW.out, HG.out, HR.out, by omega, by omega⟩, by simp [intOf]; omega⟩
      · have hd3 : decide ((l.length : Int) > 100) = false := by simp; omega
        have hkey := Lib.hid (keyI hOK.out.od.1 hOK.out.od.2)
        obtain ⟨q0, q1, q2, q3⟩ := hO7.four
        have cOf := Lib.hid (refof_calls l sa _ _ HI.out)
        have HOF := Lib.hid (show ofSum sa l = ofSum sa l from rfl)
        by_cases e1 : kd = 1
        · subst e1
          have cG := Lib.hid (open_calls od l _ w.heap.size b mb _ ds _ HM.out HI.out hOK.out.l hOK.out.od.1 hOK.out.od.2 HB.out.size)
          go_wp2_with (go_at_call 25; refine cOf.out.mono ?_; rintro e W ⟨rfl, rfl⟩)
          refine cG.out.mono ?_
          rintro e W2 ⟨⟨fb, rfl, hM2, -⟩, ho2⟩
          clear cG
          have hO72 := ho2.ob hO7 HOB.out.1 HOB.out.2
          have HB2 := Lib.hid (ho2.below HM.out (Nat.le_refl _) HB.out (Nat.le_refl _))
          have HW2 := Lib.hid (ho2.gmap HW.out (HOTH.out _ (.inl rfl)).1 (HOTH.out _ (.inl rfl)).2)
          have HG2 := Lib.hid (ho2.gmap HG.out (HOTH.out _ (.inr rfl)).1 (HOTH.out _ (.inr rfl)).2)
          have HM2 := Lib.hid hM2
          have hw2 := Kept.size ho2
          simp only [World.size_alloc] at hw2
          clear q0 q1 q2 q3 hM2 ho2
          by_cases hcode : (openOf ds od l fb).2 = 0
          · have HR2 := Lib.hid (HR.out.open_ hcode)
            rw [hcode]
            clear hcode
            generalize (openOf ds od l fb).1 = ds2 at *
            generalize ofSum sa l = n at *
            obtain ⟨z0, z1, z2, z3⟩ := hO72.four
            obtain ⟨W3, hput, hW3, hg3⟩ := HW2.out.put (tm := 50) keyedI Try.underlying50 (by unfold maxLen; omega) hkey.out (val := .int .i64 n)
            have hml := mPut_length_le (K := intK) mw od (.int .i64 n)
            have HW3 := Lib.hid hW3
            have HG3 := Lib.hid (HG2.out.kept hg3 (fun e => by have := Option.some.inj e; omega))
            have HM3 := Lib.hid (HM2.out.keep (Kept.of_grown hg3 fun i hi => ⟨hi.1, fun e => hi.2 (.inl (Option.some.inj e))⟩))
            have HB3 := Lib.hid (HB2.out.grown hg3 HB2.out.size (fun g e => by cases e; omega))
            have hO73 := hO72.kept hg3 (fun e => by have := Option.some.inj e; omega)
            clear hW3 hg3 hO72
            have cP := Lib.hid (parcel_calls od w.heap.size b mb _ ds2 W3 HM3.out hOK.out.od.1 hOK.out.od.2)
            have hwt := HR2.out.wt od
            have hst := HR2.out.st od
            have hbd := bounds HM3.out.ok od
            have hsh := sent_get ds2 od
            have hba := back_get ds2 od
            have HSH := Lib.hid hsh
            have HBA := Lib.hid hba
            have hfs := fits_sh HM3.out.ok od
            have hgt1 : decide (sentOf ds2 od > wantOf ds2 od) = false := by simp; omega
            have hgt2 : decide (backA ds2 od > sentOf ds2 od) = false := by simp; omega
            have HWT := Lib.hid hwt
            have HST := Lib.hid hst
            clear hwt hst hbd hsh hba hfs
            generalize sentOf ds2 od = S at *
            generalize wantOf ds2 od = T at *
            generalize backA ds2 od = Bk at *
            generalize (findR ds2 od).isSome = kn at *
            generalize (findR ds2 od).getD pcl0 = dd at *
            obtain ⟨dod, dwa, dsh, dba, dfr, dfb⟩ := dd
            dsimp only at cP HSH HBA
            try clear q0 q1 q2 q3
            obtain ⟨q0, q1, q2, q3⟩ := hO73.four
            go_wp2_with fail
            refine cP.out.mono ?_
            rintro e W5 ⟨⟨u1, u2, u3, rfl, o1, o2, o3⟩, hb5⟩
            dsimp only [pclV]
            have I2 := toAt o2
            have I3 := toAt o3
            obtain ⟨B1, d1, rfl, -⟩ := (toAt o1).form
            obtain ⟨B2, d2, rfl, -⟩ := (toAt o2).form
            obtain ⟨B3, d3, rfl, -⟩ := (toAt o3).form
            have hal5 := ((Below.refl W5.heap.size W5).alloc (Nat.le_refl _) (.cells #[.int .i64 dod, .slice B1 dwa.length d1, .slice B2 dsh.length d2, .slice B3 dba.length d3] 70)).drew
            have hbb := hb5.trans (hal5.mono hb5.size)
            have hX := Ob.new W5 70 #[.int .i64 dod, .slice B1 dwa.length d1, .slice B2 dsh.length d2, .slice B3 dba.length d3]
            have cO2 := refof_calls dsh sa _ _ (I2.mono hal5 hal5.size)
            have cO3 := refof_calls dba sa _ _ (I3.mono hal5 hal5.size)
            rw [HSH.out] at cO2
            rw [HBA.out] at cO3
            unfold sa at cO2 cO3
            have CO2 := Lib.hid cO2
            have CO3 := Lib.hid cO3
            have hlkS := (HG3.out.below hbb HG3.out.lt).look (tm := 50) keyedI Try.underlying50 (zeroI _) hkey.out
            rw [HST.out] at hlkS
            have hlkT := (HW3.out.below hbb HW3.out.lt).look (tm := 50) keyedI Try.underlying50 (zeroI _) hkey.out
            rw [HWT.out] at hlkT
            have hO75 : Ob (W5.alloc (.cells #[.int .i64 dod, .slice B1 dwa.length d1, .slice B2 dsh.length d2, .slice B3 dba.length d3] 70)).drew wr.heap.size _ _ := (hO73.same hb5).alloc (.cells #[.int .i64 dod, .slice B1 dwa.length d1, .slice B2 dsh.length d2, .slice B3 dba.length d3] 70)
            have hX5 : Ob (W5.alloc (.cells #[.int .i64 dod, .slice B1 dwa.length d1, .slice B2 dsh.length d2, .slice B3 dba.length d3] 70)).drew W5.heap.size _ _ := hX
            have HBF := Lib.hid (HB3.out.trans (hbb.mono HB3.out.size))
            have HMF := Lib.hid (HM3.out.same hbb)
            have HWF := Lib.hid (HW3.out.below hbb HW3.out.lt)
            have HGF := Lib.hid (HG3.out.below hbb HG3.out.lt)
            clear cP cO2 cO3 o1 o2 o3 I2 I3 hal5 hbb hX hb5 q0 q1 q2 q3
            go_wp2_with fail
            obtain ⟨q0, q1, q2, q3⟩ := hO75.four
            obtain ⟨p0, p1, p2, p3⟩ := hX5.four
            generalize hW6 : (W5.alloc (.cells #[.int .i64 dod, .slice B1 dwa.length d1, .slice B2 dsh.length d2, .slice B3 dba.length d3] 70)).drew = W6 at *
            clear hO75 hX5
            refine Pu.regionW (fun W' => W' = W6) hmx (by kernel_rfl) (by kernel_rfl) hW6 rfl ?_
            clear hW6
            iterate 29 (first
              | (refine Pu.Walk.off (by rfl) ?_; simp only [Act.put, List.setIfInBounds_toArray, List.set_cons_succ, List.set_cons_zero])
              | (apply Pu.Walk.on (by rfl)
                 · rintro W' rfl
                   go_wp2_with (first | (go_at_call 25; with_reducible refine CO2.out.mono ?_; rintro e W' ⟨rfl, rfl⟩) | (go_at_call 25; with_reducible refine CO3.out.mono ?_; rintro e W' ⟨rfl, rfl⟩))
                   refine ⟨rfl, ?_, rfl⟩
                   try simp only [Act.put, List.setIfInBounds_toArray, List.set_cons_succ, List.set_cons_zero]
                   rfl
                 simp only [Act.put, List.setIfInBounds_toArray, List.set_cons_succ, List.set_cons_zero]))
            refine Pu.Walk.nil (fun W7 h7 => ?_)
            subst h7
            go_wp2
            exact ⟨⟨k + 1, ds2, (mPut intK mw od (.int .i64 n)), ms, by omega, by omega, by go_num, HBF.out, HMF.out, HWF.out, HGF.out, HR2.out, by omega, by omega⟩, by simp [intOf]; omega⟩
          · have hsame := open_same hcode
            have hcb : ((openOf ds od l fb).2 == 0) = false := by simpa using hcode
            have HM22 := HM2.out
            rw [hsame] at HM22
            have HM3 := Lib.hid HM22
            generalize (openOf ds od l fb).2 = gc at *
            clear hcode hsame HM2 HM22
            have cP := Lib.hid (parcel_calls od w.heap.size b mb _ ds W2 HM3.out hOK.out.od.1 hOK.out.od.2)
            have hwt := HR.out.wt od
            have hst := HR.out.st od
            have hbd := bounds HM3.out.ok od
            have hsh := sent_get ds od
            have hba := back_get ds od
            have HSH := Lib.hid hsh
            have HBA := Lib.hid hba
            have hfs := fits_sh HM3.out.ok od
            have hgt1 : decide (sentOf ds od > wantOf ds od) = false := by simp; omega
            have hgt2 : decide (backA ds od > sentOf ds od) = false := by simp; omega
            have HWT := Lib.hid hwt
            have HST := Lib.hid hst
            clear hwt hst hbd hsh hba hfs
            generalize sentOf ds od = S at *
            generalize wantOf ds od = T at *
            generalize backA ds od = Bk at *
            generalize (findR ds od).isSome = kn at *
            generalize (findR ds od).getD pcl0 = dd at *
            obtain ⟨dod, dwa, dsh, dba, dfr, dfb⟩ := dd
            dsimp only at cP HSH HBA
            try clear q0 q1 q2 q3
            obtain ⟨q0, q1, q2, q3⟩ := hO72.four
            go_wp2_with fail
            refine cP.out.mono ?_
            rintro e W5 ⟨⟨u1, u2, u3, rfl, o1, o2, o3⟩, hb5⟩
            dsimp only [pclV]
            have I2 := toAt o2
            have I3 := toAt o3
            obtain ⟨B1, d1, rfl, -⟩ := (toAt o1).form
            obtain ⟨B2, d2, rfl, -⟩ := (toAt o2).form
            obtain ⟨B3, d3, rfl, -⟩ := (toAt o3).form
            have hal5 := ((Below.refl W5.heap.size W5).alloc (Nat.le_refl _) (.cells #[.int .i64 dod, .slice B1 dwa.length d1, .slice B2 dsh.length d2, .slice B3 dba.length d3] 70)).drew
            have hbb := hb5.trans (hal5.mono hb5.size)
            have hX := Ob.new W5 70 #[.int .i64 dod, .slice B1 dwa.length d1, .slice B2 dsh.length d2, .slice B3 dba.length d3]
            have cO2 := refof_calls dsh sa _ _ (I2.mono hal5 hal5.size)
            have cO3 := refof_calls dba sa _ _ (I3.mono hal5 hal5.size)
            rw [HSH.out] at cO2
            rw [HBA.out] at cO3
            unfold sa at cO2 cO3
            have CO2 := Lib.hid cO2
            have CO3 := Lib.hid cO3
            have hlkS := (HG2.out.below hbb HG2.out.lt).look (tm := 50) keyedI Try.underlying50 (zeroI _) hkey.out
            rw [HST.out] at hlkS
            have hlkT := (HW2.out.below hbb HW2.out.lt).look (tm := 50) keyedI Try.underlying50 (zeroI _) hkey.out
            rw [HWT.out] at hlkT
            have hO75 : Ob (W5.alloc (.cells #[.int .i64 dod, .slice B1 dwa.length d1, .slice B2 dsh.length d2, .slice B3 dba.length d3] 70)).drew wr.heap.size _ _ := (hO72.same hb5).alloc (.cells #[.int .i64 dod, .slice B1 dwa.length d1, .slice B2 dsh.length d2, .slice B3 dba.length d3] 70)
            have hX5 : Ob (W5.alloc (.cells #[.int .i64 dod, .slice B1 dwa.length d1, .slice B2 dsh.length d2, .slice B3 dba.length d3] 70)).drew W5.heap.size _ _ := hX
            have HBF := Lib.hid (HB2.out.trans (hbb.mono HB2.out.size))
            have HMF := Lib.hid (HM3.out.same hbb)
            have HWF := Lib.hid (HW2.out.below hbb HW2.out.lt)
            have HGF := Lib.hid (HG2.out.below hbb HG2.out.lt)
            clear cP cO2 cO3 o1 o2 o3 I2 I3 hal5 hbb hX hb5 q0 q1 q2 q3
            go_wp2_with fail
            obtain ⟨q0, q1, q2, q3⟩ := hO75.four
            obtain ⟨p0, p1, p2, p3⟩ := hX5.four
            generalize hW6 : (W5.alloc (.cells #[.int .i64 dod, .slice B1 dwa.length d1, .slice B2 dsh.length d2, .slice B3 dba.length d3] 70)).drew = W6 at *
            clear hO75 hX5
            refine Pu.regionW (fun W' => W' = W6) hmx (by kernel_rfl) (by kernel_rfl) hW6 rfl ?_
            clear hW6
            iterate 29 (first
              | (refine Pu.Walk.off (by rfl) ?_; simp only [Act.put, List.setIfInBounds_toArray, List.set_cons_succ, List.set_cons_zero])
              | (apply Pu.Walk.on (by rfl)
                 · rintro W' rfl
                   go_wp2_with (first | (go_at_call 25; with_reducible refine CO2.out.mono ?_; rintro e W' ⟨rfl, rfl⟩) | (go_at_call 25; with_reducible refine CO3.out.mono ?_; rintro e W' ⟨rfl, rfl⟩))
                   refine ⟨rfl, ?_, rfl⟩
                   try simp only [Act.put, List.setIfInBounds_toArray, List.set_cons_succ, List.set_cons_zero]
                   rfl
                 simp only [Act.put, List.setIfInBounds_toArray, List.set_cons_succ, List.set_cons_zero]))
            refine Pu.Walk.nil (fun W7 h7 => ?_)
            subst h7
            go_wp2
            exact ⟨⟨k + 1, ds, mw, ms, by omega, by omega, by go_num, HBF.out, HMF.out, HWF.out, HGF.out, HR.out, by omega, by omega⟩, by simp [intOf]; omega⟩
        · have e1b : (kd == 1) = false := by simpa using e1
          by_cases e2 : kd = 2
          · subst e2
            clear e1 e1b
            have cG := Lib.hid (ship_calls od rg l _ w.heap.size b mb _ ds _ HM.out HI.out hOK.out.l hOK.out.od.1 hOK.out.od.2)
            go_wp2_with (go_at_call 25; refine cOf.out.mono ?_; rintro e W ⟨rfl, rfl⟩)
            refine cG.out.mono ?_
            rintro e W2 ⟨rfl, hM2, ho2⟩
            clear cG
            have hO72 := ho2.ob hO7 HOB.out.1 HOB.out.2
            have HB2 := Lib.hid (ho2.below HM.out (Nat.le_refl _) HB.out (Nat.le_refl _))
            have HW2 := Lib.hid (ho2.gmap HW.out (HOTH.out _ (.inl rfl)).1 (HOTH.out _ (.inl rfl)).2)
            have HG2 := Lib.hid (ho2.gmap HG.out (HOTH.out _ (.inr rfl)).1 (HOTH.out _ (.inr rfl)).2)
            have HM2 := Lib.hid hM2
            have hw2 := Kept.size ho2
            simp only [World.size_alloc] at hw2
            clear q0 q1 q2 q3 hM2 ho2
            by_cases hcode : (shipOf ds od rg l).2 = 0
            · have HR2 := Lib.hid (HR.out.ship HM.out.ok hcode)
              have hst0 := HR.out.st od
              rw [hcode]
              clear hcode
              generalize (shipOf ds od rg l).1 = ds2 at *
              generalize ofSum sa l = n at *
              generalize sentOf ds od = S0 at *
              obtain ⟨z0, z1, z2, z3⟩ := hO72.four
              have hlk0 := HG2.out.look (tm := 50) keyedI Try.underlying50 (zeroI W2) hkey.out
              rw [hst0] at hlk0
              obtain ⟨W3, hput, hG3, hg3⟩ := HG2.out.put (tm := 50) keyedI Try.underlying50 (by unfold maxLen; omega) hkey.out (val := .int .i64 (wrap64 (S0 + n)))
              have hml := mPut_length_le (K := intK) ms od (.int .i64 (wrap64 (S0 + n)))
              have HG3 := Lib.hid hG3
              have HW3 := Lib.hid (HW2.out.kept hg3 (fun e => by have := Option.some.inj e; omega))
              have HM3 := Lib.hid (HM2.out.keep (Kept.of_grown hg3 fun i hi => ⟨hi.1, fun e => hi.2 (.inr (Option.some.inj e))⟩))
              have HB3 := Lib.hid (HB2.out.grown hg3 HB2.out.size (fun g e => by cases e; omega))
              have hO73 := hO72.kept hg3 (fun e => by have := Option.some.inj e; omega)
              clear hG3 hg3 hO72 hst0
              have cP := Lib.hid (parcel_calls od w.heap.size b mb _ ds2 W3 HM3.out hOK.out.od.1 hOK.out.od.2)
              have hwt := HR2.out.wt od
              have hst := HR2.out.st od
              have hbd := bounds HM3.out.ok od
              have hsh := sent_get ds2 od
              have hba := back_get ds2 od
              have HSH := Lib.hid hsh
              have HBA := Lib.hid hba
              have hfs := fits_sh HM3.out.ok od
              have hgt1 : decide (sentOf ds2 od > wantOf ds2 od) = false := by simp; omega
              have hgt2 : decide (backA ds2 od > sentOf ds2 od) = false := by simp; omega
              have HWT := Lib.hid hwt
              have HST := Lib.hid hst
              clear hwt hst hbd hsh hba hfs
              generalize sentOf ds2 od = S at *
              generalize wantOf ds2 od = T at *
              generalize backA ds2 od = Bk at *
              generalize (findR ds2 od).isSome = kn at *
              generalize (findR ds2 od).getD pcl0 = dd at *
              obtain ⟨dod, dwa, dsh, dba, dfr, dfb⟩ := dd
              dsimp only at cP HSH HBA
              try clear q0 q1 q2 q3
              obtain ⟨q0, q1, q2, q3⟩ := hO73.four
              go_wp2_with fail
              refine cP.out.mono ?_
              rintro e W5 ⟨⟨u1, u2, u3, rfl, o1, o2, o3⟩, hb5⟩
              dsimp only [pclV]
              have I2 := toAt o2
              have I3 := toAt o3
              obtain ⟨B1, d1, rfl, -⟩ := (toAt o1).form
              obtain ⟨B2, d2, rfl, -⟩ := (toAt o2).form
              obtain ⟨B3, d3, rfl, -⟩ := (toAt o3).form
              have hal5 := ((Below.refl W5.heap.size W5).alloc (Nat.le_refl _) (.cells #[.int .i64 dod, .slice B1 dwa.length d1, .slice B2 dsh.length d2, .slice B3 dba.length d3] 70)).drew
              have hbb := hb5.trans (hal5.mono hb5.size)
              have hX := Ob.new W5 70 #[.int .i64 dod, .slice B1 dwa.length d1, .slice B2 dsh.length d2, .slice B3 dba.length d3]
              have cO2 := refof_calls dsh sa _ _ (I2.mono hal5 hal5.size)
              have cO3 := refof_calls dba sa _ _ (I3.mono hal5 hal5.size)
              rw [HSH.out] at cO2
              rw [HBA.out] at cO3
              unfold sa at cO2 cO3
              have CO2 := Lib.hid cO2
              have CO3 := Lib.hid cO3
              have hlkS := (HG3.out.below hbb HG3.out.lt).look (tm := 50) keyedI Try.underlying50 (zeroI _) hkey.out
              rw [HST.out] at hlkS
              have hlkT := (HW3.out.below hbb HW3.out.lt).look (tm := 50) keyedI Try.underlying50 (zeroI _) hkey.out
              rw [HWT.out] at hlkT
              have hO75 : Ob (W5.alloc (.cells #[.int .i64 dod, .slice B1 dwa.length d1, .slice B2 dsh.length d2, .slice B3 dba.length d3] 70)).drew wr.heap.size _ _ := (hO73.same hb5).alloc (.cells #[.int .i64 dod, .slice B1 dwa.length d1, .slice B2 dsh.length d2, .slice B3 dba.length d3] 70)
              have hX5 : Ob (W5.alloc (.cells #[.int .i64 dod, .slice B1 dwa.length d1, .slice B2 dsh.length d2, .slice B3 dba.length d3] 70)).drew W5.heap.size _ _ := hX
              have HBF := Lib.hid (HB3.out.trans (hbb.mono HB3.out.size))
              have HMF := Lib.hid (HM3.out.same hbb)
              have HWF := Lib.hid (HW3.out.below hbb HW3.out.lt)
              have HGF := Lib.hid (HG3.out.below hbb HG3.out.lt)
              clear cP cO2 cO3 o1 o2 o3 I2 I3 hal5 hbb hX hb5 q0 q1 q2 q3
              go_wp2_with fail
              obtain ⟨q0, q1, q2, q3⟩ := hO75.four
              obtain ⟨p0, p1, p2, p3⟩ := hX5.four
              generalize hW6 : (W5.alloc (.cells #[.int .i64 dod, .slice B1 dwa.length d1, .slice B2 dsh.length d2, .slice B3 dba.length d3] 70)).drew = W6 at *
              clear hO75 hX5
              refine Pu.regionW (fun W' => W' = W6) hmx (by kernel_rfl) (by kernel_rfl) hW6 rfl ?_
              clear hW6
              iterate 29 (first
                | (refine Pu.Walk.off (by rfl) ?_; simp only [Act.put, List.setIfInBounds_toArray, List.set_cons_succ, List.set_cons_zero])
                | (apply Pu.Walk.on (by rfl)
                   · rintro W' rfl
                     go_wp2_with (first | (go_at_call 25; with_reducible refine CO2.out.mono ?_; rintro e W' ⟨rfl, rfl⟩) | (go_at_call 25; with_reducible refine CO3.out.mono ?_; rintro e W' ⟨rfl, rfl⟩))
                     refine ⟨rfl, ?_, rfl⟩
                     try simp only [Act.put, List.setIfInBounds_toArray, List.set_cons_succ, List.set_cons_zero]
                     rfl
                   simp only [Act.put, List.setIfInBounds_toArray, List.set_cons_succ, List.set_cons_zero]))
              refine Pu.Walk.nil (fun W7 h7 => ?_)
              subst h7
              go_wp2
              exact ⟨⟨k + 1, ds2, mw, (mPut intK ms od (.int .i64 (wrap64 (S0 + n)))), by omega, by omega, by go_num, HBF.out, HMF.out, HWF.out, HGF.out, HR2.out, by omega, by omega⟩, by simp [intOf]; omega⟩
            · have hsame := ship_same hcode
              have hcb : ((shipOf ds od rg l).2 == 0) = false := by simpa using hcode
              have HM22 := HM2.out
              rw [hsame] at HM22
              have HM3 := Lib.hid HM22
              generalize (shipOf ds od rg l).2 = gc at *
              clear hcode hsame HM2 HM22
              have cP := Lib.hid (parcel_calls od w.heap.size b mb _ ds W2 HM3.out hOK.out.od.1 hOK.out.od.2)
              have hwt := HR.out.wt od
              have hst := HR.out.st od
              have hbd := bounds HM3.out.ok od
              have hsh := sent_get ds od
              have hba := back_get ds od
              have HSH := Lib.hid hsh
              have HBA := Lib.hid hba
              have hfs := fits_sh HM3.out.ok od
              have hgt1 : decide (sentOf ds od > wantOf ds od) = false := by simp; omega
              have hgt2 : decide (backA ds od > sentOf ds od) = false := by simp; omega
              have HWT := Lib.hid hwt
              have HST := Lib.hid hst
              clear hwt hst hbd hsh hba hfs
              generalize sentOf ds od = S at *
              generalize wantOf ds od = T at *
              generalize backA ds od = Bk at *
              generalize (findR ds od).isSome = kn at *
              generalize (findR ds od).getD pcl0 = dd at *
              obtain ⟨dod, dwa, dsh, dba, dfr, dfb⟩ := dd
              dsimp only at cP HSH HBA
              try clear q0 q1 q2 q3
              obtain ⟨q0, q1, q2, q3⟩ := hO72.four
              go_wp2_with fail
              refine cP.out.mono ?_
              rintro e W5 ⟨⟨u1, u2, u3, rfl, o1, o2, o3⟩, hb5⟩
              dsimp only [pclV]
              have I2 := toAt o2
              have I3 := toAt o3
              obtain ⟨B1, d1, rfl, -⟩ := (toAt o1).form
              obtain ⟨B2, d2, rfl, -⟩ := (toAt o2).form
              obtain ⟨B3, d3, rfl, -⟩ := (toAt o3).form
              have hal5 := ((Below.refl W5.heap.size W5).alloc (Nat.le_refl _) (.cells #[.int .i64 dod, .slice B1 dwa.length d1, .slice B2 dsh.length d2, .slice B3 dba.length d3] 70)).drew
              have hbb := hb5.trans (hal5.mono hb5.size)
              have hX := Ob.new W5 70 #[.int .i64 dod, .slice B1 dwa.length d1, .slice B2 dsh.length d2, .slice B3 dba.length d3]
              have cO2 := refof_calls dsh sa _ _ (I2.mono hal5 hal5.size)
              have cO3 := refof_calls dba sa _ _ (I3.mono hal5 hal5.size)
              rw [HSH.out] at cO2
              rw [HBA.out] at cO3
              unfold sa at cO2 cO3
              have CO2 := Lib.hid cO2
              have CO3 := Lib.hid cO3
              have hlkS := (HG2.out.below hbb HG2.out.lt).look (tm := 50) keyedI Try.underlying50 (zeroI _) hkey.out
              rw [HST.out] at hlkS
              have hlkT := (HW2.out.below hbb HW2.out.lt).look (tm := 50) keyedI Try.underlying50 (zeroI _) hkey.out
              rw [HWT.out] at hlkT
              have hO75 : Ob (W5.alloc (.cells #[.int .i64 dod, .slice B1 dwa.length d1, .slice B2 dsh.length d2, .slice B3 dba.length d3] 70)).drew wr.heap.size _ _ := (hO72.same hb5).alloc (.cells #[.int .i64 dod, .slice B1 dwa.length d1, .slice B2 dsh.length d2, .slice B3 dba.length d3] 70)
              have hX5 : Ob (W5.alloc (.cells #[.int .i64 dod, .slice B1 dwa.length d1, .slice B2 dsh.length d2, .slice B3 dba.length d3] 70)).drew W5.heap.size _ _ := hX
              have HBF := Lib.hid (HB2.out.trans (hbb.mono HB2.out.size))
              have HMF := Lib.hid (HM3.out.same hbb)
              have HWF := Lib.hid (HW2.out.below hbb HW2.out.lt)
              have HGF := Lib.hid (HG2.out.below hbb HG2.out.lt)
              clear cP cO2 cO3 o1 o2 o3 I2 I3 hal5 hbb hX hb5 q0 q1 q2 q3
              go_wp2_with fail
              obtain ⟨q0, q1, q2, q3⟩ := hO75.four
              obtain ⟨p0, p1, p2, p3⟩ := hX5.four
              generalize hW6 : (W5.alloc (.cells #[.int .i64 dod, .slice B1 dwa.length d1, .slice B2 dsh.length d2, .slice B3 dba.length d3] 70)).drew = W6 at *
              clear hO75 hX5
              refine Pu.regionW (fun W' => W' = W6) hmx (by kernel_rfl) (by kernel_rfl) hW6 rfl ?_
              clear hW6
              iterate 29 (first
                | (refine Pu.Walk.off (by rfl) ?_; simp only [Act.put, List.setIfInBounds_toArray, List.set_cons_succ, List.set_cons_zero])
                | (apply Pu.Walk.on (by rfl)
                   · rintro W' rfl
                     go_wp2_with (first | (go_at_call 25; with_reducible refine CO2.out.mono ?_; rintro e W' ⟨rfl, rfl⟩) | (go_at_call 25; with_reducible refine CO3.out.mono ?_; rintro e W' ⟨rfl, rfl⟩))
                     refine ⟨rfl, ?_, rfl⟩
                     try simp only [Act.put, List.setIfInBounds_toArray, List.set_cons_succ, List.set_cons_zero]
                     rfl
                   simp only [Act.put, List.setIfInBounds_toArray, List.set_cons_succ, List.set_cons_zero]))
              refine Pu.Walk.nil (fun W7 h7 => ?_)
              subst h7
              go_wp2
              exact ⟨⟨k + 1, ds, mw, ms, by omega, by omega, by go_num, HBF.out, HMF.out, HWF.out, HGF.out, HR.out, by omega, by omega⟩, by simp [intOf]; omega⟩
          · have e2b : (kd == 2) = false := by simpa using e2
            by_cases e3 : kd = 3
            · subst e3
              clear e1 e1b e2 e2b
              have cG := Lib.hid (back_calls od l _ w.heap.size b mb _ ds _ HM.out HI.out hOK.out.l hOK.out.od.1 hOK.out.od.2)
              have HR2 := Lib.hid (HR.out.back od l)
              go_wp2_with (go_at_call 25; refine cOf.out.mono ?_; rintro e W ⟨rfl, rfl⟩)
              refine cG.out.mono ?_
              rintro e W2 ⟨rfl, hM2, ho2⟩
              clear cG
              have hO72 := ho2.ob hO7 HOB.out.1 HOB.out.2
              have HB2 := Lib.hid (ho2.below HM.out (Nat.le_refl _) HB.out (Nat.le_refl _))
              have HW2 := Lib.hid (ho2.gmap HW.out (HOTH.out _ (.inl rfl)).1 (HOTH.out _ (.inl rfl)).2)
              have HG2 := Lib.hid (ho2.gmap HG.out (HOTH.out _ (.inr rfl)).1 (HOTH.out _ (.inr rfl)).2)
              have HM2 := Lib.hid hM2
              have hw2 := Kept.size ho2
              simp only [World.size_alloc] at hw2
              clear q0 q1 q2 q3 hM2 ho2
              generalize (backOf ds od l).1 = ds2 at *
              generalize (backOf ds od l).2 = gc at *
              have cP := Lib.hid (parcel_calls od w.heap.size b mb _ ds2 W2 HM2.out hOK.out.od.1 hOK.out.od.2)
              have hwt := HR2.out.wt od
              have hst := HR2.out.st od
              have hbd := bounds HM2.out.ok od
              have hsh := sent_get ds2 od
              have hba := back_get ds2 od
              have HSH := Lib.hid hsh
              have HBA := Lib.hid hba
              have hfs := fits_sh HM2.out.ok od
              have hgt1 : decide (sentOf ds2 od > wantOf ds2 od) = false := by simp; omega
              have hgt2 : decide (backA ds2 od > sentOf ds2 od) = false := by simp; omega
              have HWT := Lib.hid hwt
              have HST := Lib.hid hst
              clear hwt hst hbd hsh hba hfs
              generalize sentOf ds2 od = S at *
              generalize wantOf ds2 od = T at *
              generalize backA ds2 od = Bk at *
              generalize (findR ds2 od).isSome = kn at *
              generalize (findR ds2 od).getD pcl0 = dd at *
              obtain ⟨dod, dwa, dsh, dba, dfr, dfb⟩ := dd
              dsimp only at cP HSH HBA
              try clear q0 q1 q2 q3
              obtain ⟨q0, q1, q2, q3⟩ := hO72.four
              go_wp2_with fail
              refine cP.out.mono ?_
              rintro e W5 ⟨⟨u1, u2, u3, rfl, o1, o2, o3⟩, hb5⟩
              dsimp only [pclV]
              have I2 := toAt o2
              have I3 := toAt o3
              obtain ⟨B1, d1, rfl, -⟩ := (toAt o1).form
              obtain ⟨B2, d2, rfl, -⟩ := (toAt o2).form
              obtain ⟨B3, d3, rfl, -⟩ := (toAt o3).form
              have hal5 := ((Below.refl W5.heap.size W5).alloc (Nat.le_refl _) (.cells #[.int .i64 dod, .slice B1 dwa.length d1, .slice B2 dsh.length d2, .slice B3 dba.length d3] 70)).drew
              have hbb := hb5.trans (hal5.mono hb5.size)
              have hX := Ob.new W5 70 #[.int .i64 dod, .slice B1 dwa.length d1, .slice B2 dsh.length d2, .slice B3 dba.length d3]
              have cO2 := refof_calls dsh sa _ _ (I2.mono hal5 hal5.size)
              have cO3 := refof_calls dba sa _ _ (I3.mono hal5 hal5.size)
              rw [HSH.out] at cO2
              rw [HBA.out] at cO3
              unfold sa at cO2 cO3
              have CO2 := Lib.hid cO2
              have CO3 := Lib.hid cO3
              have hlkS := (HG2.out.below hbb HG2.out.lt).look (tm := 50) keyedI Try.underlying50 (zeroI _) hkey.out
              rw [HST.out] at hlkS
              have hlkT := (HW2.out.below hbb HW2.out.lt).look (tm := 50) keyedI Try.underlying50 (zeroI _) hkey.out
              rw [HWT.out] at hlkT
              have hO75 : Ob (W5.alloc (.cells #[.int .i64 dod, .slice B1 dwa.length d1, .slice B2 dsh.length d2, .slice B3 dba.length d3] 70)).drew wr.heap.size _ _ := (hO72.same hb5).alloc (.cells #[.int .i64 dod, .slice B1 dwa.length d1, .slice B2 dsh.length d2, .slice B3 dba.length d3] 70)
              have hX5 : Ob (W5.alloc (.cells #[.int .i64 dod, .slice B1 dwa.length d1, .slice B2 dsh.length d2, .slice B3 dba.length d3] 70)).drew W5.heap.size _ _ := hX
              have HBF := Lib.hid (HB2.out.trans (hbb.mono HB2.out.size))
              have HMF := Lib.hid (HM2.out.same hbb)
              have HWF := Lib.hid (HW2.out.below hbb HW2.out.lt)
              have HGF := Lib.hid (HG2.out.below hbb HG2.out.lt)
              clear cP cO2 cO3 o1 o2 o3 I2 I3 hal5 hbb hX hb5 q0 q1 q2 q3
              go_wp2_with fail
              obtain ⟨q0, q1, q2, q3⟩ := hO75.four
              obtain ⟨p0, p1, p2, p3⟩ := hX5.four
              generalize hW6 : (W5.alloc (.cells #[.int .i64 dod, .slice B1 dwa.length d1, .slice B2 dsh.length d2, .slice B3 dba.length d3] 70)).drew = W6 at *
              clear hO75 hX5
              refine Pu.regionW (fun W' => W' = W6) hmx (by kernel_rfl) (by kernel_rfl) hW6 rfl ?_
              clear hW6
              iterate 29 (first
                | (refine Pu.Walk.off (by rfl) ?_; simp only [Act.put, List.setIfInBounds_toArray, List.set_cons_succ, List.set_cons_zero])
                | (apply Pu.Walk.on (by rfl)
                   · rintro W' rfl
                     go_wp2_with (first | (go_at_call 25; with_reducible refine CO2.out.mono ?_; rintro e W' ⟨rfl, rfl⟩) | (go_at_call 25; with_reducible refine CO3.out.mono ?_; rintro e W' ⟨rfl, rfl⟩))
                     refine ⟨rfl, ?_, rfl⟩
                     try simp only [Act.put, List.setIfInBounds_toArray, List.set_cons_succ, List.set_cons_zero]
                     rfl
                   simp only [Act.put, List.setIfInBounds_toArray, List.set_cons_succ, List.set_cons_zero]))
              refine Pu.Walk.nil (fun W7 h7 => ?_)
              subst h7
              go_wp2
              exact ⟨⟨k + 1, ds2, mw, ms, by omega, by omega, by go_num, HBF.out, HMF.out, HWF.out, HGF.out, HR2.out, by omega, by omega⟩, by simp [intOf]; omega⟩
            · have e3b : (kd == 3) = false := by simpa using e3
              by_cases e4 : kd = 4
              · subst e4
                clear e1 e1b e2 e2b e3 e3b
                have cG := Lib.hid (undo_calls od l _ w.heap.size b mb _ ds _ HM.out HI.out hOK.out.l hOK.out.od.1 hOK.out.od.2)
                have HR2 := Lib.hid (HR.out.undo od l)
                go_wp2_with (go_at_call 25; refine cOf.out.mono ?_; rintro e W ⟨rfl, rfl⟩)
                refine cG.out.mono ?_
                rintro e W2 ⟨rfl, hM2, ho2⟩
                clear cG
                have hO72 := ho2.ob hO7 HOB.out.1 HOB.out.2
                have HB2 := Lib.hid (ho2.below HM.out (Nat.le_refl _) HB.out (Nat.le_refl _))
                have HW2 := Lib.hid (ho2.gmap HW.out (HOTH.out _ (.inl rfl)).1 (HOTH.out _ (.inl rfl)).2)
                have HG2 := Lib.hid (ho2.gmap HG.out (HOTH.out _ (.inr rfl)).1 (HOTH.out _ (.inr rfl)).2)
                have HM2 := Lib.hid hM2
                have hw2 := Kept.size ho2
                simp only [World.size_alloc] at hw2
                clear q0 q1 q2 q3 hM2 ho2
                generalize (undoOf ds od l).1 = ds2 at *
                generalize (undoOf ds od l).2 = gc at *
                have cP := Lib.hid (parcel_calls od w.heap.size b mb _ ds2 W2 HM2.out hOK.out.od.1 hOK.out.od.2)
                have hwt := HR2.out.wt od
                have hst := HR2.out.st od
                have hbd := bounds HM2.out.ok od
                have hsh := sent_get ds2 od
                have hba := back_get ds2 od
                have HSH := Lib.hid hsh
                have HBA := Lib.hid hba
                have hfs := fits_sh HM2.out.ok od
                have hgt1 : decide (sentOf ds2 od > wantOf ds2 od) = false := by simp; omega
                have hgt2 : decide (backA ds2 od > sentOf ds2 od) = false := by simp; omega
                have HWT := Lib.hid hwt
                have HST := Lib.hid hst
                clear hwt hst hbd hsh hba hfs
                generalize sentOf ds2 od = S at *
                generalize wantOf ds2 od = T at *
                generalize backA ds2 od = Bk at *
                generalize (findR ds2 od).isSome = kn at *
                generalize (findR ds2 od).getD pcl0 = dd at *
                obtain ⟨dod, dwa, dsh, dba, dfr, dfb⟩ := dd
                dsimp only at cP HSH HBA
                try clear q0 q1 q2 q3
                obtain ⟨q0, q1, q2, q3⟩ := hO72.four
                go_wp2_with fail
                refine cP.out.mono ?_
                rintro e W5 ⟨⟨u1, u2, u3, rfl, o1, o2, o3⟩, hb5⟩
                dsimp only [pclV]
                have I2 := toAt o2
                have I3 := toAt o3
                obtain ⟨B1, d1, rfl, -⟩ := (toAt o1).form
                obtain ⟨B2, d2, rfl, -⟩ := (toAt o2).form
                obtain ⟨B3, d3, rfl, -⟩ := (toAt o3).form
                have hal5 := ((Below.refl W5.heap.size W5).alloc (Nat.le_refl _) (.cells #[.int .i64 dod, .slice B1 dwa.length d1, .slice B2 dsh.length d2, .slice B3 dba.length d3] 70)).drew
                have hbb := hb5.trans (hal5.mono hb5.size)
                have hX := Ob.new W5 70 #[.int .i64 dod, .slice B1 dwa.length d1, .slice B2 dsh.length d2, .slice B3 dba.length d3]
                have cO2 := refof_calls dsh sa _ _ (I2.mono hal5 hal5.size)
                have cO3 := refof_calls dba sa _ _ (I3.mono hal5 hal5.size)
                rw [HSH.out] at cO2
                rw [HBA.out] at cO3
                unfold sa at cO2 cO3
                have CO2 := Lib.hid cO2
                have CO3 := Lib.hid cO3
                have hlkS := (HG2.out.below hbb HG2.out.lt).look (tm := 50) keyedI Try.underlying50 (zeroI _) hkey.out
                rw [HST.out] at hlkS
                have hlkT := (HW2.out.below hbb HW2.out.lt).look (tm := 50) keyedI Try.underlying50 (zeroI _) hkey.out
                rw [HWT.out] at hlkT
                have hO75 : Ob (W5.alloc (.cells #[.int .i64 dod, .slice B1 dwa.length d1, .slice B2 dsh.length d2, .slice B3 dba.length d3] 70)).drew wr.heap.size _ _ := (hO72.same hb5).alloc (.cells #[.int .i64 dod, .slice B1 dwa.length d1, .slice B2 dsh.length d2, .slice B3 dba.length d3] 70)
                have hX5 : Ob (W5.alloc (.cells #[.int .i64 dod, .slice B1 dwa.length d1, .slice B2 dsh.length d2, .slice B3 dba.length d3] 70)).drew W5.heap.size _ _ := hX
                have HBF := Lib.hid (HB2.out.trans (hbb.mono HB2.out.size))
                have HMF := Lib.hid (HM2.out.same hbb)
                have HWF := Lib.hid (HW2.out.below hbb HW2.out.lt)
                have HGF := Lib.hid (HG2.out.below hbb HG2.out.lt)
                clear cP cO2 cO3 o1 o2 o3 I2 I3 hal5 hbb hX hb5 q0 q1 q2 q3
                go_wp2_with fail
                obtain ⟨q0, q1, q2, q3⟩ := hO75.four
                obtain ⟨p0, p1, p2, p3⟩ := hX5.four
                generalize hW6 : (W5.alloc (.cells #[.int .i64 dod, .slice B1 dwa.length d1, .slice B2 dsh.length d2, .slice B3 dba.length d3] 70)).drew = W6 at *
                clear hO75 hX5
                refine Pu.regionW (fun W' => W' = W6) hmx (by kernel_rfl) (by kernel_rfl) hW6 rfl ?_
                clear hW6
                iterate 29 (first
                  | (refine Pu.Walk.off (by rfl) ?_; simp only [Act.put, List.setIfInBounds_toArray, List.set_cons_succ, List.set_cons_zero])
                  | (apply Pu.Walk.on (by rfl)
                     · rintro W' rfl
                       go_wp2_with (first | (go_at_call 25; with_reducible refine CO2.out.mono ?_; rintro e W' ⟨rfl, rfl⟩) | (go_at_call 25; with_reducible refine CO3.out.mono ?_; rintro e W' ⟨rfl, rfl⟩))
                       refine ⟨rfl, ?_, rfl⟩
                       try simp only [Act.put, List.setIfInBounds_toArray, List.set_cons_succ, List.set_cons_zero]
                       rfl
                     simp only [Act.put, List.setIfInBounds_toArray, List.set_cons_succ, List.set_cons_zero]))
                refine Pu.Walk.nil (fun W7 h7 => ?_)
                subst h7
                go_wp2
                exact ⟨⟨k + 1, ds2, mw, ms, by omega, by omega, by go_num, HBF.out, HMF.out, HWF.out, HGF.out, HR2.out, by omega, by omega⟩, by simp [intOf]; omega⟩
              · have e4b : (kd == 4) = false := by simpa using e4
                clear e1 e2 e3 e4
                go_wp2_with (go_at_call 25; refine cOf.out.mono ?_; rintro e W ⟨rfl, rfl⟩)
                have hw2 : wr.heap.size + 1 ≤ (wr.alloc (.cells #[.int .i64 kd, .int .i64 od, .int .i64 rg, .slice Al l.length cl] 64)).heap.size := by simp
                clear q0 q1 q2 q3
                generalize wr.alloc (.cells #[.int .i64 kd, .int .i64 od, .int .i64 rg, .slice Al l.length cl] 64) = W2 at *
                have cP := Lib.hid (parcel_calls od w.heap.size b mb _ ds W2 HM.out hOK.out.od.1 hOK.out.od.2)
                have hwt := HR.out.wt od
                have hst := HR.out.st od
                have hbd := bounds HM.out.ok od
                have hsh := sent_get ds od
                have hba := back_get ds od
                have HSH := Lib.hid hsh
                have HBA := Lib.hid hba
                have hfs := fits_sh HM.out.ok od
                have hgt1 : decide (sentOf ds od > wantOf ds od) = false := by simp; omega
                have hgt2 : decide (backA ds od > sentOf ds od) = false := by simp; omega
                have HWT := Lib.hid hwt
                have HST := Lib.hid hst
                clear hwt hst hbd hsh hba hfs
                generalize sentOf ds od = S at *
                generalize wantOf ds od = T at *
                generalize backA ds od = Bk at *
                generalize (findR ds od).isSome = kn at *
                generalize (findR ds od).getD pcl0 = dd at *
                obtain ⟨dod, dwa, dsh, dba, dfr, dfb⟩ := dd
                dsimp only at cP HSH HBA
                try clear q0 q1 q2 q3
                obtain ⟨q0, q1, q2, q3⟩ := hO7.four
                go_wp2_with fail
                refine cP.out.mono ?_
                rintro e W5 ⟨⟨u1, u2, u3, rfl, o1, o2, o3⟩, hb5⟩
                dsimp only [pclV]
                have I2 := toAt o2
                have I3 := toAt o3
                obtain ⟨B1, d1, rfl, -⟩ := (toAt o1).form
                obtain ⟨B2, d2, rfl, -⟩ := (toAt o2).form
                obtain ⟨B3, d3, rfl, -⟩ := (toAt o3).form
                have hal5 := ((Below.refl W5.heap.size W5).alloc (Nat.le_refl _) (.cells #[.int .i64 dod, .slice B1 dwa.length d1, .slice B2 dsh.length d2, .slice B3 dba.length d3] 70)).drew
                have hbb := hb5.trans (hal5.mono hb5.size)
                have hX := Ob.new W5 70 #[.int .i64 dod, .slice B1 dwa.length d1, .slice B2 dsh.length d2, .slice B3 dba.length d3]
                have cO2 := refof_calls dsh sa _ _ (I2.mono hal5 hal5.size)
                have cO3 := refof_calls dba sa _ _ (I3.mono hal5 hal5.size)
                rw [HSH.out] at cO2
                rw [HBA.out] at cO3
                unfold sa at cO2 cO3
                have CO2 := Lib.hid cO2
                have CO3 := Lib.hid cO3
                have hlkS := (HG.out.below hbb HG.out.lt).look (tm := 50) keyedI Try.underlying50 (zeroI _) hkey.out
                rw [HST.out] at hlkS
                have hlkT := (HW.out.below hbb HW.out.lt).look (tm := 50) keyedI Try.underlying50 (zeroI _) hkey.out
                rw [HWT.out] at hlkT
                have hO75 : Ob (W5.alloc (.cells #[.int .i64 dod, .slice B1 dwa.length d1, .slice B2 dsh.length d2, .slice B3 dba.length d3] 70)).drew wr.heap.size _ _ := (hO7.same hb5).alloc (.cells #[.int .i64 dod, .slice B1 dwa.length d1, .slice B2 dsh.length d2, .slice B3 dba.length d3] 70)
                have hX5 : Ob (W5.alloc (.cells #[.int .i64 dod, .slice B1 dwa.length d1, .slice B2 dsh.length d2, .slice B3 dba.length d3] 70)).drew W5.heap.size _ _ := hX
                have HBF := Lib.hid (HB.out.trans (hbb.mono HB.out.size))
                have HMF := Lib.hid (HM.out.same hbb)
                have HWF := Lib.hid (HW.out.below hbb HW.out.lt)
                have HGF := Lib.hid (HG.out.below hbb HG.out.lt)
                clear cP cO2 cO3 o1 o2 o3 I2 I3 hal5 hbb hX hb5 q0 q1 q2 q3
                go_wp2_with fail
                obtain ⟨q0, q1, q2, q3⟩ := hO75.four
                obtain ⟨p0, p1, p2, p3⟩ := hX5.four
                generalize hW6 : (W5.alloc (.cells #[.int .i64 dod, .slice B1 dwa.length d1, .slice B2 dsh.length d2, .slice B3 dba.length d3] 70)).drew = W6 at *
                clear hO75 hX5
                refine Pu.regionW (fun W' => W' = W6) hmx (by kernel_rfl) (by kernel_rfl) hW6 rfl ?_
                clear hW6
                iterate 29 (first
                  | (refine Pu.Walk.off (by rfl) ?_; simp only [Act.put, List.setIfInBounds_toArray, List.set_cons_succ, List.set_cons_zero])
                  | (apply Pu.Walk.on (by rfl)
                     · rintro W' rfl
                       go_wp2_with (first | (go_at_call 25; with_reducible refine CO2.out.mono ?_; rintro e W' ⟨rfl, rfl⟩) | (go_at_call 25; with_reducible refine CO3.out.mono ?_; rintro e W' ⟨rfl, rfl⟩))
                       refine ⟨rfl, ?_, rfl⟩
                       try simp only [Act.put, List.setIfInBounds_toArray, List.set_cons_succ, List.set_cons_zero]
                       rfl
                     simp only [Act.put, List.setIfInBounds_toArray, List.set_cons_succ, List.set_cons_zero]))
                refine Pu.Walk.nil (fun W7 h7 => ?_)
                subst h7
                go_wp2
                exact ⟨⟨k + 1, ds, mw, ms, by omega, by omega, by go_num, HBF.out, HMF.out, HWF.out, HGF.out, HR.out, by omega, by omega⟩, by simp [intOf]; omega⟩
    · have hcs : (decide ((k : Int) < (os.length : Int)) = false ∧ ¬ k < os.length) ∨ (decide ((k : Int) < (os.length : Int)) = true ∧ k < os.length ∧ decide ((k : Int) < 200) = false) := by
        by_cases h : k < os.length
        · exact .inr ⟨by simp; omega, h, by simp; omega⟩
        · exact .inl ⟨by simp; omega, h⟩
      have HB := Lib.hid hB
      clear hM hW hG hR hlt
      rcases hcs with ⟨h1, h2⟩ | ⟨h1, h2, h3⟩
      all_goals
        go_wp2
        go_ret
        exact ⟨rfl, HB.out⟩
end Pc
end Go.Proofs.Ytdbkkldgobkjcaa
