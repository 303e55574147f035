/-
  parcels: the law Once.
-/
import Derived.Test.YtdbkkldgobkjcaaPcP
import Derived.Test.YtdbkkldgobkjcaaPcH
import Derived.Test.YtdbkkldgobkjcaaOpp
namespace Go.Proofs.Ytdbkkldgobkjcaa
open Go.RowKit Go.Maps
namespace Pc
open It Mv

set_option maxRecDepth 100000 in
set_option maxHeartbeats 16000000 in
theorem once_law (os : List OpV) (v : Value) (w : World) (hO : OpsAt w w.heap.size v os) (hok : ∀ o ∈ os, OkOp o) :
    Calls Try.prog 7 #[v] w fun e w' => e = .returned (.bool true) ∧ Below w.heap.size w w' := by
  obtain ⟨A, c, rfl, hc1, hc2⟩ := hO.form
  unfold maxLen at hc2
  have cL := Lib.hid lives_calls
  have hmm := @run_makeMap Try.prog
  go_enter Try.func7, Try.ntmps7
  go_wp2_with fail
  refine (new_calls w).mono ?_
  rintro e w1 ⟨⟨b, mb, rfl, hM⟩, h1⟩
  replace hM := hM (fun _ => False) (fun _ h => h.elim)
  go_wp2_with fail
  refine (cL.out w1).mono ?_
  rintro e w2 ⟨rfl, h2⟩
  have hM2 := hM.same h2
  have hB2 := h1.trans (h2.mono h1.size)
  clear hM h1 h2
  go_wp2
  have hB3 := hB2.alloc hB2.size (.map #[] 0)
  have hal := (Below.refl w2.heap.size w2).alloc (Nat.le_refl _) (.map #[] 0)
  have hM3 : PcAt (w2.alloc (.map #[] 0)) w.heap.size b mb (fun i => i = w2.heap.size) [] := hM2.more hal fun i hi => ⟨.inr (by omega), by simp; omega⟩
  have hW3 : GMap strK (w2.alloc (.map #[] 0)) Try.prog 67 w2.heap.size [] := GMap.made (K := strK) w2 Try.prog 67
  have hws := hB2.size
  generalize w2.alloc (.map #[] 0) = w3 at *
  generalize w2.heap.size = wb at *
  have HM3 := Lib.hid hM3
  have HW3 := Lib.hid hW3
  have HB3 := Lib.hid hB3
  clear hM3 hW3 hB3 hM2 hB2 hal hmm
  go_loopw [5] (fun i wr => ∃ (k : Nat) (ds : List Row) (md : List (List UInt8 × Value)), k ≤ os.length ∧ k ≤ 200 ∧ i = .int .i64 k ∧ Below w.heap.size w wr ∧ PcAt wr w.heap.size b mb (fun i => i = wb) ds ∧ GMap strK wr Try.prog 67 wb md ∧ Done ds md ∧ md.length ≤ k) (fun i _ => os.length - (intOf i).toNat)
  case atStart => exact ⟨0, [], [], by omega, by omega, rfl, HB3.out, HM3.out, HW3.out, Done.nil, by simp⟩
  case round =>
    obtain ⟨k, ds, md, hk, hk2, rfl, hB, hM, hW, hR, hl1⟩ := hrel
    clear HM3 HW3 HB3
    by_cases hlt : k < os.length ∧ k < 200
    · obtain ⟨hlt, hlt2⟩ := hlt
      obtain ⟨bo, po, lv, rfl, hbo, hIo, g0, g1, g2, g3⟩ := hO.at_ hlt
      replace g0 := (hB.cell (p := ⟨bo, po + k * 4, none⟩) hbo).trans g0
      replace g1 := (hB.cell (p := ⟨bo, po + k * 4 + 1, none⟩) hbo).trans g1
      replace g2 := (hB.cell (p := ⟨bo, po + k * 4 + 2, none⟩) hbo).trans g2
      replace g3 := (hB.cell (p := ⟨bo, po + k * 4 + 3, none⟩) hbo).trans g3
      have hoo := hok _ (List.getElem_mem hlt)
      generalize os[k] = o at *
      obtain ⟨kd, od, rg, l⟩ := o
      dsimp only at hIo g0 g1 g2 g3
      have hOK := Lib.hid hoo
      obtain ⟨Al, cl, rfl, hcl1, hcl2⟩ := hIo.form
      unfold maxLen at hcl2
      have hd : decide ((k : Int) < (os.length : Int)) = true := by simp; omega
      have hd2 : decide ((k : Int) < 200) = true := by simp; omega
      have hal1 := (Below.refl wr.heap.size wr).alloc (Nat.le_refl _) (.cells #[.int .i64 kd, .int .i64 od, .int .i64 rg, .slice Al l.length cl] 64)
      have hB1 := hB.trans (hal1.mono hB.size)
      have hM1 := hM.same hal1
      have hW1 := hW.below hal1 hW.lt
      have HI0 := Lib.hid (fun W (h : Below w.heap.size w W) => hIo.mono h h.size)
      have hI1 := HI0.out _ hB1
      have hbr := hM.ob.lt
      have hwr := hW.lt
      obtain ⟨m', hm', -⟩ := hM.map
      have hmbr := hm'.lt
      have HFR := Lib.hid (fun (d : Row) (hd : d ∈ ds) => GMap.lt (hM.frm d hd))
      have HSEP := Lib.hid (And.intro hM.nx.2 hM.sep)
      have HOTH := Lib.hid (fun (i : Nat) (hi : i = wb) => And.intro (show i ≠ mb from fun e => hM.nx.2 (by rw [← e]; exact hi)) (show ∀ d ∈ ds, i ≠ d.fb from fun d hd e => (hM.sep d hd).2.2.1 (by rw [← e]; exact hi)))
      have HOB := Lib.hid (And.intro (show wr.heap.size ≠ mb by omega) (show ∀ d ∈ ds, wr.heap.size ≠ d.fb from fun d hd e => by have := HFR.out d hd; omega))
      have hO7 := Ob.new wr 64 #[.int .i64 kd, .int .i64 od, .int .i64 rg, .slice Al l.length cl]
      have HB := Lib.hid hB1
      have HM := Lib.hid hM1
      have HW := Lib.hid hW1
      have HR := Lib.hid hR
      have HI := Lib.hid hI1
      clear hB hM hW hR hoo hIo hB1 hM1 hW1 hI1 hal1 hm'
      by_cases hlong : 100 < l.length
      · have hd3 : decide ((l.length : Int) > 100) = true := by simp; omega
        go_wp2
        exact ⟨⟨k + 1, ds, md, by omega, by omega, by go_num, HB.out, HM.out, HW.out, HR.out, by omega⟩, by simp [intOf]; omega⟩
      · have hd3 : decide ((l.length : Int) > 100) = false := by simp; omega
        have hkey := Lib.hid (keyI hOK.out.od.1 hOK.out.od.2)
        obtain ⟨q0, q1, q2, q3⟩ := hO7.four
        by_cases e1 : kd = 1
        · subst e1
          have cG := Lib.hid (open_calls od l _ w.heap.size b mb _ ds _ HM.out HI.out hOK.out.l hOK.out.od.1 hOK.out.od.2 HB.out.size)
          go_wp2_with fail
          refine cG.out.mono ?_
          rintro e W2 ⟨⟨fb, rfl, hM2, -⟩, ho2⟩
          clear cG
          have hO72 := ho2.ob hO7 HOB.out.1 HOB.out.2
          have HB2 := Lib.hid (ho2.below HM.out (Nat.le_refl _) HB.out (Nat.le_refl _))
          have HW2 := Lib.hid (ho2.gmap HW.out (HOTH.out _ rfl).1 (HOTH.out _ rfl).2)
          have HM2 := Lib.hid hM2
          have HR2 := Lib.hid (HR.out.open_ od l fb)
          clear q0 q1 q2 q3 hM2 ho2
          obtain ⟨q0, q1, q2, q3⟩ := hO72.four
          go_wp2
          exact ⟨⟨k + 1, _, md, by omega, by omega, by go_num, HB2.out, HM2.out, HW2.out, HR2.out, by omega⟩, by simp [intOf]; omega⟩
        · have e1b : (kd == 1) = false := by simpa using e1
          by_cases e2 : kd = 2
          · subst e2
            clear e1 e1b
            have cG := Lib.hid (ship_calls od rg l _ w.heap.size b mb _ ds _ HM.out HI.out hOK.out.l hOK.out.od.1 hOK.out.od.2)
            go_wp2_with fail
            refine cG.out.mono ?_
            rintro e W2 ⟨rfl, hM2, ho2⟩
            clear cG
            have hO72 := ho2.ob hO7 HOB.out.1 HOB.out.2
            have HB2 := Lib.hid (ho2.below HM.out (Nat.le_refl _) HB.out (Nat.le_refl _))
            have HW2 := Lib.hid (ho2.gmap HW.out (HOTH.out _ rfl).1 (HOTH.out _ rfl).2)
            have HM2 := Lib.hid hM2
            have hw2 := Kept.size ho2
            simp only [World.size_alloc] at hw2
            clear q0 q1 q2 q3 hM2 ho2
            by_cases hcode : (shipOf ds od rg l).2 = 0
            · have HR2 := Lib.hid (HR.out.ship hOK.out.od hOK.out.rg hcode)
              have hnot := HR.out.op od rg hOK.out.od hOK.out.rg
              rw [ship_not_in hcode] at hnot
              rw [hcode]
              clear hcode
              generalize (shipOf ds od rg l).1 = ds2 at *
              obtain ⟨q0, q1, q2, q3⟩ := hO72.four
              have hal := (Below.refl W2.heap.size W2).alloc (Nat.le_refl _) (.cells #[.int .i64 od, .int .i64 rg] 67)
              have hX := Ob.new W2 67 #[.int .i64 od, .int .i64 rg]
              have hwl := HW2.out.lt
              have hW3 := HW2.out.below hal hwl
              have hlk := hW3.look (tm := 62) keyed2 Try.underlying62 (zeroB _) (key2 hOK.out.od hOK.out.rg)
              rw [hnot] at hlk
              obtain ⟨W4, hput, hW4, hg4⟩ := hW3.put (tm := 62) keyed2 Try.underlying62 (by unfold maxLen; omega) (key2 hOK.out.od hOK.out.rg) (val := .bool true)
              have hml := mPut_length_le (K := strK) md (enc2 od rg) (.bool true)
              have HM4 := Lib.hid ((HM2.out.same hal).keep (Kept.of_grown hg4 fun i hi => ⟨hi.1, fun e => hi.2 (Option.some.inj e)⟩))
              have HB4 := Lib.hid ((HB2.out.trans (hal.mono HB2.out.size)).grown hg4 (Nat.le_trans HB2.out.size hal.size) (fun g e => by cases e; omega))
              have HW4 := Lib.hid hW4
              obtain ⟨x0, x1⟩ : _ ∧ _ := ⟨hX.cell (j := 0) (v := .int .i64 od) rfl, hX.cell (j := 1) (v := .int .i64 rg) rfl⟩
              clear hW3 hW4 hg4 hal hX hnot
              go_wp2
              exact ⟨⟨k + 1, ds2, _, by omega, by omega, by go_num, HB4.out, HM4.out, HW4.out, HR2.out, by omega⟩, by simp [intOf]; omega⟩
            · have hsame := ship_same hcode
              have hcb : ((shipOf ds od rg l).2 == 0) = false := by simpa using hcode
              have HM22 := HM2.out
              rw [hsame] at HM22
              have HM3 := Lib.hid HM22
              generalize (shipOf ds od rg l).2 = gc at *
              clear hcode hsame HM2 HM22
              go_wp2
              exact ⟨⟨k + 1, ds, md, by omega, by omega, by go_num, HB2.out, HM3.out, HW2.out, HR.out, by omega⟩, by simp [intOf]; omega⟩
          · have e2b : (kd == 2) = false := by simpa using e2
            clear e1 e2
            go_wp2
            exact ⟨⟨k + 1, ds, md, by omega, by omega, by go_num, HB.out, HM.out, HW.out, HR.out, by omega⟩, by simp [intOf]; omega⟩
    · have hcs : (decide ((k : Int) < (os.length : Int)) = false ∧ ¬ k < os.length) ∨ (decide ((k : Int) < (os.length : Int)) = true ∧ k < os.length ∧ decide ((k : Int) < 200) = false) := by
        by_cases h : k < os.length
        · exact .inr ⟨by simp; omega, h, by simp; omega⟩
        · exact .inl ⟨by simp; omega, h⟩
      have HB := Lib.hid hB
      clear hM hW hR hlt
      rcases hcs with ⟨h1, h2⟩ | ⟨h1, h2, h3⟩
      all_goals
        go_wp2
        go_ret
        exact ⟨rfl, HB.out⟩
end Pc
end Go.Proofs.Ytdbkkldgobkjcaa
