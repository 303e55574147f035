/-
  sector: the law Counts.
-/
import Derived.Test.YteiniahikhiadaaSeY
namespace Go.Proofs.Yteiniahikhiadaa
open Go.RowKit Go.Maps
namespace Se
open Ce
set_option maxRecDepth 100000 in
set_option maxHeartbeats 16000000 in
theorem counts_law (os : List OpV) (v : Value) (w : World) (hO : OpsAt w w.heap.size v os) (hok : ∀ o ∈ os, OkOp o) :
    Calls Try.prog 12 #[v] w fun e w' => e = .returned (.bool true) ∧ Below w.heap.size w w' := by
  obtain ⟨A, c, rfl, hc1, hc2⟩ := hO.form
  unfold maxLen at hc2
  go_enter Try.func12, Try.ntmps12
  go_wp2_with fail
  refine (new_calls 4 w (by omega) (by omega)).mono ?_
  rintro e W1 ⟨⟨d, sb, mb, rfl, hD1⟩, hB1⟩
  go_wp2_with fail
  refine (lives_calls W1).mono ?_
  rintro e W2 ⟨rfl, hb2⟩
  have HD2 := Lib.hid (hD1.same hb2)
  have HB2 := Lib.hid (hB1.trans (hb2.mono hB1.size))
  have hlo := Lib.hid HD2.out.lo
  clear hb2 hD1 hB1
  go_wp2_with fail
  go_loopw [5, 6, 7] (fun x y i wr => ∃ (k : Nat) (D : Dv), k ≤ os.length ∧ k ≤ 200 ∧ i = .int .i64 k ∧ x = .int .i64 D.wr ∧ y = .int .i64 D.fl ∧ (0 ≤ D.wr ∧ D.wr ≤ k) ∧ (0 ≤ D.fl ∧ D.fl ≤ k) ∧ DvAt wr w.heap.size d sb mb D ∧ Below w.heap.size w wr) (fun _ _ i _ => os.length - (intOf i).toNat)
  case atStart => exact ⟨0, _, by omega, by omega, rfl, rfl, rfl, by simp [newD], by simp [newD], HD2.out, HB2.out⟩
  case round =>
    obtain ⟨k, D, hk, hk2, rfl, rfl, rfl, hw, hf, hD, hB⟩ := hrel
    have HB0 := Lib.hid hB
    have HD0 := Lib.hid hD
    clear HD2 HB2 hD hB
    by_cases hlt : k < os.length ∧ k < 200
    · obtain ⟨hlt, hlt2⟩ := hlt
      obtain ⟨bo, po, kv, bv, rfl, hbo, hIk, hIb, g0, g1, g2, g3, g4, g5⟩ := hO.at_ hlt
      replace g0 := (HB0.out.cell (p := ⟨bo, po + k * 6, none⟩) hbo).trans g0
      replace g1 := (HB0.out.cell (p := ⟨bo, po + k * 6 + 1, none⟩) hbo).trans g1
      replace g2 := (HB0.out.cell (p := ⟨bo, po + k * 6 + 2, none⟩) hbo).trans g2
      replace g3 := (HB0.out.cell (p := ⟨bo, po + k * 6 + 3, none⟩) hbo).trans g3
      replace g4 := (HB0.out.cell (p := ⟨bo, po + k * 6 + 4, none⟩) hbo).trans g4
      replace g5 := (HB0.out.cell (p := ⟨bo, po + k * 6 + 5, none⟩) hbo).trans g5
      have hoo := Lib.hid (hok _ (List.getElem_mem hlt))
      generalize os[k] = o at *
      obtain ⟨kd, oi, on, ob, keep, bytes⟩ := o
      dsimp only at hIk hIb g0 g1 g2 g3 g4 g5
      obtain ⟨Ak, ck, rfl, hck1, hck2, -⟩ := hIk.form
      obtain ⟨Ab, cb, rfl, hcb1, hcb2⟩ := hIb.form
      have HK := Lib.hid hIk
      have hd : decide ((k : Int) < (os.length : Int)) = true := by simp; omega
      have hd2 : decide ((k : Int) < 200) = true := by simp; omega
      have hal := (Below.refl wr.heap.size wr).alloc (Nat.le_refl _) (.cells #[.int .i64 kd, .int .i64 oi, .int .i64 on, .int .u8 (ob.toNat : Int), .slice Ak keep.length ck, .slice Ab bytes.length cb] 67)
      have HB1 := Lib.hid (HB0.out.trans (hal.mono HB0.out.size))
      have HD1 := Lib.hid (HD0.out.same hal)
      have hO1 := Ob.new wr 67 #[.int .i64 kd, .int .i64 oi, .int .i64 on, .int .u8 (ob.toNat : Int), .slice Ak keep.length ck, .slice Ab bytes.length cb]
      have hdz := HD0.out.ob.lt
      have hsz := HD0.out.sure.lt
      have hmz := HD0.out.map.lt
      have hz : wr.heap.size < (wr.alloc (.cells #[.int .i64 kd, .int .i64 oi, .int .i64 on, .int .u8 (ob.toNat : Int), .slice Ak keep.length ck, .slice Ab bytes.length cb] 67)).heap.size := by simp
      clear hIk hIb hal hck1 hck2 hcb1 hcb2
      generalize hzz : wr.heap.size = z at *
      obtain ⟨q0, q1, q2, q3, q4, q5⟩ := Ob.six hO1
      by_cases e1 : kd = 1
      · subst e1
        by_cases hcode : (writeD D oi (blockL ob)).2 = 0
        · have HW := Lib.hid (write_wr hcode)
          have HWS := Lib.hid (wrap_small hw.1 hw.2 hlt2)
          have HC := Lib.hid hcode
          clear hcode
          go_wp2_with fail
          generalize hWq : wr.alloc (.cells #[.int .i64 1, .int .i64 oi, .int .i64 on, .int .u8 (ob.toNat : Int), .slice Ak keep.length ck, .slice Ab bytes.length cb] 67) = WA at *
          clear hWq
          have hdr := (Below.refl WA.heap.size WA).drew
          have HD2 := Lib.hid (HD1.out.same hdr)
          have HB2 := Lib.hid (HB1.out.trans (hdr.mono HB1.out.size))
          have hO2 : Ob WA.drew z 67 #[.int .i64 1, .int .i64 oi, .int .i64 on, .int .u8 (ob.toNat : Int), .slice Ak keep.length ck, .slice Ab bytes.length cb] := hO1
          have hz2 : z < WA.drew.heap.size := hz
          clear q0 q1 q2 q3 q4 q5 HB1 HD1 hO1
          refine Pu.regionM [(0, false), (1, false), (2, false), (3, false), (4, false), (5, true), (6, true), (7, false)] (fun V => Ob V z 67 #[.int .i64 1, .int .i64 oi, .int .i64 on, .int .u8 (ob.toNat : Int), .slice Ak keep.length ck, .slice Ab bytes.length cb]) hmx (by kernel_rfl) (by kernel_rfl) (by kernel_rfl) hO2 rfl ?_
          simp only [Pu.named, List.filterMap_cons, List.filterMap_nil, List.getElem?_toArray, List.getElem?_cons_succ, List.getElem?_cons_zero, Option.map_some]
          iterate 5 (first
            | (refine Pu.WalkM.off (by rfl) ?_; simp only [Act.put, List.setIfInBounds_toArray, List.set_cons_succ, List.set_cons_zero])
            | (apply Pu.WalkM.on (by rfl)
               · intro V hV
                 obtain ⟨q0, q1, q2, q3, q4, q5⟩ := Ob.six hV
                 go_wp2_with fail
                 refine ⟨rfl, ?_, rfl⟩
                 try simp only [Act.put, List.setIfInBounds_toArray, List.set_cons_succ, List.set_cons_zero]
                 rfl
               simp only [Act.put, List.setIfInBounds_toArray, List.set_cons_succ, List.set_cons_zero]))
          generalize hWD : WA.drew = WD at *
          clear hWD hdr
          refine Pu.WalkM.make (by rfl) ?_
          intro V hV
          rw [hV]
          clear hV V
          go_wp2_with (go_at_call 39; refine (block_calls ob WD).mono ?_; rintro e W3 ⟨⟨v3, rfl, hv3⟩, hb3⟩)
          have HB3 := Lib.hid (HB2.out.trans (hb3.mono HB2.out.size))
          have hO3 := hO2.same hb3
          have CW := Lib.hid (write_calls (HD2.out.same hb3) oi (blockL ob) v3 WD.heap.size W3.heap.size (BytesAt.of_own hv3) (Nat.le_refl _) HD2.out.ob.lt HD2.out.map.lt)
          rw [HC.out] at CW
          have hz3 : z < W3.heap.size := by have := hb3.size; omega
          clear hb3 hv3 hO2 HD2 HB2 hz2
          refine ⟨rfl, v3, (fun V => Ob V z 67 #[.int .i64 1, .int .i64 oi, .int .i64 on, .int .u8 (ob.toNat : Int), .slice Ak keep.length ck, .slice Ab bytes.length cb]), (fun V => V = W3), ?_, rfl, (fun V h => by rw [h]; exact hO3), (.inr (fun _ h => h)), ?_⟩
          · try simp only [Act.put, List.setIfInBounds_toArray, List.set_cons_succ, List.set_cons_zero]
          try simp only [Act.put, List.setIfInBounds_toArray, List.set_cons_succ, List.set_cons_zero]
          refine Pu.WalkM.make (by rfl) ?_
          intro V hV
          rw [hV]
          clear hV V
          go_wp2_with (go_at_call 38; refine CW.out.mono ?_; rintro e W4 ⟨rfl, hD4, hdv⟩)
          have HB4 := Lib.hid (HB3.out.trans (Dev.below hdv HB3.out.size hlo.out))
          have HD4 := Lib.hid hD4
          have hO4 := Kept.ob hdv hO3 (by omega)
          clear hdv CW HB3 hO3 hD4
          refine ⟨rfl, .int .i64 0, (fun V => Ob V z 67 #[.int .i64 1, .int .i64 oi, .int .i64 on, .int .u8 (ob.toNat : Int), .slice Ak keep.length ck, .slice Ab bytes.length cb]), (fun V => V = W4), ?_, rfl, (fun V h => by rw [h]; exact hO4), (.inr (fun _ h => h)), ?_⟩
          · try simp only [Act.put, List.setIfInBounds_toArray, List.set_cons_succ, List.set_cons_zero]
          try simp only [Act.put, List.setIfInBounds_toArray, List.set_cons_succ, List.set_cons_zero]
          iterate 1 (first
            | (refine Pu.WalkM.off (by rfl) ?_; simp only [Act.put, List.setIfInBounds_toArray, List.set_cons_succ, List.set_cons_zero])
            | (apply Pu.WalkM.on (by rfl)
               · intro V hV
                 go_wp2_with fail
                 refine ⟨rfl, ?_, rfl⟩
                 try simp only [Act.put, List.setIfInBounds_toArray, List.set_cons_succ, List.set_cons_zero]
                 rfl
               simp only [Act.put, List.setIfInBounds_toArray, List.set_cons_succ, List.set_cons_zero]))
          refine Pu.WalkM.nil ?_
          intro V hV
          rw [hV]
          clear hV V
          clear hO4
          generalize hDq : (writeD D oi (blockL ob)).1 = Dq at *
          clear hDq
          have HQ1 := Lib.hid (HW.out.1.trans HWS.out)
          have cC := Lib.hid (counts_calls HD4.out)
          rw [HQ1.out, HW.out.2] at cC
          go_wp2_with fail
          refine cC.out.mono ?_
          rintro e WY ⟨rfl, hbY⟩
          have HFIN := Lib.hid (show ∃ (k' : Nat) (D' : Dv), k' ≤ os.length ∧ k' ≤ 200 ∧ Value.int .i64 ((k : Int) + 1) = .int .i64 k' ∧ Value.int .i64 (D.wr + 1) = .int .i64 D'.wr ∧ Value.int .i64 (D.fl) = .int .i64 D'.fl ∧ (0 ≤ D'.wr ∧ D'.wr ≤ k') ∧ (0 ≤ D'.fl ∧ D'.fl ≤ k') ∧ DvAt WY w.heap.size d sb mb D' ∧ Below w.heap.size w WY from
            ⟨k + 1, Dq, by omega, by omega, by go_num, by rw [HQ1.out], by rw [HW.out.2], by rw [HQ1.out]; omega, by rw [HW.out.2]; omega, HD4.out.same hbY, HB4.out.trans (hbY.mono HB4.out.size)⟩)
          clear hbY cC
          go_wp2
          exact ⟨HFIN.out, by simp [intOf]; omega⟩
        · have HW := Lib.hid (write_no hcode)
          have hcd : ((writeD D oi (blockL ob)).2 == 0) = false := by simpa using hcode
          obtain ⟨cd, hcdd⟩ : ∃ cd, cd = (writeD D oi (blockL ob)).2 := ⟨_, rfl⟩
          rw [← hcdd] at hcd
          have HC := Lib.hid hcdd
          clear hcode hcdd
          go_wp2_with fail
          generalize hWq : wr.alloc (.cells #[.int .i64 1, .int .i64 oi, .int .i64 on, .int .u8 (ob.toNat : Int), .slice Ak keep.length ck, .slice Ab bytes.length cb] 67) = WA at *
          clear hWq
          have hdr := (Below.refl WA.heap.size WA).drew
          have HD2 := Lib.hid (HD1.out.same hdr)
          have HB2 := Lib.hid (HB1.out.trans (hdr.mono HB1.out.size))
          have hO2 : Ob WA.drew z 67 #[.int .i64 1, .int .i64 oi, .int .i64 on, .int .u8 (ob.toNat : Int), .slice Ak keep.length ck, .slice Ab bytes.length cb] := hO1
          have hz2 : z < WA.drew.heap.size := hz
          clear q0 q1 q2 q3 q4 q5 HB1 HD1 hO1
          refine Pu.regionM [(0, false), (1, false), (2, false), (3, false), (4, false), (5, true), (6, true), (7, false)] (fun V => Ob V z 67 #[.int .i64 1, .int .i64 oi, .int .i64 on, .int .u8 (ob.toNat : Int), .slice Ak keep.length ck, .slice Ab bytes.length cb]) hmx (by kernel_rfl) (by kernel_rfl) (by kernel_rfl) hO2 rfl ?_
          simp only [Pu.named, List.filterMap_cons, List.filterMap_nil, List.getElem?_toArray, List.getElem?_cons_succ, List.getElem?_cons_zero, Option.map_some]
          iterate 5 (first
            | (refine Pu.WalkM.off (by rfl) ?_; simp only [Act.put, List.setIfInBounds_toArray, List.set_cons_succ, List.set_cons_zero])
            | (apply Pu.WalkM.on (by rfl)
               · intro V hV
                 obtain ⟨q0, q1, q2, q3, q4, q5⟩ := Ob.six hV
                 go_wp2_with fail
                 refine ⟨rfl, ?_, rfl⟩
                 try simp only [Act.put, List.setIfInBounds_toArray, List.set_cons_succ, List.set_cons_zero]
                 rfl
               simp only [Act.put, List.setIfInBounds_toArray, List.set_cons_succ, List.set_cons_zero]))
          generalize hWD : WA.drew = WD at *
          clear hWD hdr
          refine Pu.WalkM.make (by rfl) ?_
          intro V hV
          rw [hV]
          clear hV V
          go_wp2_with (go_at_call 39; refine (block_calls ob WD).mono ?_; rintro e W3 ⟨⟨v3, rfl, hv3⟩, hb3⟩)
          have HB3 := Lib.hid (HB2.out.trans (hb3.mono HB2.out.size))
          have hO3 := hO2.same hb3
          have CW := Lib.hid (write_calls (HD2.out.same hb3) oi (blockL ob) v3 WD.heap.size W3.heap.size (BytesAt.of_own hv3) (Nat.le_refl _) HD2.out.ob.lt HD2.out.map.lt)
          rw [← HC.out, HW.out] at CW
          have hz3 : z < W3.heap.size := by have := hb3.size; omega
          clear hb3 hv3 hO2 HD2 HB2 hz2
          refine ⟨rfl, v3, (fun V => Ob V z 67 #[.int .i64 1, .int .i64 oi, .int .i64 on, .int .u8 (ob.toNat : Int), .slice Ak keep.length ck, .slice Ab bytes.length cb]), (fun V => V = W3), ?_, rfl, (fun V h => by rw [h]; exact hO3), (.inr (fun _ h => h)), ?_⟩
          · try simp only [Act.put, List.setIfInBounds_toArray, List.set_cons_succ, List.set_cons_zero]
          try simp only [Act.put, List.setIfInBounds_toArray, List.set_cons_succ, List.set_cons_zero]
          refine Pu.WalkM.make (by rfl) ?_
          intro V hV
          rw [hV]
          clear hV V
          go_wp2_with (go_at_call 38; refine CW.out.mono ?_; rintro e W4 ⟨rfl, hD4, hdv⟩)
          have HB4 := Lib.hid (HB3.out.trans (Dev.below hdv HB3.out.size hlo.out))
          have HD4 := Lib.hid hD4
          have hO4 := Kept.ob hdv hO3 (by omega)
          clear hdv CW HB3 hO3 hD4
          refine ⟨rfl, .int .i64 cd, (fun V => Ob V z 67 #[.int .i64 1, .int .i64 oi, .int .i64 on, .int .u8 (ob.toNat : Int), .slice Ak keep.length ck, .slice Ab bytes.length cb]), (fun V => V = W4), ?_, rfl, (fun V h => by rw [h]; exact hO4), (.inr (fun _ h => h)), ?_⟩
          · try simp only [Act.put, List.setIfInBounds_toArray, List.set_cons_succ, List.set_cons_zero]
          try simp only [Act.put, List.setIfInBounds_toArray, List.set_cons_succ, List.set_cons_zero]
          iterate 1 (first
            | (refine Pu.WalkM.off (by rfl) ?_; simp only [Act.put, List.setIfInBounds_toArray, List.set_cons_succ, List.set_cons_zero])
            | (apply Pu.WalkM.on (by rfl)
               · intro V hV
                 go_wp2_with fail
                 refine ⟨rfl, ?_, rfl⟩
                 try simp only [Act.put, List.setIfInBounds_toArray, List.set_cons_succ, List.set_cons_zero]
                 rfl
               simp only [Act.put, List.setIfInBounds_toArray, List.set_cons_succ, List.set_cons_zero]))
          refine Pu.WalkM.nil ?_
          intro V hV
          rw [hV]
          clear hV V
          clear hO4
          have cC := Lib.hid (counts_calls HD4.out)

          go_wp2_with fail
          refine cC.out.mono ?_
          rintro e WY ⟨rfl, hbY⟩
          have HFIN := Lib.hid (show ∃ (k' : Nat) (D' : Dv), k' ≤ os.length ∧ k' ≤ 200 ∧ Value.int .i64 ((k : Int) + 1) = .int .i64 k' ∧ Value.int .i64 (D.wr) = .int .i64 D'.wr ∧ Value.int .i64 (D.fl) = .int .i64 D'.fl ∧ (0 ≤ D'.wr ∧ D'.wr ≤ k') ∧ (0 ≤ D'.fl ∧ D'.fl ≤ k') ∧ DvAt WY w.heap.size d sb mb D' ∧ Below w.heap.size w WY from
            ⟨k + 1, D, by omega, by omega, by go_num, rfl, rfl, by omega, by omega, HD4.out.same hbY, HB4.out.trans (hbY.mono HB4.out.size)⟩)
          clear hbY cC
          go_wp2
          exact ⟨HFIN.out, by simp [intOf]; omega⟩
      · have e1b : (kd == 1) = false := by simpa using e1
        clear e1
        by_cases e2 : kd = 2
        · subst e2
          by_cases hcode : (flushD D).2 = 0
          · have HW := Lib.hid (flush_fl hcode)
            have HWS := Lib.hid (wrap_small hf.1 hf.2 hlt2)
            have HC := Lib.hid hcode
            clear hcode
            go_wp2_with fail
            generalize hWq : wr.alloc (.cells #[.int .i64 2, .int .i64 oi, .int .i64 on, .int .u8 (ob.toNat : Int), .slice Ak keep.length ck, .slice Ab bytes.length cb] 67) = WA at *
            clear hWq
            have CW := Lib.hid (flush_calls HD1.out)
            rw [HC.out] at CW
            refine CW.out.mono ?_
            rintro e W4 ⟨rfl, hD4, hdv⟩
            have HB4 := Lib.hid (HB1.out.trans (Dev.below hdv HB1.out.size hlo.out))
            have HD4 := Lib.hid hD4
            clear hdv CW HB1 HD1 hO1 hD4 q0 q1 q2 q3 q4 q5
            generalize hDq : (flushD D).1 = Dq at *
            clear hDq
            have HQ1 := Lib.hid (HW.out.1.trans HWS.out)
            have cC := Lib.hid (counts_calls HD4.out)
            rw [HW.out.2, HQ1.out] at cC
            go_wp2_with fail
            refine cC.out.mono ?_
            rintro e WY ⟨rfl, hbY⟩
            have HFIN := Lib.hid (show ∃ (k' : Nat) (D' : Dv), k' ≤ os.length ∧ k' ≤ 200 ∧ Value.int .i64 ((k : Int) + 1) = .int .i64 k' ∧ Value.int .i64 (D.wr) = .int .i64 D'.wr ∧ Value.int .i64 (D.fl + 1) = .int .i64 D'.fl ∧ (0 ≤ D'.wr ∧ D'.wr ≤ k') ∧ (0 ≤ D'.fl ∧ D'.fl ≤ k') ∧ DvAt WY w.heap.size d sb mb D' ∧ Below w.heap.size w WY from
              ⟨k + 1, Dq, by omega, by omega, by go_num, by rw [HW.out.2], by rw [HQ1.out], by rw [HW.out.2]; omega, by rw [HQ1.out]; omega, HD4.out.same hbY, HB4.out.trans (hbY.mono HB4.out.size)⟩)
            clear hbY cC
            go_wp2
            exact ⟨HFIN.out, by simp [intOf]; omega⟩
          · have HW := Lib.hid (flush_no hcode)
            have hcd : ((flushD D).2 == 0) = false := by simpa using hcode
            obtain ⟨cd, hcdd⟩ : ∃ cd, cd = (flushD D).2 := ⟨_, rfl⟩
            rw [← hcdd] at hcd
            have HC := Lib.hid hcdd
            clear hcode hcdd
            go_wp2_with fail
            generalize hWq : wr.alloc (.cells #[.int .i64 2, .int .i64 oi, .int .i64 on, .int .u8 (ob.toNat : Int), .slice Ak keep.length ck, .slice Ab bytes.length cb] 67) = WA at *
            clear hWq
            have CW := Lib.hid (flush_calls HD1.out)
            rw [← HC.out, HW.out] at CW
            refine CW.out.mono ?_
            rintro e W4 ⟨rfl, hD4, hdv⟩
            have HB4 := Lib.hid (HB1.out.trans (Dev.below hdv HB1.out.size hlo.out))
            have HD4 := Lib.hid hD4
            clear hdv CW HB1 HD1 hO1 hD4 q0 q1 q2 q3 q4 q5
            have cC := Lib.hid (counts_calls HD4.out)

            go_wp2_with fail
            refine cC.out.mono ?_
            rintro e WY ⟨rfl, hbY⟩
            have HFIN := Lib.hid (show ∃ (k' : Nat) (D' : Dv), k' ≤ os.length ∧ k' ≤ 200 ∧ Value.int .i64 ((k : Int) + 1) = .int .i64 k' ∧ Value.int .i64 (D.wr) = .int .i64 D'.wr ∧ Value.int .i64 (D.fl) = .int .i64 D'.fl ∧ (0 ≤ D'.wr ∧ D'.wr ≤ k') ∧ (0 ≤ D'.fl ∧ D'.fl ≤ k') ∧ DvAt WY w.heap.size d sb mb D' ∧ Below w.heap.size w WY from
              ⟨k + 1, D, by omega, by omega, by go_num, rfl, rfl, by omega, by omega, HD4.out.same hbY, HB4.out.trans (hbY.mono HB4.out.size)⟩)
            clear hbY cC
            go_wp2
            exact ⟨HFIN.out, by simp [intOf]; omega⟩
        · have e2b : (kd == 2) = false := by simpa using e2
          clear e2
          by_cases e3 : kd = 3
          · subst e3
            go_wp2_with fail
            generalize hWq : wr.alloc (.cells #[.int .i64 3, .int .i64 oi, .int .i64 on, .int .u8 (ob.toNat : Int), .slice Ak keep.length ck, .slice Ab bytes.length cb] 67) = WA at *
            clear hWq
            have CW := Lib.hid (crash_calls HD1.out keep _ 0 w.heap.size (HK.out.mono HB1.out (Nat.le_refl _)) (fun i h1 h2 => by have := hlo.out; have := HB1.out.size; omega) oi on)
            have HW := Lib.hid (crash_wr D keep oi on)
            refine CW.out.mono ?_
            rintro e W4 ⟨rfl, hD4, hdv⟩
            have HB4 := Lib.hid (HB1.out.trans (Dev.below hdv HB1.out.size hlo.out))
            have HD4 := Lib.hid hD4
            clear hdv CW HB1 HD1 hO1 hD4 q0 q1 q2 q3 q4 q5
            generalize hDq : (crashD D keep oi on).1 = Dq at *
            clear hDq
            have cC := Lib.hid (counts_calls HD4.out)
            rw [HW.out.1, HW.out.2] at cC
            go_wp2_with fail
            refine cC.out.mono ?_
            rintro e WY ⟨rfl, hbY⟩
            have HFIN := Lib.hid (show ∃ (k' : Nat) (D' : Dv), k' ≤ os.length ∧ k' ≤ 200 ∧ Value.int .i64 ((k : Int) + 1) = .int .i64 k' ∧ Value.int .i64 (D.wr) = .int .i64 D'.wr ∧ Value.int .i64 (D.fl) = .int .i64 D'.fl ∧ (0 ≤ D'.wr ∧ D'.wr ≤ k') ∧ (0 ≤ D'.fl ∧ D'.fl ≤ k') ∧ DvAt WY w.heap.size d sb mb D' ∧ Below w.heap.size w WY from
              ⟨k + 1, Dq, by omega, by omega, by go_num, by rw [HW.out.1], by rw [HW.out.2], by rw [HW.out.1]; omega, by rw [HW.out.2]; omega, HD4.out.same hbY, HB4.out.trans (hbY.mono HB4.out.size)⟩)
            clear hbY cC
            go_wp2
            exact ⟨HFIN.out, by simp [intOf]; omega⟩
          · have e3b : (kd == 3) = false := by simpa using e3
            clear e3
            by_cases e4 : kd = 4
            · subst e4
              go_wp2_with fail
              generalize hWq : wr.alloc (.cells #[.int .i64 4, .int .i64 oi, .int .i64 on, .int .u8 (ob.toNat : Int), .slice Ak keep.length ck, .slice Ab bytes.length cb] 67) = WA at *
              clear hWq
              have CW := Lib.hid (stop_calls HD1.out on hoo.out.n.1 hoo.out.n.2)
              refine CW.out.mono ?_
              rintro e W4 ⟨rfl, hD4, hg⟩
              have HB4 := Lib.hid (HB1.out.trans (Dev.below (Dev.of_own (sb := sb) (mb := mb) hg) HB1.out.size hlo.out))
              have HD4 := Lib.hid hD4
              clear hg CW HB1 HD1 hO1 hD4 q0 q1 q2 q3 q4 q5
              have HW1 := Lib.hid (show (stopD D on).wr = D.wr from rfl)
              have HW2 := Lib.hid (show (stopD D on).fl = D.fl from rfl)
              generalize hDq : stopD D on = Dq at *
              clear hDq
              have cC := Lib.hid (counts_calls HD4.out)
              rw [HW1.out, HW2.out] at cC
              go_wp2_with fail
              refine cC.out.mono ?_
              rintro e WY ⟨rfl, hbY⟩
              have HFIN := Lib.hid (show ∃ (k' : Nat) (D' : Dv), k' ≤ os.length ∧ k' ≤ 200 ∧ Value.int .i64 ((k : Int) + 1) = .int .i64 k' ∧ Value.int .i64 (D.wr) = .int .i64 D'.wr ∧ Value.int .i64 (D.fl) = .int .i64 D'.fl ∧ (0 ≤ D'.wr ∧ D'.wr ≤ k') ∧ (0 ≤ D'.fl ∧ D'.fl ≤ k') ∧ DvAt WY w.heap.size d sb mb D' ∧ Below w.heap.size w WY from
                ⟨k + 1, Dq, by omega, by omega, by go_num, by rw [HW1.out], by rw [HW2.out], by rw [HW1.out]; omega, by rw [HW2.out]; omega, HD4.out.same hbY, HB4.out.trans (hbY.mono HB4.out.size)⟩)
              clear hbY cC
              go_wp2
              exact ⟨HFIN.out, by simp [intOf]; omega⟩
            · have e4b : (kd == 4) = false := by simpa using e4
              clear e4
              have cC := Lib.hid (counts_calls HD1.out)

              go_wp2_with fail
              refine cC.out.mono ?_
              rintro e WY ⟨rfl, hbY⟩
              have HFIN := Lib.hid (show ∃ (k' : Nat) (D' : Dv), k' ≤ os.length ∧ k' ≤ 200 ∧ Value.int .i64 ((k : Int) + 1) = .int .i64 k' ∧ Value.int .i64 (D.wr) = .int .i64 D'.wr ∧ Value.int .i64 (D.fl) = .int .i64 D'.fl ∧ (0 ≤ D'.wr ∧ D'.wr ≤ k') ∧ (0 ≤ D'.fl ∧ D'.fl ≤ k') ∧ DvAt WY w.heap.size d sb mb D' ∧ Below w.heap.size w WY from
                ⟨k + 1, D, by omega, by omega, by go_num, rfl, rfl, by omega, by omega, HD1.out.same hbY, HB1.out.trans (hbY.mono HB1.out.size)⟩)
              clear hbY cC
              go_wp2
              exact ⟨HFIN.out, by simp [intOf]; omega⟩
    · have hcs : (decide ((k : Int) < (os.length : Int)) = false ∧ ¬ k < os.length) ∨ (decide ((k : Int) < (os.length : Int)) = true ∧ k < os.length ∧ decide ((k : Int) < 200) = false) := by
        by_cases h : k < os.length
        · exact .inr ⟨by simp; omega, h, by simp; omega⟩
        · exact .inl ⟨by simp; omega, h⟩
      clear hlt
      rcases hcs with ⟨h1, h2⟩ | ⟨h1, h2, h3⟩
      all_goals
        go_wp2
        go_ret
        exact ⟨rfl, HB0.out⟩
end Se
end Go.Proofs.Yteiniahikhiadaa
