/-
  sector: the law Does.
-/
import Derived.Test.YteiniahikhiadaaSgI
import Derived.Test.YteiniahikhiadaaOps
namespace Go.Proofs.Yteiniahikhiadaa
open Go.RowKit Go.Maps
namespace Se
open Ce
/-- both devices, that go along -/
structure Both (w0 wr : World) (d sb mb zb x xs lb tb n : Nat) (D : Dv) (R : Rv) : Prop where
  dv : DvAt wr w0.heap.size d sb mb D
  rv : RvAt wr zb x xs lb tb R
  al : Along D R
  len : D.sure.length = n
  lt : d < zb ∧ sb < zb ∧ mb < zb
  lo : w0.heap.size ≤ zb
  below : Below w0.heap.size w0 wr
section
variable {w0 wr w' : World} {d sb mb zb x xs lb tb n : Nat} {D D' : Dv} {R R' : Rv}
theorem Both.same (h : Both w0 wr d sb mb zb x xs lb tb n D R) (hb : Below wr.heap.size wr w') : Both w0 w' d sb mb zb x xs lb tb n D R :=
  ⟨h.dv.same hb, h.rv.same hb, h.al, h.len, h.lt, h.lo, h.below.trans (hb.mono h.below.size)⟩
theorem RvAt.dev (h : RvAt wr zb x xs lb tb R) (hv : Dev d sb mb wr w') (hz : d < zb ∧ sb < zb ∧ mb < zb) : RvAt w' zb x xs lb tb R := by
  have hl := h.lo
  exact h.kept hv ⟨h.ob.lt, by omega, by omega, by omega⟩ ⟨h.sure.lt, by omega, by omega, by omega⟩ ⟨h.last.lt, by omega, by omega, by omega⟩ ⟨h.dirty.lt, by omega, by omega, by omega⟩
theorem DvAt.rev {base : Nat} (h : DvAt wr base d sb mb D) (hv : Rev x xs lb tb wr w') (hz : d < zb ∧ sb < zb ∧ mb < zb) (hl : zb ≤ x ∧ zb ≤ xs ∧ zb ≤ lb ∧ zb ≤ tb) : DvAt w' base d sb mb D := by
  exact h.kept hv ⟨h.ob.lt, by omega, by omega, by omega, by omega⟩ ⟨h.sure.lt, by omega, by omega, by omega, by omega⟩ ⟨h.map.lt, by omega, by omega, by omega, by omega⟩
/-- behind a call of the program's device, ahead of the document's -/
structure Midway (w0 wr : World) (d sb mb zb x xs lb tb n : Nat) (D D' : Dv) (R : Rv) : Prop where
  dv : DvAt wr w0.heap.size d sb mb D'
  rv : RvAt wr zb x xs lb tb R
  al : Along D R
  len : D.sure.length = n
  lt : d < zb ∧ sb < zb ∧ mb < zb
  lo : w0.heap.size ≤ zb
  below : Below w0.heap.size w0 wr
theorem Both.half (h : Both w0 wr d sb mb zb x xs lb tb n D R) (hD : DvAt w' w0.heap.size d sb mb D') (hv : Dev d sb mb wr w') : Midway w0 w' d sb mb zb x xs lb tb n D D' R :=
  ⟨hD, h.rv.dev hv h.lt, h.al, h.len, h.lt, h.lo, h.below.trans (Dev.below hv h.below.size h.dv.lo)⟩
theorem Midway.same (h : Midway w0 wr d sb mb zb x xs lb tb n D D' R) (hb : Below wr.heap.size wr w') : Midway w0 w' d sb mb zb x xs lb tb n D D' R :=
  ⟨h.dv.same hb, h.rv.same hb, h.al, h.len, h.lt, h.lo, h.below.trans (hb.mono h.below.size)⟩
theorem Midway.both (h : Midway w0 wr d sb mb zb x xs lb tb n D D' R) (hR : RvAt w' zb x xs lb tb R') (hv : Rev x xs lb tb wr w') (ha : Along D' R') (hl : D'.sure.length = n) : Both w0 w' d sb mb zb x xs lb tb n D' R' :=
  ⟨h.dv.rev hv h.lt h.rv.lo, hR, ha, hl, h.lt, h.lo, h.below.trans (Rev.below hv h.below.size (by have := h.rv.lo; have := h.lo; omega))⟩
end
theorem Both.above {w0 wr w' : World} {d sb mb zb x xs lb tb n G : Nat} {D : Dv} {R : Rv} (h : Both w0 wr d sb mb zb x xs lb tb n D R) (hb : Below G wr w') (hG : d < G ∧ sb < G ∧ mb < G ∧ x < G ∧ xs < G ∧ lb < G ∧ tb < G) (hw : w0.heap.size ≤ G) : Both w0 w' d sb mb zb x xs lb tb n D R :=
  ⟨h.dv.kept (Kept.of_below hb (Fr := fun i => i < G) fun _ hi => hi) hG.1 hG.2.1 hG.2.2.1, h.rv.kept (Kept.of_below hb (Fr := fun i => i < G) fun _ hi => hi) hG.2.2.2.1 hG.2.2.2.2.1 hG.2.2.2.2.2.1 hG.2.2.2.2.2.2, h.al, h.len, h.lt, h.lo, h.below.trans (hb.mono hw)⟩
theorem intInfo : (Try.prog.info? 3).map (fun i => (i.zero, i.size, i.bytes)) = some (some (.int .i64 0), 1, 8) := by kernel_rfl
theorem len_write (D : Dv) (i : Int) (b : Blk) : (writeD D i b).1.sure.length = D.sure.length := by rw [write_sure]
theorem len_flush (D : Dv) : (flushD D).1.sure.length = D.sure.length := by
  unfold flushD
  split
  · rfl
  · simp
theorem len_crash (D : Dv) (keep : List Int) (t n : Int) : (crashD D keep t n).1.sure.length = D.sure.length := by
  unfold crashD
  split
  · rfl
  · simp
theorem own_kept {A B : World} {Fr : Nat → Prop} {lo : Nat} {e : TypeId} {size n : Nat} {v : Value} {xs : List Value} (h : A.ownsRow lo e size v n xs) (hk : Kept Fr A B) (hF : ∀ i, lo ≤ i → i < A.heap.size → Fr i) : B.ownsRow lo e size v n xs := by
  refine ⟨h.1, h.2.elim Or.inl fun hx => .inr ?_⟩
  revert hx
  rintro ⟨g, cap, cur, rfl, hbg, hg, hnc⟩
  exact ⟨g, cap, cur, rfl, hbg, (hk.block g (hF g hbg (Array.getElem?_eq_some_iff.1 hg).1)).trans hg, hnc⟩
set_option maxRecDepth 100000 in
set_option maxHeartbeats 32000000 in
theorem does_mid (n : Nat) (os : List OpV) (v : Value) (w : World) (hn1 : 1 ≤ n) (hn2 : n ≤ 100) (hO : OpsAt w w.heap.size v os) (hok : ∀ o ∈ os, OkOp o) :
    Calls Try.prog 10 #[.int .i64 (n : Int), v] w fun e w' => e = .returned (.bool true) ∧ Below w.heap.size w w' := by
  obtain ⟨A, c, rfl, hc1, hc2⟩ := hO.form
  unfold maxLen at hc2
  have t1 : decide ((n : Int) < 1) = false := by simp; omega
  have t2 : decide ((n : Int) > 16384) = false := by simp; omega
  have t3 : decide ((n : Int) > 100) = false := by simp; omega
  go_enter Try.func10, Try.ntmps10
  go_wp2_with fail
  refine (new_calls n w (by omega) (by omega)).mono ?_
  rintro e W1 ⟨⟨d, sb, mb, rfl, hD1⟩, hB1⟩
  go_wp2_with fail
  refine (lives_calls W1).mono ?_
  rintro e W2 ⟨rfl, hb2⟩
  have HD2 := Lib.hid (hD1.same hb2)
  have HB2 := Lib.hid (hB1.trans (hb2.mono hB1.size))
  clear hb2 hD1 hB1
  go_wp2_with fail
  refine (rnew_calls n W2 (by omega) (by omega)).mono ?_
  rintro e W3 ⟨⟨x, xs, lb, tb, rfl, hR3⟩, hb3⟩
  have HB3 := Lib.hid (show Both w W3 d sb mb W2.heap.size x xs lb tb n (newD n) (newR n) from ⟨HD2.out.same hb3, hR3, Along.new n, by simp [newD], ⟨HD2.out.ob.lt, HD2.out.sure.lt, HD2.out.map.lt⟩, HB2.out.size, HB2.out.trans (hb3.mono HB2.out.size)⟩)
  clear hb3 hR3 HD2 HB2
  generalize W2.heap.size = zb at *
  clear t1 t2 t3
  go_wp2_with fail
  go_loopw [8] (fun i wr => ∃ (k : Nat) (D : Dv) (R : Rv), k ≤ os.length ∧ i = .int .i64 k ∧ Both w wr d sb mb zb x xs lb tb n D R) (fun i _ => os.length - (intOf i).toNat)
  case atStart => exact ⟨0, _, _, by omega, rfl, HB3.out⟩
  case round =>
    obtain ⟨k, D, R, hk, rfl, hB⟩ := hrel
    have HB := Lib.hid hB
    clear HB3 hB
    by_cases hlt : k < os.length
    · obtain ⟨bo, po, kv, bv, rfl, hbo, hIk, hIb, g0, g1, g2, g3, g4, g5⟩ := hO.at_ hlt
      replace g0 := (HB.out.below.cell (p := ⟨bo, po + k * 6, none⟩) hbo).trans g0
      replace g1 := (HB.out.below.cell (p := ⟨bo, po + k * 6 + 1, none⟩) hbo).trans g1
      replace g2 := (HB.out.below.cell (p := ⟨bo, po + k * 6 + 2, none⟩) hbo).trans g2
      replace g3 := (HB.out.below.cell (p := ⟨bo, po + k * 6 + 3, none⟩) hbo).trans g3
      replace g4 := (HB.out.below.cell (p := ⟨bo, po + k * 6 + 4, none⟩) hbo).trans g4
      replace g5 := (HB.out.below.cell (p := ⟨bo, po + k * 6 + 5, none⟩) hbo).trans g5
      have hoo := Lib.hid (hok _ (List.getElem_mem hlt))
      generalize os[k] = o at *
      obtain ⟨kd, oi, on, ob, keep, bytes⟩ := o
      dsimp only at hIk hIb g0 g1 g2 g3 g4 g5
      obtain ⟨Ak, ck, rfl, hck1, hck2, -⟩ := hIk.form
      obtain ⟨Ab, cb, rfl, hcb1, hcb2⟩ := hIb.form
      have HIK := Lib.hid hIk
      have HIB := Lib.hid hIb
      have hd : decide ((k : Int) < (os.length : Int)) = true := by simp; omega
      have hal := (Below.refl wr.heap.size wr).alloc (Nat.le_refl _) (.cells #[.int .i64 kd, .int .i64 oi, .int .i64 on, .int .u8 (ob.toNat : Int), .slice Ak keep.length ck, .slice Ab bytes.length cb] 67)
      have HB1 := Lib.hid (HB.out.same hal)
      have hO1 := Ob.new wr 67 #[.int .i64 kd, .int .i64 oi, .int .i64 on, .int .u8 (ob.toNat : Int), .slice Ak keep.length ck, .slice Ab bytes.length cb]
      have hzb : d < wr.heap.size ∧ sb < wr.heap.size ∧ mb < wr.heap.size ∧ x < wr.heap.size ∧ xs < wr.heap.size ∧ lb < wr.heap.size ∧ tb < wr.heap.size := ⟨HB.out.dv.ob.lt, HB.out.dv.sure.lt, HB.out.dv.map.lt, HB.out.rv.ob.lt, HB.out.rv.sure.lt, HB.out.rv.last.lt, HB.out.rv.dirty.lt⟩
      have HOK := Lib.hid HB.out.dv.ok
      have hwz := HB.out.below.size
      have hz : wr.heap.size < (wr.alloc (.cells #[.int .i64 kd, .int .i64 oi, .int .i64 on, .int .u8 (ob.toNat : Int), .slice Ak keep.length ck, .slice Ab bytes.length cb] 67)).heap.size := by simp
      have HAL := Lib.hid hal
      clear hIk hIb hal hck1 hck2 hcb1 hcb2 HB
      generalize hzz : wr.heap.size = z at *
      obtain ⟨q0, q1, q2, q3, q4, q5⟩ := Ob.six hO1
      by_cases hbig : bytes.length ≤ 1000 ∧ keep.length ≤ 1000
      · obtain ⟨hb1, hb2⟩ := hbig
        have u1 : decide ((bytes.length : Int) > 1000) = false := by simp; omega
        have u2 : decide ((keep.length : Int) > 1000) = false := by simp; omega
        by_cases e1 : kd = 1
        · subst e1
          go_wp2_with fail
          generalize hWq : wr.alloc (.cells #[.int .i64 1, .int .i64 oi, .int .i64 on, .int .u8 (ob.toNat : Int), .slice Ak keep.length ck, .slice Ab bytes.length cb] 67) = WA at *
          clear hWq
          have hdr := (Below.refl WA.heap.size WA).drew
          have HB2 := Lib.hid (HB1.out.same hdr)
          have hO2 : Ob WA.drew z 67 #[.int .i64 1, .int .i64 oi, .int .i64 on, .int .u8 (ob.toNat : Int), .slice Ak keep.length ck, .slice Ab bytes.length cb] := hO1
          have HALD := Lib.hid (HAL.out.drew)
          have hz2 : z < WA.drew.heap.size := hz
          clear q0 q1 q2 q3 q4 q5 HB1 HAL
          refine Pu.regionM [(0, false), (1, false), (2, false), (3, false), (4, false), (7, false), (8, false), (9, false), (10, false), (11, false), (5, true), (6, true), (12, true), (13, true), (14, false), (15, false)] (fun V => Ob V z 67 #[.int .i64 1, .int .i64 oi, .int .i64 on, .int .u8 (ob.toNat : Int), .slice Ak keep.length ck, .slice Ab bytes.length cb]) hmx (by kernel_rfl) (by kernel_rfl) (by kernel_rfl) hO2 rfl ?_
          simp only [Pu.named, List.filterMap_cons, List.filterMap_nil, List.getElem?_toArray, List.getElem?_cons_succ, List.getElem?_cons_zero, Option.map_some]
          iterate 10 (first
            | (refine Pu.WalkM.off (by rfl) ?_; simp only [Act.put, List.setIfInBounds_toArray, List.set_cons_succ, List.set_cons_zero])
            | (apply Pu.WalkM.on (by rfl)
               · intro V hV
                 obtain ⟨q0, q1, q2, q3, q4, q5⟩ := Ob.six hV
                 go_wp2_with fail
                 refine ⟨rfl, ?_, rfl⟩
                 try simp only [Act.put, List.setIfInBounds_toArray, List.set_cons_succ, List.set_cons_zero]
                 rfl
               simp only [Act.put, List.setIfInBounds_toArray, List.set_cons_succ, List.set_cons_zero]))
          generalize hWD : WA.drew = WD at *
          clear hWD hdr
          refine Pu.WalkM.make (by rfl) ?_
          intro V hV
          rw [hV]
          clear hV V
          go_wp2_with (go_at_call 39; refine (block_calls ob WD).mono ?_; rintro e W3 ⟨⟨v3, rfl, hv3⟩, hb3⟩)
          have HB3 := Lib.hid (HB2.out.same hb3)
          have hO3 := hO2.same hb3
          have hz3 : z < W3.heap.size := by have := hb3.size; omega
          have CW := Lib.hid (write_calls HB3.out.dv oi (blockL ob) v3 WD.heap.size W3.heap.size (BytesAt.of_own hv3) (Nat.le_refl _) HB2.out.dv.ob.lt HB2.out.dv.map.lt)
          clear hb3 hv3 hO2 HB2 hz2
          refine ⟨rfl, v3, (fun V => Ob V z 67 #[.int .i64 1, .int .i64 oi, .int .i64 on, .int .u8 (ob.toNat : Int), .slice Ak keep.length ck, .slice Ab bytes.length cb]), (fun V => V = W3), ?_, rfl, (fun V h => by rw [h]; exact hO3), (.inr (fun _ h => h)), ?_⟩
          · try simp only [Act.put, List.setIfInBounds_toArray, List.set_cons_succ, List.set_cons_zero]
          try simp only [Act.put, List.setIfInBounds_toArray, List.set_cons_succ, List.set_cons_zero]
          refine Pu.WalkM.make (by rfl) ?_
          intro V hV
          rw [hV]
          clear hV V
          go_wp2_with (go_at_call 38; refine CW.out.mono ?_; rintro e W4 ⟨rfl, hD4, hdv⟩)
          have HH4 := Lib.hid (HB3.out.half hD4 hdv)
          have hO4 := Kept.ob hdv hO3 (by omega)
          have hz4 : z < W4.heap.size := by have := Kept.size hdv; omega
          clear hdv CW HB3 hD4 hO3 hz3
          refine ⟨rfl, .int .i64 (writeD D oi (blockL ob)).2, (fun V => Ob V z 67 #[.int .i64 1, .int .i64 oi, .int .i64 on, .int .u8 (ob.toNat : Int), .slice Ak keep.length ck, .slice Ab bytes.length cb]), (fun V => V = W4), ?_, rfl, (fun V h => by rw [h]; exact hO4), (.inr (fun _ h => h)), ?_⟩
          · try simp only [Act.put, List.setIfInBounds_toArray, List.set_cons_succ, List.set_cons_zero]
          try simp only [Act.put, List.setIfInBounds_toArray, List.set_cons_succ, List.set_cons_zero]
          refine Pu.WalkM.make (by rfl) ?_
          intro V hV
          rw [hV]
          clear hV V
          go_wp2_with (go_at_call 39; refine (block_calls ob W4).mono ?_; rintro e W5 ⟨⟨v5, rfl, hv5⟩, hb5⟩)
          have HH5 := Lib.hid (HH4.out.same hb5)
          have hO5 := hO4.same hb5
          have hz5 : z < W5.heap.size := by have := hb5.size; omega
          have cR := rwrite_calls HH5.out.rv oi (blockL ob) v5 W4.heap.size W5.heap.size (BytesAt.of_own hv5) (Nat.le_refl _) (fun k h1 h2 => by omega)
          have hal2 := HH4.out.al.write HOK.out oi (blockL ob)
          rw [hal2.1] at cR
          have CR := Lib.hid cR
          have HAL2 := Lib.hid hal2.2
          clear hb5 hv5 cR hal2 HH4 hO4 hz4
          refine ⟨rfl, v5, (fun V => Ob V z 67 #[.int .i64 1, .int .i64 oi, .int .i64 on, .int .u8 (ob.toNat : Int), .slice Ak keep.length ck, .slice Ab bytes.length cb]), (fun V => V = W5), ?_, rfl, (fun V h => by rw [h]; exact hO5), (.inr (fun _ h => h)), ?_⟩
          · try simp only [Act.put, List.setIfInBounds_toArray, List.set_cons_succ, List.set_cons_zero]
          try simp only [Act.put, List.setIfInBounds_toArray, List.set_cons_succ, List.set_cons_zero]
          refine Pu.WalkM.make (by rfl) ?_
          intro V hV
          rw [hV]
          clear hV V
          go_wp2_with (go_at_call 44; refine CR.out.mono ?_; rintro e W6 ⟨rfl, hR6, hrv⟩)
          have HB6 := Lib.hid (HH5.out.both hR6 hrv HAL2.out ((len_write _ _ _).trans HH5.out.len))
          have hO6 := Kept.ob hrv hO5 (by omega)
          clear hrv CR hR6 HH5 HAL2 hO5 hz5
          refine ⟨rfl, .int .i64 (writeD D oi (blockL ob)).2, (fun V => Ob V z 67 #[.int .i64 1, .int .i64 oi, .int .i64 on, .int .u8 (ob.toNat : Int), .slice Ak keep.length ck, .slice Ab bytes.length cb]), (fun V => V = W6), ?_, rfl, (fun V h => by rw [h]; exact hO6), (.inr (fun _ h => h)), ?_⟩
          · try simp only [Act.put, List.setIfInBounds_toArray, List.set_cons_succ, List.set_cons_zero]
          try simp only [Act.put, List.setIfInBounds_toArray, List.set_cons_succ, List.set_cons_zero]
          generalize (writeD D oi (blockL ob)).2 = cd at *
          iterate 2 (first
            | (refine Pu.WalkM.off (by rfl) ?_; simp only [Act.put, List.setIfInBounds_toArray, List.set_cons_succ, List.set_cons_zero])
            | (apply Pu.WalkM.on (by rfl)
               · intro V hV
                 go_wp2_with fail
                 refine ⟨rfl, ?_, rfl⟩
                 try simp only [Act.put, List.setIfInBounds_toArray, List.set_cons_succ, List.set_cons_zero]
                 rfl
               simp only [Act.put, List.setIfInBounds_toArray, List.set_cons_succ, List.set_cons_zero]))
          refine Pu.WalkM.nil ?_
          intro V hV
          rw [hV]
          clear hV V
          clear hO6
          go_wp2_with fail
          refine (read_arg HB6.out.dv (-1) (.inl (by omega))).mono ?_
          rintro e W' ⟨rfl, rfl⟩
          go_wp2_with fail
          refine (read_arg HB6.out.dv n (.inr (by rw [HB6.out.len]; omega))).mono ?_
          rintro e W' ⟨rfl, rfl⟩
          go_wp2_with fail
          refine (looks_calls HB6.out.dv HB6.out.rv HB6.out.al).mono ?_
          rintro e WY ⟨rfl, hbY⟩
          have HBY := Lib.hid (HB6.out.same hbY)
          clear hbY
          go_wp2
          exact ⟨⟨k + 1, _, _, by omega, by go_num, HBY.out⟩, by simp [intOf]; omega⟩
        · have e1b : (kd == 1) = false := by simpa using e1
          clear e1
          by_cases e2 : kd = 2
          · subst e2
            go_wp2_with fail
            generalize hWq : wr.alloc (.cells #[.int .i64 2, .int .i64 oi, .int .i64 on, .int .u8 (ob.toNat : Int), .slice Ak keep.length ck, .slice Ab bytes.length cb] 67) = WA at *
            clear hWq
            refine (flush_calls HB1.out.dv).mono ?_
            rintro e W4 ⟨rfl, hD4, hdv⟩
            have HH4 := Lib.hid (HB1.out.half hD4 hdv)
            clear hD4 hdv q0 q1 q2 q3 q4 q5 HB1 HAL hO1
            have hal2 := HH4.out.al.flush HOK.out
            have cR := rflush_calls HH4.out.rv
            rw [hal2.1] at cR
            have CR := Lib.hid cR
            have HAL2 := Lib.hid hal2.2
            clear cR hal2
            generalize (flushD D).2 = cd at *
            go_wp2_with fail
            refine CR.out.mono ?_
            rintro e W6 ⟨rfl, hR6, hrv⟩
            have HB6 := Lib.hid (HH4.out.both hR6 hrv HAL2.out ((len_flush _).trans HH4.out.len))
            clear hrv CR hR6 HH4 HAL2
            go_wp2_with fail
            refine (read_arg HB6.out.dv (-1) (.inl (by omega))).mono ?_
            rintro e W' ⟨rfl, rfl⟩
            go_wp2_with fail
            refine (read_arg HB6.out.dv n (.inr (by rw [HB6.out.len]; omega))).mono ?_
            rintro e W' ⟨rfl, rfl⟩
            go_wp2_with fail
            refine (looks_calls HB6.out.dv HB6.out.rv HB6.out.al).mono ?_
            rintro e WY ⟨rfl, hbY⟩
            have HBY := Lib.hid (HB6.out.same hbY)
            clear hbY
            go_wp2
            exact ⟨⟨k + 1, _, _, by omega, by go_num, HBY.out⟩, by simp [intOf]; omega⟩
          · have e2b : (kd == 2) = false := by simpa using e2
            clear e2
            by_cases e3 : kd = 3
            · subst e3
              go_wp2_with fail
              generalize hWq : wr.alloc (.cells #[.int .i64 3, .int .i64 oi, .int .i64 on, .int .u8 (ob.toNat : Int), .slice Ak keep.length ck, .slice Ab bytes.length cb] 67) = WA at *
              clear hWq
              have hdr := (Below.refl WA.heap.size WA).drew
              have HB2 := Lib.hid (HB1.out.same hdr)
              have hO2 : Ob WA.drew z 67 #[.int .i64 3, .int .i64 oi, .int .i64 on, .int .u8 (ob.toNat : Int), .slice Ak keep.length ck, .slice Ab bytes.length cb] := hO1
              have HALD := Lib.hid (HAL.out.drew)
              have hz2 : z < WA.drew.heap.size := hz
              clear q0 q1 q2 q3 q4 q5 HB1 HAL
              refine Pu.regionM [(0, false), (2, false), (3, false), (5, false), (6, false), (7, false), (8, false), (10, false), (11, false), (12, false), (13, false), (14, false), (15, false), (16, false), (1, true), (4, true), (9, true), (17, true), (18, false), (19, false)] (fun V => Ob V z 67 #[.int .i64 3, .int .i64 oi, .int .i64 on, .int .u8 (ob.toNat : Int), .slice Ak keep.length ck, .slice Ab bytes.length cb]) hmx (by kernel_rfl) (by kernel_rfl) (by kernel_rfl) hO2 rfl ?_
              simp only [Pu.named, List.filterMap_cons, List.filterMap_nil, List.getElem?_toArray, List.getElem?_cons_succ, List.getElem?_cons_zero, Option.map_some]
              iterate 14 (first
                | (refine Pu.WalkM.off (by rfl) ?_; simp only [Act.put, List.setIfInBounds_toArray, List.set_cons_succ, List.set_cons_zero])
                | (apply Pu.WalkM.on (by rfl)
                   · intro V hV
                     obtain ⟨q0, q1, q2, q3, q4, q5⟩ := Ob.six hV
                     go_wp2_with fail
                     refine ⟨rfl, ?_, rfl⟩
                     try simp only [Act.put, List.setIfInBounds_toArray, List.set_cons_succ, List.set_cons_zero]
                     rfl
                   simp only [Act.put, List.setIfInBounds_toArray, List.set_cons_succ, List.set_cons_zero]))
              generalize hWD : WA.drew = WD at *
              clear hWD hdr
              refine Pu.WalkM.make (by rfl) ?_
              intro V hV
              rw [hV]
              clear hV V
              go_wp2_with fail
              have hal3 := (Below.refl WD.heap.size WD).alloc (Nat.le_refl _) (.cells #[] 3)
              have hO3 := hO2.same hal3
              have hown3 := World.ownsRow_lit (e := 3) (size := 1) WD #[] 0 (Nat.le_refl _) (Nat.zero_le _) rfl
              have hsl3 := HIK.out.mono (HB2.out.same hal3).below (Nat.le_refl _)
              generalize hV3 : WD.alloc (.cells #[] 3) = V3 at *
              have hsz3 : V3.heap.size = WD.heap.size + 1 := by rw [← hV3]; simp
              clear hV3
              refine ⟨rfl, .slice (some ⟨WD.heap.size, 0, none⟩) 0 0, (fun V => Ob V z 67 #[.int .i64 3, .int .i64 oi, .int .i64 on, .int .u8 (ob.toNat : Int), .slice Ak keep.length ck, .slice Ab bytes.length cb]), (fun V => V = V3), ?_, rfl, (fun V h => by rw [h]; exact hO3), (.inr (fun _ h => h)), ?_⟩
              · try simp only [Act.put, List.setIfInBounds_toArray, List.set_cons_succ, List.set_cons_zero]
              try simp only [Act.put, List.setIfInBounds_toArray, List.set_cons_succ, List.set_cons_zero]
              refine Pu.WalkM.make (by rfl) ?_
              intro V hV
              rw [hV]
              clear hV V
              obtain ⟨i0, hi0, hz0⟩ := Option.map_eq_some_iff.1 intInfo
              simp only [Prod.mk.injEq] at hz0
              obtain ⟨hz0, hz1, hz2⟩ := hz0
              go_wp2_with (at_builtin; refine wpList_append_sl _ rfl (.tmp 109) (.tmp 111) _ rfl WD.heap.size 3 i0 _ 1 8 Try.underlying41 hi0 hz0 hz1 hz2 rfl (by omega) (.slice (some ⟨WD.heap.size, 0, none⟩) 0 0) 0 [] rfl hown3 0 w.heap.size _ keep.length (ints keep) rfl hsl3 (ints_one keep) (by unfold maxLen; omega) (by omega) (by omega) ?_; intro v4 W4 hown4 hg4 hat4)
              clear hz0 hz1 hz2 hi0
              simp only [Nat.zero_add, List.nil_append] at hown4
              have hb4 : Below WD.heap.size WD W4 := hal3.grown hg4 (by omega) (fun k e => by simp [Value.ownBlock] at e; omega)
              have HB4 := Lib.hid (HB2.out.same hb4)
              have hO4 := hO2.same hb4
              have hz4 : z < W4.heap.size := by have := hb4.size; omega
              have CC := Lib.hid (crash_calls HB4.out.dv keep v4 WD.heap.size W4.heap.size (IntsAt.of_own hown4) (fun i h1 h2 => by omega) oi on)
              clear hat4 hg4 hb4 hown4 hO3 hal3 hown3 hsl3 HB2 hO2
              refine ⟨rfl, v4, (fun V => Ob V z 67 #[.int .i64 3, .int .i64 oi, .int .i64 on, .int .u8 (ob.toNat : Int), .slice Ak keep.length ck, .slice Ab bytes.length cb]), (fun V => V = W4), ?_, rfl, (fun V h => by rw [h]; exact hO4), (.inr (fun _ h => h)), ?_⟩
              · try simp only [Act.put, List.setIfInBounds_toArray, List.set_cons_succ, List.set_cons_zero]
              try simp only [Act.put, List.setIfInBounds_toArray, List.set_cons_succ, List.set_cons_zero]
              refine Pu.WalkM.make (by rfl) ?_
              intro V hV
              rw [hV]
              clear hV V
              go_wp2_with (go_at_call 31; refine CC.out.mono ?_; rintro e W5 ⟨rfl, hD5, hdv⟩)
              have HH5 := Lib.hid (HB4.out.half hD5 hdv)
              have hO5 := Kept.ob hdv hO4 (by omega)
              have hz5 : z < W5.heap.size := by have := Kept.size hdv; omega
              have cR := rcrash_calls HH5.out.rv keep _ 0 w.heap.size (HIK.out.mono HH5.out.below (Nat.le_refl _)) (fun i h1 h2 => by have := HH5.out.below.size; have := HH5.out.lo; have := HH5.out.rv.lo; omega) oi on
              have hal5 := HH5.out.al.crash keep oi on
              rw [hal5.1] at cR
              have CR := Lib.hid cR
              have HAL2 := Lib.hid hal5.2
              clear cR hal5 hdv CC HB4 hD5 hO4 hz4
              refine ⟨rfl, .int .i64 (crashD D keep oi on).2, (fun V => Ob V z 67 #[.int .i64 3, .int .i64 oi, .int .i64 on, .int .u8 (ob.toNat : Int), .slice Ak keep.length ck, .slice Ab bytes.length cb]), (fun V => V = W5), ?_, rfl, (fun V h => by rw [h]; exact hO5), (.inr (fun _ h => h)), ?_⟩
              · try simp only [Act.put, List.setIfInBounds_toArray, List.set_cons_succ, List.set_cons_zero]
              try simp only [Act.put, List.setIfInBounds_toArray, List.set_cons_succ, List.set_cons_zero]
              refine Pu.WalkM.make (by rfl) ?_
              intro V hV
              rw [hV]
              clear hV V
              go_wp2_with (go_at_call 32; refine CR.out.mono ?_; rintro e W6 ⟨rfl, hR6, hrv⟩)
              have HB6 := Lib.hid (HH5.out.both hR6 hrv HAL2.out ((len_crash _ _ _ _).trans HH5.out.len))
              have hO6 := Kept.ob hrv hO5 (by omega)
              clear hrv CR hR6 HH5 HAL2 hO5 hz5
              refine ⟨rfl, .int .i64 (crashD D keep oi on).2, (fun V => Ob V z 67 #[.int .i64 3, .int .i64 oi, .int .i64 on, .int .u8 (ob.toNat : Int), .slice Ak keep.length ck, .slice Ab bytes.length cb]), (fun V => V = W6), ?_, rfl, (fun V h => by rw [h]; exact hO6), (.inr (fun _ h => h)), ?_⟩
              · try simp only [Act.put, List.setIfInBounds_toArray, List.set_cons_succ, List.set_cons_zero]
              try simp only [Act.put, List.setIfInBounds_toArray, List.set_cons_succ, List.set_cons_zero]
              generalize (crashD D keep oi on).2 = cd at *
              iterate 2 (first
                | (refine Pu.WalkM.off (by rfl) ?_; simp only [Act.put, List.setIfInBounds_toArray, List.set_cons_succ, List.set_cons_zero])
                | (apply Pu.WalkM.on (by rfl)
                   · intro V hV
                     go_wp2_with fail
                     refine ⟨rfl, ?_, rfl⟩
                     try simp only [Act.put, List.setIfInBounds_toArray, List.set_cons_succ, List.set_cons_zero]
                     rfl
                   simp only [Act.put, List.setIfInBounds_toArray, List.set_cons_succ, List.set_cons_zero]))
              refine Pu.WalkM.nil ?_
              intro V hV
              rw [hV]
              clear hV V
              clear hO6
              go_wp2_with fail
              refine (read_arg HB6.out.dv (-1) (.inl (by omega))).mono ?_
              rintro e W' ⟨rfl, rfl⟩
              go_wp2_with fail
              refine (read_arg HB6.out.dv n (.inr (by rw [HB6.out.len]; omega))).mono ?_
              rintro e W' ⟨rfl, rfl⟩
              go_wp2_with fail
              refine (looks_calls HB6.out.dv HB6.out.rv HB6.out.al).mono ?_
              rintro e WY ⟨rfl, hbY⟩
              have HBY := Lib.hid (HB6.out.same hbY)
              clear hbY
              go_wp2
              exact ⟨⟨k + 1, _, _, by omega, by go_num, HBY.out⟩, by simp [intOf]; omega⟩
            · have e3b : (kd == 3) = false := by simpa using e3
              clear e3
              by_cases e4 : kd = 4
              · subst e4
                go_wp2_with fail
                generalize hWq : wr.alloc (.cells #[.int .i64 4, .int .i64 oi, .int .i64 on, .int .u8 (ob.toNat : Int), .slice Ak keep.length ck, .slice Ab bytes.length cb] 67) = WA at *
                clear hWq
                refine (stop_calls HB1.out.dv on hoo.out.n.1 hoo.out.n.2).mono ?_
                rintro e W4 ⟨rfl, hD4, hg⟩
                have HH4 := Lib.hid (HB1.out.half hD4 (Dev.of_own hg))
                have hO4 := hO1.kept hg (fun e => by cases e; omega)
                clear hD4 hg q0 q1 q2 q3 q4 q5 HB1 HAL hO1
                obtain ⟨q0, q1, q2, q3, q4, q5⟩ := Ob.six hO4
                go_wp2_with fail
                refine (rstop_calls HH4.out.rv on hoo.out.n.1 hoo.out.n.2).mono ?_
                rintro e W6 ⟨rfl, hR6, hrv⟩
                have HB6 := Lib.hid (HH4.out.both hR6 hrv (HH4.out.al.stop on) HH4.out.len)
                clear hrv hR6 HH4 hO4 q0 q1 q2 q3 q4 q5
                go_wp2_with fail
                refine (read_arg HB6.out.dv (-1) (.inl (by omega))).mono ?_
                rintro e W' ⟨rfl, rfl⟩
                go_wp2_with fail
                refine (read_arg HB6.out.dv n (.inr (by rw [HB6.out.len]; omega))).mono ?_
                rintro e W' ⟨rfl, rfl⟩
                go_wp2_with fail
                refine (looks_calls HB6.out.dv HB6.out.rv HB6.out.al).mono ?_
                rintro e WY ⟨rfl, hbY⟩
                have HBY := Lib.hid (HB6.out.same hbY)
                clear hbY
                go_wp2
                exact ⟨⟨k + 1, _, _, by omega, by go_num, HBY.out⟩, by simp [intOf]; omega⟩
              · have e4b : (kd == 4) = false := by simpa using e4
                clear e4
                by_cases e5 : kd = 5
                · subst e5
                  obtain ⟨i0, hi0, hz0⟩ := Option.map_eq_some_iff.1 byte_info
                  simp only [Prod.mk.injEq] at hz0
                  obtain ⟨hz0, hz1, hz2⟩ := hz0
                  have hal3 := (Below.refl (wr.alloc (.cells #[.int .i64 5, .int .i64 oi, .int .i64 on, .int .u8 (ob.toNat : Int), .slice Ak keep.length ck, .slice Ab bytes.length cb] 67)).heap.size (wr.alloc (.cells #[.int .i64 5, .int .i64 oi, .int .i64 on, .int .u8 (ob.toNat : Int), .slice Ak keep.length ck, .slice Ab bytes.length cb] 67))).alloc (Nat.le_refl _) (.cells #[] 5)
                  have hsl3 := HIB.out.mono (HB1.out.same hal3).below (Nat.le_refl _)
                  have hszA : (wr.alloc (.cells #[.int .i64 5, .int .i64 oi, .int .i64 on, .int .u8 (ob.toNat : Int), .slice Ak keep.length ck, .slice Ab bytes.length cb] 67)).heap.size = z + 1 := by rw [World.size_alloc, hzz]
                  have hrow := World.ownsRow_lit (e := 5) (size := 1) (wr.alloc (.cells #[.int .i64 5, .int .i64 oi, .int .i64 on, .int .u8 (ob.toNat : Int), .slice Ak keep.length ck, .slice Ab bytes.length cb] 67)) #[] 0 (Nat.le_refl _) (Nat.zero_le _) rfl
                  rw [hszA] at hrow
                  have HA3 := Lib.hid hal3
                  have HSZ := Lib.hid hszA
                  clear hal3 hszA
                  go_wp2_with (at_builtin; refine wpList_append_sl _ rfl (.tmp 139) (.tmp 141) _ rfl (z + 1) 5 i0 _ 1 1 Try.underlying34 hi0 hz0 hz1 hz2 rfl (by omega) (.slice (some ⟨z + 1, 0, none⟩) 0 0) 0 [] rfl hrow 0 w.heap.size _ bytes.length (bytesV bytes) rfl hsl3 (bytesV_one bytes) (by unfold maxLen; omega) (by omega) (by rw [World.size_alloc, HSZ.out]; omega) ?_; intro v5 W5 hown5 hg5 hat5)
                  generalize hWq : wr.alloc (.cells #[.int .i64 5, .int .i64 oi, .int .i64 on, .int .u8 (ob.toNat : Int), .slice Ak keep.length ck, .slice Ab bytes.length cb] 67) = WA at *
                  clear hWq
                  simp only [Nat.zero_add, List.nil_append] at hown5
                  rw [← HSZ.out] at hown5
                  have hb5 : Below WA.heap.size WA W5 := HA3.out.grown hg5 (by simp) (fun k e => by simp [Value.ownBlock] at e; have := HSZ.out; omega)
                  clear hrow
                  have hOW := Lib.hid hown5
                  obtain ⟨A5, c5, rfl, hc51, hc52⟩ := (BytesAt.of_own hown5).form
                  have hdr := (Below.refl W5.heap.size W5).drew
                  have HB5 := Lib.hid ((HB1.out.same hb5).same hdr)
                  have hO5 : Ob W5.drew z 67 #[.int .i64 5, .int .i64 oi, .int .i64 on, .int .u8 (ob.toNat : Int), .slice Ak keep.length ck, .slice Ab bytes.length cb] := hO1.same hb5.drew
                  have hBY := (BytesAt.of_own hown5).mono hdr (Nat.le_refl _)
                  have hG : d < WA.heap.size ∧ sb < WA.heap.size ∧ mb < WA.heap.size ∧ x < WA.heap.size ∧ xs < WA.heap.size ∧ lb < WA.heap.size ∧ tb < WA.heap.size := ⟨HB1.out.dv.ob.lt, HB1.out.dv.sure.lt, HB1.out.dv.map.lt, HB1.out.rv.ob.lt, HB1.out.rv.sure.lt, HB1.out.rv.last.lt, HB1.out.rv.dirty.lt⟩
                  have hs5 : WA.heap.size ≤ W5.heap.size := hb5.size
                  have hzA : z < WA.heap.size := hz
                  have CW := Lib.hid (write_calls HB5.out.dv oi bytes (.slice A5 bytes.length c5) WA.heap.size W5.heap.size hBY (Nat.le_refl _) (by omega) (by omega))
                  have hwA := HB1.out.below.size
                  clear hz0 hz1 hz2 hi0 hsl3 HA3 hat5 hg5 hown5 hb5 hO1 q0 q1 q2 q3 q4 q5 HB1 HAL hBY
                  refine Pu.regionM [(0, false), (1, false), (2, false), (3, false), (5, false), (6, false), (7, false), (8, false), (9, false), (4, true), (10, true), (11, false), (12, false)] (fun V => Ob V z 67 #[.int .i64 5, .int .i64 oi, .int .i64 on, .int .u8 (ob.toNat : Int), .slice Ak keep.length ck, .slice Ab bytes.length cb]) hmx (by kernel_rfl) (by kernel_rfl) (by kernel_rfl) hO5 rfl ?_
                  simp only [Pu.named, List.filterMap_cons, List.filterMap_nil, List.getElem?_toArray, List.getElem?_cons_succ, List.getElem?_cons_zero, Option.map_some]
                  iterate 9 (first
                    | (refine Pu.WalkM.off (by rfl) ?_; simp only [Act.put, List.setIfInBounds_toArray, List.set_cons_succ, List.set_cons_zero])
                    | (apply Pu.WalkM.on (by rfl)
                       · intro V hV
                         obtain ⟨q0, q1, q2, q3, q4, q5⟩ := Ob.six hV
                         go_wp2_with fail
                         refine ⟨rfl, ?_, rfl⟩
                         try simp only [Act.put, List.setIfInBounds_toArray, List.set_cons_succ, List.set_cons_zero]
                         rfl
                       simp only [Act.put, List.setIfInBounds_toArray, List.set_cons_succ, List.set_cons_zero]))
                  generalize hWD : W5.drew = WD at *
                  have hOD : WD.ownsRow WA.heap.size 5 1 (.slice A5 bytes.length c5) bytes.length (bytesV bytes) := by rw [← hWD]; exact hOW.out
                  have hsD : W5.heap.size = WD.heap.size := by rw [← hWD]; rfl
                  have HOD := Lib.hid hOD
                  clear hWD hdr hOW hOD
                  refine Pu.WalkM.make (by rfl) ?_
                  intro V hV
                  rw [hV]
                  clear hV V
                  go_wp2_with (go_at_call 38; refine CW.out.mono ?_; rintro e W6 ⟨rfl, hD6, hdv⟩)
                  have HH6 := Lib.hid (HB5.out.half hD6 hdv)
                  have hO6 := Kept.ob hdv hO5 (by omega)
                  have hz6 : WD.heap.size ≤ W6.heap.size := Kept.size hdv
                  have hOR6 := own_kept HOD.out hdv (fun i h1 h2 => ⟨h2, by omega, by omega, by omega⟩)
                  have cR := rwrite_calls HH6.out.rv oi bytes _ 0 w.heap.size (HIB.out.mono HH6.out.below (Nat.le_refl _)) HH6.out.below.size (fun k h1 h2 => by have := HH6.out.lo; have := HH6.out.rv.lo; omega)
                  have hal6 := HH6.out.al.write HOK.out oi bytes
                  rw [hal6.1] at cR
                  have CR := Lib.hid cR
                  have HAL2 := Lib.hid hal6.2
                  have HOD6 := Lib.hid hOR6
                  clear cR hal6 hdv CW HB5 hD6 hO5 hOR6 HOD
                  refine ⟨rfl, .int .i64 (writeD D oi bytes).2, (fun V => Ob V z 67 #[.int .i64 5, .int .i64 oi, .int .i64 on, .int .u8 (ob.toNat : Int), .slice Ak keep.length ck, .slice Ab bytes.length cb]), (fun V => V = W6), ?_, rfl, (fun V h => by rw [h]; exact hO6), (.inr (fun _ h => h)), ?_⟩
                  · try simp only [Act.put, List.setIfInBounds_toArray, List.set_cons_succ, List.set_cons_zero]
                  try simp only [Act.put, List.setIfInBounds_toArray, List.set_cons_succ, List.set_cons_zero]
                  refine Pu.WalkM.make (by rfl) ?_
                  intro V hV
                  rw [hV]
                  clear hV V
                  go_wp2_with (go_at_call 44; refine CR.out.mono ?_; rintro e W7 ⟨rfl, hR7, hrv⟩)
                  have HB7 := Lib.hid (HH6.out.both hR7 hrv HAL2.out ((len_write _ _ _).trans HH6.out.len))
                  have hO7 := Kept.ob hrv hO6 (by omega)
                  have HOD7 := Lib.hid (own_kept HOD6.out hrv (fun i h1 h2 => ⟨h2, by omega, by omega, by omega, by omega⟩))
                  clear hrv CR hR7 HH6 HAL2 hO6 HOD6
                  refine ⟨rfl, .int .i64 (writeD D oi bytes).2, (fun V => Ob V z 67 #[.int .i64 5, .int .i64 oi, .int .i64 on, .int .u8 (ob.toNat : Int), .slice Ak keep.length ck, .slice Ab bytes.length cb]), (fun V => V = W7), ?_, rfl, (fun V h => by rw [h]; exact hO7), (.inr (fun _ h => h)), ?_⟩
                  · try simp only [Act.put, List.setIfInBounds_toArray, List.set_cons_succ, List.set_cons_zero]
                  try simp only [Act.put, List.setIfInBounds_toArray, List.set_cons_succ, List.set_cons_zero]
                  generalize (writeD D oi bytes).2 = cd at *
                  iterate 2 (first
                    | (refine Pu.WalkM.off (by rfl) ?_; simp only [Act.put, List.setIfInBounds_toArray, List.set_cons_succ, List.set_cons_zero])
                    | (apply Pu.WalkM.on (by rfl)
                       · intro V hV
                         go_wp2_with fail
                         refine ⟨rfl, ?_, rfl⟩
                         try simp only [Act.put, List.setIfInBounds_toArray, List.set_cons_succ, List.set_cons_zero]
                         rfl
                       simp only [Act.put, List.setIfInBounds_toArray, List.set_cons_succ, List.set_cons_zero]))
                  refine Pu.WalkM.nil ?_
                  intro V hV
                  rw [hV]
                  clear hV V
                  clear hO7 g0 g1 g2 g3 g4 g5 hz hzz hzb hz6 hsD
                  generalize (writeD D oi bytes).1 = D7 at *
                  generalize (writeR R oi bytes).1 = R7 at *
                  generalize WA.heap.size = G at *
                  clear WA
                  go_wp2_with fail
                  go_loopw [12] (fun v12 wr => ∃ (j : Nat) (ys : List Value), j ≤ bytes.length ∧ v12 = .int .i64 j ∧ (∀ y ∈ ys, ∃ m : Int, y = .int .u8 m) ∧ wr.ownsRow G 5 1 (.slice A5 bytes.length c5) bytes.length ys ∧ Both w wr d sb mb zb x xs lb tb n D7 R7) (fun v12 _ => bytes.length - (intOf v12).toNat)
                  case atStart => exact ⟨0, bytesV bytes, by omega, rfl, (fun y hy => by obtain ⟨c, -, rfl⟩ := List.mem_map.1 hy; exact ⟨_, rfl⟩), HOD7.out, HB7.out⟩
                  case round =>
                    obtain ⟨j, ys, hj, rfl, hys, hown, hBo⟩ := hrel
                    have HBo := Lib.hid hBo
                    have HYS := Lib.hid hys
                    have HOW := Lib.hid hown
                    clear hBo hys HB7 HOD7
                    by_cases hjl : j < bytes.length
                    · obtain ⟨g, cap, he, hg1, hg2⟩ := hown.form (by omega)
                      cases he
                      have hyl : ys.length = bytes.length := by have := hown.1; omega
                      obtain ⟨m, hm⟩ := HYS.out ys[j] (List.getElem_mem (by omega))
                      have hcell := hown.cellAt j (by omega)
                      rw [List.getElem?_eq_getElem (by omega), hm] at hcell
                      have hfr := hown.frozenAt j
                      have l1 : (0 : Int) ≤ (j : Int) := by omega
                      have l2 : (j : Int) < (bytes.length : Int) := by omega
                      have l3 : decide (j < bytes.length) = true := by simp; omega
                      have hGw : G ≤ wr.heap.size := by omega
                      clear hm hyl hown hg2
                      go_wp2
                      go_roundw
                      case rel =>
                        refine ⟨j + 1, _, by omega, by go_num, ?_, (HOW.out.stored j _).1, HBo.out.above ((Below.refl G _).grown (grownBy_set _ g j _) (by omega) (fun k e => by cases e; omega)) hG (by omega)⟩
                        intro y hy
                        rcases List.mem_or_eq_of_mem_set hy with h1 | h1
                        · exact HYS.out y h1
                        · exact ⟨_, h1⟩
                      case measure => simp [intOf]; omega
                    · have l3 : decide (j < bytes.length) = false := by simp; omega
                      clear hown
                      go_wp2_with fail
                      refine (read_arg HBo.out.dv (-1) (.inl (by omega))).mono ?_
                      rintro e W' ⟨rfl, rfl⟩
                      go_wp2_with fail
                      refine (read_arg HBo.out.dv n (.inr (by rw [HBo.out.len]; omega))).mono ?_
                      rintro e W' ⟨rfl, rfl⟩
                      go_wp2_with fail
                      refine (looks_calls HBo.out.dv HBo.out.rv HBo.out.al).mono ?_
                      rintro e WY ⟨rfl, hbY⟩
                      have HBY := Lib.hid (HBo.out.same hbY)
                      clear hbY
                      go_wp2
                      exact ⟨⟨k + 1, _, _, by omega, by go_num, HBY.out⟩, by simp [intOf]; omega⟩
                · have e5b : (kd == 5) = false := by simpa using e5
                  clear e5
                  clear HAL
                  go_wp2_with fail
                  refine (read_arg HB1.out.dv (-1) (.inl (by omega))).mono ?_
                  rintro e W' ⟨rfl, rfl⟩
                  go_wp2_with fail
                  refine (read_arg HB1.out.dv n (.inr (by rw [HB1.out.len]; omega))).mono ?_
                  rintro e W' ⟨rfl, rfl⟩
                  go_wp2_with fail
                  refine (looks_calls HB1.out.dv HB1.out.rv HB1.out.al).mono ?_
                  rintro e WY ⟨rfl, hbY⟩
                  have HBY := Lib.hid (HB1.out.same hbY)
                  clear hbY
                  go_wp2
                  exact ⟨⟨k + 1, _, _, by omega, by go_num, HBY.out⟩, by simp [intOf]; omega⟩
      · rcases (show (1000 < bytes.length) ∨ (¬ 1000 < bytes.length ∧ 1000 < keep.length) by omega) with h1 | ⟨h1, h2⟩
        · have u1 : decide ((bytes.length : Int) > 1000) = true := by simp; omega
          go_wp2
          exact ⟨⟨k + 1, _, _, by omega, by go_num, HB1.out⟩, by simp [intOf]; omega⟩
        · have u1 : decide ((bytes.length : Int) > 1000) = false := by simp; omega
          have u2 : decide ((keep.length : Int) > 1000) = true := by simp; omega
          go_wp2
          exact ⟨⟨k + 1, _, _, by omega, by go_num, HB1.out⟩, by simp [intOf]; omega⟩
    · have h1 : decide ((k : Int) < (os.length : Int)) = false := by simp; omega
      go_wp2
      go_ret
      exact ⟨rfl, HB.out.below⟩
set_option maxRecDepth 100000 in
set_option maxHeartbeats 4000000 in
theorem does_bad (n : Int) (v : Value) (w : World) (hn : n < 1 ∨ 16384 < n) :
    Calls Try.prog 10 #[.int .i64 n, v] w fun e w' => e = .returned (.bool true) ∧ Below w.heap.size w w' := by
  have hcs : decide (n < 1) = true ∨ (decide (n < 1) = false ∧ decide (n > 16384) = true) := by
    by_cases h : n < 1
    · exact .inl (by simpa using h)
    · exact .inr ⟨by simpa using h, by simp; omega⟩
  go_enter Try.func10, Try.ntmps10
  go_wp2_with fail
  refine (new_bad n w hn).mono ?_
  rintro e W ⟨rfl, rfl⟩
  go_wp2_with fail
  refine (lives_calls w).mono ?_
  rintro e W2 ⟨rfl, hb2⟩
  clear hn
  rcases hcs with h | ⟨h, h2⟩
  · go_wp2
    go_ret
    exact ⟨rfl, hb2⟩
  · go_wp2
    go_ret
    exact ⟨rfl, hb2⟩
set_option maxRecDepth 100000 in
set_option maxHeartbeats 4000000 in
theorem does_great (n : Nat) (v : Value) (w : World) (h1 : 100 < n) (h2 : n ≤ 16384) :
    Calls Try.prog 10 #[.int .i64 (n : Int), v] w fun e w' => e = .returned (.bool true) ∧ Below w.heap.size w w' := by
  have t1 : decide ((n : Int) < 1) = false := by simp; omega
  have t2 : decide ((n : Int) > 16384) = false := by simp; omega
  have t3 : decide ((n : Int) > 100) = true := by simp; omega
  go_enter Try.func10, Try.ntmps10
  go_wp2_with fail
  refine (new_calls n w (by omega) (by omega)).mono ?_
  rintro e W1 ⟨⟨d, sb, mb, rfl, hD1⟩, hB1⟩
  go_wp2_with fail
  refine (lives_calls W1).mono ?_
  rintro e W2 ⟨rfl, hb2⟩
  have cL := len_calls (hD1.same hb2)
  have hln : (newD n).sure.length = n := by simp [newD]
  rw [hln] at cL
  have CL := Lib.hid cL
  have HB2 := Lib.hid (hB1.trans (hb2.mono hB1.size))
  clear hb2 hD1 hB1 cL hln
  go_wp2_with fail
  refine CL.out.mono ?_
  rintro e W ⟨rfl, rfl⟩
  go_wp2
  go_ret
  exact ⟨rfl, HB2.out⟩
theorem does_law (n : Int) (os : List OpV) (v : Value) (w : World) (hO : OpsAt w w.heap.size v os) (hok : ∀ o ∈ os, OkOp o) :
    Calls Try.prog 10 #[.int .i64 n, v] w fun e w' => e = .returned (.bool true) ∧ Below w.heap.size w w' := by
  by_cases h : n < 1 ∨ 16384 < n
  · exact does_bad n v w h
  · obtain ⟨k, rfl⟩ := Int.eq_ofNat_of_zero_le (show 0 ≤ n by omega)
    by_cases h2 : 100 < k
    · exact does_great k v w h2 (by omega)
    · exact does_mid k os v w (by omega) (by omega) hO hok
end Se
end Go.Proofs.Yteiniahikhiadaa
