/-
  sector: lives.
-/
import Derived.Test.YteiniahikhiadaaSeS
import Derived.Test.YteiniahikhiadaaStr
import Derived.Outline
namespace Go.Proofs.Yteiniahikhiadaa
open Go.RowKit Go.Maps
namespace Se
open Ce
theorem BlkAt.bytes {w w' : World} {v : Value} {b : Blk} (h : BlkAt w w' v b) (hb : b.length = 64) : BytesAt w' w.heap.size w'.heap.size v b := by
  obtain ⟨g, rfl, h1, h2, h3, -⟩ := h
  refine ⟨by rw [bytesV_length, hb], _, _, by rw [hb], by rw [hb]; exact Nat.le_refl _, by unfold maxLen; omega, fun _ => ⟨g, 0, rfl, h1, h2, fun j hj => ?_⟩⟩
  have hjl : j < (bytesV b).length := by rw [bytesV_length]; omega
  rw [List.getElem?_eq_getElem hjl]
  exact h3 j _ (List.getElem?_eq_getElem hjl)
theorem DvAt.dev_same {w w' : World} {base d sb mb : Nat} {D : Dv} (h : DvAt w base d sb mb D) (hb : Below w.heap.size w w') : DvAt w' base d sb mb D := h.same hb
theorem eql_nil (b : Nat) (w : World) : (binOp .eql 72 (.func (.func 72) #[] #[.pointer (some ⟨b, 0, none⟩)]) .nilFunc).run Try.prog w = .ok (.bool false) w := by kernel_rfl
def lv2 : Dv := (writeD (newD 2) 0 (blockL 1)).1
def lv3 : Dv := (writeD lv2 1 (blockL 2)).1
def lv4 : Dv := (crashD lv3 [1] (-1) 0).1
theorem lv_w1 : (writeD (newD 2) 0 (blockL 1)).2 = 0 := by decide +kernel
theorem lv_w2 : (writeD lv2 1 (blockL 2)).2 = 0 := by decide +kernel
theorem lv_c : (crashD lv3 [1] (-1) 0).2 = 0 := by decide +kernel
theorem lv_off : offD lv4 = false := by decide +kernel
theorem lv_len : lv4.sure.length = 2 := by decide +kernel
theorem lv_r0 : lastD lv4 0 = List.replicate 64 0 := by decide +kernel
theorem lv_r1 : lastD lv4 1 = blockL 2 := by decide +kernel
theorem blockL_len (b : UInt8) : (blockL b).length = 64 := by unfold blockL; simp
set_option maxRecDepth 100000 in
set_option maxHeartbeats 4000000 in
theorem lives_calls (w : World) : Calls Try.prog 37 #[] w fun e w' => e = .returned (.bool true) ∧ Below w.heap.size w w' := by
  have hef := eql_nil
  go_enter Try.func37, Try.ntmps37
  go_wp2_with fail
  refine (new_calls 2 w (by omega) (by omega)).mono ?_
  rintro e W1 ⟨⟨d, sb, mb, rfl, hD1⟩, hB1⟩
  go_wp2_with fail
  refine (new_bad 0 W1 (by omega)).mono ?_
  rintro e W ⟨rfl, rfl⟩
  go_wp2_with fail
  refine (dirty_calls _ rfl W1).mono ?_
  rintro e W2 ⟨rfl, hW2⟩
  have hb2 : Below W1.heap.size W1 W2 := by rw [hW2]; exact (Below.refl _ _).alloc (Nat.le_refl _) _
  have HD2 := Lib.hid (hD1.same hb2)
  have HB2 := Lib.hid (hB1.trans (hb2.mono hB1.size))
  clear hW2 hb2 hD1 hB1
  go_wp2_with fail
  refine (show Calls Try.prog 39 #[.int .u8 1] W2 _ from block_calls 1 W2).mono ?_
  rintro e W3 ⟨⟨v1, rfl, hv1⟩, hb3⟩
  have hD3 := HD2.out.same hb3
  have hd2 := HD2.out.ob.lt
  have hm2 := HD2.out.map.lt
  have CW1 := Lib.hid (write_calls hD3 0 (blockL 1) v1 W2.heap.size W3.heap.size (BytesAt.of_own hv1) (Nat.le_refl _) hd2 hm2)
  rw [lv_w1] at CW1
  have HB3 := Lib.hid (HB2.out.trans (hb3.mono HB2.out.size))
  have hlo := HD2.out.lo
  clear hD3 hb3 hv1 HD2 HB2 hd2 hm2
  go_wp2_with fail
  refine CW1.out.mono ?_
  rintro e W4 ⟨rfl, hD4, hdv⟩
  have HB4 := Lib.hid (HB3.out.trans (Dev.below hdv HB3.out.size hlo))
  have HD4 := Lib.hid (show DvAt W4 w.heap.size d sb mb lv2 from hD4)
  clear hD4 hdv CW1 HB3
  go_wp2_with fail
  refine (show Calls Try.prog 39 #[.int .u8 2] W4 _ from block_calls 2 W4).mono ?_
  rintro e W5 ⟨⟨v2, rfl, hv2⟩, hb5⟩
  have hD5 := HD4.out.same hb5
  have hd4 := HD4.out.ob.lt
  have hm4 := HD4.out.map.lt
  have CW2 := Lib.hid (write_calls hD5 1 (blockL 2) v2 W4.heap.size W5.heap.size (BytesAt.of_own hv2) (Nat.le_refl _) hd4 hm4)
  rw [lv_w2] at CW2
  have HB5 := Lib.hid (HB4.out.trans (hb5.mono HB4.out.size))
  clear hD5 hb5 hv2 HD4 HB4 hd4 hm4
  go_wp2_with fail
  refine CW2.out.mono ?_
  rintro e W6 ⟨rfl, hD6, hdv⟩
  have HB6 := Lib.hid (HB5.out.trans (Dev.below hdv HB5.out.size hlo))
  have HD6 := Lib.hid (show DvAt W6 w.heap.size d sb mb lv3 from hD6)
  clear hD6 hdv CW2 HB5
  have hal : Below W6.heap.size W6 (W6.alloc (.cells #[.int .i64 1] 3)) := (Below.refl _ _).alloc (Nat.le_refl _) _
  have hK : IntsAt (W6.alloc (.cells #[.int .i64 1] 3)) W6.heap.size (W6.heap.size + 1) (.slice (some ⟨W6.heap.size, 0, none⟩) 1 1) [1] := by
    have := Sl.new W6 #[.int .i64 1] 3 (n := 1) (size := 1) rfl (by unfold maxLen; omega)
    exact this
  have hD7 := HD6.out.same hal
  have CC := Lib.hid (crash_calls hD7 [1] _ _ _ hK (by
    intro i h1 h2
    have := HD6.out.ob.lt
    have := HD6.out.sure.lt
    have := HD6.out.map.lt
    simp only [World.size_alloc]
    omega) (-1) 0)
  rw [lv_c] at CC
  have HB7 := Lib.hid (HB6.out.trans (hal.mono HB6.out.size))
  clear hal hK hD7 HD6 HB6
  go_wp2_with fail
  refine CC.out.mono ?_
  rintro e W8 ⟨rfl, hD8, hdv⟩
  have HB8 := Lib.hid (HB7.out.trans (Dev.below hdv HB7.out.size hlo))
  have HD8 := Lib.hid (show DvAt W8 w.heap.size d sb mb lv4 from hD8)
  clear hD8 hdv CC HB7
  have CR0 := Lib.hid (read_good HD8.out lv_off 0 (by rw [lv_len]; omega))
  rw [lv_r0] at CR0
  go_wp2_with fail
  refine CR0.out.mono ?_
  rintro e W9 ⟨⟨x, rfl, hx⟩, hb9⟩
  have HD9 := Lib.hid (HD8.out.same hb9)
  have HB9 := Lib.hid (HB8.out.trans (hb9.mono HB8.out.size))
  have HX := Lib.hid ((hx.bytes (by simp)).wide (Nat.zero_le _) (Nat.le_refl _))
  obtain ⟨gx, rfl, -⟩ := hx
  have CR1 := Lib.hid (read_good HD9.out lv_off 1 (by rw [lv_len]; omega))
  rw [lv_r1] at CR1
  clear hb9 CR0 HD8 HB8
  go_wp2_with fail
  refine CR1.out.mono ?_
  rintro e WA ⟨⟨y, rfl, hy⟩, hbA⟩
  have HDA := Lib.hid (HD9.out.same hbA)
  have HBA := Lib.hid (HB9.out.trans (hbA.mono HB9.out.size))
  have HY := Lib.hid ((hy.bytes (blockL_len 2)).wide (Nat.zero_le _) (Nat.le_refl _))
  have HXA := Lib.hid (HX.out.mono hbA hbA.size)
  obtain ⟨gy, rfl, -⟩ := hy
  clear hbA CR1 HD9 HB9 HX
  go_wp2_with fail
  --REGION
  have hdr := (Below.refl WA.heap.size WA).drew
  have HBX := Lib.hid (fun V (hb : Below WA.heap.size WA V) => string_of V (HXA.out.below hb))
  have HBY := Lib.hid (fun V (hb : Below WA.heap.size WA V) => string_of V (HY.out.below hb))
  have cL := Lib.hid (fun V (hb : Below WA.heap.size WA V) => len_calls (HDA.out.same hb))
  have cO := Lib.hid (fun V (hb : Below WA.heap.size WA V) => off_calls (HDA.out.same hb))
  rw [lv_len] at cL
  rw [lv_off] at cO
  have cB := Lib.hid (fun V => show Calls Try.prog 39 #[.int .u8 2] V _ from block_calls 2 V)
  have HBA2 := Lib.hid (fun V (hb : Below WA.heap.size WA V) => HBA.out.trans (hb.mono HBA.out.size))
  have hbl2 := blockL_len 2
  generalize blockL 2 = bl at *
  have HBL := Lib.hid hbl2
  clear hbl2
  obtain ⟨z, hz⟩ : ∃ z : List UInt8, z = List.replicate 64 0 := ⟨_, rfl⟩
  rw [← hz] at HBX
  have HZ := Lib.hid hz
  clear hz
  refine Pu.regionM [(0, false), (1, false), (2, false), (3, false), (4, false), (5, false), (6, false), (7, false), (8, false), (9, false), (10, false), (11, false), (12, false), (13, false), (14, false), (15, false), (16, false), (17, false), (18, false), (19, false), (20, false), (21, true), (22, false), (23, false), (24, false), (25, false), (26, false), (27, false), (28, true), (29, false), (30, false), (31, false), (32, false), (33, false), (34, false), (35, false), (36, false), (37, false), (38, false), (39, false), (40, false), (41, false), (42, false)] (fun V => Below WA.heap.size WA V) hmx (by kernel_rfl) (by kernel_rfl) (by kernel_rfl) hdr rfl ?_
  simp only [Pu.named, List.filterMap_cons, List.filterMap_nil, List.getElem?_toArray, List.getElem?_cons_succ, List.getElem?_cons_zero, Option.map_some]
  iterate 21 (first
    | (refine Pu.WalkM.off (by rfl) ?_; simp only [Act.put, List.setIfInBounds_toArray, List.set_cons_succ, List.set_cons_zero])
    | (apply Pu.WalkM.on (by rfl)
       · intro V hV
         have hcx := HBX.out V hV
         go_wp2_with fail
         refine ⟨rfl, ?_, rfl⟩
         try simp only [Act.put, List.setIfInBounds_toArray, List.set_cons_succ, List.set_cons_zero]
         rfl
       simp only [Act.put, List.setIfInBounds_toArray, List.set_cons_succ, List.set_cons_zero]))
  refine Pu.WalkM.make (by rfl) ?_
  intro V hV
  rw [hV]
  clear hV V
  obtain ⟨WB, hmk0, hz1, hzg⟩ := make_bytes 64 WA.drew (by omega)
  have hmk : (Instr.makeSlice 34 (.int .i64 64) (.int .i64 64)).run Try.prog WA.drew = .ok (.slice (some ⟨WA.heap.size, 0, none⟩) 64 64) WB := hmk0
  clear hmk0
  have hbm : Below WA.heap.size WA WB := hdr.grown hzg hdr.size (by simp)
  have hzb := BytesAt.of_own hz1
  rw [← HZ.out] at hzb
  have HBZ := Lib.hid (fun V (hb : Below WB.heap.size WB V) => show (convert 34 9 (.slice (some ⟨WA.heap.size, 0, none⟩) 64 64)).run Try.prog V = _ from string_of V (hzb.below hb))
  have HBM := Lib.hid hbm
  clear hz1 hzg hzb
  go_wp2_with fail
  refine ⟨rfl, .slice (some ⟨WA.heap.size, 0, none⟩) 64 64, (fun V => Below WB.heap.size WB V), (fun V => V = WB), ?_, rfl, (fun V h => by rw [h]; exact Below.refl _ _), (.inr (fun V h => HBM.out.trans (h.mono HBM.out.size))), ?_⟩
  · try simp only [Act.put, List.setIfInBounds_toArray, List.set_cons_succ, List.set_cons_zero]
  try simp only [Act.put, List.setIfInBounds_toArray, List.set_cons_succ, List.set_cons_zero]
  iterate 6 (first
    | (refine Pu.WalkM.off (by rfl) ?_; simp only [Act.put, List.setIfInBounds_toArray, List.set_cons_succ, List.set_cons_zero])
    | (apply Pu.WalkM.on (by rfl)
       · intro V hV
         have hcz := HBZ.out V hV
         have hcy := HBY.out V (HBM.out.trans (hV.mono HBM.out.size))
         go_wp2_with fail
         refine ⟨rfl, ?_, rfl⟩
         try simp only [Act.put, List.setIfInBounds_toArray, List.set_cons_succ, List.set_cons_zero]
         rfl
       simp only [Act.put, List.setIfInBounds_toArray, List.set_cons_succ, List.set_cons_zero]))
  refine Pu.WalkM.make (by rfl) ?_
  intro V hV
  rw [hV]
  clear hV V
  go_wp2_with (go_at_call 39; refine (cB.out WB).mono ?_; rintro e WC ⟨⟨v3, rfl, hv3⟩, hbC⟩)
  have hBC := Lib.hid (HBM.out.trans (hbC.mono HBM.out.size))
  have hbl3 := BytesAt.of_own hv3
  obtain ⟨A3, c3, rfl, -⟩ := hbl3.form
  have HB3 := Lib.hid (fun V (hb : Below WC.heap.size WC V) => string_of V (hbl3.below hb))
  have HBC2 := Lib.hid hbC
  clear hv3 hbC hbl3
  refine ⟨rfl, .slice A3 bl.length c3, (fun V => Below WC.heap.size WC V), (fun V => V = WC), ?_, rfl, (fun V h => by rw [h]; exact Below.refl _ _), (.inr (fun V h => HBC2.out.trans (h.mono HBC2.out.size))), ?_⟩
  · try simp only [Act.put, List.setIfInBounds_toArray, List.set_cons_succ, List.set_cons_zero]
  try simp only [Act.put, List.setIfInBounds_toArray, List.set_cons_succ, List.set_cons_zero]
  iterate 14 (first
    | (refine Pu.WalkM.off (by rfl) ?_; simp only [Act.put, List.setIfInBounds_toArray, List.set_cons_succ, List.set_cons_zero])
    | (apply Pu.WalkM.on (by rfl)
       · intro V hV
         have hb5 := hBC.out.trans (hV.mono hBC.out.size)
         have hcz := HB3.out V hV
         have cL1 := Lib.hid (cL.out V hb5)
         have cO1 := Lib.hid (cO.out V hb5)
         go_wp2_with (first | (go_at_call 43; refine cL1.out.mono ?_; rintro e V2 ⟨rfl, rfl⟩) | (go_at_call 42; refine cO1.out.mono ?_; rintro e V2 ⟨rfl, rfl⟩))
         refine ⟨rfl, ?_, rfl⟩
         try simp only [Act.put, List.setIfInBounds_toArray, List.set_cons_succ, List.set_cons_zero]
         rfl
       simp only [Act.put, List.setIfInBounds_toArray, List.set_cons_succ, List.set_cons_zero]))
  refine Pu.WalkM.nil ?_
  intro V hV
  rw [hV]
  clear hV V
  go_wp2
  go_ret
  exact ⟨rfl, HBA2.out _ hBC.out⟩
end Se
end Go.Proofs.Yteiniahikhiadaa
