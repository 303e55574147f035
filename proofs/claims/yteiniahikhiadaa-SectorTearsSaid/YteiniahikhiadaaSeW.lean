/-
  sector: the law Tears.
-/
import Derived.Test.YteiniahikhiadaaSeT
import Derived.Test.YteiniahikhiadaaPt
import Derived.Test.YteiniahikhiadaaGd
import Derived.Test.YteiniahikhiadaaWords
namespace Go.Proofs.Yteiniahikhiadaa
open Go.RowKit Go.Maps
namespace Se
open Ce
def tv1 (a : UInt8) : Dv := (writeD (newD 1) 0 (blockL a)).1
def tv2 (a : UInt8) : Dv := (flushD (tv1 a)).1
def tv3 (a b : UInt8) : Dv := (writeD (tv2 a) 0 (blockL b)).1
def tv4 (a b : UInt8) (n : Int) : Dv := (crashD (tv3 a b) [] 0 n).1
def tl (a b : UInt8) (n : Int) : Blk := lastD (tv4 a b n) 0
theorem tv1_eq (a : UInt8) : tv1 a = ⟨[List.replicate 64 0], [(0, blockL a)], false, 0, 1, 0⟩ := by
  unfold tv1 writeD
  rw [if_neg (by rw [blockL_len]; simp [newD])]
  simp [offD, newD, spendD, bPut, bDel, bIns, wrap64]
theorem tv2_eq (a : UInt8) : tv2 a = ⟨[blockL a], [], false, 0, 1, 1⟩ := by
  unfold tv2
  rw [tv1_eq]
  simp [flushD, offD, spendD, lastD, bGet, wrap64, List.range_succ]
theorem tv3_eq (a b : UInt8) : tv3 a b = ⟨[blockL a], [(0, blockL b)], false, 0, 2, 1⟩ := by
  unfold tv3 writeD
  rw [tv2_eq, if_neg (by rw [blockL_len]; simp)]
  simp [offD, spendD, bPut, bDel, bIns, wrap64]
theorem tears_plain (a b : UInt8) (n : Int) : ∃ cd : Int, (n < 0 ∨ 64 < n → cd = 1) ∧ (¬ (n < 0 ∨ 64 < n) → cd = 0) ∧ (crashD (tv3 a b) [] 0 n).2 = cd ∧ offD (tv4 a b n) = false ∧ (tv4 a b n).sure.length = 1 ∧ lastD (tv4 a b n) 0 = tl a b n ∧ (tl a b n).length = 64 ∧
    (n < 0 ∨ 64 < n → tl a b n = blockL b) ∧ (¬ (n < 0 ∨ 64 < n) → tl a b n = (blockL b).take n.toNat ++ (blockL a).drop n.toNat) := by
  unfold tl tv4 crashD
  rw [tv3_eq]
  by_cases h : n < 0 ∨ 64 < n
  · rw [if_pos h]
    exact ⟨1, fun _ => rfl, fun h2 => (h2 h).elim, rfl, rfl, rfl, rfl, blockL_len b, fun _ => rfl, fun h2 => (h2 h).elim⟩
  · rw [if_neg h]
    have e : ∀ D : Dv, D = { sure := (List.range 1).map (crashB ⟨[blockL a], [(0, blockL b)], false, 0, 2, 1⟩ [] 0 n.toNat), dm := [], stops := false, left := 0, wr := 2, fl := 1 } → lastD D 0 = (blockL b).take n.toNat ++ (blockL a).drop n.toNat := fun D h => by
      subst h
      simp [lastD, bGet, crashB, List.range_succ]
    refine ⟨0, fun h2 => (h h2).elim, fun _ => rfl, rfl, rfl, rfl, rfl, ?_, fun h2 => (h h2).elim, fun _ => e _ rfl⟩
    have := e _ rfl
    have h3 := blockL_len a
    have h4 := blockL_len b
    refine (congrArg List.length this).trans ?_
    rw [List.length_append, List.length_take, List.length_drop]
    omega
theorem addr_add (b o j : Nat) : (⟨b, o, none⟩ : Addr).add j = ⟨b, o + j, none⟩ := by unfold Addr.add; split <;> simp_all
theorem slice_from (V : World) (b o n c m : Nat) (h1 : m ≤ n) :
    (Instr.slice 34 (.slice (some ⟨b, o, none⟩) n c) (some (.int .i64 (m : Int))) none none).run Try.prog V = .ok (.slice (if c = m then some ⟨b, o, none⟩ else some ⟨b, o + m, none⟩) (n - m) (c - m)) V := by
  have hu : Try.prog.underlying 34 = some (.slice (Try.prog.elem 34)) := by kernel_rfl
  have hz : ∀ W, (sizeOf (Try.prog.elem 34)).run Try.prog W = .ok 1 W := fun W => by kernel_rfl
  rw [run_slice_l (P := Try.prog) (w := V) 34 _ _ _ hu .i64 (m : Int) (by omega) (by omega), hz]
  have e : sliced (some ⟨b, o, none⟩) (m : Int).toNat n c 1 = .slice (if c = m then some ⟨b, o, none⟩ else some ⟨b, o + m, none⟩) (n - m) (c - m) := by
    unfold sliced
    rw [Int.toNat_natCast, Nat.mul_one, Option.map_some, addr_add]
  exact congrArg (fun v => Result.ok v V) e
set_option maxRecDepth 100000 in
set_option maxHeartbeats 8000000 in
theorem tears_law (a b : UInt8) (n : Int) (w : World) (b0 : -9223372036854775808 ≤ n) (b1 : n ≤ 9223372036854775807) : Calls Try.prog 7 #[.int .u8 (a.toNat : Int), .int .u8 (b.toNat : Int), .int .i64 n] w fun e w' => e = .returned (.bool true) ∧ Below w.heap.size w w' := by
  obtain ⟨cd, c1, c0, t1, t2, t3, t4, t5, t6, t7⟩ := tears_plain a b n
  have HC1 := Lib.hid c1
  have HC0 := Lib.hid c0
  clear c1 c0
  have HT1 := Lib.hid t1
  have HT2 := Lib.hid t2
  have HT3 := Lib.hid t3
  have HT4 := Lib.hid t4
  have HT5 := Lib.hid t5
  have HT6 := Lib.hid t6
  have HT7 := Lib.hid t7
  clear t1 t2 t3 t4 t5 t6 t7
  go_enter Try.func7, Try.ntmps7
  go_wp2_with fail
  refine (new_calls 1 w (by omega) (by omega)).mono ?_
  rintro e W1 ⟨⟨d, sb, mb, rfl, hD1⟩, hB1⟩
  go_wp2_with fail
  refine (lives_calls W1).mono ?_
  rintro e W2 ⟨rfl, hb2⟩
  have HD2 := Lib.hid (hD1.same hb2)
  have HB2 := Lib.hid (hB1.trans (hb2.mono hB1.size))
  have hlo := Lib.hid HD2.out.lo
  clear hb2 hD1 hB1
  go_wp2_with fail
  refine (block_calls a W2).mono ?_
  rintro e W3 ⟨⟨v3, rfl, hv3⟩, hb3⟩
  have CW3 := Lib.hid (write_calls (HD2.out.same hb3) 0 (blockL a) v3 W2.heap.size W3.heap.size (BytesAt.of_own hv3) (Nat.le_refl _) HD2.out.ob.lt HD2.out.map.lt)
  have HB3 := Lib.hid (HB2.out.trans (hb3.mono HB2.out.size))
  clear hb3 hv3
  go_wp2_with fail
  refine CW3.out.mono ?_
  rintro e W4 ⟨rfl, hD4, hdv⟩
  have HB4 := Lib.hid (HB3.out.trans (Dev.below hdv HB3.out.size hlo.out))
  have HD4 := Lib.hid (show DvAt W4 w.heap.size d sb mb (tv1 a) from hD4)
  clear hD4 hdv CW3 HB3 HD2 HB2
  have CQ5 := Lib.hid (flush_calls HD4.out)
  go_wp2_with fail
  refine CQ5.out.mono ?_
  rintro e W5 ⟨rfl, hD5, hdv⟩
  have HB5 := Lib.hid (HB4.out.trans (Dev.below hdv HB4.out.size hlo.out))
  have HD5 := Lib.hid (show DvAt W5 w.heap.size d sb mb (tv2 a) from hD5)
  clear hD5 hdv CQ5 HD4 HB4
  go_wp2_with fail
  refine (block_calls b W5).mono ?_
  rintro e W6 ⟨⟨v6, rfl, hv6⟩, hb6⟩
  have CW6 := Lib.hid (write_calls (HD5.out.same hb6) 0 (blockL b) v6 W5.heap.size W6.heap.size (BytesAt.of_own hv6) (Nat.le_refl _) HD5.out.ob.lt HD5.out.map.lt)
  have HB6 := Lib.hid (HB5.out.trans (hb6.mono HB5.out.size))
  clear hb6 hv6
  go_wp2_with fail
  refine CW6.out.mono ?_
  rintro e W7 ⟨rfl, hD7, hdv⟩
  have HB7 := Lib.hid (HB6.out.trans (Dev.below hdv HB6.out.size hlo.out))
  have HD7 := Lib.hid (show DvAt W7 w.heap.size d sb mb (tv3 a b) from hD7)
  clear hD7 hdv CW6 HB6 HD5 HB5
  have CQ8 := Lib.hid (crash_calls HD7.out [] (.slice none 0 0) 0 0 (IntsAt.nil _ _ _) (fun i h1 h2 => by omega) 0 n)
  have hcode := HT1.out
  change (crashD (tv3 a b) [] 0 n).2 = _ at hcode
  rw [hcode] at CQ8
  clear hcode
  go_wp2_with fail
  refine CQ8.out.mono ?_
  rintro e W8 ⟨rfl, hD8, hdv⟩
  have HB8 := Lib.hid (HB7.out.trans (Dev.below hdv HB7.out.size hlo.out))
  have HD8 := Lib.hid (show DvAt W8 w.heap.size d sb mb (tv4 a b n) from hD8)
  clear hD8 hdv CQ8 HD7 HB7
  have CR := Lib.hid (read_good HD8.out HT2.out 0 (by rw [HT3.out]; omega))
  rw [HT4.out] at CR
  go_wp2_with fail
  refine CR.out.mono ?_
  rintro e W9 ⟨⟨x, rfl, hx⟩, hb9⟩
  have HB9 := Lib.hid (HB8.out.trans (hb9.mono HB8.out.size))
  have HX := Lib.hid ((hx.bytes (HT5.out)).wide (Nat.zero_le _) (Nat.le_refl _))
  obtain ⟨gx, rfl, -⟩ := hx
  clear hb9 CR HD8 HB8
  by_cases hn : n < 0 ∨ 64 < n
  · have HL := Lib.hid (show tl a b n = blockL b from HT6.out hn)
    rw [HL.out] at HX
    have HCB := Lib.hid (fun V => block_calls b V)
    have hbl := blockL_len b
    obtain rfl := HC1.out hn
    have hdr := (Below.refl W9.heap.size W9).drew
    have HBX := Lib.hid (fun V (hb : Below W9.heap.size W9 V) => string_of V (HX.out.below hb))
    clear HX HL HT1 HT2 HT3 HT4 HT5 HT6 HT7
    generalize blockL b = bl at *
    have HBL := Lib.hid hbl
    clear hbl
    rcases Int.lt_or_le n 0 with h0 | h0
    · have hd : decide (n < 0) = true := by simpa using h0
      clear h0 hn
      go_wp2_with fail
      refine Pu.regionM [(0, false), (1, false), (2, false), (3, false), (4, false), (5, false), (6, false), (7, false), (8, false), (9, false), (10, true), (11, false), (12, false), (13, false), (14, false)] (fun V => Below W9.heap.size W9 V) hmx (by kernel_rfl) (by kernel_rfl) (by kernel_rfl) hdr rfl ?_
      simp only [Pu.named, List.filterMap_cons, List.filterMap_nil, List.getElem?_toArray, List.getElem?_cons_succ, List.getElem?_cons_zero, Option.map_some]
      iterate 10 (first
        | (refine Pu.WalkM.off (by rfl) ?_; simp only [Act.put, List.setIfInBounds_toArray, List.set_cons_succ, List.set_cons_zero])
        | (apply Pu.WalkM.on (by rfl)
           · intro V hV
             have hcx := HBX.out V hV
             go_wp2_with fail
             refine ⟨rfl, ?_, rfl⟩
             try simp only [Act.put, List.setIfInBounds_toArray, List.set_cons_succ, List.set_cons_zero]
             rfl
           simp only [Act.put, List.setIfInBounds_toArray, List.set_cons_succ, List.set_cons_zero]))
      refine Pu.WalkM.make (by rfl) ?_
      intro V hV
      rw [hV]
      clear hV V
      go_wp2_with (go_at_call 39; refine (HCB.out W9.drew).mono ?_; rintro e WC ⟨⟨v3, rfl, hv3⟩, hbC⟩)
      have hBC := Lib.hid (hdr.trans (hbC.mono hdr.size))
      have HBC2 := Lib.hid hbC
      have hbl3 := BytesAt.of_own hv3
      obtain ⟨A3, c3, rfl, -⟩ := hbl3.form
      have HB3 := Lib.hid (fun V (hb : Below WC.heap.size WC V) => string_of V (hbl3.below hb))
      clear hv3 hbC hbl3
      refine ⟨rfl, .slice A3 bl.length c3, (fun V => Below WC.heap.size WC V), (fun V => V = WC), ?_, rfl, (fun V h => by rw [h]; exact Below.refl _ _), (.inr (fun V h => hBC.out.trans (h.mono hBC.out.size))), ?_⟩
      · try simp only [Act.put, List.setIfInBounds_toArray, List.set_cons_succ, List.set_cons_zero]
      try simp only [Act.put, List.setIfInBounds_toArray, List.set_cons_succ, List.set_cons_zero]
      iterate 4 (first
        | (refine Pu.WalkM.off (by rfl) ?_; simp only [Act.put, List.setIfInBounds_toArray, List.set_cons_succ, List.set_cons_zero])
        | (apply Pu.WalkM.on (by rfl)
           · intro V hV
             have hcz := HB3.out V hV
             go_wp2_with fail
             refine ⟨rfl, ?_, rfl⟩
             try simp only [Act.put, List.setIfInBounds_toArray, List.set_cons_succ, List.set_cons_zero]
             rfl
           simp only [Act.put, List.setIfInBounds_toArray, List.set_cons_succ, List.set_cons_zero]))
      refine Pu.WalkM.nil ?_
      intro V hV
      rw [hV]
      clear hV V
      go_wp2
      go_ret
      exact ⟨rfl, HB9.out.trans (hBC.out.mono HB9.out.size)⟩
    · have hd : decide (n < 0) = false := by simpa using h0
      have hd2 : decide (n > 64) = true := by simp; omega
      clear h0 hn
      go_wp2_with fail
      refine Pu.regionM [(0, false), (1, false), (2, false), (3, false), (4, false), (5, false), (6, false), (7, false), (8, false), (9, false), (10, true), (11, false), (12, false), (13, false), (14, false)] (fun V => Below W9.heap.size W9 V) hmx (by kernel_rfl) (by kernel_rfl) (by kernel_rfl) hdr rfl ?_
      simp only [Pu.named, List.filterMap_cons, List.filterMap_nil, List.getElem?_toArray, List.getElem?_cons_succ, List.getElem?_cons_zero, Option.map_some]
      iterate 10 (first
        | (refine Pu.WalkM.off (by rfl) ?_; simp only [Act.put, List.setIfInBounds_toArray, List.set_cons_succ, List.set_cons_zero])
        | (apply Pu.WalkM.on (by rfl)
           · intro V hV
             have hcx := HBX.out V hV
             go_wp2_with fail
             refine ⟨rfl, ?_, rfl⟩
             try simp only [Act.put, List.setIfInBounds_toArray, List.set_cons_succ, List.set_cons_zero]
             rfl
           simp only [Act.put, List.setIfInBounds_toArray, List.set_cons_succ, List.set_cons_zero]))
      refine Pu.WalkM.make (by rfl) ?_
      intro V hV
      rw [hV]
      clear hV V
      go_wp2_with (go_at_call 39; refine (HCB.out W9.drew).mono ?_; rintro e WC ⟨⟨v3, rfl, hv3⟩, hbC⟩)
      have hBC := Lib.hid (hdr.trans (hbC.mono hdr.size))
      have HBC2 := Lib.hid hbC
      have hbl3 := BytesAt.of_own hv3
      obtain ⟨A3, c3, rfl, -⟩ := hbl3.form
      have HB3 := Lib.hid (fun V (hb : Below WC.heap.size WC V) => string_of V (hbl3.below hb))
      clear hv3 hbC hbl3
      refine ⟨rfl, .slice A3 bl.length c3, (fun V => Below WC.heap.size WC V), (fun V => V = WC), ?_, rfl, (fun V h => by rw [h]; exact Below.refl _ _), (.inr (fun V h => hBC.out.trans (h.mono hBC.out.size))), ?_⟩
      · try simp only [Act.put, List.setIfInBounds_toArray, List.set_cons_succ, List.set_cons_zero]
      try simp only [Act.put, List.setIfInBounds_toArray, List.set_cons_succ, List.set_cons_zero]
      iterate 4 (first
        | (refine Pu.WalkM.off (by rfl) ?_; simp only [Act.put, List.setIfInBounds_toArray, List.set_cons_succ, List.set_cons_zero])
        | (apply Pu.WalkM.on (by rfl)
           · intro V hV
             have hcz := HB3.out V hV
             go_wp2_with fail
             refine ⟨rfl, ?_, rfl⟩
             try simp only [Act.put, List.setIfInBounds_toArray, List.set_cons_succ, List.set_cons_zero]
             rfl
           simp only [Act.put, List.setIfInBounds_toArray, List.set_cons_succ, List.set_cons_zero]))
      refine Pu.WalkM.nil ?_
      intro V hV
      rw [hV]
      clear hV V
      go_wp2
      go_ret
      exact ⟨rfl, HB9.out.trans (hBC.out.mono HB9.out.size)⟩
  · have h0 : 0 ≤ n := by omega
    obtain ⟨m, rfl⟩ := Int.eq_ofNat_of_zero_le h0
    have hm : m ≤ 64 := by omega
    obtain rfl := HC0.out hn
    have HL := Lib.hid (show tl a b m = (blockL b).take m ++ (blockL a).drop m from HT7.out hn)
    have hd : decide ((m : Int) < 0) = false := by simp; try omega
    have hd2 : decide ((m : Int) > 64) = false := by simp; omega
    rw [HL.out] at HX
    have HCA := Lib.hid (fun V => block_calls a V)
    have HCB := Lib.hid (fun V => block_calls b V)
    have HLA := Lib.hid (blockL_len a)
    have HLB := Lib.hid (blockL_len b)
    clear h0 hn HL HT1 HT2 HT3 HT4 HT5 HT6 HT7
    have hdr := (Below.refl W9.heap.size W9).drew
    have HBX := Lib.hid (fun V (hb : Below W9.heap.size W9 V) => string_of V (HX.out.below hb))
    clear HX
    generalize blockL a = la at *
    generalize blockL b = lb at *
    obtain ⟨i0, hi0, hz0⟩ := Option.map_eq_some_iff.1 byteInfo
    simp only [Prod.mk.injEq] at hz0
    obtain ⟨hz0, hz1, hz2⟩ := hz0
    have hI0 := Lib.hid hi0
    have hZ0 := Lib.hid hz0
    have hZ1 := Lib.hid hz1
    have hZ2 := Lib.hid hz2
    clear hi0 hz0 hz1 hz2
    go_wp2_with fail
    refine Pt.regionT (.look 0 (.look 1 (.look 2 (.look 3 (.look 4 (.look 5 (.look 6 (.look 7 (.look 8 (.look 10 (.look 12 (.look 15 (.look 17 (.fork 9 (.make 11 (.look 13 (.make 14 (.make 16 (.look 18 (.make 19 (.look 20 (.look 21 (.look 22 (.look 23 .nil)))))))))) 11 (.look 13 (.make 9 (.make 14 (.make 16 (.look 18 (.make 19 (.look 20 (.look 21 (.look 22 (.look 23 .nil)))))))))))))))))))))))) (fun V => Below W9.heap.size W9 V) hmx (by kernel_rfl) (by kernel_rfl) (by kernel_rfl) hdr rfl ?_
    simp only [Pt.named, List.getElem?_toArray, List.getElem?_cons_succ, List.getElem?_cons_zero]
    iterate 13 (first
      | (refine Pt.WalkT.off (by rfl) ?_; simp only [Act.put, List.setIfInBounds_toArray, List.set_cons_succ, List.set_cons_zero])
      | (apply Pt.WalkT.on (by rfl)
         · intro V hV
           have hcx := HBX.out V hV
           go_wp2_with fail
           refine ⟨rfl, ?_, rfl⟩
           try simp only [Act.put, List.setIfInBounds_toArray, List.set_cons_succ, List.set_cons_zero]
           rfl
         simp only [Act.put, List.setIfInBounds_toArray, List.set_cons_succ, List.set_cons_zero]))
    generalize hWD : W9.drew = WD at *
    clear hWD
    refine Pt.WalkT.fork (by rfl) (by rfl) ?_ ?_
    · intro V hV
      rw [hV]
      clear hV V
      have hownE := World.ownsRow_lit (e := 5) (size := 1) (base := W9.heap.size) WD #[] 0 hdr.size (Nat.zero_le _) rfl
      have hcE := hdr.alloc hdr.size (.cells #[] 5)
      have hbE := (Below.refl WD.heap.size WD).alloc (Nat.le_refl _) (.cells #[] 5)
      go_wp2_with fail
      generalize hWE : WD.alloc (.cells #[] 5) = WE at *
      clear hWE
      refine ⟨rfl, .slice (some ⟨WD.heap.size, 0, none⟩) 0 0, (fun V => Below W9.heap.size W9 V), (fun V => V = WE), ?_, rfl, (fun V h => by rw [h]; exact hcE), (.inr (fun _ h => h)), ?_⟩
      · simp only [Act.put, List.setIfInBounds_toArray, List.set_cons_succ, List.set_cons_zero]
      simp only [Act.put, List.setIfInBounds_toArray, List.set_cons_succ, List.set_cons_zero]
      obtain ⟨pE, hpE⟩ : ∃ p, p = WD.heap.size := ⟨_, rfl⟩
      rw [← hpE] at hownE ⊢
      clear hpE
      refine Pt.WalkT.make (by rfl) ?_
      intro V hV
      rw [hV]
      clear hV V
      go_wp2_with (go_at_call 39; refine (HCB.out WE).mono ?_; rintro e WB ⟨⟨vB, rfl, hvB⟩, hbB⟩)
      have hcB := hcE.trans (hbB.mono hcE.size)
      have hIB : BytesAt WB W9.heap.size WB.heap.size vB lb := (BytesAt.of_own hvB).wide hcE.size (Nat.le_refl _)
      obtain ⟨AB, cB, rfl, hcapB, hmxB⟩ := hIB.form
      rw [HLB.out] at hcapB
      unfold maxLen at hmxB
      have hown := row_later hownE hbB
      have hIX := hIB
      have hcX := hcB
      refine ⟨rfl, .slice AB lb.length cB, (fun V => Below W9.heap.size W9 V), (fun V => V = WB), ?_, rfl, (fun V h => by rw [h]; exact hcB), (.inr (fun _ h => h)), ?_⟩
      · try simp only [Act.put, List.setIfInBounds_toArray, List.set_cons_succ, List.set_cons_zero]
      try simp only [Act.put, List.setIfInBounds_toArray, List.set_cons_succ, List.set_cons_zero]
      clear hownE hbB hIB hvB
      obtain ⟨WX, hWX⟩ : ∃ X, X = WB := ⟨_, rfl⟩
      rw [← hWX] at hown hIX hcX ⊢
      clear hWX
      apply Pt.WalkT.on (by rfl)
      · intro V hV
        have hq1 : (0 : Int) ≤ (m : Int) := by omega
        have hq2 : (m : Int) ≤ (cB : Int) := by omega
        go_wp2_with fail
        refine ⟨rfl, ?_, rfl⟩
        try simp only [Act.put, List.setIfInBounds_toArray, List.set_cons_succ, List.set_cons_zero]
        rfl
      simp only [Act.put, List.setIfInBounds_toArray, List.set_cons_succ, List.set_cons_zero]
      refine Pt.WalkT.make (by rfl) ?_
      intro V hV
      rw [hV]
      clear hV V
      have hsrc : Sl WX W9.heap.size WX.heap.size 1 (.slice AB m cB) m (bytesV (lb.take m)) := by
        have := hIX
        unfold BytesAt at this
        have h2 := Sl.upTo (k := m) this (by rw [HLB.out]; omega)
        rw [Nat.mul_one] at h2
        unfold bytesV at h2 ⊢
        rw [List.map_take]
        exact h2
      refine Pu.wpList_wanted (by rfl) ?_
      refine wpList_append_sl _ rfl (.tmp 73) (.tmp 77) _ rfl W9.heap.size 5 i0 _ 1 1 Try.underlying34 hI0.out hZ0.out hZ1.out hZ2.out rfl (by omega) (.slice (some ⟨pE, 0, none⟩) 0 0) 0 [] rfl hown W9.heap.size WX.heap.size _ m (bytesV (lb.take m)) rfl hsrc (bytesV_one _) (by unfold maxLen; omega) (by omega) hcX.size ?_
      intro v1 w1 hv1 hg1 hat1
      have hv1' : w1.ownsRow W9.heap.size 5 1 v1 m (bytesV (lb.take m)) := by simpa using hv1
      have hc1 := hcX.grown hg1 hcX.size (fun g hg => (hown.lt g hg).1)
      clear hv1 hg1 hat1 hsrc hown hIX
      refine ⟨rfl, v1, (fun V => Below W9.heap.size W9 V), (fun V => V = w1), rfl, rfl, (fun V h => by rw [h]; exact hc1), (.inr (fun _ h => h)), ?_⟩
      simp only [Act.put, List.setIfInBounds_toArray, List.set_cons_succ, List.set_cons_zero]
      refine Pt.WalkT.make (by rfl) ?_
      intro V hV
      rw [hV]
      clear hV V
      go_wp2_with (go_at_call 39; refine (HCA.out w1).mono ?_; rintro e WA ⟨⟨vA, rfl, hvA⟩, hbA⟩)
      have hcA := hc1.trans (hbA.mono hc1.size)
      have hIA : BytesAt WA W9.heap.size WA.heap.size vA la := (BytesAt.of_own hvA).wide hc1.size (Nat.le_refl _)
      obtain ⟨AA, cA, rfl, hcapA, hmxA⟩ := hIA.form
      rw [HLA.out] at hcapA
      unfold maxLen at hmxA
      have hown2 := row_later hv1' hbA
      refine ⟨rfl, .slice AA la.length cA, (fun V => Below W9.heap.size W9 V), (fun V => V = WA), ?_, rfl, (fun V h => by rw [h]; exact hcA), (.inr (fun _ h => h)), ?_⟩
      · try simp only [Act.put, List.setIfInBounds_toArray, List.set_cons_succ, List.set_cons_zero]
      try simp only [Act.put, List.setIfInBounds_toArray, List.set_cons_succ, List.set_cons_zero]
      obtain ⟨bA, oA, rfl, -⟩ := hIA.cellAt (j := 0) (by rw [HLA.out]; omega)
      have hsrc2 : Sl WA W9.heap.size WA.heap.size 1 (.slice (if cA = m then some ⟨bA, oA, none⟩ else some ⟨bA, oA + m, none⟩) (64 - m) (cA - m)) (64 - m) (bytesV (la.drop m)) := by
        have := hIA
        unfold BytesAt at this
        have h2 := Sl.onFrom (k := m) this (by rw [HLA.out]; omega)
        rw [Nat.mul_one, HLA.out] at h2
        unfold bytesV at h2 ⊢
        rw [List.map_drop]
        exact h2
      clear hIA hbA hv1' hvA
      rw [HLA.out]
      generalize hAD : (if cA = m then some (⟨bA, oA, none⟩ : Addr) else some ⟨bA, oA + m, none⟩) = AD at *
      have HAD := Lib.hid hAD
      clear hAD
      apply Pt.WalkT.on (by rfl)
      · intro V hV
        have hq1 : (0 : Int) ≤ (m : Int) := by omega
        have hq2 : (m : Int) ≤ 64 := by omega
        have hsl : ∀ V : World, (Instr.slice 34 (.slice (some ⟨bA, oA, none⟩) 64 cA) (some (.int .i64 (m : Int))) none none).run Try.prog V = .ok (.slice AD (64 - m) (cA - m)) V := fun V => by
          rw [← HAD.out]
          exact slice_from V bA oA 64 cA m (by omega)
        go_wp2_with fail
        refine ⟨rfl, ?_, rfl⟩
        try simp only [Act.put, List.setIfInBounds_toArray, List.set_cons_succ, List.set_cons_zero]
        rfl
      simp only [Act.put, List.setIfInBounds_toArray, List.set_cons_succ, List.set_cons_zero]
      refine Pt.WalkT.make (by rfl) ?_
      intro V hV
      rw [hV]
      clear hV V
      refine Pu.wpList_wanted (by rfl) ?_
      refine wpList_append_sl _ rfl (.tmp 78) (.tmp 82) _ rfl W9.heap.size 5 i0 _ 1 1 Try.underlying34 hI0.out hZ0.out hZ1.out hZ2.out rfl (by omega) v1 m (bytesV (lb.take m)) rfl hown2 W9.heap.size WA.heap.size _ (64 - m) (bytesV (la.drop m)) rfl hsrc2 (bytesV_one _) (by unfold maxLen; omega) (by omega) hcA.size ?_
      intro v2 w2 hv2 hg2 hat2
      have hc2 := hcA.grown hg2 hcA.size (fun g hg => (hown2.lt g hg).1)
      rw [← bytesV_append] at hv2
      have hI2 := BytesAt.of_own hv2
      obtain ⟨A2, c2, rfl, -⟩ := hI2.form
      have HB2 := Lib.hid (fun V (hb : Below w2.heap.size w2 V) => string_of V (hI2.below hb))
      have HC2 := Lib.hid hc2
      have HZ := Lib.hid (HB9.out.trans (hc2.mono HB9.out.size))
      clear hv2 hg2 hat2 hown2 hsrc2 hI2 hc2
      refine ⟨rfl, .slice A2 (lb.take m ++ la.drop m).length c2, (fun V => Below w2.heap.size w2 V), (fun V => V = w2), rfl, rfl, (fun V h => by rw [h]; exact Below.refl _ _), (.inr (fun V h => HC2.out.trans (h.mono HC2.out.size))), ?_⟩
      simp only [Act.put, List.setIfInBounds_toArray, List.set_cons_succ, List.set_cons_zero]
      generalize lb.take m ++ la.drop m = lz at *
      iterate 4 (first
        | (refine Pt.WalkT.off (by rfl) ?_; simp only [Act.put, List.setIfInBounds_toArray, List.set_cons_succ, List.set_cons_zero])
        | (apply Pt.WalkT.on (by rfl)
           · intro V hV
             have hcz := HB2.out V hV
             go_wp2_with fail
             refine ⟨rfl, ?_, rfl⟩
             try simp only [Act.put, List.setIfInBounds_toArray, List.set_cons_succ, List.set_cons_zero]
             rfl
           simp only [Act.put, List.setIfInBounds_toArray, List.set_cons_succ, List.set_cons_zero]))
      refine Pt.WalkT.nil ?_
      intro V hV
      rw [hV]
      clear hV V
      go_wp2
      go_ret
      exact ⟨rfl, HZ.out⟩
    · intro V hV
      rw [hV]
      clear hV V
      go_wp2_with (go_at_call 39; refine (HCB.out WD).mono ?_; rintro e WB ⟨⟨vB, rfl, hvB⟩, hbB⟩)
      have hcB := hdr.trans (hbB.mono hdr.size)
      have hIB : BytesAt WB W9.heap.size WB.heap.size vB lb := (BytesAt.of_own hvB).wide hdr.size (Nat.le_refl _)
      obtain ⟨AB, cB, rfl, hcapB, hmxB⟩ := hIB.form
      rw [HLB.out] at hcapB
      unfold maxLen at hmxB
      refine ⟨rfl, .slice AB lb.length cB, (fun V => Below W9.heap.size W9 V), (fun V => V = WB), ?_, rfl, (fun V h => by rw [h]; exact hcB), (.inr (fun _ h => h)), ?_⟩
      · try simp only [Act.put, List.setIfInBounds_toArray, List.set_cons_succ, List.set_cons_zero]
      try simp only [Act.put, List.setIfInBounds_toArray, List.set_cons_succ, List.set_cons_zero]
      apply Pt.WalkT.on (by rfl)
      · intro V hV
        have hq1 : (0 : Int) ≤ (m : Int) := by omega
        have hq2 : (m : Int) ≤ (cB : Int) := by omega
        go_wp2_with fail
        refine ⟨rfl, ?_, rfl⟩
        try simp only [Act.put, List.setIfInBounds_toArray, List.set_cons_succ, List.set_cons_zero]
        rfl
      simp only [Act.put, List.setIfInBounds_toArray, List.set_cons_succ, List.set_cons_zero]
      refine Pt.WalkT.make (by rfl) ?_
      intro V hV
      rw [hV]
      clear hV V
      have hownE := World.ownsRow_lit (e := 5) (size := 1) (base := W9.heap.size) WB #[] 0 hcB.size (Nat.zero_le _) rfl
      have hcE := hcB.alloc hcB.size (.cells #[] 5)
      have hbE := (Below.refl WB.heap.size WB).alloc (Nat.le_refl _) (.cells #[] 5)
      go_wp2_with fail
      have hIX : BytesAt (WB.alloc (.cells #[] 5)) W9.heap.size (WB.alloc (.cells #[] 5)).heap.size (.slice AB lb.length cB) lb := hIB.mono hbE hbE.size
      generalize hWE : WB.alloc (.cells #[] 5) = WE at *
      refine ⟨rfl, .slice (some ⟨WB.heap.size, 0, none⟩) 0 0, (fun V => Below W9.heap.size W9 V), (fun V => V = WE), ?_, rfl, (fun V h => by rw [h]; exact hcE), (.inr (fun _ h => h)), ?_⟩
      · simp only [Act.put, List.setIfInBounds_toArray, List.set_cons_succ, List.set_cons_zero]
      simp only [Act.put, List.setIfInBounds_toArray, List.set_cons_succ, List.set_cons_zero]
      obtain ⟨pE, hpE⟩ : ∃ p, p = WB.heap.size := ⟨_, rfl⟩
      rw [← hpE] at hownE ⊢
      clear hpE hWE hIB hbB hvB
      have hown := hownE
      have hcX := hcE
      obtain ⟨WX, hWX⟩ : ∃ X, X = WE := ⟨_, rfl⟩
      rw [← hWX] at hown hIX hcX ⊢
      clear hWX hownE
      refine Pt.WalkT.make (by rfl) ?_
      intro V hV
      rw [hV]
      clear hV V
      have hsrc : Sl WX W9.heap.size WX.heap.size 1 (.slice AB m cB) m (bytesV (lb.take m)) := by
        have := hIX
        unfold BytesAt at this
        have h2 := Sl.upTo (k := m) this (by rw [HLB.out]; omega)
        rw [Nat.mul_one] at h2
        unfold bytesV at h2 ⊢
        rw [List.map_take]
        exact h2
      refine Pu.wpList_wanted (by rfl) ?_
      refine wpList_append_sl _ rfl (.tmp 73) (.tmp 77) _ rfl W9.heap.size 5 i0 _ 1 1 Try.underlying34 hI0.out hZ0.out hZ1.out hZ2.out rfl (by omega) (.slice (some ⟨pE, 0, none⟩) 0 0) 0 [] rfl hown W9.heap.size WX.heap.size _ m (bytesV (lb.take m)) rfl hsrc (bytesV_one _) (by unfold maxLen; omega) (by omega) hcX.size ?_
      intro v1 w1 hv1 hg1 hat1
      have hv1' : w1.ownsRow W9.heap.size 5 1 v1 m (bytesV (lb.take m)) := by simpa using hv1
      have hc1 := hcX.grown hg1 hcX.size (fun g hg => (hown.lt g hg).1)
      clear hv1 hg1 hat1 hsrc hown hIX
      refine ⟨rfl, v1, (fun V => Below W9.heap.size W9 V), (fun V => V = w1), rfl, rfl, (fun V h => by rw [h]; exact hc1), (.inr (fun _ h => h)), ?_⟩
      simp only [Act.put, List.setIfInBounds_toArray, List.set_cons_succ, List.set_cons_zero]
      refine Pt.WalkT.make (by rfl) ?_
      intro V hV
      rw [hV]
      clear hV V
      go_wp2_with (go_at_call 39; refine (HCA.out w1).mono ?_; rintro e WA ⟨⟨vA, rfl, hvA⟩, hbA⟩)
      have hcA := hc1.trans (hbA.mono hc1.size)
      have hIA : BytesAt WA W9.heap.size WA.heap.size vA la := (BytesAt.of_own hvA).wide hc1.size (Nat.le_refl _)
      obtain ⟨AA, cA, rfl, hcapA, hmxA⟩ := hIA.form
      rw [HLA.out] at hcapA
      unfold maxLen at hmxA
      have hown2 := row_later hv1' hbA
      refine ⟨rfl, .slice AA la.length cA, (fun V => Below W9.heap.size W9 V), (fun V => V = WA), ?_, rfl, (fun V h => by rw [h]; exact hcA), (.inr (fun _ h => h)), ?_⟩
      · try simp only [Act.put, List.setIfInBounds_toArray, List.set_cons_succ, List.set_cons_zero]
      try simp only [Act.put, List.setIfInBounds_toArray, List.set_cons_succ, List.set_cons_zero]
      obtain ⟨bA, oA, rfl, -⟩ := hIA.cellAt (j := 0) (by rw [HLA.out]; omega)
      have hsrc2 : Sl WA W9.heap.size WA.heap.size 1 (.slice (if cA = m then some ⟨bA, oA, none⟩ else some ⟨bA, oA + m, none⟩) (64 - m) (cA - m)) (64 - m) (bytesV (la.drop m)) := by
        have := hIA
        unfold BytesAt at this
        have h2 := Sl.onFrom (k := m) this (by rw [HLA.out]; omega)
        rw [Nat.mul_one, HLA.out] at h2
        unfold bytesV at h2 ⊢
        rw [List.map_drop]
        exact h2
      clear hIA hbA hv1' hvA
      rw [HLA.out]
      generalize hAD : (if cA = m then some (⟨bA, oA, none⟩ : Addr) else some ⟨bA, oA + m, none⟩) = AD at *
      have HAD := Lib.hid hAD
      clear hAD
      apply Pt.WalkT.on (by rfl)
      · intro V hV
        have hq1 : (0 : Int) ≤ (m : Int) := by omega
        have hq2 : (m : Int) ≤ 64 := by omega
        have hsl : ∀ V : World, (Instr.slice 34 (.slice (some ⟨bA, oA, none⟩) 64 cA) (some (.int .i64 (m : Int))) none none).run Try.prog V = .ok (.slice AD (64 - m) (cA - m)) V := fun V => by
          rw [← HAD.out]
          exact slice_from V bA oA 64 cA m (by omega)
        go_wp2_with fail
        refine ⟨rfl, ?_, rfl⟩
        try simp only [Act.put, List.setIfInBounds_toArray, List.set_cons_succ, List.set_cons_zero]
        rfl
      simp only [Act.put, List.setIfInBounds_toArray, List.set_cons_succ, List.set_cons_zero]
      refine Pt.WalkT.make (by rfl) ?_
      intro V hV
      rw [hV]
      clear hV V
      refine Pu.wpList_wanted (by rfl) ?_
      refine wpList_append_sl _ rfl (.tmp 78) (.tmp 82) _ rfl W9.heap.size 5 i0 _ 1 1 Try.underlying34 hI0.out hZ0.out hZ1.out hZ2.out rfl (by omega) v1 m (bytesV (lb.take m)) rfl hown2 W9.heap.size WA.heap.size _ (64 - m) (bytesV (la.drop m)) rfl hsrc2 (bytesV_one _) (by unfold maxLen; omega) (by omega) hcA.size ?_
      intro v2 w2 hv2 hg2 hat2
      have hc2 := hcA.grown hg2 hcA.size (fun g hg => (hown2.lt g hg).1)
      rw [← bytesV_append] at hv2
      have hI2 := BytesAt.of_own hv2
      obtain ⟨A2, c2, rfl, -⟩ := hI2.form
      have HB2 := Lib.hid (fun V (hb : Below w2.heap.size w2 V) => string_of V (hI2.below hb))
      have HC2 := Lib.hid hc2
      have HZ := Lib.hid (HB9.out.trans (hc2.mono HB9.out.size))
      clear hv2 hg2 hat2 hown2 hsrc2 hI2 hc2
      refine ⟨rfl, .slice A2 (lb.take m ++ la.drop m).length c2, (fun V => Below w2.heap.size w2 V), (fun V => V = w2), rfl, rfl, (fun V h => by rw [h]; exact Below.refl _ _), (.inr (fun V h => HC2.out.trans (h.mono HC2.out.size))), ?_⟩
      simp only [Act.put, List.setIfInBounds_toArray, List.set_cons_succ, List.set_cons_zero]
      generalize lb.take m ++ la.drop m = lz at *
      iterate 4 (first
        | (refine Pt.WalkT.off (by rfl) ?_; simp only [Act.put, List.setIfInBounds_toArray, List.set_cons_succ, List.set_cons_zero])
        | (apply Pt.WalkT.on (by rfl)
           · intro V hV
             have hcz := HB2.out V hV
             go_wp2_with fail
             refine ⟨rfl, ?_, rfl⟩
             try simp only [Act.put, List.setIfInBounds_toArray, List.set_cons_succ, List.set_cons_zero]
             rfl
           simp only [Act.put, List.setIfInBounds_toArray, List.set_cons_succ, List.set_cons_zero]))
      refine Pt.WalkT.nil ?_
      intro V hV
      rw [hV]
      clear hV V
      go_wp2
      go_ret
      exact ⟨rfl, HZ.out⟩
theorem byte_form {a : Int} (h : 0 ≤ a ∧ a ≤ 255) : a = ((UInt8.ofNat a.toNat).toNat : Int) := by rw [toNat_ofNat (by omega)]; omega
theorem tears_int (a b n : Int) (w : World) (ha : 0 ≤ a ∧ a ≤ 255) (hb : 0 ≤ b ∧ b ≤ 255) (b0 : -9223372036854775808 ≤ n) (b1 : n ≤ 9223372036854775807) : Calls Try.prog 7 #[.int .u8 a, .int .u8 b, .int .i64 n] w fun e w' => e = .returned (.bool true) ∧ Below w.heap.size w w' := by
  rw [byte_form ha, byte_form hb]
  exact tears_law _ _ n w b0 b1
end Se
end Go.Proofs.Yteiniahikhiadaa
