/-
  sector: the law Keeps.
-/
import Derived.Test.YteiniahikhiadaaSeY
namespace Go.Proofs.Yteiniahikhiadaa
open Go.RowKit Go.Maps
namespace Se
open Ce
set_option maxRecDepth 100000 in
set_option maxHeartbeats 16000000 in
theorem keeps_law (i : Int) (b : UInt8) (os : List OpV) (v : Value) (w : World) (hO : OpsAt w w.heap.size v os) (hok : ∀ o ∈ os, OkOp o) :
    Calls Try.prog 8 #[.int .i64 i, .int .u8 (b.toNat : Int), v] w fun e w' => e = .returned (.bool true) ∧ Below w.heap.size w w' := by
  obtain ⟨A, c, rfl, hc1, hc2⟩ := hO.form
  unfold maxLen at hc2
  go_enter Try.func8, Try.ntmps8
  go_wp2_with fail
  refine (new_calls 8 w (by omega) (by omega)).mono ?_
  rintro e W1 ⟨⟨d, sb, mb, rfl, hD1⟩, hB1⟩
  go_wp2_with fail
  refine (lives_calls W1).mono ?_
  rintro e W2 ⟨rfl, hb2⟩
  have HD2 := Lib.hid (hD1.same hb2)
  have HB2 := Lib.hid (hB1.trans (hb2.mono hB1.size))
  have hlo := Lib.hid HD2.out.lo
  clear hb2 hD1 hB1
  rcases Int.lt_or_le i 0 with hn0 | hn0
  · have hd : decide (i < 0) = true := by simpa using hn0
    clear hn0
    go_wp2_with fail
    refine (lives_calls W2).mono ?_
    rintro e W3 ⟨rfl, hb3⟩
    have HB3 := Lib.hid (HB2.out.trans (hb3.mono HB2.out.size))
    clear hb3
    go_wp2
    go_ret
    exact ⟨rfl, HB3.out⟩
  · have hd : decide (i < 0) = false := by simpa using hn0
    rcases Int.lt_or_le 7 i with hn5 | hn5
    · have hd5 : decide (i > 7) = true := by simpa using hn5
      clear hn0 hn5
      go_wp2_with fail
      refine (lives_calls W2).mono ?_
      rintro e W3 ⟨rfl, hb3⟩
      have HB3 := Lib.hid (HB2.out.trans (hb3.mono HB2.out.size))
      clear hb3
      go_wp2
      go_ret
      exact ⟨rfl, HB3.out⟩
    · have hd5 : decide (i > 7) = false := by simp; omega
      obtain ⟨m, rfl⟩ := Int.eq_ofNat_of_zero_le hn0
      have hm8 : m < 8 := by omega
      have HS := Lib.hid (Safe.start hm8 b)
      go_wp2_with fail
      refine (block_calls b W2).mono ?_
      rintro e W3 ⟨⟨v3, rfl, hv3⟩, hb3⟩
      have CW3 := Lib.hid (write_calls (HD2.out.same hb3) m (blockL b) v3 W2.heap.size W3.heap.size (BytesAt.of_own hv3) (Nat.le_refl _) HD2.out.ob.lt HD2.out.map.lt)
      rw [HS.out.1] at CW3
      have HB3 := Lib.hid (HB2.out.trans (hb3.mono HB2.out.size))
      clear hb3 hv3
      go_wp2_with fail
      refine CW3.out.mono ?_
      rintro e W4 ⟨rfl, hD4, hdv⟩
      have HB4 := Lib.hid (HB3.out.trans (Dev.below hdv HB3.out.size hlo.out))
      have HD4 := Lib.hid hD4
      clear hD4 hdv CW3 HB3 HD2 HB2
      have CF := Lib.hid (flush_calls HD4.out)
      rw [HS.out.2.1] at CF
      go_wp2_with fail
      refine CF.out.mono ?_
      rintro e W5 ⟨rfl, hD5, hdv⟩
      have HB5 := Lib.hid (HB4.out.trans (Dev.below hdv HB4.out.size hlo.out))
      have HD5 := Lib.hid hD5
      clear hD5 hdv CF HB4 HD4
      go_wp2_with fail
      go_loopw [9] (fun x wr => ∃ (k : Nat) (D : Dv), k ≤ os.length ∧ k ≤ 200 ∧ x = .int .i64 k ∧ Safe D m (blockL b) ∧ DvAt wr w.heap.size d sb mb D ∧ Below w.heap.size w wr) (fun x _ => os.length - (intOf x).toNat)
      case atStart => exact ⟨0, _, by omega, by omega, rfl, HS.out.2.2, HD5.out, HB5.out⟩
      case round =>
        obtain ⟨k, D, hk, hk2, rfl, hS, hD, hB⟩ := hrel
        have HB0 := Lib.hid hB
        have HD0 := Lib.hid hD
        have HSf := Lib.hid hS
        clear HD5 HB5 hD hB hS HS hd hd5 hn0 hn5
        by_cases hlt : k < os.length ∧ k < 200
        · obtain ⟨hlt, hlt2⟩ := hlt
          obtain ⟨bo, po, kv, bv, rfl, hbo, hIk, hIb, g0, g1, g2, g3, g4, g5⟩ := hO.at_ hlt
          replace g0 := (HB0.out.cell (p := ⟨bo, po + k * 6, none⟩) hbo).trans g0
          replace g1 := (HB0.out.cell (p := ⟨bo, po + k * 6 + 1, none⟩) hbo).trans g1
          replace g2 := (HB0.out.cell (p := ⟨bo, po + k * 6 + 2, none⟩) hbo).trans g2
          replace g3 := (HB0.out.cell (p := ⟨bo, po + k * 6 + 3, none⟩) hbo).trans g3
          replace g4 := (HB0.out.cell (p := ⟨bo, po + k * 6 + 4, none⟩) hbo).trans g4
          replace g5 := (HB0.out.cell (p := ⟨bo, po + k * 6 + 5, none⟩) hbo).trans g5
          have hoo := Lib.hid (hok _ (List.getElem_mem hlt))
          generalize os[k] = o at *
          obtain ⟨kd, oi, on, ob, keep, bytes⟩ := o
          dsimp only at hIk hIb g0 g1 g2 g3 g4 g5
          obtain ⟨Ak, ck, rfl, hck1, hck2, -⟩ := hIk.form
          obtain ⟨Ab, cb, rfl, hcb1, hcb2⟩ := hIb.form
          have HK := Lib.hid hIk
          have hd : decide ((k : Int) < (os.length : Int)) = true := by simp; omega
          have hd2 : decide ((k : Int) < 200) = true := by simp; omega
          have hal := (Below.refl wr.heap.size wr).alloc (Nat.le_refl _) (.cells #[.int .i64 kd, .int .i64 oi, .int .i64 on, .int .u8 (ob.toNat : Int), .slice Ak keep.length ck, .slice Ab bytes.length cb] 67)
          have HB1 := Lib.hid (HB0.out.trans (hal.mono HB0.out.size))
          have HD1 := Lib.hid (HD0.out.same hal)
          have hO1 := Ob.new wr 67 #[.int .i64 kd, .int .i64 oi, .int .i64 on, .int .u8 (ob.toNat : Int), .slice Ak keep.length ck, .slice Ab bytes.length cb]
          have hdz := HD0.out.ob.lt
          have hsz := HD0.out.sure.lt
          have hmz := HD0.out.map.lt
          have hz : wr.heap.size < (wr.alloc (.cells #[.int .i64 kd, .int .i64 oi, .int .i64 on, .int .u8 (ob.toNat : Int), .slice Ak keep.length ck, .slice Ab bytes.length cb] 67)).heap.size := by simp
          clear hIk hIb hal hck1 hck2 hcb1 hcb2
          generalize hzz : wr.heap.size = z at *
          obtain ⟨q0, q1, q2, q3, q4, q5⟩ := Ob.six hO1
          by_cases e1 : kd = 1
          · subst e1
            by_cases hne : oi = (m : Int)
            · have hq : (oi != (m : Int)) = false := by simpa using hne
              clear hne
              have HFIN := Lib.hid (show ∃ (k' : Nat) (D' : Dv), k' ≤ os.length ∧ k' ≤ 200 ∧ Value.int .i64 ((k : Int) + 1) = .int .i64 k' ∧ Safe D' m (blockL b) ∧ DvAt (wr.alloc (.cells #[.int .i64 1, .int .i64 oi, .int .i64 on, .int .u8 (ob.toNat : Int), .slice Ak keep.length ck, .slice Ab bytes.length cb] 67)) w.heap.size d sb mb D' ∧ Below w.heap.size w (wr.alloc (.cells #[.int .i64 1, .int .i64 oi, .int .i64 on, .int .u8 (ob.toNat : Int), .slice Ak keep.length ck, .slice Ab bytes.length cb] 67)) from
                ⟨k + 1, D, by omega, by omega, by go_num, HSf.out, HD1.out, HB1.out⟩)
              go_wp2
              exact ⟨HFIN.out, by simp [intOf]; omega⟩
            · have hq : (oi != (m : Int)) = true := by simpa using hne
              have HNE := Lib.hid hne
              clear hne
              go_wp2_with fail
              generalize hWq : wr.alloc (.cells #[.int .i64 1, .int .i64 oi, .int .i64 on, .int .u8 (ob.toNat : Int), .slice Ak keep.length ck, .slice Ab bytes.length cb] 67) = WA at *
              clear hWq
              have hdr := (Below.refl WA.heap.size WA).drew
              have HD2 := Lib.hid (HD1.out.same hdr)
              have HB2 := Lib.hid (HB1.out.trans (hdr.mono HB1.out.size))
              have hO2 : Ob WA.drew z 67 #[.int .i64 1, .int .i64 oi, .int .i64 on, .int .u8 (ob.toNat : Int), .slice Ak keep.length ck, .slice Ab bytes.length cb] := hO1
              have hz2 : z < WA.drew.heap.size := hz
              clear q0 q1 q2 q3 q4 q5 HB1 HD1 hO1
              refine Pu.regionM [(0, false), (1, false), (2, false), (3, false), (4, false), (5, true), (6, true)] (fun V => Ob V z 67 #[.int .i64 1, .int .i64 oi, .int .i64 on, .int .u8 (ob.toNat : Int), .slice Ak keep.length ck, .slice Ab bytes.length cb]) hmx (by kernel_rfl) (by kernel_rfl) (by kernel_rfl) hO2 rfl ?_
              simp only [Pu.named, List.filterMap_cons, List.filterMap_nil, List.getElem?_toArray, List.getElem?_cons_succ, List.getElem?_cons_zero, Option.map_some]
              iterate 5 (first
                | (refine Pu.WalkM.off (by rfl) ?_; simp only [Act.put, List.setIfInBounds_toArray, List.set_cons_succ, List.set_cons_zero])
                | (apply Pu.WalkM.on (by rfl)
                   · intro V hV
                     obtain ⟨q0, q1, q2, q3, q4, q5⟩ := Ob.six hV
                     go_wp2_with fail
                     refine ⟨rfl, ?_, rfl⟩
                     try simp only [Act.put, List.setIfInBounds_toArray, List.set_cons_succ, List.set_cons_zero]
                     rfl
                   simp only [Act.put, List.setIfInBounds_toArray, List.set_cons_succ, List.set_cons_zero]))
              generalize hWD : WA.drew = WD at *
              clear hWD hdr
              refine Pu.WalkM.make (by rfl) ?_
              intro V hV
              rw [hV]
              clear hV V
              go_wp2_with (go_at_call 39; refine (block_calls ob WD).mono ?_; rintro e W3 ⟨⟨v3, rfl, hv3⟩, hb3⟩)
              have HB3 := Lib.hid (HB2.out.trans (hb3.mono HB2.out.size))
              have hO3 := hO2.same hb3
              have CW := Lib.hid (write_calls (HD2.out.same hb3) oi (blockL ob) v3 WD.heap.size W3.heap.size (BytesAt.of_own hv3) (Nat.le_refl _) HD2.out.ob.lt HD2.out.map.lt)

              have hz3 : z < W3.heap.size := by have := hb3.size; omega
              clear hb3 hv3 hO2 HD2 HB2 hz2
              refine ⟨rfl, v3, (fun V => Ob V z 67 #[.int .i64 1, .int .i64 oi, .int .i64 on, .int .u8 (ob.toNat : Int), .slice Ak keep.length ck, .slice Ab bytes.length cb]), (fun V => V = W3), ?_, rfl, (fun V h => by rw [h]; exact hO3), (.inr (fun _ h => h)), ?_⟩
              · try simp only [Act.put, List.setIfInBounds_toArray, List.set_cons_succ, List.set_cons_zero]
              try simp only [Act.put, List.setIfInBounds_toArray, List.set_cons_succ, List.set_cons_zero]
              refine Pu.WalkM.make (by rfl) ?_
              intro V hV
              rw [hV]
              clear hV V
              go_wp2_with (go_at_call 38; refine CW.out.mono ?_; rintro e W4 ⟨rfl, hD4, hdv⟩)
              have HB4 := Lib.hid (HB3.out.trans (Dev.below hdv HB3.out.size hlo.out))
              have HD4 := Lib.hid hD4
              have hO4 := Kept.ob hdv hO3 (by omega)
              clear hdv CW HB3 hO3 hD4
              refine ⟨rfl, .int .i64 (writeD D oi (blockL ob)).2, (fun V => Ob V z 67 #[.int .i64 1, .int .i64 oi, .int .i64 on, .int .u8 (ob.toNat : Int), .slice Ak keep.length ck, .slice Ab bytes.length cb]), (fun V => V = W4), ?_, rfl, (fun V h => by rw [h]; exact hO4), (.inr (fun _ h => h)), ?_⟩
              · try simp only [Act.put, List.setIfInBounds_toArray, List.set_cons_succ, List.set_cons_zero]
              try simp only [Act.put, List.setIfInBounds_toArray, List.set_cons_succ, List.set_cons_zero]
              refine Pu.WalkM.nil ?_
              intro V hV
              rw [hV]
              clear hV V
              clear hO4
              have HFIN := Lib.hid (show ∃ (k' : Nat) (D' : Dv), k' ≤ os.length ∧ k' ≤ 200 ∧ Value.int .i64 ((k : Int) + 1) = .int .i64 k' ∧ Safe D' m (blockL b) ∧ DvAt W4 w.heap.size d sb mb D' ∧ Below w.heap.size w W4 from
                ⟨k + 1, _, by omega, by omega, by go_num, HSf.out.write HNE.out _, HD4.out, HB4.out⟩)
              go_wp2
              exact ⟨HFIN.out, by simp [intOf]; omega⟩
          · have e1b : (kd == 1) = false := by simpa using e1
            clear e1
            by_cases e2 : kd = 2
            · subst e2
              go_wp2_with fail
              generalize hWq : wr.alloc (.cells #[.int .i64 2, .int .i64 oi, .int .i64 on, .int .u8 (ob.toNat : Int), .slice Ak keep.length ck, .slice Ab bytes.length cb] 67) = WA at *
              clear hWq
              have CW := Lib.hid (flush_calls HD1.out)
              refine CW.out.mono ?_
              rintro e W4 ⟨rfl, hD4, hdv⟩
              have HB4 := Lib.hid (HB1.out.trans (Dev.below hdv HB1.out.size hlo.out))
              have HD4 := Lib.hid hD4
              clear hD4 hdv
              clear q0 q1 q2 q3 q4 q5 CW HB1 HD1 hO1
              have HFIN := Lib.hid (show ∃ (k' : Nat) (D' : Dv), k' ≤ os.length ∧ k' ≤ 200 ∧ Value.int .i64 ((k : Int) + 1) = .int .i64 k' ∧ Safe D' m (blockL b) ∧ DvAt W4 w.heap.size d sb mb D' ∧ Below w.heap.size w W4 from
                ⟨k + 1, _, by omega, by omega, by go_num, HSf.out.flush, HD4.out, HB4.out⟩)
              go_wp2
              exact ⟨HFIN.out, by simp [intOf]; omega⟩
            · have e2b : (kd == 2) = false := by simpa using e2
              clear e2
              by_cases e3 : kd = 3
              · subst e3
                go_wp2_with fail
                generalize hWq : wr.alloc (.cells #[.int .i64 3, .int .i64 oi, .int .i64 on, .int .u8 (ob.toNat : Int), .slice Ak keep.length ck, .slice Ab bytes.length cb] 67) = WA at *
                clear hWq
                have CW := Lib.hid (crash_calls HD1.out keep _ 0 w.heap.size (HK.out.mono HB1.out (Nat.le_refl _)) (fun i h1 h2 => by have := hlo.out; have := HB1.out.size; omega) oi on)
                refine CW.out.mono ?_
                rintro e W4 ⟨rfl, hD4, hdv⟩
                have HB4 := Lib.hid (HB1.out.trans (Dev.below hdv HB1.out.size hlo.out))
                have HD4 := Lib.hid hD4
                clear hD4 hdv
                clear q0 q1 q2 q3 q4 q5 CW HB1 HD1 hO1
                have HFIN := Lib.hid (show ∃ (k' : Nat) (D' : Dv), k' ≤ os.length ∧ k' ≤ 200 ∧ Value.int .i64 ((k : Int) + 1) = .int .i64 k' ∧ Safe D' m (blockL b) ∧ DvAt W4 w.heap.size d sb mb D' ∧ Below w.heap.size w W4 from
                  ⟨k + 1, _, by omega, by omega, by go_num, HSf.out.crash keep oi on, HD4.out, HB4.out⟩)
                go_wp2
                exact ⟨HFIN.out, by simp [intOf]; omega⟩
              · have e3b : (kd == 3) = false := by simpa using e3
                clear e3
                by_cases e4 : kd = 4
                · subst e4
                  go_wp2_with fail
                  generalize hWq : wr.alloc (.cells #[.int .i64 4, .int .i64 oi, .int .i64 on, .int .u8 (ob.toNat : Int), .slice Ak keep.length ck, .slice Ab bytes.length cb] 67) = WA at *
                  clear hWq
                  have CW := Lib.hid (stop_calls HD1.out on hoo.out.n.1 hoo.out.n.2)
                  refine CW.out.mono ?_
                  rintro e W4 ⟨rfl, hD4, hg⟩
                  have HB4 := Lib.hid (HB1.out.trans (Dev.below (Dev.of_own (sb := sb) (mb := mb) hg) HB1.out.size hlo.out))
                  have HD4 := Lib.hid hD4
                  clear hD4 hg
                  clear q0 q1 q2 q3 q4 q5 CW HB1 HD1 hO1
                  have HFIN := Lib.hid (show ∃ (k' : Nat) (D' : Dv), k' ≤ os.length ∧ k' ≤ 200 ∧ Value.int .i64 ((k : Int) + 1) = .int .i64 k' ∧ Safe D' m (blockL b) ∧ DvAt W4 w.heap.size d sb mb D' ∧ Below w.heap.size w W4 from
                    ⟨k + 1, _, by omega, by omega, by go_num, HSf.out.stop on, HD4.out, HB4.out⟩)
                  go_wp2
                  exact ⟨HFIN.out, by simp [intOf]; omega⟩
                · have e4b : (kd == 4) = false := by simpa using e4
                  clear e4
                  have HFIN := Lib.hid (show ∃ (k' : Nat) (D' : Dv), k' ≤ os.length ∧ k' ≤ 200 ∧ Value.int .i64 ((k : Int) + 1) = .int .i64 k' ∧ Safe D' m (blockL b) ∧ DvAt (wr.alloc (.cells #[.int .i64 kd, .int .i64 oi, .int .i64 on, .int .u8 (ob.toNat : Int), .slice Ak keep.length ck, .slice Ab bytes.length cb] 67)) w.heap.size d sb mb D' ∧ Below w.heap.size w (wr.alloc (.cells #[.int .i64 kd, .int .i64 oi, .int .i64 on, .int .u8 (ob.toNat : Int), .slice Ak keep.length ck, .slice Ab bytes.length cb] 67)) from
                    ⟨k + 1, D, by omega, by omega, by go_num, HSf.out, HD1.out, HB1.out⟩)
                  go_wp2
                  exact ⟨HFIN.out, by simp [intOf]; omega⟩
        · have hcs : (decide ((k : Int) < (os.length : Int)) = false ∧ ¬ k < os.length) ∨ (decide ((k : Int) < (os.length : Int)) = true ∧ k < os.length ∧ decide ((k : Int) < 200) = false) := by
            by_cases h : k < os.length
            · exact .inr ⟨by simp; omega, h, by simp; omega⟩
            · exact .inl ⟨by simp; omega, h⟩
          clear hlt
          have CW := Lib.hid (crash_calls HD0.out [] (.slice none 0 0) 0 0 (IntsAt.nil _ _ _) (fun i h1 h2 => by omega) m 64)
          have HE := Lib.hid (Safe.end_ HSf.out)
          rcases hcs with ⟨h1, h2⟩ | ⟨h1, h2, h3⟩
          all_goals
            go_wp2_with fail
            refine CW.out.mono ?_
            rintro e W6 ⟨rfl, hD6, hdv⟩
            have HB6 := Lib.hid (HB0.out.trans (Dev.below hdv HB0.out.size hlo.out))
            have CR := Lib.hid (read_good hD6 HE.out.1 m (by rw [HE.out.2.1]; exact hm8))
            rw [HE.out.2.2] at CR
            clear hD6 hdv CW
            go_wp2_with fail
            refine CR.out.mono ?_
            rintro e W9 ⟨⟨x, rfl, hx⟩, hb9⟩
            have HB9 := Lib.hid (HB6.out.trans (hb9.mono HB6.out.size))
            have HX := Lib.hid ((hx.bytes (blockL_len b)).wide (Nat.zero_le _) (Nat.le_refl _))
            obtain ⟨gx, rfl, -⟩ := hx
            clear hb9 CR HB6
            have hdr := (Below.refl W9.heap.size W9).drew
            have HBX := Lib.hid (fun V (hb : Below W9.heap.size W9 V) => string_of V (HX.out.below hb))
            have HCB := Lib.hid (fun V => block_calls b V)
            have hbl := blockL_len b
            clear HX HSf HE
            generalize blockL b = bl at *
            have HBL := Lib.hid hbl
            clear hbl
            go_wp2_with fail
            refine Pu.regionM [(0, false), (1, false), (2, false), (3, false), (4, false), (5, false), (6, true), (7, false), (8, false), (9, false), (10, false)] (fun V => Below W9.heap.size W9 V) hmx (by kernel_rfl) (by kernel_rfl) (by kernel_rfl) hdr rfl ?_
            simp only [Pu.named, List.filterMap_cons, List.filterMap_nil, List.getElem?_toArray, List.getElem?_cons_succ, List.getElem?_cons_zero, Option.map_some]
            iterate 6 (first
              | (refine Pu.WalkM.off (by rfl) ?_; simp only [Act.put, List.setIfInBounds_toArray, List.set_cons_succ, List.set_cons_zero])
              | (apply Pu.WalkM.on (by rfl)
                 · intro V hV
                   have hcx := HBX.out V hV
                   go_wp2_with fail
                   refine ⟨rfl, ?_, rfl⟩
                   try simp only [Act.put, List.setIfInBounds_toArray, List.set_cons_succ, List.set_cons_zero]
                   rfl
                 simp only [Act.put, List.setIfInBounds_toArray, List.set_cons_succ, List.set_cons_zero]))
            refine Pu.WalkM.make (by rfl) ?_
            intro V hV
            rw [hV]
            clear hV V
            go_wp2_with (go_at_call 39; refine (HCB.out W9.drew).mono ?_; rintro e WC ⟨⟨v3, rfl, hv3⟩, hbC⟩)
            have hBC := Lib.hid (hdr.trans (hbC.mono hdr.size))
            have hbl3 := BytesAt.of_own hv3
            obtain ⟨A3, c3, rfl, -⟩ := hbl3.form
            have HB3 := Lib.hid (fun V (hb : Below WC.heap.size WC V) => string_of V (hbl3.below hb))
            clear hv3 hbC hbl3
            refine ⟨rfl, .slice A3 bl.length c3, (fun V => Below WC.heap.size WC V), (fun V => V = WC), ?_, rfl, (fun V h => by rw [h]; exact Below.refl _ _), (.inr (fun V h => hBC.out.trans (h.mono hBC.out.size))), ?_⟩
            · try simp only [Act.put, List.setIfInBounds_toArray, List.set_cons_succ, List.set_cons_zero]
            try simp only [Act.put, List.setIfInBounds_toArray, List.set_cons_succ, List.set_cons_zero]
            iterate 4 (first
              | (refine Pu.WalkM.off (by rfl) ?_; simp only [Act.put, List.setIfInBounds_toArray, List.set_cons_succ, List.set_cons_zero])
              | (apply Pu.WalkM.on (by rfl)
                 · intro V hV
                   have hcz := HB3.out V hV
                   go_wp2_with fail
                   refine ⟨rfl, ?_, rfl⟩
                   try simp only [Act.put, List.setIfInBounds_toArray, List.set_cons_succ, List.set_cons_zero]
                   rfl
                 simp only [Act.put, List.setIfInBounds_toArray, List.set_cons_succ, List.set_cons_zero]))
            refine Pu.WalkM.nil ?_
            intro V hV
            rw [hV]
            clear hV V
            go_wp2
            go_ret
            exact ⟨rfl, HB9.out.trans (hBC.out.mono HB9.out.size)⟩
theorem keeps_int (i b : Int) (os : List OpV) (v : Value) (w : World) (hb : 0 ≤ b ∧ b ≤ 255) (hO : OpsAt w w.heap.size v os) (hok : ∀ o ∈ os, OkOp o) :
    Calls Try.prog 8 #[.int .i64 i, .int .u8 b, v] w fun e w' => e = .returned (.bool true) ∧ Below w.heap.size w w' := by
  rw [show b = ((UInt8.ofNat b.toNat).toNat : Int) by rw [toNat_ofNat (by omega)]; omega]
  exact keeps_law i _ os v w hO hok
end Se
end Go.Proofs.Yteiniahikhiadaa
