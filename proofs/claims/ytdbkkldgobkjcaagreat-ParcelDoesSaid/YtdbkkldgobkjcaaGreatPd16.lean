/-
  parcels: the law Does.
  parcels: the row Does.
-/
import Derived.Test.YtdbkkldgobkjcaaGreatPd14
import Derived.Test.YtdbkkldgobkjcaaGreatPd15
import Derived.Deep.DeepCutAuto
import Derived.Deep.CutBlock

set_option linter.unusedVariables false
set_option linter.unusedSimpArgs false
namespace Go.Proofs.YtdbkkldgobkjcaaGreat
open Go.RowKit Go.Maps
namespace Pc
open It Mv

theorem ok_docs {ds : List Row} {es : List DR} (he : es.map (·.d) = ds) (h : ∀ d ∈ ds, OkR d) : ∀ p ∈ es, OkR p.d := fun p hp => h p.d (by rw [← he]; exact List.mem_map.2 ⟨p, hp, rfl⟩)
theorem St.len {w : World} {b mb xb : Nat} {Z : Nat → Prop} {W : World} {ds : List Row} {es : List DR} (h : St w b mb xb Z W ds es) : es.length ≤ 1099511627776 := by
  have := h.pc.len
  rw [← h.map] at this
  simpa using this
theorem find_len (ds : List Row) (od : Int) : (idxR ds od = -1 ∧ findR ds od = none) ∨ ∃ (i : Nat) (h : i < ds.length), idxR ds od = i ∧ findR ds od = some ds[i] := by
  rcases @idx_findR ds od with h | ⟨i, hi, h1, h2, -⟩
  · exact .inl h
  · exact .inr ⟨i, hi, h1, h2⟩

set_option maxRecDepth 100000 in
set_option maxHeartbeats 40000000 in
theorem does_law (os : List OpV) (v : Value) (w : World) (hO : OpsAt w w.heap.size v os) (hok : ∀ o ∈ os, OkOp o) :
    Calls Tryz.prog 3 #[v] w fun e w' => e = .returned (.bool true) ∧ Below w.heap.size w w' := by
  obtain ⟨A, c, rfl, hc1, hc2⟩ := hO.form
  unfold maxLen at hc2
  have cL := Lib.hid lives_calls
  obtain ⟨i0, hi0, hz0⟩ := Option.map_eq_some_iff.1 item_info
  simp only [Prod.mk.injEq] at hz0
  obtain ⟨hz0, hz1, hz2⟩ := hz0
  go_enter Tryz.func3, Tryz.ntmps3
  go_wp2_with fail
  refine (new_calls w).mono ?_
  rintro e w1 ⟨⟨b, mb, rfl, hM⟩, h1⟩
  replace hM := hM (fun _ => False) (fun _ h => h.elim)
  have hal := (Below.refl w1.heap.size w1).alloc (Nat.le_refl _) (.cells #[.slice none 0 0] 28)
  have hx2 := Ob.new w1 28 #[.slice none 0 0]
  have hM2 : PcAt (w1.alloc (.cells #[.slice none 0 0] 28)) w.heap.size b mb (fun i => i = w1.heap.size ∨ False) [] := hM.more hal fun i hi => ⟨.inr (by simp at hi; omega), by simp at hi ⊢; omega⟩
  have hmbl := (hM.y (.inl rfl : Yof mb [] mb)).1
  have hB2 := h1.trans (hal.mono h1.size)
  have hD2 : DocP (w1.alloc (.cells #[.slice none 0 0] 28)) w1.heap.size w.heap.size (fun i => Yof mb [] i ∨ False) [] := by
    refine ⟨⟨_, hx2, World.ownsRow_nil _ _ _ _, fun g hg => by cases hg⟩, fun p hp => (by cases hp), ?_, ?_⟩
    · rintro ((h | ⟨d, hd, -⟩) | h)
      · omega
      · cases hd
      · exact h
    · rintro i ((h | ⟨d, hd, -⟩) | h)
      · simp; omega
      · cases hd
      · exact h.elim
  have hS2 : St w b mb w1.heap.size (fun _ => False) (w1.alloc (.cells #[.slice none 0 0] 28)) [] [] := ⟨hB2, hM2, hD2, rfl, h1.size⟩
  have hxb := h1.size
  clear hM hal hx2 h1 hM2 hD2 hB2 hmbl
  go_wp2_with fail
  refine (cL.out _).mono ?_
  rintro e w3 ⟨rfl, h3⟩
  have HS3 := Lib.hid (hS2.same h3)
  clear hS2 h3
  generalize w1.heap.size = xb at *
  go_wp2
  go_loopw [5] (fun i wr => ∃ (k : Nat) (ds : List Row) (es : List DR), k ≤ os.length ∧ i = .int .i64 k ∧ St w b mb xb (fun _ => False) wr ds es) (fun i _ => os.length - (intOf i).toNat)
  case atStart => exact ⟨0, [], [], by omega, rfl, HS3.out⟩
  case round =>
    obtain ⟨k, ds, es, hk, rfl, hS⟩ := hrel
    clear HS3
    by_cases hlt : k < os.length
    · obtain ⟨bo, po, lv, rfl, hbo, hIo, g0, g1, g2, g3⟩ := hO.at_ hlt
      have hB := hS.below
      replace g0 := (hB.cell (p := ⟨bo, po + k * 4, none⟩) hbo).trans g0
      replace g1 := (hB.cell (p := ⟨bo, po + k * 4 + 1, none⟩) hbo).trans g1
      replace g2 := (hB.cell (p := ⟨bo, po + k * 4 + 2, none⟩) hbo).trans g2
      replace g3 := (hB.cell (p := ⟨bo, po + k * 4 + 3, none⟩) hbo).trans g3
      have hoo := hok _ (List.getElem_mem hlt)
      generalize os[k] = o at *
      obtain ⟨kd, od, rg, l⟩ := o
      dsimp only at hIo g0 g1 g2 g3
      have hOK := Lib.hid hoo
      obtain ⟨Al, cl, rfl, hcl1, hcl2⟩ := hIo.form
      unfold maxLen at hcl2
      have hd : decide ((k : Int) < (os.length : Int)) = true := by simp; omega
      have hal1 := (Below.refl wr.heap.size wr).alloc (Nat.le_refl _) (.cells #[.int .i64 kd, .int .i64 od, .int .i64 rg, .slice Al l.length cl] 32)
      have HS := Lib.hid (hS.same hal1)
      have HI0 := Lib.hid (fun W (h : Below w.heap.size w W) => (hIo.mono h (Nat.le_refl _) : ItemsAt W 0 w.heap.size (.slice Al l.length cl) l))
      have hwb := hB.size
      have hO7 := Ob.new wr 32 #[.int .i64 kd, .int .i64 od, .int .i64 rg, .slice Al l.length cl]
      have hxlt := hS.doc.ob
      have HOTH := Lib.hid (fun (i : Nat) (hi : Yof mb ds i) => (hS.pc.y hi).1)
      have hxl : xb < wr.heap.size := by obtain ⟨v, hx, -⟩ := hS.doc.ob; exact hx.lt
      clear hB hS hoo hIo hal1 hxlt
      by_cases hlong : 100 < l.length
      · have hd3 : decide ((l.length : Int) > 100) = true := by simp; omega
        go_wp2
        exact ⟨⟨k + 1, ds, es, by omega, by go_num, HS.out⟩, by simp [intOf]; omega⟩
      · have hd3 : decide ((l.length : Int) > 100) = false := by simp; omega
        obtain ⟨q0, q1, q2, q3⟩ := hO7.four
        have hW0z : (wr.alloc (.cells #[.int .i64 kd, .int .i64 od, .int .i64 rg, .slice Al l.length cl] 32)).heap.size = wr.heap.size + 1 := by simp
        have hbE := (Below.refl (wr.alloc (.cells #[.int .i64 kd, .int .i64 od, .int .i64 rg, .slice Al l.length cl] 32)).heap.size (wr.alloc (.cells #[.int .i64 kd, .int .i64 od, .int .i64 rg, .slice Al l.length cl] 32))).alloc (Nat.le_refl _) (.cells #[] 37)
        have hownE : ((wr.alloc (.cells #[.int .i64 kd, .int .i64 od, .int .i64 rg, .slice Al l.length cl] 32)).alloc (.cells #[] 37)).ownsRow (wr.heap.size + 1) 37 2 (.slice (some ⟨wr.heap.size + 1, 0, none⟩) 0 0) 0 [] := by
          have := World.ownsRow_lit (e := 37) (size := 2) (base := wr.heap.size + 1) (wr.alloc (.cells #[.int .i64 kd, .int .i64 od, .int .i64 rg, .slice Al l.length cl] 32)) #[] 0 (by simp) (Nat.zero_le _) rfl
          rwa [hW0z] at this
        have hslE : ItemsAt ((wr.alloc (.cells #[.int .i64 kd, .int .i64 od, .int .i64 rg, .slice Al l.length cl] 32)).alloc (.cells #[] 37)) 0 w.heap.size (.slice Al l.length cl) l := HI0.out _ (HS.out.below.trans (hbE.mono HS.out.below.size))
        have HHB := Lib.hid hbE
        clear hbE
        go_upto_block 2 with (at_builtin; refine wpList_append_sl _ rfl (.tmp 36) (.tmp 38) _ rfl (wr.heap.size + 1) 37 i0 _ 2 24 Tryz.underlying30 hi0 hz0 hz1 hz2 rfl (by omega) (.slice (some ⟨wr.heap.size + 1, 0, none⟩) 0 0) 0 [] rfl hownE 0 w.heap.size _ l.length (itemCells l) rfl hslE (itemCells_one l) (by unfold maxLen; omega) (by omega) (by simp) ?_; intro v1 w1 hv1 hg1 hat1; have hv1' : w1.ownsRow (wr.heap.size + 1) 37 2 v1 l.length (itemCells l) := (by simpa using hv1); have hb1 : Below (wr.alloc (.cells #[.int .i64 kd, .int .i64 od, .int .i64 rg, .slice Al l.length cl] 32)).heap.size (wr.alloc (.cells #[.int .i64 kd, .int .i64 od, .int .i64 rg, .slice Al l.length cl] 32)) w1 := HHB.out.grown hg1 HHB.out.size (fun g hg => by have := (hownE.lt g hg).1; omega); obtain ⟨A1, c1, rfl, -⟩ := (ItemsAt.of_own hv1').form; have HV1 := Lib.hid hv1'; have HB1 := Lib.hid hb1; have hO71 := hO7.same (by have := hb1; rw [← hW0z] at *; exact this); clear hv1 hg1 hat1 hv1' hb1 hownE hslE q0 q1 q2 q3; obtain ⟨q0, q1, q2, q3⟩ := hO71.four)
        obtain ⟨Z, hZ⟩ : ∃ Z : Nat → Prop, Z = fun i => (Value.slice A1 l.length c1).ownBlock = some i := ⟨_, rfl⟩
        have HZ := Lib.hid hZ
        clear hZ
        have HZL := Lib.hid (fun (i : Nat) (hi : Z i) => show w.heap.size ≤ i by rw [HZ.out] at hi; have := (HV1.out.lt i hi).1; omega)
        have HS1 := Lib.hid (HS.out.more (Z' := Z) HB1.out (fun i hi => by rw [HZ.out] at hi; have := HV1.out.lt i hi; exact ⟨.inr (by rw [hW0z]; exact this.1), this.2⟩))
        have HYO := Lib.hid (fun (i : Nat) (hi : Yof mb ds i) => show i ≠ wr.heap.size ∧ ¬ Z i from ⟨by have := HOTH.out i hi; omega, fun hz => by rw [HZ.out] at hz; have := (HV1.out.lt i hz).1; have := HOTH.out i hi; omega⟩)
        have HV0 := Lib.hid (ItemsAt.of_own HV1.out)
        clear HS HHB HB1 hO7 hW0z q0 q1 q2 q3
        obtain ⟨wz, hwz⟩ : ∃ wz, wr.heap.size = wz := ⟨_, rfl⟩
        rw [hwz] at hO71 HV1 hxl HYO ⊢
        go_cut [8] (fun s8 W => s8 = .bool true ∧ ∃ ds2 es2, St w b mb xb Z W ds2 es2 ∧ Ob W wz 32 #[.int .i64 kd, .int .i64 od, .int .i64 rg, .slice Al l.length cl] ∧ W.ownsRow (wz + 1) 37 2 (.slice A1 l.length c1) l.length (itemCells l))
        case first =>
          by_cases e1 : kd = 1
          · subst e1
            have hdr := (Below.refl w1.heap.size w1).drew
            have hO7d : Ob w1.drew wz 32 #[.int .i64 1, .int .i64 od, .int .i64 rg, .slice Al l.length cl] := hO71
            have HSd := Lib.hid (HS1.out.same hdr)
            have hVd := row_below HV1.out hdr
            have CG := Lib.hid (open_calls od l (.slice A1 l.length c1) w.heap.size b mb _ ds w1.drew HSd.out.pc (toAt hVd) hOK.out.l hOK.out.od.1 hOK.out.od.2 HSd.out.below.size)
            have HVd := Lib.hid hVd
            clear hVd hdr
            go_wp2_with fail
            refine Pu.regionM [(0, false), (1, false), (2, false), (3, false), (5, false), (6, false), (7, false), (8, false), (9, false), (4, true), (10, true), (11, false), (12, false)] (fun V => Ob V wz 32 #[.int .i64 1, .int .i64 od, .int .i64 rg, .slice Al l.length cl]) hmx (by kernel_rfl) (by kernel_rfl) (by kernel_rfl) hO7d rfl ?_
            simp only [Pu.named, List.filterMap_cons, List.filterMap_nil, List.getElem?_toArray, List.getElem?_cons_succ, List.getElem?_cons_zero, Option.map_some]
            iterate 09 (apply Pu.WalkM.on (by rfl)
                        · intro V hOV
                          obtain ⟨y0, y1, y2, y3⟩ := hOV.four
                          go_wp2_with fail
                          refine ⟨rfl, ?_, rfl⟩
                          try simp only [Act.put, List.setIfInBounds_toArray, List.set_cons_succ, List.set_cons_zero]
                          rfl
                        simp only [Act.put, List.setIfInBounds_toArray, List.set_cons_succ, List.set_cons_zero])
            refine Pu.WalkM.make (by rfl) ?_
            intro V hV
            rw [hV]
            clear hV V
            go_wp2_with (go_at_call 9; refine CG.out.mono ?_; rintro e W2 ⟨⟨fb, rfl, hP2, hfb⟩, ho2⟩)
            obtain ⟨hB2, hD2, hL2⟩ := HSd.out.call ho2 hP2 (open_fb hfb) HZL.out
            have hO72 := ho2.ob hO7d (fun e => (HYO.out _ (.inl rfl)).1 e.symm) (fun d hd e => (HYO.out _ (.inr ⟨d, hd, rfl⟩)).1 e.symm)
            have hV2 := Kept.own (ho2.kept (Fr := fun i => i < w1.drew.heap.size ∧ ¬ Yof mb ds i) (fun i hi => hi)) HVd.out (fun g hg hl => ⟨hl, fun hy => (HYO.out g hy).2 (by rw [HZ.out]; exact hg)⟩)
            have hSO := HSd.out.pc.sorted
            have hLE := HSd.out.len
            have hOD := ok_docs HSd.out.map HSd.out.pc.ok
            rw [← HSd.out.map] at hSO
            have cR := refopen_calls od l (.slice Al l.length cl) fb xb w.heap.size _ es W2 hD2 hSO hB2.size hxb (hL2 _ _ (HI0.out _ hB2)) hOK.out.l hLE
            rw [HSd.out.map] at cR
            have CR := Lib.hid cR
            have HP2 := Lib.hid hP2
            have HB2 := Lib.hid hB2
            have HV2 := Lib.hid hV2
            clear cR hSO hLE hOD hD2 hL2 hP2 ho2 hB2 hV2
            generalize openOf ds od l fb = R at *
            obtain ⟨ds2, ac⟩ := R
            dsimp only at HP2 CR ⊢
            refine ⟨rfl, .int .i64 ac, _, (fun V => V = W2), ?_, rfl, (fun V h => by rw [h]; exact hO72), (.inr (fun _ h => h)), ?_⟩
            · simp only [Act.put, List.setIfInBounds_toArray, List.set_cons_succ, List.set_cons_zero]
            simp only [Act.put, List.setIfInBounds_toArray, List.set_cons_succ, List.set_cons_zero]
            refine Pu.WalkM.make (by rfl) ?_
            intro V hV
            rw [hV]
            clear hV V
            go_wp2_with (go_at_call 10; refine CR.out.mono ?_; rintro e W3 ⟨es2, rfl, he2, hD3, hg3⟩)
            have HS3 := Lib.hid (St.fin hxb HB2.out HP2.out hD3 hg3 he2)
            have hO73 := hO72.kept hg3 (fun e => by have := Option.some.inj e; omega)
            have HV3 := Lib.hid (ownsRow_far HV2.out hg3 (by omega))
            clear hD3 hg3 he2
            refine ⟨rfl, .int .i64 ac, _, (fun V => V = W3), ?_, rfl, (fun V h => by rw [h]; exact hO73), (.inr (fun _ h => h)), ?_⟩
            · simp only [Act.put, List.setIfInBounds_toArray, List.set_cons_succ, List.set_cons_zero]
            simp only [Act.put, List.setIfInBounds_toArray, List.set_cons_succ, List.set_cons_zero]
            iterate 02 (apply Pu.WalkM.on (by rfl)
                        · intro V hOV
                          go_wp2_with fail
                          refine ⟨rfl, ?_, rfl⟩
                          try simp only [Act.put, List.setIfInBounds_toArray, List.set_cons_succ, List.set_cons_zero]
                          rfl
                        simp only [Act.put, List.setIfInBounds_toArray, List.set_cons_succ, List.set_cons_zero])
            refine Pu.WalkM.nil ?_
            intro V hV
            rw [hV]
            clear hV V
            go_wp2_with fail
            go_meet
            exact ⟨rfl, ds2, es2, HS3.out, hO73, HV3.out⟩
          · have e1b : (kd == 1) = false := by simpa using e1
            by_cases e2 : kd = 2
            · subst e2
              clear e1 e1b
              have hdr := (Below.refl w1.heap.size w1).drew
              have hO7d : Ob w1.drew wz 32 #[.int .i64 2, .int .i64 od, .int .i64 rg, .slice Al l.length cl] := hO71
              have HSd := Lib.hid (HS1.out.same hdr)
              have hVd := row_below HV1.out hdr
              have CG := Lib.hid (ship_calls od rg l (.slice A1 l.length c1) w.heap.size b mb _ ds w1.drew HSd.out.pc (toAt hVd) hOK.out.l hOK.out.od.1 hOK.out.od.2)
              have HVd := Lib.hid hVd
              clear hVd hdr
              go_wp2_with fail
              refine Pu.regionM [(0, false), (1, false), (2, false), (3, false), (4, false), (5, false), (7, false), (8, false), (9, false), (10, false), (11, false), (12, false), (13, false), (6, true), (14, true), (15, false), (16, false)] (fun V => Ob V wz 32 #[.int .i64 2, .int .i64 od, .int .i64 rg, .slice Al l.length cl]) hmx (by kernel_rfl) (by kernel_rfl) (by kernel_rfl) hO7d rfl ?_
              simp only [Pu.named, List.filterMap_cons, List.filterMap_nil, List.getElem?_toArray, List.getElem?_cons_succ, List.getElem?_cons_zero, Option.map_some]
              iterate 13 (apply Pu.WalkM.on (by rfl)
                          · intro V hOV
                            obtain ⟨y0, y1, y2, y3⟩ := hOV.four
                            go_wp2_with fail
                            refine ⟨rfl, ?_, rfl⟩
                            try simp only [Act.put, List.setIfInBounds_toArray, List.set_cons_succ, List.set_cons_zero]
                            rfl
                          simp only [Act.put, List.setIfInBounds_toArray, List.set_cons_succ, List.set_cons_zero])
              refine Pu.WalkM.make (by rfl) ?_
              intro V hV
              rw [hV]
              clear hV V
              go_wp2_with (go_at_call 11; refine CG.out.mono ?_; rintro e W2 ⟨rfl, hP2, ho2⟩)
              obtain ⟨hB2, hD2, hL2⟩ := HSd.out.call ho2 hP2 ship_fb HZL.out
              have hO72 := ho2.ob hO7d (fun e => (HYO.out _ (.inl rfl)).1 e.symm) (fun d hd e => (HYO.out _ (.inr ⟨d, hd, rfl⟩)).1 e.symm)
              have hV2 := Kept.own (ho2.kept (Fr := fun i => i < w1.drew.heap.size ∧ ¬ Yof mb ds i) (fun i hi => hi)) HVd.out (fun g hg hl => ⟨hl, fun hy => (HYO.out g hy).2 (by rw [HZ.out]; exact hg)⟩)
              have hSO := HSd.out.pc.sorted
              have hLE := HSd.out.len
              have hOD := ok_docs HSd.out.map HSd.out.pc.ok
              rw [← HSd.out.map] at hSO
              have cR := refship_calls od rg l (.slice Al l.length cl) xb w.heap.size _ es W2 hD2 hSO hB2.size (hL2 _ _ (HI0.out _ hB2)) hOK.out.l hOD hLE
              rw [HSd.out.map] at cR
              have CR := Lib.hid cR
              have HP2 := Lib.hid hP2
              have HB2 := Lib.hid hB2
              have HV2 := Lib.hid hV2
              clear cR hSO hLE hOD hD2 hL2 hP2 ho2 hB2 hV2
              generalize shipOf ds od rg l = R at *
              obtain ⟨ds2, ac⟩ := R
              dsimp only at HP2 CR ⊢
              refine ⟨rfl, .int .i64 ac, _, (fun V => V = W2), ?_, rfl, (fun V h => by rw [h]; exact hO72), (.inr (fun _ h => h)), ?_⟩
              · simp only [Act.put, List.setIfInBounds_toArray, List.set_cons_succ, List.set_cons_zero]
              simp only [Act.put, List.setIfInBounds_toArray, List.set_cons_succ, List.set_cons_zero]
              refine Pu.WalkM.make (by rfl) ?_
              intro V hV
              rw [hV]
              clear hV V
              go_wp2_with (go_at_call 12; refine CR.out.mono ?_; rintro e W3 ⟨es2, rfl, he2, hD3, hg3⟩)
              have HS3 := Lib.hid (St.fin hxb HB2.out HP2.out hD3 hg3 he2)
              have hO73 := hO72.kept hg3 (fun e => by have := Option.some.inj e; omega)
              have HV3 := Lib.hid (ownsRow_far HV2.out hg3 (by omega))
              clear hD3 hg3 he2
              refine ⟨rfl, .int .i64 ac, _, (fun V => V = W3), ?_, rfl, (fun V h => by rw [h]; exact hO73), (.inr (fun _ h => h)), ?_⟩
              · simp only [Act.put, List.setIfInBounds_toArray, List.set_cons_succ, List.set_cons_zero]
              simp only [Act.put, List.setIfInBounds_toArray, List.set_cons_succ, List.set_cons_zero]
              iterate 02 (apply Pu.WalkM.on (by rfl)
                          · intro V hOV
                            go_wp2_with fail
                            refine ⟨rfl, ?_, rfl⟩
                            try simp only [Act.put, List.setIfInBounds_toArray, List.set_cons_succ, List.set_cons_zero]
                            rfl
                          simp only [Act.put, List.setIfInBounds_toArray, List.set_cons_succ, List.set_cons_zero])
              refine Pu.WalkM.nil ?_
              intro V hV
              rw [hV]
              clear hV V
              go_wp2_with fail
              go_meet
              exact ⟨rfl, ds2, es2, HS3.out, hO73, HV3.out⟩
            · have e2b : (kd == 2) = false := by simpa using e2
              by_cases e3 : kd = 3
              · subst e3
                clear e1 e1b e2 e2b
                have hdr := (Below.refl w1.heap.size w1).drew
                have hO7d : Ob w1.drew wz 32 #[.int .i64 3, .int .i64 od, .int .i64 rg, .slice Al l.length cl] := hO71
                have HSd := Lib.hid (HS1.out.same hdr)
                have hVd := row_below HV1.out hdr
                have CG := Lib.hid (back_calls od l (.slice A1 l.length c1) w.heap.size b mb _ ds w1.drew HSd.out.pc (toAt hVd) hOK.out.l hOK.out.od.1 hOK.out.od.2)
                have HVd := Lib.hid hVd
                clear hVd hdr
                go_wp2_with fail
                refine Pu.regionM [(0, false), (1, false), (2, false), (3, false), (5, false), (6, false), (7, false), (8, false), (9, false), (4, true), (10, true), (11, false), (12, false)] (fun V => Ob V wz 32 #[.int .i64 3, .int .i64 od, .int .i64 rg, .slice Al l.length cl]) hmx (by kernel_rfl) (by kernel_rfl) (by kernel_rfl) hO7d rfl ?_
                simp only [Pu.named, List.filterMap_cons, List.filterMap_nil, List.getElem?_toArray, List.getElem?_cons_succ, List.getElem?_cons_zero, Option.map_some]
                iterate 09 (apply Pu.WalkM.on (by rfl)
                            · intro V hOV
                              obtain ⟨y0, y1, y2, y3⟩ := hOV.four
                              go_wp2_with fail
                              refine ⟨rfl, ?_, rfl⟩
                              try simp only [Act.put, List.setIfInBounds_toArray, List.set_cons_succ, List.set_cons_zero]
                              rfl
                            simp only [Act.put, List.setIfInBounds_toArray, List.set_cons_succ, List.set_cons_zero])
                refine Pu.WalkM.make (by rfl) ?_
                intro V hV
                rw [hV]
                clear hV V
                go_wp2_with (go_at_call 13; refine CG.out.mono ?_; rintro e W2 ⟨rfl, hP2, ho2⟩)
                obtain ⟨hB2, hD2, hL2⟩ := HSd.out.call ho2 hP2 back_fb HZL.out
                have hO72 := ho2.ob hO7d (fun e => (HYO.out _ (.inl rfl)).1 e.symm) (fun d hd e => (HYO.out _ (.inr ⟨d, hd, rfl⟩)).1 e.symm)
                have hV2 := Kept.own (ho2.kept (Fr := fun i => i < w1.drew.heap.size ∧ ¬ Yof mb ds i) (fun i hi => hi)) HVd.out (fun g hg hl => ⟨hl, fun hy => (HYO.out g hy).2 (by rw [HZ.out]; exact hg)⟩)
                have hSO := HSd.out.pc.sorted
                have hLE := HSd.out.len
                have hOD := ok_docs HSd.out.map HSd.out.pc.ok
                rw [← HSd.out.map] at hSO
                have cR := refback_calls od l (.slice Al l.length cl) xb w.heap.size _ es W2 hD2 hSO hB2.size (hL2 _ _ (HI0.out _ hB2)) hOK.out.l hOD hLE
                rw [HSd.out.map] at cR
                have CR := Lib.hid cR
                have HP2 := Lib.hid hP2
                have HB2 := Lib.hid hB2
                have HV2 := Lib.hid hV2
                clear cR hSO hLE hOD hD2 hL2 hP2 ho2 hB2 hV2
                generalize backOf ds od l = R at *
                obtain ⟨ds2, ac⟩ := R
                dsimp only at HP2 CR ⊢
                refine ⟨rfl, .int .i64 ac, _, (fun V => V = W2), ?_, rfl, (fun V h => by rw [h]; exact hO72), (.inr (fun _ h => h)), ?_⟩
                · simp only [Act.put, List.setIfInBounds_toArray, List.set_cons_succ, List.set_cons_zero]
                simp only [Act.put, List.setIfInBounds_toArray, List.set_cons_succ, List.set_cons_zero]
                refine Pu.WalkM.make (by rfl) ?_
                intro V hV
                rw [hV]
                clear hV V
                go_wp2_with (go_at_call 14; refine CR.out.mono ?_; rintro e W3 ⟨es2, rfl, he2, hD3, hg3⟩)
                have HS3 := Lib.hid (St.fin hxb HB2.out HP2.out hD3 hg3 he2)
                have hO73 := hO72.kept hg3 (fun e => by have := Option.some.inj e; omega)
                have HV3 := Lib.hid (ownsRow_far HV2.out hg3 (by omega))
                clear hD3 hg3 he2
                refine ⟨rfl, .int .i64 ac, _, (fun V => V = W3), ?_, rfl, (fun V h => by rw [h]; exact hO73), (.inr (fun _ h => h)), ?_⟩
                · simp only [Act.put, List.setIfInBounds_toArray, List.set_cons_succ, List.set_cons_zero]
                simp only [Act.put, List.setIfInBounds_toArray, List.set_cons_succ, List.set_cons_zero]
                iterate 02 (apply Pu.WalkM.on (by rfl)
                            · intro V hOV
                              go_wp2_with fail
                              refine ⟨rfl, ?_, rfl⟩
                              try simp only [Act.put, List.setIfInBounds_toArray, List.set_cons_succ, List.set_cons_zero]
                              rfl
                            simp only [Act.put, List.setIfInBounds_toArray, List.set_cons_succ, List.set_cons_zero])
                refine Pu.WalkM.nil ?_
                intro V hV
                rw [hV]
                clear hV V
                go_wp2_with fail
                go_meet
                exact ⟨rfl, ds2, es2, HS3.out, hO73, HV3.out⟩
              · have e3b : (kd == 3) = false := by simpa using e3
                by_cases e4 : kd = 4
                · subst e4
                  clear e1 e1b e2 e2b e3 e3b
                  have hdr := (Below.refl w1.heap.size w1).drew
                  have hO7d : Ob w1.drew wz 32 #[.int .i64 4, .int .i64 od, .int .i64 rg, .slice Al l.length cl] := hO71
                  have HSd := Lib.hid (HS1.out.same hdr)
                  have hVd := row_below HV1.out hdr
                  have CG := Lib.hid (undo_calls od l (.slice A1 l.length c1) w.heap.size b mb _ ds w1.drew HSd.out.pc (toAt hVd) hOK.out.l hOK.out.od.1 hOK.out.od.2)
                  have HVd := Lib.hid hVd
                  clear hVd hdr
                  go_wp2_with fail
                  refine Pu.regionM [(0, false), (1, false), (2, false), (3, false), (5, false), (6, false), (7, false), (8, false), (9, false), (4, true), (10, true), (11, false), (12, false)] (fun V => Ob V wz 32 #[.int .i64 4, .int .i64 od, .int .i64 rg, .slice Al l.length cl]) hmx (by kernel_rfl) (by kernel_rfl) (by kernel_rfl) hO7d rfl ?_
                  simp only [Pu.named, List.filterMap_cons, List.filterMap_nil, List.getElem?_toArray, List.getElem?_cons_succ, List.getElem?_cons_zero, Option.map_some]
                  iterate 09 (apply Pu.WalkM.on (by rfl)
                              · intro V hOV
                                obtain ⟨y0, y1, y2, y3⟩ := hOV.four
                                go_wp2_with fail
                                refine ⟨rfl, ?_, rfl⟩
                                try simp only [Act.put, List.setIfInBounds_toArray, List.set_cons_succ, List.set_cons_zero]
                                rfl
                              simp only [Act.put, List.setIfInBounds_toArray, List.set_cons_succ, List.set_cons_zero])
                  refine Pu.WalkM.make (by rfl) ?_
                  intro V hV
                  rw [hV]
                  clear hV V
                  go_wp2_with (go_at_call 15; refine CG.out.mono ?_; rintro e W2 ⟨rfl, hP2, ho2⟩)
                  obtain ⟨hB2, hD2, hL2⟩ := HSd.out.call ho2 hP2 undo_fb HZL.out
                  have hO72 := ho2.ob hO7d (fun e => (HYO.out _ (.inl rfl)).1 e.symm) (fun d hd e => (HYO.out _ (.inr ⟨d, hd, rfl⟩)).1 e.symm)
                  have hV2 := Kept.own (ho2.kept (Fr := fun i => i < w1.drew.heap.size ∧ ¬ Yof mb ds i) (fun i hi => hi)) HVd.out (fun g hg hl => ⟨hl, fun hy => (HYO.out g hy).2 (by rw [HZ.out]; exact hg)⟩)
                  have hSO := HSd.out.pc.sorted
                  have hLE := HSd.out.len
                  have hOD := ok_docs HSd.out.map HSd.out.pc.ok
                  rw [← HSd.out.map] at hSO
                  have cR := refundo_calls od l (.slice Al l.length cl) xb w.heap.size _ es W2 hD2 hSO hB2.size (hL2 _ _ (HI0.out _ hB2)) hOK.out.l hOD hLE
                  rw [HSd.out.map] at cR
                  have CR := Lib.hid cR
                  have HP2 := Lib.hid hP2
                  have HB2 := Lib.hid hB2
                  have HV2 := Lib.hid hV2
                  clear cR hSO hLE hOD hD2 hL2 hP2 ho2 hB2 hV2
                  generalize undoOf ds od l = R at *
                  obtain ⟨ds2, ac⟩ := R
                  dsimp only at HP2 CR ⊢
                  refine ⟨rfl, .int .i64 ac, _, (fun V => V = W2), ?_, rfl, (fun V h => by rw [h]; exact hO72), (.inr (fun _ h => h)), ?_⟩
                  · simp only [Act.put, List.setIfInBounds_toArray, List.set_cons_succ, List.set_cons_zero]
                  simp only [Act.put, List.setIfInBounds_toArray, List.set_cons_succ, List.set_cons_zero]
                  refine Pu.WalkM.make (by rfl) ?_
                  intro V hV
                  rw [hV]
                  clear hV V
                  go_wp2_with (go_at_call 16; refine CR.out.mono ?_; rintro e W3 ⟨es2, rfl, he2, hD3, hg3⟩)
                  have HS3 := Lib.hid (St.fin hxb HB2.out HP2.out hD3 hg3 he2)
                  have hO73 := hO72.kept hg3 (fun e => by have := Option.some.inj e; omega)
                  have HV3 := Lib.hid (ownsRow_far HV2.out hg3 (by omega))
                  clear hD3 hg3 he2
                  refine ⟨rfl, .int .i64 ac, _, (fun V => V = W3), ?_, rfl, (fun V h => by rw [h]; exact hO73), (.inr (fun _ h => h)), ?_⟩
                  · simp only [Act.put, List.setIfInBounds_toArray, List.set_cons_succ, List.set_cons_zero]
                  simp only [Act.put, List.setIfInBounds_toArray, List.set_cons_succ, List.set_cons_zero]
                  iterate 02 (apply Pu.WalkM.on (by rfl)
                              · intro V hOV
                                go_wp2_with fail
                                refine ⟨rfl, ?_, rfl⟩
                                try simp only [Act.put, List.setIfInBounds_toArray, List.set_cons_succ, List.set_cons_zero]
                                rfl
                              simp only [Act.put, List.setIfInBounds_toArray, List.set_cons_succ, List.set_cons_zero])
                  refine Pu.WalkM.nil ?_
                  intro V hV
                  rw [hV]
                  clear hV V
                  go_wp2_with fail
                  go_meet
                  exact ⟨rfl, ds2, es2, HS3.out, hO73, HV3.out⟩
                · have e4b : (kd == 4) = false := by simpa using e4
                  clear e1 e2 e3 e4
                  go_wp2_with fail
                  go_meet
                  exact ⟨rfl, ds, es, HS1.out, hO71, HV1.out⟩
        case rest =>
          obtain ⟨rfl, ds2, es2, hS, hO8, hV⟩ := hcut
          have HSc := Lib.hid hS
          have HVc := Lib.hid hV
          clear hS hV HS1 HV1 hO71 HV0 HYO HOTH HI0 cL g0 g1 g2 g3
          have hlen100 : l.length ≤ 100 := by omega
          have hwz0 : w.heap.size ≤ wz := by omega
          go_wp2
          go_loopw [9] (fun i wr => ∃ (j : Nat) (l2 : List It.Item), j ≤ l.length ∧ i = .int .i64 j ∧ l2.length = l.length ∧ St w b mb xb Z wr ds2 es2 ∧ Ob wr wz 32 #[.int .i64 kd, .int .i64 od, .int .i64 rg, .slice Al l.length cl] ∧ wr.ownsRow (wz + 1) 37 2 (.slice A1 l.length c1) l.length (itemCells l2)) (fun i _ => l.length - (intOf i).toNat)
          case atStart => exact ⟨0, l, by omega, rfl, rfl, HSc.out, hO8, HVc.out⟩
          case round =>
            obtain ⟨j, l2, hj, rfl, hl2, hSj, hOj, hVj⟩ := hrel
            clear HSc HVc hO8
            by_cases hjl : j < l.length
            · have hd5 : decide ((j : Int) < (l.length : Int)) = true := by simp; omega
              obtain ⟨g, cap, eg, hgl, hgs⟩ := World.ownsRow.form hVj (show 0 < l.length by omega)
              cases eg
              have hj2 : j < l2.length := by omega
              have e4 := (hVj.cellAt (j * 2 + 1) (by omega)).trans (itemCells_get l2 j hj2).2
              have e5 := hVj.frozenAt (j * 2 + 1)
              have hset := itemCells_set l2 j hj2 (wrap64 (l2[j].2 + 1))
              obtain ⟨st1, st2⟩ := hVj.stored (j * 2 + 1) (.int .i64 (wrap64 (l2[j].2 + 1)))
              have HSn := Lib.hid (hSj.wrote st2 (by rw [HZ.out]; rfl) (by omega))
              have HOn := Lib.hid (hOj.kept st2 (fun e => by have := Option.some.inj e; omega))
              have HVn := Lib.hid (show _ from (by rw [← hset] at st1; exact st1))
              have HL2 := Lib.hid (show (l2.set j (l2[j].1, wrap64 (l2[j].2 + 1))).length = l.length by rw [List.length_set]; exact hl2)
              clear hSj hOj hVj st1 st2 hset
              generalize l2.set j (l2[j].1, wrap64 (l2[j].2 + 1)) = l3 at *
              generalize l2[j].2 = nn at *
              go_wp2
              exact ⟨⟨j + 1, l3, by omega, by go_num, HL2.out, HSn.out, HOn.out, HVn.out⟩, by simp [intOf]; omega⟩
            · obtain rfl : j = l.length := by omega
              have hd5 : decide ((l.length : Int) < (l.length : Int)) = false := by simp
              have HSt := Lib.hid (hSj.less (Z' := fun _ => False) (fun _ h => h.elim))
              clear hSj hVj
              have cP := Lib.hid (parcel_calls od w.heap.size b mb _ ds2 wr HSt.out.pc hOK.out.od.1 hOK.out.od.2)
              obtain ⟨q0, q1, q2, q3⟩ := hOj.four
              go_wp2_with fail
              refine cP.out.mono ?_
              rintro e W5 ⟨⟨u1, u2, u3, rfl, o1, o2, o3⟩, hb5⟩
              clear cP
              have i1 := toAt o1
              have i2 := toAt o2
              have i3 := toAt o3
              clear o1 o2 o3
              generalize hwd : (findR ds2 od).getD pcl0 = wd at *
              have HWD := Lib.hid hwd
              clear hwd
              obtain ⟨wod, wwa, wsh, wba, wfr, wfb⟩ := wd
              dsimp only at i1 i2 i3
              obtain ⟨B1, d1, rfl, -⟩ := i1.form
              obtain ⟨B2, d2, rfl, -⟩ := i2.form
              obtain ⟨B3, d3, rfl, -⟩ := i3.form
              dsimp only [pclV]
              have hal5 := (Below.refl W5.heap.size W5).alloc (Nat.le_refl _) (.cells #[.int .i64 wod, .slice B1 wwa.length d1, .slice B2 wsh.length d2, .slice B3 wba.length d3] 39)
              have hX := Ob.new W5 39 #[.int .i64 wod, .slice B1 wwa.length d1, .slice B2 wsh.length d2, .slice B3 wba.length d3]
              have hb6 := hb5.trans (hal5.mono hb5.size)
              have HS6 := Lib.hid (HSt.out.same hb6)
              have hO76 := (hOj.same hb5).alloc (.cells #[.int .i64 wod, .slice B1 wwa.length d1, .slice B2 wsh.length d2, .slice B3 wba.length d3] 39)
              have i16 := i1.mono hal5 hal5.size
              have i26 := i2.mono hal5 hal5.size
              have i36 := i3.mono hal5 hal5.size
              have I1 := Lib.hid i16
              have I2 := Lib.hid i26
              have I3 := Lib.hid i36
              have cFi := findP_calls od xb w.heap.size _ es2 _ HS6.out.doc
              rw [HS6.out.map] at cFi
              have CFI := Lib.hid cFi
              clear cFi hal5 hb5 hb6 i1 i2 i3 i16 i26 i36 q0 q1 q2 q3 HSt hOj
              obtain ⟨q0, q1, q2, q3⟩ := hO76.four
              go_wp2_with (go_at_call 18; refine CFI.out.mono ?_; rintro e W' ⟨rfl, rfl⟩)
              generalize W5.alloc (.cells #[.int .i64 wod, .slice B1 wwa.length d1, .slice B2 wsh.length d2, .slice B3 wba.length d3] 39) = W6 at *
              obtain ⟨vx, hxx, hvx, -⟩ := HS6.out.doc.ob
              obtain ⟨Ax, cx, rfl, hcx1, hcx2, -⟩ := (Sl.of_own hvx).at_
              unfold maxLen at hcx2
              have HVX := Lib.hid hvx
              have hw5 : W5.heap.size < W6.heap.size := hX.lt
              have hdr := (Below.refl W6.heap.size W6).drew
              have cWk := Lib.hid (fun V (hb : Below W6.heap.size W6 V) => walksP_calls w.heap.size b mb xb w.heap.size _ _ ds2 es2 V (HS6.out.same hb).pc (HS6.out.same hb).doc HS6.out.map)
              clear hvx q0 q1 q2 q3 CFI
              have HFIN := Lib.hid (fun V (hb : Below W6.heap.size W6 V) => show (∃ (k' : Nat) (ds' : List Row) (es' : List DR), k' ≤ os.length ∧ Value.int .i64 ((k : Int) + 1) = .int .i64 k' ∧ St w b mb xb (fun _ => False) V ds' es') from ⟨k + 1, ds2, es2, by omega, by go_num, HS6.out.same hb⟩)
              rcases find_len ds2 od with ⟨hi1, hi2⟩ | ⟨ix, hix, hi1, hi2⟩
              · as_aux_lemma =>
                  have hwd0 := HWD.out
                  rw [hi2] at hwd0
                  obtain ⟨rfl, rfl, rfl, rfl⟩ : wod = 0 ∧ wwa = [] ∧ wsh = [] ∧ wba = [] := by simp [pcl0] at hwd0; simp [hwd0]
                  simp only [hi1, hi2, Option.isSome_none, List.length_nil]
                  simp only [List.length_nil] at hX
                  have cS := Lib.hid (fun V (hb : Below W6.heap.size W6 V) => (by have := sameP_calls ⟨0, [], [], []⟩ ⟨0, [], [], []⟩ (.slice B1 0 d1) (.slice B2 0 d2) (.slice B3 0 d3) (.slice none 0 0) (.slice none 0 0) (.slice none 0 0) V (I1.out.mono hb hb.size) (I2.out.mono hb hb.size) (I3.out.mono hb hb.size) (ItemsAt.nil _ _ _) (ItemsAt.nil _ _ _) (ItemsAt.nil _ _ _); rw [(sameP_iff _ _).2 rfl] at this; simp only [pclV] at this; exact this : Calls Tryz.prog 19 #[.agg #[.int .i64 0, .slice B1 0 d1, .slice B2 0 d2, .slice B3 0 d3], .agg #[.int .i64 0, .slice none 0 0, .slice none 0 0, .slice none 0 0]] V fun e w' => e = .returned (.bool true) ∧ Below V.heap.size V w'))
                  clear hwd0 hi1 hi2
                  refine Pu.regionM [(0, false), (1, false), (2, false), (3, false), (4, false), (5, false), (6, false), (7, false), (8, false), (9, false), (10, false), (11, false), (12, false), (13, false), (14, true), (15, false), (16, false), (17, false), (18, false), (19, false), (20, false), (21, false), (22, false), (23, false), (24, false), (25, false), (26, false), (27, false), (28, false), (29, false), (30, false), (31, true), (32, false), (33, false), (34, false), (35, false), (36, false), (37, false), (38, true), (39, false), (40, false)] (fun V => Ob V wz 32 #[.int .i64 kd, .int .i64 od, .int .i64 rg, .slice Al l.length cl] ∧ Ob V W5.heap.size 39 #[.int .i64 0, .slice B1 0 d1, .slice B2 0 d2, .slice B3 0 d3] ∧ Ob V xb 28 #[.slice Ax es2.length cx] ∧ Below W6.heap.size W6 V) hmx (by kernel_rfl) (by kernel_rfl) (by kernel_rfl) ⟨hO76, hX, hxx, hdr⟩ rfl ?_
                  simp only [Pu.named, List.filterMap_cons, List.filterMap_nil, List.getElem?_toArray, List.getElem?_cons_succ, List.getElem?_cons_zero, Option.map_some]
                  iterate 14 (first
                               | (refine Pu.WalkM.off (by rfl) ?_; simp only [Act.put, List.setIfInBounds_toArray, List.set_cons_succ, List.set_cons_zero])
                               | (apply Pu.WalkM.on (by rfl)
                                  · rintro V ⟨k7, kx, kd', kb⟩
                                    obtain ⟨y0, y1, y2, y3⟩ := k7.four
                                    obtain ⟨z0, z1, z2, z3⟩ := kx.four
                                    have zx := kd'.cell (j := 0) (v := .slice Ax es2.length cx) rfl
                                    go_wp2_with fail
                                    refine ⟨rfl, ?_, rfl⟩
                                    try simp only [Act.put, List.setIfInBounds_toArray, List.set_cons_succ, List.set_cons_zero]
                                    rfl
                                  simp only [Act.put, List.setIfInBounds_toArray, List.set_cons_succ, List.set_cons_zero]))
                  refine Pu.WalkM.make (by rfl) ?_
                  intro V hV
                  rw [hV]
                  clear hV V
                  go_wp2_with (go_at_call 19; refine (cS.out _ hdr).mono ?_; rintro e V1 ⟨rfl, hb1⟩)
                  have hn1 := hdr.trans (hb1.mono hdr.size)
                  refine ⟨rfl, .bool true, _, (fun V => V = V1), ?_, rfl, (fun V h => by rw [h]; exact ⟨hO76.same hn1, hX.same hn1, hxx.same hn1, hn1⟩), (.inr (fun _ h => h)), ?_⟩
                  · simp only [Act.put, List.setIfInBounds_toArray, List.set_cons_succ, List.set_cons_zero]
                  simp only [Act.put, List.setIfInBounds_toArray, List.set_cons_succ, List.set_cons_zero]
                  iterate 16 (first
                               | (refine Pu.WalkM.off (by rfl) ?_; simp only [Act.put, List.setIfInBounds_toArray, List.set_cons_succ, List.set_cons_zero])
                               | (apply Pu.WalkM.on (by rfl)
                                  · rintro V ⟨k7, kx, kd', kb⟩
                                    obtain ⟨y0, y1, y2, y3⟩ := k7.four
                                    obtain ⟨z0, z1, z2, z3⟩ := kx.four
                                    have zx := kd'.cell (j := 0) (v := .slice Ax es2.length cx) rfl
                                    go_wp2_with fail
                                    refine ⟨rfl, ?_, rfl⟩
                                    try simp only [Act.put, List.setIfInBounds_toArray, List.set_cons_succ, List.set_cons_zero]
                                    rfl
                                  simp only [Act.put, List.setIfInBounds_toArray, List.set_cons_succ, List.set_cons_zero]))
                  refine Pu.WalkM.off (by rfl) ?_
                  simp only [Act.put, List.setIfInBounds_toArray, List.set_cons_succ, List.set_cons_zero]
                  iterate 06 (first
                               | (refine Pu.WalkM.off (by rfl) ?_; simp only [Act.put, List.setIfInBounds_toArray, List.set_cons_succ, List.set_cons_zero])
                               | (apply Pu.WalkM.on (by rfl)
                                  · rintro V ⟨k7, kx, kd', kb⟩
                                    obtain ⟨y0, y1, y2, y3⟩ := k7.four
                                    obtain ⟨z0, z1, z2, z3⟩ := kx.four
                                    have zx := kd'.cell (j := 0) (v := .slice Ax es2.length cx) rfl
                                    go_wp2_with fail
                                    refine ⟨rfl, ?_, rfl⟩
                                    try simp only [Act.put, List.setIfInBounds_toArray, List.set_cons_succ, List.set_cons_zero]
                                    rfl
                                  simp only [Act.put, List.setIfInBounds_toArray, List.set_cons_succ, List.set_cons_zero]))
                  refine Pu.WalkM.make (by rfl) ?_
                  intro V hV
                  rw [hV]
                  clear hV V
                  go_wp2_with (go_at_call 20; refine (cWk.out _ hn1).mono ?_; rintro e V2 ⟨rfl, hb2⟩)
                  have hn2 := hn1.trans (hb2.mono hn1.size)
                  refine ⟨rfl, .bool true, _, (fun V => V = V2), ?_, rfl, (fun V h => by rw [h]; exact ⟨hO76.same hn2, hX.same hn2, hxx.same hn2, hn2⟩), (.inr (fun _ h => h)), ?_⟩
                  · simp only [Act.put, List.setIfInBounds_toArray, List.set_cons_succ, List.set_cons_zero]
                  simp only [Act.put, List.setIfInBounds_toArray, List.set_cons_succ, List.set_cons_zero]
                  iterate 02 (first
                               | (refine Pu.WalkM.off (by rfl) ?_; simp only [Act.put, List.setIfInBounds_toArray, List.set_cons_succ, List.set_cons_zero])
                               | (apply Pu.WalkM.on (by rfl)
                                  · rintro V ⟨k7, kx, kd', kb⟩
                                    obtain ⟨y0, y1, y2, y3⟩ := k7.four
                                    obtain ⟨z0, z1, z2, z3⟩ := kx.four
                                    have zx := kd'.cell (j := 0) (v := .slice Ax es2.length cx) rfl
                                    go_wp2_with fail
                                    refine ⟨rfl, ?_, rfl⟩
                                    try simp only [Act.put, List.setIfInBounds_toArray, List.set_cons_succ, List.set_cons_zero]
                                    rfl
                                  simp only [Act.put, List.setIfInBounds_toArray, List.set_cons_succ, List.set_cons_zero]))
                  refine Pu.WalkM.nil ?_
                  intro V hV
                  rw [hV]
                  clear hV V
                  go_wp2_with fail
                  have hd2 := hn2.drew
                  refine Pu.regionM [(0, false), (1, false), (2, false), (3, false), (4, false), (5, false), (7, false), (8, false), (9, false), (10, false), (11, false), (12, false), (13, false), (14, false), (15, false), (16, false), (17, false), (18, false), (19, false), (20, false), (21, false), (22, false), (23, false), (24, false), (6, true), (25, true), (26, true), (27, false), (28, false)] (fun V => Ob V wz 32 #[.int .i64 kd, .int .i64 od, .int .i64 rg, .slice Al l.length cl] ∧ Ob V W5.heap.size 39 #[.int .i64 0, .slice B1 0 d1, .slice B2 0 d2, .slice B3 0 d3] ∧ Ob V xb 28 #[.slice Ax es2.length cx] ∧ Below W6.heap.size W6 V) hmx (by kernel_rfl) (by kernel_rfl) (by kernel_rfl) ⟨hO76.same hd2, hX.same hd2, hxx.same hd2, hd2⟩ rfl ?_
                  simp only [Pu.named, List.filterMap_cons, List.filterMap_nil, List.getElem?_toArray, List.getElem?_cons_succ, List.getElem?_cons_zero, Option.map_some]
                  iterate 24 (first
                               | (refine Pu.WalkM.off (by rfl) ?_; simp only [Act.put, List.setIfInBounds_toArray, List.set_cons_succ, List.set_cons_zero])
                               | (apply Pu.WalkM.on (by rfl)
                                  · rintro V ⟨k7, kx, kd', kb⟩
                                    obtain ⟨y0, y1, y2, y3⟩ := k7.four
                                    obtain ⟨z0, z1, z2, z3⟩ := kx.four
                                    have zx := kd'.cell (j := 0) (v := .slice Ax es2.length cx) rfl
                                    go_wp2_with fail
                                    refine ⟨rfl, ?_, rfl⟩
                                    try simp only [Act.put, List.setIfInBounds_toArray, List.set_cons_succ, List.set_cons_zero]
                                    rfl
                                  simp only [Act.put, List.setIfInBounds_toArray, List.set_cons_succ, List.set_cons_zero]))
                  refine Pu.WalkM.off (by rfl) ?_
                  simp only [Act.put, List.setIfInBounds_toArray, List.set_cons_succ, List.set_cons_zero]
                  refine Pu.WalkM.off (by rfl) ?_
                  simp only [Act.put, List.setIfInBounds_toArray, List.set_cons_succ, List.set_cons_zero]
                  refine Pu.WalkM.off (by rfl) ?_
                  simp only [Act.put, List.setIfInBounds_toArray, List.set_cons_succ, List.set_cons_zero]
                  iterate 02 (first
                               | (refine Pu.WalkM.off (by rfl) ?_; simp only [Act.put, List.setIfInBounds_toArray, List.set_cons_succ, List.set_cons_zero])
                               | (apply Pu.WalkM.on (by rfl)
                                  · rintro V ⟨k7, kx, kd', kb⟩
                                    obtain ⟨y0, y1, y2, y3⟩ := k7.four
                                    obtain ⟨z0, z1, z2, z3⟩ := kx.four
                                    have zx := kd'.cell (j := 0) (v := .slice Ax es2.length cx) rfl
                                    go_wp2_with fail
                                    refine ⟨rfl, ?_, rfl⟩
                                    try simp only [Act.put, List.setIfInBounds_toArray, List.set_cons_succ, List.set_cons_zero]
                                    rfl
                                  simp only [Act.put, List.setIfInBounds_toArray, List.set_cons_succ, List.set_cons_zero]))
                  refine Pu.WalkM.nil ?_
                  intro V hV
                  rw [hV]
                  clear hV V
                  have HF := Lib.hid (HFIN.out _ hd2)
                  go_wp2
                  exact ⟨HF.out, by simp [intOf]; omega⟩
              · as_aux_lemma =>
                  have hix2 : ix < es2.length := by have := hix; rw [← HS6.out.map] at this; simpa using this
                  have hdx : es2[ix].d = ⟨wod, wwa, wsh, wba, wfr, wfb⟩ := by
                    have h9 := HWD.out
                    rw [hi2, Option.getD_some] at h9
                    have h8 : ds2[ix]? = some es2[ix].d := by rw [← HS6.out.map, List.getElem?_map, List.getElem?_eq_getElem hix2]; rfl
                    rw [List.getElem?_eq_getElem hix, h9] at h8
                    exact (Option.some.inj h8).symm
                  have hokd := HS6.out.pc.ok ds2[ix] (List.getElem_mem hix)
                  have hLO : leftOf ds2 od = eachL restF wsh wba := by
                    have h9 := HWD.out
                    rw [hi2, Option.getD_some] at h9
                    unfold leftOf
                    rw [hi2, Option.getD_some]
                    rw [h9] at hokd ⊢
                    exact both_of hokd.sh hokd.ba
                  have hls : wsh.length ≤ 1000000 := by
                    have h9 := HWD.out
                    rw [hi2, Option.getD_some] at h9
                    rw [h9] at hokd
                    have := hokd.sh.len
                    dsimp only at this
                    omega
                  simp only [hi1, hi2, Option.isSome_some]
                  have hnst := HS6.out.doc.nest es2[ix] (List.getElem_mem hix2)
                  clear hi1 hi2 hokd
                  obtain ⟨rb, ro, rfl, -, hrb, hcs⟩ := docP_cell (Sl.of_own HVX.out) hix2
                  have c0 := hcs 0 _ rfl
                  have c1' := hcs 1 _ rfl
                  have c2 := hcs 2 _ rfl
                  have c3 := hcs 3 _ rfl
                  simp only [Nat.add_zero] at c0
                  clear hcs
                  generalize es2[ix] = pp at *
                  obtain ⟨dd, v1, v2, v3⟩ := pp
                  dsimp only at hdx hnst c0 c1' c2 c3
                  subst hdx
                  dsimp only at hnst c0 c1' c2 c3
                  obtain ⟨n1, n2, n3⟩ := hnst
                  obtain ⟨C1, e1, rfl, -⟩ := n1.items.form
                  obtain ⟨C2, e2, rfl, -⟩ := n2.items.form
                  obtain ⟨C3, e3, rfl, -⟩ := n3.items.form
                  have cS := Lib.hid (fun V (hb : Below W6.heap.size W6 V) => (by have := sameP_calls ⟨wod, wwa, wsh, wba⟩ ⟨wod, wwa, wsh, wba⟩ (.slice B1 wwa.length d1) (.slice B2 wsh.length d2) (.slice B3 wba.length d3) (.slice C1 wwa.length e1) (.slice C2 wsh.length e2) (.slice C3 wba.length e3) V (I1.out.mono hb hb.size) (I2.out.mono hb hb.size) (I3.out.mono hb hb.size) (n1.items.mono hb hb.size) (n2.items.mono hb hb.size) (n3.items.mono hb hb.size); rw [(sameP_iff _ _).2 rfl] at this; simp only [pclV] at this; exact this : Calls Tryz.prog 19 #[.agg #[.int .i64 wod, .slice B1 wwa.length d1, .slice B2 wsh.length d2, .slice B3 wba.length d3], .agg #[.int .i64 wod, .slice C1 wwa.length e1, .slice C2 wsh.length e2, .slice C3 wba.length e3]] V fun e w' => e = .returned (.bool true) ∧ Below V.heap.size V w'))
                  have cLf := Lib.hid (fun V (hb : Below W6.heap.size W6 V) => (by have := left_calls od w.heap.size b mb _ ds2 V (HS6.out.same hb).pc hOK.out.od.1 hOK.out.od.2; rw [hLO] at this; exact this : Calls Tryz.prog 22 #[.pointer (some ⟨b, 0, none⟩), .int .i64 od] V fun e w' => (∃ v, e = .returned v ∧ w'.ownsRow V.heap.size 37 2 v (eachL restF wsh wba).length (itemCells (eachL restF wsh wba))) ∧ Below V.heap.size V w'))
                  have cRs := Lib.hid (fun V (hb : Below W6.heap.size W6 V) => refrest_calls wsh wba (.slice C2 wsh.length e2) (.slice C3 wba.length e3) V (n2.items.mono hb hb.size) (n3.items.mono hb hb.size) hls)
                  generalize eachL restF wsh wba = UL at *
                  have l1 : (0 : Int) ≤ (ix : Int) := by omega
                  have l2 : (ix : Int) < (es2.length : Int) := by omega
                  have hdi1 : decide ((ix : Int) ≥ 0) = true := by simp
                  have hdi2 : decide ((ix : Int) < 0) = false := by simp
                  clear n1 n2 n3 hLO
                  refine Pu.regionM [(0, false), (1, false), (2, false), (3, false), (4, false), (5, false), (6, false), (7, false), (8, false), (9, false), (10, false), (11, false), (12, false), (13, false), (14, true), (15, false), (16, false), (17, false), (18, false), (19, false), (20, false), (21, false), (22, false), (23, false), (24, false), (25, false), (26, false), (27, false), (28, false), (29, false), (30, false), (31, true), (32, false), (33, false), (34, false), (35, false), (36, false), (37, false), (38, true), (39, false), (40, false)] (fun V => Ob V wz 32 #[.int .i64 kd, .int .i64 od, .int .i64 rg, .slice Al l.length cl] ∧ Ob V W5.heap.size 39 #[.int .i64 wod, .slice B1 wwa.length d1, .slice B2 wsh.length d2, .slice B3 wba.length d3] ∧ Ob V xb 28 #[.slice (some ⟨rb, ro, none⟩) es2.length cx] ∧ Below W6.heap.size W6 V) hmx (by kernel_rfl) (by kernel_rfl) (by kernel_rfl) ⟨hO76, hX, hxx, hdr⟩ rfl ?_
                  simp only [Pu.named, List.filterMap_cons, List.filterMap_nil, List.getElem?_toArray, List.getElem?_cons_succ, List.getElem?_cons_zero, Option.map_some]
                  iterate 14 (first
                               | (refine Pu.WalkM.off (by rfl) ?_; simp only [Act.put, List.setIfInBounds_toArray, List.set_cons_succ, List.set_cons_zero])
                               | (apply Pu.WalkM.on (by rfl)
                                  · rintro V ⟨k7, kx, kd', kb⟩
                                    obtain ⟨y0, y1, y2, y3⟩ := k7.four
                                    obtain ⟨z0, z1, z2, z3⟩ := kx.four
                                    have zx := kd'.cell (j := 0) (v := .slice (some ⟨rb, ro, none⟩) es2.length cx) rfl
                                    have r0 := (kb.cell (p := ⟨rb, ro + ix * 12, none⟩) hrb).trans c0
                                    have r1 := (kb.cell (p := ⟨rb, ro + ix * 12 + 1, none⟩) hrb).trans c1'
                                    have r2 := (kb.cell (p := ⟨rb, ro + ix * 12 + 2, none⟩) hrb).trans c2
                                    have r3 := (kb.cell (p := ⟨rb, ro + ix * 12 + 3, none⟩) hrb).trans c3
                                    go_wp2_with fail
                                    refine ⟨rfl, ?_, rfl⟩
                                    try simp only [Act.put, List.setIfInBounds_toArray, List.set_cons_succ, List.set_cons_zero]
                                    rfl
                                  simp only [Act.put, List.setIfInBounds_toArray, List.set_cons_succ, List.set_cons_zero]))
                  refine Pu.WalkM.off (by rfl) ?_
                  simp only [Act.put, List.setIfInBounds_toArray, List.set_cons_succ, List.set_cons_zero]
                  iterate 16 (first
                               | (refine Pu.WalkM.off (by rfl) ?_; simp only [Act.put, List.setIfInBounds_toArray, List.set_cons_succ, List.set_cons_zero])
                               | (apply Pu.WalkM.on (by rfl)
                                  · rintro V ⟨k7, kx, kd', kb⟩
                                    obtain ⟨y0, y1, y2, y3⟩ := k7.four
                                    obtain ⟨z0, z1, z2, z3⟩ := kx.four
                                    have zx := kd'.cell (j := 0) (v := .slice (some ⟨rb, ro, none⟩) es2.length cx) rfl
                                    have r0 := (kb.cell (p := ⟨rb, ro + ix * 12, none⟩) hrb).trans c0
                                    have r1 := (kb.cell (p := ⟨rb, ro + ix * 12 + 1, none⟩) hrb).trans c1'
                                    have r2 := (kb.cell (p := ⟨rb, ro + ix * 12 + 2, none⟩) hrb).trans c2
                                    have r3 := (kb.cell (p := ⟨rb, ro + ix * 12 + 3, none⟩) hrb).trans c3
                                    go_wp2_with fail
                                    refine ⟨rfl, ?_, rfl⟩
                                    try simp only [Act.put, List.setIfInBounds_toArray, List.set_cons_succ, List.set_cons_zero]
                                    rfl
                                  simp only [Act.put, List.setIfInBounds_toArray, List.set_cons_succ, List.set_cons_zero]))
                  refine Pu.WalkM.make (by rfl) ?_
                  intro V hV
                  rw [hV]
                  clear hV V
                  go_wp2_with (go_at_call 19; refine (cS.out _ hdr).mono ?_; rintro e V1 ⟨rfl, hb1⟩)
                  have hn1 := hdr.trans (hb1.mono hdr.size)
                  refine ⟨rfl, .bool true, _, (fun V => V = V1), ?_, rfl, (fun V h => by rw [h]; exact ⟨hO76.same hn1, hX.same hn1, hxx.same hn1, hn1⟩), (.inr (fun _ h => h)), ?_⟩
                  · simp only [Act.put, List.setIfInBounds_toArray, List.set_cons_succ, List.set_cons_zero]
                  simp only [Act.put, List.setIfInBounds_toArray, List.set_cons_succ, List.set_cons_zero]
                  iterate 06 (first
                               | (refine Pu.WalkM.off (by rfl) ?_; simp only [Act.put, List.setIfInBounds_toArray, List.set_cons_succ, List.set_cons_zero])
                               | (apply Pu.WalkM.on (by rfl)
                                  · rintro V ⟨k7, kx, kd', kb⟩
                                    obtain ⟨y0, y1, y2, y3⟩ := k7.four
                                    obtain ⟨z0, z1, z2, z3⟩ := kx.four
                                    have zx := kd'.cell (j := 0) (v := .slice (some ⟨rb, ro, none⟩) es2.length cx) rfl
                                    have r0 := (kb.cell (p := ⟨rb, ro + ix * 12, none⟩) hrb).trans c0
                                    have r1 := (kb.cell (p := ⟨rb, ro + ix * 12 + 1, none⟩) hrb).trans c1'
                                    have r2 := (kb.cell (p := ⟨rb, ro + ix * 12 + 2, none⟩) hrb).trans c2
                                    have r3 := (kb.cell (p := ⟨rb, ro + ix * 12 + 3, none⟩) hrb).trans c3
                                    go_wp2_with fail
                                    refine ⟨rfl, ?_, rfl⟩
                                    try simp only [Act.put, List.setIfInBounds_toArray, List.set_cons_succ, List.set_cons_zero]
                                    rfl
                                  simp only [Act.put, List.setIfInBounds_toArray, List.set_cons_succ, List.set_cons_zero]))
                  refine Pu.WalkM.make (by rfl) ?_
                  intro V hV
                  rw [hV]
                  clear hV V
                  go_wp2_with (go_at_call 20; refine (cWk.out _ hn1).mono ?_; rintro e V2 ⟨rfl, hb2⟩)
                  have hn2 := hn1.trans (hb2.mono hn1.size)
                  refine ⟨rfl, .bool true, _, (fun V => V = V2), ?_, rfl, (fun V h => by rw [h]; exact ⟨hO76.same hn2, hX.same hn2, hxx.same hn2, hn2⟩), (.inr (fun _ h => h)), ?_⟩
                  · simp only [Act.put, List.setIfInBounds_toArray, List.set_cons_succ, List.set_cons_zero]
                  simp only [Act.put, List.setIfInBounds_toArray, List.set_cons_succ, List.set_cons_zero]
                  iterate 02 (first
                               | (refine Pu.WalkM.off (by rfl) ?_; simp only [Act.put, List.setIfInBounds_toArray, List.set_cons_succ, List.set_cons_zero])
                               | (apply Pu.WalkM.on (by rfl)
                                  · rintro V ⟨k7, kx, kd', kb⟩
                                    obtain ⟨y0, y1, y2, y3⟩ := k7.four
                                    obtain ⟨z0, z1, z2, z3⟩ := kx.four
                                    have zx := kd'.cell (j := 0) (v := .slice (some ⟨rb, ro, none⟩) es2.length cx) rfl
                                    have r0 := (kb.cell (p := ⟨rb, ro + ix * 12, none⟩) hrb).trans c0
                                    have r1 := (kb.cell (p := ⟨rb, ro + ix * 12 + 1, none⟩) hrb).trans c1'
                                    have r2 := (kb.cell (p := ⟨rb, ro + ix * 12 + 2, none⟩) hrb).trans c2
                                    have r3 := (kb.cell (p := ⟨rb, ro + ix * 12 + 3, none⟩) hrb).trans c3
                                    go_wp2_with fail
                                    refine ⟨rfl, ?_, rfl⟩
                                    try simp only [Act.put, List.setIfInBounds_toArray, List.set_cons_succ, List.set_cons_zero]
                                    rfl
                                  simp only [Act.put, List.setIfInBounds_toArray, List.set_cons_succ, List.set_cons_zero]))
                  refine Pu.WalkM.nil ?_
                  intro V hV
                  rw [hV]
                  clear hV V
                  go_wp2_with fail
                  have hd2 := hn2.drew
                  refine Pu.regionM [(0, false), (1, false), (2, false), (3, false), (4, false), (5, false), (7, false), (8, false), (9, false), (10, false), (11, false), (12, false), (13, false), (14, false), (15, false), (16, false), (17, false), (18, false), (19, false), (20, false), (21, false), (22, false), (23, false), (24, false), (6, true), (25, true), (26, true), (27, false), (28, false)] (fun V => Ob V wz 32 #[.int .i64 kd, .int .i64 od, .int .i64 rg, .slice Al l.length cl] ∧ Ob V W5.heap.size 39 #[.int .i64 wod, .slice B1 wwa.length d1, .slice B2 wsh.length d2, .slice B3 wba.length d3] ∧ Ob V xb 28 #[.slice (some ⟨rb, ro, none⟩) es2.length cx] ∧ Below W6.heap.size W6 V) hmx (by kernel_rfl) (by kernel_rfl) (by kernel_rfl) ⟨hO76.same hd2, hX.same hd2, hxx.same hd2, hd2⟩ rfl ?_
                  simp only [Pu.named, List.filterMap_cons, List.filterMap_nil, List.getElem?_toArray, List.getElem?_cons_succ, List.getElem?_cons_zero, Option.map_some]
                  iterate 24 (first
                               | (refine Pu.WalkM.off (by rfl) ?_; simp only [Act.put, List.setIfInBounds_toArray, List.set_cons_succ, List.set_cons_zero])
                               | (apply Pu.WalkM.on (by rfl)
                                  · rintro V ⟨k7, kx, kd', kb⟩
                                    obtain ⟨y0, y1, y2, y3⟩ := k7.four
                                    obtain ⟨z0, z1, z2, z3⟩ := kx.four
                                    have zx := kd'.cell (j := 0) (v := .slice (some ⟨rb, ro, none⟩) es2.length cx) rfl
                                    have r0 := (kb.cell (p := ⟨rb, ro + ix * 12, none⟩) hrb).trans c0
                                    have r1 := (kb.cell (p := ⟨rb, ro + ix * 12 + 1, none⟩) hrb).trans c1'
                                    have r2 := (kb.cell (p := ⟨rb, ro + ix * 12 + 2, none⟩) hrb).trans c2
                                    have r3 := (kb.cell (p := ⟨rb, ro + ix * 12 + 3, none⟩) hrb).trans c3
                                    go_wp2_with fail
                                    refine ⟨rfl, ?_, rfl⟩
                                    try simp only [Act.put, List.setIfInBounds_toArray, List.set_cons_succ, List.set_cons_zero]
                                    rfl
                                  simp only [Act.put, List.setIfInBounds_toArray, List.set_cons_succ, List.set_cons_zero]))
                  refine Pu.WalkM.make (by rfl) ?_
                  intro V hV
                  rw [hV]
                  clear hV V
                  go_wp2_with (go_at_call 22; refine (cLf.out _ hd2).mono ?_; rintro e V3 ⟨⟨uv, rfl, huv⟩, hb3⟩)
                  have hn3 := hd2.trans (hb3.mono hd2.size)
                  have HUV := Lib.hid (toAt huv)
                  obtain ⟨Au, cu, rfl, -⟩ := (toAt huv).form
                  clear huv
                  refine ⟨rfl, .slice Au UL.length cu, _, (fun V => V = V3), ?_, rfl, (fun V h => by rw [h]; exact ⟨hO76.same hn3, hX.same hn3, hxx.same hn3, hn3⟩), (.inr (fun _ h => h)), ?_⟩
                  · simp only [Act.put, List.setIfInBounds_toArray, List.set_cons_succ, List.set_cons_zero]
                  simp only [Act.put, List.setIfInBounds_toArray, List.set_cons_succ, List.set_cons_zero]
                  refine Pu.WalkM.make (by rfl) ?_
                  intro V hV
                  rw [hV]
                  clear hV V
                  go_wp2_with (go_at_call 23; refine (cRs.out _ hn3).mono ?_; rintro e V4 ⟨⟨tv, rfl, htv⟩, hb4⟩)
                  have hn4 := hn3.trans (hb4.mono hn3.size)
                  have HTV := Lib.hid (toAt htv)
                  obtain ⟨At, ct, rfl, -⟩ := (toAt htv).form
                  clear htv
                  have cS2 := refsame_calls UL UL _ _ V4 (HUV.out.mono hb4 hb4.size) HTV.out
                  rw [decide_eq_true rfl] at cS2
                  have CS2 := Lib.hid cS2
                  clear cS2
                  refine ⟨rfl, .slice At UL.length ct, _, (fun V => V = V4), ?_, rfl, (fun V h => by rw [h]; exact ⟨hO76.same hn4, hX.same hn4, hxx.same hn4, hn4⟩), (.inr (fun _ h => h)), ?_⟩
                  · simp only [Act.put, List.setIfInBounds_toArray, List.set_cons_succ, List.set_cons_zero]
                  simp only [Act.put, List.setIfInBounds_toArray, List.set_cons_succ, List.set_cons_zero]
                  refine Pu.WalkM.make (by rfl) ?_
                  intro V hV
                  rw [hV]
                  clear hV V
                  go_wp2_with (go_at_call 21; refine CS2.out.mono ?_; rintro e V5 ⟨rfl, hb5⟩)
                  have hn5 := hn4.trans (hb5.mono hn4.size)
                  refine ⟨rfl, .bool true, _, (fun V => V = V5), ?_, rfl, (fun V h => by rw [h]; exact ⟨hO76.same hn5, hX.same hn5, hxx.same hn5, hn5⟩), (.inr (fun _ h => h)), ?_⟩
                  · simp only [Act.put, List.setIfInBounds_toArray, List.set_cons_succ, List.set_cons_zero]
                  simp only [Act.put, List.setIfInBounds_toArray, List.set_cons_succ, List.set_cons_zero]
                  iterate 02 (first
                               | (refine Pu.WalkM.off (by rfl) ?_; simp only [Act.put, List.setIfInBounds_toArray, List.set_cons_succ, List.set_cons_zero])
                               | (apply Pu.WalkM.on (by rfl)
                                  · rintro V ⟨k7, kx, kd', kb⟩
                                    obtain ⟨y0, y1, y2, y3⟩ := k7.four
                                    obtain ⟨z0, z1, z2, z3⟩ := kx.four
                                    have zx := kd'.cell (j := 0) (v := .slice (some ⟨rb, ro, none⟩) es2.length cx) rfl
                                    have r0 := (kb.cell (p := ⟨rb, ro + ix * 12, none⟩) hrb).trans c0
                                    have r1 := (kb.cell (p := ⟨rb, ro + ix * 12 + 1, none⟩) hrb).trans c1'
                                    have r2 := (kb.cell (p := ⟨rb, ro + ix * 12 + 2, none⟩) hrb).trans c2
                                    have r3 := (kb.cell (p := ⟨rb, ro + ix * 12 + 3, none⟩) hrb).trans c3
                                    go_wp2_with fail
                                    refine ⟨rfl, ?_, rfl⟩
                                    try simp only [Act.put, List.setIfInBounds_toArray, List.set_cons_succ, List.set_cons_zero]
                                    rfl
                                  simp only [Act.put, List.setIfInBounds_toArray, List.set_cons_succ, List.set_cons_zero]))
                  refine Pu.WalkM.nil ?_
                  intro V hV
                  rw [hV]
                  clear hV V
                  have HF := Lib.hid (HFIN.out _ hn5)
                  go_wp2
                  exact ⟨HF.out, by simp [intOf]; omega⟩
    · obtain rfl : k = os.length := by omega
      have hd : decide ((os.length : Int) < (os.length : Int)) = false := by simp
      have HB := Lib.hid hS.below
      clear hS
      go_wp2
      go_ret
      exact ⟨rfl, HB.out⟩
end Pc
end Go.Proofs.YtdbkkldgobkjcaaGreat

namespace Go.Proofs.YtdbkkldgobkjcaaGreat
open Go.ChangeShapes Go.WideShapes Go.ChangeAt Go.RowKit
namespace Pc
set_option maxRecDepth 100000 in
theorem parcelDoes_lifted (os : Os) (started : os.Started) (H : Type) (enc : TypeId × Value → H) :
    ReturnsInHanded {} Tryz.checked os 3 .any (Rows.parcelDoesSpec.pre6 enc Tryz.prog Tryz.f3 Rows.parcelDoesRow.domain false) (Rows.parcelDoesSpec.post enc Tryz.prog Tryz.f3 false true false false) := by
  refine returnsInHanded_of_change (C := Tryz.checked) own started (by kernel_rfl) Tryz.func3
    (ChangeSpec.witness6 (enc := enc) (C := Tryz.checked) false ⟨#[], #[.slice none 0 0], []⟩ 8 (by kernel_rfl) (by kernel_rfl) (by kernel_rfl) (by kernel_rfl)) ?_
  intro W base args ds gs before hval0 hW _ _
  have hval : ∀ (j : Nat) t v, Tryz.f3.params[j]? = some t → args[j]? = some v → Value.okWide Tryz.prog W .any base t v := hval0
  obtain ⟨p, q, hA0, hV, hps, hfz, hnd⟩ := id hW
  have hA : DataW.TrodAll enc Tryz.prog W 0 (fun _ => true) true Tryz.f3.params.toList args.toList ds p := hA0
  rw [Tryz.params3] at hA hval
  obtain ⟨v0, vs0, d0, ds0, p0, q0, hargs, rfl, rfl, h0, r0⟩ := trodAll_cons hA
  obtain ⟨rfl, rfl, rfl⟩ := trodAll_nil r0
  obtain rfl : args = #[v0] := by cases args; simp_all
  obtain ⟨rfl, rfl⟩ := trodVars_none hV
  obtain ⟨os, hos, fos, dos⟩ := Pc.open_ops (hval 0 22 v0 rfl rfl) h0
  refine (does_law os v0 W hos fos).mono fun e W' ⟨he, hb⟩ => ?_
  subst he
  exact ⟨_, rfl, law_post laidOut (by kernel_rfl) rfl Tryz.underlying4 rfl hW rfl hb⟩

theorem parcelDoes_holds : Rows.ParcelDoesSaid :=
  OpenClaim.holds_of_wide 3 Tryz.f3 rfl rfl rfl rfl rfl rfl rfl ⟨rfl, rfl, rfl, rfl, rfl⟩ rfl rfl rfl rfl rfl (by kernel_rfl) Tryz.func3 (by kernel_rfl)
    (of_decide_eq_true (by kernel_rfl)) (by unfold Func.isWrapper; first | (rw [if_pos (by decide +kernel)]; kernel_rfl) | (rw [if_neg (by decide +kernel)]; exact ⟨rfl, rfl⟩))
    (fun os started H enc _ => parcelDoes_lifted os started H enc)

end Pc
end Go.Proofs.YtdbkkldgobkjcaaGreat
