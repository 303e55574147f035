/-
  moves: the law Does.
-/
import Derived.Test.YtdbkkldgobkjcaaMvU
import Derived.Test.YtdbkkldgobkjcaaMvV
import Derived.Test.YtdbkkldgobkjcaaMvG
import Derived.Test.YtdbkkldgobkjcaaOpw
namespace Go.Proofs.Ytdbkkldgobkjcaa
open Go.RowKit Go.Maps
namespace Mv
open It

theorem MvAt.less {w : World} {b mb : Nat} {X X' : Nat → Prop} {ds : List Way} (h : MvAt w b mb X' ds) (hX : ∀ i, X i → X' i) : MvAt w b mb X ds := by
  obtain ⟨m, hm, hR⟩ := h.map
  exact ⟨h.ob, ⟨m, hm, hR.kept (w := w) (w' := w) (row := none) (only_of_below (Below.refl _ w) none) (by simp) (fun i _ hi => ⟨hi.1, hi.2.1, fun hx => hi.2.2 (hX i hx)⟩)⟩, h.ne, ⟨fun hx => h.nx.1 (hX _ hx), fun hx => h.nx.2 (hX _ hx)⟩, fun i hi => h.xl i (hX i hi), h.ok, h.len⟩
theorem MvAt.map_block {w : World} {b mb : Nat} {X : Nat → Prop} {ds : List Way} (h : MvAt w b mb X ds) : ∀ cu fz, w.heap[mb]? ≠ some (.cells cu 42 fz) := by
  obtain ⟨m, hm, -⟩ := h.map
  obtain ⟨es, clock, hb, -⟩ := hm
  intro cu fz e
  rw [hb] at e
  cases e
theorem MvAt.lts {w : World} {b mb : Nat} {X : Nat → Prop} {ds : List Way} (h : MvAt w b mb X ds) : b < w.heap.size ∧ mb < w.heap.size := by
  obtain ⟨m, hm, -⟩ := h.map
  exact ⟨h.ob.lt, hm.lt⟩
theorem DocAt.lt {w : World} {xb base : Nat} {es : List (Way × Value)} (h : DocAt w xb base es) : xb < w.heap.size := by
  obtain ⟨v, hx, -⟩ := h.ob
  exact hx.lt
theorem ok_docs {ds : List Way} {es : List (Way × Value)} (he : es.map (·.1) = ds) (h : ∀ d ∈ ds, OkW d) : ∀ p ∈ es, OkW p.1 := fun p hp => h p.1 (by rw [← he]; exact List.mem_map.2 ⟨p, hp, rfl⟩)

set_option maxRecDepth 100000 in
set_option maxHeartbeats 40000000 in
theorem does_law (os : List OpV) (v : Value) (w : World) (hO : OpsAt w w.heap.size v os) (hok : ∀ o ∈ os, OkOp o) :
    Calls Try.prog 3 #[v] w fun e w' => e = .returned (.bool true) ∧ Below w.heap.size w w' := by
  obtain ⟨A, c, rfl, hc1, hc2⟩ := hO.form
  unfold maxLen at hc2
  have cL := Lib.hid lives_calls
  obtain ⟨i0, hi0, hz0⟩ := Option.map_eq_some_iff.1 item_info
  simp only [Prod.mk.injEq] at hz0
  obtain ⟨hz0, hz1, hz2⟩ := hz0
  go_enter Try.func3, Try.ntmps3
  go_wp2_with fail
  refine (new_calls w).mono ?_
  rintro e w1 ⟨⟨b, mb, rfl, hlb, hlm, hM⟩, h1⟩
  replace hM := hM (fun _ => False) (fun _ h => h.elim)
  have hal := (Below.refl w1.heap.size w1).alloc (Nat.le_refl _) (.cells #[.slice none 0 0] 28)
  have hx2 := Ob.new w1 28 #[.slice none 0 0]
  have hM2 : MvAt (w1.alloc (.cells #[.slice none 0 0] 28)) b mb (fun i => i = w1.heap.size) [] := hM.more hal fun i hi => ⟨.inr (by omega), by simp; omega⟩
  have hB2 := h1.trans (hal.mono h1.size)
  have hD2 : DocAt (w1.alloc (.cells #[.slice none 0 0] 28)) w1.heap.size w.heap.size [] := ⟨⟨_, hx2, World.ownsRow_nil _ _ _ _⟩, fun p hp => (by cases hp), by simp⟩
  have hs1 := h1.size
  clear hM hal hx2 h1
  go_wp2_with fail
  refine (cL.out _).mono ?_
  rintro e w3 ⟨rfl, h3⟩
  have HM3 := Lib.hid (hM2.same h3)
  have HD3 := Lib.hid (hD2.same h3 hB2.size)
  have HB3 := Lib.hid (hB2.trans (h3.mono hB2.size))
  clear hM2 hD2 hB2 h3
  have hxb0 := hs1
  generalize w1.heap.size = xb at *
  have hxb : w.heap.size ≤ xb := hxb0
  go_wp2
  go_loopw [5] (fun i wr => ∃ (k : Nat) (ds : List Way) (es : List (Way × Value)), k ≤ os.length ∧ i = .int .i64 k ∧ Below w.heap.size w wr ∧ MvAt wr b mb (fun i => i = xb) ds ∧ DocAt wr xb w.heap.size es ∧ es.map (·.1) = ds) (fun i _ => os.length - (intOf i).toNat)
  case atStart => exact ⟨0, [], [], by omega, rfl, HB3.out, HM3.out, HD3.out, rfl⟩
  case round =>
    obtain ⟨k, ds, es, hk, rfl, hB, hM, hD, hE⟩ := hrel
    clear HM3 HD3 HB3
    by_cases hlt : k < os.length
    · obtain ⟨bo, po, lv, rfl, hbo, hIo, g0, g1, g2, g3, g4⟩ := hO.at_ hlt
      replace g0 := (hB.cell (p := ⟨bo, po + k * 5, none⟩) hbo).trans g0
      replace g1 := (hB.cell (p := ⟨bo, po + k * 5 + 1, none⟩) hbo).trans g1
      replace g2 := (hB.cell (p := ⟨bo, po + k * 5 + 2, none⟩) hbo).trans g2
      replace g3 := (hB.cell (p := ⟨bo, po + k * 5 + 3, none⟩) hbo).trans g3
      replace g4 := (hB.cell (p := ⟨bo, po + k * 5 + 4, none⟩) hbo).trans g4
      have hoo := hok _ (List.getElem_mem hlt)
      generalize os[k] = o at *
      obtain ⟨kd, mv, fr, to_, l⟩ := o
      dsimp only at hIo g0 g1 g2 g3 g4
      have hOK := Lib.hid hoo
      obtain ⟨Al, cl, rfl, hcl1, hcl2⟩ := hIo.form
      unfold maxLen at hcl2
      have hd : decide ((k : Int) < (os.length : Int)) = true := by simp; omega
      have hal1 := (Below.refl wr.heap.size wr).alloc (Nat.le_refl _) (.cells #[.int .i64 kd, .int .i64 mv, .int .i64 fr, .int .i64 to_, .slice Al l.length cl] 32)
      have HB := Lib.hid (hB.trans (hal1.mono hB.size))
      have HM := Lib.hid (hM.same hal1)
      have HD := Lib.hid (hD.same hal1 hB.size)
      have HE := Lib.hid hE
      have HI0 := Lib.hid (fun W (h : Below w.heap.size w W) => hIo.below h)
      have hlts := hM.lts
      have hxlt := hD.lt
      have hwb := hB.size
      have hO7 := Ob.new wr 32 #[.int .i64 kd, .int .i64 mv, .int .i64 fr, .int .i64 to_, .slice Al l.length cl]
      have hnx := hM.nx
      clear hB hM hD hE hoo hIo hal1
      by_cases hlong : 100 < l.length
      · have hd3 : decide ((l.length : Int) > 100) = true := by simp; omega
        go_wp2
        exact ⟨⟨k + 1, ds, es, by omega, by go_num, HB.out, HM.out, HD.out, HE.out⟩, by simp [intOf]; omega⟩
      · have hd3 : decide ((l.length : Int) > 100) = false := by simp; omega
        obtain ⟨q0, q1, q2, q3, q4⟩ := hO7.five
        by_cases e1 : kd = 1
        · subst e1
          have hW0z : (wr.alloc (.cells #[.int .i64 1, .int .i64 mv, .int .i64 fr, .int .i64 to_, .slice Al l.length cl] 32)).heap.size = wr.heap.size + 1 := by simp
          have hbE := (Below.refl (wr.alloc (.cells #[.int .i64 1, .int .i64 mv, .int .i64 fr, .int .i64 to_, .slice Al l.length cl] 32)).heap.size (wr.alloc (.cells #[.int .i64 1, .int .i64 mv, .int .i64 fr, .int .i64 to_, .slice Al l.length cl] 32))).alloc (Nat.le_refl _) (.cells #[] 36)
          have hownE : ((wr.alloc (.cells #[.int .i64 1, .int .i64 mv, .int .i64 fr, .int .i64 to_, .slice Al l.length cl] 32)).alloc (.cells #[] 36)).ownsRow (wr.heap.size + 1) 36 2 (.slice (some ⟨wr.heap.size + 1, 0, none⟩) 0 0) 0 [] := by
            have := World.ownsRow_lit (e := 36) (size := 2) (base := wr.heap.size + 1) (wr.alloc (.cells #[.int .i64 1, .int .i64 mv, .int .i64 fr, .int .i64 to_, .slice Al l.length cl] 32)) #[] 0 (by simp) (Nat.zero_le _) rfl
            rwa [hW0z] at this
          have hslE : ItemsAt ((wr.alloc (.cells #[.int .i64 1, .int .i64 mv, .int .i64 fr, .int .i64 to_, .slice Al l.length cl] 32)).alloc (.cells #[] 36)) 0 w.heap.size (.slice Al l.length cl) l := HI0.out _ (HB.out.trans (hbE.mono HB.out.size))
          have HSO := Lib.hid (show Sorted (es.map (·.1)) from by rw [HE.out]; exact HM.out.sorted)
          have HHB := Lib.hid hbE
          clear hbE
          go_wp2_with (at_builtin; refine wpList_append_sl _ rfl (.tmp 44) (.tmp 46) _ rfl (wr.heap.size + 1) 36 i0 _ 2 24 Try.underlying30 hi0 hz0 hz1 hz2 rfl (by omega) (.slice (some ⟨wr.heap.size + 1, 0, none⟩) 0 0) 0 [] rfl hownE 0 w.heap.size _ l.length (itemCells l) rfl hslE (itemCells_one l) (by unfold maxLen; omega) (by omega) (by simp) ?_; intro v1 w1 hv1 hg1 hat1; have hv1' : w1.ownsRow (wr.heap.size + 1) 36 2 v1 l.length (itemCells l) := (by simpa using hv1); have hb1 : Below (wr.alloc (.cells #[.int .i64 1, .int .i64 mv, .int .i64 fr, .int .i64 to_, .slice Al l.length cl] 32)).heap.size (wr.alloc (.cells #[.int .i64 1, .int .i64 mv, .int .i64 fr, .int .i64 to_, .slice Al l.length cl] 32)) w1 := HHB.out.grown hg1 HHB.out.size (fun g hg => by have := (hownE.lt g hg).1; omega); obtain ⟨A1, c1, rfl, -⟩ := (ItemsAt.of_own hv1').form; have HV1 := Lib.hid hv1'; have HB1 := Lib.hid hb1; have hO71 := hO7.same (by have := hb1; rw [← hW0z] at *; exact this); clear hv1 hg1 hat1 hv1' hb1 hownE hslE)
          have hdr1 := (Below.refl w1.heap.size w1).drew
          obtain ⟨X1, hX1⟩ : ∃ X1 : Nat → Prop, X1 = fun i => i = xb ∨ (Value.slice A1 l.length c1).ownBlock = some i := ⟨_, rfl⟩
          have HX1 := Lib.hid hX1
          clear hX1
          have hM1 : MvAt w1 b mb X1 ds := HM.out.more HB1.out fun i hi => by
            rw [HX1.out] at hi
            rcases hi with rfl | hi
            · exact ⟨.inl rfl, by have := HB1.out.size; omega⟩
            · have := HV1.out.lt i hi
              exact ⟨.inr (by omega), this.2⟩
          have hD1 := HD.out.same HB1.out HB.out.size
          have hBw1 := HB.out.trans (HB1.out.mono HB.out.size)
          have hO7d : Ob w1.drew wr.heap.size 32 #[.int .i64 1, .int .i64 mv, .int .i64 fr, .int .i64 to_, .slice Al l.length cl] := hO71
          have cG := go_calls mv fr to_ l (.slice A1 l.length c1) b mb X1 ds w1.drew (hM1.same hdr1) (toAt (row_below HV1.out hdr1)) hOK.out.l hOK.out.mv.1 hOK.out.mv.2
          generalize hgR : goOf ds mv fr to_ l = R at *
          obtain ⟨ds2, ac⟩ := R
          have CG := Lib.hid cG
          have HGR := Lib.hid hgR
          clear cG hgR
          try clear q0 q1 q2 q3 q4
          refine Pu.regionM [(0, false), (1, false), (2, false), (3, false), (4, false), (5, false), (6, false), (7, false), (9, false), (10, false), (11, false), (12, false), (13, false), (14, false), (15, false), (16, false), (17, false), (8, true), (18, true), (19, false), (20, false)] (fun V => Ob V wr.heap.size 32 #[.int .i64 1, .int .i64 mv, .int .i64 fr, .int .i64 to_, .slice Al l.length cl]) hmx (by kernel_rfl) (by kernel_rfl) (by kernel_rfl) hO7d rfl ?_
          simp only [Pu.named, List.filterMap_cons, List.filterMap_nil, List.getElem?_toArray, List.getElem?_cons_succ, List.getElem?_cons_zero, Option.map_some]
          iterate 17 (apply Pu.WalkM.on (by rfl)
                      · intro V hOV
                        obtain ⟨y0, y1, y2, y3, y4⟩ := hOV.five
                        go_wp2_with fail
                        refine ⟨rfl, ?_, rfl⟩
                        try simp only [Act.put, List.setIfInBounds_toArray, List.set_cons_succ, List.set_cons_zero]
                        rfl
                      simp only [Act.put, List.setIfInBounds_toArray, List.set_cons_succ, List.set_cons_zero])
          refine Pu.WalkM.make (by rfl) ?_
          intro V hV
          rw [hV]
          clear hV V
          go_wp2_with (go_at_call 12; refine CG.out.mono ?_; rintro e W2 ⟨rfl, hM2, hg2⟩)
          have hO72 := hO7d.kept hg2 (fun e => by have := Option.some.inj e; omega)
          have hB2 := below_far hBw1.drew hg2 (Nat.le_refl _) hlm
          have hV2 := ownsRow_far (row_below HV1.out hdr1) hg2 (by omega)
          have hD2 := (hD1.same hdr1 hBw1.size).kept hg2 (fun e => hnx.2 e.symm) hBw1.size hlm (hM1.same hdr1).map_block
          have cR := refgo_calls mv fr to_ l (.slice Al l.length cl) xb w.heap.size es W2 hD2 HSO.out hB2.size hxb (HI0.out _ hB2) hOK.out.l
          rw [HE.out, HGR.out] at cR
          have CR := Lib.hid cR
          clear cR
          refine ⟨rfl, .int .i64 ac, _, (fun V => V = W2), ?_, rfl, (fun V h => by rw [h]; exact hO72), (.inr (fun _ h => h)), ?_⟩
          · simp only [Act.put, List.setIfInBounds_toArray, List.set_cons_succ, List.set_cons_zero]
          simp only [Act.put, List.setIfInBounds_toArray, List.set_cons_succ, List.set_cons_zero]
          refine Pu.WalkM.make (by rfl) ?_
          intro V hV
          rw [hV]
          clear hV V
          go_wp2_with (go_at_call 13; refine CR.out.mono ?_; rintro e W3 ⟨es2, rfl, hes2, hD3, hg3⟩)
          have hO73 := hO72.kept hg3 (fun e => by have := Option.some.inj e; omega)
          have hB3 := below_far hB2 hg3 (Nat.le_refl _) hxb
          have hM3 := hM2.kept hg3 (fun g e => by cases e; rw [HX1.out]; exact .inl (.inl rfl))
          have hV3 := ownsRow_far hV2 hg3 (by omega)
          refine ⟨rfl, .int .i64 ac, _, (fun V => V = W3), ?_, rfl, (fun V h => by rw [h]; exact hO73), (.inr (fun _ h => h)), ?_⟩
          · simp only [Act.put, List.setIfInBounds_toArray, List.set_cons_succ, List.set_cons_zero]
          simp only [Act.put, List.setIfInBounds_toArray, List.set_cons_succ, List.set_cons_zero]
          iterate 02 (apply Pu.WalkM.on (by rfl)
                      · intro V hOV
                        go_wp2_with fail
                        refine ⟨rfl, ?_, rfl⟩
                        try simp only [Act.put, List.setIfInBounds_toArray, List.set_cons_succ, List.set_cons_zero]
                        rfl
                      simp only [Act.put, List.setIfInBounds_toArray, List.set_cons_succ, List.set_cons_zero])
          refine Pu.WalkM.nil ?_
          intro V hV
          rw [hV]
          clear hV V
          have HB3 := Lib.hid hB3
          have HM3 := Lib.hid hM3
          have HD3 := Lib.hid hD3
          have HES := Lib.hid hes2
          have HV3 := Lib.hid hV3
          have hlen100 : l.length ≤ 100 := by omega
          clear hB3 hM3 hD3 hes2 hV3 hg2 hg3 hO72 hO7d hO7 hO71 hM1 hM2 hD1 hD2 hB2 hBw1 hV2 HM HD HE HB HSO CG CR hdr1 HHB HV1 HB1 HGR
          go_wp2
          generalize wr.heap.size = wz at *
          go_loopw [9] (fun i wr => ∃ (j : Nat) (l2 : List It.Item), j ≤ l.length ∧ i = .int .i64 j ∧ l2.length = l.length ∧ Below w.heap.size w wr ∧ MvAt wr b mb X1 ds2 ∧ DocAt wr xb w.heap.size es2 ∧ Ob wr wz 32 #[.int .i64 1, .int .i64 mv, .int .i64 fr, .int .i64 to_, .slice Al l.length cl] ∧ wr.ownsRow (wz + 1) 36 2 (.slice A1 l.length c1) l.length (itemCells l2)) (fun i _ => l.length - (intOf i).toNat)
          case atStart => exact ⟨0, l, by omega, rfl, rfl, HB3.out, HM3.out, HD3.out, hO73, HV3.out⟩
          case round =>
            obtain ⟨j, l2, hj, rfl, hl2, hBj, hMj, hDj, hOj, hVj⟩ := hrel
            clear HB3 HM3 HD3 hO73 HV3
            by_cases hjl : j < l.length
            · have hd5 : decide ((j : Int) < (l.length : Int)) = true := by simp; omega
              obtain ⟨g, cap, eg, hgl, hgs⟩ := World.ownsRow.form hVj (show 0 < l.length by omega)
              cases eg
              have hj2 : j < l2.length := by omega
              have e4 := (hVj.cellAt (j * 2 + 1) (by omega)).trans (itemCells_get l2 j hj2).2
              have e5 := hVj.frozenAt (j * 2 + 1)
              have hset := itemCells_set l2 j hj2 (wrap64 (l2[j].2 + 1))
              obtain ⟨st1, st2⟩ := hVj.stored (j * 2 + 1) (.int .i64 (wrap64 (l2[j].2 + 1)))
              have hitem : ∀ cu fz, wr.heap[g]? ≠ some (.cells cu 42 fz) := by
                rcases hVj.2 with ⟨e6, _⟩ | ⟨g', cap', cur', e6, _, hg', _⟩
                · cases e6
                · cases e6
                  intro cu fz e7
                  rw [hg'] at e7
                  simp at e7
              have HBn := Lib.hid (hBj.grown st2 hBj.size (fun k e => by cases e; omega))
              have HMn := Lib.hid (hMj.kept st2 (fun k e => by cases e; rw [HX1.out]; exact .inl (.inr rfl)))
              have HDn := Lib.hid (hDj.kept st2 (by omega) hBj.size (by omega) hitem)
              have HOn := Lib.hid (hOj.kept st2 (fun e => by have := Option.some.inj e; omega))
              have HVn := Lib.hid (show _ from (by rw [← hset] at st1; exact st1))
              have HL2 := Lib.hid (show (l2.set j (l2[j].1, wrap64 (l2[j].2 + 1))).length = l.length by rw [List.length_set]; exact hl2)
              clear hBj hMj hDj hOj hVj st1 st2 hset hitem
              generalize l2.set j (l2[j].1, wrap64 (l2[j].2 + 1)) = l3 at *
              generalize l2[j].2 = nn at *
              go_wp2
              exact ⟨⟨j + 1, l3, by omega, by go_num, HL2.out, HBn.out, HMn.out, HDn.out, HOn.out, HVn.out⟩, by simp [intOf]; omega⟩
            · obtain rfl : j = l.length := by omega
              have hd5 : decide ((l.length : Int) < (l.length : Int)) = false := by simp
              have HBt := Lib.hid hBj
              have HMt := Lib.hid (hMj.less (X := fun i => i = xb) (fun i hi => by rw [HX1.out]; exact .inl hi))
              have HDt := Lib.hid hDj
              have HEt := Lib.hid HES.out
              clear hBj hMj hDj hVj HES
              have cMv := Lib.hid (move_calls mv b mb _ ds2 wr HMt.out hOK.out.mv.1 hOK.out.mv.2)
              have HOKD := Lib.hid HMt.out.ok
              try clear q0 q1 q2 q3 q4
              obtain ⟨q0, q1, q2, q3, q4⟩ := hOj.five
              go_wp2_with fail
              refine cMv.out.mono ?_
              rintro e W5 ⟨⟨wv, rfl, hwv⟩, hb5⟩
              clear cMv
              have hIw := toAt hwv
              have HFD := Lib.hid (@idx_find ds2 mv)
              have hidx := idx_find' ds2 mv
              generalize hwd : (findW ds2 mv).getD way0 = wd at *
              have HWD := Lib.hid hwd
              clear hwd hwv
              obtain ⟨wmv, wfr, wto, wl, wcame⟩ := wd
              obtain ⟨Aw, cw, rfl, -⟩ := hIw.form
              dsimp only [wayV] at hIw ⊢
              have hal5 := (Below.refl W5.heap.size W5).alloc (Nat.le_refl _) (.cells #[.int .i64 wmv, .int .i64 wfr, .int .i64 wto, .slice Aw wl.length cw, .bool wcame] 42)
              have hX := Ob.new W5 42 #[.int .i64 wmv, .int .i64 wfr, .int .i64 wto, .slice Aw wl.length cw, .bool wcame]
              have hb6 := hb5.trans (hal5.mono hb5.size)
              have HB6 := Lib.hid (HBt.out.trans (hb6.mono HBt.out.size))
              have HM6 := Lib.hid (HMt.out.same hb6)
              have HD6 := Lib.hid (HDt.out.same hb6 HBt.out.size)
              have hO76 := (hOj.same hb5).alloc (.cells #[.int .i64 wmv, .int .i64 wfr, .int .i64 wto, .slice Aw wl.length cw, .bool wcame] 42)
              have hIw6 := hIw.mono hal5 hal5.size
              have cFi := find_calls mv xb w.heap.size es2 _ HD6.out
              rw [HEt.out] at cFi
              have CFI := Lib.hid cFi
              try clear q0 q1 q2 q3 q4
              clear cFi hIw hal5 hb5 hb6
              obtain ⟨q0, q1, q2, q3, q4⟩ := hO76.five
              go_wp2_with (go_at_call 20; refine CFI.out.mono ?_; rintro e W' ⟨rfl, rfl⟩)
              generalize W5.alloc (.cells #[.int .i64 wmv, .int .i64 wfr, .int .i64 wto, .slice Aw wl.length cw, .bool wcame] 42) = W6 at *
              obtain ⟨vx, hxx, hvx⟩ := HD6.out.ob
              obtain ⟨Ax, cx, rfl, hcx1, hcx2, -⟩ := (Sl.of_own hvx).at_
              unfold maxLen at hcx2
              have HVX := Lib.hid hvx
              have hw5 : W5.heap.size < W6.heap.size := hX.lt
              have hdr := (Below.refl W6.heap.size W6).drew
              have cU := Lib.hid (fun V (hb : Below W6.heap.size W6 V) => under_calls fr to_ b mb _ ds2 V (HM6.out.same hb))
              have cR := (fun V (hb : Below W6.heap.size W6 V) => refunder_calls fr to_ xb w.heap.size es2 V (HD6.out.same hb HB6.out.size) (Nat.le_trans HB6.out.size hb.size) (ok_docs HEt.out HOKD.out))
              rw [HEt.out] at cR
              have CR := Lib.hid cR
              have cWk := Lib.hid (fun V (hb : Below W6.heap.size W6 V) => walks_calls b mb xb w.heap.size _ ds2 es2 V (HM6.out.same hb) (HD6.out.same hb HB6.out.size) HEt.out (Nat.le_trans HB6.out.size hb.size))
              generalize underOf fr to_ ds2 = UL at *
              clear cR hvx q0 q1 q2 q3 q4 CFI
              have HFIN := Lib.hid (fun V (hb : Below W6.heap.size W6 V) => show (∃ (k' : Nat) (ds' : List Way) (es' : List (Way × Value)), k' ≤ os.length ∧ Value.int .i64 ((k : Int) + 1) = .int .i64 k' ∧ Below w.heap.size w V ∧ MvAt V b mb (fun i => i = xb) ds' ∧ DocAt V xb w.heap.size es' ∧ es'.map (·.1) = ds') from ⟨k + 1, ds2, es2, by omega, by go_num, HB6.out.trans (hb.mono HB6.out.size), HM6.out.same hb, HD6.out.same hb HB6.out.size, HEt.out⟩)
              rcases HFD.out with ⟨hi1, hi2⟩ | ⟨ix, hix, hi1, hi2, -⟩
              · as_aux_lemma =>
                  have hwd0 := HWD.out
                  rw [hi2] at hwd0
                  obtain ⟨rfl, rfl, rfl, rfl, rfl⟩ : wmv = 0 ∧ wfr = 0 ∧ wto = 0 ∧ wl = [] ∧ wcame = false := by simpa [way0, Eq.comm] using hwd0
                  simp only [hi1, hi2, Option.isSome_none, List.length_nil]
                  simp only [List.length_nil] at hX
                  have cS := Lib.hid (fun V (hb : Below W6.heap.size W6 V) => (by have := sameW_calls way0 way0 (.slice Aw 0 cw) (.slice none 0 0) V (hIw6.mono hb hb.size) (ItemsAt.nil _ _ _); rw [(sameW_iff _ _).2 rfl] at this; simp only [wayV, way0] at this; exact this : Calls Try.prog 21 #[.agg #[.int .i64 0, .int .i64 0, .int .i64 0, .slice Aw 0 cw, .bool false], .agg #[.int .i64 0, .int .i64 0, .int .i64 0, .slice none 0 0, .bool false]] V fun e w' => e = .returned (.bool true) ∧ Below V.heap.size V w'))
                  clear hwd0 hi1 hi2 hidx
                  refine Pu.regionM [(0, false), (1, false), (2, false), (3, false), (4, false), (5, false), (6, false), (7, false), (8, false), (9, false), (10, false), (11, false), (12, false), (13, false), (14, false), (15, false), (16, false), (17, false), (18, false), (19, false), (20, true), (21, false), (22, false), (23, false), (24, false), (25, false), (26, false), (27, false), (28, false), (29, false), (30, true), (31, false), (32, false), (33, false), (34, false), (35, false), (36, false), (37, false), (38, false), (39, false), (41, false), (42, false), (43, false), (44, false), (45, false), (40, true), (46, true), (47, true), (48, false), (49, false), (50, false), (51, false), (52, false), (53, true), (54, false), (55, false)] (fun V => Ob V wz 32 #[.int .i64 1, .int .i64 mv, .int .i64 fr, .int .i64 to_, .slice Al l.length cl] ∧ Ob V W5.heap.size 42 #[.int .i64 0, .int .i64 0, .int .i64 0, .slice Aw 0 cw, .bool false] ∧ Ob V xb 28 #[.slice Ax es2.length cx] ∧ Below W6.heap.size W6 V) hmx (by kernel_rfl) (by kernel_rfl) (by kernel_rfl) ⟨hO76, hX, hxx, hdr⟩ rfl ?_
                  simp only [Pu.named, List.filterMap_cons, List.filterMap_nil, List.getElem?_toArray, List.getElem?_cons_succ, List.getElem?_cons_zero, Option.map_some]
                  iterate 20 (first
                               | (refine Pu.WalkM.off (by rfl) ?_; simp only [Act.put, List.setIfInBounds_toArray, List.set_cons_succ, List.set_cons_zero])
                               | (apply Pu.WalkM.on (by rfl)
                                  · rintro V ⟨k7, kx, kd', kb⟩
                                    obtain ⟨y0, y1, y2, y3, y4⟩ := k7.five
                                    obtain ⟨u0, u1, u2, u3, u4⟩ := kx.five
                                    have zx := kd'.cell (j := 0) (v := .slice Ax es2.length cx) rfl
                                    go_wp2_with fail
                                    refine ⟨rfl, ?_, rfl⟩
                                    try simp only [Act.put, List.setIfInBounds_toArray, List.set_cons_succ, List.set_cons_zero]
                                    rfl
                                  simp only [Act.put, List.setIfInBounds_toArray, List.set_cons_succ, List.set_cons_zero]))
                  refine Pu.WalkM.off (by rfl) ?_
                  simp only [Act.put, List.setIfInBounds_toArray, List.set_cons_succ, List.set_cons_zero]
                  have hn1 := hdr
                  iterate 09 (first
                               | (refine Pu.WalkM.off (by rfl) ?_; simp only [Act.put, List.setIfInBounds_toArray, List.set_cons_succ, List.set_cons_zero])
                               | (apply Pu.WalkM.on (by rfl)
                                  · rintro V ⟨k7, kx, kd', kb⟩
                                    obtain ⟨y0, y1, y2, y3, y4⟩ := k7.five
                                    obtain ⟨u0, u1, u2, u3, u4⟩ := kx.five
                                    have zx := kd'.cell (j := 0) (v := .slice Ax es2.length cx) rfl
                                    go_wp2_with fail
                                    refine ⟨rfl, ?_, rfl⟩
                                    try simp only [Act.put, List.setIfInBounds_toArray, List.set_cons_succ, List.set_cons_zero]
                                    rfl
                                  simp only [Act.put, List.setIfInBounds_toArray, List.set_cons_succ, List.set_cons_zero]))
                  refine Pu.WalkM.make (by rfl) ?_
                  intro V hV
                  rw [hV]
                  clear hV V
                  go_wp2_with (go_at_call 21; refine (cS.out _ hn1).mono ?_; rintro e V1 ⟨rfl, hb1⟩)
                  have hn2 := hn1.trans (hb1.mono hn1.size)
                  refine ⟨rfl, .bool true, _, (fun V => V = V1), ?_, rfl, (fun V h => by rw [h]; exact ⟨hO76.same hn2, hX.same hn2, hxx.same hn2, hn2⟩), (.inr (fun _ h => h)), ?_⟩
                  · simp only [Act.put, List.setIfInBounds_toArray, List.set_cons_succ, List.set_cons_zero]
                  simp only [Act.put, List.setIfInBounds_toArray, List.set_cons_succ, List.set_cons_zero]
                  iterate 14 (first
                               | (refine Pu.WalkM.off (by rfl) ?_; simp only [Act.put, List.setIfInBounds_toArray, List.set_cons_succ, List.set_cons_zero])
                               | (apply Pu.WalkM.on (by rfl)
                                  · rintro V ⟨k7, kx, kd', kb⟩
                                    obtain ⟨y0, y1, y2, y3, y4⟩ := k7.five
                                    obtain ⟨u0, u1, u2, u3, u4⟩ := kx.five
                                    have zx := kd'.cell (j := 0) (v := .slice Ax es2.length cx) rfl
                                    go_wp2_with fail
                                    refine ⟨rfl, ?_, rfl⟩
                                    try simp only [Act.put, List.setIfInBounds_toArray, List.set_cons_succ, List.set_cons_zero]
                                    rfl
                                  simp only [Act.put, List.setIfInBounds_toArray, List.set_cons_succ, List.set_cons_zero]))
                  refine Pu.WalkM.make (by rfl) ?_
                  intro V hV
                  rw [hV]
                  clear hV V
                  go_wp2_with (go_at_call 22; refine (cU.out _ hn2).mono ?_; rintro e V2 ⟨⟨uv, rfl, huv⟩, hb2⟩)
                  have hn3 := hn2.trans (hb2.mono hn2.size)
                  have HUV := Lib.hid (toAt huv)
                  obtain ⟨Au, cu, rfl, -⟩ := (toAt huv).form
                  refine ⟨rfl, .slice Au UL.length cu, _, (fun V => V = V2), ?_, rfl, (fun V h => by rw [h]; exact ⟨hO76.same hn3, hX.same hn3, hxx.same hn3, hn3⟩), (.inr (fun _ h => h)), ?_⟩
                  · simp only [Act.put, List.setIfInBounds_toArray, List.set_cons_succ, List.set_cons_zero]
                  simp only [Act.put, List.setIfInBounds_toArray, List.set_cons_succ, List.set_cons_zero]
                  refine Pu.WalkM.make (by rfl) ?_
                  intro V hV
                  rw [hV]
                  clear hV V
                  go_wp2_with (go_at_call 23; refine (CR.out _ hn3).mono ?_; rintro e V3 ⟨⟨tv, rfl, htv⟩, hb3⟩)
                  have hn4 := hn3.trans (hb3.mono hn3.size)
                  have HTV := Lib.hid (toAt htv)
                  obtain ⟨At, ct, rfl, -⟩ := (toAt htv).form
                  have cS2 := refsame_calls UL UL _ _ V3 (HUV.out.mono hb3 hb3.size) HTV.out
                  rw [decide_eq_true rfl] at cS2
                  have CS2 := Lib.hid cS2
                  clear cS2
                  refine ⟨rfl, .slice At UL.length ct, _, (fun V => V = V3), ?_, rfl, (fun V h => by rw [h]; exact ⟨hO76.same hn4, hX.same hn4, hxx.same hn4, hn4⟩), (.inr (fun _ h => h)), ?_⟩
                  · simp only [Act.put, List.setIfInBounds_toArray, List.set_cons_succ, List.set_cons_zero]
                  simp only [Act.put, List.setIfInBounds_toArray, List.set_cons_succ, List.set_cons_zero]
                  refine Pu.WalkM.make (by rfl) ?_
                  intro V hV
                  rw [hV]
                  clear hV V
                  go_wp2_with (go_at_call 16; refine CS2.out.mono ?_; rintro e V4 ⟨rfl, hb4⟩)
                  have hn5 := hn4.trans (hb4.mono hn4.size)
                  refine ⟨rfl, .bool true, _, (fun V => V = V4), ?_, rfl, (fun V h => by rw [h]; exact ⟨hO76.same hn5, hX.same hn5, hxx.same hn5, hn5⟩), (.inr (fun _ h => h)), ?_⟩
                  · simp only [Act.put, List.setIfInBounds_toArray, List.set_cons_succ, List.set_cons_zero]
                  simp only [Act.put, List.setIfInBounds_toArray, List.set_cons_succ, List.set_cons_zero]
                  iterate 05 (first
                               | (refine Pu.WalkM.off (by rfl) ?_; simp only [Act.put, List.setIfInBounds_toArray, List.set_cons_succ, List.set_cons_zero])
                               | (apply Pu.WalkM.on (by rfl)
                                  · rintro V ⟨k7, kx, kd', kb⟩
                                    obtain ⟨y0, y1, y2, y3, y4⟩ := k7.five
                                    obtain ⟨u0, u1, u2, u3, u4⟩ := kx.five
                                    have zx := kd'.cell (j := 0) (v := .slice Ax es2.length cx) rfl
                                    go_wp2_with fail
                                    refine ⟨rfl, ?_, rfl⟩
                                    try simp only [Act.put, List.setIfInBounds_toArray, List.set_cons_succ, List.set_cons_zero]
                                    rfl
                                  simp only [Act.put, List.setIfInBounds_toArray, List.set_cons_succ, List.set_cons_zero]))
                  refine Pu.WalkM.make (by rfl) ?_
                  intro V hV
                  rw [hV]
                  clear hV V
                  go_wp2_with (go_at_call 24; refine (cWk.out _ hn5).mono ?_; rintro e V5 ⟨rfl, hb5⟩)
                  have hn6 := hn5.trans (hb5.mono hn5.size)
                  refine ⟨rfl, .bool true, _, (fun V => V = V5), ?_, rfl, (fun V h => by rw [h]; exact ⟨hO76.same hn6, hX.same hn6, hxx.same hn6, hn6⟩), (.inr (fun _ h => h)), ?_⟩
                  · simp only [Act.put, List.setIfInBounds_toArray, List.set_cons_succ, List.set_cons_zero]
                  simp only [Act.put, List.setIfInBounds_toArray, List.set_cons_succ, List.set_cons_zero]
                  iterate 02 (first
                               | (refine Pu.WalkM.off (by rfl) ?_; simp only [Act.put, List.setIfInBounds_toArray, List.set_cons_succ, List.set_cons_zero])
                               | (apply Pu.WalkM.on (by rfl)
                                  · rintro V ⟨k7, kx, kd', kb⟩
                                    obtain ⟨y0, y1, y2, y3, y4⟩ := k7.five
                                    obtain ⟨u0, u1, u2, u3, u4⟩ := kx.five
                                    have zx := kd'.cell (j := 0) (v := .slice Ax es2.length cx) rfl
                                    go_wp2_with fail
                                    refine ⟨rfl, ?_, rfl⟩
                                    try simp only [Act.put, List.setIfInBounds_toArray, List.set_cons_succ, List.set_cons_zero]
                                    rfl
                                  simp only [Act.put, List.setIfInBounds_toArray, List.set_cons_succ, List.set_cons_zero]))
                  refine Pu.WalkM.nil ?_
                  intro V hV
                  rw [hV]
                  clear hV V
                  have HF := Lib.hid (HFIN.out _ hn6)
                  go_wp2
                  exact ⟨HF.out, by simp [intOf]; omega⟩
              · as_aux_lemma =>
                  have hix2 : ix < es2.length := by have := hix; rw [← HEt.out] at this; simpa using this
                  have hdx : es2[ix].1 = ⟨wmv, wfr, wto, wl, wcame⟩ := by
                    have h9 := HWD.out
                    rw [hi2, Option.getD_some] at h9
                    have h8 : ds2[ix]? = some es2[ix].1 := by rw [← HEt.out, List.getElem?_map, List.getElem?_eq_getElem hix2]; rfl
                    rw [List.getElem?_eq_getElem hix, h9] at h8
                    exact (Option.some.inj h8).symm
                  simp only [hi1, hi2, Option.isSome_some]
                  have hnst := HD6.out.nest es2[ix] (List.getElem_mem hix2)
                  clear hi1 hi2 hidx
                  obtain ⟨rb, ro, rfl, -, hrb, c0, c1, c2, c3, c4⟩ := docAt_cell (Sl.of_own HVX.out) hix2
                  generalize es2[ix] = pp at *
                  obtain ⟨dd, plv⟩ := pp
                  try dsimp only at hdx hnst c0 c1 c2 c3 c4
                  subst hdx
                  try dsimp only at hnst c0 c1 c2 c3 c4
                  obtain ⟨Ap, cp, hplv, -⟩ := hnst.form
                  try dsimp only at hplv
                  subst hplv
                  have cS := Lib.hid (fun V (hb : Below W6.heap.size W6 V) => (by have := sameW_calls ⟨wmv, wfr, wto, wl, wcame⟩ ⟨wmv, wfr, wto, wl, wcame⟩ (.slice Aw wl.length cw) (.slice Ap wl.length cp) V (hIw6.mono hb hb.size) ((hnst.below (hb.mono HB6.out.size)).wide (Nat.le_refl _) (Nat.le_trans HB6.out.size hb.size)); rw [(sameW_iff _ _).2 rfl] at this; simp only [wayV] at this; exact this : Calls Try.prog 21 #[.agg #[.int .i64 wmv, .int .i64 wfr, .int .i64 wto, .slice Aw wl.length cw, .bool wcame], .agg #[.int .i64 wmv, .int .i64 wfr, .int .i64 wto, .slice Ap wl.length cp, .bool wcame]] V fun e w' => e = .returned (.bool true) ∧ Below V.heap.size V w'))
                  have l1 : (0 : Int) ≤ (ix : Int) := by omega
                  have l2 : (ix : Int) < (es2.length : Int) := by omega
                  clear hnst
                  have hdi1 : decide ((ix : Int) ≥ 0) = true := by simp
                  have hdi2 : decide ((ix : Int) < 0) = false := by simp
                  refine Pu.regionM [(0, false), (1, false), (2, false), (3, false), (4, false), (5, false), (6, false), (7, false), (8, false), (9, false), (10, false), (11, false), (12, false), (13, false), (14, false), (15, false), (16, false), (17, false), (18, false), (19, false), (20, true), (21, false), (22, false), (23, false), (24, false), (25, false), (26, false), (27, false), (28, false), (29, false), (30, true), (31, false), (32, false), (33, false), (34, false), (35, false), (36, false), (37, false), (38, false), (39, false), (41, false), (42, false), (43, false), (44, false), (45, false), (40, true), (46, true), (47, true), (48, false), (49, false), (50, false), (51, false), (52, false), (53, true), (54, false), (55, false)] (fun V => Ob V wz 32 #[.int .i64 1, .int .i64 mv, .int .i64 fr, .int .i64 to_, .slice Al l.length cl] ∧ Ob V W5.heap.size 42 #[.int .i64 wmv, .int .i64 wfr, .int .i64 wto, .slice Aw wl.length cw, .bool wcame] ∧ Ob V xb 28 #[.slice (some ⟨rb, ro, none⟩) es2.length cx] ∧ Below W6.heap.size W6 V) hmx (by kernel_rfl) (by kernel_rfl) (by kernel_rfl) ⟨hO76, hX, hxx, hdr⟩ rfl ?_
                  simp only [Pu.named, List.filterMap_cons, List.filterMap_nil, List.getElem?_toArray, List.getElem?_cons_succ, List.getElem?_cons_zero, Option.map_some]
                  iterate 20 (first
                               | (refine Pu.WalkM.off (by rfl) ?_; simp only [Act.put, List.setIfInBounds_toArray, List.set_cons_succ, List.set_cons_zero])
                               | (apply Pu.WalkM.on (by rfl)
                                  · rintro V ⟨k7, kx, kd', kb⟩
                                    obtain ⟨y0, y1, y2, y3, y4⟩ := k7.five
                                    obtain ⟨u0, u1, u2, u3, u4⟩ := kx.five
                                    have zx := kd'.cell (j := 0) (v := .slice (some ⟨rb, ro, none⟩) es2.length cx) rfl
                                    have r0 := (kb.cell (p := ⟨rb, ro + ix * 5, none⟩) hrb).trans c0
                                    have r1 := (kb.cell (p := ⟨rb, ro + ix * 5 + 1, none⟩) hrb).trans c1
                                    have r2 := (kb.cell (p := ⟨rb, ro + ix * 5 + 2, none⟩) hrb).trans c2
                                    have r3 := (kb.cell (p := ⟨rb, ro + ix * 5 + 3, none⟩) hrb).trans c3
                                    have r4 := (kb.cell (p := ⟨rb, ro + ix * 5 + 4, none⟩) hrb).trans c4
                                    go_wp2_with fail
                                    refine ⟨rfl, ?_, rfl⟩
                                    try simp only [Act.put, List.setIfInBounds_toArray, List.set_cons_succ, List.set_cons_zero]
                                    rfl
                                  simp only [Act.put, List.setIfInBounds_toArray, List.set_cons_succ, List.set_cons_zero]))
                  refine Pu.WalkM.make (by rfl) ?_
                  intro V hV
                  rw [hV]
                  clear hV V
                  go_wp2_with (go_at_call 21; refine (cS.out _ hdr).mono ?_; rintro e V1 ⟨rfl, hb1⟩)
                  have hn1 := hdr.trans hb1
                  refine ⟨rfl, .bool true, _, (fun V => V = V1), ?_, rfl, (fun V h => by rw [h]; exact ⟨hO76.same hn1, hX.same hn1, hxx.same hn1, hn1⟩), (.inr (fun _ h => h)), ?_⟩
                  · simp only [Act.put, List.setIfInBounds_toArray, List.set_cons_succ, List.set_cons_zero]
                  simp only [Act.put, List.setIfInBounds_toArray, List.set_cons_succ, List.set_cons_zero]
                  iterate 09 (first
                               | (refine Pu.WalkM.off (by rfl) ?_; simp only [Act.put, List.setIfInBounds_toArray, List.set_cons_succ, List.set_cons_zero])
                               | (apply Pu.WalkM.on (by rfl)
                                  · rintro V ⟨k7, kx, kd', kb⟩
                                    obtain ⟨y0, y1, y2, y3, y4⟩ := k7.five
                                    obtain ⟨u0, u1, u2, u3, u4⟩ := kx.five
                                    have zx := kd'.cell (j := 0) (v := .slice (some ⟨rb, ro, none⟩) es2.length cx) rfl
                                    have r0 := (kb.cell (p := ⟨rb, ro + ix * 5, none⟩) hrb).trans c0
                                    have r1 := (kb.cell (p := ⟨rb, ro + ix * 5 + 1, none⟩) hrb).trans c1
                                    have r2 := (kb.cell (p := ⟨rb, ro + ix * 5 + 2, none⟩) hrb).trans c2
                                    have r3 := (kb.cell (p := ⟨rb, ro + ix * 5 + 3, none⟩) hrb).trans c3
                                    have r4 := (kb.cell (p := ⟨rb, ro + ix * 5 + 4, none⟩) hrb).trans c4
                                    go_wp2_with fail
                                    refine ⟨rfl, ?_, rfl⟩
                                    try simp only [Act.put, List.setIfInBounds_toArray, List.set_cons_succ, List.set_cons_zero]
                                    rfl
                                  simp only [Act.put, List.setIfInBounds_toArray, List.set_cons_succ, List.set_cons_zero]))
                  refine Pu.WalkM.off (by rfl) ?_
                  simp only [Act.put, List.setIfInBounds_toArray, List.set_cons_succ, List.set_cons_zero]
                  have hn2 := hn1
                  iterate 14 (first
                               | (refine Pu.WalkM.off (by rfl) ?_; simp only [Act.put, List.setIfInBounds_toArray, List.set_cons_succ, List.set_cons_zero])
                               | (apply Pu.WalkM.on (by rfl)
                                  · rintro V ⟨k7, kx, kd', kb⟩
                                    obtain ⟨y0, y1, y2, y3, y4⟩ := k7.five
                                    obtain ⟨u0, u1, u2, u3, u4⟩ := kx.five
                                    have zx := kd'.cell (j := 0) (v := .slice (some ⟨rb, ro, none⟩) es2.length cx) rfl
                                    have r0 := (kb.cell (p := ⟨rb, ro + ix * 5, none⟩) hrb).trans c0
                                    have r1 := (kb.cell (p := ⟨rb, ro + ix * 5 + 1, none⟩) hrb).trans c1
                                    have r2 := (kb.cell (p := ⟨rb, ro + ix * 5 + 2, none⟩) hrb).trans c2
                                    have r3 := (kb.cell (p := ⟨rb, ro + ix * 5 + 3, none⟩) hrb).trans c3
                                    have r4 := (kb.cell (p := ⟨rb, ro + ix * 5 + 4, none⟩) hrb).trans c4
                                    go_wp2_with fail
                                    refine ⟨rfl, ?_, rfl⟩
                                    try simp only [Act.put, List.setIfInBounds_toArray, List.set_cons_succ, List.set_cons_zero]
                                    rfl
                                  simp only [Act.put, List.setIfInBounds_toArray, List.set_cons_succ, List.set_cons_zero]))
                  refine Pu.WalkM.make (by rfl) ?_
                  intro V hV
                  rw [hV]
                  clear hV V
                  go_wp2_with (go_at_call 22; refine (cU.out _ hn2).mono ?_; rintro e V2 ⟨⟨uv, rfl, huv⟩, hb2⟩)
                  have hn3 := hn2.trans (hb2.mono hn2.size)
                  have HUV := Lib.hid (toAt huv)
                  obtain ⟨Au, cu, rfl, -⟩ := (toAt huv).form
                  refine ⟨rfl, .slice Au UL.length cu, _, (fun V => V = V2), ?_, rfl, (fun V h => by rw [h]; exact ⟨hO76.same hn3, hX.same hn3, hxx.same hn3, hn3⟩), (.inr (fun _ h => h)), ?_⟩
                  · simp only [Act.put, List.setIfInBounds_toArray, List.set_cons_succ, List.set_cons_zero]
                  simp only [Act.put, List.setIfInBounds_toArray, List.set_cons_succ, List.set_cons_zero]
                  refine Pu.WalkM.make (by rfl) ?_
                  intro V hV
                  rw [hV]
                  clear hV V
                  go_wp2_with (go_at_call 23; refine (CR.out _ hn3).mono ?_; rintro e V3 ⟨⟨tv, rfl, htv⟩, hb3⟩)
                  have hn4 := hn3.trans (hb3.mono hn3.size)
                  have HTV := Lib.hid (toAt htv)
                  obtain ⟨At, ct, rfl, -⟩ := (toAt htv).form
                  have cS2 := refsame_calls UL UL _ _ V3 (HUV.out.mono hb3 hb3.size) HTV.out
                  rw [decide_eq_true rfl] at cS2
                  have CS2 := Lib.hid cS2
                  clear cS2
                  refine ⟨rfl, .slice At UL.length ct, _, (fun V => V = V3), ?_, rfl, (fun V h => by rw [h]; exact ⟨hO76.same hn4, hX.same hn4, hxx.same hn4, hn4⟩), (.inr (fun _ h => h)), ?_⟩
                  · simp only [Act.put, List.setIfInBounds_toArray, List.set_cons_succ, List.set_cons_zero]
                  simp only [Act.put, List.setIfInBounds_toArray, List.set_cons_succ, List.set_cons_zero]
                  refine Pu.WalkM.make (by rfl) ?_
                  intro V hV
                  rw [hV]
                  clear hV V
                  go_wp2_with (go_at_call 16; refine CS2.out.mono ?_; rintro e V4 ⟨rfl, hb4⟩)
                  have hn5 := hn4.trans (hb4.mono hn4.size)
                  refine ⟨rfl, .bool true, _, (fun V => V = V4), ?_, rfl, (fun V h => by rw [h]; exact ⟨hO76.same hn5, hX.same hn5, hxx.same hn5, hn5⟩), (.inr (fun _ h => h)), ?_⟩
                  · simp only [Act.put, List.setIfInBounds_toArray, List.set_cons_succ, List.set_cons_zero]
                  simp only [Act.put, List.setIfInBounds_toArray, List.set_cons_succ, List.set_cons_zero]
                  iterate 05 (first
                               | (refine Pu.WalkM.off (by rfl) ?_; simp only [Act.put, List.setIfInBounds_toArray, List.set_cons_succ, List.set_cons_zero])
                               | (apply Pu.WalkM.on (by rfl)
                                  · rintro V ⟨k7, kx, kd', kb⟩
                                    obtain ⟨y0, y1, y2, y3, y4⟩ := k7.five
                                    obtain ⟨u0, u1, u2, u3, u4⟩ := kx.five
                                    have zx := kd'.cell (j := 0) (v := .slice (some ⟨rb, ro, none⟩) es2.length cx) rfl
                                    have r0 := (kb.cell (p := ⟨rb, ro + ix * 5, none⟩) hrb).trans c0
                                    have r1 := (kb.cell (p := ⟨rb, ro + ix * 5 + 1, none⟩) hrb).trans c1
                                    have r2 := (kb.cell (p := ⟨rb, ro + ix * 5 + 2, none⟩) hrb).trans c2
                                    have r3 := (kb.cell (p := ⟨rb, ro + ix * 5 + 3, none⟩) hrb).trans c3
                                    have r4 := (kb.cell (p := ⟨rb, ro + ix * 5 + 4, none⟩) hrb).trans c4
                                    go_wp2_with fail
                                    refine ⟨rfl, ?_, rfl⟩
                                    try simp only [Act.put, List.setIfInBounds_toArray, List.set_cons_succ, List.set_cons_zero]
                                    rfl
                                  simp only [Act.put, List.setIfInBounds_toArray, List.set_cons_succ, List.set_cons_zero]))
                  refine Pu.WalkM.make (by rfl) ?_
                  intro V hV
                  rw [hV]
                  clear hV V
                  go_wp2_with (go_at_call 24; refine (cWk.out _ hn5).mono ?_; rintro e V5 ⟨rfl, hb5⟩)
                  have hn6 := hn5.trans (hb5.mono hn5.size)
                  refine ⟨rfl, .bool true, _, (fun V => V = V5), ?_, rfl, (fun V h => by rw [h]; exact ⟨hO76.same hn6, hX.same hn6, hxx.same hn6, hn6⟩), (.inr (fun _ h => h)), ?_⟩
                  · simp only [Act.put, List.setIfInBounds_toArray, List.set_cons_succ, List.set_cons_zero]
                  simp only [Act.put, List.setIfInBounds_toArray, List.set_cons_succ, List.set_cons_zero]
                  iterate 02 (first
                               | (refine Pu.WalkM.off (by rfl) ?_; simp only [Act.put, List.setIfInBounds_toArray, List.set_cons_succ, List.set_cons_zero])
                               | (apply Pu.WalkM.on (by rfl)
                                  · rintro V ⟨k7, kx, kd', kb⟩
                                    obtain ⟨y0, y1, y2, y3, y4⟩ := k7.five
                                    obtain ⟨u0, u1, u2, u3, u4⟩ := kx.five
                                    have zx := kd'.cell (j := 0) (v := .slice (some ⟨rb, ro, none⟩) es2.length cx) rfl
                                    have r0 := (kb.cell (p := ⟨rb, ro + ix * 5, none⟩) hrb).trans c0
                                    have r1 := (kb.cell (p := ⟨rb, ro + ix * 5 + 1, none⟩) hrb).trans c1
                                    have r2 := (kb.cell (p := ⟨rb, ro + ix * 5 + 2, none⟩) hrb).trans c2
                                    have r3 := (kb.cell (p := ⟨rb, ro + ix * 5 + 3, none⟩) hrb).trans c3
                                    have r4 := (kb.cell (p := ⟨rb, ro + ix * 5 + 4, none⟩) hrb).trans c4
                                    go_wp2_with fail
                                    refine ⟨rfl, ?_, rfl⟩
                                    try simp only [Act.put, List.setIfInBounds_toArray, List.set_cons_succ, List.set_cons_zero]
                                    rfl
                                  simp only [Act.put, List.setIfInBounds_toArray, List.set_cons_succ, List.set_cons_zero]))
                  refine Pu.WalkM.nil ?_
                  intro V hV
                  rw [hV]
                  clear hV V
                  have HF := Lib.hid (HFIN.out _ hn6)
                  go_wp2
                  exact ⟨HF.out, by simp [intOf]; omega⟩
        · have e1b : (kd == 1) = false := by simpa using e1
          by_cases e2 : kd = 2
          · subst e2
            clear e1 e1b
            have cC := Lib.hid (come_calls mv b mb _ ds _ HM.out hOK.out.mv.1 hOK.out.mv.2)
            have HSO := Lib.hid (show Sorted (es.map (·.1)) from by rw [HE.out]; exact HM.out.sorted)
            generalize hcR : comeOf ds mv = R at *
            obtain ⟨ds2, al, ac⟩ := R
            dsimp only at cC
            go_wp2_with fail
            refine cC.out.mono ?_
            rintro e W1 ⟨⟨av, rfl, hav⟩, hM1, hg1⟩
            have hO71 := hO7.kept hg1 (fun e => by have := Option.some.inj e; omega)
            have hB1 := below_far HB.out hg1 (Nat.le_refl _) hlm
            have hD1 := HD.out.kept hg1 (fun e => hnx.2 e.symm) HB.out.size hlm HM.out.map_block
            have cR := refcome_calls mv xb w.heap.size es W1 hD1 HSO.out hB1.size hxb
            rw [HE.out, hcR] at cR
            dsimp only at cR
            have CR := Lib.hid cR
            have hIa := ItemsAt.of_own hav
            obtain ⟨Aa, ca, rfl, -⟩ := (toAt hav).form
            have HM1 := Lib.hid hM1
            have hz0 : wr.heap.size < (wr.alloc (.cells #[.int .i64 2, .int .i64 mv, .int .i64 fr, .int .i64 to_, .slice Al l.length cl] 32)).heap.size := by simp
            clear cR hav hM1 hcR cC q0 q1 q2 q3 q4
            obtain ⟨q0, q1, q2, q3, q4⟩ := hO71.five
            go_wp2_with fail
            refine CR.out.mono ?_
            rintro e W2 ⟨es2, lv2, rfl, hlv2, hes2, hD2, hg2⟩
            have hO72 := hO71.kept hg2 (fun e => by have := Option.some.inj e; omega)
            have hB2 := below_far hB1 hg2 (Nat.le_refl _) hxb
            have hM2 := HM1.out.kept hg2 (fun g e => by cases e; exact .inl rfl)
            have hIa2 := past hIa hg2 (by omega)
            obtain ⟨Ab, cb, rfl, -⟩ := hlv2.form
            have cS := refsame_calls al al _ _ W2 (hIa2.wide (Nat.zero_le _) (Nat.le_refl _)) (hlv2.wide (Nat.le_refl _) hB2.size)
            rw [decide_eq_true rfl] at cS
            have CS := Lib.hid cS
            clear CR hIa hIa2 hlv2 hB1 hO71 HM1 hD1 cS q0 q1 q2 q3 q4 hg1 hg2
            go_wp2_with fail
            refine CS.out.mono ?_
            rintro e W3 ⟨rfl, hb3⟩
            have HB3 := Lib.hid (hB2.trans (hb3.mono hB2.size))
            have HM3 := Lib.hid (hM2.same hb3)
            have HD3 := Lib.hid (hD2.same hb3 hB2.size)
            have HE3 := Lib.hid hes2
            have hO73 := hO72.same hb3
            clear hb3 hB2 hM2 hD2 hes2 hO72 CS hO7 HM HD HE HB HSO
            have cMv := Lib.hid (move_calls mv b mb _ ds2 W3 HM3.out hOK.out.mv.1 hOK.out.mv.2)
            have HOKD := Lib.hid HM3.out.ok
            try clear q0 q1 q2 q3 q4
            obtain ⟨q0, q1, q2, q3, q4⟩ := hO73.five
            go_wp2_with fail
            refine cMv.out.mono ?_
            rintro e W5 ⟨⟨wv, rfl, hwv⟩, hb5⟩
            clear cMv
            have hIw := toAt hwv
            have HFD := Lib.hid (@idx_find ds2 mv)
            have hidx := idx_find' ds2 mv
            generalize hwd : (findW ds2 mv).getD way0 = wd at *
            have HWD := Lib.hid hwd
            clear hwd hwv
            obtain ⟨wmv, wfr, wto, wl, wcame⟩ := wd
            obtain ⟨Aw, cw, rfl, -⟩ := hIw.form
            dsimp only [wayV] at hIw ⊢
            have hal5 := (Below.refl W5.heap.size W5).alloc (Nat.le_refl _) (.cells #[.int .i64 wmv, .int .i64 wfr, .int .i64 wto, .slice Aw wl.length cw, .bool wcame] 42)
            have hX := Ob.new W5 42 #[.int .i64 wmv, .int .i64 wfr, .int .i64 wto, .slice Aw wl.length cw, .bool wcame]
            have hb6 := hb5.trans (hal5.mono hb5.size)
            have HB6 := Lib.hid (HB3.out.trans (hb6.mono HB3.out.size))
            have HM6 := Lib.hid (HM3.out.same hb6)
            have HD6 := Lib.hid (HD3.out.same hb6 HB3.out.size)
            have hO76 := (hO73.same hb5).alloc (.cells #[.int .i64 wmv, .int .i64 wfr, .int .i64 wto, .slice Aw wl.length cw, .bool wcame] 42)
            have hIw6 := hIw.mono hal5 hal5.size
            have cFi := find_calls mv xb w.heap.size es2 _ HD6.out
            rw [HE3.out] at cFi
            have CFI := Lib.hid cFi
            try clear q0 q1 q2 q3 q4
            clear cFi hIw hal5 hb5 hb6
            obtain ⟨q0, q1, q2, q3, q4⟩ := hO76.five
            go_wp2_with (go_at_call 20; refine CFI.out.mono ?_; rintro e W' ⟨rfl, rfl⟩)
            generalize W5.alloc (.cells #[.int .i64 wmv, .int .i64 wfr, .int .i64 wto, .slice Aw wl.length cw, .bool wcame] 42) = W6 at *
            obtain ⟨vx, hxx, hvx⟩ := HD6.out.ob
            obtain ⟨Ax, cx, rfl, hcx1, hcx2, -⟩ := (Sl.of_own hvx).at_
            unfold maxLen at hcx2
            have HVX := Lib.hid hvx
            have hw5 : W5.heap.size < W6.heap.size := hX.lt
            have hdr := (Below.refl W6.heap.size W6).drew
            have cU := Lib.hid (fun V (hb : Below W6.heap.size W6 V) => under_calls fr to_ b mb _ ds2 V (HM6.out.same hb))
            have cR := (fun V (hb : Below W6.heap.size W6 V) => refunder_calls fr to_ xb w.heap.size es2 V (HD6.out.same hb HB6.out.size) (Nat.le_trans HB6.out.size hb.size) (ok_docs HE3.out HOKD.out))
            rw [HE3.out] at cR
            have CR := Lib.hid cR
            have cWk := Lib.hid (fun V (hb : Below W6.heap.size W6 V) => walks_calls b mb xb w.heap.size _ ds2 es2 V (HM6.out.same hb) (HD6.out.same hb HB6.out.size) HE3.out (Nat.le_trans HB6.out.size hb.size))
            generalize underOf fr to_ ds2 = UL at *
            clear cR hvx q0 q1 q2 q3 q4 CFI
            have HFIN := Lib.hid (fun V (hb : Below W6.heap.size W6 V) => show (∃ (k' : Nat) (ds' : List Way) (es' : List (Way × Value)), k' ≤ os.length ∧ Value.int .i64 ((k : Int) + 1) = .int .i64 k' ∧ Below w.heap.size w V ∧ MvAt V b mb (fun i => i = xb) ds' ∧ DocAt V xb w.heap.size es' ∧ es'.map (·.1) = ds') from ⟨k + 1, ds2, es2, by omega, by go_num, HB6.out.trans (hb.mono HB6.out.size), HM6.out.same hb, HD6.out.same hb HB6.out.size, HE3.out⟩)
            rcases HFD.out with ⟨hi1, hi2⟩ | ⟨ix, hix, hi1, hi2, -⟩
            · as_aux_lemma =>
                have hwd0 := HWD.out
                rw [hi2] at hwd0
                obtain ⟨rfl, rfl, rfl, rfl, rfl⟩ : wmv = 0 ∧ wfr = 0 ∧ wto = 0 ∧ wl = [] ∧ wcame = false := by simpa [way0, Eq.comm] using hwd0
                simp only [hi1, hi2, Option.isSome_none, List.length_nil]
                simp only [List.length_nil] at hX
                have cS := Lib.hid (fun V (hb : Below W6.heap.size W6 V) => (by have := sameW_calls way0 way0 (.slice Aw 0 cw) (.slice none 0 0) V (hIw6.mono hb hb.size) (ItemsAt.nil _ _ _); rw [(sameW_iff _ _).2 rfl] at this; simp only [wayV, way0] at this; exact this : Calls Try.prog 21 #[.agg #[.int .i64 0, .int .i64 0, .int .i64 0, .slice Aw 0 cw, .bool false], .agg #[.int .i64 0, .int .i64 0, .int .i64 0, .slice none 0 0, .bool false]] V fun e w' => e = .returned (.bool true) ∧ Below V.heap.size V w'))
                clear hwd0 hi1 hi2 hidx
                refine Pu.regionM [(0, false), (1, false), (2, false), (3, false), (4, false), (5, false), (6, false), (7, false), (8, false), (9, false), (10, false), (11, false), (12, false), (13, false), (14, false), (15, false), (16, false), (17, false), (18, false), (19, false), (20, true), (21, false), (22, false), (23, false), (24, false), (25, false), (26, false), (27, false), (28, false), (29, false), (30, true), (31, false), (32, false), (33, false), (34, false), (35, false), (36, false), (37, false), (38, false), (39, false), (41, false), (42, false), (43, false), (44, false), (45, false), (40, true), (46, true), (47, true), (48, false), (49, false), (50, false), (51, false), (52, false), (53, true), (54, false), (55, false)] (fun V => Ob V wr.heap.size 32 #[.int .i64 2, .int .i64 mv, .int .i64 fr, .int .i64 to_, .slice Al l.length cl] ∧ Ob V W5.heap.size 42 #[.int .i64 0, .int .i64 0, .int .i64 0, .slice Aw 0 cw, .bool false] ∧ Ob V xb 28 #[.slice Ax es2.length cx] ∧ Below W6.heap.size W6 V) hmx (by kernel_rfl) (by kernel_rfl) (by kernel_rfl) ⟨hO76, hX, hxx, hdr⟩ rfl ?_
                simp only [Pu.named, List.filterMap_cons, List.filterMap_nil, List.getElem?_toArray, List.getElem?_cons_succ, List.getElem?_cons_zero, Option.map_some]
                iterate 20 (first
                             | (refine Pu.WalkM.off (by rfl) ?_; simp only [Act.put, List.setIfInBounds_toArray, List.set_cons_succ, List.set_cons_zero])
                             | (apply Pu.WalkM.on (by rfl)
                                · rintro V ⟨k7, kx, kd', kb⟩
                                  obtain ⟨y0, y1, y2, y3, y4⟩ := k7.five
                                  obtain ⟨u0, u1, u2, u3, u4⟩ := kx.five
                                  have zx := kd'.cell (j := 0) (v := .slice Ax es2.length cx) rfl
                                  go_wp2_with fail
                                  refine ⟨rfl, ?_, rfl⟩
                                  try simp only [Act.put, List.setIfInBounds_toArray, List.set_cons_succ, List.set_cons_zero]
                                  rfl
                                simp only [Act.put, List.setIfInBounds_toArray, List.set_cons_succ, List.set_cons_zero]))
                refine Pu.WalkM.off (by rfl) ?_
                simp only [Act.put, List.setIfInBounds_toArray, List.set_cons_succ, List.set_cons_zero]
                have hn1 := hdr
                iterate 09 (first
                             | (refine Pu.WalkM.off (by rfl) ?_; simp only [Act.put, List.setIfInBounds_toArray, List.set_cons_succ, List.set_cons_zero])
                             | (apply Pu.WalkM.on (by rfl)
                                · rintro V ⟨k7, kx, kd', kb⟩
                                  obtain ⟨y0, y1, y2, y3, y4⟩ := k7.five
                                  obtain ⟨u0, u1, u2, u3, u4⟩ := kx.five
                                  have zx := kd'.cell (j := 0) (v := .slice Ax es2.length cx) rfl
                                  go_wp2_with fail
                                  refine ⟨rfl, ?_, rfl⟩
                                  try simp only [Act.put, List.setIfInBounds_toArray, List.set_cons_succ, List.set_cons_zero]
                                  rfl
                                simp only [Act.put, List.setIfInBounds_toArray, List.set_cons_succ, List.set_cons_zero]))
                refine Pu.WalkM.make (by rfl) ?_
                intro V hV
                rw [hV]
                clear hV V
                go_wp2_with (go_at_call 21; refine (cS.out _ hn1).mono ?_; rintro e V1 ⟨rfl, hb1⟩)
                have hn2 := hn1.trans (hb1.mono hn1.size)
                refine ⟨rfl, .bool true, _, (fun V => V = V1), ?_, rfl, (fun V h => by rw [h]; exact ⟨hO76.same hn2, hX.same hn2, hxx.same hn2, hn2⟩), (.inr (fun _ h => h)), ?_⟩
                · simp only [Act.put, List.setIfInBounds_toArray, List.set_cons_succ, List.set_cons_zero]
                simp only [Act.put, List.setIfInBounds_toArray, List.set_cons_succ, List.set_cons_zero]
                iterate 14 (first
                             | (refine Pu.WalkM.off (by rfl) ?_; simp only [Act.put, List.setIfInBounds_toArray, List.set_cons_succ, List.set_cons_zero])
                             | (apply Pu.WalkM.on (by rfl)
                                · rintro V ⟨k7, kx, kd', kb⟩
                                  obtain ⟨y0, y1, y2, y3, y4⟩ := k7.five
                                  obtain ⟨u0, u1, u2, u3, u4⟩ := kx.five
                                  have zx := kd'.cell (j := 0) (v := .slice Ax es2.length cx) rfl
                                  go_wp2_with fail
                                  refine ⟨rfl, ?_, rfl⟩
                                  try simp only [Act.put, List.setIfInBounds_toArray, List.set_cons_succ, List.set_cons_zero]
                                  rfl
                                simp only [Act.put, List.setIfInBounds_toArray, List.set_cons_succ, List.set_cons_zero]))
                refine Pu.WalkM.make (by rfl) ?_
                intro V hV
                rw [hV]
                clear hV V
                go_wp2_with (go_at_call 22; refine (cU.out _ hn2).mono ?_; rintro e V2 ⟨⟨uv, rfl, huv⟩, hb2⟩)
                have hn3 := hn2.trans (hb2.mono hn2.size)
                have HUV := Lib.hid (toAt huv)
                obtain ⟨Au, cu, rfl, -⟩ := (toAt huv).form
                refine ⟨rfl, .slice Au UL.length cu, _, (fun V => V = V2), ?_, rfl, (fun V h => by rw [h]; exact ⟨hO76.same hn3, hX.same hn3, hxx.same hn3, hn3⟩), (.inr (fun _ h => h)), ?_⟩
                · simp only [Act.put, List.setIfInBounds_toArray, List.set_cons_succ, List.set_cons_zero]
                simp only [Act.put, List.setIfInBounds_toArray, List.set_cons_succ, List.set_cons_zero]
                refine Pu.WalkM.make (by rfl) ?_
                intro V hV
                rw [hV]
                clear hV V
                go_wp2_with (go_at_call 23; refine (CR.out _ hn3).mono ?_; rintro e V3 ⟨⟨tv, rfl, htv⟩, hb3⟩)
                have hn4 := hn3.trans (hb3.mono hn3.size)
                have HTV := Lib.hid (toAt htv)
                obtain ⟨At, ct, rfl, -⟩ := (toAt htv).form
                have cS2 := refsame_calls UL UL _ _ V3 (HUV.out.mono hb3 hb3.size) HTV.out
                rw [decide_eq_true rfl] at cS2
                have CS2 := Lib.hid cS2
                clear cS2
                refine ⟨rfl, .slice At UL.length ct, _, (fun V => V = V3), ?_, rfl, (fun V h => by rw [h]; exact ⟨hO76.same hn4, hX.same hn4, hxx.same hn4, hn4⟩), (.inr (fun _ h => h)), ?_⟩
                · simp only [Act.put, List.setIfInBounds_toArray, List.set_cons_succ, List.set_cons_zero]
                simp only [Act.put, List.setIfInBounds_toArray, List.set_cons_succ, List.set_cons_zero]
                refine Pu.WalkM.make (by rfl) ?_
                intro V hV
                rw [hV]
                clear hV V
                go_wp2_with (go_at_call 16; refine CS2.out.mono ?_; rintro e V4 ⟨rfl, hb4⟩)
                have hn5 := hn4.trans (hb4.mono hn4.size)
                refine ⟨rfl, .bool true, _, (fun V => V = V4), ?_, rfl, (fun V h => by rw [h]; exact ⟨hO76.same hn5, hX.same hn5, hxx.same hn5, hn5⟩), (.inr (fun _ h => h)), ?_⟩
                · simp only [Act.put, List.setIfInBounds_toArray, List.set_cons_succ, List.set_cons_zero]
                simp only [Act.put, List.setIfInBounds_toArray, List.set_cons_succ, List.set_cons_zero]
                iterate 05 (first
                             | (refine Pu.WalkM.off (by rfl) ?_; simp only [Act.put, List.setIfInBounds_toArray, List.set_cons_succ, List.set_cons_zero])
                             | (apply Pu.WalkM.on (by rfl)
                                · rintro V ⟨k7, kx, kd', kb⟩
                                  obtain ⟨y0, y1, y2, y3, y4⟩ := k7.five
                                  obtain ⟨u0, u1, u2, u3, u4⟩ := kx.five
                                  have zx := kd'.cell (j := 0) (v := .slice Ax es2.length cx) rfl
                                  go_wp2_with fail
                                  refine ⟨rfl, ?_, rfl⟩
                                  try simp only [Act.put, List.setIfInBounds_toArray, List.set_cons_succ, List.set_cons_zero]
                                  rfl
                                simp only [Act.put, List.setIfInBounds_toArray, List.set_cons_succ, List.set_cons_zero]))
                refine Pu.WalkM.make (by rfl) ?_
                intro V hV
                rw [hV]
                clear hV V
                go_wp2_with (go_at_call 24; refine (cWk.out _ hn5).mono ?_; rintro e V5 ⟨rfl, hb5⟩)
                have hn6 := hn5.trans (hb5.mono hn5.size)
                refine ⟨rfl, .bool true, _, (fun V => V = V5), ?_, rfl, (fun V h => by rw [h]; exact ⟨hO76.same hn6, hX.same hn6, hxx.same hn6, hn6⟩), (.inr (fun _ h => h)), ?_⟩
                · simp only [Act.put, List.setIfInBounds_toArray, List.set_cons_succ, List.set_cons_zero]
                simp only [Act.put, List.setIfInBounds_toArray, List.set_cons_succ, List.set_cons_zero]
                iterate 02 (first
                             | (refine Pu.WalkM.off (by rfl) ?_; simp only [Act.put, List.setIfInBounds_toArray, List.set_cons_succ, List.set_cons_zero])
                             | (apply Pu.WalkM.on (by rfl)
                                · rintro V ⟨k7, kx, kd', kb⟩
                                  obtain ⟨y0, y1, y2, y3, y4⟩ := k7.five
                                  obtain ⟨u0, u1, u2, u3, u4⟩ := kx.five
                                  have zx := kd'.cell (j := 0) (v := .slice Ax es2.length cx) rfl
                                  go_wp2_with fail
                                  refine ⟨rfl, ?_, rfl⟩
                                  try simp only [Act.put, List.setIfInBounds_toArray, List.set_cons_succ, List.set_cons_zero]
                                  rfl
                                simp only [Act.put, List.setIfInBounds_toArray, List.set_cons_succ, List.set_cons_zero]))
                refine Pu.WalkM.nil ?_
                intro V hV
                rw [hV]
                clear hV V
                have HF := Lib.hid (HFIN.out _ hn6)
                go_wp2
                exact ⟨HF.out, by simp [intOf]; omega⟩
            · as_aux_lemma =>
                have hix2 : ix < es2.length := by have := hix; rw [← HE3.out] at this; simpa using this
                have hdx : es2[ix].1 = ⟨wmv, wfr, wto, wl, wcame⟩ := by
                  have h9 := HWD.out
                  rw [hi2, Option.getD_some] at h9
                  have h8 : ds2[ix]? = some es2[ix].1 := by rw [← HE3.out, List.getElem?_map, List.getElem?_eq_getElem hix2]; rfl
                  rw [List.getElem?_eq_getElem hix, h9] at h8
                  exact (Option.some.inj h8).symm
                simp only [hi1, hi2, Option.isSome_some]
                have hnst := HD6.out.nest es2[ix] (List.getElem_mem hix2)
                clear hi1 hi2 hidx
                obtain ⟨rb, ro, rfl, -, hrb, c0, c1, c2, c3, c4⟩ := docAt_cell (Sl.of_own HVX.out) hix2
                generalize es2[ix] = pp at *
                obtain ⟨dd, plv⟩ := pp
                try dsimp only at hdx hnst c0 c1 c2 c3 c4
                subst hdx
                try dsimp only at hnst c0 c1 c2 c3 c4
                obtain ⟨Ap, cp, hplv, -⟩ := hnst.form
                try dsimp only at hplv
                subst hplv
                have cS := Lib.hid (fun V (hb : Below W6.heap.size W6 V) => (by have := sameW_calls ⟨wmv, wfr, wto, wl, wcame⟩ ⟨wmv, wfr, wto, wl, wcame⟩ (.slice Aw wl.length cw) (.slice Ap wl.length cp) V (hIw6.mono hb hb.size) ((hnst.below (hb.mono HB6.out.size)).wide (Nat.le_refl _) (Nat.le_trans HB6.out.size hb.size)); rw [(sameW_iff _ _).2 rfl] at this; simp only [wayV] at this; exact this : Calls Try.prog 21 #[.agg #[.int .i64 wmv, .int .i64 wfr, .int .i64 wto, .slice Aw wl.length cw, .bool wcame], .agg #[.int .i64 wmv, .int .i64 wfr, .int .i64 wto, .slice Ap wl.length cp, .bool wcame]] V fun e w' => e = .returned (.bool true) ∧ Below V.heap.size V w'))
                have l1 : (0 : Int) ≤ (ix : Int) := by omega
                have l2 : (ix : Int) < (es2.length : Int) := by omega
                clear hnst
                have hdi1 : decide ((ix : Int) ≥ 0) = true := by simp
                have hdi2 : decide ((ix : Int) < 0) = false := by simp
                refine Pu.regionM [(0, false), (1, false), (2, false), (3, false), (4, false), (5, false), (6, false), (7, false), (8, false), (9, false), (10, false), (11, false), (12, false), (13, false), (14, false), (15, false), (16, false), (17, false), (18, false), (19, false), (20, true), (21, false), (22, false), (23, false), (24, false), (25, false), (26, false), (27, false), (28, false), (29, false), (30, true), (31, false), (32, false), (33, false), (34, false), (35, false), (36, false), (37, false), (38, false), (39, false), (41, false), (42, false), (43, false), (44, false), (45, false), (40, true), (46, true), (47, true), (48, false), (49, false), (50, false), (51, false), (52, false), (53, true), (54, false), (55, false)] (fun V => Ob V wr.heap.size 32 #[.int .i64 2, .int .i64 mv, .int .i64 fr, .int .i64 to_, .slice Al l.length cl] ∧ Ob V W5.heap.size 42 #[.int .i64 wmv, .int .i64 wfr, .int .i64 wto, .slice Aw wl.length cw, .bool wcame] ∧ Ob V xb 28 #[.slice (some ⟨rb, ro, none⟩) es2.length cx] ∧ Below W6.heap.size W6 V) hmx (by kernel_rfl) (by kernel_rfl) (by kernel_rfl) ⟨hO76, hX, hxx, hdr⟩ rfl ?_
                simp only [Pu.named, List.filterMap_cons, List.filterMap_nil, List.getElem?_toArray, List.getElem?_cons_succ, List.getElem?_cons_zero, Option.map_some]
                iterate 20 (first
                             | (refine Pu.WalkM.off (by rfl) ?_; simp only [Act.put, List.setIfInBounds_toArray, List.set_cons_succ, List.set_cons_zero])
                             | (apply Pu.WalkM.on (by rfl)
                                · rintro V ⟨k7, kx, kd', kb⟩
                                  obtain ⟨y0, y1, y2, y3, y4⟩ := k7.five
                                  obtain ⟨u0, u1, u2, u3, u4⟩ := kx.five
                                  have zx := kd'.cell (j := 0) (v := .slice (some ⟨rb, ro, none⟩) es2.length cx) rfl
                                  have r0 := (kb.cell (p := ⟨rb, ro + ix * 5, none⟩) hrb).trans c0
                                  have r1 := (kb.cell (p := ⟨rb, ro + ix * 5 + 1, none⟩) hrb).trans c1
                                  have r2 := (kb.cell (p := ⟨rb, ro + ix * 5 + 2, none⟩) hrb).trans c2
                                  have r3 := (kb.cell (p := ⟨rb, ro + ix * 5 + 3, none⟩) hrb).trans c3
                                  have r4 := (kb.cell (p := ⟨rb, ro + ix * 5 + 4, none⟩) hrb).trans c4
                                  go_wp2_with fail
                                  refine ⟨rfl, ?_, rfl⟩
                                  try simp only [Act.put, List.setIfInBounds_toArray, List.set_cons_succ, List.set_cons_zero]
                                  rfl
                                simp only [Act.put, List.setIfInBounds_toArray, List.set_cons_succ, List.set_cons_zero]))
                refine Pu.WalkM.make (by rfl) ?_
                intro V hV
                rw [hV]
                clear hV V
                go_wp2_with (go_at_call 21; refine (cS.out _ hdr).mono ?_; rintro e V1 ⟨rfl, hb1⟩)
                have hn1 := hdr.trans hb1
                refine ⟨rfl, .bool true, _, (fun V => V = V1), ?_, rfl, (fun V h => by rw [h]; exact ⟨hO76.same hn1, hX.same hn1, hxx.same hn1, hn1⟩), (.inr (fun _ h => h)), ?_⟩
                · simp only [Act.put, List.setIfInBounds_toArray, List.set_cons_succ, List.set_cons_zero]
                simp only [Act.put, List.setIfInBounds_toArray, List.set_cons_succ, List.set_cons_zero]
                iterate 09 (first
                             | (refine Pu.WalkM.off (by rfl) ?_; simp only [Act.put, List.setIfInBounds_toArray, List.set_cons_succ, List.set_cons_zero])
                             | (apply Pu.WalkM.on (by rfl)
                                · rintro V ⟨k7, kx, kd', kb⟩
                                  obtain ⟨y0, y1, y2, y3, y4⟩ := k7.five
                                  obtain ⟨u0, u1, u2, u3, u4⟩ := kx.five
                                  have zx := kd'.cell (j := 0) (v := .slice (some ⟨rb, ro, none⟩) es2.length cx) rfl
                                  have r0 := (kb.cell (p := ⟨rb, ro + ix * 5, none⟩) hrb).trans c0
                                  have r1 := (kb.cell (p := ⟨rb, ro + ix * 5 + 1, none⟩) hrb).trans c1
                                  have r2 := (kb.cell (p := ⟨rb, ro + ix * 5 + 2, none⟩) hrb).trans c2
                                  have r3 := (kb.cell (p := ⟨rb, ro + ix * 5 + 3, none⟩) hrb).trans c3
                                  have r4 := (kb.cell (p := ⟨rb, ro + ix * 5 + 4, none⟩) hrb).trans c4
                                  go_wp2_with fail
                                  refine ⟨rfl, ?_, rfl⟩
                                  try simp only [Act.put, List.setIfInBounds_toArray, List.set_cons_succ, List.set_cons_zero]
                                  rfl
                                simp only [Act.put, List.setIfInBounds_toArray, List.set_cons_succ, List.set_cons_zero]))
                refine Pu.WalkM.off (by rfl) ?_
                simp only [Act.put, List.setIfInBounds_toArray, List.set_cons_succ, List.set_cons_zero]
                have hn2 := hn1
                iterate 14 (first
                             | (refine Pu.WalkM.off (by rfl) ?_; simp only [Act.put, List.setIfInBounds_toArray, List.set_cons_succ, List.set_cons_zero])
                             | (apply Pu.WalkM.on (by rfl)
                                · rintro V ⟨k7, kx, kd', kb⟩
                                  obtain ⟨y0, y1, y2, y3, y4⟩ := k7.five
                                  obtain ⟨u0, u1, u2, u3, u4⟩ := kx.five
                                  have zx := kd'.cell (j := 0) (v := .slice (some ⟨rb, ro, none⟩) es2.length cx) rfl
                                  have r0 := (kb.cell (p := ⟨rb, ro + ix * 5, none⟩) hrb).trans c0
                                  have r1 := (kb.cell (p := ⟨rb, ro + ix * 5 + 1, none⟩) hrb).trans c1
                                  have r2 := (kb.cell (p := ⟨rb, ro + ix * 5 + 2, none⟩) hrb).trans c2
                                  have r3 := (kb.cell (p := ⟨rb, ro + ix * 5 + 3, none⟩) hrb).trans c3
                                  have r4 := (kb.cell (p := ⟨rb, ro + ix * 5 + 4, none⟩) hrb).trans c4
                                  go_wp2_with fail
                                  refine ⟨rfl, ?_, rfl⟩
                                  try simp only [Act.put, List.setIfInBounds_toArray, List.set_cons_succ, List.set_cons_zero]
                                  rfl
                                simp only [Act.put, List.setIfInBounds_toArray, List.set_cons_succ, List.set_cons_zero]))
                refine Pu.WalkM.make (by rfl) ?_
                intro V hV
                rw [hV]
                clear hV V
                go_wp2_with (go_at_call 22; refine (cU.out _ hn2).mono ?_; rintro e V2 ⟨⟨uv, rfl, huv⟩, hb2⟩)
                have hn3 := hn2.trans (hb2.mono hn2.size)
                have HUV := Lib.hid (toAt huv)
                obtain ⟨Au, cu, rfl, -⟩ := (toAt huv).form
                refine ⟨rfl, .slice Au UL.length cu, _, (fun V => V = V2), ?_, rfl, (fun V h => by rw [h]; exact ⟨hO76.same hn3, hX.same hn3, hxx.same hn3, hn3⟩), (.inr (fun _ h => h)), ?_⟩
                · simp only [Act.put, List.setIfInBounds_toArray, List.set_cons_succ, List.set_cons_zero]
                simp only [Act.put, List.setIfInBounds_toArray, List.set_cons_succ, List.set_cons_zero]
                refine Pu.WalkM.make (by rfl) ?_
                intro V hV
                rw [hV]
                clear hV V
                go_wp2_with (go_at_call 23; refine (CR.out _ hn3).mono ?_; rintro e V3 ⟨⟨tv, rfl, htv⟩, hb3⟩)
                have hn4 := hn3.trans (hb3.mono hn3.size)
                have HTV := Lib.hid (toAt htv)
                obtain ⟨At, ct, rfl, -⟩ := (toAt htv).form
                have cS2 := refsame_calls UL UL _ _ V3 (HUV.out.mono hb3 hb3.size) HTV.out
                rw [decide_eq_true rfl] at cS2
                have CS2 := Lib.hid cS2
                clear cS2
                refine ⟨rfl, .slice At UL.length ct, _, (fun V => V = V3), ?_, rfl, (fun V h => by rw [h]; exact ⟨hO76.same hn4, hX.same hn4, hxx.same hn4, hn4⟩), (.inr (fun _ h => h)), ?_⟩
                · simp only [Act.put, List.setIfInBounds_toArray, List.set_cons_succ, List.set_cons_zero]
                simp only [Act.put, List.setIfInBounds_toArray, List.set_cons_succ, List.set_cons_zero]
                refine Pu.WalkM.make (by rfl) ?_
                intro V hV
                rw [hV]
                clear hV V
                go_wp2_with (go_at_call 16; refine CS2.out.mono ?_; rintro e V4 ⟨rfl, hb4⟩)
                have hn5 := hn4.trans (hb4.mono hn4.size)
                refine ⟨rfl, .bool true, _, (fun V => V = V4), ?_, rfl, (fun V h => by rw [h]; exact ⟨hO76.same hn5, hX.same hn5, hxx.same hn5, hn5⟩), (.inr (fun _ h => h)), ?_⟩
                · simp only [Act.put, List.setIfInBounds_toArray, List.set_cons_succ, List.set_cons_zero]
                simp only [Act.put, List.setIfInBounds_toArray, List.set_cons_succ, List.set_cons_zero]
                iterate 05 (first
                             | (refine Pu.WalkM.off (by rfl) ?_; simp only [Act.put, List.setIfInBounds_toArray, List.set_cons_succ, List.set_cons_zero])
                             | (apply Pu.WalkM.on (by rfl)
                                · rintro V ⟨k7, kx, kd', kb⟩
                                  obtain ⟨y0, y1, y2, y3, y4⟩ := k7.five
                                  obtain ⟨u0, u1, u2, u3, u4⟩ := kx.five
                                  have zx := kd'.cell (j := 0) (v := .slice (some ⟨rb, ro, none⟩) es2.length cx) rfl
                                  have r0 := (kb.cell (p := ⟨rb, ro + ix * 5, none⟩) hrb).trans c0
                                  have r1 := (kb.cell (p := ⟨rb, ro + ix * 5 + 1, none⟩) hrb).trans c1
                                  have r2 := (kb.cell (p := ⟨rb, ro + ix * 5 + 2, none⟩) hrb).trans c2
                                  have r3 := (kb.cell (p := ⟨rb, ro + ix * 5 + 3, none⟩) hrb).trans c3
                                  have r4 := (kb.cell (p := ⟨rb, ro + ix * 5 + 4, none⟩) hrb).trans c4
                                  go_wp2_with fail
                                  refine ⟨rfl, ?_, rfl⟩
                                  try simp only [Act.put, List.setIfInBounds_toArray, List.set_cons_succ, List.set_cons_zero]
                                  rfl
                                simp only [Act.put, List.setIfInBounds_toArray, List.set_cons_succ, List.set_cons_zero]))
                refine Pu.WalkM.make (by rfl) ?_
                intro V hV
                rw [hV]
                clear hV V
                go_wp2_with (go_at_call 24; refine (cWk.out _ hn5).mono ?_; rintro e V5 ⟨rfl, hb5⟩)
                have hn6 := hn5.trans (hb5.mono hn5.size)
                refine ⟨rfl, .bool true, _, (fun V => V = V5), ?_, rfl, (fun V h => by rw [h]; exact ⟨hO76.same hn6, hX.same hn6, hxx.same hn6, hn6⟩), (.inr (fun _ h => h)), ?_⟩
                · simp only [Act.put, List.setIfInBounds_toArray, List.set_cons_succ, List.set_cons_zero]
                simp only [Act.put, List.setIfInBounds_toArray, List.set_cons_succ, List.set_cons_zero]
                iterate 02 (first
                             | (refine Pu.WalkM.off (by rfl) ?_; simp only [Act.put, List.setIfInBounds_toArray, List.set_cons_succ, List.set_cons_zero])
                             | (apply Pu.WalkM.on (by rfl)
                                · rintro V ⟨k7, kx, kd', kb⟩
                                  obtain ⟨y0, y1, y2, y3, y4⟩ := k7.five
                                  obtain ⟨u0, u1, u2, u3, u4⟩ := kx.five
                                  have zx := kd'.cell (j := 0) (v := .slice (some ⟨rb, ro, none⟩) es2.length cx) rfl
                                  have r0 := (kb.cell (p := ⟨rb, ro + ix * 5, none⟩) hrb).trans c0
                                  have r1 := (kb.cell (p := ⟨rb, ro + ix * 5 + 1, none⟩) hrb).trans c1
                                  have r2 := (kb.cell (p := ⟨rb, ro + ix * 5 + 2, none⟩) hrb).trans c2
                                  have r3 := (kb.cell (p := ⟨rb, ro + ix * 5 + 3, none⟩) hrb).trans c3
                                  have r4 := (kb.cell (p := ⟨rb, ro + ix * 5 + 4, none⟩) hrb).trans c4
                                  go_wp2_with fail
                                  refine ⟨rfl, ?_, rfl⟩
                                  try simp only [Act.put, List.setIfInBounds_toArray, List.set_cons_succ, List.set_cons_zero]
                                  rfl
                                simp only [Act.put, List.setIfInBounds_toArray, List.set_cons_succ, List.set_cons_zero]))
                refine Pu.WalkM.nil ?_
                intro V hV
                rw [hV]
                clear hV V
                have HF := Lib.hid (HFIN.out _ hn6)
                go_wp2
                exact ⟨HF.out, by simp [intOf]; omega⟩
          · have e2b : (kd == 2) = false := by simpa using e2
            by_cases e3 : kd = 3
            · subst e3
              clear e1 e1b e2 e2b
              have HSO := Lib.hid (show Sorted (es.map (·.1)) from by rw [HE.out]; exact HM.out.sorted)
              generalize hcR : forgetOf ds mv = R at *
              obtain ⟨ds2, ac⟩ := R
              have hO7d : Ob (wr.alloc (.cells #[.int .i64 3, .int .i64 mv, .int .i64 fr, .int .i64 to_, .slice Al l.length cl] 32)).drew wr.heap.size 32 #[.int .i64 3, .int .i64 mv, .int .i64 fr, .int .i64 to_, .slice Al l.length cl] := hO7
              have hdr0 := (Below.refl (wr.alloc (.cells #[.int .i64 3, .int .i64 mv, .int .i64 fr, .int .i64 to_, .slice Al l.length cl] 32)).heap.size (wr.alloc (.cells #[.int .i64 3, .int .i64 mv, .int .i64 fr, .int .i64 to_, .slice Al l.length cl] 32))).drew
              have cC := forget_calls mv b mb _ ds _ (HM.out.same hdr0) hOK.out.mv.1 hOK.out.mv.2
              rw [hcR] at cC
              have CC := Lib.hid cC
              go_wp2_with fail
              clear q0 q1 q2 q3 q4 cC
              have hxx0 : True := trivial
              refine Pu.regionM [(0, false), (1, false), (2, false), (4, false), (5, false), (6, false), (3, true), (7, true), (8, false), (9, false)] (fun V => Ob V wr.heap.size 32 #[.int .i64 3, .int .i64 mv, .int .i64 fr, .int .i64 to_, .slice Al l.length cl]) hmx (by kernel_rfl) (by kernel_rfl) (by kernel_rfl) hO7d rfl ?_
              simp only [Pu.named, List.filterMap_cons, List.filterMap_nil, List.getElem?_toArray, List.getElem?_cons_succ, List.getElem?_cons_zero, Option.map_some]
              iterate 06 (apply Pu.WalkM.on (by rfl)
                          · intro V hOV
                            obtain ⟨y0, y1, y2, y3, y4⟩ := hOV.five
                            go_wp2_with fail
                            refine ⟨rfl, ?_, rfl⟩
                            try simp only [Act.put, List.setIfInBounds_toArray, List.set_cons_succ, List.set_cons_zero]
                            rfl
                          simp only [Act.put, List.setIfInBounds_toArray, List.set_cons_succ, List.set_cons_zero])
              refine Pu.WalkM.make (by rfl) ?_
              intro V hV
              rw [hV]
              clear hV V
              go_wp2_with (go_at_call 17; refine CC.out.mono ?_; rintro e W1 ⟨rfl, hM1, hg1⟩)
              have hO71 := hO7d.kept hg1 (fun e => by have := Option.some.inj e; omega)
              have hB1 := below_far (HB.out.drew) hg1 (Nat.le_refl _) hlm
              have hD1 := (HD.out.same hdr0 HB.out.size).kept hg1 (fun e => hnx.2 e.symm) HB.out.size hlm (HM.out.same hdr0).map_block
              have cR := refforget_calls mv xb w.heap.size es W1 hD1 HSO.out hB1.size hxb
              rw [HE.out, hcR] at cR
              have CR := Lib.hid cR
              clear cR
              refine ⟨rfl, .int .i64 ac, _, (fun V => V = W1), ?_, rfl, (fun V h => by rw [h]; exact hO71), (.inr (fun _ h => h)), ?_⟩
              · simp only [Act.put, List.setIfInBounds_toArray, List.set_cons_succ, List.set_cons_zero]
              simp only [Act.put, List.setIfInBounds_toArray, List.set_cons_succ, List.set_cons_zero]
              refine Pu.WalkM.make (by rfl) ?_
              intro V hV
              rw [hV]
              clear hV V
              go_wp2_with (go_at_call 18; refine CR.out.mono ?_; rintro e W2 ⟨es2, rfl, hes2, hD2, hg2⟩)
              have hO72 := hO71.kept hg2 (fun e => by have := Option.some.inj e; omega)
              have hB2 := below_far hB1 hg2 (Nat.le_refl _) hxb
              have hM2 := hM1.kept hg2 (fun g e => by cases e; exact .inl rfl)
              refine ⟨rfl, .int .i64 ac, _, (fun V => V = W2), ?_, rfl, (fun V h => by rw [h]; exact hO72), (.inr (fun _ h => h)), ?_⟩
              · simp only [Act.put, List.setIfInBounds_toArray, List.set_cons_succ, List.set_cons_zero]
              simp only [Act.put, List.setIfInBounds_toArray, List.set_cons_succ, List.set_cons_zero]
              iterate 02 (apply Pu.WalkM.on (by rfl)
                          · intro V hOV
                            go_wp2_with fail
                            refine ⟨rfl, ?_, rfl⟩
                            try simp only [Act.put, List.setIfInBounds_toArray, List.set_cons_succ, List.set_cons_zero]
                            rfl
                          simp only [Act.put, List.setIfInBounds_toArray, List.set_cons_succ, List.set_cons_zero])
              refine Pu.WalkM.nil ?_
              intro V hV
              rw [hV]
              clear hV V
              have HB2 := Lib.hid hB2
              have HM2 := Lib.hid hM2
              have HD2 := Lib.hid hD2
              have HE2 := Lib.hid hes2
              clear hB2 hM2 hD2 hes2 hg1 hg2 hO71 hO7d hO7 hM1 hD1 hB1 HM HD HE HB HSO CC CR hcR
              have cMv := Lib.hid (move_calls mv b mb _ ds2 W2 HM2.out hOK.out.mv.1 hOK.out.mv.2)
              have HOKD := Lib.hid HM2.out.ok
              try clear q0 q1 q2 q3 q4
              obtain ⟨q0, q1, q2, q3, q4⟩ := hO72.five
              go_wp2_with fail
              refine cMv.out.mono ?_
              rintro e W5 ⟨⟨wv, rfl, hwv⟩, hb5⟩
              clear cMv
              have hIw := toAt hwv
              have HFD := Lib.hid (@idx_find ds2 mv)
              have hidx := idx_find' ds2 mv
              generalize hwd : (findW ds2 mv).getD way0 = wd at *
              have HWD := Lib.hid hwd
              clear hwd hwv
              obtain ⟨wmv, wfr, wto, wl, wcame⟩ := wd
              obtain ⟨Aw, cw, rfl, -⟩ := hIw.form
              dsimp only [wayV] at hIw ⊢
              have hal5 := (Below.refl W5.heap.size W5).alloc (Nat.le_refl _) (.cells #[.int .i64 wmv, .int .i64 wfr, .int .i64 wto, .slice Aw wl.length cw, .bool wcame] 42)
              have hX := Ob.new W5 42 #[.int .i64 wmv, .int .i64 wfr, .int .i64 wto, .slice Aw wl.length cw, .bool wcame]
              have hb6 := hb5.trans (hal5.mono hb5.size)
              have HB6 := Lib.hid (HB2.out.trans (hb6.mono HB2.out.size))
              have HM6 := Lib.hid (HM2.out.same hb6)
              have HD6 := Lib.hid (HD2.out.same hb6 HB2.out.size)
              have hO76 := (hO72.same hb5).alloc (.cells #[.int .i64 wmv, .int .i64 wfr, .int .i64 wto, .slice Aw wl.length cw, .bool wcame] 42)
              have hIw6 := hIw.mono hal5 hal5.size
              have cFi := find_calls mv xb w.heap.size es2 _ HD6.out
              rw [HE2.out] at cFi
              have CFI := Lib.hid cFi
              try clear q0 q1 q2 q3 q4
              clear cFi hIw hal5 hb5 hb6
              obtain ⟨q0, q1, q2, q3, q4⟩ := hO76.five
              go_wp2_with (go_at_call 20; refine CFI.out.mono ?_; rintro e W' ⟨rfl, rfl⟩)
              generalize W5.alloc (.cells #[.int .i64 wmv, .int .i64 wfr, .int .i64 wto, .slice Aw wl.length cw, .bool wcame] 42) = W6 at *
              obtain ⟨vx, hxx, hvx⟩ := HD6.out.ob
              obtain ⟨Ax, cx, rfl, hcx1, hcx2, -⟩ := (Sl.of_own hvx).at_
              unfold maxLen at hcx2
              have HVX := Lib.hid hvx
              have hw5 : W5.heap.size < W6.heap.size := hX.lt
              have hdr := (Below.refl W6.heap.size W6).drew
              have cU := Lib.hid (fun V (hb : Below W6.heap.size W6 V) => under_calls fr to_ b mb _ ds2 V (HM6.out.same hb))
              have cR := (fun V (hb : Below W6.heap.size W6 V) => refunder_calls fr to_ xb w.heap.size es2 V (HD6.out.same hb HB6.out.size) (Nat.le_trans HB6.out.size hb.size) (ok_docs HE2.out HOKD.out))
              rw [HE2.out] at cR
              have CR := Lib.hid cR
              have cWk := Lib.hid (fun V (hb : Below W6.heap.size W6 V) => walks_calls b mb xb w.heap.size _ ds2 es2 V (HM6.out.same hb) (HD6.out.same hb HB6.out.size) HE2.out (Nat.le_trans HB6.out.size hb.size))
              generalize underOf fr to_ ds2 = UL at *
              clear cR hvx q0 q1 q2 q3 q4 CFI
              have HFIN := Lib.hid (fun V (hb : Below W6.heap.size W6 V) => show (∃ (k' : Nat) (ds' : List Way) (es' : List (Way × Value)), k' ≤ os.length ∧ Value.int .i64 ((k : Int) + 1) = .int .i64 k' ∧ Below w.heap.size w V ∧ MvAt V b mb (fun i => i = xb) ds' ∧ DocAt V xb w.heap.size es' ∧ es'.map (·.1) = ds') from ⟨k + 1, ds2, es2, by omega, by go_num, HB6.out.trans (hb.mono HB6.out.size), HM6.out.same hb, HD6.out.same hb HB6.out.size, HE2.out⟩)
              rcases HFD.out with ⟨hi1, hi2⟩ | ⟨ix, hix, hi1, hi2, -⟩
              · as_aux_lemma =>
                  have hwd0 := HWD.out
                  rw [hi2] at hwd0
                  obtain ⟨rfl, rfl, rfl, rfl, rfl⟩ : wmv = 0 ∧ wfr = 0 ∧ wto = 0 ∧ wl = [] ∧ wcame = false := by simpa [way0, Eq.comm] using hwd0
                  simp only [hi1, hi2, Option.isSome_none, List.length_nil]
                  simp only [List.length_nil] at hX
                  have cS := Lib.hid (fun V (hb : Below W6.heap.size W6 V) => (by have := sameW_calls way0 way0 (.slice Aw 0 cw) (.slice none 0 0) V (hIw6.mono hb hb.size) (ItemsAt.nil _ _ _); rw [(sameW_iff _ _).2 rfl] at this; simp only [wayV, way0] at this; exact this : Calls Try.prog 21 #[.agg #[.int .i64 0, .int .i64 0, .int .i64 0, .slice Aw 0 cw, .bool false], .agg #[.int .i64 0, .int .i64 0, .int .i64 0, .slice none 0 0, .bool false]] V fun e w' => e = .returned (.bool true) ∧ Below V.heap.size V w'))
                  clear hwd0 hi1 hi2 hidx
                  refine Pu.regionM [(0, false), (1, false), (2, false), (3, false), (4, false), (5, false), (6, false), (7, false), (8, false), (9, false), (10, false), (11, false), (12, false), (13, false), (14, false), (15, false), (16, false), (17, false), (18, false), (19, false), (20, true), (21, false), (22, false), (23, false), (24, false), (25, false), (26, false), (27, false), (28, false), (29, false), (30, true), (31, false), (32, false), (33, false), (34, false), (35, false), (36, false), (37, false), (38, false), (39, false), (41, false), (42, false), (43, false), (44, false), (45, false), (40, true), (46, true), (47, true), (48, false), (49, false), (50, false), (51, false), (52, false), (53, true), (54, false), (55, false)] (fun V => Ob V wr.heap.size 32 #[.int .i64 3, .int .i64 mv, .int .i64 fr, .int .i64 to_, .slice Al l.length cl] ∧ Ob V W5.heap.size 42 #[.int .i64 0, .int .i64 0, .int .i64 0, .slice Aw 0 cw, .bool false] ∧ Ob V xb 28 #[.slice Ax es2.length cx] ∧ Below W6.heap.size W6 V) hmx (by kernel_rfl) (by kernel_rfl) (by kernel_rfl) ⟨hO76, hX, hxx, hdr⟩ rfl ?_
                  simp only [Pu.named, List.filterMap_cons, List.filterMap_nil, List.getElem?_toArray, List.getElem?_cons_succ, List.getElem?_cons_zero, Option.map_some]
                  iterate 20 (first
                               | (refine Pu.WalkM.off (by rfl) ?_; simp only [Act.put, List.setIfInBounds_toArray, List.set_cons_succ, List.set_cons_zero])
                               | (apply Pu.WalkM.on (by rfl)
                                  · rintro V ⟨k7, kx, kd', kb⟩
                                    obtain ⟨y0, y1, y2, y3, y4⟩ := k7.five
                                    obtain ⟨u0, u1, u2, u3, u4⟩ := kx.five
                                    have zx := kd'.cell (j := 0) (v := .slice Ax es2.length cx) rfl
                                    go_wp2_with fail
                                    refine ⟨rfl, ?_, rfl⟩
                                    try simp only [Act.put, List.setIfInBounds_toArray, List.set_cons_succ, List.set_cons_zero]
                                    rfl
                                  simp only [Act.put, List.setIfInBounds_toArray, List.set_cons_succ, List.set_cons_zero]))
                  refine Pu.WalkM.off (by rfl) ?_
                  simp only [Act.put, List.setIfInBounds_toArray, List.set_cons_succ, List.set_cons_zero]
                  have hn1 := hdr
                  iterate 09 (first
                               | (refine Pu.WalkM.off (by rfl) ?_; simp only [Act.put, List.setIfInBounds_toArray, List.set_cons_succ, List.set_cons_zero])
                               | (apply Pu.WalkM.on (by rfl)
                                  · rintro V ⟨k7, kx, kd', kb⟩
                                    obtain ⟨y0, y1, y2, y3, y4⟩ := k7.five
                                    obtain ⟨u0, u1, u2, u3, u4⟩ := kx.five
                                    have zx := kd'.cell (j := 0) (v := .slice Ax es2.length cx) rfl
                                    go_wp2_with fail
                                    refine ⟨rfl, ?_, rfl⟩
                                    try simp only [Act.put, List.setIfInBounds_toArray, List.set_cons_succ, List.set_cons_zero]
                                    rfl
                                  simp only [Act.put, List.setIfInBounds_toArray, List.set_cons_succ, List.set_cons_zero]))
                  refine Pu.WalkM.make (by rfl) ?_
                  intro V hV
                  rw [hV]
                  clear hV V
                  go_wp2_with (go_at_call 21; refine (cS.out _ hn1).mono ?_; rintro e V1 ⟨rfl, hb1⟩)
                  have hn2 := hn1.trans (hb1.mono hn1.size)
                  refine ⟨rfl, .bool true, _, (fun V => V = V1), ?_, rfl, (fun V h => by rw [h]; exact ⟨hO76.same hn2, hX.same hn2, hxx.same hn2, hn2⟩), (.inr (fun _ h => h)), ?_⟩
                  · simp only [Act.put, List.setIfInBounds_toArray, List.set_cons_succ, List.set_cons_zero]
                  simp only [Act.put, List.setIfInBounds_toArray, List.set_cons_succ, List.set_cons_zero]
                  iterate 14 (first
                               | (refine Pu.WalkM.off (by rfl) ?_; simp only [Act.put, List.setIfInBounds_toArray, List.set_cons_succ, List.set_cons_zero])
                               | (apply Pu.WalkM.on (by rfl)
                                  · rintro V ⟨k7, kx, kd', kb⟩
                                    obtain ⟨y0, y1, y2, y3, y4⟩ := k7.five
                                    obtain ⟨u0, u1, u2, u3, u4⟩ := kx.five
                                    have zx := kd'.cell (j := 0) (v := .slice Ax es2.length cx) rfl
                                    go_wp2_with fail
                                    refine ⟨rfl, ?_, rfl⟩
                                    try simp only [Act.put, List.setIfInBounds_toArray, List.set_cons_succ, List.set_cons_zero]
                                    rfl
                                  simp only [Act.put, List.setIfInBounds_toArray, List.set_cons_succ, List.set_cons_zero]))
                  refine Pu.WalkM.make (by rfl) ?_
                  intro V hV
                  rw [hV]
                  clear hV V
                  go_wp2_with (go_at_call 22; refine (cU.out _ hn2).mono ?_; rintro e V2 ⟨⟨uv, rfl, huv⟩, hb2⟩)
                  have hn3 := hn2.trans (hb2.mono hn2.size)
                  have HUV := Lib.hid (toAt huv)
                  obtain ⟨Au, cu, rfl, -⟩ := (toAt huv).form
                  refine ⟨rfl, .slice Au UL.length cu, _, (fun V => V = V2), ?_, rfl, (fun V h => by rw [h]; exact ⟨hO76.same hn3, hX.same hn3, hxx.same hn3, hn3⟩), (.inr (fun _ h => h)), ?_⟩
                  · simp only [Act.put, List.setIfInBounds_toArray, List.set_cons_succ, List.set_cons_zero]
                  simp only [Act.put, List.setIfInBounds_toArray, List.set_cons_succ, List.set_cons_zero]
                  refine Pu.WalkM.make (by rfl) ?_
                  intro V hV
                  rw [hV]
                  clear hV V
                  go_wp2_with (go_at_call 23; refine (CR.out _ hn3).mono ?_; rintro e V3 ⟨⟨tv, rfl, htv⟩, hb3⟩)
                  have hn4 := hn3.trans (hb3.mono hn3.size)
                  have HTV := Lib.hid (toAt htv)
                  obtain ⟨At, ct, rfl, -⟩ := (toAt htv).form
                  have cS2 := refsame_calls UL UL _ _ V3 (HUV.out.mono hb3 hb3.size) HTV.out
                  rw [decide_eq_true rfl] at cS2
                  have CS2 := Lib.hid cS2
                  clear cS2
                  refine ⟨rfl, .slice At UL.length ct, _, (fun V => V = V3), ?_, rfl, (fun V h => by rw [h]; exact ⟨hO76.same hn4, hX.same hn4, hxx.same hn4, hn4⟩), (.inr (fun _ h => h)), ?_⟩
                  · simp only [Act.put, List.setIfInBounds_toArray, List.set_cons_succ, List.set_cons_zero]
                  simp only [Act.put, List.setIfInBounds_toArray, List.set_cons_succ, List.set_cons_zero]
                  refine Pu.WalkM.make (by rfl) ?_
                  intro V hV
                  rw [hV]
                  clear hV V
                  go_wp2_with (go_at_call 16; refine CS2.out.mono ?_; rintro e V4 ⟨rfl, hb4⟩)
                  have hn5 := hn4.trans (hb4.mono hn4.size)
                  refine ⟨rfl, .bool true, _, (fun V => V = V4), ?_, rfl, (fun V h => by rw [h]; exact ⟨hO76.same hn5, hX.same hn5, hxx.same hn5, hn5⟩), (.inr (fun _ h => h)), ?_⟩
                  · simp only [Act.put, List.setIfInBounds_toArray, List.set_cons_succ, List.set_cons_zero]
                  simp only [Act.put, List.setIfInBounds_toArray, List.set_cons_succ, List.set_cons_zero]
                  iterate 05 (first
                               | (refine Pu.WalkM.off (by rfl) ?_; simp only [Act.put, List.setIfInBounds_toArray, List.set_cons_succ, List.set_cons_zero])
                               | (apply Pu.WalkM.on (by rfl)
                                  · rintro V ⟨k7, kx, kd', kb⟩
                                    obtain ⟨y0, y1, y2, y3, y4⟩ := k7.five
                                    obtain ⟨u0, u1, u2, u3, u4⟩ := kx.five
                                    have zx := kd'.cell (j := 0) (v := .slice Ax es2.length cx) rfl
                                    go_wp2_with fail
                                    refine ⟨rfl, ?_, rfl⟩
                                    try simp only [Act.put, List.setIfInBounds_toArray, List.set_cons_succ, List.set_cons_zero]
                                    rfl
                                  simp only [Act.put, List.setIfInBounds_toArray, List.set_cons_succ, List.set_cons_zero]))
                  refine Pu.WalkM.make (by rfl) ?_
                  intro V hV
                  rw [hV]
                  clear hV V
                  go_wp2_with (go_at_call 24; refine (cWk.out _ hn5).mono ?_; rintro e V5 ⟨rfl, hb5⟩)
                  have hn6 := hn5.trans (hb5.mono hn5.size)
                  refine ⟨rfl, .bool true, _, (fun V => V = V5), ?_, rfl, (fun V h => by rw [h]; exact ⟨hO76.same hn6, hX.same hn6, hxx.same hn6, hn6⟩), (.inr (fun _ h => h)), ?_⟩
                  · simp only [Act.put, List.setIfInBounds_toArray, List.set_cons_succ, List.set_cons_zero]
                  simp only [Act.put, List.setIfInBounds_toArray, List.set_cons_succ, List.set_cons_zero]
                  iterate 02 (first
                               | (refine Pu.WalkM.off (by rfl) ?_; simp only [Act.put, List.setIfInBounds_toArray, List.set_cons_succ, List.set_cons_zero])
                               | (apply Pu.WalkM.on (by rfl)
                                  · rintro V ⟨k7, kx, kd', kb⟩
                                    obtain ⟨y0, y1, y2, y3, y4⟩ := k7.five
                                    obtain ⟨u0, u1, u2, u3, u4⟩ := kx.five
                                    have zx := kd'.cell (j := 0) (v := .slice Ax es2.length cx) rfl
                                    go_wp2_with fail
                                    refine ⟨rfl, ?_, rfl⟩
                                    try simp only [Act.put, List.setIfInBounds_toArray, List.set_cons_succ, List.set_cons_zero]
                                    rfl
                                  simp only [Act.put, List.setIfInBounds_toArray, List.set_cons_succ, List.set_cons_zero]))
                  refine Pu.WalkM.nil ?_
                  intro V hV
                  rw [hV]
                  clear hV V
                  have HF := Lib.hid (HFIN.out _ hn6)
                  go_wp2
                  exact ⟨HF.out, by simp [intOf]; omega⟩
              · as_aux_lemma =>
                  have hix2 : ix < es2.length := by have := hix; rw [← HE2.out] at this; simpa using this
                  have hdx : es2[ix].1 = ⟨wmv, wfr, wto, wl, wcame⟩ := by
                    have h9 := HWD.out
                    rw [hi2, Option.getD_some] at h9
                    have h8 : ds2[ix]? = some es2[ix].1 := by rw [← HE2.out, List.getElem?_map, List.getElem?_eq_getElem hix2]; rfl
                    rw [List.getElem?_eq_getElem hix, h9] at h8
                    exact (Option.some.inj h8).symm
                  simp only [hi1, hi2, Option.isSome_some]
                  have hnst := HD6.out.nest es2[ix] (List.getElem_mem hix2)
                  clear hi1 hi2 hidx
                  obtain ⟨rb, ro, rfl, -, hrb, c0, c1, c2, c3, c4⟩ := docAt_cell (Sl.of_own HVX.out) hix2
                  generalize es2[ix] = pp at *
                  obtain ⟨dd, plv⟩ := pp
                  try dsimp only at hdx hnst c0 c1 c2 c3 c4
                  subst hdx
                  try dsimp only at hnst c0 c1 c2 c3 c4
                  obtain ⟨Ap, cp, hplv, -⟩ := hnst.form
                  try dsimp only at hplv
                  subst hplv
                  have cS := Lib.hid (fun V (hb : Below W6.heap.size W6 V) => (by have := sameW_calls ⟨wmv, wfr, wto, wl, wcame⟩ ⟨wmv, wfr, wto, wl, wcame⟩ (.slice Aw wl.length cw) (.slice Ap wl.length cp) V (hIw6.mono hb hb.size) ((hnst.below (hb.mono HB6.out.size)).wide (Nat.le_refl _) (Nat.le_trans HB6.out.size hb.size)); rw [(sameW_iff _ _).2 rfl] at this; simp only [wayV] at this; exact this : Calls Try.prog 21 #[.agg #[.int .i64 wmv, .int .i64 wfr, .int .i64 wto, .slice Aw wl.length cw, .bool wcame], .agg #[.int .i64 wmv, .int .i64 wfr, .int .i64 wto, .slice Ap wl.length cp, .bool wcame]] V fun e w' => e = .returned (.bool true) ∧ Below V.heap.size V w'))
                  have l1 : (0 : Int) ≤ (ix : Int) := by omega
                  have l2 : (ix : Int) < (es2.length : Int) := by omega
                  clear hnst
                  have hdi1 : decide ((ix : Int) ≥ 0) = true := by simp
                  have hdi2 : decide ((ix : Int) < 0) = false := by simp
                  refine Pu.regionM [(0, false), (1, false), (2, false), (3, false), (4, false), (5, false), (6, false), (7, false), (8, false), (9, false), (10, false), (11, false), (12, false), (13, false), (14, false), (15, false), (16, false), (17, false), (18, false), (19, false), (20, true), (21, false), (22, false), (23, false), (24, false), (25, false), (26, false), (27, false), (28, false), (29, false), (30, true), (31, false), (32, false), (33, false), (34, false), (35, false), (36, false), (37, false), (38, false), (39, false), (41, false), (42, false), (43, false), (44, false), (45, false), (40, true), (46, true), (47, true), (48, false), (49, false), (50, false), (51, false), (52, false), (53, true), (54, false), (55, false)] (fun V => Ob V wr.heap.size 32 #[.int .i64 3, .int .i64 mv, .int .i64 fr, .int .i64 to_, .slice Al l.length cl] ∧ Ob V W5.heap.size 42 #[.int .i64 wmv, .int .i64 wfr, .int .i64 wto, .slice Aw wl.length cw, .bool wcame] ∧ Ob V xb 28 #[.slice (some ⟨rb, ro, none⟩) es2.length cx] ∧ Below W6.heap.size W6 V) hmx (by kernel_rfl) (by kernel_rfl) (by kernel_rfl) ⟨hO76, hX, hxx, hdr⟩ rfl ?_
                  simp only [Pu.named, List.filterMap_cons, List.filterMap_nil, List.getElem?_toArray, List.getElem?_cons_succ, List.getElem?_cons_zero, Option.map_some]
                  iterate 20 (first
                               | (refine Pu.WalkM.off (by rfl) ?_; simp only [Act.put, List.setIfInBounds_toArray, List.set_cons_succ, List.set_cons_zero])
                               | (apply Pu.WalkM.on (by rfl)
                                  · rintro V ⟨k7, kx, kd', kb⟩
                                    obtain ⟨y0, y1, y2, y3, y4⟩ := k7.five
                                    obtain ⟨u0, u1, u2, u3, u4⟩ := kx.five
                                    have zx := kd'.cell (j := 0) (v := .slice (some ⟨rb, ro, none⟩) es2.length cx) rfl
                                    have r0 := (kb.cell (p := ⟨rb, ro + ix * 5, none⟩) hrb).trans c0
                                    have r1 := (kb.cell (p := ⟨rb, ro + ix * 5 + 1, none⟩) hrb).trans c1
                                    have r2 := (kb.cell (p := ⟨rb, ro + ix * 5 + 2, none⟩) hrb).trans c2
                                    have r3 := (kb.cell (p := ⟨rb, ro + ix * 5 + 3, none⟩) hrb).trans c3
                                    have r4 := (kb.cell (p := ⟨rb, ro + ix * 5 + 4, none⟩) hrb).trans c4
                                    go_wp2_with fail
                                    refine ⟨rfl, ?_, rfl⟩
                                    try simp only [Act.put, List.setIfInBounds_toArray, List.set_cons_succ, List.set_cons_zero]
                                    rfl
                                  simp only [Act.put, List.setIfInBounds_toArray, List.set_cons_succ, List.set_cons_zero]))
                  refine Pu.WalkM.make (by rfl) ?_
                  intro V hV
                  rw [hV]
                  clear hV V
                  go_wp2_with (go_at_call 21; refine (cS.out _ hdr).mono ?_; rintro e V1 ⟨rfl, hb1⟩)
                  have hn1 := hdr.trans hb1
                  refine ⟨rfl, .bool true, _, (fun V => V = V1), ?_, rfl, (fun V h => by rw [h]; exact ⟨hO76.same hn1, hX.same hn1, hxx.same hn1, hn1⟩), (.inr (fun _ h => h)), ?_⟩
                  · simp only [Act.put, List.setIfInBounds_toArray, List.set_cons_succ, List.set_cons_zero]
                  simp only [Act.put, List.setIfInBounds_toArray, List.set_cons_succ, List.set_cons_zero]
                  iterate 09 (first
                               | (refine Pu.WalkM.off (by rfl) ?_; simp only [Act.put, List.setIfInBounds_toArray, List.set_cons_succ, List.set_cons_zero])
                               | (apply Pu.WalkM.on (by rfl)
                                  · rintro V ⟨k7, kx, kd', kb⟩
                                    obtain ⟨y0, y1, y2, y3, y4⟩ := k7.five
                                    obtain ⟨u0, u1, u2, u3, u4⟩ := kx.five
                                    have zx := kd'.cell (j := 0) (v := .slice (some ⟨rb, ro, none⟩) es2.length cx) rfl
                                    have r0 := (kb.cell (p := ⟨rb, ro + ix * 5, none⟩) hrb).trans c0
                                    have r1 := (kb.cell (p := ⟨rb, ro + ix * 5 + 1, none⟩) hrb).trans c1
                                    have r2 := (kb.cell (p := ⟨rb, ro + ix * 5 + 2, none⟩) hrb).trans c2
                                    have r3 := (kb.cell (p := ⟨rb, ro + ix * 5 + 3, none⟩) hrb).trans c3
                                    have r4 := (kb.cell (p := ⟨rb, ro + ix * 5 + 4, none⟩) hrb).trans c4
                                    go_wp2_with fail
                                    refine ⟨rfl, ?_, rfl⟩
                                    try simp only [Act.put, List.setIfInBounds_toArray, List.set_cons_succ, List.set_cons_zero]
                                    rfl
                                  simp only [Act.put, List.setIfInBounds_toArray, List.set_cons_succ, List.set_cons_zero]))
                  refine Pu.WalkM.off (by rfl) ?_
                  simp only [Act.put, List.setIfInBounds_toArray, List.set_cons_succ, List.set_cons_zero]
                  have hn2 := hn1
                  iterate 14 (first
                               | (refine Pu.WalkM.off (by rfl) ?_; simp only [Act.put, List.setIfInBounds_toArray, List.set_cons_succ, List.set_cons_zero])
                               | (apply Pu.WalkM.on (by rfl)
                                  · rintro V ⟨k7, kx, kd', kb⟩
                                    obtain ⟨y0, y1, y2, y3, y4⟩ := k7.five
                                    obtain ⟨u0, u1, u2, u3, u4⟩ := kx.five
                                    have zx := kd'.cell (j := 0) (v := .slice (some ⟨rb, ro, none⟩) es2.length cx) rfl
                                    have r0 := (kb.cell (p := ⟨rb, ro + ix * 5, none⟩) hrb).trans c0
                                    have r1 := (kb.cell (p := ⟨rb, ro + ix * 5 + 1, none⟩) hrb).trans c1
                                    have r2 := (kb.cell (p := ⟨rb, ro + ix * 5 + 2, none⟩) hrb).trans c2
                                    have r3 := (kb.cell (p := ⟨rb, ro + ix * 5 + 3, none⟩) hrb).trans c3
                                    have r4 := (kb.cell (p := ⟨rb, ro + ix * 5 + 4, none⟩) hrb).trans c4
                                    go_wp2_with fail
                                    refine ⟨rfl, ?_, rfl⟩
                                    try simp only [Act.put, List.setIfInBounds_toArray, List.set_cons_succ, List.set_cons_zero]
                                    rfl
                                  simp only [Act.put, List.setIfInBounds_toArray, List.set_cons_succ, List.set_cons_zero]))
                  refine Pu.WalkM.make (by rfl) ?_
                  intro V hV
                  rw [hV]
                  clear hV V
                  go_wp2_with (go_at_call 22; refine (cU.out _ hn2).mono ?_; rintro e V2 ⟨⟨uv, rfl, huv⟩, hb2⟩)
                  have hn3 := hn2.trans (hb2.mono hn2.size)
                  have HUV := Lib.hid (toAt huv)
                  obtain ⟨Au, cu, rfl, -⟩ := (toAt huv).form
                  refine ⟨rfl, .slice Au UL.length cu, _, (fun V => V = V2), ?_, rfl, (fun V h => by rw [h]; exact ⟨hO76.same hn3, hX.same hn3, hxx.same hn3, hn3⟩), (.inr (fun _ h => h)), ?_⟩
                  · simp only [Act.put, List.setIfInBounds_toArray, List.set_cons_succ, List.set_cons_zero]
                  simp only [Act.put, List.setIfInBounds_toArray, List.set_cons_succ, List.set_cons_zero]
                  refine Pu.WalkM.make (by rfl) ?_
                  intro V hV
                  rw [hV]
                  clear hV V
                  go_wp2_with (go_at_call 23; refine (CR.out _ hn3).mono ?_; rintro e V3 ⟨⟨tv, rfl, htv⟩, hb3⟩)
                  have hn4 := hn3.trans (hb3.mono hn3.size)
                  have HTV := Lib.hid (toAt htv)
                  obtain ⟨At, ct, rfl, -⟩ := (toAt htv).form
                  have cS2 := refsame_calls UL UL _ _ V3 (HUV.out.mono hb3 hb3.size) HTV.out
                  rw [decide_eq_true rfl] at cS2
                  have CS2 := Lib.hid cS2
                  clear cS2
                  refine ⟨rfl, .slice At UL.length ct, _, (fun V => V = V3), ?_, rfl, (fun V h => by rw [h]; exact ⟨hO76.same hn4, hX.same hn4, hxx.same hn4, hn4⟩), (.inr (fun _ h => h)), ?_⟩
                  · simp only [Act.put, List.setIfInBounds_toArray, List.set_cons_succ, List.set_cons_zero]
                  simp only [Act.put, List.setIfInBounds_toArray, List.set_cons_succ, List.set_cons_zero]
                  refine Pu.WalkM.make (by rfl) ?_
                  intro V hV
                  rw [hV]
                  clear hV V
                  go_wp2_with (go_at_call 16; refine CS2.out.mono ?_; rintro e V4 ⟨rfl, hb4⟩)
                  have hn5 := hn4.trans (hb4.mono hn4.size)
                  refine ⟨rfl, .bool true, _, (fun V => V = V4), ?_, rfl, (fun V h => by rw [h]; exact ⟨hO76.same hn5, hX.same hn5, hxx.same hn5, hn5⟩), (.inr (fun _ h => h)), ?_⟩
                  · simp only [Act.put, List.setIfInBounds_toArray, List.set_cons_succ, List.set_cons_zero]
                  simp only [Act.put, List.setIfInBounds_toArray, List.set_cons_succ, List.set_cons_zero]
                  iterate 05 (first
                               | (refine Pu.WalkM.off (by rfl) ?_; simp only [Act.put, List.setIfInBounds_toArray, List.set_cons_succ, List.set_cons_zero])
                               | (apply Pu.WalkM.on (by rfl)
                                  · rintro V ⟨k7, kx, kd', kb⟩
                                    obtain ⟨y0, y1, y2, y3, y4⟩ := k7.five
                                    obtain ⟨u0, u1, u2, u3, u4⟩ := kx.five
                                    have zx := kd'.cell (j := 0) (v := .slice (some ⟨rb, ro, none⟩) es2.length cx) rfl
                                    have r0 := (kb.cell (p := ⟨rb, ro + ix * 5, none⟩) hrb).trans c0
                                    have r1 := (kb.cell (p := ⟨rb, ro + ix * 5 + 1, none⟩) hrb).trans c1
                                    have r2 := (kb.cell (p := ⟨rb, ro + ix * 5 + 2, none⟩) hrb).trans c2
                                    have r3 := (kb.cell (p := ⟨rb, ro + ix * 5 + 3, none⟩) hrb).trans c3
                                    have r4 := (kb.cell (p := ⟨rb, ro + ix * 5 + 4, none⟩) hrb).trans c4
                                    go_wp2_with fail
                                    refine ⟨rfl, ?_, rfl⟩
                                    try simp only [Act.put, List.setIfInBounds_toArray, List.set_cons_succ, List.set_cons_zero]
                                    rfl
                                  simp only [Act.put, List.setIfInBounds_toArray, List.set_cons_succ, List.set_cons_zero]))
                  refine Pu.WalkM.make (by rfl) ?_
                  intro V hV
                  rw [hV]
                  clear hV V
                  go_wp2_with (go_at_call 24; refine (cWk.out _ hn5).mono ?_; rintro e V5 ⟨rfl, hb5⟩)
                  have hn6 := hn5.trans (hb5.mono hn5.size)
                  refine ⟨rfl, .bool true, _, (fun V => V = V5), ?_, rfl, (fun V h => by rw [h]; exact ⟨hO76.same hn6, hX.same hn6, hxx.same hn6, hn6⟩), (.inr (fun _ h => h)), ?_⟩
                  · simp only [Act.put, List.setIfInBounds_toArray, List.set_cons_succ, List.set_cons_zero]
                  simp only [Act.put, List.setIfInBounds_toArray, List.set_cons_succ, List.set_cons_zero]
                  iterate 02 (first
                               | (refine Pu.WalkM.off (by rfl) ?_; simp only [Act.put, List.setIfInBounds_toArray, List.set_cons_succ, List.set_cons_zero])
                               | (apply Pu.WalkM.on (by rfl)
                                  · rintro V ⟨k7, kx, kd', kb⟩
                                    obtain ⟨y0, y1, y2, y3, y4⟩ := k7.five
                                    obtain ⟨u0, u1, u2, u3, u4⟩ := kx.five
                                    have zx := kd'.cell (j := 0) (v := .slice (some ⟨rb, ro, none⟩) es2.length cx) rfl
                                    have r0 := (kb.cell (p := ⟨rb, ro + ix * 5, none⟩) hrb).trans c0
                                    have r1 := (kb.cell (p := ⟨rb, ro + ix * 5 + 1, none⟩) hrb).trans c1
                                    have r2 := (kb.cell (p := ⟨rb, ro + ix * 5 + 2, none⟩) hrb).trans c2
                                    have r3 := (kb.cell (p := ⟨rb, ro + ix * 5 + 3, none⟩) hrb).trans c3
                                    have r4 := (kb.cell (p := ⟨rb, ro + ix * 5 + 4, none⟩) hrb).trans c4
                                    go_wp2_with fail
                                    refine ⟨rfl, ?_, rfl⟩
                                    try simp only [Act.put, List.setIfInBounds_toArray, List.set_cons_succ, List.set_cons_zero]
                                    rfl
                                  simp only [Act.put, List.setIfInBounds_toArray, List.set_cons_succ, List.set_cons_zero]))
                  refine Pu.WalkM.nil ?_
                  intro V hV
                  rw [hV]
                  clear hV V
                  have HF := Lib.hid (HFIN.out _ hn6)
                  go_wp2
                  exact ⟨HF.out, by simp [intOf]; omega⟩
            · have e3b : (kd == 3) = false := by simpa using e3
              clear e1 e2 e3
              have cMv := Lib.hid (move_calls mv b mb _ ds (wr.alloc (.cells #[.int .i64 kd, .int .i64 mv, .int .i64 fr, .int .i64 to_, .slice Al l.length cl] 32)) HM.out hOK.out.mv.1 hOK.out.mv.2)
              have HOKD := Lib.hid HM.out.ok
              try clear q0 q1 q2 q3 q4
              obtain ⟨q0, q1, q2, q3, q4⟩ := hO7.five
              go_wp2_with fail
              refine cMv.out.mono ?_
              rintro e W5 ⟨⟨wv, rfl, hwv⟩, hb5⟩
              clear cMv
              have hIw := toAt hwv
              have HFD := Lib.hid (@idx_find ds mv)
              have hidx := idx_find' ds mv
              generalize hwd : (findW ds mv).getD way0 = wd at *
              have HWD := Lib.hid hwd
              clear hwd hwv
              obtain ⟨wmv, wfr, wto, wl, wcame⟩ := wd
              obtain ⟨Aw, cw, rfl, -⟩ := hIw.form
              dsimp only [wayV] at hIw ⊢
              have hal5 := (Below.refl W5.heap.size W5).alloc (Nat.le_refl _) (.cells #[.int .i64 wmv, .int .i64 wfr, .int .i64 wto, .slice Aw wl.length cw, .bool wcame] 42)
              have hX := Ob.new W5 42 #[.int .i64 wmv, .int .i64 wfr, .int .i64 wto, .slice Aw wl.length cw, .bool wcame]
              have hb6 := hb5.trans (hal5.mono hb5.size)
              have HB6 := Lib.hid (HB.out.trans (hb6.mono HB.out.size))
              have HM6 := Lib.hid (HM.out.same hb6)
              have HD6 := Lib.hid (HD.out.same hb6 HB.out.size)
              have hO76 := (hO7.same hb5).alloc (.cells #[.int .i64 wmv, .int .i64 wfr, .int .i64 wto, .slice Aw wl.length cw, .bool wcame] 42)
              have hIw6 := hIw.mono hal5 hal5.size
              have cFi := find_calls mv xb w.heap.size es _ HD6.out
              rw [HE.out] at cFi
              have CFI := Lib.hid cFi
              try clear q0 q1 q2 q3 q4
              clear cFi hIw hal5 hb5 hb6
              obtain ⟨q0, q1, q2, q3, q4⟩ := hO76.five
              go_wp2_with (go_at_call 20; refine CFI.out.mono ?_; rintro e W' ⟨rfl, rfl⟩)
              generalize W5.alloc (.cells #[.int .i64 wmv, .int .i64 wfr, .int .i64 wto, .slice Aw wl.length cw, .bool wcame] 42) = W6 at *
              obtain ⟨vx, hxx, hvx⟩ := HD6.out.ob
              obtain ⟨Ax, cx, rfl, hcx1, hcx2, -⟩ := (Sl.of_own hvx).at_
              unfold maxLen at hcx2
              have HVX := Lib.hid hvx
              have hw5 : W5.heap.size < W6.heap.size := hX.lt
              have hdr := (Below.refl W6.heap.size W6).drew
              have cU := Lib.hid (fun V (hb : Below W6.heap.size W6 V) => under_calls fr to_ b mb _ ds V (HM6.out.same hb))
              have cR := (fun V (hb : Below W6.heap.size W6 V) => refunder_calls fr to_ xb w.heap.size es V (HD6.out.same hb HB6.out.size) (Nat.le_trans HB6.out.size hb.size) (ok_docs HE.out HOKD.out))
              rw [HE.out] at cR
              have CR := Lib.hid cR
              have cWk := Lib.hid (fun V (hb : Below W6.heap.size W6 V) => walks_calls b mb xb w.heap.size _ ds es V (HM6.out.same hb) (HD6.out.same hb HB6.out.size) HE.out (Nat.le_trans HB6.out.size hb.size))
              generalize underOf fr to_ ds = UL at *
              clear cR hvx q0 q1 q2 q3 q4 CFI
              have HFIN := Lib.hid (fun V (hb : Below W6.heap.size W6 V) => show (∃ (k' : Nat) (ds' : List Way) (es' : List (Way × Value)), k' ≤ os.length ∧ Value.int .i64 ((k : Int) + 1) = .int .i64 k' ∧ Below w.heap.size w V ∧ MvAt V b mb (fun i => i = xb) ds' ∧ DocAt V xb w.heap.size es' ∧ es'.map (·.1) = ds') from ⟨k + 1, ds, es, by omega, by go_num, HB6.out.trans (hb.mono HB6.out.size), HM6.out.same hb, HD6.out.same hb HB6.out.size, HE.out⟩)
              rcases HFD.out with ⟨hi1, hi2⟩ | ⟨ix, hix, hi1, hi2, -⟩
              · as_aux_lemma =>
                  have hwd0 := HWD.out
                  rw [hi2] at hwd0
                  obtain ⟨rfl, rfl, rfl, rfl, rfl⟩ : wmv = 0 ∧ wfr = 0 ∧ wto = 0 ∧ wl = [] ∧ wcame = false := by simpa [way0, Eq.comm] using hwd0
                  simp only [hi1, hi2, Option.isSome_none, List.length_nil]
                  simp only [List.length_nil] at hX
                  have cS := Lib.hid (fun V (hb : Below W6.heap.size W6 V) => (by have := sameW_calls way0 way0 (.slice Aw 0 cw) (.slice none 0 0) V (hIw6.mono hb hb.size) (ItemsAt.nil _ _ _); rw [(sameW_iff _ _).2 rfl] at this; simp only [wayV, way0] at this; exact this : Calls Try.prog 21 #[.agg #[.int .i64 0, .int .i64 0, .int .i64 0, .slice Aw 0 cw, .bool false], .agg #[.int .i64 0, .int .i64 0, .int .i64 0, .slice none 0 0, .bool false]] V fun e w' => e = .returned (.bool true) ∧ Below V.heap.size V w'))
                  clear hwd0 hi1 hi2 hidx
                  refine Pu.regionM [(0, false), (1, false), (2, false), (3, false), (4, false), (5, false), (6, false), (7, false), (8, false), (9, false), (10, false), (11, false), (12, false), (13, false), (14, false), (15, false), (16, false), (17, false), (18, false), (19, false), (20, true), (21, false), (22, false), (23, false), (24, false), (25, false), (26, false), (27, false), (28, false), (29, false), (30, true), (31, false), (32, false), (33, false), (34, false), (35, false), (36, false), (37, false), (38, false), (39, false), (41, false), (42, false), (43, false), (44, false), (45, false), (40, true), (46, true), (47, true), (48, false), (49, false), (50, false), (51, false), (52, false), (53, true), (54, false), (55, false)] (fun V => Ob V wr.heap.size 32 #[.int .i64 kd, .int .i64 mv, .int .i64 fr, .int .i64 to_, .slice Al l.length cl] ∧ Ob V W5.heap.size 42 #[.int .i64 0, .int .i64 0, .int .i64 0, .slice Aw 0 cw, .bool false] ∧ Ob V xb 28 #[.slice Ax es.length cx] ∧ Below W6.heap.size W6 V) hmx (by kernel_rfl) (by kernel_rfl) (by kernel_rfl) ⟨hO76, hX, hxx, hdr⟩ rfl ?_
                  simp only [Pu.named, List.filterMap_cons, List.filterMap_nil, List.getElem?_toArray, List.getElem?_cons_succ, List.getElem?_cons_zero, Option.map_some]
                  iterate 20 (first
                               | (refine Pu.WalkM.off (by rfl) ?_; simp only [Act.put, List.setIfInBounds_toArray, List.set_cons_succ, List.set_cons_zero])
                               | (apply Pu.WalkM.on (by rfl)
                                  · rintro V ⟨k7, kx, kd', kb⟩
                                    obtain ⟨y0, y1, y2, y3, y4⟩ := k7.five
                                    obtain ⟨u0, u1, u2, u3, u4⟩ := kx.five
                                    have zx := kd'.cell (j := 0) (v := .slice Ax es.length cx) rfl
                                    go_wp2_with fail
                                    refine ⟨rfl, ?_, rfl⟩
                                    try simp only [Act.put, List.setIfInBounds_toArray, List.set_cons_succ, List.set_cons_zero]
                                    rfl
                                  simp only [Act.put, List.setIfInBounds_toArray, List.set_cons_succ, List.set_cons_zero]))
                  refine Pu.WalkM.off (by rfl) ?_
                  simp only [Act.put, List.setIfInBounds_toArray, List.set_cons_succ, List.set_cons_zero]
                  have hn1 := hdr
                  iterate 09 (first
                               | (refine Pu.WalkM.off (by rfl) ?_; simp only [Act.put, List.setIfInBounds_toArray, List.set_cons_succ, List.set_cons_zero])
                               | (apply Pu.WalkM.on (by rfl)
                                  · rintro V ⟨k7, kx, kd', kb⟩
                                    obtain ⟨y0, y1, y2, y3, y4⟩ := k7.five
                                    obtain ⟨u0, u1, u2, u3, u4⟩ := kx.five
                                    have zx := kd'.cell (j := 0) (v := .slice Ax es.length cx) rfl
                                    go_wp2_with fail
                                    refine ⟨rfl, ?_, rfl⟩
                                    try simp only [Act.put, List.setIfInBounds_toArray, List.set_cons_succ, List.set_cons_zero]
                                    rfl
                                  simp only [Act.put, List.setIfInBounds_toArray, List.set_cons_succ, List.set_cons_zero]))
                  refine Pu.WalkM.make (by rfl) ?_
                  intro V hV
                  rw [hV]
                  clear hV V
                  go_wp2_with (go_at_call 21; refine (cS.out _ hn1).mono ?_; rintro e V1 ⟨rfl, hb1⟩)
                  have hn2 := hn1.trans (hb1.mono hn1.size)
                  refine ⟨rfl, .bool true, _, (fun V => V = V1), ?_, rfl, (fun V h => by rw [h]; exact ⟨hO76.same hn2, hX.same hn2, hxx.same hn2, hn2⟩), (.inr (fun _ h => h)), ?_⟩
                  · simp only [Act.put, List.setIfInBounds_toArray, List.set_cons_succ, List.set_cons_zero]
                  simp only [Act.put, List.setIfInBounds_toArray, List.set_cons_succ, List.set_cons_zero]
                  iterate 14 (first
                               | (refine Pu.WalkM.off (by rfl) ?_; simp only [Act.put, List.setIfInBounds_toArray, List.set_cons_succ, List.set_cons_zero])
                               | (apply Pu.WalkM.on (by rfl)
                                  · rintro V ⟨k7, kx, kd', kb⟩
                                    obtain ⟨y0, y1, y2, y3, y4⟩ := k7.five
                                    obtain ⟨u0, u1, u2, u3, u4⟩ := kx.five
                                    have zx := kd'.cell (j := 0) (v := .slice Ax es.length cx) rfl
                                    go_wp2_with fail
                                    refine ⟨rfl, ?_, rfl⟩
                                    try simp only [Act.put, List.setIfInBounds_toArray, List.set_cons_succ, List.set_cons_zero]
                                    rfl
                                  simp only [Act.put, List.setIfInBounds_toArray, List.set_cons_succ, List.set_cons_zero]))
                  refine Pu.WalkM.make (by rfl) ?_
                  intro V hV
                  rw [hV]
                  clear hV V
                  go_wp2_with (go_at_call 22; refine (cU.out _ hn2).mono ?_; rintro e V2 ⟨⟨uv, rfl, huv⟩, hb2⟩)
                  have hn3 := hn2.trans (hb2.mono hn2.size)
                  have HUV := Lib.hid (toAt huv)
                  obtain ⟨Au, cu, rfl, -⟩ := (toAt huv).form
                  refine ⟨rfl, .slice Au UL.length cu, _, (fun V => V = V2), ?_, rfl, (fun V h => by rw [h]; exact ⟨hO76.same hn3, hX.same hn3, hxx.same hn3, hn3⟩), (.inr (fun _ h => h)), ?_⟩
                  · simp only [Act.put, List.setIfInBounds_toArray, List.set_cons_succ, List.set_cons_zero]
                  simp only [Act.put, List.setIfInBounds_toArray, List.set_cons_succ, List.set_cons_zero]
                  refine Pu.WalkM.make (by rfl) ?_
                  intro V hV
                  rw [hV]
                  clear hV V
                  go_wp2_with (go_at_call 23; refine (CR.out _ hn3).mono ?_; rintro e V3 ⟨⟨tv, rfl, htv⟩, hb3⟩)
                  have hn4 := hn3.trans (hb3.mono hn3.size)
                  have HTV := Lib.hid (toAt htv)
                  obtain ⟨At, ct, rfl, -⟩ := (toAt htv).form
                  have cS2 := refsame_calls UL UL _ _ V3 (HUV.out.mono hb3 hb3.size) HTV.out
                  rw [decide_eq_true rfl] at cS2
                  have CS2 := Lib.hid cS2
                  clear cS2
                  refine ⟨rfl, .slice At UL.length ct, _, (fun V => V = V3), ?_, rfl, (fun V h => by rw [h]; exact ⟨hO76.same hn4, hX.same hn4, hxx.same hn4, hn4⟩), (.inr (fun _ h => h)), ?_⟩
                  · simp only [Act.put, List.setIfInBounds_toArray, List.set_cons_succ, List.set_cons_zero]
                  simp only [Act.put, List.setIfInBounds_toArray, List.set_cons_succ, List.set_cons_zero]
                  refine Pu.WalkM.make (by rfl) ?_
                  intro V hV
                  rw [hV]
                  clear hV V
                  go_wp2_with (go_at_call 16; refine CS2.out.mono ?_; rintro e V4 ⟨rfl, hb4⟩)
                  have hn5 := hn4.trans (hb4.mono hn4.size)
                  refine ⟨rfl, .bool true, _, (fun V => V = V4), ?_, rfl, (fun V h => by rw [h]; exact ⟨hO76.same hn5, hX.same hn5, hxx.same hn5, hn5⟩), (.inr (fun _ h => h)), ?_⟩
                  · simp only [Act.put, List.setIfInBounds_toArray, List.set_cons_succ, List.set_cons_zero]
                  simp only [Act.put, List.setIfInBounds_toArray, List.set_cons_succ, List.set_cons_zero]
                  iterate 05 (first
                               | (refine Pu.WalkM.off (by rfl) ?_; simp only [Act.put, List.setIfInBounds_toArray, List.set_cons_succ, List.set_cons_zero])
                               | (apply Pu.WalkM.on (by rfl)
                                  · rintro V ⟨k7, kx, kd', kb⟩
                                    obtain ⟨y0, y1, y2, y3, y4⟩ := k7.five
                                    obtain ⟨u0, u1, u2, u3, u4⟩ := kx.five
                                    have zx := kd'.cell (j := 0) (v := .slice Ax es.length cx) rfl
                                    go_wp2_with fail
                                    refine ⟨rfl, ?_, rfl⟩
                                    try simp only [Act.put, List.setIfInBounds_toArray, List.set_cons_succ, List.set_cons_zero]
                                    rfl
                                  simp only [Act.put, List.setIfInBounds_toArray, List.set_cons_succ, List.set_cons_zero]))
                  refine Pu.WalkM.make (by rfl) ?_
                  intro V hV
                  rw [hV]
                  clear hV V
                  go_wp2_with (go_at_call 24; refine (cWk.out _ hn5).mono ?_; rintro e V5 ⟨rfl, hb5⟩)
                  have hn6 := hn5.trans (hb5.mono hn5.size)
                  refine ⟨rfl, .bool true, _, (fun V => V = V5), ?_, rfl, (fun V h => by rw [h]; exact ⟨hO76.same hn6, hX.same hn6, hxx.same hn6, hn6⟩), (.inr (fun _ h => h)), ?_⟩
                  · simp only [Act.put, List.setIfInBounds_toArray, List.set_cons_succ, List.set_cons_zero]
                  simp only [Act.put, List.setIfInBounds_toArray, List.set_cons_succ, List.set_cons_zero]
                  iterate 02 (first
                               | (refine Pu.WalkM.off (by rfl) ?_; simp only [Act.put, List.setIfInBounds_toArray, List.set_cons_succ, List.set_cons_zero])
                               | (apply Pu.WalkM.on (by rfl)
                                  · rintro V ⟨k7, kx, kd', kb⟩
                                    obtain ⟨y0, y1, y2, y3, y4⟩ := k7.five
                                    obtain ⟨u0, u1, u2, u3, u4⟩ := kx.five
                                    have zx := kd'.cell (j := 0) (v := .slice Ax es.length cx) rfl
                                    go_wp2_with fail
                                    refine ⟨rfl, ?_, rfl⟩
                                    try simp only [Act.put, List.setIfInBounds_toArray, List.set_cons_succ, List.set_cons_zero]
                                    rfl
                                  simp only [Act.put, List.setIfInBounds_toArray, List.set_cons_succ, List.set_cons_zero]))
                  refine Pu.WalkM.nil ?_
                  intro V hV
                  rw [hV]
                  clear hV V
                  have HF := Lib.hid (HFIN.out _ hn6)
                  go_wp2
                  exact ⟨HF.out, by simp [intOf]; omega⟩
              · as_aux_lemma =>
                  have hix2 : ix < es.length := by have := hix; rw [← HE.out] at this; simpa using this
                  have hdx : es[ix].1 = ⟨wmv, wfr, wto, wl, wcame⟩ := by
                    have h9 := HWD.out
                    rw [hi2, Option.getD_some] at h9
                    have h8 : ds[ix]? = some es[ix].1 := by rw [← HE.out, List.getElem?_map, List.getElem?_eq_getElem hix2]; rfl
                    rw [List.getElem?_eq_getElem hix, h9] at h8
                    exact (Option.some.inj h8).symm
                  simp only [hi1, hi2, Option.isSome_some]
                  have hnst := HD6.out.nest es[ix] (List.getElem_mem hix2)
                  clear hi1 hi2 hidx
                  obtain ⟨rb, ro, rfl, -, hrb, c0, c1, c2, c3, c4⟩ := docAt_cell (Sl.of_own HVX.out) hix2
                  generalize es[ix] = pp at *
                  obtain ⟨dd, plv⟩ := pp
                  try dsimp only at hdx hnst c0 c1 c2 c3 c4
                  subst hdx
                  try dsimp only at hnst c0 c1 c2 c3 c4
                  obtain ⟨Ap, cp, hplv, -⟩ := hnst.form
                  try dsimp only at hplv
                  subst hplv
                  have cS := Lib.hid (fun V (hb : Below W6.heap.size W6 V) => (by have := sameW_calls ⟨wmv, wfr, wto, wl, wcame⟩ ⟨wmv, wfr, wto, wl, wcame⟩ (.slice Aw wl.length cw) (.slice Ap wl.length cp) V (hIw6.mono hb hb.size) ((hnst.below (hb.mono HB6.out.size)).wide (Nat.le_refl _) (Nat.le_trans HB6.out.size hb.size)); rw [(sameW_iff _ _).2 rfl] at this; simp only [wayV] at this; exact this : Calls Try.prog 21 #[.agg #[.int .i64 wmv, .int .i64 wfr, .int .i64 wto, .slice Aw wl.length cw, .bool wcame], .agg #[.int .i64 wmv, .int .i64 wfr, .int .i64 wto, .slice Ap wl.length cp, .bool wcame]] V fun e w' => e = .returned (.bool true) ∧ Below V.heap.size V w'))
                  have l1 : (0 : Int) ≤ (ix : Int) := by omega
                  have l2 : (ix : Int) < (es.length : Int) := by omega
                  clear hnst
                  have hdi1 : decide ((ix : Int) ≥ 0) = true := by simp
                  have hdi2 : decide ((ix : Int) < 0) = false := by simp
                  refine Pu.regionM [(0, false), (1, false), (2, false), (3, false), (4, false), (5, false), (6, false), (7, false), (8, false), (9, false), (10, false), (11, false), (12, false), (13, false), (14, false), (15, false), (16, false), (17, false), (18, false), (19, false), (20, true), (21, false), (22, false), (23, false), (24, false), (25, false), (26, false), (27, false), (28, false), (29, false), (30, true), (31, false), (32, false), (33, false), (34, false), (35, false), (36, false), (37, false), (38, false), (39, false), (41, false), (42, false), (43, false), (44, false), (45, false), (40, true), (46, true), (47, true), (48, false), (49, false), (50, false), (51, false), (52, false), (53, true), (54, false), (55, false)] (fun V => Ob V wr.heap.size 32 #[.int .i64 kd, .int .i64 mv, .int .i64 fr, .int .i64 to_, .slice Al l.length cl] ∧ Ob V W5.heap.size 42 #[.int .i64 wmv, .int .i64 wfr, .int .i64 wto, .slice Aw wl.length cw, .bool wcame] ∧ Ob V xb 28 #[.slice (some ⟨rb, ro, none⟩) es.length cx] ∧ Below W6.heap.size W6 V) hmx (by kernel_rfl) (by kernel_rfl) (by kernel_rfl) ⟨hO76, hX, hxx, hdr⟩ rfl ?_
                  simp only [Pu.named, List.filterMap_cons, List.filterMap_nil, List.getElem?_toArray, List.getElem?_cons_succ, List.getElem?_cons_zero, Option.map_some]
                  iterate 20 (first
                               | (refine Pu.WalkM.off (by rfl) ?_; simp only [Act.put, List.setIfInBounds_toArray, List.set_cons_succ, List.set_cons_zero])
                               | (apply Pu.WalkM.on (by rfl)
                                  · rintro V ⟨k7, kx, kd', kb⟩
                                    obtain ⟨y0, y1, y2, y3, y4⟩ := k7.five
                                    obtain ⟨u0, u1, u2, u3, u4⟩ := kx.five
                                    have zx := kd'.cell (j := 0) (v := .slice (some ⟨rb, ro, none⟩) es.length cx) rfl
                                    have r0 := (kb.cell (p := ⟨rb, ro + ix * 5, none⟩) hrb).trans c0
                                    have r1 := (kb.cell (p := ⟨rb, ro + ix * 5 + 1, none⟩) hrb).trans c1
                                    have r2 := (kb.cell (p := ⟨rb, ro + ix * 5 + 2, none⟩) hrb).trans c2
                                    have r3 := (kb.cell (p := ⟨rb, ro + ix * 5 + 3, none⟩) hrb).trans c3
                                    have r4 := (kb.cell (p := ⟨rb, ro + ix * 5 + 4, none⟩) hrb).trans c4
                                    go_wp2_with fail
                                    refine ⟨rfl, ?_, rfl⟩
                                    try simp only [Act.put, List.setIfInBounds_toArray, List.set_cons_succ, List.set_cons_zero]
                                    rfl
                                  simp only [Act.put, List.setIfInBounds_toArray, List.set_cons_succ, List.set_cons_zero]))
                  refine Pu.WalkM.make (by rfl) ?_
                  intro V hV
                  rw [hV]
                  clear hV V
                  go_wp2_with (go_at_call 21; refine (cS.out _ hdr).mono ?_; rintro e V1 ⟨rfl, hb1⟩)
                  have hn1 := hdr.trans hb1
                  refine ⟨rfl, .bool true, _, (fun V => V = V1), ?_, rfl, (fun V h => by rw [h]; exact ⟨hO76.same hn1, hX.same hn1, hxx.same hn1, hn1⟩), (.inr (fun _ h => h)), ?_⟩
                  · simp only [Act.put, List.setIfInBounds_toArray, List.set_cons_succ, List.set_cons_zero]
                  simp only [Act.put, List.setIfInBounds_toArray, List.set_cons_succ, List.set_cons_zero]
                  iterate 09 (first
                               | (refine Pu.WalkM.off (by rfl) ?_; simp only [Act.put, List.setIfInBounds_toArray, List.set_cons_succ, List.set_cons_zero])
                               | (apply Pu.WalkM.on (by rfl)
                                  · rintro V ⟨k7, kx, kd', kb⟩
                                    obtain ⟨y0, y1, y2, y3, y4⟩ := k7.five
                                    obtain ⟨u0, u1, u2, u3, u4⟩ := kx.five
                                    have zx := kd'.cell (j := 0) (v := .slice (some ⟨rb, ro, none⟩) es.length cx) rfl
                                    have r0 := (kb.cell (p := ⟨rb, ro + ix * 5, none⟩) hrb).trans c0
                                    have r1 := (kb.cell (p := ⟨rb, ro + ix * 5 + 1, none⟩) hrb).trans c1
                                    have r2 := (kb.cell (p := ⟨rb, ro + ix * 5 + 2, none⟩) hrb).trans c2
                                    have r3 := (kb.cell (p := ⟨rb, ro + ix * 5 + 3, none⟩) hrb).trans c3
                                    have r4 := (kb.cell (p := ⟨rb, ro + ix * 5 + 4, none⟩) hrb).trans c4
                                    go_wp2_with fail
                                    refine ⟨rfl, ?_, rfl⟩
                                    try simp only [Act.put, List.setIfInBounds_toArray, List.set_cons_succ, List.set_cons_zero]
                                    rfl
                                  simp only [Act.put, List.setIfInBounds_toArray, List.set_cons_succ, List.set_cons_zero]))
                  refine Pu.WalkM.off (by rfl) ?_
                  simp only [Act.put, List.setIfInBounds_toArray, List.set_cons_succ, List.set_cons_zero]
                  have hn2 := hn1
                  iterate 14 (first
                               | (refine Pu.WalkM.off (by rfl) ?_; simp only [Act.put, List.setIfInBounds_toArray, List.set_cons_succ, List.set_cons_zero])
                               | (apply Pu.WalkM.on (by rfl)
                                  · rintro V ⟨k7, kx, kd', kb⟩
                                    obtain ⟨y0, y1, y2, y3, y4⟩ := k7.five
                                    obtain ⟨u0, u1, u2, u3, u4⟩ := kx.five
                                    have zx := kd'.cell (j := 0) (v := .slice (some ⟨rb, ro, none⟩) es.length cx) rfl
                                    have r0 := (kb.cell (p := ⟨rb, ro + ix * 5, none⟩) hrb).trans c0
                                    have r1 := (kb.cell (p := ⟨rb, ro + ix * 5 + 1, none⟩) hrb).trans c1
                                    have r2 := (kb.cell (p := ⟨rb, ro + ix * 5 + 2, none⟩) hrb).trans c2
                                    have r3 := (kb.cell (p := ⟨rb, ro + ix * 5 + 3, none⟩) hrb).trans c3
                                    have r4 := (kb.cell (p := ⟨rb, ro + ix * 5 + 4, none⟩) hrb).trans c4
                                    go_wp2_with fail
                                    refine ⟨rfl, ?_, rfl⟩
                                    try simp only [Act.put, List.setIfInBounds_toArray, List.set_cons_succ, List.set_cons_zero]
                                    rfl
                                  simp only [Act.put, List.setIfInBounds_toArray, List.set_cons_succ, List.set_cons_zero]))
                  refine Pu.WalkM.make (by rfl) ?_
                  intro V hV
                  rw [hV]
                  clear hV V
                  go_wp2_with (go_at_call 22; refine (cU.out _ hn2).mono ?_; rintro e V2 ⟨⟨uv, rfl, huv⟩, hb2⟩)
                  have hn3 := hn2.trans (hb2.mono hn2.size)
                  have HUV := Lib.hid (toAt huv)
                  obtain ⟨Au, cu, rfl, -⟩ := (toAt huv).form
                  refine ⟨rfl, .slice Au UL.length cu, _, (fun V => V = V2), ?_, rfl, (fun V h => by rw [h]; exact ⟨hO76.same hn3, hX.same hn3, hxx.same hn3, hn3⟩), (.inr (fun _ h => h)), ?_⟩
                  · simp only [Act.put, List.setIfInBounds_toArray, List.set_cons_succ, List.set_cons_zero]
                  simp only [Act.put, List.setIfInBounds_toArray, List.set_cons_succ, List.set_cons_zero]
                  refine Pu.WalkM.make (by rfl) ?_
                  intro V hV
                  rw [hV]
                  clear hV V
                  go_wp2_with (go_at_call 23; refine (CR.out _ hn3).mono ?_; rintro e V3 ⟨⟨tv, rfl, htv⟩, hb3⟩)
                  have hn4 := hn3.trans (hb3.mono hn3.size)
                  have HTV := Lib.hid (toAt htv)
                  obtain ⟨At, ct, rfl, -⟩ := (toAt htv).form
                  have cS2 := refsame_calls UL UL _ _ V3 (HUV.out.mono hb3 hb3.size) HTV.out
                  rw [decide_eq_true rfl] at cS2
                  have CS2 := Lib.hid cS2
                  clear cS2
                  refine ⟨rfl, .slice At UL.length ct, _, (fun V => V = V3), ?_, rfl, (fun V h => by rw [h]; exact ⟨hO76.same hn4, hX.same hn4, hxx.same hn4, hn4⟩), (.inr (fun _ h => h)), ?_⟩
                  · simp only [Act.put, List.setIfInBounds_toArray, List.set_cons_succ, List.set_cons_zero]
                  simp only [Act.put, List.setIfInBounds_toArray, List.set_cons_succ, List.set_cons_zero]
                  refine Pu.WalkM.make (by rfl) ?_
                  intro V hV
                  rw [hV]
                  clear hV V
                  go_wp2_with (go_at_call 16; refine CS2.out.mono ?_; rintro e V4 ⟨rfl, hb4⟩)
                  have hn5 := hn4.trans (hb4.mono hn4.size)
                  refine ⟨rfl, .bool true, _, (fun V => V = V4), ?_, rfl, (fun V h => by rw [h]; exact ⟨hO76.same hn5, hX.same hn5, hxx.same hn5, hn5⟩), (.inr (fun _ h => h)), ?_⟩
                  · simp only [Act.put, List.setIfInBounds_toArray, List.set_cons_succ, List.set_cons_zero]
                  simp only [Act.put, List.setIfInBounds_toArray, List.set_cons_succ, List.set_cons_zero]
                  iterate 05 (first
                               | (refine Pu.WalkM.off (by rfl) ?_; simp only [Act.put, List.setIfInBounds_toArray, List.set_cons_succ, List.set_cons_zero])
                               | (apply Pu.WalkM.on (by rfl)
                                  · rintro V ⟨k7, kx, kd', kb⟩
                                    obtain ⟨y0, y1, y2, y3, y4⟩ := k7.five
                                    obtain ⟨u0, u1, u2, u3, u4⟩ := kx.five
                                    have zx := kd'.cell (j := 0) (v := .slice (some ⟨rb, ro, none⟩) es.length cx) rfl
                                    have r0 := (kb.cell (p := ⟨rb, ro + ix * 5, none⟩) hrb).trans c0
                                    have r1 := (kb.cell (p := ⟨rb, ro + ix * 5 + 1, none⟩) hrb).trans c1
                                    have r2 := (kb.cell (p := ⟨rb, ro + ix * 5 + 2, none⟩) hrb).trans c2
                                    have r3 := (kb.cell (p := ⟨rb, ro + ix * 5 + 3, none⟩) hrb).trans c3
                                    have r4 := (kb.cell (p := ⟨rb, ro + ix * 5 + 4, none⟩) hrb).trans c4
                                    go_wp2_with fail
                                    refine ⟨rfl, ?_, rfl⟩
                                    try simp only [Act.put, List.setIfInBounds_toArray, List.set_cons_succ, List.set_cons_zero]
                                    rfl
                                  simp only [Act.put, List.setIfInBounds_toArray, List.set_cons_succ, List.set_cons_zero]))
                  refine Pu.WalkM.make (by rfl) ?_
                  intro V hV
                  rw [hV]
                  clear hV V
                  go_wp2_with (go_at_call 24; refine (cWk.out _ hn5).mono ?_; rintro e V5 ⟨rfl, hb5⟩)
                  have hn6 := hn5.trans (hb5.mono hn5.size)
                  refine ⟨rfl, .bool true, _, (fun V => V = V5), ?_, rfl, (fun V h => by rw [h]; exact ⟨hO76.same hn6, hX.same hn6, hxx.same hn6, hn6⟩), (.inr (fun _ h => h)), ?_⟩
                  · simp only [Act.put, List.setIfInBounds_toArray, List.set_cons_succ, List.set_cons_zero]
                  simp only [Act.put, List.setIfInBounds_toArray, List.set_cons_succ, List.set_cons_zero]
                  iterate 02 (first
                               | (refine Pu.WalkM.off (by rfl) ?_; simp only [Act.put, List.setIfInBounds_toArray, List.set_cons_succ, List.set_cons_zero])
                               | (apply Pu.WalkM.on (by rfl)
                                  · rintro V ⟨k7, kx, kd', kb⟩
                                    obtain ⟨y0, y1, y2, y3, y4⟩ := k7.five
                                    obtain ⟨u0, u1, u2, u3, u4⟩ := kx.five
                                    have zx := kd'.cell (j := 0) (v := .slice (some ⟨rb, ro, none⟩) es.length cx) rfl
                                    have r0 := (kb.cell (p := ⟨rb, ro + ix * 5, none⟩) hrb).trans c0
                                    have r1 := (kb.cell (p := ⟨rb, ro + ix * 5 + 1, none⟩) hrb).trans c1
                                    have r2 := (kb.cell (p := ⟨rb, ro + ix * 5 + 2, none⟩) hrb).trans c2
                                    have r3 := (kb.cell (p := ⟨rb, ro + ix * 5 + 3, none⟩) hrb).trans c3
                                    have r4 := (kb.cell (p := ⟨rb, ro + ix * 5 + 4, none⟩) hrb).trans c4
                                    go_wp2_with fail
                                    refine ⟨rfl, ?_, rfl⟩
                                    try simp only [Act.put, List.setIfInBounds_toArray, List.set_cons_succ, List.set_cons_zero]
                                    rfl
                                  simp only [Act.put, List.setIfInBounds_toArray, List.set_cons_succ, List.set_cons_zero]))
                  refine Pu.WalkM.nil ?_
                  intro V hV
                  rw [hV]
                  clear hV V
                  have HF := Lib.hid (HFIN.out _ hn6)
                  go_wp2
                  exact ⟨HF.out, by simp [intOf]; omega⟩
    · obtain rfl : k = os.length := by omega
      have hd : decide ((os.length : Int) < (os.length : Int)) = false := by simp
      have HB := Lib.hid hB
      clear hB hM hD hE
      go_wp2
      go_ret
      exact ⟨rfl, HB.out⟩
end Mv
end Go.Proofs.Ytdbkkldgobkjcaa
