/-
  moves: the document's Under.
-/
import Derived.Test.YtdbkkldgobkjcaaMvT
import Derived.Test.YtdbkkldgobkjcaaItS
namespace Go.Proofs.Ytdbkkldgobkjcaa
open Go.RowKit Go.Maps
namespace Mv
open It

theorem underGo_M (fr to_ : Int) (ds : List Way) : M (underGo fr to_ ds).1 := by
  suffices ∀ (ds : List Way) (s : List It.Item × Bool), M s.1 → M (ds.foldl (underStep fr to_) s).1 from this ds _ M_nil
  intro ds
  induction ds with
  | nil => exact fun _ h => h
  | cons d r ih =>
    intro s hs
    refine ih _ ?_
    unfold underStep
    split
    · split
      · exact hs
      · split
        · rename_i h
          exact plusOf_M h
        · exact hs
    · exact hs
theorem plus_norm {a b : List It.Item} (ha : M a) (hb : M b) : plusOf a b = normRes (a ++ b) := by
  unfold plusOf
  rw [(may_iff a).2 ha, (may_iff b).2 hb]
  rfl
theorem under_stop2 {fr to_ : Int} {ds : List Way} {j : Nat} {d : Way} (hd : (ds.take (j + 1)) = ds.take j ++ [d]) (h : (underGo fr to_ (ds.take j)).2 = true) (hk : skipW fr to_ d = false) (hp : (plusOf (underGo fr to_ (ds.take j)).1 d.l).2 ≠ 0) : underOf fr to_ ds = (underGo fr to_ (ds.take j)).1 := by
  have h1 : underGo fr to_ (ds.take (j + 1)) = ((underGo fr to_ (ds.take j)).1, false) := by
    rw [hd, underGo_snoc]
    unfold underStep
    rw [if_pos h, hk]
    simp [hp]
  have := under_stop (List.take_prefix (j + 1) ds) (by rw [h1] : (underGo fr to_ (ds.take (j + 1))).2 = false)
  unfold underOf
  rw [this, h1]

set_option maxRecDepth 100000 in
set_option maxHeartbeats 8000000 in
theorem refunder_calls (fr to_ : Int) (xb base : Nat) (es : List (Way × Value)) (w : World) (h : DocAt w xb base es) (hB : base ≤ w.heap.size) (hok : ∀ p ∈ es, OkW p.1) :
    Calls Try.prog 23 #[.pointer (some ⟨xb, 0, none⟩), .int .i64 fr, .int .i64 to_] w fun e w' =>
      (∃ v, e = .returned v ∧ w'.ownsRow w.heap.size 36 2 v (underOf fr to_ (es.map (·.1))).length (itemCells (underOf fr to_ (es.map (·.1))))) ∧ Below w.heap.size w w' := by
  obtain ⟨v, hx, hv⟩ := h.ob
  have hlen := h.len
  obtain ⟨A, c, rfl, hc1, hc2, -⟩ := (Sl.of_own hv).at_
  unfold maxLen at hc2
  have HX := Lib.hid hx
  have HS := Lib.hid (Sl.of_own hv)
  have HN := Lib.hid h.nest
  have HOK := Lib.hid hok
  obtain ⟨i0, hi0, hz0⟩ := Option.map_eq_some_iff.1 item_info
  simp only [Prod.mk.injEq] at hz0
  obtain ⟨hz0, hz1, hz2⟩ := hz0
  clear h hv hx hok
  go_enter Try.func23, Try.ntmps23
  go_wp2
  go_loopw [7, 8] (fun ov i wr => ∃ j : Nat, j ≤ es.length ∧ i = .int .i64 j ∧ Below w.heap.size w wr ∧ (underGo fr to_ ((es.map (·.1)).take j)).2 = true ∧ wr.ownsRow w.heap.size 36 2 ov (underGo fr to_ ((es.map (·.1)).take j)).1.length (itemCells (underGo fr to_ ((es.map (·.1)).take j)).1)) (fun _ i _ => es.length - (intOf i).toNat)
  case atStart => exact ⟨0, by omega, rfl, Below.refl _ _, rfl, World.ownsRow_nil _ _ _ _⟩
  case round =>
    obtain ⟨j, hj, rfl, hBr, hgo, hown⟩ := hrel
    have hx := HX.out.same hBr
    have g0 := hx.cell (j := 0) (v := .slice A es.length c) rfl
    by_cases hlt : j < es.length
    · have hd : decide ((j : Int) < (es.length : Int)) = true := by simp; omega
      obtain ⟨b, o, rfl, -, -, c0, c1, c2, c3, c4⟩ := docAt_cell (Sl.below HS.out hBr) hlt
      have hsn : (es.map (·.1)).take (j + 1) = (es.map (·.1)).take j ++ [es[j].1] := by rw [List.take_succ_eq_append_getElem (by simpa using hlt)]; simp
      have hokj := HOK.out es[j] (List.getElem_mem hlt)
      have hnj := HN.out es[j] (List.getElem_mem hlt)
      have hM := underGo_M fr to_ ((es.map (·.1)).take j)
      have hstep := underGo_snoc fr to_ ((es.map (·.1)).take j) es[j].1
      rw [← hsn] at hstep
      have hs1 : underGo fr to_ ((es.map (·.1)).take j) = ((underGo fr to_ ((es.map (·.1)).take j)).1, true) := by rw [← hgo]
      have HST2 := Lib.hid (fun hk hp => under_stop2 (ds := es.map (·.1)) hsn hgo hk hp)
      rw [hs1] at hstep
      generalize (underGo fr to_ ((es.map (·.1)).take j)).1 = G at *
      have HSTEP := Lib.hid hstep
      generalize hu : underGo fr to_ ((es.map (·.1)).take (j + 1)) = U at *
      have HU := Lib.hid hu
      generalize es[j] = p at *
      obtain ⟨⟨dmv, dfr, dto, dl, dcame⟩, lv⟩ := p
      dsimp only at c0 c1 c2 c3 c4 hnj HSTEP hokj HST2
      have HNJ := Lib.hid (hnj.wide (Nat.le_refl _) (Nat.le_trans hB hBr.size))
      have hnjr := Lib.hid ((hnj.below (hBr.mono hB)).wide (Nat.le_refl _) (Nat.le_trans hB hBr.size))
      obtain ⟨Al, cl, rfl, -⟩ := hnj.form
      obtain ⟨Ao, co, rfl, -⟩ := (ItemsAt.of_own hown).form
      have HOWN := Lib.hid hown
      have HBR := Lib.hid hBr
      have HML := Lib.hid ((may_iff dl).1 hokj.l)
      have HMG := Lib.hid hM
      have hal := (Below.refl wr.heap.size wr).alloc (Nat.le_refl _) (.cells #[.int .i64 dmv, .int .i64 dfr, .int .i64 dto, .slice Al dl.length cl, .bool dcame] 42)
      have hO := Ob.new wr 42 #[.int .i64 dmv, .int .i64 dfr, .int .i64 dto, .slice Al dl.length cl, .bool dcame]
      have hBa := Lib.hid (hBr.trans (hal.mono hBr.size))
      clear hown hBr hstep hs1 hu hsn hM hnj hgo hx
      by_cases hsk : skipW fr to_ ⟨dmv, dfr, dto, dl, dcame⟩ = true
      · have hU : U = (G, true) := by rw [HSTEP.out]; unfold underStep; rw [if_pos rfl, if_pos hsk]
        have hfin : ∃ j' : Nat, j' ≤ es.length ∧ Value.int .i64 ((j : Int) + 1) = .int .i64 j' ∧ Below w.heap.size w (wr.alloc (.cells #[.int .i64 dmv, .int .i64 dfr, .int .i64 dto, .slice Al dl.length cl, .bool dcame] 42)) ∧ (underGo fr to_ ((es.map (·.1)).take j')).2 = true ∧
            (wr.alloc (.cells #[.int .i64 dmv, .int .i64 dfr, .int .i64 dto, .slice Al dl.length cl, .bool dcame] 42)).ownsRow w.heap.size 36 2 (.slice Ao G.length co) (underGo fr to_ ((es.map (·.1)).take j')).1.length (itemCells (underGo fr to_ ((es.map (·.1)).take j')).1) :=
          ⟨j + 1, by omega, by go_num, hBa.out, by rw [HU.out, hU], by rw [HU.out, hU]; exact HOWN.out.alloc _⟩
        have HFIN := Lib.hid hfin
        unfold skipW at hsk
        clear hfin hU
        dsimp only at hsk
        cases hc : dcame with
        | true =>
          subst hc
          clear hsk
          go_wp2
          exact ⟨HFIN.out, by simp [intOf]; omega⟩
        | false =>
          subst hc
          by_cases q1 : dfr = fr
          · subst q1
            by_cases q2 : dto = to_
            · subst q2; simp at hsk
            · have r2 : (dto != to_) = true := by simpa using q2
              have r1 : (dfr != dfr) = false := by simp
              clear hsk
              go_wp2
              exact ⟨HFIN.out, by simp [intOf]; omega⟩
          · have r1 : (dfr != fr) = true := by simpa using q1
            clear hsk
            go_wp2
            exact ⟨HFIN.out, by simp [intOf]; omega⟩
      · have hsk0 : skipW fr to_ ⟨dmv, dfr, dto, dl, dcame⟩ = false := by simpa using hsk
        have HST := Lib.hid (HST2.out hsk0)
        have HU2 := Lib.hid (show U = if (plusOf G dl).2 = 0 then ((plusOf G dl).1, true) else (G, false) by rw [HSTEP.out]; unfold underStep; rw [if_pos rfl, if_neg hsk])
        rw [plus_norm HMG.out HML.out] at HU2 HST
        unfold skipW at hsk0
        simp only [Bool.or_eq_false_iff, decide_eq_false_iff_not, Decidable.not_not] at hsk0
        obtain ⟨⟨rfl, rfl⟩, rfl⟩ := hsk0
        have q1 : (dfr != dfr) = false := by simp
        have q2 : (dto != dto) = false := by simp
        clear hsk HSTEP HST2
        go_wp2_with fail
        have hO2 : Ob (wr.alloc (.cells #[.int .i64 dmv, .int .i64 dfr, .int .i64 dto, .slice Al dl.length cl, .bool false] 42)).drew wr.heap.size 42 #[.int .i64 dmv, .int .i64 dfr, .int .i64 dto, .slice Al dl.length cl, .bool false] := hO
        have hB0 : Below w.heap.size w (wr.alloc (.cells #[.int .i64 dmv, .int .i64 dfr, .int .i64 dto, .slice Al dl.length cl, .bool false] 42)).drew := hBa.out.drew
        have hr0 : Below wr.heap.size wr (wr.alloc (.cells #[.int .i64 dmv, .int .i64 dfr, .int .i64 dto, .slice Al dl.length cl, .bool false] 42)).drew := hal.drew
        have hzG := HMG.out.len
        have hzL := HML.out.len
        clear hO hal g0 c0 c1 c2 c3 c4 q1 q2 hd
        refine Pu.regionM [(1, false), (3, false), (4, false), (0, true), (2, true), (5, true), (6, true), (7, false), (8, false), (9, false), (10, false), (11, false)] (fun V => Ob V wr.heap.size 42 #[.int .i64 dmv, .int .i64 dfr, .int .i64 dto, .slice Al dl.length cl, .bool false]) hmx (by kernel_rfl) (by kernel_rfl) (by kernel_rfl) hO2 rfl ?_
        simp only [Pu.named, List.filterMap_cons, List.filterMap_nil, List.getElem?_toArray, List.getElem?_cons_succ, List.getElem?_cons_zero, Option.map_some]
        iterate 03 (apply Pu.WalkM.on (by rfl)
                    · rintro V hOV
                      obtain ⟨d0, d1, d2, d3, d4⟩ := hOV.five
                      go_wp2_with fail
                      refine ⟨rfl, ?_, rfl⟩
                      try simp only [Act.put, List.setIfInBounds_toArray, List.set_cons_succ, List.set_cons_zero]
                      rfl
                    simp only [Act.put, List.setIfInBounds_toArray, List.set_cons_succ, List.set_cons_zero])
        have HLT0 := Lib.hid (show wr.heap.size < (wr.alloc (.cells #[.int .i64 dmv, .int .i64 dfr, .int .i64 dto, .slice Al dl.length cl, .bool false] 42)).drew.heap.size by simp [World.drew])
        generalize hW0 : (wr.alloc (.cells #[.int .i64 dmv, .int .i64 dfr, .int .i64 dto, .slice Al dl.length cl, .bool false] 42)).drew = W0 at *
        have HR0 := Lib.hid hr0
        clear hW0 hr0
        refine Pu.WalkM.make (by rfl) ?_
        intro V hV
        rw [hV]
        clear hV V
        go_wp2_with fail
        have hownE := World.ownsRow_lit (e := 36) (size := 2) (base := wr.heap.size) W0 #[] 0 HR0.out.size (Nat.zero_le _) rfl
        have hrE := HR0.out.alloc HR0.out.size (.cells #[] 36)
        have hxE := hO2.alloc (.cells #[] 36)
        refine ⟨rfl, .slice (some ⟨W0.heap.size, 0, none⟩) 0 0, _, (fun V => V = W0.alloc (.cells #[] 36)), ?_, rfl, (fun V h => by rw [h]; exact hxE), (.inr (fun _ h => h)), ?_⟩
        · simp only [Act.put, List.setIfInBounds_toArray, List.set_cons_succ, List.set_cons_zero]
        simp only [Act.put, List.setIfInBounds_toArray, List.set_cons_succ, List.set_cons_zero]
        generalize W0.alloc (.cells #[] 36) = WE at *
        refine Pu.WalkM.make (by rfl) ?_
        intro V hV
        rw [hV]
        clear hV V
        refine wpList_append_sl _ rfl (.tmp 43) (.tmp 44) _ rfl wr.heap.size 36 i0 _ 2 24 Try.underlying30 hi0 hz0 hz1 hz2 rfl (by omega) (.slice (some ⟨W0.heap.size, 0, none⟩) 0 0) 0 [] rfl hownE w.heap.size wr.heap.size _ G.length (itemCells G) rfl (Sl.below (Sl.of_own HOWN.out) hrE) (itemCells_one G) (by unfold maxLen; omega) (by omega) hrE.size ?_
        intro v1 w1 hv1 hg1 hat1
        have hr1 := hrE.grown hg1 hrE.size (fun g hg => (hownE.lt g hg).1)
        have hx1 := hxE.kept hg1 (fun e => by have e2 : wr.heap.size = W0.heap.size := Option.some.inj e; have := HLT0.out; omega)
        have hv1' : w1.ownsRow wr.heap.size 36 2 v1 G.length (itemCells G) := by simpa using hv1
        clear hv1 hg1 hat1 hownE hxE
        refine ⟨rfl, v1, _, (fun V => V = w1), rfl, rfl, (fun V h => by rw [h]; exact hx1), (.inr (fun _ h => h)), ?_⟩
        simp only [Act.put, List.setIfInBounds_toArray, List.set_cons_succ, List.set_cons_zero]
        refine Pu.WalkM.make (by rfl) ?_
        intro V hV
        rw [hV]
        clear hV V
        refine wpList_append_sl _ rfl (.tmp 45) (.tmp 47) _ rfl wr.heap.size 36 i0 _ 2 24 Try.underlying30 hi0 hz0 hz1 hz2 rfl (by omega) v1 G.length (itemCells G) rfl hv1' 0 wr.heap.size _ dl.length (itemCells dl) rfl (Sl.below hnjr.out hr1) (itemCells_one dl) (by unfold maxLen; omega) (by omega) hr1.size ?_
        intro v2 w2 hv2 hg2 hat2
        have hr2 := hr1.grown hg2 hr1.size (fun g hg => (hv1'.lt g hg).1)
        have hx2 := hx1.kept hg2 (fun e => by
          rcases hv1'.2 with ⟨e3, _⟩ | ⟨g', cap', cur', e3, _, hg', _⟩
          · rw [e3] at e; cases e
          · rw [e3] at e
            have e2 : wr.heap.size = g' := Option.some.inj e
            subst e2
            have := hx1.symm.trans hg'
            simp at this)
        have hv2' : w2.ownsRow wr.heap.size 36 2 v2 (G ++ dl).length (itemCells (G ++ dl)) := by rw [List.length_append, itemCells_append]; exact hv2
        have cN := Lib.hid (refnorm_calls (G ++ dl) v2 w2 (toAt hv2') (Fits.append (M_fits HMG.out) (M_fits HML.out)) (by rw [List.length_append]; omega))
        generalize hR : normRes (G ++ dl) = R at *
        obtain ⟨Rl, Rc⟩ := R
        dsimp only at cN HU2 HST
        obtain ⟨A2, c2, rfl, -⟩ := (toAt hv2').form
        clear hv2 hv2' hg2 hat2 hv1' hx1 hR
        generalize (G ++ dl).length = n2 at *
        refine ⟨rfl, _, _, (fun V => V = w2), rfl, rfl, (fun V h => by rw [h]; exact hx2), (.inr (fun _ h => h)), ?_⟩
        simp only [Act.put, List.setIfInBounds_toArray, List.set_cons_succ, List.set_cons_zero]
        refine Pu.WalkM.make (by rfl) ?_
        intro V hV
        rw [hV]
        clear hV V
        go_wp2_with (go_at_call 46; refine cN.out.mono ?_; rintro e W3 ⟨⟨u, rfl, hu⟩, hb3⟩)
        have hx3 := hx2.same hb3
        have hr3 := hr2.trans (hb3.mono hr2.size)
        have HU3 := Lib.hid (ownsRow_wide hu hr2.size)
        obtain ⟨A3, c3, rfl, -⟩ := (ItemsAt.of_own hu).form
        clear hu hb3 hx2 hr2
        refine ⟨rfl, _, _, (fun V => V = W3), rfl, rfl, (fun V h => by rw [h]; exact hx3), (.inr (fun _ h => h)), ?_⟩
        simp only [Act.put, List.setIfInBounds_toArray, List.set_cons_succ, List.set_cons_zero]
        iterate 05 (apply Pu.WalkM.on (by rfl)
                    · rintro V hOV
                      go_wp2_with fail
                      refine ⟨rfl, ?_, rfl⟩
                      try simp only [Act.put, List.setIfInBounds_toArray, List.set_cons_succ, List.set_cons_zero]
                      rfl
                    simp only [Act.put, List.setIfInBounds_toArray, List.set_cons_succ, List.set_cons_zero])
        refine Pu.WalkM.nil ?_
        intro V hV
        rw [hV]
        clear hV V
        have HB3 := Lib.hid (HBR.out.trans (hr3.mono HBR.out.size))
        have HW3 := Lib.hid (row_below HOWN.out hr3)
        have HSZ := Lib.hid HBR.out.size
        clear hr3 hx3
        by_cases hc0 : Rc = 0
        · subst hc0
          have H2 : U = (Rl, true) := by simpa using HU2.out
          have HF := Lib.hid (show ∃ j' : Nat, j' ≤ es.length ∧ Value.int .i64 ((j : Int) + 1) = .int .i64 j' ∧ Below w.heap.size w W3 ∧ (underGo dfr dto ((es.map (·.1)).take j')).2 = true ∧ W3.ownsRow w.heap.size 36 2 (.slice A3 Rl.length c3) (underGo dfr dto ((es.map (·.1)).take j')).1.length (itemCells (underGo dfr dto ((es.map (·.1)).take j')).1) from
            ⟨j + 1, by omega, by go_num, HB3.out, by rw [HU.out, H2], by rw [HU.out, H2]; exact ownsRow_wide HU3.out HSZ.out⟩)
          clear H2
          go_wp2
          exact ⟨HF.out, by simp [intOf]; omega⟩
        · have hcb : (Rc != 0) = true := by simpa using hc0
          have H3 := HST.out hc0
          have HF := Lib.hid (show W3.ownsRow w.heap.size 36 2 (.slice Ao G.length co) (underOf dfr dto (es.map (·.1))).length (itemCells (underOf dfr dto (es.map (·.1)))) by rw [H3]; exact HW3.out)
          clear H3
          go_wp2
          go_ret
          exact ⟨⟨_, rfl, HF.out⟩, HB3.out⟩
    · obtain rfl : j = es.length := by omega
      have hd : decide ((es.length : Int) < (es.length : Int)) = false := by simp
      have HBR := Lib.hid hBr
      have hU : (underGo fr to_ ((es.map (·.1)).take es.length)).1 = underOf fr to_ (es.map (·.1)) := by unfold underOf; rw [List.take_of_length_le (by simp)]
      rw [hU] at hown
      have HOWN := Lib.hid hown
      clear hU hown hgo hBr
      go_wp2
      go_ret
      exact ⟨⟨_, rfl, HOWN.out⟩, HBR.out⟩
end Mv
end Go.Proofs.Ytdbkkldgobkjcaa
