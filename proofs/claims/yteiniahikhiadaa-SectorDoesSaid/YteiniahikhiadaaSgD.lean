/-
  sector: the document's device: Flush.
-/
import Derived.Test.YteiniahikhiadaaSgC
namespace Go.Proofs.Yteiniahikhiadaa
open Go.RowKit Go.Maps
namespace Se
open Ce
section
variable {w w' : World} {base x sb lb tb : Nat} {R R' : Rv}
def flS (R : Rv) : Nat → Rv
  | 0 => R
  | k + 1 => { flS R k with sure := (flS R k).sure.set k (R.last.getD k []), dirty := (flS R k).dirty.set k false }
theorem flS_same (R : Rv) : ∀ k, (flS R k).last = R.last ∧ (flS R k).stops = R.stops ∧ (flS R k).left = R.left ∧ (flS R k).wr = R.wr ∧ (flS R k).fl = R.fl ∧ (flS R k).sure.length = R.sure.length ∧ (flS R k).dirty.length = R.dirty.length
  | 0 => ⟨rfl, rfl, rfl, rfl, rfl, rfl, rfl⟩
  | k + 1 => by
    obtain ⟨h1, h2, h3, h4, h5, h6, h7⟩ := flS_same R k
    refine ⟨h1, h2, h3, h4, h5, ?_, ?_⟩
    · simp [flS, h6]
    · simp [flS, h7]
theorem flS_at (R : Rv) (k j : Nat) : (flS R k).sure[j]? = (if j < k ∧ j < R.sure.length then some (R.last.getD j []) else R.sure[j]?) ∧ (flS R k).dirty[j]? = (if j < k ∧ j < R.dirty.length then some false else R.dirty[j]?) := by
  induction k with
  | zero => simp [flS]
  | succ k ih =>
    obtain ⟨-, -, -, -, -, h6, h7⟩ := flS_same R k
    simp only [flS]
    rw [List.getElem?_set, List.getElem?_set, ih.1, ih.2, h6, h7]
    constructor
    · by_cases e : k = j
      · subst e
        by_cases hl : k < R.sure.length
        · simp [hl]
        · simp [hl]
      · rw [if_neg e]
        by_cases h : j < k
        · simp [h, show j < k + 1 by omega]
        · simp [h, show ¬ j < k + 1 by omega]
    · by_cases e : k = j
      · subst e
        by_cases hl : k < R.dirty.length
        · simp [hl]
        · simp [hl]
      · rw [if_neg e]
        by_cases h : j < k
        · simp [h, show j < k + 1 by omega]
        · simp [h, show ¬ j < k + 1 by omega]
theorem flS_all {R : Rv} (hok : OkR R) : flS R R.sure.length = { R with sure := R.last, dirty := List.replicate R.sure.length false } := by
  obtain ⟨h1, h2, h3, h4, h5, h6, h7⟩ := flS_same R R.sure.length
  have e1 : (flS R R.sure.length).sure = R.last := by
    apply List.ext_getElem?
    intro j
    rw [(flS_at R _ j).1]
    by_cases hj : j < R.sure.length
    · rw [if_pos ⟨hj, hj⟩, List.getD_eq_getElem?_getD, List.getElem?_eq_getElem (by rw [hok.ll]; exact hj)]
      rfl
    · rw [if_neg (fun h => hj h.1), List.getElem?_eq_none (by omega), List.getElem?_eq_none (by rw [hok.ll]; omega)]
  have e2 : (flS R R.sure.length).dirty = List.replicate R.sure.length false := by
    apply List.ext_getElem?
    intro j
    rw [(flS_at R _ j).2, List.getElem?_replicate]
    by_cases hj : j < R.sure.length
    · rw [if_pos ⟨hj, by rw [hok.dl]; exact hj⟩, if_pos hj]
    · rw [if_neg (fun h => hj h.1), if_neg hj, List.getElem?_eq_none (by rw [hok.dl]; omega)]
  generalize flS R R.sure.length = Q at *
  obtain ⟨q1, q2, q3, q4, q5, q6, q7⟩ := Q
  dsimp only at h1 h2 h3 h4 h5 e1 e2
  subst h1 h2 h3 h4 h5 e1 e2
  rfl
set_option maxRecDepth 100000 in
theorem rflush_off (h : RvAt w base x sb lb tb R) (ho : offR R = true) :
    Calls Try.prog 45 #[.pointer (some ⟨x, 0, none⟩)] w fun e w' => e = .returned (.int .i64 30) ∧ w = w' := by
  have cO := roff_calls h
  rw [ho] at cO
  have CO := Lib.hid cO
  clear h cO ho
  go_enter Try.func45, Try.ntmps45
  go_wp2_with fail
  refine CO.out.mono ?_
  rintro e W ⟨rfl, rfl⟩
  go_wp2
  go_ret
  exact ⟨rfl, rfl⟩
set_option maxRecDepth 100000 in
set_option maxHeartbeats 8000000 in
theorem rflush_good (h : RvAt w base x sb lb tb R) (ho : offR R = false) :
    Calls Try.prog 45 #[.pointer (some ⟨x, 0, none⟩)] w fun e w' => e = .returned (.int .i64 0) ∧ RvAt w' base x sb lb tb { R with left := wrap64 (R.left - 1), sure := R.last, dirty := List.replicate R.sure.length false, fl := wrap64 (R.fl + 1) } ∧ Rev x sb lb tb w w' := by
  have cO := roff_calls h
  rw [ho] at cO
  have CO := Lib.hid cO
  obtain ⟨y0, y1, y2, y3, y4, y5, y6⟩ := h.cells
  have hlen := h.len.2
  have hst := h.ob.set 4 (.int .i64 (wrap64 (R.left - 1)))
  have hg := grownBy_set w x 4 (.int .i64 (wrap64 (R.left - 1)))
  have hz4 := h.ob.frozen 4
  obtain ⟨R1, hR1⟩ : ∃ R1 : Rv, R1 = { R with left := wrap64 (R.left - 1) } := ⟨_, rfl⟩
  have hC : (revC R sb lb tb).setIfInBounds 4 (.int .i64 (wrap64 (R.left - 1))) = revC R1 sb lb tb := by rw [hR1]; rfl
  rw [hC] at hst
  have hok1 : OkR R1 := by rw [hR1]; exact ⟨h.ok.sure, h.ok.last, h.ok.ll, h.ok.dl, wrap64_bd _, h.ok.wr, h.ok.fl⟩
  have H1 := Lib.hid (h.own (R' := R1) hg hst (by rw [hR1]) (by rw [hR1]) (by rw [hR1]) hok1)
  have HV1 := Lib.hid (Rev.of (sb := sb) (lb := lb) (tb := tb) hg (.inl rfl))
  have hm1 : R1.sure.length = R.sure.length := by rw [hR1]
  have HEND := Lib.hid (show ({ R1 with sure := R1.last, dirty := List.replicate R1.sure.length false, fl := wrap64 (R1.fl + 1) } : Rv) = { R with left := wrap64 (R.left - 1), sure := R.last, dirty := List.replicate R.sure.length false, fl := wrap64 (R.fl + 1) } by rw [hR1])
  generalize hm : R.sure.length = m at *
  generalize R.left = L at *
  have HM1 := Lib.hid hm1
  have HOK1 := Lib.hid hok1
  clear h hst hg hC hR1 cO ho hok1 hm1 hm y0 y1 y2 y3 y5 y6
  go_enter Try.func45, Try.ntmps45
  go_wp2_with fail
  refine CO.out.mono ?_
  rintro e W ⟨rfl, rfl⟩
  go_wp2_with fail
  clear y4 hz4
  go_loopw [3] (fun q wr => ∃ k : Nat, k ≤ m ∧ q = .int .i64 k ∧ RvAt wr base x sb lb tb (flS R1 k) ∧ Rev x sb lb tb w wr) (fun q _ => m - (intOf q).toNat)
  case atStart => exact ⟨0, by omega, rfl, H1.out, HV1.out⟩
  case round =>
    obtain ⟨k, hk, rfl, hW, hV⟩ := hrel
    clear H1 HV1
    obtain ⟨hs1, hs2, hs3, hs4, hs5, hs6, hs7⟩ := flS_same R1 k
    have hsl : (flS R1 k).sure.length = m := hs6.trans HM1.out
    have hO := hW.ob
    unfold revC at hO
    rw [hsl] at hO
    have yy0 := hO.cell (j := 0) (v := .slice (some ⟨sb, 0, none⟩) m m) rfl
    by_cases hlt : k < m
    · have hd : decide ((k : Int) < (m : Int)) = true := by simp; omega
      have hd' : decide (k < m) = true := by simpa using hlt
      have hll : k < (flS R1 k).last.length := by rw [hW.ok.ll, hsl]; exact hlt
      have eg : (flS R1 k).last[k] = R1.last.getD k [] := by
        rw [List.getD_eq_getElem?_getD, ← hs1, List.getElem?_eq_getElem hll]
        rfl
      have hr := hW.last.at_ k hll
      rw [eg] at hr
      have hlast64 : (R1.last.getD k []).length = 64 := by rw [← eg]; exact hW.ok.last _ (List.getElem_mem hll)
      have hth : wr.there sb (k * 64) 64 := there_part hW.sure.there (by rw [hsl]; omega)
      have hb := (Below.refl wr.heap.size wr).drew
      have HWD := Lib.hid (hW.same hb)
      have HW1 := Lib.hid (HWD.out.setSure (i := k) (by rw [hsl]; exact hlt) hlast64)
      have hdl : k < (flS R1 k).dirty.length := by rw [hW.ok.dl, hsl]; exact hlt
      have hc2 := HW1.out.dirty.cell (boolC_get hdl)
      have hf2 := HW1.out.dirty.frozen k
      have HW2 := Lib.hid (show RvAt _ base x sb lb tb (flS R1 (k + 1)) from HW1.out.setDirty k false)
      have hgc := grownBy_cells (b := sb) (bytesV (R1.last.getD k [])) wr.drew (k * 64)
      have HVS := Lib.hid ((hV.trans Rev.drew).trans ((Rev.of (x := x) (sb := sb) (lb := lb) (tb := tb) hgc (.inr (.inl rfl))).trans (Rev.of (x := x) (sb := sb) (lb := lb) (tb := tb) (grownBy_set _ tb k (.bool false)) (.inr (.inr (.inr rfl))))))
      have hOd : Ob wr.drew x 98 #[.slice (some ⟨sb, 0, none⟩) m m, .slice (some ⟨lb, 0, none⟩) m m, .slice (some ⟨tb, 0, none⟩) m m, .bool (flS R1 k).stops, .int .i64 (flS R1 k).left, .int .i64 (flS R1 k).wr, .int .i64 (flS R1 k).fl] := hO
      have hrd : wr.drew.rangeAt lb (k * 64) (bytesV (R1.last.getD k [])) := (World.rangeAt_drew _ _ _ _).2 hr
      have htd : wr.drew.there sb (k * 64) 64 := (World.there_drew _ _ _ _).2 hth
      have hne := hW.ne
      have hOc := hOd.kept hgc (fun e => hne.1 (Option.some.inj e))
      have hrc := range_of_block (hgc.block lb (show lb < wr.drew.heap.size from hW.last.lt) (fun e => hne.2.2.2.1 (Option.some.inj e).symm)) hrd
      have HL := Lib.hid hlast64
      generalize (flS R1 k).stops = S at *
      generalize (flS R1 k).left = L2 at *
      generalize (flS R1 k).wr = N1 at *
      generalize (flS R1 k).fl = N2 at *
      generalize (flS R1 k).dirty.getD k false = od at *
      generalize hbs : R1.last.getD k [] = bs at *
      have HSZ := Lib.hid (show (bytesV bs).toArray.size = 64 by simp [bytesV_length, HL.out])
      clear hW hV hO hr eg hll hth hb hdl hgc hlast64 hs1 hs2 hs3 hs4 hs5 hs6 hs7 hsl hbs HWD
      go_wp2_with fail
      refine Pu.regionM [(0, false), (1, false), (2, false), (3, false), (4, false), (5, false), (6, false), (7, false), (8, false), (9, false), (10, false), (11, false), (12, false), (13, false), (14, false), (15, false), (16, false), (17, false), (18, true), (19, false), (20, true)] (fun V => Ob V x 98 #[.slice (some ⟨sb, 0, none⟩) m m, .slice (some ⟨lb, 0, none⟩) m m, .slice (some ⟨tb, 0, none⟩) m m, .bool S, .int .i64 L2, .int .i64 N1, .int .i64 N2] ∧ V.rangeAt lb (k * 64) (bytesV bs)) hmx (by kernel_rfl) (by kernel_rfl) (by kernel_rfl) ⟨hOd, hrd⟩ rfl ?_
      simp only [Pu.named, List.filterMap_cons, List.filterMap_nil, List.getElem?_toArray, List.getElem?_cons_succ, List.getElem?_cons_zero, Option.map_some]
      iterate 16 (first
        | (refine Pu.WalkM.off (by rfl) ?_; simp only [Act.put, List.setIfInBounds_toArray, List.set_cons_succ, List.set_cons_zero])
        | (apply Pu.WalkM.on (by rfl)
           · intro V hV
             obtain ⟨gO, gr⟩ := hV
             have y0 := gO.cell (j := 0) (v := .slice (some ⟨sb, 0, none⟩) m m) rfl
             have y1 := gO.cell (j := 1) (v := .slice (some ⟨lb, 0, none⟩) m m) rfl
             have y2 := gO.cell (j := 2) (v := .slice (some ⟨tb, 0, none⟩) m m) rfl
             go_wp2_with fail
             refine ⟨rfl, ?_, rfl⟩
             try simp only [Act.put, List.setIfInBounds_toArray, List.set_cons_succ, List.set_cons_zero]
             rfl
           simp only [Act.put, List.setIfInBounds_toArray, List.set_cons_succ, List.set_cons_zero]))
      apply Pu.WalkM.on (by rfl)
      · intro V hV
        obtain ⟨gO, gr⟩ := hV
        refine wpList_load_mid rfl 102 (.tmp 37) rfl lb (k * 64) rfl (bytesV bs) _ gr Try.underlying102 rfl (by rw [bytesV_length, HL.out]; kernel_rfl) ?_
        go_wp2_with fail
        refine ⟨rfl, ?_, rfl⟩
        try simp only [Act.put, List.setIfInBounds_toArray, List.set_cons_succ, List.set_cons_zero]
        rfl
      simp only [Act.put, List.setIfInBounds_toArray, List.set_cons_succ, List.set_cons_zero]
      iterate 1 (first
        | (refine Pu.WalkM.off (by rfl) ?_; simp only [Act.put, List.setIfInBounds_toArray, List.set_cons_succ, List.set_cons_zero])
        | (apply Pu.WalkM.on (by rfl)
           · intro V hV
             obtain ⟨gO, gr⟩ := hV
             have y0 := gO.cell (j := 0) (v := .slice (some ⟨sb, 0, none⟩) m m) rfl
             have y1 := gO.cell (j := 1) (v := .slice (some ⟨lb, 0, none⟩) m m) rfl
             have y2 := gO.cell (j := 2) (v := .slice (some ⟨tb, 0, none⟩) m m) rfl
             go_wp2_with fail
             refine ⟨rfl, ?_, rfl⟩
             try simp only [Act.put, List.setIfInBounds_toArray, List.set_cons_succ, List.set_cons_zero]
             rfl
           simp only [Act.put, List.setIfInBounds_toArray, List.set_cons_succ, List.set_cons_zero]))
      generalize hWd : wr.drew = WD at *
      clear hWd
      refine Pu.WalkM.make (by rfl) ?_
      intro V hV
      rw [hV]
      clear hV V
      refine wpList_store_mid rfl 102 (.tmp 39) (.tmp 38) rfl sb (k * 64) (bytesV bs).toArray rfl rfl (by rw [HSZ.out]; exact htd) (by rw [HSZ.out]; kernel_rfl) (all_oneCell_toArray (bytesV_one bs)) ?_
      have eT : (bytesV bs).toArray.toList = bytesV bs := by simp
      rw [eT]
      clear eT
      refine ⟨rfl, undef, _, (fun V => V = WD.setCells sb (k * 64) (bytesV bs)), rfl, rfl, (fun V h => by rw [h]; exact ⟨hOc, hrc⟩), (.inr (fun _ h => h)), ?_⟩
      simp only [Act.put]
      generalize hWe : WD.setCells sb (k * 64) (bytesV bs) = WE at *
      clear hWe
      iterate 1 (first
        | (refine Pu.WalkM.off (by rfl) ?_; simp only [Act.put, List.setIfInBounds_toArray, List.set_cons_succ, List.set_cons_zero])
        | (apply Pu.WalkM.on (by rfl)
           · intro V hV
             obtain ⟨gO, gr⟩ := hV
             have y0 := gO.cell (j := 0) (v := .slice (some ⟨sb, 0, none⟩) m m) rfl
             have y1 := gO.cell (j := 1) (v := .slice (some ⟨lb, 0, none⟩) m m) rfl
             have y2 := gO.cell (j := 2) (v := .slice (some ⟨tb, 0, none⟩) m m) rfl
             go_wp2_with fail
             refine ⟨rfl, ?_, rfl⟩
             try simp only [Act.put, List.setIfInBounds_toArray, List.set_cons_succ, List.set_cons_zero]
             rfl
           simp only [Act.put, List.setIfInBounds_toArray, List.set_cons_succ, List.set_cons_zero]))
      refine Pu.WalkM.make (by rfl) ?_
      intro V hV
      rw [hV]
      clear hV V
      go_wp2_with fail
      refine ⟨rfl, undef, (fun _ => True), (fun V => V = WE.setCell ⟨tb, k, none⟩ (.bool false)), rfl, rfl, (fun _ _ => trivial), (.inl (by kernel_rfl)), Pu.WalkM.nil ?_⟩
      intro V hV
      rw [hV]
      clear hV V
      simp only [Act.put]
      clear hc2 hf2 hOd hrd htd hOc hrc
      go_wp2
      exact ⟨⟨k + 1, by omega, by go_num, HW2.out, HVS.out⟩, by simp [intOf]; omega⟩
    · obtain rfl : k = m := by omega
      have hd : decide ((k : Int) < (k : Int)) = false := by simp
      have hd' : decide (k < k) = false := by simp
      have hfx := hO.frozen 6
      have yy6 := hO.cell (j := 6) (v := .int .i64 (flS R1 k).fl) rfl
      rw [hs5] at yy6
      have hst := hW.ob.set 6 (.int .i64 (wrap64 (R1.fl + 1)))
      have hg3 := grownBy_set wr x 6 (.int .i64 (wrap64 (R1.fl + 1)))
      have hfa := flS_all HOK1.out
      rw [HM1.out] at hfa
      rw [hfa] at hst hW
      have hok3 : OkR { R1 with sure := R1.last, dirty := List.replicate R1.sure.length false, fl := wrap64 (R1.fl + 1) } := by
        have := hW.ok
        rw [HM1.out]
        exact ⟨this.sure, this.last, this.ll, this.dl, this.left, this.wr, wrap64_bd _⟩
      have hW3 := hW.own (R' := { R1 with sure := R1.last, dirty := List.replicate R1.sure.length false, fl := wrap64 (R1.fl + 1) }) hg3 hst rfl rfl (by rw [HM1.out]) hok3
      rw [HEND.out] at hW3
      have HW3 := Lib.hid hW3
      have HV3 := Lib.hid (hV.trans (Rev.of (sb := sb) (lb := lb) (tb := tb) hg3 (.inl rfl)))
      generalize R1.fl = NF at *
      clear hW hV hO hst hg3 hok3 hW3 hfa hs1 hs2 hs3 hs4 hs5 hs6 hs7 hsl
      go_wp2
      go_ret
      exact ⟨rfl, HW3.out, HV3.out⟩
theorem rflush_calls (h : RvAt w base x sb lb tb R) :
    Calls Try.prog 45 #[.pointer (some ⟨x, 0, none⟩)] w fun e w' => e = .returned (.int .i64 (flushR R).2) ∧ RvAt w' base x sb lb tb (flushR R).1 ∧ Rev x sb lb tb w w' := by
  unfold flushR
  cases ho : offR R with
  | true =>
    refine (rflush_off h ho).mono ?_
    rintro e W ⟨rfl, rfl⟩
    exact ⟨rfl, h, Rev.refl _⟩
  | false => exact rflush_good h ho
theorem rwrite_calls (h : RvAt w base x sb lb tb R) (i : Int) (bl : List UInt8) (v : Value) (lo hi : Nat) (hI : BytesAt w lo hi v bl) (hhi : hi ≤ w.heap.size) (hdj : ∀ k, lo ≤ k → k < hi → k ≠ x ∧ k ≠ sb ∧ k ≠ lb ∧ k ≠ tb) :
    Calls Try.prog 44 #[.pointer (some ⟨x, 0, none⟩), .int .i64 i, v] w fun e w' => e = .returned (.int .i64 (writeR R i bl).2) ∧ RvAt w' base x sb lb tb (writeR R i bl).1 ∧ Rev x sb lb tb w w' := by
  unfold writeR
  by_cases hbad : i < 0 ∨ (R.sure.length : Int) ≤ i ∨ bl.length ≠ 64
  · rw [if_pos hbad]
    obtain ⟨A, c, rfl, -⟩ := hI.form
    refine (rwrite_arg h i A _ c hbad).mono ?_
    rintro e W ⟨rfl, rfl⟩
    exact ⟨rfl, h, Rev.refl _⟩
  · rw [if_neg hbad]
    obtain ⟨k, rfl⟩ := Int.eq_ofNat_of_zero_le (show 0 ≤ i by omega)
    cases ho : offR R with
    | true =>
      obtain ⟨A, c, rfl, -⟩ := hI.form
      rw [show bl.length = 64 by omega]
      refine (rwrite_off h ho k A c (by omega)).mono ?_
      rintro e W ⟨rfl, rfl⟩
      exact ⟨rfl, h, Rev.refl _⟩
    | false => exact rwrite_good h ho k bl v lo hi hI hhi hdj (by omega) (by omega)
end
end Se
end Go.Proofs.Yteiniahikhiadaa
