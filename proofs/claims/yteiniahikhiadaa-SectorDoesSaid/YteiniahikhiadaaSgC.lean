/-
  sector: the document's device: Off, Stop, Write.
-/
import Derived.Test.YteiniahikhiadaaSgB
import Derived.Test.YteiniahikhiadaaSeH
namespace Go.Proofs.Yteiniahikhiadaa
open Go.RowKit Go.Maps
namespace Se
open Ce
section
variable {w w' : World} {base x sb lb tb : Nat} {R R' : Rv}
theorem roff_calls (h : RvAt w base x sb lb tb R) :
    Calls Try.prog 58 #[.pointer (some ⟨x, 0, none⟩)] w fun e w' => e = .returned (.bool (offR R)) ∧ w = w' := by
  obtain ⟨y0, y1, y2, y3, y4, y5, y6⟩ := h.cells
  have HO := Lib.hid (show offR R = (R.stops && decide (R.left ≤ 0)) from rfl)
  generalize offR R = O at *
  generalize R.stops = S at *
  generalize R.left = L at *
  clear h y0 y1 y2 y5 y6
  go_enter Try.func58, Try.ntmps58
  cases S with
  | true =>
    go_wp2
    go_ret
    exact ⟨by rw [HO.out]; rfl, rfl⟩
  | false =>
    go_wp2
    go_ret
    exact ⟨by rw [HO.out]; rfl, rfl⟩
set_option maxRecDepth 100000 in
theorem rstop_calls (h : RvAt w base x sb lb tb R) (n : Int) (h0 : -9223372036854775808 ≤ n) (h1 : n ≤ 9223372036854775807) :
    Calls Try.prog 34 #[.pointer (some ⟨x, 0, none⟩), .int .i64 n] w fun e w' => e = .returned (.tuple #[]) ∧ RvAt w' base x sb lb tb (stopR R n) ∧ Rev x sb lb tb w w' := by
  obtain ⟨y0, y1, y2, y3, y4, y5, y6⟩ := h.cells
  have hz := h.ob.frozen 3
  have hz2 := h.ob.frozen 4
  have hst := (h.ob.set 3 (.bool (decide (0 ≤ n)))).set 4 (.int .i64 n)
  have hg := (grownBy_set w x 3 (.bool (decide (0 ≤ n)))).trans (grownBy_set _ x 4 (.int .i64 n))
  have hC : ((revC R sb lb tb).setIfInBounds 3 (.bool (decide (0 ≤ n)))).setIfInBounds 4 (.int .i64 n) = revC (stopR R n) sb lb tb := rfl
  rw [hC] at hst
  have HD := Lib.hid (h.own (R' := stopR R n) hg hst rfl rfl rfl ⟨h.ok.sure, h.ok.last, h.ok.ll, h.ok.dl, ⟨h0, h1⟩, h.ok.wr, h.ok.fl⟩)
  have HG := Lib.hid (Rev.of (sb := sb) (lb := lb) (tb := tb) hg (.inl rfl))
  clear h hC hst hg y0 y1 y2 y5 y6
  go_enter Try.func34, Try.ntmps34
  go_wp2
  go_end0
  exact ⟨rfl, HD.out, HG.out⟩
set_option maxRecDepth 100000 in
theorem rwrite_arg (h : RvAt w base x sb lb tb R) (i : Int) (A : Option Addr) (n c : Nat) (hbad : i < 0 ∨ (R.sure.length : Int) ≤ i ∨ n ≠ 64) :
    Calls Try.prog 44 #[.pointer (some ⟨x, 0, none⟩), .int .i64 i, .slice A n c] w fun e w' => e = .returned (.int .i64 1) ∧ w = w' := by
  obtain ⟨y0, y1, y2, y3, y4, y5, y6⟩ := h.cells
  generalize R.sure.length = m at *
  clear h y1 y2 y3 y4 y5 y6
  by_cases h1 : i < 0
  · have hd : decide (i < 0) = true := by simpa using h1
    clear h1 hbad
    go_enter Try.func44, Try.ntmps44
    go_wp2
    go_ret
    exact ⟨rfl, rfl⟩
  · have hd : decide (i < 0) = false := by simpa using h1
    by_cases h2 : (m : Int) ≤ i
    · have hd2 : decide (i ≥ (m : Int)) = true := by simpa using h2
      clear h1 h2 hbad
      go_enter Try.func44, Try.ntmps44
      go_wp2
      go_ret
      exact ⟨rfl, rfl⟩
    · have hd2 : decide (i ≥ (m : Int)) = false := by simpa using h2
      have hd3 : ((n : Int) != 64) = true := by simp; omega
      clear h1 h2 hbad
      go_enter Try.func44, Try.ntmps44
      go_wp2
      go_ret
      exact ⟨rfl, rfl⟩
set_option maxRecDepth 100000 in
theorem rwrite_off (h : RvAt w base x sb lb tb R) (ho : offR R = true) (i : Nat) (A : Option Addr) (c : Nat) (hi : i < R.sure.length) :
    Calls Try.prog 44 #[.pointer (some ⟨x, 0, none⟩), .int .i64 i, .slice A 64 c] w fun e w' => e = .returned (.int .i64 30) ∧ w = w' := by
  have cO := roff_calls h
  rw [ho] at cO
  have CO := Lib.hid cO
  obtain ⟨y0, y1, y2, y3, y4, y5, y6⟩ := h.cells
  generalize R.sure.length = m at *
  clear h y1 y2 y3 y4 y5 y6 cO ho
  have hd : decide ((i : Int) < 0) = false := by simp; try omega
  have hd2 : decide (m ≤ i) = false := by simp; omega
  have hd3 : decide ((i : Int) ≥ (m : Int)) = false := by simp; omega
  go_enter Try.func44, Try.ntmps44
  go_wp2_with fail
  refine CO.out.mono ?_
  rintro e W ⟨rfl, rfl⟩
  go_wp2
  go_ret
  exact ⟨rfl, rfl⟩
theorem bytesV_getD {l : List UInt8} {k : Nat} (hk : k < l.length) : (bytesV l)[k]? = some (.int .u8 ((l.getD k 0).toNat : Int)) := by
  unfold bytesV
  simp [List.getD_eq_getElem?_getD, hk]
/-- some of a sector's bytes -/
def partB (o b : Blk) (k : Nat) : Blk := b.take k ++ o.drop k
theorem partB_len {o b : Blk} (h1 : o.length = 64) (h2 : b.length = 64) {k : Nat} (hk : k ≤ 64) : (partB o b k).length = 64 := by unfold partB; rw [List.length_append, List.length_take, List.length_drop]; omega
theorem partB_zero (o b : Blk) : partB o b 0 = o := by simp [partB]
theorem partB_all {o b : Blk} (h1 : o.length = 64) (h2 : b.length = 64) : partB o b 64 = b := by unfold partB; rw [List.take_of_length_le (by omega), List.drop_eq_nil_of_le (by omega), List.append_nil]
theorem partB_step {o b : Blk} (h1 : o.length = 64) (h2 : b.length = 64) {k : Nat} (hk : k < 64) : (partB o b k).set k (b.getD k 0) = partB o b (k + 1) := by
  unfold partB
  apply List.ext_getElem
  · simp; omega
  · intro j g1 g2
    rw [List.getElem_set]
    by_cases e : k = j
    · subst e
      rw [if_pos rfl, List.getElem_append_left (by simp; omega), List.getElem_take, List.getD_eq_getElem?_getD, List.getElem?_eq_getElem (by omega)]
      rfl
    · rw [if_neg e]
      by_cases hj : j < k
      · rw [List.getElem_append_left (by simp; omega), List.getElem_append_left (by simp; omega)]
        simp
      · rw [List.getElem_append_right (by simp; omega), List.getElem_append_right (by simp; omega)]
        simp only [List.getElem_drop, List.length_take]
        congr 1
        omega
theorem set_getD (l : List Blk) (i : Nat) : l.set i (l.getD i []) = l := by
  apply List.ext_getElem
  · simp
  · intro j g1 g2
    rw [List.getElem_set]
    by_cases e : i = j
    · subst e
      rw [if_pos rfl, List.getD_eq_getElem?_getD, List.getElem?_eq_getElem g2]
      rfl
    · rw [if_neg e]
theorem getD_set_self {l : List Blk} {i : Nat} (hi : i < l.length) (b : Blk) : (l.set i b).getD i [] = b := by
  rw [List.getD_eq_getElem?_getD, List.getElem?_set_self hi]
  rfl
def wK (R : Rv) (i : Nat) (b : Blk) (k : Nat) : Rv := { R with last := R.last.set i (partB (R.last.getD i []) b k) }
theorem wK_step {R : Rv} {i : Nat} {b : Blk} (hok : OkR R) (hi : i < R.sure.length) (hb : b.length = 64) {k : Nat} (hk : k < 64) : ({ wK R i b k with last := (wK R i b k).last.set i (((wK R i b k).last.getD i []).set k (b.getD k 0)) } : Rv) = wK R i b (k + 1) := by
  unfold wK
  dsimp only
  rw [getD_set_self (by rw [hok.ll]; exact hi), partB_step (last_len hok hi) hb hk, List.set_set]
theorem bytes_cell {lo hi : Nat} {v : Value} {bl : List UInt8} (h : BytesAt w lo hi v bl) {A : Option Addr} {n c : Nat} (he : v = .slice A n c) (hl : bl.length = 64) : ∃ b o, A = some ⟨b, o, none⟩ ∧ n = 64 ∧ lo ≤ b ∧ b < hi ∧ ∀ V : World, BytesAt V lo hi v bl → ∀ k, k < 64 → V.cell? ⟨b, o + k, none⟩ = some (.int .u8 ((bl.getD k 0).toNat : Int)) := by
  subst he
  obtain ⟨A', c', e, -⟩ := h.form
  cases e
  obtain ⟨b, o, rfl, h1, h2, -⟩ := h.cellAt (j := 0) (by omega)
  refine ⟨b, o, rfl, hl, h1, h2, fun V hV k hk => ?_⟩
  obtain ⟨b', o', e, -, -, hc⟩ := hV.cellAt (j := k) (by omega)
  cases e
  rw [hc, List.getD_eq_getElem?_getD, List.getElem?_eq_getElem (by omega)]
  rfl
theorem Rev.bytes {lo hi : Nat} {v : Value} {bl : List UInt8} (h : Rev x sb lb tb w w') (hI : BytesAt w lo hi v bl) (hhi : hi ≤ w.heap.size) (hd : ∀ k, lo ≤ k → k < hi → k ≠ x ∧ k ≠ sb ∧ k ≠ lb ∧ k ≠ tb) : BytesAt w' lo hi v bl :=
  Kept.sl h hI fun i h1 h2 => ⟨by omega, hd i h1 h2⟩
set_option maxRecDepth 100000 in
set_option maxHeartbeats 8000000 in
theorem rwrite_good (h : RvAt w base x sb lb tb R) (ho : offR R = false) (i : Nat) (bl : List UInt8) (v : Value) (lo hi : Nat) (hI : BytesAt w lo hi v bl) (hhi : hi ≤ w.heap.size) (hdj : ∀ k, lo ≤ k → k < hi → k ≠ x ∧ k ≠ sb ∧ k ≠ lb ∧ k ≠ tb) (hi1 : i < R.sure.length) (hbl : bl.length = 64) :
    Calls Try.prog 44 #[.pointer (some ⟨x, 0, none⟩), .int .i64 i, v] w fun e w' => e = .returned (.int .i64 0) ∧ RvAt w' base x sb lb tb { R with left := wrap64 (R.left - 1), last := R.last.set i bl, dirty := R.dirty.set i true, wr := wrap64 (R.wr + 1) } ∧ Rev x sb lb tb w w' := by
  have cO := roff_calls h
  rw [ho] at cO
  have CO := Lib.hid cO
  obtain ⟨y0, y1, y2, y3, y4, y5, y6⟩ := h.cells
  obtain ⟨A, c, rfl, -⟩ := hI.form
  obtain ⟨bb, oo, rfl, hn64, hb1, hb2, hbc⟩ := bytes_cell hI rfl hbl
  rw [hbl]
  rw [hbl] at hI hbc
  have HBC := Lib.hid hbc
  have hlen := h.len.2
  have hst := h.ob.set 4 (.int .i64 (wrap64 (R.left - 1)))
  have hg := grownBy_set w x 4 (.int .i64 (wrap64 (R.left - 1)))
  have hz4 := h.ob.frozen 4
  obtain ⟨R1, hR1⟩ : ∃ R1 : Rv, R1 = { R with left := wrap64 (R.left - 1) } := ⟨_, rfl⟩
  have hC : (revC R sb lb tb).setIfInBounds 4 (.int .i64 (wrap64 (R.left - 1))) = revC R1 sb lb tb := by rw [hR1]; rfl
  rw [hC] at hst
  have hok1 : OkR R1 := by rw [hR1]; exact ⟨h.ok.sure, h.ok.last, h.ok.ll, h.ok.dl, wrap64_bd _, h.ok.wr, h.ok.fl⟩
  have H1 := Lib.hid (h.own (R' := R1) hg hst (by rw [hR1]) (by rw [hR1]) (by rw [hR1]) hok1)
  have HV1 := Lib.hid (Rev.of (sb := sb) (lb := lb) (tb := tb) hg (.inl rfl))
  have HI := Lib.hid hI
  have hm1 : R1.sure.length = R.sure.length := by rw [hR1]
  have HFIN := Lib.hid (show ∀ l d : _, ({ R1 with last := l, dirty := d, wr := wrap64 (R1.wr + 1) } : Rv) = { R with left := wrap64 (R.left - 1), last := l, dirty := d, wr := wrap64 (R.wr + 1) } from fun l d => by rw [hR1])
  have HRL := Lib.hid (show R1.last = R.last ∧ R1.dirty = R.dirty by rw [hR1]; exact ⟨rfl, rfl⟩)
  have HBL := Lib.hid hbl
  generalize hm : R.sure.length = m at *
  generalize R.left = L at *
  have HM1 := Lib.hid hm1
  have HOK1 := Lib.hid hok1
  clear h hI hbc hst hg hC hR1 cO ho hok1 hm1 hbl hm y1 y2 y3 y5 y6 hn64
  have hd : decide ((i : Int) < 0) = false := by simp; try omega
  have hd2 : decide (m ≤ i) = false := by simp; omega
  have hd3 : decide ((i : Int) ≥ (m : Int)) = false := by simp; omega
  go_enter Try.func44, Try.ntmps44
  go_wp2_with fail
  refine CO.out.mono ?_
  rintro e W ⟨rfl, rfl⟩
  go_wp2_with fail
  clear hd hd2 hd3 y0 y4 hz4
  go_loopw [7] (fun q wr => ∃ k : Nat, k ≤ 64 ∧ q = .int .i64 k ∧ RvAt wr base x sb lb tb (wK R1 i bl k) ∧ Rev x sb lb tb w wr) (fun q _ => 64 - (intOf q).toNat)
  case atStart => exact ⟨0, by omega, rfl, by unfold wK; rw [partB_zero, set_getD]; exact H1.out, HV1.out⟩
  case round =>
    obtain ⟨k, hk, rfl, hW, hV⟩ := hrel
    clear H1 HV1
    have HW := Lib.hid hW
    have HV := Lib.hid hV
    have hIr := Rev.bytes hV HI.out hhi hdj
    have hmk : (wK R1 i bl k).sure.length = m := HM1.out
    have hO := hW.ob
    unfold revC at hO
    rw [hmk] at hO
    by_cases hlt : k < 64
    · have hd : decide ((k : Int) < 64) = true := by simp; omega
      have hq1 : i < (wK R1 i bl k).last.length := by rw [hW.ok.ll, hmk]; exact hi1
      have hbk : ((wK R1 i bl k).last.getD i []).length = 64 := last_len hW.ok (by rw [hmk]; exact hi1)
      have hcell := hW.last.at_ i hq1 k (.int .u8 ((((wK R1 i bl k).last.getD i []).getD k 0).toNat : Int)) (by
        have e1 : (wK R1 i bl k).last[i] = (wK R1 i bl k).last.getD i [] := by rw [List.getD_eq_getElem?_getD, List.getElem?_eq_getElem hq1]; rfl
        rw [e1]
        exact bytesV_getD (by omega))
      have hfz := (hW.last.there (i * 64 + k) (by omega)).2
      rw [Nat.zero_add] at hfz
      have HST := Lib.hid (RvAt.lastByte (w := wr.drew) (hW.same (Below.refl _ _).drew) (i := i) (j := k) (by rw [hmk]; exact hi1) hlt (bl.getD k 0))
      rw [wK_step HOK1.out (by rw [HM1.out]; exact hi1) HBL.out hlt] at HST
      have HVS := Lib.hid ((hV.trans Rev.drew).trans (Rev.of (sb := sb) (lb := lb) (tb := tb) (grownBy_set wr.drew lb (i * 64 + k) (.int .u8 ((bl.getD k 0).toNat : Int))) (.inr (.inr (.inl rfl)))))
      have hOd : Ob wr.drew x 98 #[.slice (some ⟨sb, 0, none⟩) m m, .slice (some ⟨lb, 0, none⟩) m m, .slice (some ⟨tb, 0, none⟩) m m, .bool (wK R1 i bl k).stops, .int .i64 (wK R1 i bl k).left, .int .i64 (wK R1 i bl k).wr, .int .i64 (wK R1 i bl k).fl] := hO
      have hId := hIr.below (Below.refl hi wr).drew
      have hcd : wr.drew.cell? ⟨lb, i * 64 + k, none⟩ = _ := hcell
      have hfd : wr.drew.frozen? ⟨lb, i * 64 + k, none⟩ = false := hfz
      generalize (wK R1 i bl k).stops = S at *
      generalize (wK R1 i bl k).left = L2 at *
      generalize (wK R1 i bl k).wr = N1 at *
      generalize (wK R1 i bl k).fl = N2 at *
      generalize (((wK R1 i bl k).last.getD i []).getD k 0) = old at *
      have HBCk := Lib.hid (fun V (hV : BytesAt V lo hi (.slice (some ⟨bb, oo, none⟩) 64 c) bl) => HBC.out V hV k hlt)
      have hgl := grownBy_set wr.drew lb (i * 64 + k) (.int .u8 ((bl.getD k 0).toNat : Int))
      have hOe := hOd.kept hgl (fun e => hW.ne.2.1 (Option.some.inj e))
      have hIe : BytesAt _ lo hi (.slice (some ⟨bb, oo, none⟩) 64 c) bl := Sl.grown hId hgl (Nat.le_trans hhi hV.size) (fun j e => by
        have e2 : lb = j := Option.some.inj e
        subst e2
        rcases Nat.lt_or_ge lb lo with h1 | h1
        · exact .inl h1
        · rcases Nat.lt_or_ge lb hi with h2 | h2
          · exact ((hdj lb h1 h2).2.2.1 rfl).elim
          · exact .inr h2)
      clear hgl
      generalize bl.getD k 0 = cc at *
      clear hW hV hIr hO hcell hfz hbk hq1 hmk
      go_wp2_with fail
      refine Pu.regionM [(0, false), (1, false), (2, false), (3, false), (4, false), (5, false), (6, false), (7, false), (8, false), (9, false), (10, false), (11, false), (12, true)] (fun V => Ob V x 98 #[.slice (some ⟨sb, 0, none⟩) m m, .slice (some ⟨lb, 0, none⟩) m m, .slice (some ⟨tb, 0, none⟩) m m, .bool S, .int .i64 L2, .int .i64 N1, .int .i64 N2] ∧ BytesAt V lo hi (.slice (some ⟨bb, oo, none⟩) 64 c) bl) hmx (by kernel_rfl) (by kernel_rfl) (by kernel_rfl) ⟨hOd, hId⟩ rfl ?_
      simp only [Pu.named, List.filterMap_cons, List.filterMap_nil, List.getElem?_toArray, List.getElem?_cons_succ, List.getElem?_cons_zero, Option.map_some]
      iterate 12 (first
        | (refine Pu.WalkM.off (by rfl) ?_; simp only [Act.put, List.setIfInBounds_toArray, List.set_cons_succ, List.set_cons_zero])
        | (apply Pu.WalkM.on (by rfl)
           · intro V hV
             obtain ⟨gO, gI⟩ := hV
             have y0 := gO.cell (j := 0) (v := .slice (some ⟨sb, 0, none⟩) m m) rfl
             have y1 := gO.cell (j := 1) (v := .slice (some ⟨lb, 0, none⟩) m m) rfl
             have y2 := gO.cell (j := 2) (v := .slice (some ⟨tb, 0, none⟩) m m) rfl
             have yb := HBCk.out V gI
             go_wp2_with fail
             refine ⟨rfl, ?_, rfl⟩
             try simp only [Act.put, List.setIfInBounds_toArray, List.set_cons_succ, List.set_cons_zero]
             rfl
           simp only [Act.put, List.setIfInBounds_toArray, List.set_cons_succ, List.set_cons_zero]))
      refine Pu.WalkM.make (by rfl) ?_
      intro V hV
      rw [hV]
      clear hV V
      generalize hWd : wr.drew = WD at *
      clear hWd
      go_wp2_with fail
      refine ⟨rfl, undef, _, (fun V => V = WD.setCell ⟨lb, i * 64 + k, none⟩ (.int .u8 (cc.toNat : Int))), rfl, rfl, (fun V h => by rw [h]; exact ⟨hOe, hIe⟩), (.inr (fun _ h => h)), Pu.WalkM.nil ?_⟩
      intro V hV
      rw [hV]
      clear hV V
      simp only [Act.put]
      clear hcd hfd hOd hId hOe hIe
      go_wp2
      exact ⟨⟨k + 1, by omega, by go_num, HST.out, HVS.out⟩, by simp [intOf]; omega⟩
    · obtain rfl : k = 64 := by omega
      have hd : decide (((64 : Nat) : Int) < 64) = false := by simp
      have hlr := HRL.out
      have hwk : wK R1 i bl 64 = { R1 with last := R1.last.set i bl } := by
        unfold wK
        rw [partB_all (last_len HOK1.out (by rw [HM1.out]; exact hi1)) HBL.out]
      rw [hwk] at hW hO HW
      have hdl : i < R1.dirty.length := by rw [HOK1.out.dl, HM1.out]; exact hi1
      have hc2 := hW.dirty.cell (boolC_get hdl)
      have hf2 := hW.dirty.frozen i
      have hW2 := hW.setDirty i true
      have hg2 := grownBy_set wr tb i (.bool true)
      have hO2 := hO.kept hg2 (fun e => hW.ne.2.2.1 (Option.some.inj e))
      have hst := hW2.ob.set 5 (.int .i64 (wrap64 (R1.wr + 1)))
      have hg3 := grownBy_set (wr.setCell ⟨tb, i, none⟩ (.bool true)) x 5 (.int .i64 (wrap64 (R1.wr + 1)))
      have hfx := hO2.frozen 5
      have hok3 : OkR { R1 with last := R1.last.set i bl, dirty := R1.dirty.set i true, wr := wrap64 (R1.wr + 1) } := ⟨hW2.ok.sure, hW2.ok.last, hW2.ok.ll, hW2.ok.dl, hW2.ok.left, wrap64_bd _, hW2.ok.fl⟩
      have hW3 := hW2.own (R' := { R1 with last := R1.last.set i bl, dirty := R1.dirty.set i true, wr := wrap64 (R1.wr + 1) }) hg3 hst rfl rfl rfl hok3
      have HV3 := Lib.hid ((hV.trans (Rev.of (sb := sb) (lb := lb) (tb := tb) hg2 (.inr (.inr (.inr rfl))))).trans (Rev.of (sb := sb) (lb := lb) (tb := tb) hg3 (.inl rfl)))
      rw [HFIN.out, hlr.1, hlr.2] at hW3
      have HW3 := Lib.hid hW3
      have yy2 := hO.cell (j := 2) (v := .slice (some ⟨tb, 0, none⟩) m m) rfl
      have yy5 := hO2.cell (j := 5) (v := .int .i64 R1.wr) rfl
      generalize R1.wr = NW at *
      have hd2 : decide (i < m) = true := by simpa using hi1
      clear hwk hW hV hIr hmk hO hO2 hst hg2 hg3 hok3 hW2 hW3 hlr hdl
      go_wp2
      go_ret
      exact ⟨rfl, HW3.out, HV3.out⟩
end
end Se
end Go.Proofs.Yteiniahikhiadaa
