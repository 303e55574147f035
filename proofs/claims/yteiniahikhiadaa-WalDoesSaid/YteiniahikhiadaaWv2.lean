/-
  the document's log: bytes.
  the document's log: write.
  the document's log: Anew.
  the document's log: Room, Sync.
  the document's log: Append.
  the document's log: Compact.
-/
import Derived.Test.YteiniahikhiadaaWv1
import Derived.Test.YteiniahikhiadaaWn2
import Derived.Laws.OwnMore
import Derived.Deep.AppendLies
import Derived.Deep.RegionHeld3
import Derived.Deep.DrawnRows
import Derived.Deep.DeepMust
import Derived.Deep.DeepCutAuto

set_option linter.unusedVariables false
set_option linter.unusedSimpArgs false
namespace Go.Proofs.Yteiniahikhiadaa
open Go.RowKit Go.Maps
namespace Wa
open Ce Se
theorem u8_wrap (n : Nat) : IntKind.u8.wrap (n : Int) = ((n % 256 : Nat) : Int) := by
  show ((n : Int) % 256) = _
  omega
theorem tb3_vals (q : Nat) (h : q ≤ 65536) : ([.int .u8 (IntKind.u8.wrap (IntKind.i64.wrap ((q : Int) / 65536))), .int .u8 (IntKind.u8.wrap (IntKind.i64.wrap ((q : Int) / 256))), .int .u8 (IntKind.u8.wrap (q : Int))] : List Value) = bytesV (tb3 q) := by
  have e1 : IntKind.i64.wrap ((q : Int) / 65536) = ((q / 65536 : Nat) : Int) := by rw [IntKind.wrap_i64]; omega
  have e2 : IntKind.i64.wrap ((q : Int) / 256) = ((q / 256 : Nat) : Int) := by rw [IntKind.wrap_i64]; omega
  rw [e1, e2, u8_wrap, u8_wrap, u8_wrap]
  simp [bytesV, tb3]
set_option maxRecDepth 100000 in
set_option maxHeartbeats 8000000 in
theorem rbytes_calls (es : List (List UInt8)) (xv : Value) (w : World) (h : ListsAt w xv es) (hok : ∀ e ∈ es, e.length ≤ 65536) (hs : (strm es).length ≤ 600000) :
    Calls Try.prog 65 #[xv] w fun e w' => (∃ v, e = .returned v ∧ w'.ownsRow w.heap.size 5 1 v (strm es).length (bytesV (strm es))) ∧ Below w.heap.size w w' := by
  have hmx : Try.prog.follows .mixedOrders = true := by kernel_rfl
  obtain ⟨i0, hi0, hz0⟩ := Option.map_eq_some_iff.1 byteInfo
  simp only [Prod.mk.injEq] at hz0
  obtain ⟨hz0, hz1, hz2⟩ := hz0
  have HL := Lib.hid h
  have HOK := Lib.hid hok
  have HST := Lib.hid (strm_take_le es)
  obtain ⟨Ax, cx, rfl, hcx1, hcx2⟩ := h.form
  unfold maxLen at hcx2
  have hcnt := strm_cnt es
  clear h hok
  go_enter Try.func65, Try.ntmps65
  go_wp2
  go_loopw [3, 4, 5] (fun av i _ wr => ∃ k : Nat, k ≤ es.length ∧ i = .int .i64 k ∧ wr.ownsRow w.heap.size 5 1 av (strm (es.take k)).length (bytesV (strm (es.take k))) ∧ Below w.heap.size w wr) (fun _ i _ _ => es.length - (intOf i).toNat)
  case atStart => exact ⟨0, by omega, rfl, World.ownsRow_nil _ _ _ _, Below.refl _ _⟩
  case round =>
    obtain ⟨k, hk, rfl, hown, hB⟩ := hrel
    by_cases hlt : k < es.length
    · have hd : decide (k < es.length) = true := by simpa using hlt
      have hd' : decide ((k : Int) < (es.length : Int)) = true := by simp; omega
      obtain ⟨ab, ao, v, rfl, haw, hckw, hvw⟩ := HL.out.cellAt hlt
      have HCE := Lib.hid (fun (W : World) (hW : Below w.heap.size w W) => show W.cell? ⟨ab, ao + k, none⟩ = some v from (hW.cell (p := ⟨ab, ao + k, none⟩) haw).trans hckw)
      have hck := HCE.out _ hB
      have hab : ab < wr.heap.size := Nat.lt_of_lt_of_le haw hB.size
      clear hckw
      have hq := HOK.out es[k] (List.getElem_mem hlt)
      have HTK := Lib.hid (show strm (es.take (k + 1)) = strm (es.take k) ++ tb3 es[k].length ++ es[k] by rw [List.take_succ_eq_append_getElem hlt, strm_snoc, encE, List.append_assoc])
      have HLK := Lib.hid (HST.out (k + 1))
      rw [HTK.out] at HLK
      obtain ⟨A1, c1, rfl, -⟩ := hvw.form
      generalize es[k] = X at *
      have hX2 : ∀ W, Below w.heap.size w W → Sl W 0 w.heap.size 1 (.slice A1 X.length c1) X.length (bytesV X) := fun W hW => hvw.below hW
      generalize hqn : X.length = q at *
      generalize hS : strm (es.take k) = S at *
      have HS := Lib.hid hS
      have HQN := Lib.hid hqn
      have HX2 := Lib.hid hX2
      clear hvw hS hqn hX2
      obtain ⟨Ao, co, rfl, -⟩ := (Sl.of_own hown).at_
      have HOW := Lib.hid hown
      have HBW := Lib.hid hB
      have hsB := hB.size
      clear hown hB
      have hdr := (Below.refl wr.heap.size wr).drew
      have hck2 : wr.drew.cell? ⟨ab, ao + k, none⟩ = _ := (hdr.cell (p := ⟨ab, ao + k, none⟩) hab).trans hck
      have M3 := Lib.hid (show 3 ≤ maxLen by unfold maxLen; omega)
      have M1 := Lib.hid (show S.length + 3 ≤ maxLen by have := HLK.out; simp [tb3] at this; unfold maxLen; omega)
      have Q1 := Lib.hid (show (S.length + 3) * 1 ≤ 140737488355328 by have := HLK.out; simp [tb3] at this; omega)
      have hb3 := tb3_vals q hq
      have HLIT := Lib.hid (fun (W : World) (hW : W = (wr.alloc (.cells #[.int .u8 (IntKind.u8.wrap (IntKind.i64.wrap ((q : Int) / 65536))), .int .u8 (IntKind.u8.wrap (IntKind.i64.wrap ((q : Int) / 256))), .int .u8 (IntKind.u8.wrap (q : Int))] 5)).drew) => show Sl W wr.heap.size (wr.heap.size + 1) 1 (.slice (some ⟨wr.heap.size, 0, none⟩) 3 3) 3 (bytesV (tb3 q)) from hW ▸ hb3 ▸ (Sl.new wr #[.int .u8 (IntKind.u8.wrap (IntKind.i64.wrap ((q : Int) / 65536))), .int .u8 (IntKind.u8.wrap (IntKind.i64.wrap ((q : Int) / 256))), .int .u8 (IntKind.u8.wrap (q : Int))] 5 (n := 3) (size := 1) rfl M3.out).below ((Below.refl _ _).drew))
      have HZ1 := Lib.hid (show w.heap.size ≤ (wr.alloc (.cells #[.int .u8 (IntKind.u8.wrap (IntKind.i64.wrap ((q : Int) / 65536))), .int .u8 (IntKind.u8.wrap (IntKind.i64.wrap ((q : Int) / 256))), .int .u8 (IntKind.u8.wrap (q : Int))] 5)).drew.heap.size by simp; omega)
      have HGR := Lib.hid (fun (W : World) (hg : (wr.alloc (.cells #[.int .u8 (IntKind.u8.wrap (IntKind.i64.wrap ((q : Int) / 65536))), .int .u8 (IntKind.u8.wrap (IntKind.i64.wrap ((q : Int) / 256))), .int .u8 (IntKind.u8.wrap (q : Int))] 5)).drew.grownBy W (.slice Ao S.length co : Value).ownBlock) => (HBW.out.alloc hsB (.cells #[.int .u8 (IntKind.u8.wrap (IntKind.i64.wrap ((q : Int) / 65536))), .int .u8 (IntKind.u8.wrap (IntKind.i64.wrap ((q : Int) / 256))), .int .u8 (IntKind.u8.wrap (q : Int))] 5)).drew.grown hg HZ1.out (fun r e => (HOW.out.lt r e).1))
      have HC1 := Lib.hid (bytesV_append S (tb3 q))
      have HC2 := Lib.hid (bytesV_append (S ++ tb3 q) X)
      have M2 := Lib.hid (show S.length + 3 + q ≤ maxLen by have := HLK.out; have h2 := HQN.out; simp [tb3] at this; unfold maxLen; omega)
      have Q2 := Lib.hid (show (S.length + 3 + q) * 1 ≤ 140737488355328 by have := HLK.out; have h2 := HQN.out; simp [tb3] at this; omega)
      clear hb3
      go_upto_region 1 with (fail)
      go_region_held3 (fun W => W.cell? ⟨ab, ao + k, none⟩ = some (.slice A1 q c1)) (first | go_keep | exact HCE.out _ (by assumption)) ((first
        | (refine step_append_sl _ (o := ⟨some 27, _, _, _, _, _⟩) (by rfl) (.tmp 17) (.tmp 26) 34 (by rfl) w.heap.size 5 i0 _ 1 1 Try.underlying34 hi0 hz0 hz1 hz2 (by rfl) (by omega) _ S.length (bytesV S) (by rfl) ((HOW.out.alloc _).drew) wr.heap.size (wr.heap.size + 1) _ 3 (bytesV (tb3 q)) (by rfl) (HLIT.out _ rfl) (bytesV_one _) M1.out Q1.out HZ1.out ?_; intro v1 W1 hv1 hg1 hat1; have hB1 := HGR.out _ hg1; rw [← HC1.out] at hv1; clear hg1 hat1)
        | (refine step_append_sl _ (o := ⟨some 32, _, _, _, _, _⟩) (by rfl) (.tmp 27) (.tmp 31) 34 (by rfl) w.heap.size 5 i0 _ 1 1 Try.underlying34 hi0 hz0 hz1 hz2 (by rfl) (by omega) _ (S.length + 3) (bytesV (S ++ tb3 q)) (by rfl) hv1 0 w.heap.size _ q (bytesV X) (by rfl) (HX2.out _ hB1) (bytesV_one _) M2.out Q2.out hB1.size ?_; intro v2 W2 hv2 hg2 hat2; have hB2 := hB1.grown hg2 hB1.size (fun r e => (hv1.lt r e).1); rw [← HC2.out] at hv2; clear hg2 hat2 hv1 hB1)))
      go_wp2
      go_roundw
      case rel => exact ⟨k + 1, by omega, by go_num, by rw [HTK.out, show (S ++ tb3 q ++ X).length = S.length + 3 + q by have := HQN.out; simp [tb3]; omega]; exact hv2, hB2⟩
      case measure => simp [intOf]; omega
    · obtain rfl : k = es.length := by omega
      have hd : decide ((es.length : Int) < (es.length : Int)) = false := by simp
      have hd' : decide (es.length < es.length) = false := by simp
      rw [List.take_length] at hown
      go_wp2
      go_ret
      exact ⟨⟨_, rfl, hown⟩, hB⟩
end Wa
end Go.Proofs.Yteiniahikhiadaa

namespace Go.Proofs.Yteiniahikhiadaa
open Go.RowKit Go.Maps
namespace Wa
open Ce Se
theorem lenWR (R : Rv) (i : Int) (b : Blk) : (writeR R i b).1.sure.length = R.sure.length := by
  unfold writeR
  split
  · rfl
  split
  · rfl
  · rfl
theorem lenFR {R : Rv} (h : R.last.length = R.sure.length) : (flushR R).1.sure.length = R.sure.length := by
  unfold flushR
  split
  · rfl
  · exact h
theorem wrG_lenR (R : Rv) (k : Int) (f : Nat → Blk) : ∀ n, (wrG writeR R k f n).1.sure.length = R.sure.length
  | 0 => rfl
  | n + 1 => by
    have ih := wrG_lenR R k f n
    simp only [wrG]
    split
    · rw [lenWR, ih]
    · exact ih
theorem wrG_stepR {R : Rv} {k : Int} {f : Nat → Blk} {j : Nat} (h : (wrG writeR R k f j).2 = 0) : wrG writeR R k f (j + 1) = writeR (wrG writeR R k f j).1 (k + j) (f j) := by
  simp only [wrG]
  rw [if_pos h]
theorem szR_len {R S : Rv} (h : S.sure.length = R.sure.length) : szR S = szR R := by unfold szR; rw [h]
/-- the log's end, if there was an error -/
def finIf (L : Lg) (e : Int) : Lg := { L with fin := L.fin || decide (e ≠ 0) }
/-- what write does -/
def wG (R : Rv) (half from_ : Nat) (l : List UInt8) : Rv × Int := wrG writeR R (Wa.base half (szR R) + (from_ / 63 : Nat)) (fun j => chF l (from_ / 63 + j)) (nch l - from_ / 63)
theorem blk_store {p : List UInt8} (h : p.length ≤ 63) : (p ++ List.replicate (64 - p.length) 0).set 63 (UInt8.ofNat p.length) = blkOf p := by
  unfold blkOf
  rw [show 64 - p.length = (63 - p.length) + 1 by omega, List.replicate_succ', ← List.append_assoc, List.set_append_right _ _ (by simp; omega)]
  congr 1
  rw [show 63 - (p ++ List.replicate (63 - p.length) (0 : UInt8)).length = 0 by simp; omega]
  rfl
section
variable {w w' : World} {base b x sb lb tb : Nat} {R R' : Rv} {L : Lg}
/-- what a look at the document's log needs -/
def RLk (base b x sb lb tb : Nat) (R : Rv) (W : World) : Prop := W.cell? ⟨b, 0, none⟩ = some (.pointer (some ⟨x, 0, none⟩)) ∧ ∃ S, RvAt W base x sb lb tb S ∧ S.sure.length = R.sure.length
theorem RLk.same {W W' : World} (h : RLk base b x sb lb tb R W) (hb : Below W.heap.size W W') (hbl : b < W.heap.size) : RLk base b x sb lb tb R W' := by
  obtain ⟨h1, S, h2, h3⟩ := h
  exact ⟨(hb.cell (p := ⟨b, 0, none⟩) hbl).trans h1, S, h2.same hb, h3⟩
theorem RLk.size {W : World} (h : RLk base b x sb lb tb R W) (h4 : 2 ≤ R.sure.length) :
    Calls Try.prog 60 #[.pointer (some ⟨b, 0, none⟩)] W fun e w' => e = .returned (.int .i64 (szR R : Nat)) ∧ W = w' := by
  obtain ⟨h1, S, h2, h3⟩ := h
  have := rsize_calls h2 (by omega) h1
  rwa [szR_len h3] at this
set_option maxRecDepth 100000 in
set_option maxHeartbeats 8000000 in
theorem rput_calls (h : RvAt w base x sb lb tb R) (h4 : 4 ≤ R.sure.length) {lv : Value} (hb : Ob w b 100 (rlgC x L lv)) (ne : b ≠ x ∧ b ≠ sb ∧ b ≠ lb ∧ b ≠ tb) (half from_ : Nat) (hh : half ≤ 1) (l : List UInt8) (v : Value) (lo hi : Nat)
    (hI : BytesAt w lo hi v l) (hhi : hi ≤ w.heap.size) (hdj : ∀ i, lo ≤ i → i < hi → Fr5 b x sb lb tb i) (hl : l.length ≤ 600000) (hf : from_ ≤ 600000) :
    Calls Try.prog 66 #[.pointer (some ⟨b, 0, none⟩), .int .i64 half, v, .int .i64 from_] w fun e w' =>
      e = .returned (.int .i64 (wG R half from_ l).2) ∧ RvAt w' base x sb lb tb (wG R half from_ l).1 ∧ Ob w' b 100 (rlgC x (finIf L (wG R half from_ l).2) lv) ∧ RLev b x sb lb tb w w' := by
  have hmx : Try.prog.follows .mixedOrders = true := by kernel_rfl
  have hlen := h.len
  have hz : szR R ≤ 8191 := by unfold szR; omega
  have hbl := hb.lt
  obtain ⟨i0, hi0, hz0⟩ := Option.map_eq_some_iff.1 byteInfo
  simp only [Prod.mk.injEq] at hz0
  obtain ⟨hz0, hz1, hz2⟩ := hz0
  obtain ⟨G, hG⟩ : ∃ G : Nat → Rv × Int, G = wrG writeR R (Wa.base half (szR R) + (from_ / 63 : Nat)) (fun j => chF l (from_ / 63 + j)) := ⟨_, rfl⟩
  have HGS := Lib.hid (fun j hj => wrG_stepR (R := R) (k := Wa.base half (szR R) + (from_ / 63 : Nat)) (f := fun j => chF l (from_ / 63 + j)) (j := j) hj)
  have HGL := Lib.hid (fun j => wrG_lenR R (Wa.base half (szR R) + (from_ / 63 : Nat)) (fun j => chF l (from_ / 63 + j)) j)
  have HGB := Lib.hid (fun j n hj hn => wrG_bad (wr := writeR) (D := R) (k := Wa.base half (szR R) + (from_ / 63 : Nat)) (f := fun j => chF l (from_ / 63 + j)) (j := j) hj n hn)
  have H0 := Lib.hid (show wrG writeR R (Wa.base half (szR R) + (from_ / 63 : Nat)) (fun j => chF l (from_ / 63 + j)) 0 = (R, 0) from rfl)
  have HW := Lib.hid (show wG R half from_ l = wrG writeR R (Wa.base half (szR R) + (from_ / 63 : Nat)) (fun j => chF l (from_ / 63 + j)) (nch l - from_ / 63) from rfl)
  rw [← hG] at HGS HGL HGB H0 HW
  have HBE := Lib.hid (fun (i j : Nat) (hij : i = from_ / 63 + j) => show Wa.base half (szR R) + ((from_ / 63 : Nat) : Int) + (j : Int) = 2 + (half : Int) * (szR R : Int) + (i : Int) by unfold Wa.base; omega)
  have HI := Lib.hid hI
  have HDJ := Lib.hid hdj
  have HDV := Lib.hid h
  have HB := Lib.hid hb
  obtain ⟨A, c, rfl, hc1, hc2⟩ := hI.form
  unfold maxLen at hc2
  clear hG h hb hI hdj
  go_enter Try.func66, Try.ntmps66
  go_wp2
  go_loopw [9, 10, 11, 12] (fun i _ _ _ wr => ∃ j : Nat, (j ≤ nch l - from_ / 63) ∧ i = .int .i64 ((from_ / 63 + j : Nat) : Int) ∧ (G j).2 = 0 ∧ RvAt wr base x sb lb tb (G j).1 ∧ Ob wr b 100 (rlgC x L lv) ∧ RLev b x sb lb tb w wr) (fun i _ _ _ _ => nch l - (intOf i).toNat)
  case atStart => exact ⟨0, by omega, by go_num, by rw [H0.out], by rw [H0.out]; exact HDV.out, HB.out, RLev.refl _⟩
  case round =>
    obtain ⟨j, hj, rfl, hGj, hDj, hOj, hK⟩ := hrel
    obtain ⟨i, hi⟩ : ∃ i : Nat, from_ / 63 + j = i := ⟨_, rfl⟩
    rw [hi]
    have HIJ := Lib.hid hi
    clear hi
    have HND := Lib.hid (show nch l = (l.length + 62) / 63 from rfl)
    by_cases hlt : 63 * i < l.length
    · have hd : decide (63 * (i : Int) < (l.length : Int)) = true := by simp; omega
      have hIw : BytesAt wr lo hi (.slice A l.length c) l := Kept.sl hK HI.out fun i h1 h2 => ⟨by omega, HDJ.out i h1 h2⟩
      obtain ⟨p, o, hA, -⟩ := hIw.cellAt (j := 0) (by omega)
      subst hA
      have HPQ := Lib.hid (onFrom hIw (k := 63 * i) (by omega))
      have hcne : ¬ c = 63 * i := by omega
      rw [if_neg hcne] at HPQ
      have HGJ := Lib.hid hGj
      have HDJ2 := Lib.hid hDj
      have HOJ := Lib.hid hOj
      have HK := Lib.hid hK
      have hsz := RLev.size hK
      clear hIw hGj hDj hOj hK
      go_upto_if 28 with (fail)
      have HCH := Lib.hid (show chF l (from_ / 63 + j) = blkOf ((l.drop (63 * i)).take 63) by rw [HIJ.out]; rfl)
      have hlp : (l.drop (63 * i)).length = l.length - 63 * i := List.length_drop
      have HM := Lib.hid (show 0 < l.length - 63 * i ∧ l.length - 63 * i ≤ c - 63 * i by omega)
      generalize l.drop (63 * i) = P at *
      generalize hm : l.length - 63 * i = m at *
      generalize c - 63 * i = cc at *
      generalize o + 63 * i = oo at *
      have HLT := Lib.hid hlt
      have HPL := Lib.hid hlp
      have HMM := Lib.hid hm
      have HJ := Lib.hid hj
      obtain ⟨hm0, hmc⟩ := HM.out
      clear hlt hd hcne hlp hm hj
      obtain ⟨Q, hQ⟩ : ∃ Q, P.take 63 = Q := ⟨_, rfl⟩
      have HQ := Lib.hid hQ
      have HBL := Lib.hid (show (blkOf Q).length = 64 from blkOf_len (by rw [← hQ, List.length_take]; omega))
      have HQL := Lib.hid (show 0 < Q.length ∧ Q.length ≤ 63 by rw [← hQ, List.length_take, HPL.out]; omega)
      rw [hQ] at HCH
      clear hQ
      go_cut [10] (fun pv W => W = wr ∧ BytesAt W lo hi pv Q)
      case first =>
        by_cases hbig : 63 < m
        · have hd : decide (63 < (m : Int)) = true := by simp; omega
          go_wp2
          go_meet
          exact ⟨rfl, by have := upto HPQ.out (k := 63) (by rw [HPL.out]; omega); rwa [HQ.out] at this⟩
        · have hd : decide (63 < (m : Int)) = false := by simp; omega
          go_wp2
          go_meet
          have : P.take 63 = P := List.take_of_length_le (by rw [HPL.out]; omega)
          exact ⟨rfl, by rw [← HQ.out, this]; exact HPQ.out⟩
      case rest =>
        obtain ⟨rfl, hq⟩ := hcut
        obtain ⟨Aq, cq, rfl, hcq1, hcq2⟩ := hq.form
        unfold maxLen at hcq2
        obtain ⟨hq0, hq63⟩ := HQL.out
        have HBK := Lib.hid (fun (W : World) (hW : Below wc.heap.size wc W) => Sl.below hq (hW.mono (show hi ≤ wc.heap.size by omega)))
        have hbs := fun (h : Q.length ≤ 63) => blk_store h
        have HBS := Lib.hid (hbs hq63)
        have hqe : Q.length + (64 - Q.length) = 64 := by omega
        have hqi : ((64 - Q.length : Nat) : Int) = 64 - (Q.length : Int) := by omega
        have HQE := Lib.hid hqe
        have HQI := Lib.hid hqi
        have HC63 := Lib.hid (show (bytesV (Q ++ List.replicate (64 - Q.length) 0))[63]? = some (.int .u8 0) by
          unfold bytesV
          rw [List.getElem?_map, List.getElem?_append_right (by omega), List.getElem?_replicate, if_pos (by omega)]
          rfl)
        clear hbs hq hqe hqi
        generalize hqn : Q.length = q at *
        have HQN := Lib.hid hqn
        clear hqn
        go_wp2_with (first
          | (at_builtin; refine wpList_append_sl _ rfl (.tmp 31) (.tmp 32) _ rfl wc.heap.size 5 i0 _ 1 1 Try.underlying34 hi0 hz0 hz1 hz2 rfl (by omega) (.slice (some ⟨wc.heap.size, 0, none⟩) 0 0) 0 [] rfl (World.ownsRow_lit (e := 5) (size := 1) wc #[] 0 (Nat.le_refl _) (Nat.zero_le _) rfl) lo hi _ q (bytesV Q) rfl (HBK.out _ ((Below.refl wc.heap.size wc).alloc (Nat.le_refl _) (.cells #[] 5))) (bytesV_one _) (by unfold maxLen; omega) (by omega) (by simp) ?_; intro v3 W3 hv3 hg3 hat3; have hb3 := ((Below.refl wc.heap.size wc).alloc (Nat.le_refl _) (.cells #[] 5)).grown hg3 (by simp) (fun k e => by cases e; exact Nat.le_refl _); simp only [Nat.zero_add, List.nil_append] at hv3; obtain ⟨v4, W4, hz, hv4, hg4⟩ := append_zeros W3 wc.heap.size v3 q (64 - q) Q 34 hv3 (by omega) (by omega) hb3.size; rw [HQI.out] at hz; rw [HQE.out] at hv4; have HZ := Lib.hid hz; have hb4 := hb3.grown hg4 hb3.size (fun r e => (hv3.lt r e).1); obtain ⟨g, cap, rfl, hgl, hgs⟩ := World.ownsRow.form hv4 (by omega); have e4 : W4.cell? ⟨g, 63, none⟩ = some (.int .u8 0) := (hv4.cellAt _ (by omega)).trans HC63.out; have e5 := hv4.frozenAt 63; clear hz hg3 hat3 hg4 hv3 hb3)
          | (at_builtin; refine Lib.wpList_append_run _ rfl _ _ _ _ rfl _ _ rfl rfl _ _ HZ.out ?_))
        have hg5 := grownBy_set W4 g 63 (.int .u8 (q : Int))
        have hb5 := hb4.grown hg5 hb4.size (fun k e => by cases e; exact hgl)
        have hv5 : (W4.setCell ⟨g, 63, none⟩ (.int .u8 (q : Int))).ownsRow wc.heap.size 5 1 (.slice (some ⟨g, 0, none⟩) 64 cap) 64 (bytesV (blkOf Q)) := by
          have h1 := (hv4.stored 63 (.int .u8 (q : Int))).1
          have h2 : Value.int .u8 (q : Int) = .int .u8 ((UInt8.ofNat q).toNat : Int) := by
            have : (UInt8.ofNat q).toNat = q := by simp; omega
            rw [this]
          rw [h2, ← bytesV_set, HBS.out, ← h2] at h1
          exact h1
        generalize W4.setCell ⟨g, 63, none⟩ (.int .u8 (q : Int)) = W5 at *
        have hO5 := HOJ.out.same hb5
        have hD5 := HDJ2.out.same hb5
        have hlk5 : RLk base b x sb lb tb R W5 := ⟨hO5.cell (j := 0) rfl, _, hD5, HGL.out j⟩
        have hdr := (Below.refl W5.heap.size W5).drew
        have hlkd := hlk5.same hdr hO5.lt
        have hbw := hb5.size
        have HO5 := Lib.hid (hO5.same hdr)
        have HD5 := Lib.hid (hD5.same hdr)
        have HV5 := Lib.hid (ownsRow_below hv5 hdr)
        have HK5 := Lib.hid (HK.out.trans ((RLev.of_below hb5).trans (RLev.of_below hdr)))
        have CG := Lib.hid (HGS.out j HGJ.out)
        rw [HCH.out, HBE.out i j HIJ.out.symm] at CG
        have hm0 : 0 ≤ (half : Int) * (szR R : Int) := by
          have : (half : Int) * (szR R : Int) = ((half * szR R : Nat) : Int) := by simp
          omega
        have hm1 : (half : Int) * (szR R : Int) ≤ 8191 := by
          have h1 : half * szR R ≤ 1 * szR R := Nat.mul_le_mul_right _ hh
          have : (half : Int) * (szR R : Int) = ((half * szR R : Nat) : Int) := by simp
          omega
        have hib : i ≤ 600000 := by have := HLT.out; omega
        clear hO5 hD5 hlk5 hv5 hv4 hb4 hb5 hg5 e4 e5 HOJ HDJ2 HZ
        refine Pu.regionM [(0, false), (1, false), (2, false), (3, false), (4, false), (5, false), (6, false), (7, false), (8, false), (9, false), (10, false), (11, false), (12, true), (13, false)] (fun V => RLk base b x sb lb tb R V) hmx (by kernel_rfl) (by kernel_rfl) (by kernel_rfl) hlkd rfl ?_
        simp only [Pu.named, List.filterMap_cons, List.filterMap_nil, List.getElem?_toArray, List.getElem?_cons_succ, List.getElem?_cons_zero, Option.map_some]
        iterate 6 (apply Pu.WalkM.on (by rfl)
                   · rintro V hV
                     have hc0 := hV.1
                     go_wp2_with fail
                     refine ⟨rfl, ?_, rfl⟩
                     try simp only [Act.put, List.setIfInBounds_toArray, List.set_cons_succ, List.set_cons_zero]
                     rfl
                   simp only [Act.put, List.setIfInBounds_toArray, List.set_cons_succ, List.set_cons_zero])
        iterate 1 (apply Pu.WalkM.on (by rfl)
                   · rintro V hV
                     have cS := hV.size (by omega)
                     go_wp2_with (go_at_call 60; refine cS.mono ?_; rintro e W1 ⟨rfl, rfl⟩)
                     refine ⟨rfl, ?_, rfl⟩
                     try simp only [Act.put, List.setIfInBounds_toArray, List.set_cons_succ, List.set_cons_zero]
                     rfl
                   simp only [Act.put, List.setIfInBounds_toArray, List.set_cons_succ, List.set_cons_zero])
        iterate 5 (apply Pu.WalkM.on (by rfl)
                   · rintro V hV
                     go_wp2_with fail
                     refine ⟨rfl, ?_, rfl⟩
                     try simp only [Act.put, List.setIfInBounds_toArray, List.set_cons_succ, List.set_cons_zero]
                     rfl
                   simp only [Act.put, List.setIfInBounds_toArray, List.set_cons_succ, List.set_cons_zero])
        refine Pu.WalkM.make (by rfl) ?_
        rintro V rfl
        have hI5 : BytesAt W5.drew wc.heap.size W5.drew.heap.size (.slice (some ⟨g, 0, none⟩) 64 cap) (blkOf Q) := by
          have h1 := Sl.of_own HV5.out
          unfold BytesAt
          rw [HBL.out]
          exact h1
        have hxl := HDV.out.ob.lt
        have hsl := HDV.out.sure.lt
        have hll := HDV.out.last.lt
        have htl := HDV.out.dirty.lt
        have hds := hdr.size
        have cW := rwrite_calls HD5.out (2 + (half : Int) * (szR R : Int) + (i : Int)) (blkOf Q) _ _ _ hI5 (Nat.le_refl _) (fun k h1 h2 => by omega)
        rw [← CG.out] at cW
        have CW := Lib.hid cW
        clear cW hI5
        go_wp2_with (go_at_call 44; refine CW.out.mono ?_; rintro e W6 ⟨rfl, hD6, hK6⟩)
        have hK7 := HK5.out.trans (RLev.of_rev (b := b) hK6)
        have hO6 := Kept.ob hK6 HO5.out ⟨HO5.out.lt, ne⟩
        refine ⟨rfl, .int .i64 (G (j + 1)).2, (fun V => V = W6), (fun V => V = W6), ?_, rfl, (fun _ h => h), (.inr (fun V h => by rw [h]; exact ⟨hO6.cell (j := 0) rfl, _, hD6, HGL.out _⟩)), ?_⟩
        · try simp only [Act.put, List.setIfInBounds_toArray, List.set_cons_succ, List.set_cons_zero]
          try rfl
        simp only [Act.put, List.setIfInBounds_toArray, List.set_cons_succ, List.set_cons_zero]
        iterate 1 (apply Pu.WalkM.on (by rfl)
                   · rintro V hV
                     rw [hV]
                     go_wp2_with fail
                     refine ⟨rfl, ?_, rfl⟩
                     try simp only [Act.put, List.setIfInBounds_toArray, List.set_cons_succ, List.set_cons_zero]
                     rfl
                   simp only [Act.put, List.setIfInBounds_toArray, List.set_cons_succ, List.set_cons_zero])
        refine Pu.WalkM.nil ?_
        rintro V rfl
        have HD6 := Lib.hid hD6
        have HO6 := Lib.hid hO6
        have HK7 := Lib.hid hK7
        clear hD6 hO6 hK7 hK6 CW CG hm0 hm1 hlkd hdr hds hbw
        by_cases he : (G (j + 1)).2 = 0
        · have hne : ((G (j + 1)).2 != 0) = false := by simpa using he
          have HE := Lib.hid he
          clear he
          go_wp2
          go_roundw
          case rel => exact ⟨j + 1, by have := HND.out; have := HLT.out; have := HIJ.out; omega, by have := HIJ.out; go_num, HE.out, HD6.out, HO6.out, HK7.out⟩
          case measure => simp [intOf]; have := HND.out; have := HLT.out; omega
        · have hne : ((G (j + 1)).2 != 0) = true := by simpa using he
          have HFI := Lib.hid (show wG R half from_ l = G (j + 1) by rw [HW.out]; exact HGB.out _ _ he (by have := HND.out; have := HLT.out; have := HIJ.out; omega))
          have HE := Lib.hid he
          have e5 := HO6.out.cell (j := 5) (v := .bool L.fin) rfl
          have f5 := HO6.out.frozen 5
          clear he
          go_wp2
          go_ret
          rw [HFI.out]
          refine ⟨rfl, HD6.out.kept (Kept.of_grown (Fr := fun i => i < V.heap.size ∧ i ≠ b) (grownBy_set V b 5 (.bool true)) fun i hi => ⟨hi.1, fun e => hi.2 (Option.some.inj e)⟩) ⟨HD6.out.ob.lt, ne.1.symm⟩ ⟨HD6.out.sure.lt, ne.2.1.symm⟩ ⟨HD6.out.last.lt, ne.2.2.1.symm⟩ ⟨HD6.out.dirty.lt, ne.2.2.2.symm⟩, ?_, HK7.out.trans (RLev.of_set V 5 (.bool true))⟩
          have h9 := HO6.out.set 5 (.bool true)
          have : finIf L (G (j + 1)).2 = { L with fin := true } := by unfold finIf; rw [decide_eq_true HE.out, Bool.or_true]
          rw [this]
          exact h9
    · obtain hjn : nch l - from_ / 63 = j := by have := HND.out; have := HIJ.out; omega
      have hd : decide (63 * (i : Int) < (l.length : Int)) = false := by simp; omega
      have hib : i ≤ 30000 := by have := HND.out; have := HIJ.out; omega
      have HE := Lib.hid (show wG R half from_ l = G j by rw [HW.out, hjn])
      have HGj := Lib.hid hGj
      have HDj := Lib.hid hDj
      have HOj := Lib.hid hOj
      have HKj := Lib.hid hK
      clear hjn hGj hDj hOj hK hlt hj
      go_wp2
      go_ret
      rw [HE.out]
      refine ⟨by rw [HGj.out]; rfl, HDj.out, ?_, HKj.out⟩
      have : finIf L (G j).2 = L := by unfold finIf; rw [HGj.out]; simp
      rw [this]
      exact HOj.out
end
end Wa
end Go.Proofs.Yteiniahikhiadaa

namespace Go.Proofs.Yteiniahikhiadaa
open Go.RowKit Go.Maps
namespace Wa
open Ce Se
theorem wG_zero (R : Rv) (half : Nat) (l : List UInt8) : wG R half 0 l = wrG writeR R (Wa.base half (szR R)) (chF l) (nch l) := by
  unfold wG
  simp
theorem anewL_bad (L : Lg) (es : List (List UInt8)) {e : Int} (h : e ≠ 0) : anewL L es e = { L with fin := true } := by unfold anewL; rw [if_neg h]
theorem anewL_ok (L : Lg) (es : List (List UInt8)) {e : Int} (h : e = 0) : anewL L es e = ⟨wrap64 (L.g + 1), 1 - L.half, es, es.length, false⟩ := by unfold anewL; rw [if_pos h]
theorem finIf_fin (L : Lg) (e : Int) : finIf { L with fin := true } e = { L with fin := true } := by unfold finIf; simp
section
variable {w w' : World} {base b x sb lb tb : Nat} {R R' : Rv} {L : Lg} {Z : Nat → Prop}
/-- from the flush on -/
def anew3 (R : Rv) (g : Int) (half : Nat) : Rv × Int :=
  if (flushR R).2 ≠ 0 then flushR R else
  if (writeR (flushR R).1 ((wrap64 (g + 1)).tmod 2) (headB (wrap64 (g + 1)) (1 - half))).2 ≠ 0 then writeR (flushR R).1 ((wrap64 (g + 1)).tmod 2) (headB (wrap64 (g + 1)) (1 - half)) else
  flushR (writeR (flushR R).1 ((wrap64 (g + 1)).tmod 2) (headB (wrap64 (g + 1)) (1 - half))).1
set_option maxRecDepth 100000 in
set_option maxHeartbeats 8000000 in
theorem ranew_calls (h : RvAt w base x sb lb tb R) (h4 : 4 ≤ R.sure.length) {lv : Value} (hb : Ob w b 100 (rlgC x L lv)) (ne : b ≠ x ∧ b ≠ sb ∧ b ≠ lb ∧ b ≠ tb) (hZ : ∀ i, w.heap.size ≤ i → Z i) (hlv : ListsIn w (FrZ b x sb lb tb Z) lv L.es)
    (hh : L.half ≤ 1) {es : List (List UInt8)} {xv : Value} (hx : ListsIn w (FrZ b x sb lb tb Z) xv es) (hok : ∀ e ∈ es, e.length ≤ 65536) (hfit : (strm es).length ≤ 63 * szR R) :
    Calls Try.prog 63 #[.pointer (some ⟨b, 0, none⟩), xv] w fun e w' =>
      e = .returned (.int .i64 (anewG writeR flushR R L.g L.half (szR R) es).2) ∧ RvAt w' base x sb lb tb (anewG writeR flushR R L.g L.half (szR R) es).1 ∧
      (∃ lv', Ob w' b 100 (rlgC x (anewL L es (anewG writeR flushR R L.g L.half (szR R) es).2) lv') ∧ ListsIn w' (FrZ b x sb lb tb Z) lv' (anewL L es (anewG writeR flushR R L.g L.half (szR R) es).2).es) ∧ RLev b x sb lb tb w w' := by
  have hmx : Try.prog.follows .mixedOrders = true := by kernel_rfl
  have hlen := h.len
  have hz : szR R ≤ 8191 := by unfold szR; omega
  have hbl := hb.lt
  obtain ⟨S, hS⟩ : ∃ S, S = strm es := ⟨_, rfl⟩
  have hnch : nch S ≤ szR R := by rw [hS]; exact nch_le hfit
  have hS6 : S.length ≤ 600000 := by rw [hS]; omega
  have cB := rbytes_calls es xv w hx.at_ hok (by omega)
  rw [← hS] at cB
  have CB := Lib.hid cB
  obtain ⟨kq, hkq⟩ : ∃ kq, kq = 1 - L.half := ⟨_, rfl⟩
  have hk1 : kq ≤ 1 := by omega
  have hAN : anewG writeR flushR R L.g L.half (szR R) es =
      if (wrG writeR R (Wa.base kq (szR R)) (chF S) (nch S)).2 ≠ 0 then wrG writeR R (Wa.base kq (szR R)) (chF S) (nch S) else
      if (wrG writeR (wrG writeR R (Wa.base kq (szR R)) (chF S) (nch S)).1 (Wa.base kq (szR R) + nch S) (fun _ => List.replicate 64 0) (szR R - nch S)).2 ≠ 0 then wrG writeR (wrG writeR R (Wa.base kq (szR R)) (chF S) (nch S)).1 (Wa.base kq (szR R) + nch S) (fun _ => List.replicate 64 0) (szR R - nch S) else
      anew3 (wrG writeR (wrG writeR R (Wa.base kq (szR R)) (chF S) (nch S)).1 (Wa.base kq (szR R) + nch S) (fun _ => List.replicate 64 0) (szR R - nch S)).1 L.g L.half := by
    rw [hkq, hS]
    rfl
  rw [← wG_zero] at hAN
  have hl1 : (wG R kq 0 S).1.sure.length = R.sure.length := wrG_lenR _ _ _ _
  have hz1 : szR (wG R kq 0 S).1 = szR R := szR_len hl1
  have hqi : (1 : Int) - (L.half : Int) = (kq : Int) := by omega
  have HQI := Lib.hid hqi
  have HKQ := Lib.hid hkq
  have HX := Lib.hid hx
  have HLV := Lib.hid hlv
  have HDV := Lib.hid h
  obtain ⟨A1, hA1⟩ : ∃ A1, A1 = anewG writeR flushR R L.g L.half (szR R) es := ⟨_, rfl⟩
  rw [← hA1] at hAN ⊢
  have HAN := Lib.hid hAN
  obtain ⟨r1, hr1⟩ : ∃ r1, r1 = wG R kq 0 S := ⟨_, rfl⟩
  rw [← hr1] at HAN hl1 hz1
  have HR1 := Lib.hid hr1
  have HL1 := Lib.hid hl1
  have HZ1 := Lib.hid hz1
  have HOK := Lib.hid hok
  have HNC := Lib.hid hnch
  obtain ⟨Ax, cx, rfl, hcx1, hcx2⟩ := hx.form
  unfold maxLen at hcx2
  have y5 := hb.cell (j := 5) (v := .bool L.fin) rfl
  have f5 := hb.frozen 5
  clear h hkq hqi hx hlv cB hAN hA1 hr1 hl1 hz1 hok hS
  go_enter Try.func63, Try.ntmps63
  go_wp2_with fail
  refine CB.out.mono ?_
  rintro e W1 ⟨⟨v1, rfl, hv1⟩, hb1⟩
  have hO1 := hb.same hb1
  have y5' := hO1.cell (j := 5) (v := .bool L.fin) rfl
  have y2' := hO1.cell (j := 2) (v := .int .i64 (L.half : Nat)) rfl
  have f5' := hO1.frozen 5
  have hO2 := hO1.set 5 (.bool true)
  have hgs := grownBy_set W1 b 5 (.bool true)
  have hD2 : RvAt (W1.setCell ⟨b, 5, none⟩ (.bool true)) base x sb lb tb R := (HDV.out.same hb1).kept (Kept.of_grown (Fr := fun i => i < W1.heap.size ∧ i ≠ b) hgs fun i hi => ⟨hi.1, fun e => hi.2 (Option.some.inj e)⟩) ⟨(HDV.out.same hb1).ob.lt, ne.1.symm⟩ ⟨(HDV.out.same hb1).sure.lt, ne.2.1.symm⟩ ⟨(HDV.out.same hb1).last.lt, ne.2.2.1.symm⟩ ⟨(HDV.out.same hb1).dirty.lt, ne.2.2.2.symm⟩
  have hK2 : RLev b x sb lb tb w (W1.setCell ⟨b, 5, none⟩ (.bool true)) := (RLev.of_below hb1).trans (RLev.of_set W1 5 (.bool true))
  have y2 := hO2.cell (j := 2) (v := .int .i64 (L.half : Nat)) rfl
  have hv2 : (W1.setCell ⟨b, 5, none⟩ (.bool true)).ownsRow w.heap.size 5 1 v1 S.length (bytesV S) := hv1.kept hgs (by
    cases hv : v1.ownBlock with
    | none => exact .inl rfl
    | some g => exact .inr (by have := (hv1.lt g hv).1; simp; omega))
  have hs12 : w.heap.size ≤ W1.heap.size := hb1.size
  obtain ⟨Av, cv, rfl, -⟩ := (BytesAt.of_own hv1).form
  have HS12 := Lib.hid hgs.size
  clear y5 f5 hb hb1 hv1 CB
  go_upto_region 2 with (fail)
  go_upto_region 3 with (fail)
  replace hO2 : Ob (W1.setCell ⟨b, 5, none⟩ (.bool true)) b 100 (rlgC x { L with fin := true } lv) := hO2
  generalize W1.setCell ⟨b, 5, none⟩ (.bool true) = W2 at *
  have hw2 := HS12.out
  have hxl := HDV.out.ob.lt
  have hsl := HDV.out.sure.lt
  have hll := HDV.out.last.lt
  have htl := HDV.out.dirty.lt
  have hv2B : BytesAt W2 w.heap.size W2.heap.size (.slice Av S.length cv) S := BytesAt.of_own hv2
  have cP := rput_calls hD2 h4 hO2 ne kq 0 hk1 S _ _ _ hv2B (Nat.le_refl _) (fun i a c => ⟨by omega, by omega, by omega, by omega, by omega⟩) hS6 (by omega)
  rw [← HR1.out, finIf_fin] at cP
  have CP := Lib.hid cP
  have HK2 := Lib.hid hK2
  clear cP hv2B hv2 hO2 hD2 hgs hO1 y5' y2' f5' hK2
  go_wp2_with fail
  rw [HQI.out]
  refine CP.out.mono ?_
  rintro e W3 ⟨rfl, hD3, hO3, hK3⟩
  have HK3 := Lib.hid (HK2.out.trans hK3)
  have hs3 := RLev.size hK3
  clear hK3 y2 CP HK2
  by_cases he1 : r1.2 = 0
  case neg =>
    have hne : (r1.2 != 0) = true := by simpa using he1
    have HE := Lib.hid he1
    have hA : A1 = r1 := HAN.out.trans (if_pos he1)
    have HA := Lib.hid hA
    have HO3 := Lib.hid hO3
    have HD3 := Lib.hid hD3
    clear he1 hA hO3 hD3
    go_wp2
    go_ret
    rw [HA.out]
    refine ⟨rfl, HD3.out, ⟨lv, ?_, ?_⟩, HK3.out⟩
    · rw [anewL_bad L es HE.out]
      exact HO3.out
    · rw [anewL_bad L es HE.out]
      exact HLV.out.keptR HK3.out
  case pos =>
    have hne : (r1.2 != 0) = false := by simpa using he1
    have hA := HAN.out.trans (if_neg (by simpa using he1))
    have HA := Lib.hid hA
    have HO3 := Lib.hid hO3
    have HD3 := Lib.hid hD3
    clear hA hO3 hD3 he1 HAN HR1
    have hzz : szR R ≤ 8191 := hz
    have hnc := HNC.out
    have HNS := Lib.hid (show nch S = (S.length + 62) / 63 from rfl)
    have HGS := Lib.hid (fun j hj => wrG_stepR (R := r1.1) (k := Wa.base kq (szR R) + (nch S : Nat)) (f := fun _ => List.replicate 64 0) (j := j) hj)
    have HGL := Lib.hid (fun j => (wrG_lenR r1.1 (Wa.base kq (szR R) + (nch S : Nat)) (fun _ => List.replicate 64 0) j).trans HL1.out)
    have HGB := Lib.hid (fun j n hj hn => wrG_bad (wr := writeR) (D := r1.1) (k := Wa.base kq (szR R) + (nch S : Nat)) (f := fun _ => List.replicate 64 0) (j := j) hj n hn)
    have H0 := Lib.hid (show wrG writeR r1.1 (Wa.base kq (szR R) + (nch S : Nat)) (fun _ => List.replicate 64 0) 0 = (r1.1, 0) from rfl)
    have HBE := Lib.hid (fun (i j : Nat) (hij : i = nch S + j) => show Wa.base kq (szR R) + ((nch S : Nat) : Int) + (j : Int) = 2 + (kq : Int) * (szR R : Int) + (i : Int) by unfold Wa.base; omega)
    obtain ⟨G, hG⟩ : ∃ G : Nat → Rv × Int, G = wrG writeR r1.1 (Wa.base kq (szR R) + (nch S : Nat)) (fun _ => List.replicate 64 0) := ⟨_, rfl⟩
    rw [← hG] at HGS HGL HGB H0 HA
    clear hG
    generalize hns : nch S = ns at *
    generalize hzs : szR R = sz at *
    have HZS := Lib.hid hzs
    clear hzs hns
    have hm0 : 0 ≤ (kq : Int) * (sz : Int) := by
      have : (kq : Int) * (sz : Int) = ((kq * sz : Nat) : Int) := by simp
      omega
    have hm1 : (kq : Int) * (sz : Int) ≤ 8191 := by
      have h1 : kq * sz ≤ 1 * sz := Nat.mul_le_mul_right _ hk1
      have : (kq : Int) * (sz : Int) = ((kq * sz : Nat) : Int) := by simp
      omega
    have HM := Lib.hid (And.intro hm0 hm1)
    clear hm0 hm1
    have HT7 := Lib.hid (show ((S.length : Int) + 62) / 63 = ((ns : Nat) : Int) by rw [HNS.out]; omega)
    go_wp2_with fail
    go_loopw [7, 8] (fun i _ wr => ∃ j : Nat, ns + j ≤ sz ∧ i = .int .i64 ((ns + j : Nat) : Int) ∧ (G j).2 = 0 ∧ RvAt wr base x sb lb tb (G j).1 ∧ Ob wr b 100 (rlgC x { L with fin := true } lv) ∧ RLev b x sb lb tb w wr) (fun i _ _ => sz - (intOf i).toNat)
    case atStart => exact ⟨0, hnc, by rw [HT7.out]; rfl, by rw [H0.out], by rw [H0.out]; exact HD3.out, HO3.out, HK3.out⟩
    case round =>
      obtain ⟨j, hj, rfl, hGj, hDj, hOj, hK⟩ := hrel
      have hlk : RLk base b x sb lb tb R wr := ⟨hOj.cell (j := 0) rfl, _, hDj, HGL.out j⟩
      have cS := hlk.size (by omega)
      rw [HZS.out] at cS
      have CS := Lib.hid cS
      obtain ⟨i, hi⟩ : ∃ i : Nat, ns + j = i := ⟨_, rfl⟩
      rw [hi] at hj ⊢
      have HI := Lib.hid hi
      have HGj := Lib.hid hGj
      have HDj := Lib.hid hDj
      have HOj := Lib.hid hOj
      have HKj := Lib.hid hK
      have hsz := RLev.size hK
      clear hi cS hGj hDj hOj hK
      go_wp2_with fail
      refine CS.out.mono ?_
      rintro e W ⟨rfl, rfl⟩
      by_cases hlt : i < sz
      · have hd : decide (i < sz) = true := by simp; omega
        have hd' : decide ((i : Int) < (sz : Int)) = true := by simp; omega
        have hdr := (Below.refl wr.heap.size wr).drew
        have hlkd := hlk.same hdr HOj.out.lt
        have h2d := (HOj.out.same hdr).cell (j := 2) (v := .int .i64 (L.half : Nat)) rfl
        have CG := Lib.hid (HGS.out j HGj.out)
        rw [HBE.out i j HI.out.symm] at CG
        have HOd := Lib.hid (HOj.out.same hdr)
        have HDd := Lib.hid (HDj.out.same hdr)
        have HKd := Lib.hid (HKj.out.trans (RLev.of_below hdr))
        have HLT := Lib.hid hlt
        have hib : i ≤ 8191 := by omega
        obtain ⟨hm0, hm1⟩ := HM.out
        have hdz := hdr.size
        clear hlk HOj HDj HKj CS hdr hlt hj
        go_wp2_with fail
        refine Pu.regionM [(0, false), (1, false), (2, false), (3, false), (4, false), (5, false), (6, false), (7, false), (8, false), (9, false), (10, false), (11, false), (12, false), (13, false), (14, false), (15, true), (16, true), (17, false)] (fun V => RLk base b x sb lb tb R V ∧ V.cell? ⟨b, 2, none⟩ = some (.int .i64 (L.half : Nat))) hmx (by kernel_rfl) (by kernel_rfl) (by kernel_rfl) ⟨hlkd, h2d⟩ rfl ?_
        simp only [Pu.named, List.filterMap_cons, List.filterMap_nil, List.getElem?_toArray, List.getElem?_cons_succ, List.getElem?_cons_zero, Option.map_some]
        iterate 8 (apply Pu.WalkM.on (by rfl)
                   · rintro V hV
                     have hc0 := hV.1.1
                     have hc2 := hV.2
                     go_wp2_with fail
                     refine ⟨rfl, ?_, rfl⟩
                     try simp only [Act.put, List.setIfInBounds_toArray, List.set_cons_succ, List.set_cons_zero]
                     rfl
                   simp only [Act.put, List.setIfInBounds_toArray, List.set_cons_succ, List.set_cons_zero])
        iterate 1 (apply Pu.WalkM.on (by rfl)
                   · rintro V hV
                     (go_wp2_with fail; rw [HQI.out])
                     refine ⟨rfl, ?_, rfl⟩
                     try simp only [Act.put, List.setIfInBounds_toArray, List.set_cons_succ, List.set_cons_zero]
                     rfl
                   simp only [Act.put, List.setIfInBounds_toArray, List.set_cons_succ, List.set_cons_zero])
        iterate 1 (apply Pu.WalkM.on (by rfl)
                   · rintro V hV
                     go_wp2_with fail
                     refine ⟨rfl, ?_, rfl⟩
                     try simp only [Act.put, List.setIfInBounds_toArray, List.set_cons_succ, List.set_cons_zero]
                     rfl
                   simp only [Act.put, List.setIfInBounds_toArray, List.set_cons_succ, List.set_cons_zero])
        iterate 1 (apply Pu.WalkM.on (by rfl)
                   · rintro V hV
                     have cS := hV.1.size (by omega)
                     rw [HZS.out] at cS
                     go_wp2_with (go_at_call 60; refine cS.mono ?_; rintro e W1 ⟨rfl, rfl⟩)
                     refine ⟨rfl, ?_, rfl⟩
                     try simp only [Act.put, List.setIfInBounds_toArray, List.set_cons_succ, List.set_cons_zero]
                     rfl
                   simp only [Act.put, List.setIfInBounds_toArray, List.set_cons_succ, List.set_cons_zero])
        iterate 4 (apply Pu.WalkM.on (by rfl)
                   · rintro V hV
                     go_wp2_with fail
                     refine ⟨rfl, ?_, rfl⟩
                     try simp only [Act.put, List.setIfInBounds_toArray, List.set_cons_succ, List.set_cons_zero]
                     rfl
                   simp only [Act.put, List.setIfInBounds_toArray, List.set_cons_succ, List.set_cons_zero])
        refine Pu.WalkM.make (by rfl) ?_
        rintro V rfl
        obtain ⟨w1, hmk, hv1, hg1⟩ := make_bytes 64 wr.drew (by omega)
        rw [show ((64 : Nat) : Int) = 64 from rfl] at hmk
        have hb1 : Below wr.drew.heap.size wr.drew w1 := (Below.refl _ _).grown hg1 (Nat.le_refl _) (fun k e => by cases e)
        go_wp2_with fail
        refine ⟨rfl, .slice (some ⟨wr.drew.heap.size, 0, none⟩) 64 64, (fun V => RLk base b x sb lb tb R V ∧ V.cell? ⟨b, 2, none⟩ = some (.int .i64 (L.half : Nat))), (fun V => V = w1), ?_, rfl, (fun V h => by rw [h]; exact ⟨hlkd.same hb1 HOd.out.lt, (HOd.out.same hb1).cell (j := 2) rfl⟩), (.inr (fun _ h => h)), ?_⟩
        · try simp only [Act.put, List.setIfInBounds_toArray, List.set_cons_succ, List.set_cons_zero]
          try rfl
        simp only [Act.put, List.setIfInBounds_toArray, List.set_cons_succ, List.set_cons_zero]
        refine Pu.WalkM.make (by rfl) ?_
        rintro V rfl
        have hDv := HDd.out.same hb1
        have hI : BytesAt V wr.drew.heap.size V.heap.size (.slice (some ⟨wr.drew.heap.size, 0, none⟩) 64 64) (List.replicate 64 0) := Sl.of_own hv1
        have cW := rwrite_calls hDv (2 + (kq : Int) * (sz : Int) + (i : Int)) (List.replicate 64 0) _ _ _ hI (Nat.le_refl _) (fun k a c => by omega)
        rw [← CG.out] at cW
        have CW := Lib.hid cW
        clear cW hI hv1 hmk
        go_wp2_with fail
        refine CW.out.mono ?_
        rintro e W3 ⟨rfl, hD3, hK3⟩
        go_wp2_with fail
        have hK4 := (HKd.out.trans (RLev.of_below hb1)).trans (RLev.of_rev (b := b) hK3)
        have hO4 := Kept.ob hK3 (HOd.out.same hb1) ⟨(HOd.out.same hb1).lt, ne⟩
        refine ⟨rfl, .int .i64 (G (j + 1)).2, (fun V => V = W3), (fun V => V = W3), ?_, rfl, (fun _ h => h), (.inr (fun V h => by rw [h]; exact ⟨⟨hO4.cell (j := 0) rfl, _, hD3, HGL.out _⟩, hO4.cell (j := 2) rfl⟩)), ?_⟩
        · try simp only [Act.put, List.setIfInBounds_toArray, List.set_cons_succ, List.set_cons_zero]
          try rfl
        simp only [Act.put, List.setIfInBounds_toArray, List.set_cons_succ, List.set_cons_zero]
        iterate 1 (apply Pu.WalkM.on (by rfl)
                   · rintro V hV
                     rw [hV]
                     go_wp2_with fail
                     refine ⟨rfl, ?_, rfl⟩
                     try simp only [Act.put, List.setIfInBounds_toArray, List.set_cons_succ, List.set_cons_zero]
                     rfl
                   simp only [Act.put, List.setIfInBounds_toArray, List.set_cons_succ, List.set_cons_zero])
        refine Pu.WalkM.nil ?_
        rintro V rfl
        have HD4 := Lib.hid hD3
        have HO4 := Lib.hid hO4
        have HK4 := Lib.hid hK4
        clear hD3 hO4 hK4 hK3 CW CG hm0 hm1 hlkd h2d
        by_cases he : (G (j + 1)).2 = 0
        · have hne : ((G (j + 1)).2 != 0) = false := by simpa using he
          have HE := Lib.hid he
          clear he
          go_wp2
          go_roundw
          case rel => exact ⟨j + 1, by have := HLT.out; have := HI.out; omega, by have := HI.out; go_num, HE.out, HD4.out, HO4.out, HK4.out⟩
          case measure => simp [intOf]; have := HLT.out; omega
        · have hne : ((G (j + 1)).2 != 0) = true := by simpa using he
          have hfi : G (sz - ns) = G (j + 1) := HGB.out _ _ he (by have := HLT.out; have := HI.out; omega)
          have HFI := Lib.hid (show A1 = G (j + 1) by rw [HA.out, hfi, if_pos he])
          have HE := Lib.hid he
          clear he hfi
          go_wp2
          go_ret
          rw [HFI.out]
          refine ⟨rfl, HD4.out, ⟨lv, ?_, ?_⟩, HK4.out⟩
          · rw [anewL_bad L es HE.out]
            exact HO4.out
          · rw [anewL_bad L es HE.out]
            exact HLV.out.keptR HK4.out
      · have hd : decide (i < sz) = false := by simp; omega
        have hd' : decide ((i : Int) < (sz : Int)) = false := by simp; omega
        have hij : sz - ns = j := by have := HI.out; omega
        have hA2 := HA.out
        rw [hij, if_neg (by rw [HGj.out]; simp)] at hA2
        have HA2 := Lib.hid hA2
        clear hA2 hij
        have hl2 := HGL.out j
        have hll3 := HDj.out.ok.ll
        generalize (G j).1 = R2 at *
        have CF := Lib.hid (rflush_calls HDj.out)
        have y0 := HOj.out.cell (j := 0) (v := .pointer (some ⟨x, 0, none⟩)) rfl
        have HL2 := Lib.hid (lenFR hll3)
        clear hl2 hll3 hlk CS hlt hj
        have HN3 := Lib.hid (show anew3 R2 L.g L.half = if (flushR R2).2 ≠ 0 then flushR R2 else
          if (writeR (flushR R2).1 ((wrap64 (L.g + 1)).tmod 2) (headB (wrap64 (L.g + 1)) kq)).2 ≠ 0 then writeR (flushR R2).1 ((wrap64 (L.g + 1)).tmod 2) (headB (wrap64 (L.g + 1)) kq) else
          flushR (writeR (flushR R2).1 ((wrap64 (L.g + 1)).tmod 2) (headB (wrap64 (L.g + 1)) kq)).1 by rw [HKQ.out]; rfl)
        generalize flushR R2 = F at *
        go_wp2_with fail
        refine CF.out.mono ?_
        rintro e W4 ⟨rfl, hD4, hK4⟩
        have HD4 := Lib.hid hD4
        have HO4 := Lib.hid (Kept.ob hK4 HOj.out ⟨HOj.out.lt, ne⟩)
        have HK4 := Lib.hid (HKj.out.trans (RLev.of_rev (b := b) hK4))
        have hsz4 := RLev.size HK4.out
        clear hD4 hK4 HDj HOj HKj CF y0
        by_cases hF : F.2 = 0
        case neg =>
          have hne : (F.2 != 0) = true := by simpa using hF
          have HFI := Lib.hid (show A1 = F by rw [HA2.out, HN3.out, if_pos hF])
          have HE := Lib.hid hF
          clear hF
          go_wp2
          go_ret
          rw [HFI.out]
          refine ⟨rfl, HD4.out, ⟨lv, ?_, ?_⟩, HK4.out⟩
          · rw [anewL_bad L es HE.out]
            exact HO4.out
          · rw [anewL_bad L es HE.out]
            exact HLV.out.keptR HK4.out
        case pos =>
          have hne : (F.2 != 0) = false := by simpa using hF
          have HA3 := Lib.hid ((HA2.out.trans HN3.out).trans (if_neg (by simpa using hF)))
          have hgb := wrap64_lt (L.g + 1)
          have hdr := (Below.refl W4.heap.size W4).drew
          have hOd := HO4.out.same hdr
          have HDd := Lib.hid (HD4.out.same hdr)
          have HKd := Lib.hid (HK4.out.trans (RLev.of_below hdr))
          have hdz := hdr.size
          clear hF HA2 HN3 hdr HD4 HK4
          go_wp2_with fail
          refine Pu.regionM [(0, false), (1, false), (2, false), (3, false), (4, false), (5, false), (6, false), (7, false), (8, false), (9, false), (10, false), (11, false), (12, false), (13, false), (14, false), (15, false), (16, false), (17, false), (18, false), (19, false), (20, true), (21, true), (22, false)] (fun V => Ob V b 100 (rlgC x { L with fin := true } lv)) hmx (by kernel_rfl) (by kernel_rfl) (by kernel_rfl) hOd rfl ?_
          simp only [Pu.named, List.filterMap_cons, List.filterMap_nil, List.getElem?_toArray, List.getElem?_cons_succ, List.getElem?_cons_zero, Option.map_some]
          iterate 19 (apply Pu.WalkM.on (by rfl)
                      · rintro V hV
                        have hc0 := hV.cell (j := 0) (v := .pointer (some ⟨x, 0, none⟩)) rfl
                        have hc1 := hV.cell (j := 1) (v := .int .i64 L.g) rfl
                        have hc2 := hV.cell (j := 2) (v := .int .i64 (L.half : Nat)) rfl
                        go_wp2_with fail
                        refine ⟨rfl, ?_, rfl⟩
                        try simp only [Act.put, List.setIfInBounds_toArray, List.set_cons_succ, List.set_cons_zero]
                        rfl
                      simp only [Act.put, List.setIfInBounds_toArray, List.set_cons_succ, List.set_cons_zero])
          iterate 1 (apply Pu.WalkM.on (by rfl)
                     · rintro V hV
                       (go_wp2_with fail; rw [HQI.out])
                       refine ⟨rfl, ?_, rfl⟩
                       try simp only [Act.put, List.setIfInBounds_toArray, List.set_cons_succ, List.set_cons_zero]
                       rfl
                     simp only [Act.put, List.setIfInBounds_toArray, List.set_cons_succ, List.set_cons_zero])
          refine Pu.WalkM.make (by rfl) ?_
          rintro V rfl
          have CH := Lib.hid (rhead_calls (wrap64 (L.g + 1)) kq hk1 W4.drew hgb.1 hgb.2)
          go_wp2_with fail
          refine CH.out.mono ?_
          rintro e W5 ⟨⟨v5, rfl, hv5⟩, hb5⟩
          have hO5 := hOd.same hb5
          obtain ⟨A5, c5, rfl, -⟩ := (Sl.of_own hv5).at_
          have HV5 := Lib.hid hv5
          clear hv5 CH
          go_wp2_with fail
          refine ⟨rfl, .slice A5 64 c5, (fun V => Ob V b 100 (rlgC x { L with fin := true } lv)), (fun V => V = W5), ?_, rfl, (fun V h => by rw [h]; exact hO5), (.inr (fun _ h => h)), ?_⟩
          · try simp only [Act.put, List.setIfInBounds_toArray, List.set_cons_succ, List.set_cons_zero]
            try rfl
          simp only [Act.put, List.setIfInBounds_toArray, List.set_cons_succ, List.set_cons_zero]
          refine Pu.WalkM.make (by rfl) ?_
          rintro V rfl
          have hD5 := HDd.out.same hb5
          have hI5 : BytesAt V W4.drew.heap.size V.heap.size (.slice A5 64 c5) (headB (wrap64 (L.g + 1)) kq) := by
            unfold BytesAt
            rw [headB_len]
            exact Sl.of_own HV5.out
          have CW := Lib.hid (rwrite_calls hD5 ((wrap64 (L.g + 1)).tmod 2) (headB (wrap64 (L.g + 1)) kq) _ _ _ hI5 (Nat.le_refl _) (fun k a c => by omega))
          generalize writeR F.1 ((wrap64 (L.g + 1)).tmod 2) (headB (wrap64 (L.g + 1)) kq) = Wr at *
          have hK5 := HKd.out.trans (RLev.of_below hb5)
          clear hI5 hD5 HV5
          go_wp2_with fail
          refine CW.out.mono ?_
          rintro e W6 ⟨rfl, hD6, hK6⟩
          have hO6 := Kept.ob hK6 hO5 ⟨hO5.lt, ne⟩
          have hK7 := hK5.trans (RLev.of_rev (b := b) hK6)
          go_wp2_with fail
          refine ⟨rfl, .int .i64 Wr.2, (fun V => V = W6), (fun V => V = W6), ?_, rfl, (fun _ h => h), (.inr (fun V h => by rw [h]; exact hO6)), ?_⟩
          · try simp only [Act.put, List.setIfInBounds_toArray, List.set_cons_succ, List.set_cons_zero]
            try rfl
          simp only [Act.put, List.setIfInBounds_toArray, List.set_cons_succ, List.set_cons_zero]
          iterate 1 (apply Pu.WalkM.on (by rfl)
                     · rintro V hV
                       rw [hV]
                       go_wp2_with fail
                       refine ⟨rfl, ?_, rfl⟩
                       try simp only [Act.put, List.setIfInBounds_toArray, List.set_cons_succ, List.set_cons_zero]
                       rfl
                     simp only [Act.put, List.setIfInBounds_toArray, List.set_cons_succ, List.set_cons_zero])
          refine Pu.WalkM.nil ?_
          rintro V rfl
          have HD6 := Lib.hid hD6
          have HO6 := Lib.hid hO6
          have HK6 := Lib.hid hK7
          clear hD6 hO6 hK7 hK6 hK5 hb5 hO5 CW hOd HDd HKd
          by_cases hW : Wr.2 = 0
          case neg =>
            have hne : (Wr.2 != 0) = true := by simpa using hW
            have HFI := Lib.hid (show A1 = Wr by rw [HA3.out, if_pos hW])
            have HE := Lib.hid hW
            clear hW
            go_wp2
            go_ret
            rw [HFI.out]
            refine ⟨rfl, HD6.out, ⟨lv, ?_, ?_⟩, HK6.out⟩
            · rw [anewL_bad L es HE.out]
              exact HO6.out
            · rw [anewL_bad L es HE.out]
              exact HLV.out.keptR HK6.out
          case pos =>
            have hne : (Wr.2 != 0) = false := by simpa using hW
            have HA4 := Lib.hid (HA3.out.trans (if_neg (by simpa using hW)))
            have CF := Lib.hid (rflush_calls HD6.out)
            have y0 := HO6.out.cell (j := 0) (v := .pointer (some ⟨x, 0, none⟩)) rfl
            clear hW HA3
            generalize flushR Wr.1 = F2 at *
            go_wp2_with fail
            refine CF.out.mono ?_
            rintro e W7 ⟨rfl, hD7, hK7⟩
            have HD7 := Lib.hid hD7
            have HO7 := Lib.hid (Kept.ob hK7 HO6.out ⟨HO6.out.lt, ne⟩)
            have HK7 := Lib.hid (HK6.out.trans (RLev.of_rev (b := b) hK7))
            have hsz7 := RLev.size HK7.out
            clear hD7 hK7 HD6 HO6 HK6 CF y0
            by_cases hF2 : F2.2 = 0
            case neg =>
              have hne : (F2.2 != 0) = true := by simpa using hF2
              have HE := Lib.hid hF2
              clear hF2
              go_wp2
              go_ret
              rw [HA4.out]
              refine ⟨rfl, HD7.out, ⟨lv, ?_, ?_⟩, HK7.out⟩
              · rw [anewL_bad L es HE.out]
                exact HO7.out
              · rw [anewL_bad L es HE.out]
                exact HLV.out.keptR HK7.out
            case pos =>
              have hne : (F2.2 != 0) = false := by simpa using hF2
              have HE := Lib.hid hF2
              obtain ⟨y0, y1, y2, y3, y4, y5⟩ := RLgAt.cells HO7.out
              have f1 := HO7.out.frozen 1
              have f2 := HO7.out.frozen 2
              have f5 := HO7.out.frozen 5
              clear hF2 y3 y4
              go_wp2_with fail
              go_region
              have o8 := ((HO7.out.set 1 (.int .i64 (wrap64 (L.g + 1)))).set 2 (.int .i64 (1 - (L.half : Int)))).set 5 (.bool false)
              have k8 : RLev b x sb lb tb W7 (((W7.setCell ⟨b, 1, none⟩ (.int .i64 (wrap64 (L.g + 1)))).setCell ⟨b, 2, none⟩ (.int .i64 (1 - (L.half : Int)))).setCell ⟨b, 5, none⟩ (.bool false)) := ((RLev.of_set W7 1 _).trans (RLev.of_set _ 2 _)).trans (RLev.of_set _ 5 _)
              have b8 : Kept (fun i => i < W7.heap.size ∧ i ≠ b) W7 (((W7.setCell ⟨b, 1, none⟩ (.int .i64 (wrap64 (L.g + 1)))).setCell ⟨b, 2, none⟩ (.int .i64 (1 - (L.half : Int)))).setCell ⟨b, 5, none⟩ (.bool false)) := by
                refine Kept.trans (Kept.of_grown (grownBy_set W7 b 1 _) fun i hi => ⟨hi.1, fun e => hi.2 (Option.some.inj e)⟩) (Kept.trans (Kept.of_grown (grownBy_set _ b 2 _) fun i hi => ⟨?_, fun e => hi.2 (Option.some.inj e)⟩) (Kept.of_grown (grownBy_set _ b 5 _) fun i hi => ⟨?_, fun e => hi.2 (Option.some.inj e)⟩))
                · rw [size_cell]; exact hi.1
                · rw [size_cell, size_cell]; exact hi.1
              have d8 := HD7.out.kept b8 ⟨HD7.out.ob.lt, ne.1.symm⟩ ⟨HD7.out.sure.lt, ne.2.1.symm⟩ ⟨HD7.out.last.lt, ne.2.2.1.symm⟩ ⟨HD7.out.dirty.lt, ne.2.2.2.symm⟩
              replace o8 : Ob _ b 100 #[.pointer (some ⟨x, 0, none⟩), .int .i64 (wrap64 (L.g + 1)), .int .i64 (1 - (L.half : Int)), lv, .int .i64 (L.sure : Nat), .bool false] := o8
              rw [HQI.out] at o8 k8 d8 ⊢
              generalize (((W7.setCell ⟨b, 1, none⟩ (.int .i64 (wrap64 (L.g + 1)))).setCell ⟨b, 2, none⟩ (.int .i64 (kq : Int))).setCell ⟨b, 5, none⟩ (.bool false)) = U at *
              have hdu := (Below.refl U.heap.size U).drew
              have HO8 := Lib.hid (o8.same hdu)
              have HD8 := Lib.hid (d8.same hdu)
              have HK8 := Lib.hid ((HK7.out.trans k8).trans (RLev.of_below hdu))
              clear o8 k8 b8 d8 hdu HO7 HD7 HK7 f1 f2 f5 y0 y1 y2 y5
              generalize U.drew = W8 at *
              obtain ⟨xl, xh, vals, q1, q2, q3, q4⟩ := HX.out.keptR HK8.out
              obtain ⟨i1, hi1, hq0⟩ := Option.map_eq_some_iff.1 slice_info
              simp only [Prod.mk.injEq] at hq0
              obtain ⟨hq0, hq1, hq2⟩ := hq0
              have hone := q4.one
              have hsz8 := RLev.size HK8.out
              have hel : es.length ≤ 600000 := by have := strm_cnt es; omega
              have Q4 := Lib.hid q4
              have hbl8 : b < W8.heap.size := by omega
              have hal := (Below.refl W8.heap.size W8).alloc (Nat.le_refl _) (.cells #[] 34)
              have q1' := Sl.below q1 (hal.mono q2)
              have HSL := Lib.hid q1'
              have HONE := Lib.hid hone
              clear q1 q3 q4 q1' hone
              go_wp2_with (at_builtin; refine wpList_append_sl _ rfl (.tmp 120) (.tmp 121) _ rfl W8.heap.size 34 i1 _ 1 24 Try.underlying22 hi1 hq0 hq1 hq2 rfl (by omega) (.slice (some ⟨W8.heap.size, 0, none⟩) 0 0) 0 [] rfl (World.ownsRow_lit (e := 34) (size := 1) W8 #[] 0 (Nat.le_refl _) (Nat.zero_le _) rfl) xl xh _ es.length vals rfl HSL.out HONE.out (by unfold maxLen; omega) (by omega) (by simp) ?_; intro v9 W9 hv9 hg9 hat9; have hb9 := hal.grown hg9 (by simp) (fun k e => by cases e; exact Nat.le_refl _); simp only [Nat.zero_add, List.nil_append] at hv9; have hO9 := HO8.out.same hb9; have c3 := hO9.cell (j := 3) (v := lv) rfl; have c4 := hO9.cell (j := 4) (v := .int .i64 (L.sure : Nat)) rfl; have e3 := hO9.frozen 3; have e4 := hO9.frozen 4; obtain ⟨A9, c9, rfl, -⟩ := (Sl.of_own hv9).at_; clear hg9 hat9)
              go_ret
              rw [HA4.out]
              have hs9 := hb9.size
              have hg3 := grownBy_set W9 b 3 (.slice A9 es.length c9)
              have hg4 := grownBy_set (W9.setCell ⟨b, 3, none⟩ (.slice A9 es.length c9)) b 4 (.int .i64 (es.length : Int))
              have hk9 : Kept (fun i => i < W9.heap.size ∧ i ≠ b) W9 ((W9.setCell ⟨b, 3, none⟩ (.slice A9 es.length c9)).setCell ⟨b, 4, none⟩ (.int .i64 (es.length : Int))) :=
                Kept.trans (Kept.of_grown hg3 fun i hi => ⟨hi.1, fun e => hi.2 (Option.some.inj e)⟩) (Kept.of_grown hg4 fun i hi => ⟨by rw [size_cell]; exact hi.1, fun e => hi.2 (Option.some.inj e)⟩)
              have hD9 := HD8.out.same hb9
              have hkl : RLev b x sb lb tb w W9 := HK8.out.trans (RLev.of_below hb9)
              rw [anewL_ok L es HE.out]
              refine ⟨by rw [HE.out]; rfl, hD9.kept hk9 ⟨hD9.ob.lt, ne.1.symm⟩ ⟨hD9.sure.lt, ne.2.1.symm⟩ ⟨hD9.last.lt, ne.2.2.1.symm⟩ ⟨hD9.dirty.lt, ne.2.2.2.symm⟩, ⟨.slice A9 es.length c9, ?_, ?_⟩, hkl.trans (hk9.mono fun i hi => ⟨hi.1, hi.2.1⟩)⟩
              · have := (hO9.set 3 (.slice A9 es.length c9)).set 4 (.int .i64 (es.length : Int))
                rw [HKQ.out] at this
                exact this
              · have hin : ListsIn W9 (fun i => i < W9.heap.size ∧ i ≠ b ∧ FrZ b x sb lb tb Z i) (.slice A9 es.length c9) es := by
                  refine ⟨W8.heap.size, W9.heap.size, vals, Sl.of_own hv9, Nat.le_refl _, fun i a c => ⟨c, by omega, ⟨by omega, by omega, by omega, by omega, by omega⟩, hZ i (by omega)⟩, (Q4.out.same hb9).lt.mono fun i hi => ⟨hi.2, hi.1.1.1, hi.1⟩⟩
                exact (hin.kept (hk9.mono fun i hi => ⟨hi.1, hi.2.1⟩)).mono fun i hi => hi.2.2
end
end Wa
end Go.Proofs.Yteiniahikhiadaa

namespace Go.Proofs.Yteiniahikhiadaa
open Go.RowKit Go.Maps
namespace Wa
open Ce Se
section
variable {w w' : World} {base b x sb lb tb : Nat} {R R' : Rv} {L : Lg} {Z : Nat → Prop}
theorem RLgAt.keep (h : RLgAt w base b x sb lb tb Z R L) (hk : RLev b x sb lb tb w w') (hD : RvAt w' base x sb lb tb R') (hl : R'.sure.length = R.sure.length) {su : Nat} {fin : Bool}
    (ho : ∀ lv, Ob w b 100 (rlgC x L lv) → Ob w' b 100 (rlgC x { L with sure := su, fin := fin } lv)) (hsu : su ≤ L.es.length) : RLgAt w' base b x sb lb tb Z R' { L with sure := su, fin := fin } := by
  obtain ⟨h1, h2, ⟨lv, h3, h4⟩, h5, h6, h7⟩ := h
  refine ⟨hD, by omega, ⟨lv, ho lv h3, h4.keptR hk⟩, h5, h6, ?_⟩
  rw [szR_len hl]
  exact ⟨h7.g1, h7.g2, h7.hf, h7.fits, h7.ok, hsu⟩
set_option maxRecDepth 100000 in
set_option maxHeartbeats 4000000 in
theorem rroom_calls (h : RLgAt w base b x sb lb tb Z R L) :
    Calls Try.prog 64 #[.pointer (some ⟨b, 0, none⟩)] w fun e w' => e = .returned (.int .i64 (roomL L (szR R))) ∧ Below w.heap.size w w' := by
  have hmx : Try.prog.follows .mixedOrders = true := by kernel_rfl
  obtain ⟨lv, l1, l2⟩ := h.lg
  have h4 := h.len
  have hlen := h.dv.len
  have hz : szR R ≤ 8191 := by unfold szR; omega
  have hdr := (Below.refl w.heap.size w).drew
  have hds := hdr.size
  have hf := h.ok.fits
  have hld : ListsAt w.drew lv L.es := (l2.at_).same hdr
  have CB := Lib.hid (rbytes_calls L.es lv w.drew hld h.ok.ok (by omega))
  have HOb := Lib.hid (l1.same hdr)
  have HDV := Lib.hid (h.dv.same hdr)
  have CS := Lib.hid (fun (V : World) (hV : Below w.drew.heap.size w.drew V) => rsize_calls (HDV.out.same hV) (by omega) ((HOb.out.same hV).cell (j := 0) (v := .pointer (some ⟨x, 0, none⟩)) rfl))
  have HR := Lib.hid (show roomL L (szR R) = 63 * (szR R : Int) - ((strm L.es).length : Int) from rfl)
  rw [HR.out]
  obtain ⟨Al, cl, rfl, -⟩ := hld.form
  generalize szR R = sz at *
  have HL := Lib.hid hld
  clear h l1 l2 hld
  go_enter Try.func64, Try.ntmps64
  go_wp2_with fail
  refine Pu.regionM [(0, false), (1, false), (2, false), (3, false), (4, false), (5, false), (6, false), (7, true), (8, false), (9, false), (10, false)] (fun V => Below w.drew.heap.size w.drew V) hmx (by kernel_rfl) (by kernel_rfl) (by kernel_rfl) (Below.refl _ _) rfl ?_
  simp only [Pu.named, List.filterMap_cons, List.filterMap_nil, List.getElem?_toArray, List.getElem?_cons_succ, List.getElem?_cons_zero, Option.map_some]
  iterate 1 (apply Pu.WalkM.on (by rfl)
             · rintro V hV
               go_wp2_with fail
               refine ⟨rfl, ?_, rfl⟩
               try simp only [Act.put, List.setIfInBounds_toArray, List.set_cons_succ, List.set_cons_zero]
               rfl
             simp only [Act.put, List.setIfInBounds_toArray, List.set_cons_succ, List.set_cons_zero])
  iterate 1 (apply Pu.WalkM.on (by rfl)
             · rintro V hV
               have cS := CS.out V hV
               go_wp2_with (go_at_call 60; refine cS.mono ?_; rintro e W1 ⟨rfl, rfl⟩)
               refine ⟨rfl, ?_, rfl⟩
               try simp only [Act.put, List.setIfInBounds_toArray, List.set_cons_succ, List.set_cons_zero]
               rfl
             simp only [Act.put, List.setIfInBounds_toArray, List.set_cons_succ, List.set_cons_zero])
  iterate 5 (apply Pu.WalkM.on (by rfl)
             · rintro V hV
               have hc3 := (HOb.out.same hV).cell (j := 3) (v := .slice Al L.es.length cl) rfl
               go_wp2_with fail
               refine ⟨rfl, ?_, rfl⟩
               try simp only [Act.put, List.setIfInBounds_toArray, List.set_cons_succ, List.set_cons_zero]
               rfl
             simp only [Act.put, List.setIfInBounds_toArray, List.set_cons_succ, List.set_cons_zero])
  refine Pu.WalkM.make (by rfl) ?_
  rintro V rfl
  go_wp2_with fail
  refine CB.out.mono ?_
  rintro e W1 ⟨⟨v1, rfl, hv1⟩, hb1⟩
  obtain ⟨A1, c1, rfl, -⟩ := (BytesAt.of_own hv1).form
  have hln : (strm L.es).length ≤ 600000 := by omega
  generalize hnn : (strm L.es).length = n at *
  have HNN := Lib.hid hnn
  clear hnn
  go_wp2_with fail
  refine ⟨rfl, .slice A1 n c1, (fun V => V = W1), (fun V => V = W1), ?_, rfl, (fun _ h => h), (.inr (fun V h => by rw [h]; exact hb1)), ?_⟩
  · try simp only [Act.put, List.setIfInBounds_toArray, List.set_cons_succ, List.set_cons_zero]
    try rfl
  simp only [Act.put, List.setIfInBounds_toArray, List.set_cons_succ, List.set_cons_zero]
  iterate 3 (apply Pu.WalkM.on (by rfl)
             · rintro V hV
               rw [hV]
               go_wp2_with fail
               refine ⟨rfl, ?_, rfl⟩
               try simp only [Act.put, List.setIfInBounds_toArray, List.set_cons_succ, List.set_cons_zero]
               rfl
             simp only [Act.put, List.setIfInBounds_toArray, List.set_cons_succ, List.set_cons_zero])
  refine Pu.WalkM.nil ?_
  rintro V rfl
  go_wp2
  go_ret
  rw [HNN.out]
  exact ⟨rfl, hdr.trans (hb1.mono hds)⟩
set_option maxRecDepth 100000 in
set_option maxHeartbeats 4000000 in
theorem rsync_calls (h : RLgAt w base b x sb lb tb Z R L) :
    Calls Try.prog 29 #[.pointer (some ⟨b, 0, none⟩)] w fun e w' => e = .returned (.int .i64 (syncG flushR R L).2.2) ∧ RLgAt w' base b x sb lb tb Z (syncG flushR R L).1 (syncG flushR R L).2.1 ∧ RLev b x sb lb tb w w' := by
  obtain ⟨lv, l1, l2⟩ := h.lg
  have y0 := l1.cell (j := 0) (v := .pointer (some ⟨x, 0, none⟩)) rfl
  have y5 := l1.cell (j := 5) (v := .bool L.fin) rfl
  have H := Lib.hid h
  have hne := h.ne
  have hbl := l1.lt
  obtain ⟨Ae, ce, rfl, -⟩ := l2.form
  have hll := h.dv.ok.ll
  have HLF := Lib.hid (lenFR hll)
  cases hf : L.fin with
  | true =>
    have HS := Lib.hid (show syncG flushR R L = (R, L, 30) by unfold syncG; rw [hf]; rfl)
    rw [hf] at y5
    clear h l1 l2 hf
    go_enter Try.func29, Try.ntmps29
    go_wp2
    go_ret
    rw [HS.out]
    exact ⟨rfl, H.out, RLev.refl _⟩
  | false =>
    have CF := Lib.hid (rflush_calls h.dv)
    have HS := Lib.hid (show syncG flushR R L = if (flushR R).2 ≠ 0 then ((flushR R).1, { L with fin := true }, (flushR R).2) else ((flushR R).1, { L with sure := L.es.length }, 0) by unfold syncG; rw [hf]; rfl)
    rw [hf] at y5
    have HF := Lib.hid hf
    clear h hf
    go_enter Try.func29, Try.ntmps29
    go_wp2_with fail
    refine CF.out.mono ?_
    rintro e W ⟨rfl, hD, hK⟩
    have l1W := Kept.ob hK l1 ⟨hbl, hne⟩
    have z3 := l1W.cell (j := 3) (v := .slice Ae L.es.length ce) rfl
    have z4 := l1W.cell (j := 4) (v := .int .i64 (L.sure : Nat)) rfl
    have z5 := l1W.cell (j := 5) (v := .bool L.fin) rfl
    have f4 := l1W.frozen 4
    have f5 := l1W.frozen 5
    have HD := Lib.hid hD
    have HK := Lib.hid (RLev.of_rev (b := b) hK)
    have hsW := RLev.size HK.out
    have HO := Lib.hid (fun lv (ho : Ob w b 100 (rlgC x L lv)) => Kept.ob hK ho ⟨ho.lt, hne⟩)
    clear hD hK l1 l1W l2 CF
    by_cases h0 : (flushR R).2 = 0
    · have hq : ((flushR R).2 != 0) = false := by simpa using h0
      have HS2 := Lib.hid (HS.out.trans (if_neg (by simp [h0])))
      clear h0 HS
      go_wp2
      go_ret
      rw [HS2.out]
      have gs := grownBy_set W b 4 (.int .i64 (L.es.length : Int))
      have hkk := HK.out.trans (RLev.of_set W 4 (.int .i64 (L.es.length : Int)))
      have hr := H.out.keep hkk (HD.out.kept (Kept.of_grown (Fr := fun i => i < W.heap.size ∧ i ≠ b) gs fun i hi => ⟨hi.1, fun e => hi.2 (Option.some.inj e)⟩) ⟨HD.out.ob.lt, hne.1.symm⟩ ⟨HD.out.sure.lt, hne.2.1.symm⟩ ⟨HD.out.last.lt, hne.2.2.1.symm⟩ ⟨HD.out.dirty.lt, hne.2.2.2.symm⟩) HLF.out (su := L.es.length) (fin := false) (fun lv ho => by
        have := (HO.out lv ho).set 4 (.int .i64 (L.es.length : Int))
        unfold rlgC at this
        rw [HF.out] at this
        exact this) (Nat.le_refl _)
      have e : ({ L with sure := L.es.length, fin := false } : Lg) = { L with sure := L.es.length } := by rw [← HF.out]
      rw [e] at hr
      exact ⟨rfl, hr, hkk⟩
    · have hq : ((flushR R).2 != 0) = true := by simpa using h0
      have HS2 := Lib.hid (HS.out.trans (if_pos h0))
      clear h0 HS
      go_wp2
      go_ret
      rw [HS2.out]
      have gs := grownBy_set W b 5 (.bool true)
      have hkk := HK.out.trans (RLev.of_set W 5 (.bool true))
      have hr := H.out.keep hkk (HD.out.kept (Kept.of_grown (Fr := fun i => i < W.heap.size ∧ i ≠ b) gs fun i hi => ⟨hi.1, fun e => hi.2 (Option.some.inj e)⟩) ⟨HD.out.ob.lt, hne.1.symm⟩ ⟨HD.out.sure.lt, hne.2.1.symm⟩ ⟨HD.out.last.lt, hne.2.2.1.symm⟩ ⟨HD.out.dirty.lt, hne.2.2.2.symm⟩) HLF.out (su := L.sure) (fin := true) (fun lv ho => (HO.out lv ho).set 5 (.bool true)) H.out.ok.sure
      exact ⟨rfl, hr, hkk⟩
end
end Wa
end Go.Proofs.Yteiniahikhiadaa

namespace Go.Proofs.Yteiniahikhiadaa
open Go.RowKit Go.Maps
namespace Wa
open Ce Se
section
variable {w w' : World} {base b x sb lb tb : Nat} {R R' : Rv} {L : Lg} {Z : Nat → Prop}
theorem wG_app (R : Rv) (L : Lg) (l : List UInt8) : wG R L.half (used L) (strm (L.es ++ [l])) = appG writeR R L (szR R) l := rfl
set_option maxRecDepth 100000 in
set_option maxHeartbeats 8000000 in
theorem rappend_good (h : RLgAt w base b x sb lb tb Z R L) (hZ : ∀ i, w.heap.size ≤ i → Z i) {l : List UInt8} {v : Value} (hI : BytesAt w 0 w.heap.size v l) (h1 : l.length ≤ 65536) (h2 : (l.length : Int) + 3 ≤ roomL L (szR R)) (h3 : L.fin = false) {r : Rv × Int} (hr : r = appG writeR R L (szR R) l) :
    Calls Try.prog 28 #[.pointer (some ⟨b, 0, none⟩), v] w fun e w' =>
      (r.2 ≠ 0 → e = .returned (.tuple #[.int .i64 0, .int .i64 r.2]) ∧ RLgAt w' base b x sb lb tb Z r.1 { L with fin := true }) ∧
      (r.2 = 0 → e = .returned (.tuple #[.int .i64 L.es.length, .int .i64 0]) ∧ RLgAt w' base b x sb lb tb Z r.1 { L with es := L.es ++ [l] }) ∧ RLev b x sb lb tb w w' := by
  have hmx : Try.prog.follows .mixedOrders = true := by kernel_rfl
  obtain ⟨lv, l1, l2⟩ := h.lg
  have h4 := h.len
  have hlen := h.dv.len
  have hz : szR R ≤ 8191 := by unfold szR; omega
  have hf := h.ok.fits
  have hne := h.ne
  have hbl := l1.lt
  have hxl := h.dv.ob.lt
  have hsl := h.dv.sure.lt
  have hll := h.dv.last.lt
  have htl := h.dv.dirty.lt
  have CR := Lib.hid (rroom_calls h)
  have HH := Lib.hid h
  have HOK := Lib.hid (show ∀ e ∈ L.es ++ [l], e.length ≤ 65536 from fun e he => by
    rcases List.mem_append.1 he with he | he
    · exact h.ok.ok e he
    · rw [List.mem_singleton.1 he]; exact h1)
  have hs2 : (strm (L.es ++ [l])).length = (strm L.es).length + (3 + l.length) := by rw [strm_snoc, List.length_append, encE_len]
  have hfit2 : (strm (L.es ++ [l])).length ≤ 63 * szR R := by
    rw [hs2]
    unfold roomL used at h2
    omega
  have HFIT := Lib.hid hfit2
  have CBY := Lib.hid (fun (W : World) (lv : Value) (h : ListsAt W lv L.es) => rbytes_calls L.es lv W h HH.out.ok.ok (by have := HH.out.ok.fits; omega))
  have CB2 := Lib.hid (fun (W : World) (lv : Value) (h : ListsAt W lv (L.es ++ [l])) => rbytes_calls (L.es ++ [l]) lv W h HOK.out (by omega))
  have cnt := strm_cnt L.es
  have hr2 : r = wG R L.half (used L) (strm (L.es ++ [l])) := by rw [wG_app]; exact hr
  have hus : used L = (strm L.es).length := rfl
  have HR2 := Lib.hid hr2
  have HI := Lib.hid hI
  have HL2 := Lib.hid l2
  have HO := Lib.hid l1
  have hgt : decide ((l.length : Int) + 3 > roomL L (szR R)) = false := by simp; omega
  have hgt0 : decide ((l.length : Int) > 65536) = false := by simp; omega
  have HUS := Lib.hid hus
  obtain ⟨S2, hS2⟩ : ∃ S2, S2 = strm (L.es ++ [l]) := ⟨_, rfl⟩
  have hs6 : S2.length ≤ 600000 := by rw [hS2]; omega
  rw [← hS2] at HR2 CB2
  obtain ⟨A, c, rfl, -⟩ := hI.form
  obtain ⟨Al, cl, rfl, -⟩ := l2.form
  have y5 := l1.cell (j := 5) (v := .bool L.fin) rfl
  rw [h3] at y5
  have HF := Lib.hid h3
  have hel : L.es.length ≤ 600000 := by omega
  have hul : used L ≤ 600000 := by rw [hus]; omega
  have hh1 := h.ok.hf
  have HS2 := Lib.hid hS2
  have hul2 : (strm L.es).length ≤ 600000 := by omega
  clear h hI l1 l2 h2 h3 hr hr2 hus hS2 hs2 hf
  obtain ⟨rl, hrl⟩ : ∃ rl, rl = roomL L (szR R) := ⟨_, rfl⟩
  rw [← hrl] at CR hgt
  have HRL := Lib.hid hrl
  clear hrl
  go_enter Try.func28, Try.ntmps28
  go_wp2_with fail
  refine CR.out.mono ?_
  rintro e W1 ⟨rfl, hb1⟩
  have y5' := (HO.out.same hb1).cell (j := 5) (v := .bool L.fin) rfl
  rw [HF.out] at y5'
  have y3' := (HO.out.same hb1).cell (j := 3) (v := .slice Al L.es.length cl) rfl
  go_wp2_with fail
  refine (CBY.out W1 _ ((HL2.out.same hb1).at_)).mono ?_
  rintro e W2 ⟨⟨v2, rfl, hv2⟩, hb2⟩
  have hb12 := hb1.trans (hb2.mono hb1.size)
  obtain ⟨A2, c2, rfl, -⟩ := (BytesAt.of_own hv2).form
  have HB2 := Lib.hid hb12
  have y3 := (HO.out.same hb12).cell (j := 3) (v := .slice Al L.es.length cl) rfl
  have y3a := ((HO.out.same hb12).alloc (.cells #[] 34)).cell (j := 3) (v := .slice Al L.es.length cl) rfl
  have hs12 := hb12.size
  obtain ⟨xl, xh, vals, q1, q2, q3, q4⟩ := HL2.out.same hb12
  obtain ⟨i1, hi1, hq0⟩ := Option.map_eq_some_iff.1 slice_info
  simp only [Prod.mk.injEq] at hq0
  obtain ⟨hq0, hq1, hq2⟩ := hq0
  obtain ⟨i0, hi0, hz0⟩ := Option.map_eq_some_iff.1 byteInfo
  simp only [Prod.mk.injEq] at hz0
  obtain ⟨hz0, hz1, hz2⟩ := hz0
  have HONE := Lib.hid q4.one
  have HSL := Lib.hid (Sl.below q1 (((Below.refl W2.heap.size W2).alloc (Nat.le_refl _) (.cells #[] 34)).mono q2))
  have HAL := Lib.hid ((Below.refl W2.heap.size W2).alloc (Nat.le_refl _) (.cells #[] 34))
  have Q4 := Lib.hid q4
  clear hb1 hb2 hb12 hv2 y5 y5' y3' CR q1 q2 q3 q4
  go_wp2_with (first
    | (at_builtin; refine wpList_append_sl _ rfl (.tmp 28) (.tmp 32) _ rfl W2.heap.size 34 i1 _ 1 24 Try.underlying22 hi1 hq0 hq1 hq2 rfl (by omega) (.slice (some ⟨W2.heap.size, 0, none⟩) 0 0) 0 [] rfl (World.ownsRow_lit (e := 34) (size := 1) W2 #[] 0 (Nat.le_refl _) (Nat.zero_le _) rfl) xl xh _ L.es.length vals rfl HSL.out HONE.out (by unfold maxLen; omega) (by omega) (by simp) ?_; intro v3 W3 hv3 hg3 hat3; have hb3 := HAL.out.grown hg3 (by simp) (fun k e => by cases e; exact Nat.le_refl _); simp only [Nat.zero_add, List.nil_append] at hv3; have hs3 := hb3.size; have HV3 := Lib.hid hv3; have HB3 := Lib.hid hb3; have HLT3 := Lib.hid (fun g hg => (hv3.lt g hg).2); clear hg3 hat3 hv3 hb3)
    | (at_builtin; refine wpList_append_sl _ rfl (.tmp 34) (.tmp 35) _ rfl W3.heap.size 5 i0 _ 1 1 Try.underlying34 hi0 hz0 hz1 hz2 rfl (by omega) (.slice (some ⟨W3.heap.size, 0, none⟩) 0 0) 0 [] rfl (World.ownsRow_lit (e := 5) (size := 1) W3 #[] 0 (Nat.le_refl _) (Nat.zero_le _) rfl) 0 w.heap.size _ l.length (bytesV l) rfl (Sl.below (Sl.below HI.out (HB2.out.trans (HB3.out.mono hs12))) (((Below.refl W3.heap.size W3).alloc (Nat.le_refl _) (.cells #[] 5)).mono (by omega))) (bytesV_one _) (by unfold maxLen; omega) (by omega) (by simp) ?_; intro v4 W4 hv4 hg4 hat4; have hb4 := ((Below.refl W3.heap.size W3).alloc (Nat.le_refl _) (.cells #[] 5)).grown hg4 (by simp) (fun k e => by cases e; exact Nat.le_refl _); simp only [Nat.zero_add, List.nil_append] at hv4; have hs4 := hb4.size; obtain ⟨A4, c4, rfl, -⟩ := (BytesAt.of_own hv4).form; have HV4 := Lib.hid hv4; have HB4 := Lib.hid hb4; clear hg4 hat4 hv4 hb4)
    | (at_builtin; refine wpList_append_sl _ rfl (.tmp 33) (.tmp 37) _ rfl W2.heap.size 34 i1 _ 1 24 Try.underlying22 hi1 hq0 hq1 hq2 rfl (by omega) _ L.es.length vals rfl ((ownsRow_below HV3.out HB4.out).alloc _) W4.heap.size (W4.heap.size + 1) _ 1 [.slice A4 l.length c4] rfl (Sl.new W4 #[.slice A4 l.length c4] 34 (n := 1) (size := 1) rfl (by unfold maxLen; omega)) (by simp [Value.oneCell']) (by unfold maxLen; omega) (by omega) (by simp; omega) ?_; intro v5 W5 hv5 hg5 hat5; have HV5 := Lib.hid hv5; have HG5 := Lib.hid hg5; obtain ⟨A5, c5, rfl, -⟩ := (Sl.of_own hv5).at_; clear hg5 hat5 hv5))
  have hb34 := HB3.out.trans (HB4.out.mono hs3)
  have hb5 : Below W2.heap.size W2 W5 := (hb34.alloc hb34.size (.cells #[.slice A4 l.length c4] 34)).grown HG5.out (by simp; omega) (fun r e => (HV3.out.lt r e).1)
  have hs5 := hb5.size
  have hk45 : Kept (fun i => W3.heap.size ≤ i ∧ i < W4.heap.size) W4 W5 := Kept.trans (Kept.of_below ((Below.refl W4.heap.size W4).alloc (Nat.le_refl _) (.cells #[.slice A4 l.length c4] 34)) (fun i hi => hi.2)) (Kept.of_grown HG5.out fun i hi => ⟨by simp; omega, fun e => by have := HLT3.out i e.symm; omega⟩)
  have hfr : ∀ i, w.heap.size ≤ i → FrZ b x sb lb tb Z i := fun i hi => ⟨⟨by omega, by omega, by omega, by omega, by omega⟩, hZ i hi⟩
  have hE4 : EntAt W5 (FrZ b x sb lb tb Z) (.slice A4 l.length c4) l := ((EntAt.of (BytesAt.of_own HV4.out) (Nat.le_refl _)).kept hk45).mono fun i hi => hfr i (by omega)
  have hL5 : ListsIn W5 (FrZ b x sb lb tb Z) (.slice A5 (L.es.length + 1) c5) (L.es ++ [l]) := by
    refine ⟨W2.heap.size, W5.heap.size, vals ++ [.slice A4 l.length c4], ?_, Nat.le_refl _, fun i h1 h2 => hfr i (by omega), (Q4.out.same hb5).snoc hE4⟩
    rw [List.length_append]
    exact Sl.of_own HV5.out
  have hb05 := HB2.out.trans (hb5.mono hs12)
  have hO5 := HO.out.same hb05
  have hdr := (Below.refl W5.heap.size W5).drew
  have hds := hdr.size
  have hOd := hO5.same hdr
  have HOd := Lib.hid hOd
  have HDd := Lib.hid (HH.out.dv.same (hb05.trans (hdr.mono (by omega))))
  have HLd := Lib.hid (hL5.same hdr)
  have HKd := Lib.hid ((RLev.of_below hb05).trans (RLev.of_below hdr) : RLev b x sb lb tb w W5.drew)
  have h2d : W5.drew.cell? ⟨b, 2, none⟩ = some (.int .i64 (L.half : Nat)) := hOd.cell (j := 2) rfl
  clear hb34 hb5 hk45 hE4 hL5 hb05 hO5 hdr hOd HV3 HB3 HLT3 HB4 HV4 HV5 HG5 HSL HAL Q4 y3 y3a
  refine Pu.regionM [(0, false), (1, false), (2, false), (3, false), (4, false), (5, false), (7, false), (6, true), (8, true), (9, false)] (fun V => V.cell? ⟨b, 2, none⟩ = some (.int .i64 (L.half : Nat))) hmx (by kernel_rfl) (by kernel_rfl) (by kernel_rfl) h2d rfl ?_
  simp only [Pu.named, List.filterMap_cons, List.filterMap_nil, List.getElem?_toArray, List.getElem?_cons_succ, List.getElem?_cons_zero, Option.map_some]
  iterate 7 (apply Pu.WalkM.on (by rfl)
             · rintro V hV
               have hc2 := hV
               go_wp2_with fail
               refine ⟨rfl, ?_, rfl⟩
               try simp only [Act.put, List.setIfInBounds_toArray, List.set_cons_succ, List.set_cons_zero]
               rfl
             simp only [Act.put, List.setIfInBounds_toArray, List.set_cons_succ, List.set_cons_zero])
  refine Pu.WalkM.make (by rfl) ?_
  rintro V rfl
  have cb := CB2.out _ _ (HLd.out.at_)
  go_wp2_with fail
  refine cb.mono ?_
  rintro e W7 ⟨⟨v6, rfl, hv6⟩, hb7⟩
  have hs7 := hb7.size
  obtain ⟨A6, c6, rfl, -⟩ := (BytesAt.of_own hv6).form
  have hb6 : BytesAt W7 W5.drew.heap.size W7.heap.size (.slice A6 S2.length c6) S2 := BytesAt.of_own hv6
  have hO7 := HOd.out.same hb7
  have cP := rput_calls (HDd.out.same hb7) h4 hO7 hne L.half (used L) hh1 S2 _ _ _ hb6 (Nat.le_refl _) (fun i a c => (hfr i (by omega)).1) hs6 hul
  rw [← HR2.out, HUS.out] at cP
  have CP := Lib.hid cP
  have HL7 := Lib.hid (HLd.out.same hb7)
  have HK7 := Lib.hid (HKd.out.trans (RLev.of_below hb7))
  clear cP hb6 hv6 cb
  go_wp2_with fail
  refine ⟨rfl, .slice A6 S2.length c6, (fun V => V.cell? ⟨b, 2, none⟩ = some (.int .i64 (L.half : Nat))), (fun V => V = W7), ?_, rfl, (fun V h => by rw [h]; exact hO7.cell (j := 2) rfl), (.inr (fun _ h => h)), ?_⟩
  · try simp only [Act.put, List.setIfInBounds_toArray, List.set_cons_succ, List.set_cons_zero]
    try rfl
  simp only [Act.put, List.setIfInBounds_toArray, List.set_cons_succ, List.set_cons_zero]
  refine Pu.WalkM.make (by rfl) ?_
  rintro V rfl
  go_wp2_with fail
  refine CP.out.mono ?_
  rintro e W8 ⟨rfl, hD8, hO8, hK8⟩
  have hK9 := HK7.out.trans hK8
  have HL8 := Lib.hid (HL7.out.keptR hK8)
  have HLo8 := Lib.hid (HL2.out.keptR hK9)
  go_wp2_with fail
  refine ⟨rfl, .int .i64 r.2, (fun V => V = W8), (fun V => V = W8), ?_, rfl, (fun _ h => h), (.inr (fun V h => by rw [h]; exact hO8.cell (j := 2) rfl)), ?_⟩
  · try simp only [Act.put, List.setIfInBounds_toArray, List.set_cons_succ, List.set_cons_zero]
    try rfl
  simp only [Act.put, List.setIfInBounds_toArray, List.set_cons_succ, List.set_cons_zero]
  iterate 1 (apply Pu.WalkM.on (by rfl)
             · rintro V hV
               rw [hV]
               go_wp2_with fail
               refine ⟨rfl, ?_, rfl⟩
               try simp only [Act.put, List.setIfInBounds_toArray, List.set_cons_succ, List.set_cons_zero]
               rfl
             simp only [Act.put, List.setIfInBounds_toArray, List.set_cons_succ, List.set_cons_zero])
  refine Pu.WalkM.nil ?_
  rintro V rfl
  have HD8 := Lib.hid hD8
  have HO8 := Lib.hid hO8
  have HK8 := Lib.hid hK9
  have hrl : r.1.sure.length = R.sure.length := by rw [HR2.out]; exact wrG_lenR _ _ _ _
  have HRl := Lib.hid hrl
  clear hD8 hO8 hK8 hK9 CP hb7 hO7 h2d hrl
  by_cases he : r.2 = 0
  · have hne0 : (r.2 != 0) = false := by simpa using he
    have HE := Lib.hid he
    have hfi : finIf L r.2 = L := by unfold finIf; rw [he]; simp
    have hO := HO8.out
    rw [hfi] at hO
    have y3 := hO.cell (j := 3) (v := .slice Al L.es.length cl) rfl
    have f3 := hO.frozen 3
    have HO9 := Lib.hid (hO.set 3 (.slice A5 (L.es.length + 1) c5))
    clear he hfi hO
    go_wp2
    go_ret2
    have gs := grownBy_set V b 3 (.slice A5 (L.es.length + 1) c5)
    have hk9 := HK8.out.trans (RLev.of_set V 3 (.slice A5 (L.es.length + 1) c5))
    refine ⟨fun h => absurd HE.out h, fun _ => ⟨rfl, ?_⟩, hk9⟩
    refine ⟨HD8.out.kept (Kept.of_grown (Fr := fun i => i < V.heap.size ∧ i ≠ b) gs fun i hi => ⟨hi.1, fun e => hi.2 (Option.some.inj e)⟩) ⟨HD8.out.ob.lt, hne.1.symm⟩ ⟨HD8.out.sure.lt, hne.2.1.symm⟩ ⟨HD8.out.last.lt, hne.2.2.1.symm⟩ ⟨HD8.out.dirty.lt, hne.2.2.2.symm⟩, by rw [HRl.out]; exact h4, ⟨_, HO9.out, HL8.out.keptR (RLev.of_set V 3 _)⟩, hne, HH.out.lo, ?_⟩
    rw [szR_len HRl.out]
    have hok := HH.out.ok
    exact ⟨hok.g1, hok.g2, hok.hf, HFIT.out, HOK.out, by have := hok.sure; show L.sure ≤ (L.es ++ [l]).length; rw [List.length_append]; omega⟩
  · have hne0 : (r.2 != 0) = true := by simpa using he
    have HE := Lib.hid he
    have hfi : finIf L r.2 = { L with fin := true } := by unfold finIf; rw [decide_eq_true he, Bool.or_true]
    have hO := HO8.out
    rw [hfi] at hO
    have HO9 := Lib.hid hO
    clear he hfi hO
    go_wp2
    go_ret2
    refine ⟨fun _ => ⟨rfl, ?_⟩, fun h => absurd h HE.out, HK8.out⟩
    refine ⟨HD8.out, by rw [HRl.out]; exact h4, ⟨_, HO9.out, HLo8.out⟩, hne, HH.out.lo, ?_⟩
    rw [szR_len HRl.out]
    have hok := HH.out.ok
    exact ⟨hok.g1, hok.g2, hok.hf, hok.fits, hok.ok, hok.sure⟩
set_option maxRecDepth 100000 in
theorem rappend_long (b : Nat) {l : List UInt8} {v : Value} (hI : BytesAt w 0 w.heap.size v l) (h1 : 65536 < l.length) :
    Calls Try.prog 28 #[.pointer (some ⟨b, 0, none⟩), v] w fun e w' => e = .returned (.tuple #[.int .i64 0, .int .i64 3]) ∧ w = w' := by
  obtain ⟨A, c, rfl, -⟩ := hI.form
  have hd : decide ((l.length : Int) > 65536) = true := by simp; omega
  clear hI
  go_enter Try.func28, Try.ntmps28
  go_wp2
  go_ret2
  exact ⟨rfl, rfl⟩
set_option maxRecDepth 100000 in
theorem rappend_full (h : RLgAt w base b x sb lb tb Z R L) {l : List UInt8} {v : Value} (hI : BytesAt w 0 w.heap.size v l) (h1 : l.length ≤ 65536) (h2 : (l.length : Int) + 3 > roomL L (szR R)) :
    Calls Try.prog 28 #[.pointer (some ⟨b, 0, none⟩), v] w fun e w' => e = .returned (.tuple #[.int .i64 0, .int .i64 2]) ∧ Below w.heap.size w w' := by
  obtain ⟨A, c, rfl, -⟩ := hI.form
  have CR := Lib.hid (rroom_calls h)
  have hgt : decide ((l.length : Int) + 3 > roomL L (szR R)) = true := by simpa using h2
  have hgt0 : decide ((l.length : Int) > 65536) = false := by simp; omega
  generalize roomL L (szR R) = rl at *
  clear hI h h2
  go_enter Try.func28, Try.ntmps28
  go_wp2_with fail
  refine CR.out.mono ?_
  rintro e W1 ⟨rfl, hb1⟩
  go_wp2
  go_ret2
  exact ⟨rfl, hb1⟩
set_option maxRecDepth 100000 in
theorem rappend_end (h : RLgAt w base b x sb lb tb Z R L) {l : List UInt8} {v : Value} (hI : BytesAt w 0 w.heap.size v l) (h1 : l.length ≤ 65536) (h2 : (l.length : Int) + 3 ≤ roomL L (szR R)) (h3 : L.fin = true) :
    Calls Try.prog 28 #[.pointer (some ⟨b, 0, none⟩), v] w fun e w' => e = .returned (.tuple #[.int .i64 0, .int .i64 30]) ∧ Below w.heap.size w w' := by
  obtain ⟨A, c, rfl, -⟩ := hI.form
  have CR := Lib.hid (rroom_calls h)
  have hgt : decide ((l.length : Int) + 3 > roomL L (szR R)) = false := by simp; omega
  have hgt0 : decide ((l.length : Int) > 65536) = false := by simp; omega
  generalize roomL L (szR R) = rl at *
  obtain ⟨lv, l1, -⟩ := h.lg
  have HO := Lib.hid l1
  have HF := Lib.hid h3
  clear hI h h2 l1 h3
  go_enter Try.func28, Try.ntmps28
  go_wp2_with fail
  refine CR.out.mono ?_
  rintro e W1 ⟨rfl, hb1⟩
  have y5 := (HO.out.same hb1).cell (j := 5) (v := .bool L.fin) rfl
  rw [HF.out] at y5
  go_wp2
  go_ret2
  exact ⟨rfl, hb1⟩
theorem rappend_calls (h : RLgAt w base b x sb lb tb Z R L) (hZ : ∀ i, w.heap.size ≤ i → Z i) {l : List UInt8} {v : Value} (hI : BytesAt w 0 w.heap.size v l) :
    Calls Try.prog 28 #[.pointer (some ⟨b, 0, none⟩), v] w fun e w' => e = .returned (.tuple #[.int .i64 (appendG writeR R L (szR R) l).2.2.1, .int .i64 (appendG writeR R L (szR R) l).2.2.2]) ∧
      RLgAt w' base b x sb lb tb Z (appendG writeR R L (szR R) l).1 (appendG writeR R L (szR R) l).2.1 ∧ RLev b x sb lb tb w w' := by
  by_cases h1 : l.length > 65536
  · have e : appendG writeR R L (szR R) l = (R, L, 0, 3) := by unfold appendG; rw [if_pos h1]
    rw [e]
    refine (rappend_long b hI h1).mono ?_
    rintro e w' ⟨rfl, rfl⟩
    exact ⟨rfl, h, RLev.refl _⟩
  by_cases h2 : (l.length : Int) + 3 > roomL L (szR R)
  · have e : appendG writeR R L (szR R) l = (R, L, 0, 2) := by unfold appendG; rw [if_neg h1, if_pos h2]
    rw [e]
    refine (rappend_full h hI (by omega) h2).mono ?_
    rintro e w' ⟨rfl, hb⟩
    exact ⟨rfl, h.same hb, RLev.of_below hb⟩
  cases h3 : L.fin with
  | true =>
    have e : appendG writeR R L (szR R) l = (R, L, 0, 30) := by unfold appendG; rw [if_neg h1, if_neg h2, if_pos h3]
    rw [e]
    refine (rappend_end h hI (by omega) (by omega) h3).mono ?_
    rintro e w' ⟨rfl, hb⟩
    exact ⟨rfl, h.same hb, RLev.of_below hb⟩
  | false =>
    obtain ⟨r, hr⟩ : ∃ r, r = appG writeR R L (szR R) l := ⟨_, rfl⟩
    have e : appendG writeR R L (szR R) l = if r.2 ≠ 0 then (r.1, { L with fin := true }, 0, r.2) else (r.1, { L with es := L.es ++ [l] }, (L.es.length : Int), 0) := by
      unfold appendG
      rw [if_neg h1, if_neg h2, h3, if_neg (by simp), hr]
    rw [e]
    refine (rappend_good h hZ hI (by omega) (by omega) h3 hr).mono ?_
    rintro e w' ⟨q1, q2, q3⟩
    by_cases h0 : r.2 = 0
    · rw [if_neg (by simp [h0])]
      obtain ⟨rfl, k⟩ := q2 h0
      exact ⟨rfl, k, q3⟩
    · rw [if_pos h0]
      obtain ⟨rfl, k⟩ := q1 h0
      exact ⟨rfl, k, q3⟩
end
end Wa
end Go.Proofs.Yteiniahikhiadaa

namespace Go.Proofs.Yteiniahikhiadaa
open Go.RowKit Go.Maps
namespace Wa
open Ce Se
section
variable {w w' : World} {base b x sb lb tb : Nat} {R R' : Rv} {L : Lg} {Z : Nat → Prop}
theorem anewG_lenR {R : Rv} (hok : OkR R) (g : Int) (half size : Nat) (es : List (List UInt8)) (hl : ∀ S : Rv, OkR S → (flushR S).1.sure.length = S.sure.length) (hw : ∀ (k : Int) (f : Nat → Blk) (n : Nat) (S : Rv), OkR S → (∀ j, (f j).length = 64) → OkR (wrG writeR S k f n).1)
    (hf : ∀ S : Rv, OkR S → OkR (flushR S).1) : (anewG writeR flushR R g half size es).1.sure.length = R.sure.length := by
  unfold anewG
  dsimp only
  have o1 := hw (Wa.base (1 - half) size) (chF (strm es)) (nch (strm es)) R hok (chF_len _)
  have l1 := wrG_lenR R (Wa.base (1 - half) size) (chF (strm es)) (nch (strm es))
  generalize wrG writeR R (Wa.base (1 - half) size) (chF (strm es)) (nch (strm es)) = x1 at *
  split
  · exact l1
  have o2 := hw (Wa.base (1 - half) size + nch (strm es)) (fun _ => List.replicate 64 0) (size - nch (strm es)) x1.1 o1 (fun _ => by simp)
  have l2 := (wrG_lenR x1.1 (Wa.base (1 - half) size + nch (strm es)) (fun _ => List.replicate 64 0) (size - nch (strm es))).trans l1
  generalize wrG writeR x1.1 (Wa.base (1 - half) size + nch (strm es)) (fun _ => List.replicate 64 0) (size - nch (strm es)) = x2 at *
  split
  · exact l2
  have o3 := hf _ o2
  have l3 := (hl _ o2).trans l2
  generalize flushR x2.1 = x3 at *
  split
  · exact l3
  have o4 := hw ((wrap64 (g + 1)).tmod 2) (fun _ => headB (wrap64 (g + 1)) (1 - half)) 1 x3.1 o3 (fun _ => headB_len _ _)
  have l4 := (lenWR x3.1 ((wrap64 (g + 1)).tmod 2) (headB (wrap64 (g + 1)) (1 - half))).trans l3
  have e4 : wrG writeR x3.1 ((wrap64 (g + 1)).tmod 2) (fun _ => headB (wrap64 (g + 1)) (1 - half)) 1 = writeR x3.1 ((wrap64 (g + 1)).tmod 2) (headB (wrap64 (g + 1)) (1 - half)) := by
    simp [wrG]
  rw [e4] at o4
  generalize writeR x3.1 ((wrap64 (g + 1)).tmod 2) (headB (wrap64 (g + 1)) (1 - half)) = x4 at *
  split
  · exact l4
  · exact (hl _ o4).trans l4
theorem okR_write {R : Rv} (h : OkR R) (i : Int) {b : Blk} (hb : b.length = 64) : OkR (writeR R i b).1 := by
  unfold writeR
  split
  · exact h
  split
  · exact h
  · exact ⟨h.sure, set_mem h.last hb _, by show (R.last.set _ _).length = R.sure.length; rw [List.length_set, h.ll], by show (R.dirty.set _ _).length = R.sure.length; rw [List.length_set, h.dl], by dsimp only; unfold wrap64; omega, by dsimp only; unfold wrap64; omega, h.fl⟩
theorem okR_flush {R : Rv} (h : OkR R) : OkR (flushR R).1 := by
  unfold flushR
  split
  · exact h
  · exact ⟨h.last, h.last, rfl, by show (List.replicate _ _).length = R.last.length; rw [List.length_replicate, h.ll], by dsimp only; unfold wrap64; omega, h.wr, by dsimp only; unfold wrap64; omega⟩
theorem okR_wrG {R : Rv} (h : OkR R) (k : Int) {f : Nat → Blk} (hf : ∀ j, (f j).length = 64) : ∀ n, OkR (wrG writeR R k f n).1
  | 0 => h
  | n + 1 => by
    have ih := okR_wrG h k hf n
    simp only [wrG]
    split
    · exact okR_write ih _ (hf n)
    · exact ih
theorem anewR_len {R : Rv} (hok : OkR R) (g : Int) (half size : Nat) (es : List (List UInt8)) : (anewG writeR flushR R g half size es).1.sure.length = R.sure.length :=
  anewG_lenR hok g half size es (fun S h => lenFR h.ll) (fun k f n S h hf => okR_wrG h k hf n) (fun S h => okR_flush h)
set_option maxRecDepth 100000 in
set_option maxHeartbeats 8000000 in
theorem rcompact_calls (h : RLgAt w base b x sb lb tb Z R L) (hZ : ∀ i, w.heap.size ≤ i → Z i) {es : List (List UInt8)} {xv : Value} (hx : ListsIn w (FrZ b x sb lb tb Z) xv es) :
    Calls Try.prog 30 #[.pointer (some ⟨b, 0, none⟩), xv] w fun e w' => e = .returned (.int .i64 (compactG writeR flushR R L (szR R) es).2.2) ∧
      RLgAt w' base b x sb lb tb Z (compactG writeR flushR R L (szR R) es).1 (compactG writeR flushR R L (szR R) es).2.1 ∧ RLev b x sb lb tb w w' := by
  obtain ⟨Ax, cx, rfl, hcx1, hcx2⟩ := hx.form
  unfold maxLen at hcx2
  obtain ⟨lv, l1, l2⟩ := h.lg
  have h4 := h.len
  have y5 := l1.cell (j := 5) (v := .bool L.fin) rfl
  have CS := Lib.hid (rsize_calls h.dv (by omega) (l1.cell (j := 0) (v := .pointer (some ⟨x, 0, none⟩)) rfl))
  have hz : szR R ≤ 8191 := by have := h.dv.len; unfold szR; omega
  have HLA := Lib.hid hx.at_
  have HH := Lib.hid h
  have HX := Lib.hid hx
  have HO := Lib.hid l1
  have HL2 := Lib.hid l2
  obtain ⟨C, hC⟩ : ∃ C, C = compactG writeR flushR R L (szR R) es := ⟨_, rfl⟩
  rw [← hC]
  have HC := Lib.hid hC
  obtain ⟨sz, hsz⟩ : ∃ sz, sz = szR R := ⟨_, rfl⟩
  rw [← hsz] at hz CS
  have HSZ := Lib.hid hsz
  clear h hx l1 l2 hC hsz
  go_enter Try.func30, Try.ntmps30
  go_wp2_with fail
  go_loop [6] (fun i => ∃ k : Nat, k ≤ es.length ∧ i = .int .i64 k ∧ ∀ j (h : j < es.length), j < k → es[j].length ≤ 65536) (fun i => es.length - (intOf i).toNat)
  case atStart => exact ⟨0, by omega, rfl, fun j _ hj => by omega⟩
  case round =>
    obtain ⟨k, hk, rfl, hN⟩ := hrel
    have HN := Lib.hid hN
    clear hN
    by_cases hlt : k < es.length
    · have hd : decide (k < es.length) = true := by simpa using hlt
      have hd' : decide ((k : Int) < (es.length : Int)) = true := by simp; omega
      obtain ⟨ab, ao, v, rfl, hab, hck, hv⟩ := HLA.out.cellAt hlt
      obtain ⟨A1, c1, rfl, -⟩ := hv.form
      have hq : ∃ q, es[k].length = q := ⟨_, rfl⟩
      obtain ⟨q, hq⟩ := hq
      rw [hq] at hck
      have HQ := Lib.hid hq
      clear hv hq
      by_cases hbig : 65536 < q
      · have hd2 : decide ((q : Int) > 65536) = true := by simp; omega
        have e : C = (R, L, 3) := by
          rw [HC.out]
          unfold compactG
          rw [if_pos (List.any_eq_true.2 ⟨es[k], List.getElem_mem hlt, by rw [HQ.out]; simpa using hbig⟩)]
        have E := Lib.hid e
        clear e hbig
        go_wp2
        go_ret
        rw [E.out]
        exact ⟨rfl, HH.out, RLev.refl _⟩
      · have hd2 : decide ((q : Int) > 65536) = false := by simp; omega
        go_wp2
        go_round
        case rel => exact ⟨k + 1, by omega, by go_num, fun j h hj => by
          rcases Nat.lt_or_ge j k with h1 | h1
          · exact HN.out j h h1
          · obtain rfl : j = k := by omega
            have := HQ.out
            omega⟩
        case measure => simp [intOf]; omega
    · obtain rfl : k = es.length := by omega
      have hd : decide (es.length < es.length) = false := by simp
      have hd' : decide ((es.length : Int) < (es.length : Int)) = false := by simp
      have HLO := Lib.hid (show ∀ e ∈ es, e.length ≤ 65536 from fun e he => by
        obtain ⟨j, hj, rfl⟩ := List.getElem_of_mem he
        exact HN.out j hj hj)
      have HC2 := Lib.hid (show C = if (strm es).length > 63 * sz then (R, L, 2) else if L.fin then (R, L, 30) else ((anewG writeR flushR R L.g L.half sz es).1, anewL L es (anewG writeR flushR R L.g L.half sz es).2, (anewG writeR flushR R L.g L.half sz es).2) by
        rw [HC.out]
        unfold compactG
        rw [if_neg (by
          intro h
          obtain ⟨e, he, h2⟩ := List.any_eq_true.1 h
          have := HLO.out e he
          simp only [gt_iff_lt, decide_eq_true_eq] at h2
          omega), HSZ.out])
      clear HN HC
      go_wp2_with fail
      go_loop [5, 7] (fun n i => ∃ (k m : Nat), k ≤ es.length ∧ i = .int .i64 k ∧ m = (strm (es.take k)).length ∧ m ≤ 63 * sz ∧ n = .int .i64 m) (fun _ i => es.length - (intOf i).toNat)
      case atStart => exact ⟨0, 0, by omega, rfl, rfl, by omega, rfl⟩
      case round =>
        obtain ⟨k, m, hk, rfl, hm, hmz, rfl⟩ := hrel
        by_cases hlt : k < es.length
        · have hd : decide (k < es.length) = true := by simpa using hlt
          have hd' : decide ((k : Int) < (es.length : Int)) = true := by simp; omega
          obtain ⟨ab, ao, v, rfl, hab, hck, hv⟩ := HLA.out.cellAt hlt
          obtain ⟨A1, c1, rfl, -⟩ := hv.form
          have hq : ∃ q, es[k].length = q := ⟨_, rfl⟩
          obtain ⟨q, hq⟩ := hq
          have hstep := strm_take es k hlt
          have hsp := strm_split es (k + 1)
          rw [← hm, hq] at hstep
          rw [hq] at hck
          have hqb : q ≤ 65536 := by rw [← hq]; exact HLO.out _ (List.getElem_mem hlt)
          have HST := Lib.hid hstep
          have HSP := Lib.hid hsp
          clear hv hq hm hstep hsp
          have hmb : m ≤ 600000 := by omega
          by_cases hfit : m + (3 + q) ≤ 63 * sz
          · have hd2 : decide ((m : Int) + 3 + (q : Int) > 63 * (sz : Int)) = false := by simp; omega
            go_wp2_with fail
            refine CS.out.mono ?_
            rintro e w' ⟨rfl, rfl⟩
            go_wp2
            go_round
            case rel => exact ⟨k + 1, m + (3 + q), by omega, by go_num, HST.out.symm, hfit, by go_num⟩
            case measure => simp [intOf]; omega
          · have hd2 : decide ((m : Int) + 3 + (q : Int) > 63 * (sz : Int)) = true := by simp; omega
            have e : C = (R, L, 2) := by
              rw [HC2.out, if_pos (by have h1 := HST.out; have h2 := HSP.out; omega)]
            have E := Lib.hid e
            clear e
            go_wp2_with fail
            refine CS.out.mono ?_
            rintro e w' ⟨rfl, rfl⟩
            go_wp2
            go_ret
            rw [E.out]
            exact ⟨rfl, HH.out, RLev.refl _⟩
        · obtain rfl : k = es.length := by omega
          rw [List.take_length] at hm
          have hc := HC2.out
          rw [if_neg (by omega)] at hc
          have hfit : (strm es).length ≤ 63 * sz := by omega
          have HFIT := Lib.hid hfit
          have HM := Lib.hid hm
          clear hm hfit
          cases hfin : L.fin with
          | true =>
            rw [hfin] at y5 hc
            have E := Lib.hid (show C = (R, L, 30) from hc)
            clear hc hfin
            go_wp2
            go_ret
            rw [E.out]
            exact ⟨rfl, HH.out, RLev.refl _⟩
          | false =>
            rw [hfin] at y5 hc
            rw [if_neg (by simp)] at hc
            have E := Lib.hid hc
            have hh := HH.out
            have cA := ranew_calls hh.dv h4 HO.out hh.ne hZ HL2.out hh.ok.hf HX.out HLO.out (by rw [← HSZ.out]; exact HFIT.out)
            rw [← HSZ.out] at cA
            have hlr := anewR_len hh.dv.ok L.g L.half sz es
            have hokn := fun e => hh.ok.anew (es := es) (by rw [← HSZ.out]; exact HFIT.out) HLO.out e
            generalize anewG writeR flushR R L.g L.half sz es = r at *
            have CA := Lib.hid cA
            have HLR := Lib.hid hlr
            have HOKN := Lib.hid hokn
            clear cA hlr hc hfin hh hokn
            go_wp2_with fail
            refine CA.out.mono ?_
            rintro e W3 ⟨rfl, hD3, ⟨lv3, hO3, hL3⟩, hK3⟩
            have HD3 := Lib.hid hD3
            have HO3 := Lib.hid hO3
            have HL3 := Lib.hid hL3
            have HK3 := Lib.hid hK3
            clear hD3 hO3 hL3 hK3 CA
            go_wp2
            go_ret
            rw [E.out]
            refine ⟨rfl, ⟨HD3.out, by show 4 ≤ r.1.sure.length; rw [HLR.out]; exact h4, ⟨lv3, HO3.out, HL3.out⟩, HH.out.ne, HH.out.lo, ?_⟩, HK3.out⟩
            rw [szR_len HLR.out]
            exact HOKN.out _
end
end Wa
end Go.Proofs.Yteiniahikhiadaa
