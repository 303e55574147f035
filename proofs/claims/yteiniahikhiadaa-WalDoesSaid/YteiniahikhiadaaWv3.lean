/-
  the document's log: Open.
  arguments opened: the calls of the laws of logs.
  the law Does of logs: large, looks, same.
  the law Does of logs: looks.
  the law Does of logs: same.
-/
import Derived.Test.YteiniahikhiadaaWv2
import Derived.Test.YteiniahikhiadaaWr1
import Derived.Test.YteiniahikhiadaaWv1

set_option linter.unusedVariables false
set_option linter.unusedSimpArgs false
namespace Go.Proofs.Yteiniahikhiadaa
open Go.RowKit Go.Maps
namespace Wa
open Ce Se
def lastR (R : Rv) (i : Nat) : Blk := R.last.getD i []
/-- the document's Open, in plain words -/
def openR (R : Rv) : Rv × Option Lg × Int := openG writeR flushR lastR offR R.sure.length R
/-- the head that counts, so far -/
def pk (last : Nat → Blk) : Nat → Int × Nat
  | 0 => (0, 1)
  | k + 1 => if (isHd (last k) k).1 > (pk last k).1 then isHd (last k) k else pk last k
theorem pk_two (last : Nat → Blk) : pk last 2 = findG last := by
  unfold findG
  rfl
section
variable {w w' : World} {base b x sb lb tb : Nat} {R R' : Rv} {L : Lg} {Z : Nat → Prop}
theorem rv_lcell (h : RvAt w base x sb lb tb R) {i j : Nat} (hi : i < R.sure.length) (hj : j < 64) : w.cell? ⟨lb, i * 64 + j, none⟩ = some (.int .u8 (((lastR R i).getD j 0).toNat : Int)) := by
  have hll := h.ok.ll
  have hl : (lastR R i).length = 64 := last_len h.ok hi
  have h1 := h.last.at_ i (by omega) j
  have e : lastR R i = R.last[i]'(by omega) := by unfold lastR; rw [List.getD_eq_getElem?_getD, List.getElem?_eq_getElem (by omega)]; rfl
  rw [← e] at h1
  exact h1 _ (bytesV_getD (by omega))
theorem rv_blk (h : RvAt w base x sb lb tb R) {i : Nat} (hi : i < R.sure.length) : BytesAt w 0 w.heap.size (.slice (some ⟨lb, i * 64, none⟩) 64 64) (lastR R i) := by
  have hl : (lastR R i).length = 64 := last_len h.ok hi
  unfold BytesAt
  rw [hl]
  refine ⟨by rw [bytesV_length, hl], _, _, rfl, Nat.le_refl _, by unfold maxLen; omega, fun _ => ⟨lb, i * 64, rfl, Nat.zero_le _, h.last.lt, fun j hj => ?_⟩⟩
  rw [rv_lcell h hi (by omega), bytesV_getD (by omega)]
theorem rv_blks (h : RvAt w base x sb lb tb R) (from_ n : Nat) (hn : from_ + n ≤ R.sure.length) : BlksAt w lb (from_ * 64) ((List.range n).map fun i => lastR R (from_ + i)) := by
  refine ⟨h.last.lt, fun k hk j hj => ?_⟩
  rw [List.length_map, List.length_range] at hk
  rw [show from_ * 64 + k * 64 + j = (from_ + k) * 64 + j by omega, rv_lcell h (by omega) hj]
  simp
set_option maxRecDepth 100000 in
theorem ropen_arg (h : RvAt w base x sb lb tb R) (h4 : R.sure.length < 4) :
    Calls Try.prog 26 #[.pointer (some ⟨x, 0, none⟩)] w fun e w' => e = .returned (.tuple #[.pointer none, .int .i64 1]) ∧ w = w' := by
  obtain ⟨y0, -⟩ := h.cells
  have hd4 : decide ((R.sure.length : Int) < 4) = true := by simp; omega
  have hd4' : decide (R.sure.length < 4) = true := by simp; omega
  generalize R.sure.length = n at *
  clear h
  go_enter Try.func26, Try.ntmps26
  go_wp2
  go_ret2
  exact ⟨rfl, rfl⟩
set_option maxRecDepth 100000 in
theorem ropen_off (h : RvAt w base x sb lb tb R) (h4 : 4 ≤ R.sure.length) (ho : offR R = true) :
    Calls Try.prog 26 #[.pointer (some ⟨x, 0, none⟩)] w fun e w' => e = .returned (.tuple #[.pointer none, .int .i64 30]) ∧ w = w' := by
  obtain ⟨y0, -⟩ := h.cells
  have cO := roff_calls h
  rw [ho] at cO
  have CO := Lib.hid cO
  have hd4 : decide ((R.sure.length : Int) < 4) = false := by simp; omega
  have hd4' : decide (R.sure.length < 4) = false := by simp; omega
  generalize R.sure.length = n at *
  clear h cO
  go_enter Try.func26, Try.ntmps26
  go_wp2_with fail
  refine CO.out.mono ?_
  rintro e W ⟨rfl, rfl⟩
  go_wp2
  go_ret2
  exact ⟨rfl, rfl⟩
set_option maxRecDepth 100000 in
set_option maxHeartbeats 8000000 in
theorem ropen_good (h : RvAt w base x sb lb tb R) (hZ : ∀ i, w.heap.size ≤ i → Z i) (h4 : 4 ≤ R.sure.length) (ho : offR R = false) {r : Rv × Int} (hr : r = anewG writeR flushR R (findG (lastR R)).1 (findG (lastR R)).2 (szR R) (foundG (lastR R) (szR R))) :
    Calls Try.prog 26 #[.pointer (some ⟨x, 0, none⟩)] w fun e w' => RvAt w' base x sb lb tb r.1 ∧ Rev x sb lb tb w w' ∧
      (r.2 ≠ 0 → e = .returned (.tuple #[.pointer none, .int .i64 r.2])) ∧
      (r.2 = 0 → e = .returned (.tuple #[.pointer (some ⟨w.heap.size, 0, none⟩), .int .i64 0]) ∧ RLgAt w' base w.heap.size x sb lb tb Z r.1 ⟨wrap64 ((findG (lastR R)).1 + 1), 1 - (findG (lastR R)).2, foundG (lastR R) (szR R), (foundG (lastR R) (szR R)).length, false⟩) := by
  have hmx : Try.prog.follows .mixedOrders = true := by kernel_rfl
  obtain ⟨y0, -⟩ := h.cells
  have CO := Lib.hid (roff_calls h)
  rw [ho] at CO
  have hlen := h.len
  have hxl := h.ob.lt
  have hsl := h.sure.lt
  have hll := h.last.lt
  have htl := h.dirty.lt
  have hlo := h.lo
  have HDV := Lib.hid h
  have hd4 : decide ((R.sure.length : Int) < 4) = false := by simp; omega
  have hd4' : decide (R.sure.length < 4) = false := by simp; omega
  have HR := Lib.hid hr
  have hnn : ∃ n, R.sure.length = n := ⟨_, rfl⟩
  obtain ⟨n, hn⟩ := hnn
  rw [hn] at y0 hlen h4 hd4 hd4'
  have HN := Lib.hid hn
  have e0 : Ob (w.alloc (.cells #[.pointer (some ⟨x, 0, none⟩), .int .i64 0, .int .i64 1, .slice none 0 0, .int .i64 0, .bool false] 100)) w.heap.size 100 (rlgC x ⟨(pk (lastR R) 0).1, (pk (lastR R) 0).2, [], 0, false⟩ (.slice none 0 0)) := Ob.new w 100 #[.pointer (some ⟨x, 0, none⟩), .int .i64 0, .int .i64 1, .slice none 0 0, .int .i64 0, .bool false]
  have hB := (Below.refl w.heap.size w).alloc (Nat.le_refl _) (.cells #[.pointer (some ⟨x, 0, none⟩), .int .i64 0, .int .i64 1, .slice none 0 0, .int .i64 0, .bool false] 100)
  clear h hr ho hn
  go_enter Try.func26, Try.ntmps26
  go_wp2_with fail
  refine CO.out.mono ?_
  rintro e W ⟨rfl, rfl⟩
  go_wp2_with fail
  generalize w.alloc (.cells #[.pointer (some ⟨x, 0, none⟩), .int .i64 0, .int .i64 1, .slice none 0 0, .int .i64 0, .bool false] 100) = W1 at *
  have HE0 := Lib.hid e0
  have HB1 := Lib.hid hB
  clear e0 hB CO
  obtain ⟨ls, hls⟩ : ∃ ls, ls = lastR R := ⟨_, rfl⟩
  have HLS := Lib.hid hls
  rw [← hls] at HE0 HR
  clear hls
  go_loopw [5, 6, 7] (fun i _ _ wr => ∃ k : Nat, k ≤ 2 ∧ i = .int .i64 k ∧ Ob wr w.heap.size 100 (rlgC x ⟨(pk ls k).1, (pk ls k).2, [], 0, false⟩ (.slice none 0 0)) ∧ Below w.heap.size w wr) (fun i _ _ _ => 2 - (intOf i).toNat)
  case atStart => exact ⟨0, by omega, rfl, HE0.out, HB1.out⟩
  case round =>
    obtain ⟨k, hk, rfl, hO, hB⟩ := hrel
    by_cases hlt : k < 2
    · have hd : decide ((k : Int) < 2) = true := by simp; omega
      have hDw := HDV.out.kept (Kept.of_below (Fr := fun i => i < w.heap.size) hB fun i hi => hi) hxl hsl hll htl
      have y1 := hDw.cells.2.1
      rw [HN.out] at y1
      have hI := rv_blk hDw (i := k) (by rw [HN.out]; omega)
      rw [← HLS.out] at hI
      have hl64 : (ls k).length = 64 := by rw [HLS.out]; exact last_len HDV.out.ok (by rw [HN.out]; omega)
      have CI := Lib.hid (rishead_calls (ls k) hl64 k _ wr hI)
      have HPK := Lib.hid (show pk ls (k + 1) = if (isHd (ls k) k).1 > (pk ls k).1 then isHd (ls k) k else pk ls k from rfl)
      have HO := Lib.hid hO
      have HB := Lib.hid hB
      have hkn : (k : Int) < (n : Int) := by omega
      generalize isHd (ls k) k = ih at *
      clear hDw hI hl64 hO hB
      have hbl : w.heap.size < wr.heap.size := HO.out.lt
      go_wp2_with fail
      refine CI.out.mono ?_
      rintro e W2 ⟨rfl, hb2⟩
      have hO2 := HO.out.same hb2
      have hB2 := HB.out.trans (hb2.mono HB.out.size)
      have y1 := hO2.cell (j := 1) (v := .int .i64 (pk ls k).1) rfl
      have y2 := hO2.cell (j := 2) (v := .int .i64 ((pk ls k).2 : Nat)) rfl
      have f1 := hO2.frozen 1
      have f2 := hO2.frozen 2
      have HO2 := Lib.hid hO2
      have HB2 := Lib.hid hB2
      clear hO2 hB2 HO HB CI hb2
      generalize pk ls k = p at *
      by_cases hg : ih.1 > p.1
      · have hd2 : decide (ih.1 > p.1) = true := by simpa using hg
        have HP := Lib.hid (HPK.out.trans (if_pos hg))
        clear hg HPK
        go_wp2
        go_roundw
        case rel =>
          refine ⟨k + 1, by omega, by go_num, ?_, ?_⟩
          · rw [HP.out]
            exact (HO2.out.set 1 _).set 2 _
          · exact (HB2.out.trans ((Below.refl w.heap.size W2).grown (grownBy_set W2 w.heap.size 1 _) HB2.out.size (fun r e => by cases e; exact Nat.le_refl _))).trans ((Below.refl w.heap.size _).grown (grownBy_set _ w.heap.size 2 _) (by rw [size_cell]; exact HB2.out.size) (fun r e => by cases e; exact Nat.le_refl _))
        case measure => simp [intOf]; omega
      · have hd2 : decide (ih.1 > p.1) = false := by simpa using hg
        have HP := Lib.hid (HPK.out.trans (if_neg hg))
        clear hg HPK
        go_wp2
        go_roundw
        case rel => exact ⟨k + 1, by omega, by go_num, by rw [HP.out]; exact HO2.out, HB2.out⟩
        case measure => simp [intOf]; omega
    · obtain rfl : k = 2 := by omega
      have hd : decide (((2 : Nat) : Int) < 2) = false := by simp
      rw [pk_two] at hO
      have hbd := findG_bd ls
      have HFO := Lib.hid (show foundG ls (szR R) = if (findG ls).1 = 0 then [] else entP (strmOf ((List.range (szR R)).map fun i => ls (2 + (findG ls).2 * szR R + i))) from rfl)
      have HFF := Lib.hid (foundG_fits ls (szR R))
      have hDw := HDV.out.kept (Kept.of_below (Fr := fun i => i < w.heap.size) hB fun i hi => hi) hxl hsl hll htl
      have hz : szR R = (n - 2) / 2 := by unfold szR; rw [HN.out]
      generalize hp : findG ls = p at *
      generalize hfo : foundG ls (szR R) = found at *
      have HPE := Lib.hid hp
      have HFOE := Lib.hid hfo
      clear hp hfo
      have y1 := hO.cell (j := 1) (v := .int .i64 p.1) rfl
      have HO := Lib.hid hO
      have HB := Lib.hid hB
      have HD := Lib.hid hDw
      have hbl := hO.lt
      have hfr : ∀ i, w.heap.size < i → FrZ w.heap.size x sb lb tb Z i := fun i hi => ⟨⟨by omega, by omega, by omega, by omega, by omega⟩, hZ i (by omega)⟩
      have HFR := Lib.hid hfr
      clear hO hB hDw hfr hk hlt
      go_upto_if 56 with (fail)
      generalize hq : decide (0 < p.1) = q
      have HQ := Lib.hid hq
      clear hq
      go_cut [8, 9] (fun fv _ V => ListsIn V (FrZ w.heap.size x sb lb tb Z) fv found ∧ Ob V w.heap.size 100 (rlgC x ⟨p.1, p.2, [], 0, false⟩ (.slice none 0 0)) ∧ Below w.heap.size w V)
      case first =>
        cases q with
        | false =>
          have HF := Lib.hid (HFO.out.trans (if_pos (by have := HQ.out; simp at this; omega)))
          go_wp2
          go_meet
          case rel => exact ⟨by rw [HF.out]; exact ListsIn.nil _ _, HO.out, HB.out⟩
        | true =>
          have HF := Lib.hid (HFO.out.trans (if_neg (by have := HQ.out; simp at this; omega)))
          clear HFO
          have hdr := (Below.refl wr.heap.size wr).drew
          obtain ⟨sz, hsz⟩ : ∃ sz, sz = szR R := ⟨_, rfl⟩
          rw [← hsz] at hz
          have hbs : (List.range sz).map (fun i => ls (2 + p.2 * sz + i)) = (List.range sz).map (fun i => lastR R (2 + p.2 * sz + i)) := by rw [HLS.out]
          obtain ⟨fr, hfr⟩ : ∃ fr : Nat, 2 + p.2 * sz = fr := ⟨_, rfl⟩
          have hfrI : (2 : Int) + (p.2 : Int) * (sz : Int) = (fr : Int) := by rw [← hfr]; simp
          have hfn : fr + sz ≤ n := by
            have h1 : p.2 * sz ≤ 1 * sz := Nat.mul_le_mul_right _ hbd.2
            omega
          have hsz1 : 1 ≤ sz := by omega
          rw [← hsz, hfr] at HF
          rw [hfr] at hbs
          have hm0 : 0 ≤ (p.2 : Int) * (sz : Int) := by
            have : (p.2 : Int) * (sz : Int) = ((p.2 * sz : Nat) : Int) := by simp
            omega
          have hm1 : (p.2 : Int) * (sz : Int) ≤ 8191 := by
            have h1 : p.2 * sz ≤ 1 * sz := Nat.mul_le_mul_right _ hbd.2
            have : (p.2 : Int) * (sz : Int) = ((p.2 * sz : Nat) : Int) := by simp
            omega
          have hOd := HO.out.same hdr
          have hDd := HD.out.same hdr
          have hBd := HB.out.trans (hdr.mono (by omega))
          have CS := rsize_calls hDd (by rw [HN.out]; omega) (hOd.cell (j := 0) (v := .pointer (some ⟨x, 0, none⟩)) rfl)
          rw [← hsz] at CS
          replace CS := Lib.hid CS
          have hc2 := hOd.cell (j := 2) (v := .int .i64 (p.2 : Nat)) rfl
          have HFRI := Lib.hid hfrI
          have HSZ := Lib.hid hsz
          have HBS := Lib.hid hbs
          have HOd := Lib.hid hOd
          have HDd := Lib.hid hDd
          have HBd := Lib.hid hBd
          have hzn : sz ≤ 8191 := by omega
          have hwd := hdr.size
          clear hfrI hsz hbs hfr hOd hDd hBd hz
          obtain ⟨Wd, hWd⟩ : ∃ Wd, wr.drew = Wd := ⟨_, rfl⟩
          rw [hWd] at CS hc2 HOd HDd HBd hwd hdr
          have HWD := Lib.hid hWd
          clear hWd
          go_wp2_with fail
          refine Pu.regionM [(0, false), (1, false), (2, false), (3, false), (4, false), (5, false), (6, false), (7, false), (8, false)] (fun V => V = Wd) hmx (by kernel_rfl) (by kernel_rfl) (by kernel_rfl) HWD.out rfl ?_
          simp only [Pu.named, List.filterMap_cons, List.filterMap_nil, List.getElem?_toArray, List.getElem?_cons_succ, List.getElem?_cons_zero, Option.map_some]
          iterate 5 (apply Pu.WalkM.on (by rfl)
                     · rintro V rfl
                       go_wp2_with fail
                       refine ⟨rfl, ?_, rfl⟩
                       try simp only [Act.put, List.setIfInBounds_toArray, List.set_cons_succ, List.set_cons_zero]
                       rfl
                     simp only [Act.put, List.setIfInBounds_toArray, List.set_cons_succ, List.set_cons_zero])
          iterate 1 (apply Pu.WalkM.on (by rfl)
                     · rintro V rfl
                       go_wp2_with (go_at_call 60; refine CS.out.mono ?_; rintro e W1 ⟨rfl, rfl⟩)
                       refine ⟨rfl, ?_, rfl⟩
                       try simp only [Act.put, List.setIfInBounds_toArray, List.set_cons_succ, List.set_cons_zero]
                       rfl
                     simp only [Act.put, List.setIfInBounds_toArray, List.set_cons_succ, List.set_cons_zero])
          iterate 3 (apply Pu.WalkM.on (by rfl)
                     · rintro V rfl
                       go_wp2_with fail
                       refine ⟨rfl, ?_, rfl⟩
                       try simp only [Act.put, List.setIfInBounds_toArray, List.set_cons_succ, List.set_cons_zero]
                       rfl
                     simp only [Act.put, List.setIfInBounds_toArray, List.set_cons_succ, List.set_cons_zero])
          refine Pu.WalkM.nil ?_
          rintro V hV
          rw [HWD.out] at hV
          subst hV
          rw [HFRI.out]
          clear hm0 hm1 hc2 hdr hwd CS HFRI HWD
          have hdr := (Below.refl V.heap.size V).drew
          obtain ⟨W0, hW0⟩ : ∃ W0, V.drew = W0 := ⟨_, rfl⟩
          rw [hW0] at hdr
          have hO0 := HOd.out.same hdr
          have hD0 := HDd.out.same hdr
          have hB0 := HBd.out.trans (hdr.mono HBd.out.size)
          have HB0 := Lib.hid hB0
          have CS := Lib.hid (fun (W : World) (hW : Below W0.heap.size W0 W) => rsize_calls (hD0.same hW) (by rw [HN.out]; omega) ((hO0.same hW).cell (j := 0) (v := .pointer (some ⟨x, 0, none⟩)) rfl))
          rw [← HSZ.out] at CS
          have HC1 := Lib.hid (fun (W : World) (hW : Below W0.heap.size W0 W) => show W.cell? ⟨x, 1, none⟩ = some (.slice (some ⟨lb, 0, none⟩) n n) by have := (hD0.same hW).cells.2.1; rwa [HN.out] at this)
          have HBL := Lib.hid (rv_blks hD0 fr sz (by rw [HN.out]; exact hfn))
          have HO0 := Lib.hid hO0
          have HD0 := Lib.hid hD0
          have HW0 := Lib.hid hW0
          have hbl0 := hO0.lt
          have n1 : (0 : Int) ≤ (fr : Int) := by omega
          have n2 : (fr : Int) ≤ (fr : Int) + (sz : Int) := by omega
          have n3 : (fr : Int) + (sz : Int) ≤ (n : Int) := by omega
          have n4 : ¬ n = fr := by omega
          have n5 : fr ≤ 16384 := by omega
          have hBr : Below W0.heap.size W0 V.drew := by rw [hW0]; exact Below.refl _ _
          clear hdr hO0 hD0 hB0 HOd HDd HBd hW0
          go_wp2_with fail
          refine Pu.regionM [(0, false), (1, false), (2, false), (3, false), (4, false), (5, false), (6, false), (7, false), (8, false), (9, false), (10, true), (11, true), (12, false)] (fun U => Below W0.heap.size W0 U) hmx (by kernel_rfl) (by kernel_rfl) (by kernel_rfl) hBr rfl ?_
          simp only [Pu.named, List.filterMap_cons, List.filterMap_nil, List.getElem?_toArray, List.getElem?_cons_succ, List.getElem?_cons_zero, Option.map_some]
          iterate 7 (apply Pu.WalkM.on (by rfl)
                     · rintro V hV
                       have hc1 := HC1.out V hV
                       go_wp2_with fail
                       refine ⟨rfl, ?_, rfl⟩
                       try simp only [Act.put, List.setIfInBounds_toArray, List.set_cons_succ, List.set_cons_zero]
                       rfl
                     simp only [Act.put, List.setIfInBounds_toArray, List.set_cons_succ, List.set_cons_zero])
          iterate 1 (apply Pu.WalkM.on (by rfl)
                     · rintro V hV
                       have cS := CS.out V hV
                       go_wp2_with (go_at_call 60; refine cS.mono ?_; rintro e W1 ⟨rfl, rfl⟩)
                       refine ⟨rfl, ?_, rfl⟩
                       try simp only [Act.put, List.setIfInBounds_toArray, List.set_cons_succ, List.set_cons_zero]
                       rfl
                     simp only [Act.put, List.setIfInBounds_toArray, List.set_cons_succ, List.set_cons_zero])
          iterate 1 (apply Pu.WalkM.on (by rfl)
                     · rintro V hV
                       go_wp2_with fail
                       refine ⟨rfl, ?_, rfl⟩
                       try simp only [Act.put, List.setIfInBounds_toArray, List.set_cons_succ, List.set_cons_zero]
                       rfl
                     simp only [Act.put, List.setIfInBounds_toArray, List.set_cons_succ, List.set_cons_zero])
          iterate 1 (apply Pu.WalkM.on (by rfl)
                     · rintro V hV
                       go_wp2_with fail
                       refine ⟨rfl, ?_, rfl⟩
                       try simp only [Act.put, List.setIfInBounds_toArray, List.set_cons_succ, List.set_cons_zero]
                       rfl
                     simp only [Act.put, List.setIfInBounds_toArray, List.set_cons_succ, List.set_cons_zero])
          refine Pu.WalkM.make (by rfl) ?_
          rintro U hU
          rw [HW0.out] at hU
          subst hU
          go_wp2_with fail
          have hbn : ((List.range sz).map (fun i => lastR R (fr + i))).length = sz := by simp
          have h64 : ∀ k (h : k < ((List.range sz).map (fun i => lastR R (fr + i))).length), ((List.range sz).map (fun i => lastR R (fr + i)))[k].length = 64 := fun k hk => by
            rw [hbn] at hk
            simp only [List.getElem_map, List.getElem_range]
            exact last_len HDV.out.ok (by rw [HN.out]; omega)
          have hfe := HF.out
          rw [HBS.out] at hfe
          have hbl := HBL.out
          generalize (List.range sz).map (fun i => lastR R (fr + i)) = bs at *
          have cS := rstream_calls bs lb (fr * 64) (n - fr) U hbl h64 (by omega) (by unfold maxLen; omega) (by omega)
          rw [hbn] at cS
          have hsl := strmOf_len bs
          generalize strmOf bs = S at *
          have CST := Lib.hid cS
          have HFE := Lib.hid hfe
          have hS6 : S.length ≤ 600000 := by omega
          clear cS hfe hbl h64 hsl hbn HBS HBL HF
          refine CST.out.mono ?_
          rintro e W1 ⟨⟨v1, rfl, hv1⟩, hb1⟩
          obtain ⟨A1, c1, rfl, -⟩ := (BytesAt.of_own hv1).form
          have CE := Lib.hid (rentries_calls S _ W1 U.heap.size W1.heap.size (BytesAt.of_own hv1) (Nat.le_refl _) hS6)
          rw [← HFE.out] at CE
          have hs1 := hb1.size
          clear hv1 CST
          go_wp2_with fail
          refine ⟨rfl, .slice A1 S.length c1, (fun V => Below U.heap.size U V), (fun V => V = W1), ?_, rfl, (fun V h => by rw [h]; exact hb1), (.inr (fun _ h => h)), ?_⟩
          · try simp only [Act.put, List.setIfInBounds_toArray, List.set_cons_succ, List.set_cons_zero]
            try rfl
          simp only [Act.put, List.setIfInBounds_toArray, List.set_cons_succ, List.set_cons_zero]
          refine Pu.WalkM.make (by rfl) ?_
          rintro V1 rfl
          go_wp2_with fail
          refine CE.out.mono ?_
          rintro e W2 ⟨⟨ev, vs, rfl, hrow, hEn⟩, hb2⟩
          have hs2 := hb2.size
          have hvl := hEn.len
          rw [hvl] at hrow
          obtain ⟨A2, c2, rfl, -⟩ := (Sl.of_own hrow).at_
          have hb12 := hb1.trans (hb2.mono hs1)
          have hLf : ListsIn W2 (FrZ w.heap.size x sb lb tb Z) (.slice A2 found.length c2) found :=
            ⟨V1.heap.size, W2.heap.size, vs, Sl.of_own hrow, Nat.le_refl _, fun i a c => HFR.out i (by omega), hEn.mono fun i hi => HFR.out i (by omega)⟩
          have HLf := Lib.hid hLf
          have HO2 := Lib.hid (HO0.out.same hb12)
          have HB2 := Lib.hid (HB0.out.trans (hb12.mono HB0.out.size))
          clear hrow hEn hLf CE
          go_wp2_with fail
          refine ⟨rfl, .slice A2 found.length c2, (fun V => V = W2), (fun V => V = W2), ?_, rfl, (fun _ h => h), (.inr (fun V h => by rw [h]; exact hb12)), ?_⟩
          · try simp only [Act.put, List.setIfInBounds_toArray, List.set_cons_succ, List.set_cons_zero]
            try rfl
          simp only [Act.put, List.setIfInBounds_toArray, List.set_cons_succ, List.set_cons_zero]
          iterate 1 (apply Pu.WalkM.on (by rfl)
                     · rintro V hV
                       rw [hV]
                       go_wp2_with fail
                       refine ⟨rfl, ?_, rfl⟩
                       try simp only [Act.put, List.setIfInBounds_toArray, List.set_cons_succ, List.set_cons_zero]
                       rfl
                     simp only [Act.put, List.setIfInBounds_toArray, List.set_cons_succ, List.set_cons_zero])
          refine Pu.WalkM.nil ?_
          rintro V rfl
          clear hb12 hb1 hb2 hs1 hs2 hvl
          go_wp2
          go_meet
          case rel => exact ⟨HLf.out, HO2.out, HB2.out⟩
      case rest =>
        obtain ⟨hL, hO, hB⟩ := hcut
        have hD := HDV.out.kept (Kept.of_below (Fr := fun i => i < w.heap.size) hB fun i hi => hi) hxl hsl hll htl
        have hne : w.heap.size ≠ x ∧ w.heap.size ≠ sb ∧ w.heap.size ≠ lb ∧ w.heap.size ≠ tb := ⟨by omega, by omega, by omega, by omega⟩
        have cA := ranew_calls (L := ⟨p.1, p.2, [], 0, false⟩) hD (by rw [HN.out]; exact h4) hO hne (fun i hi => hZ i (by have := hB.size; omega)) (ListsIn.nil _ _) hbd.2 hL HFF.out.2 HFF.out.1
        dsimp only at cA
        have hlr := anewR_len HDV.out.ok p.1 p.2 (szR R) found
        rw [← HR.out] at cA hlr
        obtain ⟨Af, cf, rfl, -⟩ := hL.form
        have HLR := Lib.hid hlr
        have CA := Lib.hid cA
        have HBc := Lib.hid hB
        have hbl := hO.lt
        clear cA hL hO hD hB hlr HO HB HD
        go_wp2_with fail
        refine CA.out.mono ?_
        rintro e W3 ⟨rfl, hD3, ⟨lv3, hO3, hL3⟩, hK3⟩
        have HD3 := Lib.hid hD3
        have HO3 := Lib.hid hO3
        have HL3 := Lib.hid hL3
        have HRev := Lib.hid (show Rev x sb lb tb w W3 from (Kept.of_below (Fr := fun i => i < w.heap.size ∧ i ≠ x ∧ i ≠ sb ∧ i ≠ lb ∧ i ≠ tb) HBc.out fun i hi => hi.1).trans (Kept.mono hK3 fun i hi => ⟨by omega, by omega, hi.2⟩))
        clear hD3 hO3 hL3 hK3 CA
        by_cases h0 : r.2 = 0
        · have hne0 : (r.2 != 0) = false := by simpa using h0
          have H0 := Lib.hid h0
          clear h0
          go_wp2
          go_ret2
          refine ⟨HD3.out, HRev.out, fun h => absurd H0.out h, fun _ => ⟨rfl, ?_⟩⟩
          have hO3 := HO3.out
          have hL3 := HL3.out
          rw [anewL_ok _ _ H0.out] at hO3 hL3
          rw [← HLS.out, HPE.out, HFOE.out]
          refine ⟨HD3.out, by rw [HLR.out, HN.out]; exact h4, ⟨lv3, hO3, hL3⟩, hne, by omega, ?_⟩
          rw [szR_len HLR.out]
          exact ⟨(wrap64_lt _).1, (wrap64_lt _).2, by dsimp only; omega, HFF.out.1, HFF.out.2, Nat.le_refl _⟩
        · have hne0 : (r.2 != 0) = true := by simpa using h0
          have H0 := Lib.hid h0
          clear h0
          go_wp2
          go_ret2
          exact ⟨HD3.out, HRev.out, fun _ => rfl, fun h => absurd h H0.out⟩
/-- the document's Open, whatever the device -/
theorem ropen_calls (h : RvAt w base x sb lb tb R) (hZ : ∀ i, w.heap.size ≤ i → Z i) :
    Calls Try.prog 26 #[.pointer (some ⟨x, 0, none⟩)] w fun e w' => ∃ pv, e = .returned (.tuple #[pv, .int .i64 (openR R).2.2]) ∧ RvAt w' base x sb lb tb (openR R).1 ∧ Rev x sb lb tb w w' ∧
      ((openR R).2.1 = none → pv = .pointer none) ∧
      (∀ L, (openR R).2.1 = some L → ∃ b, pv = .pointer (some ⟨b, 0, none⟩) ∧ RLgAt w' base b x sb lb tb Z (openR R).1 L ∧ w.heap.size ≤ b) := by
  by_cases h4 : R.sure.length < 4
  · have e : openR R = (R, none, 1) := by unfold openR openG; rw [if_pos h4]
    rw [e]
    refine (ropen_arg h h4).mono ?_
    rintro e w' ⟨rfl, rfl⟩
    exact ⟨_, rfl, h, Kept.refl _ _, fun _ => rfl, fun L hL => by cases hL⟩
  · cases ho : offR R with
    | true =>
      have e : openR R = (R, none, 30) := by unfold openR openG; rw [if_neg h4, ho]; rfl
      rw [e]
      refine (ropen_off h (by omega) ho).mono ?_
      rintro e w' ⟨rfl, rfl⟩
      exact ⟨_, rfl, h, Kept.refl _ _, fun _ => rfl, fun L hL => by cases hL⟩
    | false =>
      obtain ⟨r, hr⟩ : ∃ r, r = anewG writeR flushR R (findG (lastR R)).1 (findG (lastR R)).2 (szR R) (foundG (lastR R) (szR R)) := ⟨_, rfl⟩
      have e : openR R = if r.2 ≠ 0 then (r.1, none, r.2) else (r.1, some (anewL ⟨(findG (lastR R)).1, (findG (lastR R)).2, [], 0, true⟩ (foundG (lastR R) (szR R)) 0), 0) := by
        unfold openR openG
        rw [if_neg h4, ho, hr]
        rfl
      refine (ropen_good h hZ (by omega) ho hr).mono ?_
      rintro e' w' ⟨q1, q2, q3, q4⟩
      by_cases h0 : r.2 = 0
      · rw [if_neg (by simp [h0])] at e
        obtain ⟨rfl, o1⟩ := q4 h0
        rw [e]
        refine ⟨_, rfl, q1, q2, (fun hh => by cases hh), fun L hL => ?_⟩
        cases hL
        exact ⟨w.heap.size, rfl, o1, Nat.le_refl _⟩
      · rw [if_pos h0] at e
        rw [e]
        exact ⟨_, q3 h0, q1, q2, fun _ => rfl, fun L hL => by cases hL⟩
end
end Wa
end Go.Proofs.Yteiniahikhiadaa

namespace Go.Proofs.Yteiniahikhiadaa
open Go.ChangeShapes Go.WideShapes Go.Deep Go.RowKit Go.ChangeAt
namespace Wa
open Ce
section
variable {H : Type} {enc : TypeId × Value → H} {P : Program} {W : World} {held : Bool}
theorem mem_weightsAll {e : TypeId} : ∀ {es : List (DataW H)} {d : DataW H}, d ∈ es → ∀ n ∈ d.weights P e, n ∈ DataW.weightsAll P e es
  | d0 :: es, d, hd, n, hn => by
    simp only [DataW.weightsAll, List.mem_append]
    rcases List.mem_cons.1 hd with rfl | hd
    · exact .inl hn
    · exact .inr (mem_weightsAll hd n hn)
theorem slice_of_trodW {t e : TypeId} {C fuel : Nat} {v : Value} {x : DataW H × List MemPlace} (ht : P.underlying t = some (.slice e)) (hC : P.cellsOf e = C) (hpos : 0 < C) (hf : DataW.trod enc P W 0 (fun _ => true) held fuel t [v] = some x) :
    ∃ (A : Option Addr) (n c : Nat), v = .slice A n c ∧ n ≤ c ∧ c ≤ maxLen ∧
      (∀ i, i < n → ∃ (b o : Nat) (cs : List Value) (y : DataW H × List MemPlace) (fuel' : Nat), A = some ⟨b, o, none⟩ ∧ b < W.heap.size ∧ cs.length = C ∧ (∀ j w, cs[j]? = some w → W.cell? ⟨b, o + i * C + j, none⟩ = some w) ∧ DataW.trod enc P W 0 (fun _ => true) held fuel' e cs = some y ∧ ∀ n ∈ y.1.weights P e, n ∈ x.1.weights P t) ∧
      (0 < n → ∃ m ∈ x.1.weights P t, n * P.bytesOf e ≤ m) := by
  rcases open_slice ht hf with ⟨h1, h2⟩ | ⟨a, n, c, m, k, D, Pl, hcs, hb, hl, hm, hmm, hx, hi⟩
  · simp only [List.cons.injEq, and_true] at h1
    cases h1
    exact ⟨none, 0, 0, rfl, Nat.le_refl _, by unfold maxLen; omega, fun i hi => by omega, fun h => by omega⟩
  · simp only [List.cons.injEq, and_true] at hcs
    cases hcs
    simp only [if_true] at hmm
    subst hmm
    rw [hC] at hi
    refine ⟨some a, n, _, rfl, hl, hm, fun i hin => ?_, fun _ => ?_⟩
    · obtain ⟨cs0, hz, -⟩ := hi 0 (by omega)
      obtain ⟨_, hzl, hzt⟩ := World.cells?_some hz
      obtain ⟨w0, hw0⟩ : ∃ w, cs0[0]? = some w := ⟨_, List.getElem?_eq_getElem (by omega)⟩
      have hc0 := hzt (i := 0) hpos
      rw [hw0, Go.Deep.add_add] at hc0
      have hca := Og.cell_addr hc0
      obtain ⟨cs', hc, ht'⟩ := hi i (by omega)
      obtain ⟨_, hcl, hat⟩ := World.cells?_some hc
      obtain ⟨b, o, sp⟩ := a
      have hsp : sp = none := by
        have := hca.1
        unfold Addr.add at this
        simpa using this
      subst hsp
      refine ⟨b, o, cs', _, _, rfl, ?_, hcl, fun j w hj => ?_, ht', fun q hq => ?_⟩
      · have := hca.2
        rw [Og.addr_add] at this
        exact this
      · have hjl : j < C := by rw [← hcl]; exact (List.getElem?_eq_some_iff.1 hj).1
        have := hat (i := j) hjl
        rw [hj, Go.Deep.add_add, Og.addr_add] at this
        rw [← this]
        congr 2
        omega
      · rw [hx]
        simp only [DataW.weights, ht, List.mem_cons, List.mem_append]
        refine .inr (.inl (mem_weightsAll (d := D i) ?_ q hq))
        exact List.mem_map.2 ⟨i, List.mem_range.2 hin, rfl⟩
    · rw [hx]
      simp only [DataW.weights, ht, List.mem_cons, List.mem_append]
      refine ⟨_, .inl rfl, Nat.mul_le_mul_right _ ?_⟩
      simp
end
section
variable {H : Type} {enc : TypeId × Value → H} {W : World} {held : Bool} {fuel : Nat}
theorem bytes_bytes : Try.prog.bytesOf 5 = 1 := by kernel_rfl
theorem bytes_of_trodW {v : Value} {x : DataW H × List MemPlace} (hf : DataW.trod enc Try.prog W 0 (fun _ => true) held fuel 34 [v] = some x) (hz : ∀ n ∈ x.1.weights Try.prog 34, n ≤ reachBytes) :
    ∃ L : List UInt8, BytesAt W 0 W.heap.size v L ∧ L.length ≤ 140737488351232 := by
  obtain ⟨L, h1, h2⟩ := Og.bytes_of_trod hf
  refine ⟨L, h1, ?_⟩
  rcases h2 with ⟨-, rfl⟩ | ⟨es, sp, he, hl⟩
  · simp
  · have := hz ((es.length + sp.length) * Try.prog.bytesOf 5) (by rw [he]; simp only [DataW.weights, Try.underlying34, List.mem_cons]; exact .inl trivial)
    rw [bytes_bytes] at this
    unfold reachBytes at this
    omega
/-- a list of entries, all below B -/
def LAt (w : World) (B : Nat) (v : Value) (l : List (List UInt8)) : Prop := ∃ vals, Sl w 0 B 1 v l.length vals ∧ Ents w (fun i => i < B) vals l
theorem LAt.below {w w' : World} {B : Nat} {v : Value} {l : List (List UInt8)} (h : LAt w B v l) (hb : Below B w w') : LAt w' B v l := by
  obtain ⟨vals, h1, h2⟩ := h
  exact ⟨vals, h1.below hb, h2.kept (Kept.of_below hb fun i hi => hi)⟩
theorem LAt.up {w : World} {B B' : Nat} {v : Value} {l : List (List UInt8)} (h : LAt w B v l) (hB : B ≤ B') : LAt w B' v l := by
  obtain ⟨vals, h1, h2⟩ := h
  exact ⟨vals, h1.wide (Nat.le_refl _) hB, h2.mono fun i hi => Nat.lt_of_lt_of_le hi hB⟩
theorem LAt.form {w : World} {B : Nat} {v : Value} {l : List (List UInt8)} (h : LAt w B v l) : ∃ A c, v = .slice A l.length c ∧ l.length ≤ c ∧ c ≤ maxLen := by
  obtain ⟨vals, h1, h2⟩ := h
  obtain ⟨A, c, e, h3, h4, -⟩ := h1.at_
  exact ⟨A, c, e, h3, h4⟩
set_option maxRecDepth 100000 in
theorem lists_of_trodW {v : Value} {x : DataW H × List MemPlace} (hf : DataW.trod enc Try.prog W 0 (fun _ => true) held fuel 22 [v] = some x) (hz : ∀ n ∈ x.1.weights Try.prog 22, n ≤ reachBytes) :
    ∃ l : List (List UInt8), LAt W W.heap.size v l ∧ ∀ e ∈ l, e.length ≤ 140737488351232 := by
  obtain ⟨A, n, c, rfl, h1, h2, h3, -⟩ := slice_of_trodW Try.underlying22 (show Try.prog.cellsOf 34 = 1 by kernel_rfl) (by omega) hf
  have hel : ∀ i, i < n → ∃ q : Value × List UInt8, BytesAt W 0 W.heap.size q.1 q.2 ∧ q.2.length ≤ 140737488351232 ∧ ∃ b p, A = some ⟨b, p, none⟩ ∧ b < W.heap.size ∧ W.cell? ⟨b, p + i, none⟩ = some q.1 := by
    intro i hin
    obtain ⟨b, o, cs, y, f', ea, hbW, hcl, hat, ht, hw⟩ := h3 i hin
    obtain ⟨u, rfl⟩ : ∃ u, cs = [u] := by
      match cs, hcl with
      | [u], _ => exact ⟨u, rfl⟩
    obtain ⟨L, hL, hb⟩ := bytes_of_trodW ht (fun n hn => hz n (hw n hn))
    have hc := hat 0 _ rfl
    rw [Nat.mul_one, Nat.add_zero] at hc
    exact ⟨(u, L), hL, hb, b, o, ea, hbW, hc⟩
  obtain ⟨ps, hPn, hP⟩ := Og.list_of n _ hel
  subst hPn
  refine ⟨ps.map (·.2), ⟨ps.map (·.1), ?_, Ents.of fun p hp => ?_⟩, fun e he => ?_⟩
  · rw [List.length_map]
    refine ⟨by simp, A, c, rfl, h1, h2, fun h => ?_⟩
    obtain ⟨-, -, b, p, ea, hb, -⟩ := hP 0 h
    refine ⟨b, p, ea, Nat.zero_le _, hb, fun j hj => ?_⟩
    rw [Nat.mul_one] at hj
    obtain ⟨-, -, b', p', ea', -, hc⟩ := hP j hj
    rw [ea] at ea'
    cases ea'
    rw [hc]
    simp [hj]
  · obtain ⟨i, hi, rfl⟩ := List.getElem_of_mem hp
    exact ⟨0, W.heap.size, (hP i hi).1, Nat.le_refl _, fun _ _ h => h⟩
  · obtain ⟨p, hp, rfl⟩ := List.mem_map.1 he
    obtain ⟨i, hi, rfl⟩ := List.getElem_of_mem hp
    exact (hP i hi).2.1
/-- a call that a law of logs makes -/
structure WOp where
  kd : Int
  b : List UInt8
  l : List (List UInt8)
  keep : List Int
  i : Int
  n : Int
structure OkWOp (o : WOp) : Prop where
  kd : -9223372036854775808 ≤ o.kd ∧ o.kd ≤ 9223372036854775807
  b : o.b.length ≤ 140737488351232
  l : ∀ e ∈ o.l, e.length ≤ 140737488351232
  keep : ∀ k ∈ o.keep, -9223372036854775808 ≤ k ∧ k ≤ 9223372036854775807
  i : -9223372036854775808 ≤ o.i ∧ o.i ≤ 9223372036854775807
  n : -9223372036854775808 ≤ o.n ∧ o.n ≤ 9223372036854775807
def wopC (o : WOp) (bv lv kv : Value) : List Value := [.int .i64 o.kd, bv, lv, kv, .int .i64 o.i, .int .i64 o.n]
set_option maxRecDepth 100000 in
theorem wop_of_trod {cs : List Value} {x : DataW H × List MemPlace} (hf : DataW.trod enc Try.prog W 0 (fun _ => true) held fuel 43 cs = some x) (hz : ∀ n ∈ x.1.weights Try.prog 43, n ≤ reachBytes) :
    ∃ (o : WOp) (bv lv kv : Value), cs = wopC o bv lv kv ∧ OkWOp o ∧ BytesAt W 0 W.heap.size bv o.b ∧ LAt W W.heap.size lv o.l ∧ IntsAt W 0 W.heap.size kv o.keep := by
  obtain ⟨ys, n, hn, hy, hlen, hyl, hfs⟩ := DataW.trod_struct Try.underlying43 hf
  have hl6 : cs.length = 6 := hlen.trans (by kernel_rfl)
  obtain ⟨v0, v1, v2, v3, v4, v5, rfl⟩ : ∃ v0 v1 v2 v3 v4 v5, cs = [v0, v1, v2, v3, v4, v5] := by
    match cs, hl6 with
    | [a, b, c, d, e, f], _ => exact ⟨a, b, c, d, e, f, rfl⟩
  have hys : ∀ j, j < 6 → ∃ y, ys[j]? = some y := fun j hj => ⟨_, List.getElem?_eq_getElem (by rw [hyl]; exact hj)⟩
  have fld := fun (j : Nat) (f : Field) hj => by
    obtain ⟨ho, hk⟩ := hone_of (P := Try.prog) (by kernel_rfl) j f hj
    have := hfs j f hj
    rw [ho, hk] at this
    exact this
  have hw : ∀ (j : Nat) (t : TypeId) y, ([3, 34, 22, 41, 3, 3] : List TypeId)[j]? = some t → ys[j]? = some y → ∀ m ∈ y.1.weights Try.prog t, m ≤ reachBytes := fun j t y ht hyj m hm => by
    refine hz m ?_
    rw [hy]
    simp only [DataW.weights, Try.underlying43]
    refine DataW.weights_mem_each (j := j) (t := t) (d := y.1) ht ?_ m hm
    rw [List.getElem?_map, hyj]
    rfl
  have g0 := fld 0 _ rfl
  have g1 := fld 1 _ rfl
  have g2 := fld 2 _ rfl
  have g3 := fld 3 _ rfl
  have g4 := fld 4 _ rfl
  have g5 := fld 5 _ rfl
  obtain ⟨y0, e0⟩ := hys 0 (by omega)
  obtain ⟨y1, e1⟩ := hys 1 (by omega)
  obtain ⟨y2, e2⟩ := hys 2 (by omega)
  obtain ⟨y3, e3⟩ := hys 3 (by omega)
  obtain ⟨y4, e4⟩ := hys 4 (by omega)
  obtain ⟨y5, e5⟩ := hys 5 (by omega)
  rw [e0] at g0
  rw [e1] at g1
  rw [e2] at g2
  rw [e3] at g3
  rw [e4] at g4
  rw [e5] at g5
  obtain ⟨k0, c0, _, hk0⟩ := DataW.trod_int Try.underlying3 (show DataW.trod enc Try.prog W 0 (fun _ => true) held n 3 [v0] = some y0 from g0)
  obtain ⟨B, hB, hBl⟩ := bytes_of_trodW (v := v1) g1 (hw 1 _ y1 rfl e1)
  obtain ⟨L, hL, hLl⟩ := lists_of_trodW (v := v2) g2 (hw 2 _ y2 rfl e2)
  obtain ⟨K, hK, hKl, -⟩ := Og.ints_of_trod (v := v3) g3
  obtain ⟨k4, c4, _, hk4⟩ := DataW.trod_int Try.underlying3 (show DataW.trod enc Try.prog W 0 (fun _ => true) held n 3 [v4] = some y4 from g4)
  obtain ⟨k5, c5, _, hk5⟩ := DataW.trod_int Try.underlying3 (show DataW.trod enc Try.prog W 0 (fun _ => true) held n 3 [v5] = some y5 from g5)
  simp only [List.cons.injEq, and_true] at c0 c4 c5
  subst c0 c4 c5
  refine ⟨⟨k0, B, L, K, k4, k5⟩, v1, v2, v3, rfl, ⟨?_, hBl, hLl, hKl, ?_, ?_⟩, hB, hL, hK⟩
  · simpa [Lit.wf, IntKind.min, IntKind.max, IntKind.signed, IntKind.bits] using hk0
  · simpa [Lit.wf, IntKind.min, IntKind.max, IntKind.signed, IntKind.bits] using hk4
  · simpa [Lit.wf, IntKind.min, IntKind.max, IntKind.signed, IntKind.bits] using hk5
/-- a slice of calls, all below B -/
def WOpsAt (w : World) (B : Nat) (v : Value) (os : List WOp) : Prop :=
  ∃ A c, v = .slice A os.length c ∧ os.length ≤ c ∧ c ≤ maxLen ∧ ∀ j (h : j < os.length), ∃ b p bv lv kv, A = some ⟨b, p, none⟩ ∧ b < B ∧ BytesAt w 0 B bv os[j].b ∧ LAt w B lv os[j].l ∧ IntsAt w 0 B kv os[j].keep ∧ ∀ i v, (wopC os[j] bv lv kv)[i]? = some v → w.cell? ⟨b, p + j * 6 + i, none⟩ = some v
theorem WOpsAt.form {w : World} {B : Nat} {v : Value} {os : List WOp} (h : WOpsAt w B v os) : ∃ A c, v = .slice A os.length c ∧ os.length ≤ c ∧ c ≤ maxLen := by
  obtain ⟨A, c, e, h1, h2, -⟩ := h
  exact ⟨A, c, e, h1, h2⟩
theorem WOpsAt.at_ {w : World} {B n c j : Nat} {A : Option Addr} {os : List WOp} (h : WOpsAt w B (.slice A n c) os) (hj : j < os.length) : ∃ b p bv lv kv, A = some ⟨b, p, none⟩ ∧ b < B ∧ BytesAt w 0 B bv os[j].b ∧ LAt w B lv os[j].l ∧ IntsAt w 0 B kv os[j].keep ∧
    w.cell? ⟨b, p + j * 6, none⟩ = some (.int .i64 os[j].kd) ∧ w.cell? ⟨b, p + j * 6 + 1, none⟩ = some bv ∧ w.cell? ⟨b, p + j * 6 + 2, none⟩ = some lv ∧ w.cell? ⟨b, p + j * 6 + 3, none⟩ = some kv ∧ w.cell? ⟨b, p + j * 6 + 4, none⟩ = some (.int .i64 os[j].i) ∧ w.cell? ⟨b, p + j * 6 + 5, none⟩ = some (.int .i64 os[j].n) := by
  obtain ⟨A', c', e, h1, h2, h3⟩ := h
  cases e
  obtain ⟨b, p, bv, lv, kv, ea, hbB, q1, q2, q3, hc⟩ := h3 j hj
  exact ⟨b, p, bv, lv, kv, ea, hbB, q1, q2, q3, hc 0 _ rfl, hc 1 _ rfl, hc 2 _ rfl, hc 3 _ rfl, hc 4 _ rfl, hc 5 _ rfl⟩
theorem wops_of_trod {v : Value} {x : DataW H × List MemPlace} (hf : DataW.trod enc Try.prog W 0 (fun _ => true) held fuel 49 [v] = some x) (hz : ∀ n ∈ x.1.weights Try.prog 49, n ≤ reachBytes) :
    ∃ os : List WOp, WOpsAt W W.heap.size v os ∧ (∀ o ∈ os, OkWOp o) := by
  obtain ⟨A, n, c, rfl, h1, h2, h3, -⟩ := slice_of_trodW Try.underlying49 (show Try.prog.cellsOf 43 = 6 by kernel_rfl) (by omega) hf
  have hel : ∀ i, i < n → ∃ x : WOp, OkWOp x ∧ ∃ b p bv lv kv, A = some ⟨b, p, none⟩ ∧ b < W.heap.size ∧ BytesAt W 0 W.heap.size bv x.b ∧ LAt W W.heap.size lv x.l ∧ IntsAt W 0 W.heap.size kv x.keep ∧ ∀ j v, (wopC x bv lv kv)[j]? = some v → W.cell? ⟨b, p + i * 6 + j, none⟩ = some v := by
    intro i hin
    obtain ⟨b, o, cs, y, f', ea, hbW, hcl, hat, ht, hw⟩ := h3 i hin
    obtain ⟨op, bv, lv, kv, e, k1, k2, k3, k4⟩ := wop_of_trod ht (fun n hn => hz n (hw n hn))
    subst e
    exact ⟨op, k1, b, o, bv, lv, kv, ea, hbW, k2, k3, k4, hat⟩
  obtain ⟨os, hLn, hL⟩ := Og.list_of n _ hel
  subst hLn
  refine ⟨os, ⟨A, c, rfl, h1, h2, fun j hj => (hL j hj).2⟩, fun o ho => ?_⟩
  obtain ⟨i, hi, rfl⟩ := List.getElem_of_mem ho
  exact (hL i hi).1
end
theorem open_wops {H : Type} {enc : TypeId × Value → H} {W : World} {v : Value} {d : DataW H} {p : List MemPlace} {held : Bool} {ts : List TypeId} {ds : List (DataW H)} {j : Nat} (h : DataW.Trod enc Try.prog W 0 (fun _ => true) held 49 v d p) (hs : ∃ A n c, v = .slice A n c)
    (hz : (DataW.weightsEach Try.prog ts ds).all (· ≤ reachBytes) = true) (ht : ts[j]? = some 49) (hd : ds[j]? = some d) : ∃ os : List WOp, WOpsAt W W.heap.size v os ∧ (∀ o ∈ os, OkWOp o) := by
  obtain ⟨A, n, c, rfl⟩ := hs
  obtain ⟨fuel, hf⟩ := h
  exact wops_of_trod hf fun m hm => by simpa using List.all_eq_true.1 hz _ (DataW.weights_mem_each ht hd m hm)
end Wa
end Go.Proofs.Yteiniahikhiadaa

namespace Go.Proofs.Yteiniahikhiadaa
open Go.RowKit Go.Maps
namespace Wa
open Ce Se
set_option maxRecDepth 100000 in
set_option maxHeartbeats 4000000 in
theorem large_calls (o : WOp) (bv lv kv : Value) (w : World) (hb : BytesAt w 0 w.heap.size bv o.b) (hl : LAt w w.heap.size lv o.l) (hk : ∃ A n c, kv = .slice A n c) (hok : OkWOp o) :
    Calls Try.prog 27 #[.agg #[.int .i64 o.kd, bv, lv, kv, .int .i64 o.i, .int .i64 o.n]] w fun e w' => (e = .returned (.bool true) ∨ (e = .returned (.bool false) ∧ o.b.length ≤ 200000)) ∧ Below w.heap.size w w' := by
  obtain ⟨Ab, cb, rfl, -⟩ := hb.form
  obtain ⟨Al, cl, rfl, hl1, hl2⟩ := hl.form
  obtain ⟨Ak, nk, ck, rfl⟩ := hk
  unfold maxLen at hl2
  have HL := Lib.hid (show ListsAt w (.slice Al o.l.length cl) o.l from hl)
  have HOK := Lib.hid hok
  have hbl := hok.b
  obtain ⟨kd, b, l, keep, oi, on⟩ := o
  dsimp only at HL hbl hl1 ⊢
  have O1 := Ob.new w 43 #[.int .i64 kd, .slice Ab b.length cb, .slice Al l.length cl, .slice Ak nk ck, .int .i64 oi, .int .i64 on]
  have hB := (Below.refl w.heap.size w).alloc (Nat.le_refl _) (.cells #[.int .i64 kd, .slice Ab b.length cb, .slice Al l.length cl, .slice Ak nk ck, .int .i64 oi, .int .i64 on] 43)
  have HLE := Lib.hid hok.l
  clear hb hl hok
  generalize b.length = m0 at *
  go_enter Try.func27, Try.ntmps27
  go_upto_region 1 with (fail)
  generalize w.alloc (.cells #[.int .i64 kd, .slice Ab m0 cb, .slice Al l.length cl, .slice Ak nk ck, .int .i64 oi, .int .i64 on] 43) = W1 at *
  have y1 := O1.cell (j := 1) (v := .slice Ab m0 cb) rfl
  have y2 := O1.cell (j := 2) (v := .slice Al l.length cl) rfl
  have HB := Lib.hid hB
  have HL1 := Lib.hid (HL.out.same hB)
  clear O1 hB HL
  go_wp2_with fail
  go_loop [3, 4] (fun n i => ∃ (k m : Nat), k ≤ l.length ∧ k ≤ 200 ∧ i = .int .i64 k ∧ n = .int .i64 m ∧ m0 ≤ m ∧ m ≤ 140737488351232) (fun _ i => 200 - (intOf i).toNat)
  case atStart => exact ⟨0, m0, by omega, by omega, rfl, rfl, Nat.le_refl _, hbl⟩
  case round =>
    obtain ⟨k, m, hk, hk2, rfl, rfl, hm1, hm2⟩ := hrel
    by_cases hlt : k < l.length
    · have hd : decide ((k : Int) < (l.length : Int)) = true := by simp; omega
      have hd' : decide (k < l.length) = true := by simpa using hlt
      by_cases hlt2 : k < 200
      · have he : decide ((k : Int) < 200) = true := by simp; omega
        obtain ⟨ab, ao, v, rfl, hab, hck, hv⟩ := HL1.out.cellAt hlt
        obtain ⟨A1, c1, rfl, -⟩ := hv.form
        have hq : l[k].length ≤ 140737488351232 := HLE.out _ (List.getElem_mem hlt)
        generalize l[k].length = q at *
        clear hv
        by_cases hbig : 200000 < m + q
        · have hd2 : decide ((m : Int) + (q : Int) > 200000) = true := by simp; omega
          go_wp2
          go_ret
          exact ⟨.inl rfl, HB.out⟩
        · have hd2 : decide ((m : Int) + (q : Int) > 200000) = false := by simp; omega
          go_wp2
          go_round
          case rel => exact ⟨k + 1, m + q, by omega, by omega, by go_num, by go_num, by omega, by omega⟩
          case measure => simp [intOf]; omega
      · have he : decide ((k : Int) < 200) = false := by simp; omega
        have e1 : 100 < l.length ∨ (¬ 100 < l.length ∧ 200000 < m) ∨ (¬ 100 < l.length ∧ ¬ 200000 < m) := by omega
        rcases e1 with e1 | ⟨e1, e2⟩ | ⟨e1, e2⟩
        · have f1 : decide (100 < (l.length : Int)) = true := by simp; omega
          clear e1
          go_wp2
          go_ret
          exact ⟨.inl rfl, HB.out⟩
        · have f1 : decide (100 < (l.length : Int)) = false := by simp; omega
          have f2 : decide (200000 < (m : Int)) = true := by simp; omega
          clear e1 e2
          go_wp2
          go_ret
          exact ⟨.inl rfl, HB.out⟩
        · have f1 : decide (100 < (l.length : Int)) = false := by simp; omega
          have f2 : decide (200000 < (m : Int)) = false := by simp; omega
          have hm3 := Lib.hid (show m0 ≤ 200000 by omega)
          clear e1 e2
          go_wp2
          go_ret
          exact ⟨.inr ⟨rfl, hm3.out⟩, HB.out⟩
    · have hd : decide ((k : Int) < (l.length : Int)) = false := by simp; omega
      have hd' : decide (k < l.length) = false := by simpa using hlt
      have e1 : 100 < l.length ∨ (¬ 100 < l.length ∧ 200000 < m) ∨ (¬ 100 < l.length ∧ ¬ 200000 < m) := by omega
      rcases e1 with e1 | ⟨e1, e2⟩ | ⟨e1, e2⟩
      · have f1 : decide (100 < (l.length : Int)) = true := by simp; omega
        clear e1
        go_wp2
        go_ret
        exact ⟨.inl rfl, HB.out⟩
      · have f1 : decide (100 < (l.length : Int)) = false := by simp; omega
        have f2 : decide (200000 < (m : Int)) = true := by simp; omega
        clear e1 e2
        go_wp2
        go_ret
        exact ⟨.inl rfl, HB.out⟩
      · have f1 : decide (100 < (l.length : Int)) = false := by simp; omega
        have f2 : decide (200000 < (m : Int)) = false := by simp; omega
        have hm3 := Lib.hid (show m0 ≤ 200000 by omega)
        clear e1 e2
        go_wp2
        go_ret
        exact ⟨.inr ⟨rfl, hm3.out⟩, HB.out⟩
end Wa
end Go.Proofs.Yteiniahikhiadaa

namespace Go.Proofs.Yteiniahikhiadaa
open Go.RowKit Go.Maps
namespace Wa
open Ce Se
set_option maxRecDepth 100000 in
set_option maxHeartbeats 8000000 in
theorem looks_calls {base b d sb mb : Nat} {X Y Z : Nat → Prop} {D : Dv} {L : Lg} {rb c x xs lb tb : Nat} {R : Rv} (w : World) (h : LgAt w base b d sb mb X Y D L) (hr : RLgAt w rb c x xs lb tb Z R L) (hlen : szR R = szD D) :
    Calls Try.prog 35 #[.pointer (some ⟨b, 0, none⟩), .pointer (some ⟨c, 0, none⟩)] w fun e w' => e = .returned (.bool true) ∧ Below w.heap.size w w' := by
  have hmx : Try.prog.follows .mixedOrders = true := by kernel_rfl
  have CL := Lib.hid (list_calls w h)
  have HH := Lib.hid h
  have HR := Lib.hid hr
  have HLE := Lib.hid hlen
  have hel : L.es.length ≤ 600000 := by
    have h1 := strm_cnt L.es
    have h2 := h.ok.fits
    have h3 : szD D ≤ 8191 := by have := h.dv.len; unfold szD; omega
    omega
  clear h hr hlen
  go_enter Try.func35, Try.ntmps35
  go_wp2_with fail
  refine CL.out.mono ?_
  rintro e W1 ⟨⟨gv, rfl, hown⟩, hB1⟩
  obtain ⟨Ag, cg, rfl, -⟩ := (Sl.of_own hown).at_
  have hrd : RLgAt W1.drew rb c x xs lb tb Z R L := (HR.out.same hB1).same ((Below.refl _ W1).drew)
  have hhd : LgAt W1.drew base b d sb mb X Y D L := (HH.out.same hB1).same ((Below.refl _ W1).drew)
  obtain ⟨lv, l1, l2⟩ := hrd.lg
  obtain ⟨Al, cl, rfl, -⟩ := l2.form
  have HO := Lib.hid l1
  have HL2 := Lib.hid l2
  have HOW := Lib.hid (ownsRow_below hown ((Below.refl W1.heap.size W1).drew))
  have CS := Lib.hid (fun (W : World) (hW : Below W1.drew.heap.size W1.drew W) => sure_calls (hhd.same hW))
  have CR := Lib.hid (fun (W : World) (hW : Below W1.drew.heap.size W1.drew W) => room_calls (hhd.same hW))
  have CRR := Lib.hid (fun (W : World) (hW : Below W1.drew.heap.size W1.drew W) => rroom_calls (hrd.same hW))
  have CG := Lib.hid (fun (W : World) (hW : Below W1.drew.heap.size W1.drew W) => gen_calls (hhd.same hW))
  rw [HLE.out] at CRR
  have HB1 := Lib.hid (hB1.drew)
  clear hown hrd hhd l1 l2 hB1
  generalize roomL L (szD D) = rm at *
  go_wp2_with fail
  refine Pu.regionW (fun W' => Below W1.drew.heap.size W1.drew W') hmx (by kernel_rfl) (by kernel_rfl) (Below.refl _ _) rfl ?_
  iterate 37 (first
    | (refine Pu.Walk.off (by rfl) ?_; simp only [Act.put, List.setIfInBounds_toArray, List.set_cons_succ, List.set_cons_zero])
    | (apply Pu.Walk.on (by rfl)
       · intro W1 h1
         have y3 := (HO.out.same h1).cell (j := 3) (v := .slice Al L.es.length cl) rfl
         have y4 := (HO.out.same h1).cell (j := 4) (v := .int .i64 (L.sure : Nat)) rfl
         have y1 := (HO.out.same h1).cell (j := 1) (v := .int .i64 L.g) rfl
         go_wp2_with (first
           | (go_at_call 21; refine (CS.out _ h1).mono ?_; rintro e W2 ⟨rfl, rfl⟩)
           | (go_at_call 20; refine (CG.out _ h1).mono ?_; rintro e W2 ⟨rfl, rfl⟩)
           | (go_at_call 16; refine (CR.out _ h1).mono ?_; rintro e W2 ⟨rfl, hb⟩; replace h1 := h1.trans (hb.mono h1.size); clear hb)
           | (go_at_call 64; refine (CRR.out _ h1).mono ?_; rintro e W2 ⟨rfl, hb⟩; replace h1 := h1.trans (hb.mono h1.size); clear hb))
         refine ⟨rfl, ?_, h1⟩
         try simp only [Act.put, List.setIfInBounds_toArray, List.set_cons_succ, List.set_cons_zero]
         rfl
       simp only [Act.put, List.setIfInBounds_toArray, List.set_cons_succ, List.set_cons_zero]))
  refine Pu.Walk.nil (fun W3 h3 => ?_)
  have HB3 := Lib.hid (HB1.out.trans (h3.mono HB1.out.size))
  have HO3 := Lib.hid (HO.out.same h3)
  have HL3 := Lib.hid (HL2.out.same h3)
  have HOW3 := Lib.hid (ownsRow_below HOW.out h3)
  clear CS CR CRR CG h3 HO HL2 HOW
  go_wp2_with fail
  go_loopw [7] (fun i wr => ∃ k : Nat, k ≤ L.es.length ∧ i = .int .i64 k ∧ Below W3.heap.size W3 wr) (fun i _ => L.es.length - (intOf i).toNat)
  case atStart => exact ⟨0, by omega, rfl, Below.refl _ _⟩
  case round =>
    obtain ⟨k, hk, rfl, hB⟩ := hrel
    by_cases hlt : k < L.es.length
    · have hd : decide (k < L.es.length) = true := by simpa using hlt
      have hd' : decide ((k : Int) < (L.es.length : Int)) = true := by simp; omega
      have hdr := hB.drew
      have hrow := ownsRow_below HOW3.out hdr
      obtain ⟨g, cap, eg, hg1, hg2⟩ := World.ownsRow.form hrow (by omega)
      cases eg
      have hgc : wr.drew.cell? ⟨g, k, none⟩ = some (.string ⟨(L.es[k]).toArray⟩) := (hrow.cellAt k (by omega)).trans (by simp [strV, hlt])
      obtain ⟨ab, ao, v, eA, hab, hck, hv⟩ := ((HL3.out.same hdr).at_).cellAt hlt
      cases eA
      obtain ⟨A1, c1, rfl, -⟩ := hv.form
      have hcv := string_of wr.drew hv
      have y3 := (HO3.out.same hdr).cell (j := 3) (v := .slice (some ⟨ab, ao, none⟩) L.es.length cl) rfl
      have HBd := Lib.hid hdr
      generalize L.es[k] = q at *
      obtain ⟨sq, hsq⟩ : ∃ sq : ByteArray, sq = ⟨q.toArray⟩ := ⟨_, rfl⟩
      rw [← hsq] at hgc hcv
      generalize q.length = nq at *
      clear hsq hrow hv hB hdr HOW3
      obtain ⟨Wd, hWd⟩ : ∃ Wd, wr.drew = Wd := ⟨_, rfl⟩
      rw [hWd] at hgc hck hcv y3 HBd
      have HWD := Lib.hid hWd
      clear hWd
      go_wp2_with fail
      refine Pu.regionM [(0, false), (1, false), (2, false), (3, false), (4, false), (5, false), (6, false), (7, false), (8, false), (9, false), (10, false), (11, false), (12, false)] (fun V => V = Wd) hmx (by kernel_rfl) (by kernel_rfl) (by kernel_rfl) HWD.out rfl ?_
      simp only [Pu.named, List.filterMap_cons, List.filterMap_nil, List.getElem?_toArray, List.getElem?_cons_succ, List.getElem?_cons_zero, Option.map_some]
      iterate 13 (apply Pu.WalkM.on (by rfl)
                  · rintro V rfl
                    go_wp2_with fail
                    refine ⟨rfl, ?_, rfl⟩
                    try simp only [Act.put, List.setIfInBounds_toArray, List.set_cons_succ, List.set_cons_zero]
                    rfl
                  simp only [Act.put, List.setIfInBounds_toArray, List.set_cons_succ, List.set_cons_zero])
      refine Pu.WalkM.nil ?_
      rintro V hV
      rw [HWD.out] at hV
      subst hV
      clear hgc hck hcv y3
      go_wp2
      go_roundw
      case rel => exact ⟨k + 1, by omega, by go_num, HBd.out⟩
      case measure => simp [intOf]; omega
    · obtain rfl : k = L.es.length := by omega
      have hd : decide (L.es.length < L.es.length) = false := by simp
      have hd' : decide ((L.es.length : Int) < (L.es.length : Int)) = false := by simp
      have HBf := Lib.hid (HB3.out.trans (hB.mono HB3.out.size))
      clear hB
      go_wp2
      go_ret
      exact ⟨rfl, HBf.out⟩
end Wa
end Go.Proofs.Yteiniahikhiadaa

namespace Go.Proofs.Yteiniahikhiadaa
open Go.RowKit Go.Maps
namespace Wa
open Ce Se
theorem blk_bytes {w w' : World} {v : Value} {b : Blk} (h : BlkAt w w' v b) (hl : b.length = 64) : BytesAt w' 0 w'.heap.size v b := by
  obtain ⟨g, rfl, h1, h2, h3, h4⟩ := h
  unfold BytesAt
  rw [hl]
  refine ⟨by rw [bytesV_length, hl], _, _, rfl, Nat.le_refl _, by unfold maxLen; omega, fun _ => ⟨g, 0, rfl, Nat.zero_le _, h2, fun j hj => ?_⟩⟩
  have hj2 : j < (bytesV b).length := by rw [bytesV_length, hl]; omega
  have := h3 j _ (List.getElem?_eq_getElem hj2)
  rw [this, List.getElem?_eq_getElem hj2]
set_option maxRecDepth 100000 in
set_option maxHeartbeats 8000000 in
theorem same_calls {base d sb mb : Nat} {D : Dv} {rb x xs lb tb : Nat} {R : Rv} (w : World) (h : DvAt w base d sb mb D) (hr : RvAt w rb x xs lb tb R) (ha : Along D R) :
    Calls Try.prog 36 #[.pointer (some ⟨d, 0, none⟩), .pointer (some ⟨x, 0, none⟩)] w fun e w' => e = .returned (.bool true) ∧ Below w.heap.size w w' := by
  have hmx : Try.prog.follows .mixedOrders = true := by kernel_rfl
  have cO := off_calls h
  have cR := roff_calls hr
  rw [ha.off] at cR
  have CO := Lib.hid cO
  have CR := Lib.hid cR
  have HD := Lib.hid h
  have HR := Lib.hid hr
  have HA := Lib.hid ha
  clear cO cR h hr ha
  cases ho : offD D with
  | true =>
    rw [ho] at CO CR
    clear ho
    go_enter Try.func36, Try.ntmps36
    go_wp2_with (first
      | (go_at_call 42; refine CO.out.mono ?_; rintro e W ⟨rfl, rfl⟩)
      | (go_at_call 58; refine CR.out.mono ?_; rintro e W ⟨rfl, rfl⟩))
    go_ret
    exact ⟨rfl, Below.refl _ _⟩
  | false =>
    have HO := Lib.hid ho
    rw [ho] at CO CR
    clear ho
    have hlen := HR.out.len
    have hll := HR.out.ok.ll
    have hsl : R.sure.length = D.sure.length := by rw [HA.out.sure]
    have HSL := Lib.hid hsl
    have HLL := Lib.hid hll
    obtain ⟨n, hn⟩ : ∃ n, R.sure.length = n := ⟨_, rfl⟩
    rw [hn] at hlen
    have HN := Lib.hid hn
    clear hll hsl hn
    go_enter Try.func36, Try.ntmps36
    go_wp2_with (first
      | (go_at_call 42; refine CO.out.mono ?_; rintro e W ⟨rfl, rfl⟩)
      | (go_at_call 58; refine CR.out.mono ?_; rintro e W ⟨rfl, rfl⟩))
    go_loopw [5, 6, 7] (fun i _ _ wr => ∃ k : Nat, k ≤ n ∧ i = .int .i64 k ∧ Below w.heap.size w wr) (fun i _ _ _ => n - (intOf i).toNat)
    case atStart => exact ⟨0, by omega, rfl, Below.refl _ _⟩
    case round =>
      obtain ⟨k, hk, rfl, hB⟩ := hrel
      have hRw := HR.out.same hB
      have y1 := hRw.cells.2.1
      rw [HN.out] at y1
      by_cases hlt : k < n
      · have hd : decide (k < n) = true := by simpa using hlt
        have hd' : decide ((k : Int) < (n : Int)) = true := by simp; omega
        have hkD : k < D.sure.length := by have := HSL.out; have := HN.out; omega
        have CRd := Lib.hid (read_good (HD.out.same hB) HO.out k hkD)
        have HRw := Lib.hid hRw
        have HB := Lib.hid hB
        clear hRw hB
        go_wp2_with fail
        refine CRd.out.mono ?_
        rintro e W2 ⟨⟨v, rfl, hv⟩, hb2⟩
        have hdr := (Below.refl W2.heap.size W2).drew
        have h64 : (lastD D k).length = 64 := by
          have := last_len HR.out.ok (i := k) (by rw [HN.out]; exact hlt)
          rw [HA.out.last, getD_range _ _ _ hkD] at this
          exact this
        have hv2 := blk_bytes hv h64
        have hR2 := HRw.out.same (hb2.trans (hdr.mono hb2.size))
        have hcv := string_of W2.drew (A := none) (n := 0) (c := 0) (BytesAt.nil W2.drew 0 0)
        have hI2 := rv_blk hR2 (i := k) (by rw [HN.out]; exact hlt)
        have e1 : lastR R k = lastD D k := by unfold lastR; rw [HA.out.last, getD_range _ _ _ hkD]
        rw [e1] at hI2
        obtain ⟨Av, cv, rfl, -⟩ := hv2.form
        rw [h64] at hv2 
        have hc1 := string_of W2.drew (BytesAt.mono hv2 hdr hdr.size)
        have hc2 := string_of W2.drew hI2
        obtain ⟨sq, hsq⟩ : ∃ sq : ByteArray, sq = ⟨(lastD D k).toArray⟩ := ⟨_, rfl⟩
        rw [← hsq] at hc1 hc2
        have z1 := hR2.cells.2.1
        rw [HN.out] at z1
        have HB2 := Lib.hid ((HB.out.trans (hb2.mono HB.out.size)).trans (hdr.mono (by have := hb2.size; have := HB.out.size; omega)))
        obtain ⟨Wd, hWd⟩ : ∃ Wd, W2.drew = Wd := ⟨_, rfl⟩
        rw [hWd] at hc1 hc2 z1 HB2
        have HWD := Lib.hid hWd
        clear hWd hsq hcv hI2 hR2 hv2 hv hdr hb2 CRd e1
        clear y1
        have hkI : (k : Int) < (n : Int) := by omega
        go_wp2_with fail
        refine Pu.regionM [(0, false), (1, false), (2, false), (3, false), (4, false), (5, false), (6, false), (7, false), (8, false), (9, false), (10, false), (11, false), (12, false), (13, false), (14, false)] (fun V => V = Wd) hmx (by kernel_rfl) (by kernel_rfl) (by kernel_rfl) HWD.out rfl ?_
        simp only [Pu.named, List.filterMap_cons, List.filterMap_nil, List.getElem?_toArray, List.getElem?_cons_succ, List.getElem?_cons_zero, Option.map_some]
        iterate 15 (apply Pu.WalkM.on (by rfl)
                    · rintro V rfl
                      go_wp2_with fail
                      refine ⟨rfl, ?_, rfl⟩
                      try simp only [Act.put, List.setIfInBounds_toArray, List.set_cons_succ, List.set_cons_zero]
                      rfl
                    simp only [Act.put, List.setIfInBounds_toArray, List.set_cons_succ, List.set_cons_zero])
        refine Pu.WalkM.nil ?_
        rintro V hV
        rw [HWD.out] at hV
        subst hV
        clear hc1 hc2 z1
        go_wp2
        go_roundw
        case rel => exact ⟨k + 1, by omega, by go_num, HB2.out⟩
        case measure => simp [intOf]; omega
      · obtain rfl : k = n := by omega
        have hd : decide (k < k) = false := by simp
        have hd' : decide ((k : Int) < (k : Int)) = false := by simp
        have HBf := Lib.hid hB
        clear hB hRw
        go_wp2
        go_ret
        exact ⟨rfl, HBf.out⟩
end Wa
end Go.Proofs.Yteiniahikhiadaa
