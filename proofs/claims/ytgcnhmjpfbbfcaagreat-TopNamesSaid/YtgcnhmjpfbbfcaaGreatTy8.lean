/-
  part of the proof of TopNames.
-/
import Derived.Test.YtgcnhmjpfbbfcaaGreatTy7
import Derived.Deep.RegionHeld3
import Derived.Deep.DeepCutAuto
set_option linter.unusedVariables false
set_option linter.unusedSimpArgs false
set_option maxRecDepth 100000
set_option maxHeartbeats 8000000
namespace Go.Proofs.YtgcnhmjpfbbfcaaGreat
namespace Wa
section
open Go.RowKit Go.Maps
open Ce Se
def lgC (d : Nat) (g : Int) (half : Nat) (ev : Value) (su us : Int) (tv : Value) (fin : Bool) : Array Value := #[.pointer (some ⟨d, 0, none⟩), vI g, vI half, ev, vI su, vI us, tv, .bool fin]
theorem Ob.lg {w : World} {b d : Nat} {g : Int} {half : Nat} {ev tv : Value} {su us : Int} {fin : Bool} (h : Ob w b 218 (lgC d g half ev su us tv fin)) :
   w.cell? ⟨b, 0, none⟩ = some (.pointer (some ⟨d, 0, none⟩)) ∧ w.cell? ⟨b, 1, none⟩ = some (vI g) ∧ w.cell? ⟨b, 2, none⟩ = some (vI half) ∧ w.cell? ⟨b, 3, none⟩ = some ev ∧ w.cell? ⟨b, 4, none⟩ = some (vI su) ∧ w.cell? ⟨b, 5, none⟩ = some (vI us) ∧ w.cell? ⟨b, 6, none⟩ = some tv ∧ w.cell? ⟨b, 7, none⟩ = some (.bool fin) :=
 ⟨h.k 0 rfl, h.k 1 rfl, h.k 2 rfl, h.k 3 rfl, h.k 4 rfl, h.k 5 rfl, h.k 6 rfl, h.k 7 rfl⟩
theorem strm_cnt : ∀ es : List (List UInt8), 3 * es.length ≤ (strm es).length
 | [] => by simp
 | e :: r => by
   have ih := strm_cnt r; rw [strm_cons, List.length_append, encE_len, List.length_cons]; omega
theorem strm_take_le (es : List (List UInt8)) (k : Nat) : (strm (es.take k)).length ≤ (strm es).length := by
 have h1 : strm es = strm (es.take k) ++ strm (es.drop k) := by
   unfold strm; rw [← List.flatMap_append, List.take_append_drop]
 rw [h1, List.length_append]; omega
section
variable {w w' : World} {base b d sb mb : Nat} {D D' : Dv}
theorem anew_calls (h : DvAt w base d sb mb D) (h4 : 4 ≤ D.sure.length) {g : Int} {half : Nat} {ev tv : Value} {su us : Int} {fin : Bool} (hg0 : -9223372036854775808 ≤ g) (hg1 : g < 9223372036854775808) (hh : half ≤ 1)
   (hb : Ob w b 218 (lgC d g half ev su us tv fin)) (hbd : b ≠ d ∧ b ≠ sb ∧ b ≠ mb) {Fx : Nat → Prop} {es : List (List UInt8)} {vals : List Value} {xv : Value} {xlo xhi : Nat} (hx : Sl w xlo xhi 1 xv es.length vals) (hxF : ∀ i, xlo ≤ i → i < xhi → Fx i) (hE : Ents w Fx vals es)
   (hF : ∀ i, Fx i → i < w.heap.size ∧ i ≠ b ∧ i ≠ d ∧ i ≠ sb ∧ i ≠ mb) (hok : ∀ e ∈ es, e.length ≤ 65536) (hfit : (strm es).length ≤ 63 * szD D) :
   Calls Tryz.prog 106 #[.pointer (some ⟨b, 0, none⟩), xv] w fun e w' =>
     e = .returned (vI (anewG writeD flushD D g half (szD D) es).2) ∧ DvAt w' base d sb mb (anewG writeD flushD D g half (szD D) es).1 ∧
     ((anewG writeD flushD D g half (szD D) es).2 ≠ 0 → Ob w' b 218 (lgC d g half ev su us tv true)) ∧
     ((anewG writeD flushD D g half (szD D) es).2 = 0 → ∃ ev' tv' vals', Ob w' b 218 (lgC d (wrap64 (g + 1)) (1 - half) ev' es.length (strm es).length tv' false) ∧ w'.ownsRow w.heap.size 35 1 ev' es.length vals' ∧
       Ents w' (fun i => w.heap.size ≤ i ∧ ev'.ownBlock ≠ some i) vals' es ∧ EntAt w' (fun i => w.heap.size ≤ i ∧ ev'.ownBlock ≠ some i) tv' ((strm es).drop (63 * ((strm es).length / 63)))) ∧
     Kept (fun i => i < w.heap.size ∧ i ≠ b ∧ i ≠ d ∧ i ≠ sb ∧ i ≠ mb) w w' := by
 obtain ⟨y0, y1, y2, y3, y4, y5, y6, y7⟩ := Ob.lg hb; have hbl := hb.lt; obtain ⟨Ax, cx, rfl, hcx1, hcx2, -⟩ := hx.at_; have w1 : w.cell? ⟨b, 1, none⟩ = some (vI g) := y1; have w2 : w.cell? ⟨b, 2, none⟩ = some (vI half) := y2; have HBD := hdd hb; have e0 := (Ob.new w 122 #[.pointer (some ⟨b, 0, none⟩)]); have hB1 := (Below.refl w.heap.size w).alloc (Nat.le_refl _) (.cells #[.pointer (some ⟨b, 0, none⟩)] 122)
 go_enter Tryz.func106, Tryz.ntmps106
 go_wp2_with fail; generalize w.alloc (.cells #[.pointer (some ⟨b, 0, none⟩)] 122) = W1 at *; have z0 := e0.cell (j := 0) (v := .pointer (some ⟨b, 0, none⟩)) rfl; have z1 := (hB1.cell (p := ⟨b, 1, none⟩) hbl).trans y1; have z2 := (hB1.cell (p := ⟨b, 2, none⟩) hbl).trans y2; have hb1 : b < W1.heap.size := Nat.lt_of_lt_of_le hbl hB1.size; have hw1 : w.heap.size < W1.heap.size := e0.lt; have hwg : IntKind.i64.wrap (g + 1) = wrap64 (g + 1) := by rw [IntKind.wrap_i64]; unfold wrap64; rfl
 have hwh : IntKind.i64.wrap (1 - (half : Int)) = ((1 - half : Nat) : Int) := by rw [IntKind.wrap_i64]; omega
 have HWG := hdd hwg; have HWH := hdd hwh; have HE0 := hdd e0; have HB1 := hdd hB1; have hgw := wrap64_lt (g + 1); clear hwg hwh e0 hB1 y0 y3 y4 y5 y6 y7 w1 w2
 go_cut [5, 6] (fun u5 u6 V => ∃ p5 p6, u5 = .pointer (some ⟨p5, 0, none⟩) ∧ u6 = .pointer (some ⟨p6, 0, none⟩) ∧ Ob V w.heap.size 122 #[.pointer (some ⟨b, 0, none⟩)] ∧ Ob V p5 3 #[vI (wrap64 (g + 1))] ∧ Ob V p6 3 #[vI ((1 - half : Nat) : Int)] ∧ Below w.heap.size w V ∧ p5 ≠ p6 ∧ w.heap.size < p5 ∧ w.heap.size < p6)
 case first =>
   go_region_held3 (fun W => W.cell? ⟨w.heap.size, 0, none⟩ = some (.pointer (some ⟨b, 0, none⟩)) ∧ W.cell? ⟨b, 1, none⟩ = some (vI g) ∧ W.cell? ⟨b, 2, none⟩ = some (vI half)) (go_keep) (fail)
   · rw [HWG.out, HWH.out]
     go_wp2
     go_meet
     have o5 := Ob.new W1 3 #[vI (wrap64 (g + 1))]; have o6 := Ob.new (W1.alloc (.cells #[vI (wrap64 (g + 1))] 3)) 3 #[vI ((1 - half : Nat) : Int)]; rw [World.size_alloc] at o6; have a1 := HB1.out.alloc HB1.out.size (.cells #[vI (wrap64 (g + 1))] 3); have a2 := a1.alloc a1.size (.cells #[vI ((1 - half : Nat) : Int)] 3)
     case rel => exact ⟨_, _, rfl, rfl, (HE0.out.alloc _).alloc _, o5.alloc _, o6, a2.drew, by omega, by omega, by omega⟩
   · rw [HWG.out, HWH.out]
     go_wp2
     go_meet
     have o6 := Ob.new W1 3 #[vI ((1 - half : Nat) : Int)]; have o5 := Ob.new (W1.alloc (.cells #[vI ((1 - half : Nat) : Int)] 3)) 3 #[vI (wrap64 (g + 1))]; rw [World.size_alloc] at o5; have a1 := HB1.out.alloc HB1.out.size (.cells #[vI ((1 - half : Nat) : Int)] 3); have a2 := a1.alloc a1.size (.cells #[vI (wrap64 (g + 1))] 3)
     case rel => exact ⟨_, _, rfl, rfl, (HE0.out.alloc _).alloc _, o5, o6.alloc _, a2.drew, by omega, by omega, by omega⟩
 case rest =>
   obtain ⟨p5, p6, rfl, rfl, e2, e5, e6, hB, hne, hp5, hp6⟩ := hcut; clear hw1 hb1 z0 z1 z2 HE0 HB1 HWG HWH y1 y2; have hwl := e2.lt; have hl5 := e5.lt; have hl6 := e6.lt; go_wp2_with fail; have e7 := Ob.new wc 35 #[vN]; have hB7 := hB.alloc hB.size (.cells #[vN] 35); replace e2 := (e2.alloc (.cells #[vN] 35)).alloc (.cells #[vN] 35); replace e5 := (e5.alloc (.cells #[vN] 35)).alloc (.cells #[vN] 35); replace e6 := (e6.alloc (.cells #[vN] 35)).alloc (.cells #[vN] 35); replace e7 := e7.alloc (.cells #[vN] 35); have e8 := Ob.new (wc.alloc (.cells #[vN] 35)) 35 #[vN]; have hB8 := hB7.alloc hB7.size (.cells #[vN] 35); rw [World.size_alloc] at e8; generalize (wc.alloc (.cells #[vN] 35)).alloc (.cells #[vN] 35) = wd at *; obtain ⟨p7, hp7⟩ : ∃ p7, wc.heap.size = p7 := ⟨_, rfl⟩; rw [hp7] at e7 e8 hwl hl5 hl6 ⊢; clear hB hB7 hp7; obtain ⟨i0, hi0, hz0, hz1, hz2⟩ := inf3 byteInfo; have HX := hdd hx; have HEn := hdd hE; have HOK := hdd hok; have HDV := hdd h; have HFx := hdd hF; have hlen := h.len; have hzD : szD D ≤ 8191 := by unfold szD; omega
   have hstr := strm_take_le es; have HSTR := hdd hstr; have hcnt := strm_cnt es; clear hx hE hok h hF hstr
   go_loopw [10, 26] (fun _ i wr => ∃ (k : Nat) (av : Value), k ≤ es.length ∧ i = vI k ∧ Ob wr p7 35 #[av] ∧ wr.ownsRow w.heap.size 5 1 av (strm (es.take k)).length (bytesV (strm (es.take k))) ∧ Ob wr (p7 + 1) 35 #[vN] ∧
     Ob wr w.heap.size 122 #[.pointer (some ⟨b, 0, none⟩)] ∧ Ob wr p5 3 #[vI (wrap64 (g + 1))] ∧ Ob wr p6 3 #[vI ((1 - half : Nat) : Int)] ∧ Below w.heap.size w wr) (fun _ i _ => es.length - (intOf i).toNat)
   case atStart => exact ⟨0, _, by omega, rfl, e7, World.ownsRow_nil _ _ _ _, e8, e2, e5, e6, hB8⟩
   case round =>
     clear e7 e8 e2 e5 e6 hB8; obtain ⟨k, av, hk, rfl, k7, hrow, k8, k2, k5, k6, hB⟩ := hrel
     by_cases hlt : k < es.length
     · obtain ⟨xe, hvk, hek⟩ := HEn.out.get k hlt
       obtain ⟨Ax', cx', e', -, -, h3⟩ := HX.out.at_
       cases e'
       obtain ⟨xb, xo, rfl, hxb1, hxb2, hcell⟩ := h3 (by omega); have hck := (hcell k (by omega)).trans hvk; have hxl := (HFx.out xb (hxF xb hxb1 hxb2)).1; have hcw := (hB.cell (p := ⟨xb, xo + k, none⟩) hxl).trans hck; have hdr := (Below.refl wr.heap.size wr).drew; have hbe := ((hek.same hB).same hdr).bytes; have hel := HOK.out es[k] (List.getElem_mem hlt); have HTK := hdd (show strm (es.take (k + 1)) = strm (es.take k) ++ encE es[k] by rw [List.take_succ_eq_append_getElem hlt, strm_snoc]); have HLK := hdd (HSTR.out (k + 1)); rw [HTK.out] at HLK; have cE := hdd (entry_calls es[k] xe wr.drew hbe hel); have q7 := k7.same hdr; have hBd := hB.drew; have hrowd := ownsRow_below hrow hdr; have HK2 := hdd (k2.same hdr); have HK5 := hdd (k5.same hdr); have HK6 := hdd (k6.same hdr); have HK8 := hdd (k8.same hdr); obtain ⟨Av, cv, rfl, -⟩ := (BytesAt.of_own hrow).form; have h7 := hrow; generalize hoS : strm (es.take k) = S at *; generalize es[k] = ek at *; obtain ⟨lo, hi, hblo, -⟩ := hek; obtain ⟨Ae, ce, rfl, -⟩ := hblo.form; clear hblo hbe h7 hrow k7 k2 k5 k6 k8 h3 hcell hvk hck; go_wp2_with fail; refine Pq.regionT (.look 0 (.look 1 (.make 2 (.make 3 (.make 4 .nil))))) (fun V => Ob V p7 35 #[.slice Av S.length cv]) hmx (by kernel_rfl) (by kernel_rfl) (by kernel_rfl) q7 rfl ?_; simp only [Pq.named, Pq.rest, zzJ, zzK, zzL, zzM]
       iterate 2 (apply Pq.WalkT.on (by rfl)
                  · rintro V hV
                    have z7 := hV.cell (j := 0) (v := .slice Av S.length cv) rfl; go_wp2_with fail; refine ⟨rfl, ?_, rfl⟩
                    try simp only [Act.put, zzA, zzB, zzC]
                    rfl
                  simp only [Act.put, zzA, zzB, zzC])
       refine Pq.WalkT.make (by rfl) ?_; rintro V rfl; go_wp2_with (go_at_call 163; refine cE.out.mono ?_; rintro e V2 ⟨⟨r, rfl, hr⟩, hb2⟩); have hr2 : BytesAt V2 wr.drew.heap.size V2.heap.size r (encE ek) := BytesAt.of_own hr; obtain ⟨A2, c2, rfl, -⟩ := hr2.form; have q72 := q7.same hb2; have hrow2 := ownsRow_below hrowd hb2; have hB2 := hBd.trans (hb2.mono hBd.size); have hHL := HLK.out; rw [List.length_append] at hHL; unfold BytesAt at hr2; have HEL := hdd (show (encE ek).length = (encE ek).length from rfl); generalize hme : (encE ek).length = m at *; have HME := hdd hme; have HR2 := hdd hr2; have HRow2 := hdd hrow2; have HB2' := hdd hb2; clear hr hr2 hrowd hme hb2; refine Pq.mk3 (.slice A2 m c2) q72 ?_ ?_
       · try simp only [Act.put, zzA, zzB, zzC]
         try rfl
       simp only [Act.put, zzA, zzB, zzC]; refine Pq.WalkT.make (by rfl) ?_; rintro V rfl; refine wpList_append_sl _ rfl (.tmp 30) (.tmp 32) _ rfl w.heap.size 5 i0 _ 1 1 Tryz.underlying35 hi0 hz0 hz1 hz2 rfl (by omega) (.slice Av S.length cv) S.length (bytesV S) rfl HRow2.out wr.drew.heap.size V.heap.size _ m (bytesV (encE ek)) rfl HR2.out (bytesV_one _) (by unfold maxLen; omega) (by omega) hB2.size ?_; intro v1 w5 hv1 hgx hat1; have n7 := Boxed.not_row q72 (by decide) HRow2.out; have q75 := q72.kept hgx n7; have q25 := (HK2.out.same HB2'.out).kept hgx (Boxed.not_row (HK2.out.same HB2'.out) (by decide) HRow2.out); have q55 := (HK5.out.same HB2'.out).kept hgx (Boxed.not_row (HK5.out.same HB2'.out) (by decide) HRow2.out); have q65 := (HK6.out.same HB2'.out).kept hgx (Boxed.not_row (HK6.out.same HB2'.out) (by decide) HRow2.out); have q85 := (HK8.out.same HB2'.out).kept hgx (Boxed.not_row (HK8.out.same HB2'.out) (by decide) HRow2.out); have hB5 := hB2.grown hgx hB2.size (fun g e => (HRow2.out.lt g e).1)
       have hv5 : w5.ownsRow w.heap.size 5 1 v1 (strm (es.take (k + 1))).length (bytesV (strm (es.take (k + 1)))) := by
         rw [HTK.out, List.length_append, HME.out, bytesV_append]; exact hv1
       generalize hn5 : (strm (es.take (k + 1))).length = n5 at hv5; obtain ⟨A5, c5, rfl, -⟩ := (Sl.of_own hv5).at_; have HV5 := hdd hv5; have HN5 := hdd hn5; clear hv1 hgx hat1 q72 n7 hv5 hn5 HRow2; refine Pq.mk3 (.slice A5 n5 c5) q75 ?_ ?_
       · try simp only [Act.put, zzA, zzB, zzC]
         try rfl
       simp only [Act.put, zzA, zzB, zzC]; refine Pq.WalkT.make (by rfl) ?_; rintro V5 rfl; have c7 := q75.cell (j := 0) (v := .slice Av S.length cv) rfl; have f7 := q75.frozen 0; go_wp2_with fail; have gs := grownBy_set V5 p7 0 (.slice A5 n5 c5); have o7 := q75.set 0 (.slice A5 n5 c5); have o2 := q25.other (b' := p7) (by omega) 0 (.slice A5 n5 c5); have o5 := q55.other (b' := p7) (by omega) 0 (.slice A5 n5 c5); have o6 := q65.other (b' := p7) (by omega) 0 (.slice A5 n5 c5); have o8 := q85.other (b' := p7) (by omega) 0 (.slice A5 n5 c5); have hB6 := hB5.grown gs hB5.size (fun k e => by cases e; omega); have HV6 := hdd (HV5.out.kept gs (.inr (Boxed.not_row q75 (by decide) HV5.out).symm)); refine ⟨rfl, undef, (fun _ => True), (fun V => V = V5.setCell ⟨p7, 0, none⟩ (.slice A5 n5 c5)), rfl, rfl, (fun _ _ => trivial), (.inl (by kernel_rfl)), Pq.WalkT.nil ?_⟩; rintro V6 rfl; simp only [Act.put]; generalize V5.setCell ⟨p7, 0, none⟩ (.slice A5 n5 c5) = V6 at *; clear c7 f7 gs q75 q25 q55 q65 q85 hB5; go_wp2
       go_roundw
       case rel => exact ⟨k + 1, _, by omega, by go_num, o7, by rw [HN5.out]; exact HV6.out, o8, o2, o5, o6, hB6⟩
       case measure => simp [intOf]; omega
     · obtain rfl : k = es.length := by omega
       rw [List.take_length] at hrow; have hbw := HBD.out.same hB; have c7 := hbw.cell (j := 7) (v := .bool fin) rfl; have f7 := hbw.frozen 7; have z2 := k2.cell (j := 0) (v := .pointer (some ⟨b, 0, none⟩)) rfl; obtain ⟨Av, cv, rfl, -⟩ := (BytesAt.of_own hrow).form; have gs := grownBy_set wr b 7 (.bool true); have o8 := hbw.set 7 (.bool true); replace k2 := k2.other (b' := b) (by omega) 7 (.bool true); replace k5 := k5.other (b' := b) (by omega) 7 (.bool true); replace k6 := k6.other (b' := b) (by omega) 7 (.bool true); replace k7 := k7.other (b' := b) (by omega) 7 (.bool true); replace k8 := k8.other (b' := b) (by omega) 7 (.bool true); have hrow8 := hrow.kept gs (.inr fun e => by have := (hrow.lt b e).1; omega); have hK8 : Kept (fun i => i < w.heap.size ∧ i ≠ b) w (wr.setCell ⟨b, 7, none⟩ (.bool true)) := (Kept.of_below hB fun i hi => hi.1).trans (Kept.of_grown gs fun i hi => ⟨by have := hB.size; omega, fun e => hi.2 (Option.some.inj e)⟩); clear gs hrow hbw; go_wp2_with fail; generalize wr.setCell ⟨b, 7, none⟩ (.bool true) = W8 at *; have hdr := (Below.refl W8.heap.size W8).drew; replace k2 := k2.same hdr; replace k5 := k5.same hdr; replace k6 := k6.same hdr; replace k7 := k7.same hdr; replace k8 := k8.same hdr; replace o8 : Ob W8.drew b 218 (lgC d g half ev su us tv true) := o8.same hdr; replace hrow8 := ownsRow_below hrow8 hdr; replace hK8 := hK8.trans (Kept.of_below hdr fun i hi => by have := hK8.size; omega); generalize hW9 : W8.drew = W9 at *; have q0 := o8.cell (j := 0) (v := .pointer (some ⟨d, 0, none⟩)) rfl
       clear c7 f7 z2 hdr hB
       refine Pu.regionM [(0, false), (1, false), (2, false), (3, false), (4, false), (5, false), (6, false), (7, false), (8, false), (9, false), (10, false), (11, false), (12, false), (13, true), (14, true), (15, false)]
         (fun V => Ob V w.heap.size 122 #[.pointer (some ⟨b, 0, none⟩)] ∧ V.cell? ⟨b, 0, none⟩ = some (.pointer (some ⟨d, 0, none⟩))) hmx (by kernel_rfl) (by kernel_rfl) (by kernel_rfl) (by rw [hW9]; exact ⟨k2, q0⟩) rfl ?_
       rw [hW9]; clear hW9; simp only [Pu.named, List.filterMap_cons, List.filterMap_nil, zzJ, zzK, zzL, zzM]
       iterate 13 (apply Pu.WalkM.on (by rfl)
                   · rintro V ⟨j2, j0⟩
                     have zz2 := j2.cell (j := 0) (v := .pointer (some ⟨b, 0, none⟩)) rfl; go_wp2_with fail; refine ⟨rfl, ?_, rfl⟩
                     try simp only [Act.put, zzA, zzB, zzC]
                     rfl
                   simp only [Act.put, zzA, zzB, zzC])
       refine Pu.WalkM.make (by rfl) ?_; rintro V rfl; go_wp2_with fail; obtain ⟨OF, hOF⟩ : ∃ OF : Obj, OF = .cells (fnV (.pointer (some ⟨w.heap.size, 0, none⟩)) (.pointer (some ⟨p5, 0, none⟩)) (.pointer (some ⟨p6, 0, none⟩)) (.pointer (some ⟨p7, 0, none⟩)) (.pointer (some ⟨p7 + 1, 0, none⟩)) (.pointer (some ⟨d, 0, none⟩))) 115 := ⟨_, rfl⟩; have haF : Ob (V.alloc OF) V.heap.size 115 (fnV (.pointer (some ⟨w.heap.size, 0, none⟩)) (.pointer (some ⟨p5, 0, none⟩)) (.pointer (some ⟨p6, 0, none⟩)) (.pointer (some ⟨p7, 0, none⟩)) (.pointer (some ⟨p7 + 1, 0, none⟩)) (.pointer (some ⟨d, 0, none⟩))) := by rw [hOF]; exact Ob.new _ _ _
       have hHF := hdd hOF; have hAl := (Below.refl V.heap.size V).alloc (Nat.le_refl _) OF; refine ⟨rfl, .slice (some ⟨V.heap.size, 0, none⟩) 5 5, (fun V => Ob V w.heap.size 122 #[.pointer (some ⟨b, 0, none⟩)] ∧ V.cell? ⟨b, 0, none⟩ = some (.pointer (some ⟨d, 0, none⟩))), (fun V' => V' = V.alloc OF), ?_, by rw [hOF]; rfl, (fun V' h => by rw [h]; exact ⟨k2.alloc _, (o8.alloc _).k 0 rfl⟩), (.inr (fun _ h => h)), ?_⟩
       · try simp only [Act.put, zzA, zzB, zzC]
         try rfl
       simp only [Act.put, zzA, zzB, zzC]; have hlt8 := k8.lt; have hV8 := hK8.size; have hN : AnN w b d sb mb p5 p6 p7 V.heap.size := ⟨⟨HDV.out.ob.lt, HDV.out.sure.lt, HDV.out.map.lt, hbl⟩, hbd, by omega⟩
       have hEA : EntAt V (fun i => w.heap.size ≤ i ∧ i ≠ p7 + 1) (.slice Av (strm es).length cv) (strm es) := (EntAt.own hrow8).mono fun i hi => ⟨(hrow8.lt i hi).1, fun e => by
         subst e; exact Boxed.not_row k8 (by decide) hrow8 hi.symm⟩
       have hS : AnS w b d sb mb p5 p6 p7 V.heap.size (wrap64 (g + 1)) (1 - half) (lgC d g half ev su us tv true) (.slice Av (strm es).length cv) (strm es) (V.alloc OF) :=
         ⟨haF, k2.alloc _, k5.alloc _, k6.alloc _, k7.alloc _, hEA.same hAl, o8.alloc _, rfl, (hK8.mono fun i hi => ⟨hi.1, hi.2.1⟩).trans (Kept.of_below hAl fun i hi => by omega)⟩
       have hD9 : DvAt (V.alloc OF) base d sb mb D := HDV.out.kept (hK8.trans (Kept.of_below hAl fun i hi => by omega)) (by have := hN.dv; omega) (by have := hN.dv; omega) (by have := hN.dv; omega); obtain ⟨R, hR⟩ : ∃ R, R = anewG writeD flushD D g half (szD D) es := ⟨_, rfl⟩; have CS := hdd (anew_steps hS hN hD9 h4 (by omega) hgw.1 hgw.2 (k8.alloc _) hfit (R := R) (by rw [hR]; rfl)); have HR := hdd hR; have HN := hdd hN; have h02 := k2.alloc OF; have hsA := hAl.size; clear hOF hR hD9 hS hEA haF k2 k5 k6 k7 k8 o8 q0 hrow8 hK8 hN; refine Pu.WalkM.make (by rfl) ?_; rintro V2 rfl; go_wp2_with (go_at_call 164; refine CS.out.mono ?_; rintro e V3 ⟨rfl, hD3, hS3, v3, hv3, hE3⟩); refine ⟨rfl, vI R.2, (fun V' => V' = V3), (fun V' => V' = V3), ?_, rfl, (fun _ h => h), (.inr (fun V' h => by rw [h]; exact ⟨hS3.b2, hS3.lg.k 0 rfl⟩)), ?_⟩
       · try simp only [Act.put, zzA, zzB, zzC]
         try rfl
       simp only [Act.put, zzA, zzB, zzC]
       iterate 1 (apply Pu.WalkM.on (by rfl)
                  · rintro V hV
                    rw [hV]; go_wp2_with fail; refine ⟨rfl, ?_, rfl⟩
                    try simp only [Act.put, zzA, zzB, zzC]
                    rfl
                  simp only [Act.put, zzA, zzB, zzC])
       refine Pu.WalkM.nil ?_; rintro V4 rfl; have HD3 := hdd hD3; have HS3 := hdd hS3; clear hD3 CS
       by_cases hR0 : R.2 = 0
       · have hne0 : (R.2 != 0) = false := by simpa using hR0
         have HE3 := hdd (hE3 hR0); have HE3b := hdd (hE3 hR0); have HVs := hdd (show w.heap.size ≤ (V.alloc OF).heap.size by have := hAl.size; omega); have HR0 := hdd hR0; obtain ⟨y0, y1, y2, y3, y4, y5, y6, y7⟩ := Ob.lg hS3.lg; have x2 := hS3.b2.cell (j := 0) (v := .pointer (some ⟨b, 0, none⟩)) rfl; have x5 := hS3.b5.cell (j := 0) (v := vI (wrap64 (g + 1))) rfl; have x6 := hS3.b6.cell (j := 0) (v := vI ((1 - half : Nat) : Int)) rfl; have x7 := hS3.b7.cell (j := 0) (v := .slice Av (strm es).length cv) rfl; obtain ⟨lov, hiv, hbv, -⟩ := HE3.out; obtain ⟨A3, c3, rfl, -⟩ := hbv.form; have x8 := hv3.cell (j := 0) (v := .slice A3 ((strm es).drop (63 * ((strm es).length / 63))).length c3) rfl; have fb1 := hS3.lg.frozen 1; have fb2 := hS3.lg.frozen 2; have fb3 := hS3.lg.frozen 3; have fb5 := hS3.lg.frozen 5; have fb6 := hS3.lg.frozen 6; have fb7 := hS3.lg.frozen 7; generalize hTL : ((strm es).drop (63 * ((strm es).length / 63))).length = tln at *; have HTL := hdd hTL; have HV3 := hdd hv3; have hwne : w.heap.size ≠ b := by omega
         have hpne : p5 ≠ b ∧ p6 ≠ b ∧ p7 ≠ b ∧ p7 + 1 ≠ b := by omega
         clear hR0 hE3 hbv hTL hv3 hS3; go_wp2_with fail; have hdr := (Below.refl V4.heap.size V4).drew; have r2 := HS3.out.b2.same hdr; have r5 := HS3.out.b5.same hdr; have r6 := HS3.out.b6.same hdr; have r7 := HS3.out.b7.same hdr; have r8 := HV3.out.same hdr; have rb := HS3.out.lg.same hdr; have rK : Kept (fun i => i ≠ b ∧ i < V4.heap.size) V4 V4.drew := Kept.of_below hdr fun i hi => hi.2
         clear hdr y0 y1 y2 y3 y4 y5 y6 y7 x2 x5 x6 x7 x8 fb1 fb2 fb3 fb5 fb6 fb7
         refine Pu.regionM [(0, false), (1, false), (2, false), (3, false), (4, false), (5, false), (6, false), (7, false), (8, false), (9, false), (10, false), (11, false), (13, false), (14, false), (16, false), (17, false), (19, false), (20, false), (22, false), (23, false), (12, true), (15, true), (18, true), (21, true), (24, true)]
           (fun V => Ob V w.heap.size 122 #[.pointer (some ⟨b, 0, none⟩)] ∧ Ob V p5 3 #[vI (wrap64 (g + 1))] ∧ Ob V p6 3 #[vI ((1 - half : Nat) : Int)] ∧ Ob V p7 35 #[.slice Av (strm es).length cv] ∧ Ob V (p7 + 1) 35 #[.slice A3 tln c3]) hmx (by kernel_rfl) (by kernel_rfl) (by kernel_rfl) ⟨r2, r5, r6, r7, r8⟩ rfl ?_
         simp only [Pu.named, List.filterMap_cons, List.filterMap_nil, zzJ, zzK, zzL, zzM]
         iterate 20 (apply Pu.WalkM.on (by rfl)
                     · rintro V ⟨j2, j5, j6, j7, j8⟩
                       have q2 := j2.cell (j := 0) (v := .pointer (some ⟨b, 0, none⟩)) rfl; have q5 := j5.cell (j := 0) (v := vI (wrap64 (g + 1))) rfl; have q6 := j6.cell (j := 0) (v := vI ((1 - half : Nat) : Int)) rfl; have q7 := j7.cell (j := 0) (v := .slice Av (strm es).length cv) rfl; have q8 := j8.cell (j := 0) (v := .slice A3 tln c3) rfl; go_wp2_with fail; refine ⟨rfl, ?_, rfl⟩
                       try simp only [Act.put, zzA, zzB, zzC]
                       rfl
                     simp only [Act.put, zzA, zzB, zzC])
         refine Pu.WalkM.make (by rfl) ?_; rintro U0 hU0; have cb := rb.cell (j := 1) (v := vI g) rfl; have fb := rb.frozen 1; rw [← hU0] at cb fb rb r2 r5 r6 r7 r8 rK; clear hU0; go_wp2_with fail; have gs := grownBy_set U0 b 1 (vI (wrap64 (g + 1))); replace r2 := r2.other hwne 1 (vI (wrap64 (g + 1))); replace r5 := r5.other hpne.1 1 (vI (wrap64 (g + 1))); replace r6 := r6.other hpne.2.1 1 (vI (wrap64 (g + 1))); replace r7 := r7.other hpne.2.2.1 1 (vI (wrap64 (g + 1))); replace r8 := r8.other hpne.2.2.2 1 (vI (wrap64 (g + 1))); replace rb := rb.set 1 (vI (wrap64 (g + 1))); replace rK : Kept (fun i => i ≠ b ∧ i < V4.heap.size) V4 _ := rK.trans (Kept.of_grown gs fun i hi => ⟨by have := rK.size; omega, fun e => hi.1 (Option.some.inj e)⟩); refine ⟨rfl, undef, (fun V => Ob V w.heap.size 122 #[.pointer (some ⟨b, 0, none⟩)] ∧ Ob V p5 3 #[vI (wrap64 (g + 1))] ∧ Ob V p6 3 #[vI ((1 - half : Nat) : Int)] ∧ Ob V p7 35 #[.slice Av (strm es).length cv] ∧ Ob V (p7 + 1) 35 #[.slice A3 tln c3]), (fun V => V = U0.setCell ⟨b, 1, none⟩ (vI (wrap64 (g + 1)))), rfl, rfl, (fun V h => by rw [h]; exact ⟨r2, r5, r6, r7, r8⟩), (.inr (fun _ h => h)), ?_⟩; simp only [Act.put]; clear cb fb gs; generalize U0.setCell ⟨b, 1, none⟩ (vI (wrap64 (g + 1))) = X0 at *; refine Pu.WalkM.make (by rfl) ?_; rintro U1 hU1; have cb := rb.cell (j := 2) (v := vI half) rfl; have fb := rb.frozen 2; rw [← hU1] at cb fb rb r2 r5 r6 r7 r8 rK; clear hU1; go_wp2_with fail; have gs := grownBy_set U1 b 2 (vI ((1 - half : Nat) : Int))
         replace r2 := r2.other hwne 2 (vI ((1 - half : Nat) : Int)); replace r5 := r5.other hpne.1 2 (vI ((1 - half : Nat) : Int)); replace r6 := r6.other hpne.2.1 2 (vI ((1 - half : Nat) : Int)); replace r7 := r7.other hpne.2.2.1 2 (vI ((1 - half : Nat) : Int)); replace r8 := r8.other hpne.2.2.2 2 (vI ((1 - half : Nat) : Int)); replace rb := rb.set 2 (vI ((1 - half : Nat) : Int)); replace rK : Kept (fun i => i ≠ b ∧ i < V4.heap.size) V4 _ := rK.trans (Kept.of_grown gs fun i hi => ⟨by have := rK.size; omega, fun e => hi.1 (Option.some.inj e)⟩); refine ⟨rfl, undef, (fun V => Ob V w.heap.size 122 #[.pointer (some ⟨b, 0, none⟩)] ∧ Ob V p5 3 #[vI (wrap64 (g + 1))] ∧ Ob V p6 3 #[vI ((1 - half : Nat) : Int)] ∧ Ob V p7 35 #[.slice Av (strm es).length cv] ∧ Ob V (p7 + 1) 35 #[.slice A3 tln c3]), (fun V => V = U1.setCell ⟨b, 2, none⟩ (vI ((1 - half : Nat) : Int))), rfl, rfl, (fun V h => by rw [h]; exact ⟨r2, r5, r6, r7, r8⟩), (.inr (fun _ h => h)), ?_⟩; simp only [Act.put]; clear cb fb gs; generalize U1.setCell ⟨b, 2, none⟩ (vI ((1 - half : Nat) : Int)) = X1 at *; refine Pu.WalkM.make (by rfl) ?_; rintro U2 hU2; have cb := rb.cell (j := 5) (v := vI us) rfl; have fb := rb.frozen 5; rw [← hU2] at cb fb rb r2 r5 r6 r7 r8 rK; clear hU2; go_wp2_with fail; have gs := grownBy_set U2 b 5 (vI ((strm es).length : Int)); replace r2 := r2.other hwne 5 (vI ((strm es).length : Int)); replace r5 := r5.other hpne.1 5 (vI ((strm es).length : Int)); replace r6 := r6.other hpne.2.1 5 (vI ((strm es).length : Int))
         replace r7 := r7.other hpne.2.2.1 5 (vI ((strm es).length : Int)); replace r8 := r8.other hpne.2.2.2 5 (vI ((strm es).length : Int)); replace rb := rb.set 5 (vI ((strm es).length : Int)); replace rK : Kept (fun i => i ≠ b ∧ i < V4.heap.size) V4 _ := rK.trans (Kept.of_grown gs fun i hi => ⟨by have := rK.size; omega, fun e => hi.1 (Option.some.inj e)⟩); refine ⟨rfl, undef, (fun V => Ob V w.heap.size 122 #[.pointer (some ⟨b, 0, none⟩)] ∧ Ob V p5 3 #[vI (wrap64 (g + 1))] ∧ Ob V p6 3 #[vI ((1 - half : Nat) : Int)] ∧ Ob V p7 35 #[.slice Av (strm es).length cv] ∧ Ob V (p7 + 1) 35 #[.slice A3 tln c3]), (fun V => V = U2.setCell ⟨b, 5, none⟩ (vI ((strm es).length : Int))), rfl, rfl, (fun V h => by rw [h]; exact ⟨r2, r5, r6, r7, r8⟩), (.inr (fun _ h => h)), ?_⟩; simp only [Act.put]; clear cb fb gs; generalize U2.setCell ⟨b, 5, none⟩ (vI ((strm es).length : Int)) = X2 at *; refine Pu.WalkM.make (by rfl) ?_; rintro U3 hU3; have cb := rb.cell (j := 6) (v := tv) rfl; have fb := rb.frozen 6; rw [← hU3] at cb fb rb r2 r5 r6 r7 r8 rK; clear hU3; go_wp2_with fail; have gs := grownBy_set U3 b 6 (.slice A3 tln c3); replace r2 := r2.other hwne 6 (.slice A3 tln c3); replace r5 := r5.other hpne.1 6 (.slice A3 tln c3); replace r6 := r6.other hpne.2.1 6 (.slice A3 tln c3); replace r7 := r7.other hpne.2.2.1 6 (.slice A3 tln c3); replace r8 := r8.other hpne.2.2.2 6 (.slice A3 tln c3); replace rb := rb.set 6 (.slice A3 tln c3); replace rK : Kept (fun i => i ≠ b ∧ i < V4.heap.size) V4 _ := rK.trans (Kept.of_grown gs fun i hi => ⟨by have := rK.size; omega, fun e => hi.1 (Option.some.inj e)⟩)
         refine ⟨rfl, undef, (fun V => Ob V w.heap.size 122 #[.pointer (some ⟨b, 0, none⟩)] ∧ Ob V p5 3 #[vI (wrap64 (g + 1))] ∧ Ob V p6 3 #[vI ((1 - half : Nat) : Int)] ∧ Ob V p7 35 #[.slice Av (strm es).length cv] ∧ Ob V (p7 + 1) 35 #[.slice A3 tln c3]), (fun V => V = U3.setCell ⟨b, 6, none⟩ (.slice A3 tln c3)), rfl, rfl, (fun V h => by rw [h]; exact ⟨r2, r5, r6, r7, r8⟩), (.inr (fun _ h => h)), ?_⟩; simp only [Act.put]; clear cb fb gs; generalize U3.setCell ⟨b, 6, none⟩ (.slice A3 tln c3) = X3 at *; refine Pu.WalkM.make (by rfl) ?_; rintro U4 hU4; have cb := rb.cell (j := 7) (v := .bool true) rfl; have fb := rb.frozen 7; rw [← hU4] at cb fb rb r2 r5 r6 r7 r8 rK; clear hU4; go_wp2_with fail; have gs := grownBy_set U4 b 7 (.bool false); replace r2 := r2.other hwne 7 (.bool false); replace r5 := r5.other hpne.1 7 (.bool false); replace r6 := r6.other hpne.2.1 7 (.bool false); replace r7 := r7.other hpne.2.2.1 7 (.bool false); replace r8 := r8.other hpne.2.2.2 7 (.bool false); replace rb := rb.set 7 (.bool false); replace rK : Kept (fun i => i ≠ b ∧ i < V4.heap.size) V4 _ := rK.trans (Kept.of_grown gs fun i hi => ⟨by have := rK.size; omega, fun e => hi.1 (Option.some.inj e)⟩); refine ⟨rfl, undef, (fun V => Ob V w.heap.size 122 #[.pointer (some ⟨b, 0, none⟩)] ∧ Ob V p5 3 #[vI (wrap64 (g + 1))] ∧ Ob V p6 3 #[vI ((1 - half : Nat) : Int)] ∧ Ob V p7 35 #[.slice Av (strm es).length cv] ∧ Ob V (p7 + 1) 35 #[.slice A3 tln c3]), (fun V => V = U4.setCell ⟨b, 7, none⟩ (.bool false)), rfl, rfl, (fun V h => by rw [h]; exact ⟨r2, r5, r6, r7, r8⟩), (.inr (fun _ h => h)), ?_⟩
         simp only [Act.put]; clear cb fb gs; generalize U4.setCell ⟨b, 7, none⟩ (.bool false) = X4 at *; refine Pu.WalkM.nil ?_; rintro V5 rfl; replace rb : Ob V5 b 218 (lgC d (wrap64 (g + 1)) (1 - half) ev su ((strm es).length : Int) (.slice A3 tln c3) false) := rb; have c3' := rb.cell (j := 3) (v := ev) rfl; have f3' := rb.frozen 3; have x2' := r2.cell (j := 0) (v := .pointer (some ⟨b, 0, none⟩)) rfl; have gs := grownBy_set V5 b 3 vN; have o3 := rb.set 3 vN; replace r2 := r2.other hwne 3 vN; replace rK := rK.trans (Kept.of_grown (Fr := fun i => i ≠ b ∧ i < V4.heap.size) gs fun i hi => ⟨by have := rK.size; omega, fun e => hi.1 (Option.some.inj e)⟩); have hs5 := rK.size; have hV4s := HS3.out.fr.size; have hN2 := HN.out; have hdv' : d < w.heap.size ∧ sb < w.heap.size ∧ mb < w.heap.size := ⟨hN2.dv.1, hN2.dv.2.1, hN2.dv.2.2.1⟩; have hEx : Ents (V5.setCell ⟨b, 3, none⟩ vN) Fx vals es := ((HEn.out.kept (HS3.out.fr.mono fun i hi => HFx.out i hi)).kept (rK.mono fun i hi => by have := HFx.out i hi; omega)); have hXs : Sl (V5.setCell ⟨b, 3, none⟩ vN) xlo xhi 1 (.slice Ax es.length cx) es.length vals := rK.sl (HS3.out.fr.sl HX.out fun i a c => HFx.out i (hxF i a c)) fun i a c => by have := HFx.out i (hxF i a c); omega
         have hDx : DvAt (V5.setCell ⟨b, 3, none⟩ vN) base d sb mb R.1 := HD3.out.kept rK (by omega) (by omega) (by omega); have hTx : EntAt (V5.setCell ⟨b, 3, none⟩ vN) (fun i => w.heap.size ≤ i ∧ i < V4.heap.size) (.slice A3 tln c3) ((strm es).drop (63 * ((strm es).length / 63))) := (HE3b.out.lt.mono (Fr' := fun i => w.heap.size ≤ i ∧ i < V4.heap.size) fun i hi => by have := HVs.out; omega).kept (rK.mono fun i hi => by omega); have hFw : Kept (fun i => i < w.heap.size ∧ i ≠ b ∧ i ≠ d ∧ i ≠ sb ∧ i ≠ mb) w (V5.setCell ⟨b, 3, none⟩ vN) := HS3.out.fr.trans (rK.mono fun i hi => by omega); clear gs; go_wp2_with fail; replace o3 : Ob _ b 218 (lgC d (wrap64 (g + 1)) (1 - half) vN su ((strm es).length : Int) (.slice A3 tln c3) false) := o3; generalize V5.setCell ⟨b, 3, none⟩ vN = V6 at *; obtain ⟨B6, hB6⟩ : ∃ B6, V6.heap.size = B6 := ⟨_, rfl⟩; have hB6w : w.heap.size < B6 ∧ V4.heap.size ≤ B6 := by have := HS3.out.b2.lt; omega
         obtain ⟨i1, hi1, hq0, hq1, hq2⟩ := inf3 slice_info; have HXs := hdd hXs; have HEx := hdd hEx; have HDx := hdd hDx; have HTx := hdd hTx; have HFw := hdd hFw; have HB6 := hdd hB6; clear hXs hEx hDx hTx hFw c3' f3' x2' r5 r6 r7 r8 rb
         go_loopw [13, 81] (fun _ i wr => ∃ (k : Nat) (ev' : Value) (vs : List Value), k ≤ es.length ∧ i = vI k ∧ Ob wr b 218 (lgC d (wrap64 (g + 1)) (1 - half) ev' su ((strm es).length : Int) (.slice A3 tln c3) false) ∧ wr.ownsRow B6 35 1 ev' k vs ∧ Ents wr (fun i => B6 ≤ i ∧ ev'.ownBlock ≠ some i) vs (es.take k) ∧
           Ob wr w.heap.size 122 #[.pointer (some ⟨b, 0, none⟩)] ∧ Kept (fun i => i < B6 ∧ i ≠ b) V6 wr) (fun _ i _ => es.length - (intOf i).toNat)
         case atStart => exact ⟨0, _, [], by omega, rfl, o3, World.ownsRow_nil _ _ _ _, trivial, r2, Kept.refl _ _⟩
         case round =>
           clear o3 r2; obtain ⟨k, ev', vs, hk, rfl, o3, hrow, hEs, r2, hKr⟩ := hrel
           by_cases hlt : k < es.length
           · obtain ⟨xe, hvk, hek⟩ := HEx.out.get k hlt
             obtain ⟨Ax', cx', e', -, -, h3⟩ := HXs.out.at_
             cases e'
             obtain ⟨xb, xo, rfl, hxb1, hxb2, hcell⟩ := h3 (by omega); have hck := (hcell k (by omega)).trans hvk; have hxl := HFx.out xb (hxF xb hxb1 hxb2); have hcw : wr.cell? ⟨xb, xo + k, none⟩ = some xe := (World.cell?_of_block (hKr.block xb (by have := hB6w; omega))).trans hck; have hdr := (Below.refl wr.heap.size wr).drew; have hek2 : EntAt wr Fx xe es[k] := hek.kept (hKr.mono fun i hi => by have := HFx.out i hi; omega); have hbe := (hek2.same hdr).bytes; have hel := HOK.out es[k] (List.getElem_mem hlt); have cC := hdd (cloneb_calls es[k] xe wr.drew hbe (by omega)); have HTK := hdd (show es.take (k + 1) = es.take k ++ [es[k]] from List.take_succ_eq_append_getElem hlt); generalize es[k] = ek at *; have hvl : vs.length = k := by have := hrow.1; omega
             obtain ⟨Ap, cp, rfl, -⟩ := (Sl.of_own hrow).at_; have r2d := r2.same hdr; have o3d := o3.same hdr; have hrowd := ownsRow_below hrow hdr; have hEsd := hEs.same hdr; have hKd := hKr.trans (Kept.of_below (Fr := fun i => i < B6 ∧ i ≠ b) hdr fun i hi => by have := hKr.size; have := HB6.out; omega); have hwrs := hKr.size; have HRW := hdd (fun g hg => (hrow.lt g hg).2); obtain ⟨loe, hie, hbe2, -⟩ := hek2; obtain ⟨Ae, ce, rfl, -⟩ := hbe2.form; clear hbe2 hbe hek hrow r2 o3 hEs hKr h3 hcell hvk hck; go_wp2_with fail; refine Pq.regionT (.look 0 (.look 1 (.look 2 (.look 3 (.look 4 (.look 5 (.look 9 (.look 10 (.make 6 (.make 7 (.make 8 (.make 11 .nil)))))))))))) (fun V => Ob V w.heap.size 122 #[.pointer (some ⟨b, 0, none⟩)] ∧ Ob V b 218 (lgC d (wrap64 (g + 1)) (1 - half) (.slice Ap k cp) su ((strm es).length : Int) (.slice A3 tln c3) false)) hmx (by kernel_rfl) (by kernel_rfl) (by kernel_rfl) ⟨r2d, o3d⟩ rfl ?_; simp only [Pq.named, Pq.rest, zzJ, zzK, zzL, zzM]
             iterate 8 (apply Pq.WalkT.on (by rfl)
                        · rintro V ⟨j2, j3⟩
                          have q2 := j2.cell (j := 0) (v := .pointer (some ⟨b, 0, none⟩)) rfl; have q3 := j3.cell (j := 3) (v := .slice Ap k cp) rfl; go_wp2_with fail; refine ⟨rfl, ?_, rfl⟩
                          try simp only [Act.put, zzA, zzB, zzC]
                          rfl
                        simp only [Act.put, zzA, zzB, zzC])
             refine Pq.WalkT.make (by rfl) ?_; rintro T1 rfl; go_wp2_with (go_at_call 112; refine cC.out.mono ?_; rintro e T2 ⟨⟨cl, rfl, hcl⟩, hbT⟩); have r22 := r2d.same hbT; have o32 := o3d.same hbT; have hrow2 := ownsRow_below hrowd hbT; have hEs2 := hEsd.same hbT; have hK2 := hKd.trans (Kept.of_below (Fr := fun i => i < B6 ∧ i ≠ b) hbT fun i hi => by have := hKd.size; have := HB6.out; omega); have hT2s := hbT.size; have hT1s := hdr.size; have hcE := EntAt.own hcl; have hcL : ∀ g, cl.ownBlock = some g → wr.drew.heap.size ≤ g ∧ g < T2.heap.size := fun g hg => hcl.lt g hg
             obtain ⟨A8, c8, rfl, -⟩ := (BytesAt.of_own hcl).form; refine Pq.mk3 (.slice A8 ek.length c8) ⟨r22, o32⟩ ?_ ?_
             · try simp only [Act.put, zzA, zzB, zzC]
               try rfl
             simp only [Act.put, zzA, zzB, zzC]; refine Pq.WalkT.make (by rfl) ?_; rintro T3 rfl; go_wp2_with fail; refine Pq.mk3 (.slice (some ⟨T3.heap.size, 0, none⟩) 1 1) ⟨r22.alloc _, o32.alloc _⟩ ?_ ?_
             · try simp only [Act.put, zzA, zzB, zzC]
               try rfl
             simp only [Act.put, zzA, zzB, zzC]; have hA4 := Sl.new T3 #[.slice A8 ek.length c8] 35 (n := 1) (size := 1) rfl (by unfold maxLen; omega); have hal := (Below.refl T3.heap.size T3).alloc (Nat.le_refl _) (.cells #[.slice A8 ek.length c8] 35); replace r22 := r22.alloc (.cells #[.slice A8 ek.length c8] 35); replace o32 := o32.alloc (.cells #[.slice A8 ek.length c8] 35); replace hrow2 := hrow2.alloc (.cells #[.slice A8 ek.length c8] 35); replace hEs2 := hEs2.lt.same hal; replace hcE := hcE.same hal; replace hK2 := hK2.trans (Kept.of_below (Fr := fun i => i < B6 ∧ i ≠ b) hal fun i hi => by have := hK2.size; have := HB6.out; omega); have hs4 : (T3.alloc (.cells #[.slice A8 ek.length c8] 35)).heap.size = T3.heap.size + 1 := by simp
             have HS4 := hdd hs4; refine Pq.WalkT.make (by rfl) ?_; rintro T4 hT4; rw [← hT4] at r22 o32 hrow2 hEs2 hcE hK2 hA4 HS4; clear hT4 hs4 hal hrowd hEsd hKd hbT; have hrl := hrow2.lt; have HRL := hdd hrl; refine wpList_append_sl _ rfl (.tmp 89) (.tmp 92) _ rfl B6 35 i1 _ 1 24 Tryz.underlying162 hi1 hq0 hq1 hq2 rfl (by omega) (.slice Ap k cp) k vs rfl hrow2 T3.heap.size (T3.heap.size + 1) _ 1 [.slice A8 ek.length c8] rfl hA4 (by simp [Value.oneCell']) (by unfold maxLen; omega) (by omega) (by have := HS4.out; have := HB6.out; have := hK2.size; omega) ?_; intro v1 T5 hv1 hgx hat1; have hne2 : some w.heap.size ≠ (Value.slice Ap k cp).ownBlock := fun e => by have := (HRL.out _ e.symm).1; omega
             have hneb : some b ≠ (Value.slice Ap k cp).ownBlock := fun e => by have := (HRL.out _ e.symm).1; omega
             have r25 := r22.kept hgx hne2; have o35 := o32.kept hgx hneb; have hK5 := hK2.trans (Kept.of_grown (Fr := fun i => i < B6 ∧ i ≠ b) hgx fun i hi => ⟨by have := hK2.size; have := HB6.out; omega, fun e => by have := (HRL.out _ e.symm).1; omega⟩); have hgs := hgx.size
             have hEs5 : Ents T5 (fun i => B6 ≤ i ∧ v1.ownBlock ≠ some i) vs (es.take k) := (hEs2.lt.kept (Kept.of_grown hgx fun i hi => ⟨hi.2, fun e => hi.1.1.2 e.symm⟩)).mono fun i hi => ⟨hi.1.1.1, fun e => by
               rcases hat1 with h | h
               · exact hi.1.1.2 (h.symm.trans e)
               · rw [h] at e; cases e; have := hi.1.2; have := HS4.out; omega⟩
             have hc5 : EntAt T5 (fun i => B6 ≤ i ∧ v1.ownBlock ≠ some i) (.slice A8 ek.length c8) ek := (hcE.kept (Kept.of_grown hgx fun i hi => by
               have h1 := hcL i hi; have h2 := HS4.out; refine ⟨by omega, fun e => ?_⟩; have h3 := (HRL.out i e.symm).2; have h4' := HRW.out i e.symm; omega)).mono fun i hi => ⟨by have := hcL i hi; have := HB6.out; omega, fun e => by
               have h1 := hcL i hi; rcases hat1 with h | h
               · have := HRW.out i (h.symm.trans e); omega
               · rw [h] at e; cases e; have := HS4.out; omega⟩
             have hEn5 := hEs5.snoc hc5; rw [← HTK.out] at hEn5; obtain ⟨A9, c9, rfl, -⟩ := (Sl.of_own hv1).at_; have HV1 := hdd hv1; have HEn5 := hdd hEn5; have HL1 := hdd (fun g hg => (hv1.lt g hg).1); clear hgx hat1 hEs5 hc5 hEn5 hv1 hEs2 hcE hrow2 hA4 r22 o32 hrl; refine Pq.mk3 (.slice A9 (k + 1) c9) ⟨r25, o35⟩ ?_ ?_
             · try simp only [Act.put, zzA, zzB, zzC]
               try rfl
             simp only [Act.put, zzA, zzB, zzC]; refine Pq.WalkT.make (by rfl) ?_; rintro T6 rfl; have q3 := o35.cell (j := 3) (v := .slice Ap k cp) rfl; have f3 := o35.frozen 3; go_wp2_with fail; have gs := grownBy_set T6 b 3 (.slice A9 (k + 1) c9); have r26 := r25.other (b' := b) (by omega) 3 (.slice A9 (k + 1) c9); have o36 := o35.set 3 (.slice A9 (k + 1) c9); have hV6' := HV1.out.kept gs (.inr fun e => by have := HL1.out b e; omega); have hE6 := (HEn5.out.lt.kept (Kept.of_grown gs fun i hi => ⟨hi.2, fun e => by cases e; omega⟩)).mono fun i hi => hi.1
             have hK6 := hK5.trans (Kept.of_grown (Fr := fun i => i < B6 ∧ i ≠ b) gs fun i hi => ⟨by have := hK5.size; have := HB6.out; omega, fun e => hi.2 (Option.some.inj e)⟩); refine ⟨rfl, undef, (fun _ => True), (fun V => V = T6.setCell ⟨b, 3, none⟩ (.slice A9 (k + 1) c9)), rfl, rfl, (fun _ _ => trivial), (.inl (by kernel_rfl)), Pq.WalkT.nil ?_⟩; rintro T7 rfl; simp only [Act.put]; generalize T6.setCell ⟨b, 3, none⟩ (.slice A9 (k + 1) c9) = T7 at *; have HV6 := hdd hV6'; have HE6 := hdd hE6; have HK6 := hdd hK6; clear q3 f3 gs r25 o35 hV6' hE6 hK6 hK5; go_wp2
             go_roundw
             case rel => exact ⟨k + 1, _, _, by omega, by go_num, o36, HV6.out, HE6.out, r26, HK6.out⟩
             case measure => simp [intOf]; omega
           · obtain rfl : k = es.length := by omega
             rw [List.take_length] at hEs; obtain ⟨Ap, cp, rfl, -⟩ := (Sl.of_own hrow).at_; have q2 := r2.cell (j := 0) (v := .pointer (some ⟨b, 0, none⟩)) rfl; have q4 := o3.cell (j := 4) (v := vI su) rfl; have f4 := o3.frozen 4; have gs := grownBy_set wr b 4 (vI (es.length : Int)); have o9 := o3.set 4 (vI (es.length : Int)); have hrb : (Value.slice Ap es.length cp).ownBlock ≠ some b := fun e => by have := (hrow.lt b e).1; omega
             have hrow9 := hrow.kept gs (.inr hrb); have hwrs := hKr.size; have hB6o := HB6.out; have hKf := hKr.trans (Kept.of_grown (Fr := fun i => i < B6 ∧ i ≠ b) gs fun i hi => ⟨by omega, fun e => hi.2 (Option.some.inj e)⟩); have hEf := (hEs.lt.kept (Kept.of_grown gs fun i hi => ⟨hi.2, fun e => by cases e; omega⟩)).mono fun i hi => hi.1
             have hTf := HTx.out.kept (hKf.mono fun i hi => by omega); have hrl := hrow.lt; have HO9 := hdd o9; have HRow9 := hdd hrow9; have HKf := hdd hKf; have HEf := hdd hEf; have HTf := hdd hTf; have HRl := hdd hrl; clear gs o9 hrow9 hKf hEf hTf hrl hrow hEs hKr; go_wp2; go_ret; rw [← HR.out, HR0.out]; refine ⟨rfl, HDx.out.kept HKf.out (by omega) (by omega) (by omega), fun h => absurd rfl h, fun _ => ⟨_, _, vs, HO9.out, row_wide HRow9.out (by omega), HEf.out.mono fun i hi => ⟨by omega, hi.2⟩, ?_⟩, HFw.out.trans (HKf.out.mono fun i hi => by omega)⟩; exact HTf.out.mono fun i hi => ⟨hi.1, fun e => by have := (HRl.out i e).1; omega⟩
       · have hne0 : (R.2 != 0) = true := by simpa using hR0
         have HR0 := hdd hR0; clear hR0 hE3 hv3 hS3; go_wp2; go_ret; rw [← HR.out]; exact ⟨rfl, HD3.out, fun _ => HS3.out.lg, fun h => absurd h HR0.out, HS3.out.fr⟩
end
end
section
open Go.RowKit Go.Maps
open Ce Se
def tailOf (L : Lg) : List UInt8 := (strm L.es).drop (63 * (used L / 63))
structure LgAt (w : World) (base b d sb mb : Nat) (X Y : Nat → Prop) (D : Dv) (L : Lg) : Prop where
 dv : DvAt w base d sb mb D
 len : 4 ≤ D.sure.length
 lg : ∃ ev tv vs, Ob w b 218 (lgC d L.g L.half ev L.sure (used L) tv L.fin) ∧ w.ownsRow base 35 1 ev L.es.length vs ∧ (∀ g, ev.ownBlock = some g → X g) ∧ (∀ g, ev.ownBlock = some g → g ≠ b ∧ g ≠ d ∧ g ≠ sb ∧ g ≠ mb) ∧
   Ents w (fun i => Y i ∧ ¬ X i) vs L.es ∧ EntAt w (fun i => Y i ∧ ¬ X i) tv (tailOf L)
 x : X b ∧ X d ∧ X sb ∧ X mb
 ne : b ≠ d ∧ b ≠ sb ∧ b ≠ mb
 xy : ∀ i, X i → Y i
 y : ∀ i, Y i → base ≤ i ∧ i < w.heap.size
 ok : LgOk L (szD D)
section
variable {w w' : World} {base b d sb mb : Nat} {D D' : Dv} {X Y : Nat → Prop} {L : Lg}
theorem LgAt.kept (h : LgAt w base b d sb mb X Y D L) (hk : Kept Y w w') : LgAt w' base b d sb mb X Y D L := by
 obtain ⟨h1, h2, ⟨ev, tv, vs, l1, l2, l3, l4, l5, l6⟩, h4, h5, h6, h7, h8⟩ := h; refine ⟨h1.kept hk (h6 _ h4.2.1) (h6 _ h4.2.2.1) (h6 _ h4.2.2.2), h2, ⟨ev, tv, vs, hk.ob l1 (h6 _ h4.1), ?_, l3, l4, l5.kept (hk.mono fun i hi => hi.1), l6.kept (hk.mono fun i hi => hi.1)⟩, h4, h5, h6, fun i hi => ⟨(h7 i hi).1, Nat.lt_of_lt_of_le (h7 i hi).2 hk.size⟩, h8⟩; refine ⟨l2.1, ?_⟩; rcases l2.2 with q | ⟨g, cap, cur, q1, q2, q3, q4⟩
 · exact .inl q
 · exact .inr ⟨g, cap, cur, q1, q2, (hk.block g (h6 _ (l3 g (by rw [q1]; rfl)))).trans q3, q4⟩
theorem LgAt.same (h : LgAt w base b d sb mb X Y D L) (hb : Below w.heap.size w w') : LgAt w' base b d sb mb X Y D L := h.kept (Kept.of_below hb fun i hi => (h.y i hi).2)
theorem find_off (h : DvAt w base d sb mb D) (ho : offD D = true) (h4 : 4 ≤ D.sure.length) (hc : w.cell? ⟨b, 0, none⟩ = some (.pointer (some ⟨d, 0, none⟩))) :
   Calls Tryz.prog 105 #[.pointer (some ⟨b, 0, none⟩)] w fun e w' => e = .returned (.tuple #[vN, vI 30]) ∧ w = w' := by
 have cR := hdd (read_off h ho 0 (by omega) (by omega)); clear h ho h4
 go_enter Tryz.func105, Tryz.ntmps105
 go_wp2
 go_loop [4, 5, 6, 7, 8, 11] (fun _ _ _ _ _ i => i = vO) (fun _ _ _ _ _ i => 1)
 case atStart => rfl
 case round =>
   subst hrel; go_wp2_with fail; refine cR.out.mono ?_; rintro e W ⟨rfl, rfl⟩; go_wp2; go_ret2; exact ⟨rfl, rfl⟩
end
end
section
open Go.RowKit Go.Maps
open Ce Se
def openD (D : Dv) : Dv × Option Lg × Int := openG writeD flushD lastD offD D.sure.length D
theorem anewG_len (D : Dv) (g : Int) (half size : Nat) (es : List (List UInt8)) : (anewG writeD flushD D g half size es).1.sure.length = D.sure.length := by
 unfold anewG; dsimp only
 split
 · exact wrG_len _ _ _ _
 split
 · rw [wrG_len, wrG_len]
 split
 · rw [lenF, wrG_len, wrG_len]
 split
 · rw [lenW, lenF, wrG_len, wrG_len]
 · rw [lenF, lenW, lenF, wrG_len, wrG_len]
section
variable {w w' : World} {base b d sb mb : Nat} {D D' : Dv} {X Y : Nat → Prop} {L : Lg}
theorem open_good (h : DvAt w base d sb mb D) (ho : offD D = false) (h4 : 4 ≤ D.sure.length) {R : Dv × Int} (hR : R = anewG writeD flushD D (findG (lastD D)).1 (findG (lastD D)).2 (szD D) (foundG (lastD D) (szD D))) :
   Calls Tryz.prog 64 #[.pointer (some ⟨d, 0, none⟩)] w fun e w' => DvAt w' base d sb mb R.1 ∧ Dev d sb mb w w' ∧
     (R.2 ≠ 0 → e = .returned (.tuple #[.pointer none, vI R.2])) ∧
     (R.2 = 0 → e = .returned (.tuple #[.pointer (some ⟨w.heap.size, 0, none⟩), vO]) ∧ ∃ ev tv vs, Ob w' w.heap.size 218 (lgC d (wrap64 ((findG (lastD D)).1 + 1)) (1 - (findG (lastD D)).2) ev (foundG (lastD D) (szD D)).length (strm (foundG (lastD D) (szD D))).length tv false) ∧
       w'.ownsRow (w.heap.size + 1) 35 1 ev (foundG (lastD D) (szD D)).length vs ∧ Ents w' (fun i => w.heap.size + 1 ≤ i ∧ ev.ownBlock ≠ some i) vs (foundG (lastD D) (szD D)) ∧
       EntAt w' (fun i => w.heap.size + 1 ≤ i ∧ ev.ownBlock ≠ some i) tv ((strm (foundG (lastD D) (szD D))).drop (63 * ((strm (foundG (lastD D) (szD D))).length / 63)))) := by
 have cL := hdd (len_calls h); have hd4 : decide (D.sure.length < 4) = false := by simp; omega
 have hdl := h.ob.lt; have hsl := h.sure.lt; have hml := h.map.lt; have e0 : Ob (w.alloc (.cells #[.pointer (some ⟨d, 0, none⟩), vO, vI 1, vN, vO, vO, vN, .bool false] 218)) w.heap.size 218 (logC d vN vN ⟨0, 1, [], 0, false⟩) := Ob.new w 218 #[.pointer (some ⟨d, 0, none⟩), vO, vI 1, vN, vO, vO, vN, .bool false]; have hB := (Below.refl w.heap.size w).alloc (Nat.le_refl _) (.cells #[.pointer (some ⟨d, 0, none⟩), vO, vI 1, vN, vO, vO, vN, .bool false] 218); have hs1 : (w.alloc (.cells #[.pointer (some ⟨d, 0, none⟩), vO, vI 1, vN, vO, vO, vN, .bool false] 218)).heap.size = w.heap.size + 1 := by simp
 have HF := hdd (foundG_fits (lastD D) (szD D)); have hbd := findG_bd (lastD D); have hlt := findG_lt (lastD D); have HDV := hdd h; have HS1 := hdd hs1; clear h hs1
 go_enter Tryz.func64, Tryz.ntmps64
 go_wp2_with fail; refine cL.out.mono ?_; rintro e W ⟨rfl, rfl⟩; go_wp2_with fail; generalize (w.alloc (.cells #[.pointer (some ⟨d, 0, none⟩), vO, vI 1, vN, vO, vO, vN, .bool false] 218)) = W1 at *; have hs1 := HS1.out; have cF := find_calls (HDV.out.same hB) h4 ho e0 (by omega); refine cF.mono ?_; rintro e W2 ⟨⟨xv, vals, rfl, hrow, hEn⟩, hO2, hK2⟩; have hs2 := hK2.size; have hD2 : DvAt W2 base d sb mb D := (HDV.out.same hB).kept hK2 (by omega) (by omega) (by omega); have hvn : vals.length = (foundG (lastD D) (szD D)).length := hEn.len; rw [hvn] at hrow; have cA := anew_calls hD2 h4 (by omega) hlt hbd.2 (ev := vN) (tv := vN) (su := 0) (us := 0) (fin := false) hO2 (by omega) (Fx := fun i => W1.heap.size ≤ i ∧ i < W2.heap.size) (Sl.of_own hrow) (fun i a c => ⟨a, c⟩) hEn.lt (fun i hi => by omega) HF.out.2 HF.out.1; rw [← hR] at cA; have CA := hdd cA; obtain ⟨Ax, cx, rfl, -⟩ := (Sl.of_own hrow).at_; have HK2 := hdd hK2; clear cA hO2 hEn hrow hvn hK2 e0 hD2 cL; go_wp2_with fail; refine CA.out.mono ?_; rintro e W3 ⟨rfl, hD3, hbad, hgood, hK3⟩; have hs3 := hK3.size; have HD3 := hdd hD3; have HDev := hdd (show Dev d sb mb w W3 from (Kept.of_below hB fun i hi => hi.1).trans ((HK2.out.mono fun i hi => by omega).trans (hK3.mono fun i hi => by omega))); have HG := hdd hgood; clear hD3 hbad hgood hK3 CA
 by_cases h0 : R.2 = 0
 · have hne : (R.2 != 0) = false := by simpa using h0
   obtain ⟨ev', tv', vs', q1, q2, q3, q4⟩ := HG.out h0; have H0 := hdd h0; have Q1 := hdd q1; have Q2 := hdd q2; have Q3 := hdd q3; have Q4 := hdd q4; clear h0 q1 q2 q3 q4 HG hR; go_wp2; go_ret2; exact ⟨HD3.out, HDev.out, fun h => absurd H0.out h, fun _ => ⟨rfl, ev', tv', vs', Q1.out, row_wide Q2.out (by omega), Q3.out.mono fun i hi => ⟨by omega, hi.2⟩, Q4.out.mono fun i hi => ⟨by omega, hi.2⟩⟩⟩
 · have hne : (R.2 != 0) = true := by simpa using h0
   have H0 := hdd h0; clear h0 HG hR; go_wp2; go_ret2; exact ⟨HD3.out, HDev.out, fun _ => rfl, fun h => absurd h H0.out⟩
theorem open_off (h : DvAt w base d sb mb D) (ho : offD D = true) (h4 : 4 ≤ D.sure.length) :
   Calls Tryz.prog 64 #[.pointer (some ⟨d, 0, none⟩)] w fun e w' => e = .returned (.tuple #[.pointer none, vI 30]) ∧ Below w.heap.size w w' := by
 have cL := hdd (len_calls h); have hd4 : decide (D.sure.length < 4) = false := by simp; omega
 have e0 : Ob (w.alloc (.cells #[.pointer (some ⟨d, 0, none⟩), vO, vI 1, vN, vO, vO, vN, .bool false] 218)) w.heap.size 218 #[.pointer (some ⟨d, 0, none⟩), vO, vI 1, vN, vO, vO, vN, .bool false] := Ob.new w 218 #[.pointer (some ⟨d, 0, none⟩), vO, vI 1, vN, vO, vO, vN, .bool false]; have hB := (Below.refl w.heap.size w).alloc (Nat.le_refl _) (.cells #[.pointer (some ⟨d, 0, none⟩), vO, vI 1, vN, vO, vO, vN, .bool false] 218); have cF := hdd (find_off (h.same hB) ho h4 (e0.k 0 rfl)); clear h e0
 go_enter Tryz.func64, Tryz.ntmps64
 go_wp2_with fail; refine cL.out.mono ?_; rintro e W ⟨rfl, rfl⟩; go_wp2_with fail; generalize (w.alloc (.cells #[.pointer (some ⟨d, 0, none⟩), vO, vI 1, vN, vO, vO, vN, .bool false] 218)) = W1 at *; refine cF.out.mono ?_; rintro e W2 ⟨rfl, rfl⟩; go_wp2; go_ret2; exact ⟨rfl, hB⟩
theorem open_arg (h : DvAt w base d sb mb D) (h4 : D.sure.length < 4) :
   Calls Tryz.prog 64 #[.pointer (some ⟨d, 0, none⟩)] w fun e w' => e = .returned (.tuple #[.pointer none, vI 1]) ∧ w = w' := by
 have cL := hdd (len_calls h); have hd4 : decide (D.sure.length < 4) = true := by simp; omega
 clear h
 go_enter Tryz.func64, Tryz.ntmps64
 go_wp2_with fail; refine cL.out.mono ?_; rintro e W ⟨rfl, rfl⟩; go_wp2; go_ret2; exact ⟨rfl, rfl⟩
theorem open_calls (h : DvAt w base d sb mb D) :
   Calls Tryz.prog 64 #[.pointer (some ⟨d, 0, none⟩)] w fun e w' => ∃ pv, e = .returned (.tuple #[pv, vI (openD D).2.2]) ∧ DvAt w' base d sb mb (openD D).1 ∧ Dev d sb mb w w' ∧
     ((openD D).2.1 = none → pv = .pointer none) ∧
     (∀ L, (openD D).2.1 = some L → ∃ b X Y, pv = .pointer (some ⟨b, 0, none⟩) ∧ LgAt w' base b d sb mb X Y (openD D).1 L ∧ ∀ i, Y i → i = d ∨ i = sb ∨ i = mb ∨ w.heap.size ≤ i) := by
 by_cases h4 : D.sure.length < 4
 · have e : openD D = (D, none, 1) := by unfold openD openG; rw [if_pos h4]
   rw [e]; refine (open_arg h h4).mono ?_; rintro e w' ⟨rfl, rfl⟩; exact ⟨_, rfl, h, Kept.refl _ _, fun _ => rfl, fun L hL => by cases hL⟩
 · cases ho : offD D with
   | true =>
     have e : openD D = (D, none, 30) := by unfold openD openG; rw [if_neg h4, ho]; rfl
     rw [e]; refine (open_off h ho (by omega)).mono ?_; rintro e w' ⟨rfl, hb⟩; exact ⟨_, rfl, h.same hb, Dev.of_below hb, fun _ => rfl, fun L hL => by cases hL⟩
   | false =>
     obtain ⟨R, hR⟩ : ∃ R, R = anewG writeD flushD D (findG (lastD D)).1 (findG (lastD D)).2 (szD D) (foundG (lastD D) (szD D)) := ⟨_, rfl⟩; have hlenR : R.1.sure.length = D.sure.length := by rw [hR]; exact anewG_len _ _ _ _ _
     have e : openD D = if R.2 ≠ 0 then (R.1, none, R.2) else (R.1, some (anewL ⟨(findG (lastD D)).1, (findG (lastD D)).2, [], 0, true⟩ (foundG (lastD D) (szD D)) 0), 0) := by
       unfold openD openG; rw [if_neg h4, ho, hR]
       rfl
     have hlo := h.lo; have hdl := h.ob.lt; have hsl := h.sure.lt; have hml := h.map.lt; refine (open_good h ho (by omega) hR).mono ?_; rintro e' w' ⟨q1, q2, q3, q4⟩
     by_cases h0 : R.2 = 0
     · rw [if_neg (by simp [h0])] at e
       obtain ⟨rfl, ev, tv, vs, o1, o2, o3, o4⟩ := q4 h0; rw [e]; refine ⟨_, rfl, q1, q2, (fun hh => by cases hh), fun L hL => ?_⟩; have hok := openG_ok (wr := writeD) (fl := flushD) (last := lastD) (off := offD) (len := D.sure.length) (D := D) (L := L) (by show (openD D).2.1 = some L; rw [e]; exact hL)
       cases hL
       unfold anewL at hok ⊢; rw [if_pos rfl] at hok ⊢; refine ⟨w.heap.size, fun i => i = w.heap.size ∨ i = d ∨ i = sb ∨ i = mb ∨ ev.ownBlock = some i, fun i => i = d ∨ i = sb ∨ i = mb ∨ (w.heap.size ≤ i ∧ i < w'.heap.size), rfl, ⟨q1, by show 4 ≤ R.1.sure.length; omega, ⟨ev, tv, vs, o1, row_wide o2 (by omega), fun g hg => .inr (.inr (.inr (.inr hg))), fun g hg => by have := (o2.lt g hg).1; omega, ?_, ?_⟩, ⟨.inl rfl, .inr (.inl rfl), .inr (.inr (.inl rfl)), .inr (.inr (.inr (.inl rfl)))⟩, by omega, fun i hi => ?_, fun i hi => ?_, ?_⟩, fun i hi => by omega⟩
       · refine o3.lt.mono fun i hi => ⟨.inr (.inr (.inr ⟨by omega, hi.2⟩)), ?_⟩
         rintro (h | h | h | h | h)
         · omega
         · omega
         · omega
         · omega
         · exact hi.1.2 h
       · refine o4.lt.mono fun i hi => ⟨.inr (.inr (.inr ⟨by omega, hi.2⟩)), ?_⟩
         rintro (h | h | h | h | h)
         · omega
         · omega
         · omega
         · omega
         · exact hi.1.2 h
       · rcases hi with h | h | h | h | h
         · have := o1.lt; exact .inr (.inr (.inr (by omega)))
         · exact .inl h
         · exact .inr (.inl h)
         · exact .inr (.inr (.inl h))
         · have := o2.lt i h; exact .inr (.inr (.inr (by omega)))
       · have := Kept.size q2
         omega
       · rw [szD_len hlenR]
         exact hok.1
     · rw [if_pos h0] at e
       rw [e]; exact ⟨_, q3 h0, q1, q2, fun _ => rfl, fun L hL => by cases hL⟩
end
end
section
open Go.RowKit Go.Maps
open Ce Se
structure Grew (w w' : World) (X Y X' Y' : Nat → Prop) : Prop where
 x : ∀ i, X' i → X i ∨ w.heap.size ≤ i
 y : ∀ i, Y' i → Y i ∨ w.heap.size ≤ i
 kp : Kept (fun i => i < w.heap.size ∧ ¬ X i) w w'
theorem Grew.of_kept {w w' : World} {X Y : Nat → Prop} (h : Kept (fun i => i < w.heap.size ∧ ¬ X i) w w') : Grew w w' X Y X Y := ⟨fun _ h => .inl h, fun _ h => .inl h, h⟩
section
variable {w w' : World} {base b d sb mb : Nat} {D D' : Dv} {X Y : Nat → Prop} {L : Lg}
theorem LgAt.look (h : LgAt w base b d sb mb X Y D L) : Lk base b d sb mb D w := by
 obtain ⟨ev, tv, vs, l1, -⟩ := h.lg; exact ⟨l1.k 0 rfl, D, h.dv, rfl⟩
theorem room_calls (h : LgAt w base b d sb mb X Y D L) :
   Calls Tryz.prog 243 #[.pointer (some ⟨b, 0, none⟩)] w fun e w' => e = .returned (vI (roomL L (szD D))) ∧ Below w.heap.size w w' := by
 obtain ⟨ev, tv, vs, l1, -⟩ := h.lg; have hdr := (Below.refl w.heap.size w).drew; have hlen := h.dv.len; have hz : szD D ≤ 8191 := by unfold szD; omega
 have hlk := (h.same hdr).look; have l1d := l1.same hdr; have h4 := h.len; have hfit : used L ≤ 63 * szD D := h.ok.fits; have HR := hdd (show roomL L (szD D) = 63 * (szD D : Int) - (used L : Int) from rfl); have CS := hdd (fun (V : World) (hV : Lk base b d sb mb D V) => hV.size h4); generalize used L = us at *; generalize szD D = z at *; clear h
 go_enter Tryz.func243, Tryz.ntmps243
 go_wp2_with fail; refine Pu.regionM [(0, false), (1, false), (2, false), (3, false), (4, false), (5, false), (6, false), (7, false), (8, false)] (fun V => Ob V b 218 (lgC d L.g L.half ev L.sure us tv L.fin) ∧ Lk base b d sb mb D V) hmx (by kernel_rfl) (by kernel_rfl) (by kernel_rfl) ⟨l1d, hlk⟩ rfl ?_; simp only [Pu.named, List.filterMap_cons, List.filterMap_nil, zzJ, zzK, zzL, zzM]
 iterate 1 (apply Pu.WalkM.on (by rfl)
            · rintro V hV
              go_wp2_with fail; refine ⟨rfl, ?_, rfl⟩
              try simp only [Act.put, zzA, zzB, zzC]
              rfl
            simp only [Act.put, zzA, zzB, zzC])
 iterate 1 (apply Pu.WalkM.on (by rfl)
            · rintro V ⟨j1, jk⟩
              go_wp2_with (go_at_call 133; refine (CS.out _ jk).mono ?_; rintro e W1 ⟨rfl, rfl⟩); refine ⟨rfl, ?_, rfl⟩
              try simp only [Act.put, zzA, zzB, zzC]
              rfl
            simp only [Act.put, zzA, zzB, zzC])
 iterate 7 (apply Pu.WalkM.on (by rfl)
            · rintro V ⟨j1, jk⟩
              have q5 := j1.cell (j := 5) (v := vI (us : Int)) rfl; go_wp2_with fail; refine ⟨rfl, ?_, rfl⟩
              try simp only [Act.put, zzA, zzB, zzC]
              rfl
            simp only [Act.put, zzA, zzB, zzC])
 refine Pu.WalkM.nil ?_; rintro V rfl; go_wp2; go_ret; rw [HR.out]; exact ⟨rfl, hdr⟩
theorem entries_made (pv : Option Addr) (w : World) :
   Calls Tryz.prog 69 #[.pointer pv] w fun e w' => e = .returned (.func (.func 111) #[] #[.pointer (some ⟨w.heap.size, 0, none⟩)]) ∧ w.alloc (.cells #[.pointer pv] 122) = w' := by
 go_enter Tryz.func69, Tryz.ntmps69
 go_wp2; go_ret; exact ⟨rfl, rfl⟩
end
end
section
open Go.RowKit Go.Maps
open Ce Se
section
variable {w w' : World} {base b d sb mb : Nat} {D D' : Dv} {X Y : Nat → Prop} {L : Lg}
theorem row_keptK {Fr : Nat → Prop} {lo : Nat} {e : TypeId} {size n : Nat} {v : Value} {xs : List Value} (h : w.ownsRow lo e size v n xs) (hk : Kept Fr w w') (hF : ∀ g, v.ownBlock = some g → Fr g) : w'.ownsRow lo e size v n xs := by
 refine ⟨h.1, ?_⟩; rcases h.2 with q | ⟨g, cap, cur, q1, q2, q3, q4⟩
 · exact .inl q
 · exact .inr ⟨g, cap, cur, q1, q2, (hk.block g (hF g (by rw [q1]; rfl))).trans q3, q4⟩
theorem LgAt.remake (h : LgAt w base b d sb mb X Y D L) (hk : Kept (fun i => i < w.heap.size ∧ i ≠ b ∧ i ≠ d ∧ i ≠ sb ∧ i ≠ mb) w w') (hD : DvAt w' base d sb mb D') (hl : D'.sure.length = D.sure.length) {su : Nat} {fin : Bool}
   (ho : ∀ ev tv, Ob w b 218 (lgC d L.g L.half ev L.sure (used L) tv L.fin) → Ob w' b 218 (lgC d L.g L.half ev su (used L) tv fin)) (hsu : su ≤ L.es.length) : LgAt w' base b d sb mb X Y D' { L with sure := su, fin := fin } := by
 obtain ⟨h1, h2, ⟨ev, tv, vs, l1, l2, l3, l4, l5, l6⟩, h4, h5, h6, h7, h8⟩ := h; have hF : ∀ i, Y i ∧ ¬ X i → i < w.heap.size ∧ i ≠ b ∧ i ≠ d ∧ i ≠ sb ∧ i ≠ mb := fun i hi => ⟨(h7 i hi.1).2, fun e => hi.2 (e ▸ h4.1), fun e => hi.2 (e ▸ h4.2.1), fun e => hi.2 (e ▸ h4.2.2.1), fun e => hi.2 (e ▸ h4.2.2.2)⟩
 refine ⟨hD, by omega, ⟨ev, tv, vs, ho _ _ l1, row_keptK l2 hk fun g hg => ⟨(l2.lt g hg).2, l4 g hg⟩, l3, l4, l5.kept (hk.mono hF), l6.kept (hk.mono hF)⟩, h4, h5, h6, fun i hi => ⟨(h7 i hi).1, Nat.lt_of_lt_of_le (h7 i hi).2 hk.size⟩, ?_⟩; rw [szD_len hl]; exact ⟨h8.g1, h8.g2, h8.hf, h8.fits, h8.ok, hsu⟩
theorem kept_x (hx : X b ∧ X d ∧ X sb ∧ X mb) (hk : Kept (fun i => i < w.heap.size ∧ i ≠ b ∧ i ≠ d ∧ i ≠ sb ∧ i ≠ mb) w w') : Kept (fun i => i < w.heap.size ∧ ¬ X i) w w' :=
 hk.mono fun i hi => ⟨hi.1, fun e => hi.2 (e ▸ hx.1), fun e => hi.2 (e ▸ hx.2.1), fun e => hi.2 (e ▸ hx.2.2.1), fun e => hi.2 (e ▸ hx.2.2.2)⟩
theorem sync_calls (h : LgAt w base b d sb mb X Y D L) :
   Calls Tryz.prog 122 #[.pointer (some ⟨b, 0, none⟩)] w fun e w' => e = .returned (vI (syncG flushD D L).2.2) ∧ LgAt w' base b d sb mb X Y (syncG flushD D L).1 (syncG flushD D L).2.1 ∧ Kept (fun i => i < w.heap.size ∧ ¬ X i) w w' := by
 obtain ⟨ev, tv, vs, l1, l2, -⟩ := h.lg; have y0 := l1.cell (j := 0) (v := .pointer (some ⟨d, 0, none⟩)) rfl; have y7 := l1.cell (j := 7) (v := .bool L.fin) rfl; have H := hdd h; have hne := h.ne; have hbl := l1.lt; obtain ⟨Ae, ce, rfl, -⟩ := (Sl.of_own l2).at_
 cases hf : L.fin with
 | true =>
   have HS := hdd (show syncG flushD D L = (D, L, 30) by unfold syncG; rw [hf]; rfl); rw [hf] at y7; clear h l1 l2 hf
   go_enter Tryz.func122, Tryz.ntmps122
   go_wp2; go_ret; rw [HS.out]; exact ⟨rfl, H.out, Kept.refl _ _⟩
 | false =>
   have CF := hdd (flush_calls h.dv); have HS := hdd (show syncG flushD D L = if (flushD D).2 ≠ 0 then ((flushD D).1, { L with fin := true }, (flushD D).2) else ((flushD D).1, { L with sure := L.es.length }, 0) by unfold syncG; rw [hf]; rfl); rw [hf] at y7; have HF := hdd hf; clear h hf
   go_enter Tryz.func122, Tryz.ntmps122
   go_wp2_with fail; refine CF.out.mono ?_; rintro e W ⟨rfl, hD, hK⟩; have l1W := Kept.ob hK l1 ⟨hbl, hne⟩; have z3 := l1W.cell (j := 3) (v := .slice Ae L.es.length ce) rfl; have z4 := l1W.cell (j := 4) (v := vI (L.sure : Int)) rfl; have z7 := l1W.cell (j := 7) (v := .bool L.fin) rfl; have f4 := l1W.frozen 4; have f7 := l1W.frozen 7; have HD := hdd hD; have HK := hdd hK; have hsW := Kept.size hK; have HO := hdd (fun ev tv (ho : Ob w b 218 (lgC d L.g L.half ev L.sure (used L) tv L.fin)) => Kept.ob hK ho ⟨ho.lt, hne⟩); have hnd := hD.ob.lt; clear hD hK l1 l1W l2 CF
   by_cases h0 : (flushD D).2 = 0
   · have hq : ((flushD D).2 != 0) = false := by simpa using h0
     have HS2 := hdd (HS.out.trans (if_neg (by simp [h0]))); clear h0 HS; go_wp2; go_ret; rw [HS2.out]; have gs := grownBy_set W b 4 (vI (L.es.length : Int)); have hkk : Kept (fun i => i < w.heap.size ∧ i ≠ b ∧ i ≠ d ∧ i ≠ sb ∧ i ≠ mb) w (W.setCell ⟨b, 4, none⟩ (vI (L.es.length : Int))) := (Kept.mono HK.out fun i hi => ⟨hi.1, hi.2.2⟩).trans (Kept.of_grown gs fun i hi => ⟨by omega, fun e => hi.2.1 (Option.some.inj e)⟩)
     have hr := H.out.remake hkk (HD.out.kept (Kept.of_grown (Fr := fun i => i < W.heap.size ∧ i ≠ b) gs fun i hi => ⟨hi.1, fun e => hi.2 (Option.some.inj e)⟩) ⟨hnd, hne.1.symm⟩ ⟨HD.out.sure.lt, hne.2.1.symm⟩ ⟨HD.out.map.lt, hne.2.2.symm⟩) (lenF D) (su := L.es.length) (fin := false) (fun ev tv ho => by
       have := (HO.out ev tv ho).set 4 (vI (L.es.length : Int)); rw [HF.out] at this; exact this) (Nat.le_refl _)
     have e : ({ L with sure := L.es.length, fin := false } : Lg) = { L with sure := L.es.length } := by rw [← HF.out]
     rw [e] at hr; exact ⟨rfl, hr, kept_x H.out.x hkk⟩
   · have hq : ((flushD D).2 != 0) = true := by simpa using h0
     have HS2 := hdd (HS.out.trans (if_pos h0)); clear h0 HS; go_wp2; go_ret; rw [HS2.out]; have gs := grownBy_set W b 7 (.bool true); have hkk : Kept (fun i => i < w.heap.size ∧ i ≠ b ∧ i ≠ d ∧ i ≠ sb ∧ i ≠ mb) w (W.setCell ⟨b, 7, none⟩ (.bool true)) := (Kept.mono HK.out fun i hi => ⟨hi.1, hi.2.2⟩).trans (Kept.of_grown gs fun i hi => ⟨by omega, fun e => hi.2.1 (Option.some.inj e)⟩); have hr := H.out.remake hkk (HD.out.kept (Kept.of_grown (Fr := fun i => i < W.heap.size ∧ i ≠ b) gs fun i hi => ⟨hi.1, fun e => hi.2 (Option.some.inj e)⟩) ⟨hnd, hne.1.symm⟩ ⟨HD.out.sure.lt, hne.2.1.symm⟩ ⟨HD.out.map.lt, hne.2.2.symm⟩) (lenF D) (su := L.sure) (fin := true) (fun ev tv ho => (HO.out ev tv ho).set 7 (.bool true)) H.out.ok.sure; exact ⟨rfl, hr, kept_x H.out.x hkk⟩
end
end
end Wa
end Go.Proofs.YtgcnhmjpfbbfcaaGreat
