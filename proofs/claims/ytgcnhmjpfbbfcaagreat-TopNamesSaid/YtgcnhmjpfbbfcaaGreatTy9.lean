/-
  part of the proof of TopNames.
-/
import Derived.Test.YtgcnhmjpfbbfcaaGreatTy8
import Derived.Lib.SlBytesConst
import Derived.Deep.Upon
import Derived.StringKeys
import Derived.Carry
set_option linter.unusedVariables false
set_option linter.unusedSimpArgs false
set_option maxRecDepth 100000
set_option maxHeartbeats 8000000
namespace Go.Proofs.YtgcnhmjpfbbfcaaGreat
namespace Wa
section
open Go.RowKit Go.Maps
open Ce Se
theorem chF_drop (S : List UInt8) (q j : Nat) : chF (S.drop (63 * q)) j = chF S (q + j) := by
 unfold chF; rw [List.drop_drop, show 63 * q + 63 * j = 63 * (q + j) by omega]
theorem nch_drop (S : List UInt8) (q : Nat) (h : 63 * q ≤ S.length) : nch (S.drop (63 * q)) = nch S - q := by
 unfold nch; rw [List.length_drop]; omega
theorem tail_app (L : Lg) (l : List UInt8) : tailOf L ++ encE l = (strm (L.es ++ [l])).drop (63 * (used L / 63)) := by
 unfold tailOf; have h : 63 * (used L / 63) ≤ (strm L.es).length := by unfold used; omega
 rw [strm_snoc, List.drop_append_of_le_length h]
theorem app_eq (D : Dv) (L : Lg) (size : Nat) (l : List UInt8) : wrG writeD D (Wa.base L.half size + (used L / 63 : Nat)) (chF (tailOf L ++ encE l)) (nch (tailOf L ++ encE l)) = appG writeD D L size l := by
 unfold appG
 have h : 63 * (used L / 63) ≤ (strm (L.es ++ [l])).length := by
   rw [strm_snoc, List.length_append]; unfold used; omega
 rw [tail_app, nch_drop _ _ h]
 congr 1
 funext j
 exact chF_drop _ _ _
theorem tail_next (L : Lg) (l : List UInt8) : (tailOf L ++ encE l).drop (63 * ((tailOf L ++ encE l).length / 63)) = tailOf { L with es := L.es ++ [l] } := by
 have h : 63 * (used L / 63) ≤ (strm (L.es ++ [l])).length := by
   rw [strm_snoc, List.length_append]; unfold used; omega
 rw [tail_app, List.drop_drop, List.length_drop]; unfold tailOf; show List.drop _ (strm (L.es ++ [l])) = List.drop (63 * ((strm (L.es ++ [l])).length / 63)) (strm (L.es ++ [l]))
 congr 1
 omega
theorem tailOf_len (L : Lg) : (tailOf L).length ≤ 62 := by
 unfold tailOf used; rw [List.length_drop]; omega
section
variable {w w' : World} {base b d sb mb : Nat} {D D' : Dv} {X Y : Nat → Prop} {L : Lg}
theorem append_good (h : LgAt w base b d sb mb X Y D L) {l : List UInt8} {v : Value} (hI : EntAt w (fun i => ¬ X i) v l) (h1 : l.length ≤ 65536) (h2 : (l.length : Int) + 3 ≤ roomL L (szD D)) (h3 : L.fin = false) :
   Calls Tryz.prog 186 #[.pointer (some ⟨b, 0, none⟩), v] w fun e w' => e = .returned (.tuple #[vI (appendG writeD D L (szD D) l).2.2.1, vI (appendG writeD D L (szD D) l).2.2.2]) ∧
     ∃ X' Y', LgAt w' base b d sb mb X' Y' (appendG writeD D L (szD D) l).1 (appendG writeD D L (szD D) l).2.1 ∧ Grew w w' X Y X' Y' := by
 have cR := hdd (room_calls h); obtain ⟨ev, tv, vs, l1, l2, l3, l4, l5, l6⟩ := h.lg; have hcnt0 := strm_cnt L.es; obtain ⟨Ap, cp, rfl, -⟩ := (Sl.of_own l2).at_; have hlo := hI; obtain ⟨lo0, hi0, hbl0, -⟩ := hlo; obtain ⟨Ab, cb, rfl, hcb1, hcb2⟩ := hbl0.form; unfold maxLen at hcb2; have hd1 : decide ((l.length : Int) > 65536) = false := by simp; omega
 have hd2 : decide ((l.length : Int) + 3 > roomL L (szD D)) = false := by simp; omega
 have H := hdd h; have HIE := hdd hI
 have HA := hdd (show appendG writeD D L (szD D) l = if (appG writeD D L (szD D) l).2 ≠ 0 then ((appG writeD D L (szD D) l).1, { L with fin := true }, 0, (appG writeD D L (szD D) l).2) else ((appG writeD D L (szD D) l).1, { L with es := L.es ++ [l] }, (L.es.length : Int), 0) by
   unfold appendG; rw [if_neg (by omega), if_neg (by omega), h3]
   rfl)
 have HRM := hdd (show -600000 ≤ roomL L (szD D) ∧ roomL L (szD D) ≤ 600000 by
   have hlen := h.dv.len; have hfit := h.ok.fits; unfold roomL used szD at *; omega)
 generalize hrm : roomL L (szD D) = rm at *; have HR := hdd hrm; have hrmb := HRM.out; have hF := hdd h3; clear h hI hbl0 hrm h2 h3
 go_enter Tryz.func186, Tryz.ntmps186
 go_wp2_with fail; refine cR.out.mono ?_; rintro e w1 ⟨rfl, hb1⟩; have l11 := l1.same hb1; have y7 := l11.cell (j := 7) (v := .bool L.fin) rfl; rw [hF.out] at y7; have cE := entry_calls l _ w1 (HIE.out.same hb1).bytes h1; have CE := hdd cE; clear cE; go_wp2_with fail; refine CE.out.mono ?_; rintro e w2 ⟨⟨xv, rfl, hxv⟩, hb2⟩; have hb12 := hb1.trans (hb2.mono hb1.size); have hdr := hb12.drew; have hsd := hdr.size; have l1d := l1.same hdr; have hLd := H.out.same hdr; have hxE := (BytesAt.of_own hxv); obtain ⟨Ax, cx, rfl, -⟩ := hxE.form; have hxB : BytesAt w2.drew 0 w2.drew.heap.size (.slice Ax (encE l).length cx) (encE l) := (hxE.below (Below.refl _ w2).drew).wide (Nat.zero_le _) (Nat.le_refl _); have hlenT := tailOf_len L; have hencl := encE_len l; have HENC := hdd hencl; have hne := H.out.ne; have hlook := hLd.dv
 have hus : used L ≤ 600000 := by
   have := H.out.ok.fits; have := H.out.dv.len; unfold used szD at *; omega
 have cP := put_calls hLd.dv hLd.len (l1d.k 0 rfl) l1d.lt hne L.half (used L) hLd.ok.hf hus (tailOf L) (encE l) tv _ ((l6.same hdr).bytes) hxB (by omega); rw [app_eq] at cP; have CP := hdd cP; obtain ⟨lot, hit, hbt, -⟩ := l6; obtain ⟨At, ct, rfl, -⟩ := hbt.form; clear cP hxB hxE hxv hbt hlook l11 y7 cR CE hLd hencl; generalize happ : appG writeD D L (szD D) l = R at *; have HAP := hdd happ; clear happ; go_wp2_with fail; generalize hw3 : w2.drew = w3 at *
 refine Pu.regionM [(0, false), (1, false), (2, false), (3, false), (4, false), (5, false), (6, false), (7, false), (8, false), (9, false), (10, false), (11, false), (12, false), (13, false), (14, true), (15, false), (16, false), (17, false), (18, false), (19, false)]
   (fun V => Ob V b 218 (lgC d L.g L.half (.slice Ap L.es.length cp) L.sure (used L) (.slice At (tailOf L).length ct) L.fin)) hmx (by kernel_rfl) (by kernel_rfl) (by kernel_rfl) (by rw [hw3]; exact l1d) rfl ?_
 rw [hw3]; clear hw3; simp only [Pu.named, List.filterMap_cons, List.filterMap_nil, zzJ, zzK, zzL, zzM]
 iterate 14 (apply Pu.WalkM.on (by rfl)
             · rintro V hV
               have q2 := hV.cell (j := 2) (v := vI (L.half : Int)) rfl; have q5 := hV.cell (j := 5) (v := vI (used L : Int)) rfl; have q6 := hV.cell (j := 6) (v := .slice At (tailOf L).length ct) rfl; go_wp2_with fail; refine ⟨rfl, ?_, rfl⟩
               try simp only [Act.put, zzA, zzB, zzC]
               rfl
             simp only [Act.put, zzA, zzB, zzC])
 refine Pu.WalkM.make (by rfl) ?_; rintro V rfl; go_wp2_with fail; refine CP.out.mono ?_; rintro e W4 ⟨⟨nv, rfl, hn0, hn1⟩, hD4, hK4⟩; have HN0 := hdd hn0; have HN1 := hdd hn1; have HD4 := hdd hD4; have HK4 := hdd hK4; have hbl := l1d.lt; have l14 := Kept.ob hK4 l1d ⟨hbl, hne⟩; have hs4 := Kept.size hK4
 obtain ⟨An, nn, cn, rfl⟩ : ∃ A n c, nv = .slice A n c := by
   by_cases hr : R.2 = 0
   · obtain ⟨A, c, e, -⟩ := (Sl.of_own (hn0 hr)).at_
     exact ⟨_, _, _, e⟩
   · exact ⟨_, _, _, hn1 hr⟩
 clear hn0 hn1 hD4 hK4 CP; go_wp2_with fail; refine ⟨rfl, .tuple #[.slice An nn cn, vI R.2], (fun V => V = W4), (fun V => V = W4), ?_, rfl, (fun _ h => h), (.inr (fun V h => by rw [h]; exact l14)), ?_⟩
 · try simp only [Act.put, zzA, zzB, zzC]
   try rfl
 simp only [Act.put, zzA, zzB, zzC]
 iterate 5 (apply Pu.WalkM.on (by rfl)
            · rintro V hV
              rw [hV]; go_wp2_with fail; refine ⟨rfl, ?_, rfl⟩
              try simp only [Act.put, zzA, zzB, zzC]
              rfl
            simp only [Act.put, zzA, zzB, zzC])
 refine Pu.WalkM.nil ?_; rintro V4 rfl; have hKw : Kept (fun i => i < w.heap.size ∧ i ≠ d ∧ i ≠ sb ∧ i ≠ mb) w V4 := (Kept.of_below hdr fun i hi => hi.1).trans (Kept.mono HK4.out fun i hi => ⟨by omega, hi.2⟩); have HKw := hdd hKw; have hRl : R.1.sure.length = D.sure.length := by rw [← HAP.out]; exact wrG_len _ _ _ _
 have HRl := hdd hRl; have hbl0 := l1.lt; have hxX := H.out.x; have hV4w : w.heap.size ≤ V4.heap.size := hKw.size; have HL2 := hdd l2; have HL5 := hdd l5; have HL3 := hdd l3; have HL4 := hdd l4; have z3 := l14.cell (j := 3) (v := .slice Ap L.es.length cp) rfl; have z5 := l14.cell (j := 5) (v := vI (used L : Int)) rfl; have z6 := l14.cell (j := 6) (v := .slice At (tailOf L).length ct) rfl; have z7 := l14.cell (j := 7) (v := .bool L.fin) rfl; have f5 := l14.frozen 5; have f6 := l14.frozen 6; have f7 := l14.frozen 7; clear hKw hRl l1 l1d l2 l3 l4 l5 hdr hb12 hb1 hb2
 by_cases h0 : R.2 = 0
 · have hq : (R.2 != 0) = false := by simpa using h0
   have HA2 := hdd (HA.out.trans (if_neg (by simp [h0]))); have HNR := hdd (HN0.out h0); clear h0 HA HN0; have hel3 := HENC.out; have hel4 : (encE l).length ≤ 65539 := by omega
   clear hel3; go_wp2_with fail; have gs5 := (grownBy_set V4 b 5 (vI ((used L : Int) + ((encE l).length : Int)))).trans (grownBy_set _ b 6 (.slice An nn cn)); have o5 : Ob ((V4.setCell ⟨b, 5, none⟩ (vI ((used L : Int) + ((encE l).length : Int)))).setCell ⟨b, 6, none⟩ (.slice An nn cn)) b 218 (lgC d L.g L.half (.slice Ap L.es.length cp) L.sure ((used L : Int) + ((encE l).length : Int)) (.slice An nn cn) L.fin) := (l14.set 5 (vI ((used L : Int) + ((encE l).length : Int)))).set 6 (.slice An nn cn); have hk5 : Kept (fun i => i < V4.heap.size ∧ i ≠ b) V4 ((V4.setCell ⟨b, 5, none⟩ (vI ((used L : Int) + ((encE l).length : Int)))).setCell ⟨b, 6, none⟩ (.slice An nn cn)) := Kept.of_grown gs5 fun i hi => ⟨hi.1, fun e => hi.2 (Option.some.inj e)⟩
   generalize ((V4.setCell ⟨b, 5, none⟩ (vI ((used L : Int) + ((encE l).length : Int)))).setCell ⟨b, 6, none⟩ (.slice An nn cn)) = V5 at *; clear gs5 l14 z3 z5 z6 z7 f5 f6 f7; have hdr5 := (Below.refl V5.heap.size V5).drew; have hk5d : Kept (fun i => i < V4.heap.size ∧ i ≠ b) V4 V5.drew := hk5.trans (Kept.of_below hdr5 fun i hi => by have := hk5.size; omega); have hs5 := hk5d.size; replace o5 := o5.same hdr5; have hkw5 : Kept (fun i => i < w.heap.size ∧ i ≠ b ∧ i ≠ d ∧ i ≠ sb ∧ i ≠ mb) w V5.drew := (HKw.out.mono fun i hi => ⟨hi.1, hi.2.2⟩).trans (hk5d.mono fun i hi => ⟨by omega, hi.2.1⟩); have hFx : ∀ i, ¬ X i ∧ i < w.heap.size → i < w.heap.size ∧ i ≠ b ∧ i ≠ d ∧ i ≠ sb ∧ i ≠ mb := fun i hi => ⟨hi.2, fun e => hi.1 (e ▸ hxX.1), fun e => hi.1 (e ▸ hxX.2.1), fun e => hi.1 (e ▸ hxX.2.2.1), fun e => hi.1 (e ▸ hxX.2.2.2)⟩
   have hIE5 := HIE.out.lt.kept (hkw5.mono hFx); have hrow5 : V5.drew.ownsRow base 35 1 (.slice Ap L.es.length cp) L.es.length vs := row_keptK HL2.out hkw5 fun g hg => ⟨(HL2.out.lt g hg).2, HL4.out g hg⟩
   have hEs5 : Ents V5.drew (fun i => (Y i ∧ ¬ X i) ∧ i < w.heap.size) vs L.es := HL5.out.lt.kept (hkw5.mono fun i hi => hFx i ⟨hi.1.2, hi.2⟩)
   have hT5 : EntAt V5.drew (fun i => w.heap.size ≤ i ∧ i < V4.heap.size) (.slice An nn cn) (tailOf { L with es := L.es ++ [l] }) := by
     have h1 := EntAt.own HNR.out; rw [tail_next] at h1; have hl9 := HNR.out.lt; exact (h1.kept (hk5d.mono fun i hi => ⟨(hl9 i hi).2, by have := (hl9 i hi).1; omega⟩)).mono fun i hi => ⟨by have := (hl9 i hi).1; omega, (hl9 i hi).2⟩
   have hDv5 := HD4.out.kept hk5d ⟨HD4.out.ob.lt, hne.1.symm⟩ ⟨HD4.out.sure.lt, hne.2.1.symm⟩ ⟨HD4.out.map.lt, hne.2.2.symm⟩; have cC := hdd (cloneb_calls l _ V5.drew hIE5.bytes (by omega)); have HT5 := hdd hT5; have HDv5 := hdd hDv5; have HKw5 := hdd hkw5; have HFx := hdd hFx; have hbase : base ≤ w.heap.size := by have := (H.out.y b (H.out.xy b hxX.1)); omega
   obtain ⟨i1, hi1, hq0, hq1, hq2⟩ := inf3 slice_info; have husL : 3 * L.es.length ≤ 600000 := by unfold used at hus; omega
   clear hk5 hk5d hkw5 hIE5 hT5 hDv5 hFx; refine Pq.regionT (.look 0 (.look 1 (.look 2 (.look 3 (.look 4 (.look 5 (.look 9 (.look 10 (.make 6 (.make 7 (.make 8 (.make 11 .nil)))))))))))) (fun V => Ob V b 218 (lgC d L.g L.half (.slice Ap L.es.length cp) L.sure ((used L : Int) + ((encE l).length : Int)) (.slice An nn cn) L.fin)) hmx (by kernel_rfl) (by kernel_rfl) (by kernel_rfl) o5 rfl ?_; simp only [Pq.named, Pq.rest, zzJ, zzK, zzL, zzM]
   iterate 8 (apply Pq.WalkT.on (by rfl)
              · rintro V hV
                have q3 := hV.cell (j := 3) (v := .slice Ap L.es.length cp) rfl; go_wp2_with fail; refine ⟨rfl, ?_, rfl⟩
                try simp only [Act.put, zzA, zzB, zzC]
                rfl
              simp only [Act.put, zzA, zzB, zzC])
   refine Pq.WalkT.make (by rfl) ?_; rintro T1 rfl; go_wp2_with fail; refine cC.out.mono ?_; rintro e T2 ⟨⟨cl, rfl, hcl⟩, hbT⟩; have o52 := o5.same hbT; have hrow2 := ownsRow_below hrow5 hbT; have hEs2 := hEs5.same hbT; have hT2s := hbT.size; have hcE := EntAt.own hcl; have hcL : ∀ g, cl.ownBlock = some g → V5.drew.heap.size ≤ g ∧ g < T2.heap.size := fun g hg => hcl.lt g hg
   have hk2 : Below V5.drew.heap.size V5.drew T2 := hbT; obtain ⟨A8, c8, rfl, -⟩ := (BytesAt.of_own hcl).form; clear hcl hbT; go_wp2_with fail; refine Pq.mk3 (.slice A8 l.length c8) o52 ?_ ?_
   · try simp only [Act.put, zzA, zzB, zzC]
     try rfl
   simp only [Act.put, zzA, zzB, zzC]; refine Pq.WalkT.make (by rfl) ?_; rintro T3 rfl; go_wp2_with fail; refine Pq.mk3 (.slice (some ⟨T3.heap.size, 0, none⟩) 1 1) (o52.alloc _) ?_ ?_
   · try simp only [Act.put, zzA, zzB, zzC]
     try rfl
   simp only [Act.put, zzA, zzB, zzC]; have hA4 := Sl.new T3 #[.slice A8 l.length c8] 35 (n := 1) (size := 1) rfl (by unfold maxLen; omega); have hal := (Below.refl T3.heap.size T3).alloc (Nat.le_refl _) (.cells #[.slice A8 l.length c8] 35); have hs4' : (T3.alloc (.cells #[.slice A8 l.length c8] 35)).heap.size = T3.heap.size + 1 := by simp
   replace o52 := o52.alloc (.cells #[.slice A8 l.length c8] 35); replace hrow2 := hrow2.alloc (.cells #[.slice A8 l.length c8] 35); replace hEs2 := hEs2.same hal; replace hcE := hcE.same hal; replace hk2 := hk2.trans (hal.mono hT2s); have HS4 := hdd hs4'; refine Pq.WalkT.make (by rfl) ?_; rintro T4 hT4; rw [← hT4] at o52 hrow2 hEs2 hcE hk2 hA4 HS4; clear hT4 hs4' hal hrow5 hEs5 o5; have hrl := HL2.out.lt; have hsT3 : w.heap.size ≤ T3.heap.size := by omega
   refine wpList_append_sl _ rfl (.tmp 72) (.tmp 75) _ rfl base 35 i1 _ 1 24 Tryz.underlying162 hi1 hq0 hq1 hq2 rfl (by omega) (.slice Ap L.es.length cp) L.es.length vs rfl hrow2 T3.heap.size (T3.heap.size + 1) _ 1 [.slice A8 l.length c8] rfl hA4 (by simp [Value.oneCell']) (by unfold maxLen; omega) (by omega) (by have := HS4.out; omega) ?_; intro v1 T5 hv1 hgx hat1; have hneb : some b ≠ (Value.slice Ap L.es.length cp).ownBlock := fun e => (HL4.out b e.symm).1 rfl
   have o55 := o52.kept hgx hneb; have hgs := hgx.size; have hk5 : Kept (fun i => i < w.heap.size ∧ (Value.slice Ap L.es.length cp).ownBlock ≠ some i) V5.drew T5 := (Kept.of_below hk2 fun i hi => by omega).trans (Kept.of_grown hgx fun i hi => ⟨by have := HS4.out; omega, fun e => hi.2 e.symm⟩); have hXw : ∀ i, X i → i < w.heap.size := fun i hi => (H.out.y i (H.out.xy i hi)).2
   have hs4o := HS4.out; have hv1l := hv1.lt
   have hvX : ∀ i, v1.ownBlock = some i → X i ∨ i = T4.heap.size := fun i hi => by
     rcases hat1 with h | h
     · exact .inl (HL3.out i (h.symm.trans hi))
     · rw [h] at hi; cases hi; exact .inr rfl
   have hvN : ∀ g, v1.ownBlock = some g → g ≠ b ∧ g ≠ d ∧ g ≠ sb ∧ g ≠ mb := fun g hg => by
     rcases hat1 with h | h
     · exact HL4.out g (h.symm.trans hg)
     · rw [h] at hg
       cases hg
       have h1 := hXw b hxX.1; have h2 := hXw d hxX.2.1; have h3 := hXw sb hxX.2.2.1; have h4 := hXw mb hxX.2.2.2; omega
   have hDvT := HDv5.out.kept hk5 ⟨hXw d hxX.2.1, fun e => (HL4.out d e).2.1 rfl⟩ ⟨hXw sb hxX.2.2.1, fun e => (HL4.out sb e).2.2.1 rfl⟩ ⟨hXw mb hxX.2.2.2, fun e => (HL4.out mb e).2.2.2 rfl⟩; have hEsT : Ents T5 (fun i => (Y i ∧ ¬ X i) ∧ i < w.heap.size) vs L.es := hEs2.kept (Kept.of_grown hgx fun i hi => ⟨by omega, fun e => hi.1.2 (HL3.out i e.symm)⟩); have hcT : EntAt T5 (fun i => V5.drew.heap.size ≤ i ∧ i < T3.heap.size) (.slice A8 l.length c8) l := (hcE.kept (Kept.of_grown hgx fun i hi => ⟨by have := hcL i hi; omega, fun e => by have := hrl i e.symm; have := hcL i hi; omega⟩)).mono fun i hi => hcL i hi
   have hTT : EntAt T5 (fun i => w.heap.size ≤ i ∧ i < V4.heap.size) (.slice An nn cn) (tailOf { L with es := L.es ++ [l] }) := HT5.out.kept ((Kept.of_below hk2 fun i hi => by omega).trans (Kept.of_grown hgx fun i hi => ⟨by omega, fun e => by have := hrl i e.symm; omega⟩)); obtain ⟨A9, c9, rfl, -⟩ := (Sl.of_own hv1).at_; have HV1 := hdd hv1; have HvX := hdd hvX; have HvN := hdd hvN; have HDvT := hdd hDvT; have HEsT := hdd hEsT; have HcT := hdd hcT; have HTT := hdd hTT; have HK5 := hdd hk5; have HVL := hdd hv1l; have HXW := hdd hXw; have hT5s : w.heap.size ≤ T5.heap.size := by omega
   clear hv1 hvX hvN hDvT hEsT hcT hTT hk5 hv1l hat1 hgx hrow2 hEs2 hcE hA4 hXw hcL hrl hk2 o52; refine Pq.mk3 (.slice A9 (L.es.length + 1) c9) o55 ?_ ?_
   · try simp only [Act.put, zzA, zzB, zzC]
     try rfl
   simp only [Act.put, zzA, zzB, zzC]; refine Pq.WalkT.make (by rfl) ?_; rintro T6 rfl; have q3 := o55.cell (j := 3) (v := .slice Ap L.es.length cp) rfl; have f3 := o55.frozen 3; go_wp2_with fail; have gs := grownBy_set T6 b 3 (.slice A9 (L.es.length + 1) c9); have o56 := o55.set 3 (.slice A9 (L.es.length + 1) c9); have hkS : Kept (fun i => i < T6.heap.size ∧ i ≠ b) T6 (T6.setCell ⟨b, 3, none⟩ (.slice A9 (L.es.length + 1) c9)) := Kept.of_grown gs fun i hi => ⟨hi.1, fun e => hi.2 (Option.some.inj e)⟩
   refine ⟨rfl, undef, (fun _ => True), (fun V => V = T6.setCell ⟨b, 3, none⟩ (.slice A9 (L.es.length + 1) c9)), rfl, rfl, (fun _ _ => trivial), (.inl (by kernel_rfl)), Pq.WalkT.nil ?_⟩; rintro T7 rfl; simp only [Act.put]; generalize T6.setCell ⟨b, 3, none⟩ (.slice A9 (L.es.length + 1) c9) = T7 at *; have q3' := o56.cell (j := 3) (v := .slice A9 (L.es.length + 1) c9) rfl; have HO6 := hdd o56; have HKS := hdd hkS; clear q3 f3 gs o55 o56 hkS; go_wp2; go_ret2; rw [HA2.out]; have hkS := HKS.out; have hs7 := hkS.size; have hXw := HXW.out; have hsz0 := hXw b hxX.1
   have huse : ((used { L with es := L.es ++ [l] } : Nat) : Int) = (used L : Int) + ((encE l).length : Int) := by
     show ((strm (L.es ++ [l])).length : Int) = _; rw [strm_snoc, List.length_append]; unfold used; omega
   have hok := H.out.ok.append (wr := writeD) (D := D) l; rw [HA2.out] at hok; have hY0 := H.out.y; have hfr : Kept (fun i => i < w.heap.size ∧ ¬ X i) w T7 := (HKw5.out.mono fun i hi => HFx.out i ⟨hi.2, hi.1⟩).trans ((HK5.out.mono fun i hi => ⟨hi.1, fun e => hi.2 (HL3.out i e)⟩).trans (hkS.mono fun i hi => ⟨by omega, fun e => hi.2 (e ▸ hxX.1)⟩))
   refine ⟨by simp, fun i => X i ∨ (Value.slice A9 (L.es.length + 1) c9).ownBlock = some i, fun i => Y i ∨ (w.heap.size ≤ i ∧ i < T7.heap.size), ⟨HDvT.out.kept hkS ⟨by have := HDvT.out.ob.lt; omega, hne.1.symm⟩ ⟨by have := HDvT.out.sure.lt; omega, hne.2.1.symm⟩ ⟨by have := HDvT.out.map.lt; omega, hne.2.2.symm⟩, by rw [HRl.out]; exact H.out.len,
     ⟨.slice A9 (L.es.length + 1) c9, .slice An nn cn, vs ++ [.slice A8 l.length c8], ?_, ?_, fun g hg => .inr hg, HvN.out, ?_, ?_⟩, ⟨.inl hxX.1, .inl hxX.2.1, .inl hxX.2.2.1, .inl hxX.2.2.2⟩, hne, fun i hi => ?_, fun i hi => ?_, ?_⟩, fun i hi => ?_, fun i hi => ?_, hfr⟩
   · have := HO6.out
     rw [← huse] at this; exact this
   · have := row_keptK HV1.out hkS fun g hg => ⟨(HVL.out g hg).2, (HvN.out g hg).1⟩
     have hl1 : (L.es ++ [l]).length = L.es.length + 1 := by rw [List.length_append]; rfl
     show T7.ownsRow base _ 1 _ (L.es ++ [l]).length _; rw [hl1]; exact this
   · have h1 : Ents T7 (fun i => (Y i ∨ (w.heap.size ≤ i ∧ i < T7.heap.size)) ∧ ¬ (X i ∨ (Value.slice A9 (L.es.length + 1) c9).ownBlock = some i)) vs L.es := (HEsT.out.kept (hkS.mono fun i hi => ⟨by omega, fun e => hi.1.2 (e ▸ hxX.1)⟩)).mono fun i hi => ⟨.inl hi.1.1, fun h => h.elim hi.1.2 fun e => by
       rcases HvX.out i e with h | h
       · exact hi.1.2 h
       · omega⟩
     have h2 : EntAt T7 (fun i => (Y i ∨ (w.heap.size ≤ i ∧ i < T7.heap.size)) ∧ ¬ (X i ∨ (Value.slice A9 (L.es.length + 1) c9).ownBlock = some i)) (.slice A8 l.length c8) l := (HcT.out.kept (hkS.mono fun i hi => by omega)).mono fun i hi => ⟨.inr (by omega), fun h => h.elim (fun h => by have := hXw i h; omega) fun e => by
       rcases HvX.out i e with h | h
       · have := hXw i h; omega
       · omega⟩
     exact h1.snoc h2
   · exact (HTT.out.kept (hkS.mono fun i hi => by omega)).mono fun i hi => ⟨.inr (by omega), fun h => h.elim (fun h => by have := hXw i h; omega) fun e => by
       rcases HvX.out i e with h | h
       · have := hXw i h; omega
       · omega⟩
   · rcases hi with h | h
     · exact .inl (H.out.xy i h)
     · rcases HvX.out i h with h2 | h2
       · exact .inl (H.out.xy i h2)
       · exact .inr ⟨by omega, by have := (HVL.out i h).2; omega⟩
   · rcases hi with h | h
     · have := hY0 i h; omega
     · omega
   · rw [szD_len HRl.out]
     exact hok
   · rcases hi with h | h
     · exact .inl h
     · rcases HvX.out i h with h2 | h2
       · exact .inl h2
       · exact .inr (by omega)
   · rcases hi with h | h
     · exact .inl h
     · exact .inr h.1
 · have hq : (R.2 != 0) = true := by simpa using h0
   have HA2 := hdd (HA.out.trans (if_pos h0)); clear h0 HA HN0; go_wp2; go_ret2; rw [HA2.out]; have gs := grownBy_set V4 b 7 (.bool true); have hkk : Kept (fun i => i < w.heap.size ∧ i ≠ b ∧ i ≠ d ∧ i ≠ sb ∧ i ≠ mb) w (V4.setCell ⟨b, 7, none⟩ (.bool true)) := (HKw.out.mono fun i hi => ⟨hi.1, hi.2.2⟩).trans (Kept.of_grown gs fun i hi => ⟨by omega, fun e => hi.2.1 (Option.some.inj e)⟩); have hD5 := HD4.out.kept (Kept.of_grown (Fr := fun i => i < V4.heap.size ∧ i ≠ b) gs fun i hi => ⟨hi.1, fun e => hi.2 (Option.some.inj e)⟩) ⟨HD4.out.ob.lt, hne.1.symm⟩ ⟨HD4.out.sure.lt, hne.2.1.symm⟩ ⟨HD4.out.map.lt, hne.2.2.symm⟩; have hr := H.out.remake hkk hD5 HRl.out (su := L.sure) (fin := true) (fun ev tv ho => ((HKw.out.ob ho ⟨hbl0, hne⟩)).set 7 (.bool true)) H.out.ok.sure; exact ⟨rfl, X, Y, hr, Grew.of_kept (kept_x hxX hkk)⟩
end
end
section
open Go.RowKit Go.Maps
open Ce Se
section
variable {w w' : World} {base b d sb mb : Nat} {D D' : Dv} {X Y : Nat → Prop} {L : Lg}
theorem append_long (b : Nat) {l : List UInt8} {v : Value} {lo hi : Nat} (hI : BytesAt w lo hi v l) (h1 : 65536 < l.length) :
   Calls Tryz.prog 186 #[.pointer (some ⟨b, 0, none⟩), v] w fun e w' => e = .returned (.tuple #[vO, vI 3]) ∧ w = w' := by
 obtain ⟨Ab, cb, rfl, hcb1, hcb2⟩ := hI.form; unfold maxLen at hcb2; have hd1 : decide ((l.length : Int) > 65536) = true := by simp; omega
 clear hI h1
 go_enter Tryz.func186, Tryz.ntmps186
 go_wp2; go_ret2; exact ⟨rfl, rfl⟩
theorem append_full (h : LgAt w base b d sb mb X Y D L) {l : List UInt8} {v : Value} {lo hi : Nat} (hI : BytesAt w lo hi v l) (h1 : l.length ≤ 65536) (h2 : (l.length : Int) + 3 > roomL L (szD D)) :
   Calls Tryz.prog 186 #[.pointer (some ⟨b, 0, none⟩), v] w fun e w' => e = .returned (.tuple #[vO, vI 2]) ∧ Below w.heap.size w w' := by
 have cR := hdd (room_calls h); obtain ⟨Ab, cb, rfl, hcb1, hcb2⟩ := hI.form; unfold maxLen at hcb2; have hd1 : decide ((l.length : Int) > 65536) = false := by simp; omega
 have hd2 : decide ((l.length : Int) + 3 > roomL L (szD D)) = true := by simp; omega
 generalize roomL L (szD D) = rm at *; clear hI h2 h
 go_enter Tryz.func186, Tryz.ntmps186
 go_wp2_with fail; refine cR.out.mono ?_; rintro e w1 ⟨rfl, hb1⟩; go_wp2; go_ret2; exact ⟨rfl, hb1⟩
theorem append_end (h : LgAt w base b d sb mb X Y D L) {l : List UInt8} {v : Value} {lo hi : Nat} (hI : BytesAt w lo hi v l) (h1 : l.length ≤ 65536) (h2 : (l.length : Int) + 3 ≤ roomL L (szD D)) (h3 : L.fin = true) :
   Calls Tryz.prog 186 #[.pointer (some ⟨b, 0, none⟩), v] w fun e w' => e = .returned (.tuple #[vO, vI 30]) ∧ Below w.heap.size w w' := by
 have cR := hdd (room_calls h); obtain ⟨ev, tv, vs, l1, -⟩ := h.lg; obtain ⟨Ab, cb, rfl, hcb1, hcb2⟩ := hI.form; unfold maxLen at hcb2; have hd1 : decide ((l.length : Int) > 65536) = false := by simp; omega
 have hd2 : decide ((l.length : Int) + 3 > roomL L (szD D)) = false := by simp; omega
 generalize roomL L (szD D) = rm at *; have HF := hdd h3; clear hI h2 h h3
 go_enter Tryz.func186, Tryz.ntmps186
 go_wp2_with fail; refine cR.out.mono ?_; rintro e w1 ⟨rfl, hb1⟩; have y7 := (l1.same hb1).cell (j := 7) (v := .bool L.fin) rfl; rw [HF.out] at y7; go_wp2; go_ret2; exact ⟨rfl, hb1⟩
theorem append_calls (h : LgAt w base b d sb mb X Y D L) {l : List UInt8} {v : Value} (hI : EntAt w (fun i => ¬ X i) v l) :
   Calls Tryz.prog 186 #[.pointer (some ⟨b, 0, none⟩), v] w fun e w' => e = .returned (.tuple #[vI (appendG writeD D L (szD D) l).2.2.1, vI (appendG writeD D L (szD D) l).2.2.2]) ∧
     ∃ X' Y', LgAt w' base b d sb mb X' Y' (appendG writeD D L (szD D) l).1 (appendG writeD D L (szD D) l).2.1 ∧ Grew w w' X Y X' Y' := by
 by_cases h1 : l.length > 65536
 · have e : appendG writeD D L (szD D) l = (D, L, 0, 3) := by unfold appendG; rw [if_pos h1]
   rw [e]; refine (append_long b hI.bytes h1).mono ?_; rintro e w' ⟨rfl, rfl⟩; exact ⟨rfl, X, Y, h, Grew.of_kept (Kept.refl _ _)⟩
 · by_cases h2 : (l.length : Int) + 3 > roomL L (szD D)
   · have e : appendG writeD D L (szD D) l = (D, L, 0, 2) := by unfold appendG; rw [if_neg h1, if_pos h2]
     rw [e]; refine (append_full h hI.bytes (by omega) h2).mono ?_; rintro e w' ⟨rfl, hb⟩; exact ⟨rfl, X, Y, h.same hb, Grew.of_kept (Kept.of_below hb fun i hi => hi.1)⟩
   · cases h3 : L.fin with
     | true =>
       have e : appendG writeD D L (szD D) l = (D, L, 0, 30) := by unfold appendG; rw [if_neg h1, if_neg h2, if_pos h3]
       rw [e]; refine (append_end h hI.bytes (by omega) (by omega) h3).mono ?_; rintro e w' ⟨rfl, hb⟩; exact ⟨rfl, X, Y, h.same hb, Grew.of_kept (Kept.of_below hb fun i hi => hi.1)⟩
     | false => exact append_good h hI (by omega) (by omega) h3
end
end
section
open Go.RowKit Go.Maps
open Ce Se
theorem Lay.szD {D : Dv} {n : Nat} {g : Int} {half : Nat} {es : List (List UInt8)} (h : Lay D n g half es) : szD D = (n - 2) / 2 := by unfold Wa.szD; rw [h.al.len]
theorem openD_new {n : Nat} (h4 : 4 ≤ n) : ∃ D, openD (newD n) = (D, some ⟨1, 0, [], 0, false⟩, 0) ∧ Lay D n 1 0 [] := by
 obtain ⟨h1, h2, h3⟩ := open_new h4; have hl : (newD n).sure.length = n := by simp [newD]
 refine ⟨_, ?_, h3⟩; unfold openD; rw [hl]; generalize openG writeD flushD lastD offD n (newD n) = r at *; obtain ⟨r1, r2, r3⟩ := r; simp only at h1 h2; rw [h1, h2]
end
end Wa
namespace Kp
section
open Go.RowKit
structure KpX (X : Nat → Prop) (A B : World) : Prop where
 os : B.os = A.os
 tape : B.tape = A.tape
 output : B.output = A.output
 size : A.heap.size ≤ B.heap.size
 same : ∀ b o, A.heap[b]? = some o → ¬ X b → (∀ r, o ≠ .loop r) → B.heap[b]? = some o
theorem KpX.refl (X : Nat → Prop) (A : World) : KpX X A A := ⟨rfl, rfl, rfl, Nat.le_refl _, fun _ _ h _ _ => h⟩
theorem KpX.trans {X : Nat → Prop} {A B C : World} (h : KpX X A B) (k : KpX X B C) : KpX X A C :=
 ⟨k.os.trans h.os, k.tape.trans h.tape, k.output.trans h.output, Nat.le_trans h.size k.size, fun b o h1 h2 h3 => k.same b o (h.same b o h1 h2 h3) h2 h3⟩
theorem KpX.loop {X : Nat → Prop} {W : World} {l : Nat} {r r' : Loop} (h : W.heap[l]? = some (.loop r)) : KpX X W (W.putObj l (.loop r')) := by
 refine ⟨rfl, rfl, rfl, by simp, fun b _ hb _ hn => ?_⟩
 by_cases e : b = l
 · subst e
   rw [h] at hb
   cases hb
   exact (hn r rfl).elim
 · exact (World.putObj_heap_other e).trans hb
theorem KpX.of_grown {X : Nat → Prop} {A B : World} {row : Option Nat} (h : A.grownBy B row) (hr : ∀ g, row = some g → X g) : KpX X A B :=
 ⟨h.os, h.tape, h.output, h.size, fun b _ hb hx _ => (h.block b (Array.getElem?_eq_some_iff.1 hb).1 (fun e => hx (hr b e.symm))).trans hb⟩
theorem KpX.cell {X : Nat → Prop} {A B : World} {b j : Nat} {v : Value} (h : KpX X A B) (hc : A.cell? ⟨b, j, none⟩ = some v) (hx : ¬ X b) : B.cell? ⟨b, j, none⟩ = some v := by
 have h2 := hc; unfold World.cell? at h2
 split at h2
 · rename_i c t _ hb
   have := h.same b _ hb hx (fun r e => by cases e); exact (World.cell?_of_block (w := A) (w' := B) (a := ⟨b, j, none⟩) (this.trans hb.symm)).trans hc
 · cases h2
theorem KpX.sl {X : Nat → Prop} {A B : World} {lo hi size n : Nat} {v : Value} {xs : List Value} (h : KpX X A B) (hs : Sl A lo hi size v n xs) (hx : ∀ i, lo ≤ i → i < hi → ¬ X i) : Sl B lo hi size v n xs := by
 refine ⟨hs.len, ?_⟩; obtain ⟨A', c, e, h1, h2, h3⟩ := hs.at_; refine ⟨A', c, e, h1, h2, fun hn => ?_⟩; obtain ⟨b, o, ea, hl, hb, hc⟩ := h3 hn; refine ⟨b, o, ea, hl, hb, fun j hj => ?_⟩; have hj2 : j < xs.length := by rw [hs.len]; exact hj
 have e2 : xs[j]? = some xs[j] := List.getElem?_eq_getElem hj2; rw [e2]; exact h.cell ((hc j hj).trans e2) (hx b hl hb)
theorem ob_keep {A B : World} {row : Option Nat} {b : Nat} {t : TypeId} {cs : Array Value} (h : Ob A b t cs) (hg : A.grownBy B row) (hr : ∀ r, row = some r → ∃ o : Obj, A.heap[r]? = some o ∧ o.isCells = false) : Ob B b t cs :=
 h.kept hg fun e => by
   obtain ⟨o, h1, h2⟩ := hr b e.symm; rw [show A.heap[b]? = _ from h] at h1
   cases h1
   cases h2
end
end Kp
namespace Wa
section
open Go.RowKit Go.Maps
open Ce Se It
attribute [local go_sem] Oper.semAt_some
theorem ownsRow_wide {w : World} {lo lo' : Nat} {e : TypeId} {size n : Nat} {v : Value} {xs : List Value} (h : w.ownsRow lo e size v n xs) (hl : lo' ≤ lo) : w.ownsRow lo' e size v n xs := by
 refine ⟨h.1, h.2.elim Or.inl fun hx => .inr ?_⟩
 revert hx
 rintro ⟨g, cap, cur, rfl, hbg, hg⟩; exact ⟨g, cap, cur, rfl, Nat.le_trans hl hbg, hg⟩
end
section
open Go.RowKit Go.Maps
open Ce Se It
end
end Wa
namespace Tp
section
open Go.RowKit Go.Maps
open Ce Se Wa
def BytesA (v : Value) (l : List UInt8) : As :=
 ⟨fun w X => EntAt w X v l ∧ ∀ i, X i → i < w.heap.size, fun _ _ _ h hk => ⟨h.1.kept hk, fun i hi => Nat.lt_of_lt_of_le (h.2 i hi) hk.size⟩, fun _ _ h => h.2⟩
theorem St.bytes {w w' : World} {r : List As} {v : Value} {l : List UInt8} (h : St r w) (hb : Below w.heap.size w w') (hv : w'.ownsRow w.heap.size 5 1 v l.length (bytesV l)) : St (BytesA v l :: r) w' := by
 refine h.born hb (A := fun i => v.ownBlock = some i) ⟨EntAt.own hv, fun i hi => (hv.lt i hi).2⟩ fun i hi => (hv.lt i hi).1
theorem St.bytesAt {w w' : World} {r : List As} {v : Value} {l : List UInt8} (h : St r w) (hb : Below w.heap.size w w') {hi : Nat} (hv : BytesAt w' w.heap.size hi v l) (hh : hi ≤ w'.heap.size) : St (BytesA v l :: r) w' :=
 h.born hb (A := fun i => w.heap.size ≤ i ∧ i < hi) ⟨EntAt.of hv hh, fun i hi => by omega⟩ fun i hi => hi.1
def LogA (b u : Nat) : As :=
 ⟨fun w X => ∃ base d sb mb Xm Y D L, LgAt w base b d sb mb Xm Y D L ∧ Lay D 1500 L.g L.half L.es ∧ L.fin = false ∧ used L ≤ u ∧ ∀ i, X i ↔ Y i,
   fun _ _ _ ⟨base, d, sb, mb, Xm, Y, D, L, h1, h2, h3, h4, h5⟩ hk => ⟨base, d, sb, mb, Xm, Y, D, L, h1.kept (hk.mono fun i hi => (h5 i).2 hi), h2, h3, h4, h5⟩,
   fun _ _ ⟨_, _, _, _, _, _, _, _, h1, _, _, _, h5⟩ i hi => (h1.y i ((h5 i).1 hi)).2⟩
section
variable {b u : Nat} {r : List As} {w : World}
theorem log_append {l : List UInt8} {v : Value} (h : St (LogA b u :: BytesA v l :: r) w) (hu : u + l.length + 3 ≤ 47187) :
   Calls Tryz.prog 186 #[.pointer (some ⟨b, 0, none⟩), v] w fun e w' => (∃ k : Int, e = .returned (.tuple #[vI k, vO])) ∧ St (LogA b (u + l.length + 3) :: BytesA v l :: r) w' := by
 obtain ⟨A, B, ⟨base, d, sb, mb, Xm, Y, D, L, hL, hlay, hf, hus, hX⟩, hB, hd, hc⟩ := h.cut2; have hz : szD D = 749 := hlay.szD; have hI : EntAt w (fun i => ¬ Xm i) v l := hB.1.mono fun i hi hx => hd i ((hX i).2 (hL.xy i hx)) hi
 rcases hlay.append hf l with ⟨h1, e⟩ | ⟨h1, h2, e⟩ | ⟨h1, h2, D', e, hl⟩
 · omega
 · exfalso
   unfold roomL at h2; omega
 · refine (append_calls hL hI).mono ?_
   rintro e2 w' ⟨rfl, X', Y', hL', hG⟩; rw [hz] at *; have e' : appendG writeD D L 749 l = (D', { L with es := L.es ++ [l] }, (L.es.length : Int), 0) := e; rw [e'] at hL' ⊢; refine ⟨⟨_, rfl⟩, hc w' (LogA b (u + l.length + 3)) Y' ⟨base, d, sb, mb, X', Y', _, _, hL', hl, hf, ?_, fun i => Iff.rfl⟩ ?_ ?_⟩
   · have : used ({ L with es := L.es ++ [l] }) = used L + (3 + l.length) := by unfold used; dsimp only; rw [strm_snoc, List.length_append, encE_len]
     rw [this]; omega
   · intro i hi
     rcases hG.y i hi with h | h
     · exact .inl ((hX i).2 h)
     · exact .inr h
   · exact hG.kp.mono fun i hi => ⟨hi.1, fun hx => hi.2 ((hX i).2 (hL.xy i hx))⟩
theorem log_sync (h : St (LogA b u :: r) w) :
   Calls Tryz.prog 122 #[.pointer (some ⟨b, 0, none⟩)] w fun e w' => e = .returned vO ∧ St (LogA b u :: r) w' := by
 obtain ⟨A, ⟨base, d, sb, mb, Xm, Y, D, L, hL, hlay, hf, hus, hX⟩, hc⟩ := h.cut; obtain ⟨D', e, hl⟩ := hlay.sync hf; refine (sync_calls hL).mono ?_; rintro e2 w' ⟨rfl, hL', hk⟩; rw [e] at hL' ⊢; exact ⟨rfl, hc w' (LogA b u) Y ⟨base, d, sb, mb, Xm, Y, _, _, hL', hl, hf, hus, fun i => Iff.rfl⟩ (fun i hi => .inl ((hX i).2 hi)) (hk.mono fun i hi => ⟨hi.1, fun hx => hi.2 ((hX i).2 (hL.xy i hx))⟩)⟩
end
end
end Tp
section
open Go.RowKit
def setR (cur : Array Value) (o : Nat) : List Value → Array Value
 | [] => cur
 | v :: r => setR (cur.setIfInBounds o v) (o + 1) r
theorem setR_size : ∀ (vs : List Value) (cur : Array Value) (o : Nat), (setR cur o vs).size = cur.size
 | [], _, _ => rfl
 | v :: r, cur, o => by rw [setR, setR_size r]; simp
theorem setR_get : ∀ (vs : List Value) (cur : Array Value) (o j : Nat), o + vs.length ≤ cur.size → (setR cur o vs)[j]? = if o ≤ j ∧ j < o + vs.length then vs[j - o]? else cur[j]?
 | [], cur, o, j, _ => by rw [if_neg (by simp)]; rfl
 | v :: r, cur, o, j, h => by
   simp only [List.length_cons] at h ⊢; rw [setR, setR_get r _ _ _ (by simp; omega)]
   by_cases h1 : o + 1 ≤ j ∧ j < o + 1 + r.length
   · rw [if_pos h1, if_pos (by omega), show j - o = (j - (o + 1)) + 1 by omega, List.getElem?_cons_succ]
   · rw [if_neg h1, Array.getElem?_setIfInBounds]
     by_cases h2 : o = j
     · subst h2
       rw [if_pos rfl, if_pos (by omega), if_pos (by omega), Nat.sub_self]
       rfl
     · rw [if_neg h2, if_neg (by omega)]
theorem Ob.cells {w : World} {g : Nat} {t : TypeId} : ∀ (vs : List Value) {cur : Array Value} (o : Nat), Ob w g t cur → Ob (w.setCells g o vs) g t (setR cur o vs) := by
 intro vs
 induction vs generalizing w with
 | nil => intro cur o h; exact h
 | cons v r ih => intro cur o h; exact ih (o + 1) (h.set o v)
theorem grown_cells {b : Nat} : ∀ (vs : List Value) (w : World) (o : Nat), w.grownBy (w.setCells b o vs) (some b)
 | [], w, _ => World.grownBy.refl _ _
 | v :: r, w, o => (grownBy_set w b o v).trans (grown_cells r _ _)
def Way (w : World) (e : TypeId) (size : Nat) (v : Value) (n : Nat) (xs : List Value) : Prop :=
 xs.length = n * size ∧ ((v = vN ∧ n = 0) ∨ ∃ g off cap cur, v = .slice (some ⟨g, off, none⟩) n cap ∧ n ≤ cap ∧ cap ≤ maxLen ∧ Ob w g e cur ∧ off + cap * size ≤ cur.size ∧ ∀ j, j < xs.length → cur[off + j]? = xs[j]?)
section
variable {P : Program} {w w' : World} {e : TypeId} {size n : Nat} {v : Value} {xs : List Value}
theorem Way.form (h : Way w e size v n xs) : ∃ A c, v = .slice A n c ∧ n ≤ c ∧ c ≤ maxLen := by
 rcases h.2 with ⟨h1, rfl⟩ | ⟨g, off, cap, cur, h1, h2, h3, -⟩
 · exact ⟨_, _, h1, Nat.le_refl _, by unfold maxLen; omega⟩
 · exact ⟨_, _, h1, h2, h3⟩
theorem Way.of_own {base : Nat} (h : w.ownsRow base e size v n xs) : Way w e size v n xs := by
 refine ⟨h.1, ?_⟩; rcases h.2 with h2 | ⟨g, cap, cur, h1, -, h3, h4, h5, h6, h7⟩
 · exact .inl h2
 · refine .inr ⟨g, 0, cap, cur, h1, h4, h5, h3, by omega, fun j hj => ?_⟩
   rw [← h7, Nat.zero_add, List.getElem?_take, if_pos (by rw [h.1] at hj; exact hj), Array.getElem?_toList]
theorem Way.lt (h : Way w e size v n xs) {g : Nat} (hv : v.ownBlock = some g) : g < w.heap.size := by
 rcases h.2 with ⟨h1, -⟩ | ⟨g', off, cap, cur, h1, h3, h4, h5, h6⟩
 · subst h1; cases hv
 · subst h1; cases hv; exact h5.lt
theorem Way.sl (h : Way w e size v n xs) : Sl w 0 w.heap.size size v n xs := by
 refine ⟨h.1, ?_⟩; rcases h.2 with ⟨h1, rfl⟩ | ⟨g, off, cap, cur, h1, h3, h4, h5, h6, h7⟩
 · exact ⟨_, _, h1, Nat.le_refl _, by unfold maxLen; omega, fun hn => by omega⟩
 · refine ⟨_, _, h1, h3, h4, fun hn => ⟨g, off, rfl, Nat.zero_le _, h5.lt, fun j hj => ?_⟩⟩
   have hj' : j < xs.length := by rw [h.1]; exact hj
   have h8 := h7 j hj'; rw [List.getElem?_eq_getElem hj'] at h8 ⊢; exact h5.cell h8
theorem Way.sla (h : Way w e size v n xs) : ∃ lo B, B ≤ w.heap.size ∧ (∀ i, lo ≤ i → i < B → v.ownBlock = some i) ∧ Sl w lo B size v n xs := by
 rcases h.2 with ⟨h1, rfl⟩ | ⟨g, off, cap, cur, h1, h3, h4, h5, h6, h7⟩
 · exact ⟨0, 0, Nat.zero_le _, fun i _ hb => absurd hb (Nat.not_lt_zero i), h.1, _, _, h1, Nat.le_refl _, by unfold maxLen; omega, fun hn => by omega⟩
 · refine ⟨g, g + 1, h5.lt, fun i ha hb => by subst h1; show some g = some i; congr 1; omega, h.1, _, _, h1, h3, h4, fun hn => ⟨g, off, rfl, Nat.le_refl _, Nat.lt_succ_self _, fun j hj => ?_⟩⟩
   have hj' : j < xs.length := by rw [h.1]; exact hj
   have h8 := h7 j hj'; rw [List.getElem?_eq_getElem hj'] at h8 ⊢; exact h5.cell h8
theorem run_append_way (t ty : TypeId) (i : TypeInfo) (z : Value) (bytes : Nat) (ht : P.underlying t = some (.slice e)) (hi : P.info? e = some i) (hz : i.zero = some z)
   (hsize : i.size = size) (hby : i.bytes = bytes) (hzs : z.cells.size = size) (h : Way w e size v n xs)
   (lo B : Nat) (u : Value) (m : Nat) (ys : List Value) (hm : 0 < m) (hu : Sl w lo B size u m ys) (h1 : ∀ y ∈ ys, y.oneCell' = true) (h63 : n + m ≤ maxLen) (hbytes : (n + m) * bytes ≤ 140737488355328) :
   ∃ v' w', (Builtin.append_ #[t, t] ty #[v, u]).run P w = .ok v' w' ∧ Way w' e size v' (n + m) (xs ++ ys) ∧ w.grownBy w' v.ownBlock ∧ (v'.ownBlock = v.ownBlock ∨ v'.ownBlock = some w.heap.size) := by
 subst hsize; subst hby; have hyl := hu.len; obtain ⟨Au, cu, rfl, -, -, hc⟩ := hu.at_; obtain ⟨bu, ou, rfl, -, -, hcu⟩ := hc hm
 have hs : Src P i.size t (.slice (some ⟨bu, ou, none⟩) m cu) m ys w := Src.ofSlice w ht ⟨bu, ou, none⟩ m cu ys hyl (fun j u hj => by
   have hj2 : j < ys.length := by
     rcases Nat.lt_or_ge j ys.length with h | h
     · exact h
     · rw [List.getElem?_eq_none h] at hj; cases hj
   rw [Addr.add_lit, hcu j (by rw [← hyl]; exact hj2)]; exact hj) h1
 have hlen : (xs ++ ys).length = (n + m) * i.size := by rw [List.length_append, h.1, hyl, Nat.add_mul]
 have hbd : n + m ≤ 9223372036854775807 := by unfold maxLen at h63; omega
 have grow : ∀ (bs : Option Addr) (sc : Nat), v = .slice bs n sc → sc < n + m → (Builtin.firstCells i.size n (.slice bs n sc)).run P w.drew = .ok xs.toArray w.drew →
     ∃ v' w', (Builtin.append_ #[t, t] ty #[v, .slice (some ⟨bu, ou, none⟩) m cu]).run P w = .ok v' w' ∧ Way w' e i.size v' (n + m) (xs ++ ys) ∧ w.grownBy w' v.ownBlock ∧ (v'.ownBlock = v.ownBlock ∨ v'.ownBlock = some w.heap.size) := by
   rintro bs sc rfl hg hold; have hrun := run_append_grow_src (P := P) w t t ty e i z ht hi hz bs n sc xs hold _ m ys hs hg (by omega) (growslice_fits hg hbytes); have hge := grownCap_ge w (n + m) sc e; have hcm := grownCap_le_maxLen w (n + m) sc e h63; refine ⟨_, _, hrun, ⟨hlen, .inr ⟨w.heap.size, 0, _, _, rfl, hge, hcm, Ob.new w.drew e _, ?_, fun j hj => ?_⟩⟩, ?_, .inr rfl⟩
   · rw [Array.size_append, List.size_toArray, hlen, size_zeroCells, hzs, ← Nat.add_mul]
     exact Nat.le_of_eq (by rw [Nat.zero_add]; congr 1; omega)
   · rw [Nat.zero_add, Array.getElem?_append_left (by simpa using hj), List.getElem?_toArray]
   · exact only_of_below (((Below.refl w.heap.size w).drew).alloc (Nat.le_refl _) _) _
 rcases h.2 with ⟨rfl, rfl⟩ | ⟨g, off, cap, cur, rfl, h2, h3, h4, h5, h6⟩
 · refine grow none 0 rfl (by omega) ?_
   have : xs = [] := List.eq_nil_of_length_eq_zero (by rw [h.1]; omega); rw [this]; exact run_firstCells_none w.drew i.size 0 0 0
 · by_cases hroom : n + m ≤ cap
   · have hsp : (n + m) * i.size ≤ cap * i.size := Nat.mul_le_mul_right _ hroom
     rw [Nat.add_mul] at hsp
     have hrun := run_append_room_src (P := P) w t t ty e i ht hi g off n cap _ m ys hs hroom
       (fun j hj => by
         have hlt : off + n * i.size + j < cur.size := by omega
         rw [h4.cell (Array.getElem?_eq_getElem hlt)]
         rfl)
       (fun j _ => h4.frozen _)
     refine ⟨_, _, hrun, ⟨hlen, .inr ⟨g, off, cap, _, rfl, hroom, h3, h4.cells ys _, by rw [setR_size]; exact h5, fun j hj => ?_⟩⟩, grown_cells _ _ _, .inl rfl⟩; rw [setR_get _ _ _ _ (by omega)]; have hxl := h.1
     by_cases hj1 : j < xs.length
     · rw [if_neg (by omega), List.getElem?_append_left hj1]
       exact h6 j hj1
     · rw [List.length_append] at hj
       rw [if_pos (by omega), List.getElem?_append_right (by omega)]
       congr 1
       omega
   · refine grow _ cap rfl (by omega) ?_
     refine run_firstCells_some w.drew i.size n ⟨g, off, none⟩ n cap xs h.1 (fun j u hj => ?_)
     have hj2 : j < xs.length := by
       rcases Nat.lt_or_ge j xs.length with h | h
       · exact h
       · rw [List.getElem?_eq_none h] at hj; cases hj
     rw [Addr.add_lit]; exact h4.cell ((h6 j hj2).trans hj)
end
end
namespace Al
section
open Go.RowKit Go.Maps
section
variable {κ α : Type}
def gm (f : α → Value) (m : List (κ × α)) : List (κ × Value) := m.map fun p => (p.1, f p.2)
theorem gm_length (f : α → Value) (m : List (κ × α)) : (gm f m).length = m.length := by simp [gm]
theorem gm_keys (f : α → Value) (m : List (κ × α)) : (gm f m).map (·.1) = m.map (·.1) := by simp [gm]
end
section
variable {κ α : Type} [DecidableEq κ]
def aGet (m : List (κ × α)) (k : κ) : Option α := (m.find? fun p => decide (p.1 = k)).map (·.2)
def aDel (m : List (κ × α)) (k : κ) : List (κ × α) := m.filter fun p => !decide (p.1 = k)
def aIns (K : KeyK κ) (k : κ) (a : α) : List (κ × α) → List (κ × α)
 | [] => [(k, a)]
 | p :: r => if K.lt k p.1 then (k, a) :: p :: r else p :: aIns K k a r
def aPut (K : KeyK κ) (m : List (κ × α)) (k : κ) (a : α) : List (κ × α) := aIns K k a (aDel m k)
variable {K : KeyK κ} {f : α → Value}
theorem aGet_cons (p : κ × α) (m : List (κ × α)) (k : κ) : aGet (p :: m) k = if p.1 = k then some p.2 else aGet m k := by
 unfold aGet; rw [List.find?_cons]
 by_cases h : p.1 = k <;> simp [h]
theorem gm_get (m : List (κ × α)) (k : κ) : mGet (gm f m) k = (aGet m k).map f := by
 induction m with
 | nil => rfl
 | cons p r ih =>
   rw [aGet_cons]; show mGet ((p.1, f p.2) :: gm f r) k = _; rw [mGet_cons, ih]
   by_cases h : p.1 = k <;> simp [h]
theorem gm_put (m : List (κ × α)) (k : κ) (a : α) : mPut K (gm f m) k (f a) = gm f (aPut K m k a) := by
 have h1 : mDel (gm f m) k = gm f (aDel m k) := by
   simp only [mDel, gm, aDel, List.filter_map]
   rfl
 unfold mPut aPut; rw [h1]; generalize aDel m k = d
 induction d with
 | nil => rfl
 | cons p r ih =>
   simp only [gm, List.map_cons, mIns, aIns] at ih ⊢
   by_cases h : K.lt k p.1
   · simp [h]
   · simp only [h, if_false, Bool.false_eq_true, List.map_cons]
     rw [ih]
theorem aGet_mem {m : List (κ × α)} {k : κ} {a : α} (h : aGet m k = some a) : (k, a) ∈ m := by
 unfold aGet at h; obtain ⟨p, hp, rfl⟩ := Option.map_eq_some_iff.1 h; have h1 := List.find?_some hp; have h2 := List.mem_of_find?_eq_some hp; simp only [decide_eq_true_eq] at h1; subst h1; exact h2
theorem aIns_mem {m : List (κ × α)} {k : κ} {a : α} {p : κ × α} : p ∈ aIns K k a m ↔ p = (k, a) ∨ p ∈ m := by
 induction m with
 | nil => simp [aIns]
 | cons q r ih =>
   unfold aIns
   split
   · simp
   · simp only [List.mem_cons, ih]
     constructor
     · rintro (h | h | h)
       · exact .inr (.inl h)
       · exact .inl h
       · exact .inr (.inr h)
     · rintro (h | h | h)
       · exact .inr (.inl h)
       · exact .inl h
       · exact .inr (.inr h)
theorem aPut_mem {m : List (κ × α)} {k : κ} {a : α} {p : κ × α} : p ∈ aPut K m k a ↔ p = (k, a) ∨ (p ∈ m ∧ p.1 ≠ k) := by
 unfold aPut; rw [aIns_mem]; unfold aDel; rw [List.mem_filter]; simp
theorem aIns_length (m : List (κ × α)) (k : κ) (a : α) : (aIns K k a m).length = m.length + 1 := by
 induction m with
 | nil => rfl
 | cons p r ih => unfold aIns; split <;> simp [ih]
theorem aPut_length_le (m : List (κ × α)) (k : κ) (a : α) : (aPut K m k a).length ≤ m.length + 1 := by
 unfold aPut; rw [aIns_length]; have : (aDel m k).length ≤ m.length := List.length_filter_le _ _; omega
end
end
end Al
namespace It
section
open Go.RowKit
attribute [local go_sem] Oper.semAt_some
def Fits (l : List Item) : Prop := ∀ x ∈ l, x.1.size ≤ maxLen ∧ -9223372036854775808 ≤ x.2 ∧ x.2 ≤ 9223372036854775807
def strLe (a b : ByteArray) : Bool := Op.bytesLess a.toList b.toList || a.toList == b.toList
def okItem (x : Item) (last : ByteArray) : Bool := good x.1 && decide (1 ≤ x.2) && countOk x.2 && !strLe x.1 last
def mayTo (last : ByteArray) : List Item → Bool
 | [] => true
 | x :: r => okItem x last && mayTo x.1 r
def lastOf (last : ByteArray) : List Item → ByteArray
 | [] => last
 | x :: r => lastOf x.1 r
def may (l : List Item) : Bool := mayTo ⟨#[]⟩ l && decide (l.length ≤ 16)
theorem mayTo_snoc (last : ByteArray) (l : List Item) (x : Item) : mayTo last (l ++ [x]) = (mayTo last l && okItem x (lastOf last l)) := by
 induction l generalizing last with
 | nil => simp [mayTo, lastOf]
 | cons y r ih => simp only [List.cons_append, mayTo, lastOf, ih, Bool.and_assoc]
theorem lastOf_snoc (last : ByteArray) (l : List Item) (x : Item) : lastOf last (l ++ [x]) = x.1 := by
 induction l generalizing last with
 | nil => rfl
 | cons y r ih => simp only [List.cons_append, lastOf, ih]
theorem mayTo_prefix {last : ByteArray} {p l : List Item} (h : p <+: l) (hp : mayTo last p = false) : mayTo last l = false := by
 obtain ⟨r, rfl⟩ := h
 induction p generalizing last with
 | nil => cases hp
 | cons x p ih =>
   simp only [List.cons_append, mayTo] at hp ⊢
   cases h1 : okItem x last with
   | false => rfl
   | true => rw [h1] at hp; simp only [Bool.true_and] at hp ⊢; exact ih hp
def vals {L : List Item} (pre : List (Of L)) : List Item := pre.map (·.1)
theorem vals_snoc {L : List Item} (pre : List (Of L)) (x : Of L) : vals (pre ++ [x]) = vals pre ++ [x.1] := by simp [vals]
theorem vals_all (L : List Item) : vals L.attach = L := List.attach_map_subtype_val L
theorem vals_prefix {L : List Item} {pre : List (Of L)} (h : pre <+: L.attach) : vals pre <+: L := by
 have := h.map (f := fun x : Of L => x.1); rw [List.attach_map_subtype_val] at this; exact this
theorem may_calls (L : List Item) (v : Value) (w : World) (hI : ItemsAt w 0 w.heap.size v L) (hF : Fits L) :
   Calls Tryz.prog 140 #[v] w fun e w' => e = .returned (.bool (may L)) ∧ Below w.heap.size w w' := by
 obtain ⟨A, c, rfl, hc1, hc2⟩ := hI.form; unfold maxLen at hc2; refine (callsIn_wide (n := 6)).1 ?_; refine callsIn_of_wp_marks Tryz.func140 rfl trivial ?_ rfl; simp only [Tryz.ntmps140, List.size_toArray, List.length_cons, List.length_nil, Nat.reduceAdd, Nat.reduceSub, Array.replicate_succ, Array.replicate_zero, List.push_toArray, List.append_toArray, List.nil_append, List.cons_append]
 gi_wp2_with (refine ⟨trivial, ?_⟩; gi_at_call 144; refine (callsIn_wide.2 (all_calls A _ c _)).mono ?_; rintro e w' ⟨rfl, rfl⟩)
 have b0 : Boxed (((w.alloc (.cells #[.bool false] 4)).alloc (.cells #[vE] 9)).alloc (.cells #[.slice A L.length c] 30)) w.heap.size 4 (.bool false) := ((Boxed.new w _ _).alloc _).alloc _
 have b1 : Boxed (((w.alloc (.cells #[.bool false] 4)).alloc (.cells #[vE] 9)).alloc (.cells #[.slice A L.length c] 30)) (w.heap.size + 1) 9 vE := by
   have := (Boxed.new (w.alloc (.cells #[.bool false] 4)) 9 vE).alloc (.cells #[.slice A L.length c] 30)
   rwa [World.size_alloc] at this
 have b2 : Boxed (((w.alloc (.cells #[.bool false] 4)).alloc (.cells #[vE] 9)).alloc (.cells #[.slice A L.length c] 30)) (w.heap.size + 1 + 1) 30 (.slice A L.length c) := by
   have := Boxed.new ((w.alloc (.cells #[.bool false] 4)).alloc (.cells #[vE] 9)) 30 (.slice A L.length c)
   rwa [World.size_alloc, World.size_alloc] at this
 have hB0 : Below w.heap.size w (((w.alloc (.cells #[.bool false] 4)).alloc (.cells #[vE] 9)).alloc (.cells #[.slice A L.length c] 30)) :=
   (((Below.refl _ w).alloc (Nat.le_refl _) _).alloc (by simp) _).alloc (by simp; omega) _
 have hsz0 : w.heap.size + 3 = (((w.alloc (.cells #[.bool false] 4)).alloc (.cells #[vE] 9)).alloc (.cells #[.slice A L.length c] 30)).heap.size := by simp
 generalize (((w.alloc (.cells #[.bool false] 4)).alloc (.cells #[vE] 9)).alloc (.cells #[.slice A L.length c] 30)) = w0 at *
 refine range_all (n := 6) rfl trivial (by omega) (Bs := w.heap.size + 1 + 1) (n₀ := w.heap.size) (v := .slice A L.length c) (L := L) rfl rfl (by omega) (by omega) b2.cell (hI.below hB0)
   (fun pre W => mayTo ⟨#[]⟩ (vals pre) = true ∧ Boxed W w.heap.size 4 (.bool false) ∧ Boxed W (w.heap.size + 1) 9 (.string (lastOf ⟨#[]⟩ (vals pre))))
   (fun c pre W => c = .ret ∧ mayTo ⟨#[]⟩ (vals pre) = false ∧ Boxed W w.heap.size 4 (.bool false))
   (Own.from (fun s A B row hs hg hr => ⟨hs.1, boxed_keep hs.2.1 hg hr, boxed_keep hs.2.2 hg hr⟩) _)
   (fun c => Own.from (fun s A B row hs hg hr => ⟨hs.1, hs.2.1, boxed_keep hs.2.2 hg hr⟩) _)
   ⟨rfl, b0, b1⟩
   (fun x => { tmps := #[.slice A L.length c, undef, .pointer (some ⟨w.heap.size, 0, none⟩), .pointer (some ⟨w.heap.size + 1, 0, none⟩), .string x.1.1, vI x.1.2, .slice A L.length c, .func (.func 203) #[] #[.pointer (some ⟨w.heap.size + 1 + 1, 0, none⟩)], .string x.1.1, vI x.1.2, undef, undef, undef, undef, undef, undef, undef, undef, undef, undef, undef, undef, undef, undef, undef, undef, undef, undef, undef, undef, undef], defers := [] }) ?assign ?body ?done ?stop
 case assign =>
   intro l x W K hK; dsimp only [enc2]; gi_wp2; exact hK
 case body =>
   rintro l pre ⟨⟨xs, xn⟩, hx⟩ W ⟨hm, hb0, hb1⟩ hB hsz hlen; have hfit := hF _ hx; have hS := hdd (show mayTo ⟨#[]⟩ (vals (pre ++ [⟨(xs, xn), hx⟩])) = (mayTo ⟨#[]⟩ (vals pre) && okItem (xs, xn) (lastOf ⟨#[]⟩ (vals pre))) by rw [vals_snoc, mayTo_snoc]); have hL := hdd (show lastOf ⟨#[]⟩ (vals (pre ++ [⟨(xs, xn), hx⟩])) = xs by rw [vals_snoc, lastOf_snoc]); have hO := hdd (show ∀ last, okItem (xs, xn) last = (good xs && decide (1 ≤ xn) && countOk xn && !(Op.bytesLess xs.toList last.toList || xs.toList == last.toList)) from fun _ => rfl); have HM := hdd hm; clear hm; dsimp only at hfit ⊢; have hc0 := hb0.cell; have hf0 := hb0.frozen; have hc1 := hb1.cell; have hf1 := hb1.frozen; generalize lastOf ⟨#[]⟩ (vals pre) = last at *; have hO2 := hdd (hO.out last); generalize okItem (xs, xn) last = ok at *; have cG := hdd (fun W => good_calls xs W hfit.1); generalize good xs = g at *; have cN := hdd (fun W => count_calls xn W); generalize countOk xn = cn at *
   by_cases hn1 : xn < 1
   · cases g with
     | false =>
       gi_wp2_with (first | (refine ⟨trivial, ?_⟩; gi_at_call 139; refine (CallsIn.inRound l (callsIn_wide.2 (cG.out _))).mono ?_; rintro e W1 ⟨rfl, h1⟩; have hb0' := boxed_below hb0 h1; have hb1' := boxed_below hb1 h1; have hc0' := hb0'.cell; have hf0' := hb0'.frozen; have hc1' := hb1'.cell; have hf1' := hb1'.frozen; clear hc0 hf0 hc1 hf1) | (refine ⟨trivial, ?_⟩; gi_at_call 199; refine (CallsIn.inRound l (callsIn_wide.2 (cN.out _))).mono ?_; rintro e W2 ⟨rfl, rfl⟩) | (refine ⟨trivial, ?_⟩))
       exact ⟨keeps_set (keeps_below _ h1) _ _, (h1.mono (B' := w.heap.size) (by omega)).setCell (p := ⟨w.heap.size, 0, none⟩) (Nat.le_refl _) _, rfl, by rw [hS.out, hO2.out]; simp [*], hb0'.set _⟩
     | true =>
       gi_wp2_with (first | (refine ⟨trivial, ?_⟩; gi_at_call 139; refine (CallsIn.inRound l (callsIn_wide.2 (cG.out _))).mono ?_; rintro e W1 ⟨rfl, h1⟩; have hb0' := boxed_below hb0 h1; have hb1' := boxed_below hb1 h1; have hc0' := hb0'.cell; have hf0' := hb0'.frozen; have hc1' := hb1'.cell; have hf1' := hb1'.frozen; clear hc0 hf0 hc1 hf1) | (refine ⟨trivial, ?_⟩; gi_at_call 199; refine (CallsIn.inRound l (callsIn_wide.2 (cN.out _))).mono ?_; rintro e W2 ⟨rfl, rfl⟩) | (refine ⟨trivial, ?_⟩))
       have hd : decide (1 ≤ xn) = false := by simp; omega
       exact ⟨keeps_set (keeps_below _ h1) _ _, (h1.mono (B' := w.heap.size) (by omega)).setCell (p := ⟨w.heap.size, 0, none⟩) (Nat.le_refl _) _, rfl, by rw [hS.out, hO2.out]; simp [*], hb0'.set _⟩
   · cases g with
     | false =>
       gi_wp2_with (first | (refine ⟨trivial, ?_⟩; gi_at_call 139; refine (CallsIn.inRound l (callsIn_wide.2 (cG.out _))).mono ?_; rintro e W1 ⟨rfl, h1⟩; have hb0' := boxed_below hb0 h1; have hb1' := boxed_below hb1 h1; have hc0' := hb0'.cell; have hf0' := hb0'.frozen; have hc1' := hb1'.cell; have hf1' := hb1'.frozen; clear hc0 hf0 hc1 hf1) | (refine ⟨trivial, ?_⟩; gi_at_call 199; refine (CallsIn.inRound l (callsIn_wide.2 (cN.out _))).mono ?_; rintro e W2 ⟨rfl, rfl⟩) | (refine ⟨trivial, ?_⟩))
       exact ⟨keeps_set (keeps_below _ h1) _ _, (h1.mono (B' := w.heap.size) (by omega)).setCell (p := ⟨w.heap.size, 0, none⟩) (Nat.le_refl _) _, rfl, by rw [hS.out, hO2.out]; simp [*], hb0'.set _⟩
     | true =>
       cases cn with
       | false =>
         gi_wp2_with (first | (refine ⟨trivial, ?_⟩; gi_at_call 139; refine (CallsIn.inRound l (callsIn_wide.2 (cG.out _))).mono ?_; rintro e W1 ⟨rfl, h1⟩; have hb0' := boxed_below hb0 h1; have hb1' := boxed_below hb1 h1; have hc0' := hb0'.cell; have hf0' := hb0'.frozen; have hc1' := hb1'.cell; have hf1' := hb1'.frozen; clear hc0 hf0 hc1 hf1) | (refine ⟨trivial, ?_⟩; gi_at_call 199; refine (CallsIn.inRound l (callsIn_wide.2 (cN.out _))).mono ?_; rintro e W2 ⟨rfl, rfl⟩) | (refine ⟨trivial, ?_⟩))
         exact ⟨keeps_set (keeps_below _ h1) _ _, (h1.mono (B' := w.heap.size) (by omega)).setCell (p := ⟨w.heap.size, 0, none⟩) (Nat.le_refl _) _, rfl, by rw [hS.out, hO2.out]; simp [*], hb0'.set _⟩
       | true =>
         generalize hle : (Op.bytesLess xs.toList last.toList || xs.toList == last.toList) = le at *
         cases le with
         | true =>
           gi_wp2_with (first | (refine ⟨trivial, ?_⟩; gi_at_call 139; refine (CallsIn.inRound l (callsIn_wide.2 (cG.out _))).mono ?_; rintro e W1 ⟨rfl, h1⟩; have hb0' := boxed_below hb0 h1; have hb1' := boxed_below hb1 h1; have hc0' := hb0'.cell; have hf0' := hb0'.frozen; have hc1' := hb1'.cell; have hf1' := hb1'.frozen; clear hc0 hf0 hc1 hf1) | (refine ⟨trivial, ?_⟩; gi_at_call 199; refine (CallsIn.inRound l (callsIn_wide.2 (cN.out _))).mono ?_; rintro e W2 ⟨rfl, rfl⟩) | (refine ⟨trivial, ?_⟩))
           exact ⟨keeps_set (keeps_below _ h1) _ _, (h1.mono (B' := w.heap.size) (by omega)).setCell (p := ⟨w.heap.size, 0, none⟩) (Nat.le_refl _) _, rfl, by rw [hS.out, hO2.out]; simp [*], hb0'.set _⟩
         | false =>
           have hd : decide (1 ≤ xn) = true := by simp; omega
           have HD := hdd hd; clear hd
           gi_wp2_with (first | (refine ⟨trivial, ?_⟩; gi_at_call 139; refine (CallsIn.inRound l (callsIn_wide.2 (cG.out _))).mono ?_; rintro e W1 ⟨rfl, h1⟩; have hb0' := boxed_below hb0 h1; have hb1' := boxed_below hb1 h1; have hc0' := hb0'.cell; have hf0' := hb0'.frozen; have hc1' := hb1'.cell; have hf1' := hb1'.frozen; clear hc0 hf0 hc1 hf1) | (refine ⟨trivial, ?_⟩; gi_at_call 199; refine (CallsIn.inRound l (callsIn_wide.2 (cN.out _))).mono ?_; rintro e W2 ⟨rfl, rfl⟩) | (refine ⟨trivial, ?_⟩))
           exact ⟨keeps_set (keeps_below _ h1) _ _, (h1.mono (B' := w.heap.size) (by omega)).setCell (p := ⟨w.heap.size + 1, 0, none⟩) (by simp) _, by rw [hS.out, hO2.out, HM.out, HD.out]; rfl, hb0'.other (by simp) _, by rw [hL.out]; exact hb1'.set _⟩
 case done =>
   rintro D W hD ⟨hm, hb0, hb1⟩ hB hK; have HM := hdd (show may L = decide (L.length ≤ 16) by unfold may; rw [vals_all] at hm; rw [hm]; rfl); clear hm; have hc0 := hb0.cell; have hf0 := hb0.frozen; gi_wp2; have hb0' := hb0.set (.bool (decide ((L.length : Int) ≤ 16))); have hK' := (KeepsOthers.setCell W ⟨w.heap.size, 0, none⟩ (.bool (decide ((L.length : Int) ≤ 16)))).same D _ hK rfl; refine ⟨by simp, .inl ⟨_, _, rfl, run_takeDeferred hK', ?_⟩⟩; have hc5 := (boxed_end hb0' hK').cell; refine ⟨.bool (decide ((L.length : Int) ≤ 16)), ?_, ret1 (boo ?_), below_end ((hB0.trans hB).setCell (p := ⟨w.heap.size, 0, none⟩) (Nat.le_refl _) _) (by omega) hK'⟩
   · simp [results, Tryz.f140, go_sem, hc5]
   · rw [HM.out]; exact decide_eq_decide.2 (by omega)
 case stop =>
   rintro D c pre W hD hpre ⟨rfl, hm, hb0⟩ hB hK; have HM := hdd (show may L = false by unfold may; rw [mayTo_prefix (vals_prefix hpre) hm]; rfl); clear hm; gi_wp2; refine ⟨by simp, .inl ⟨_, _, rfl, run_takeDeferred hK, ?_⟩⟩; have hc5 := (boxed_end hb0 hK).cell; refine ⟨.bool false, ?_, ret1 (boo HM.out.symm), below_end (hB0.trans hB) (by omega) hK⟩; simp [results, Tryz.f140, go_sem, hc5]
end
section
open Go.RowKit
attribute [local go_sem] Oper.semAt_some
end
section
open Go.RowKit
attribute [local go_sem] Oper.semAt_some
theorem item_info : (Tryz.prog.info? 29).map (fun i => (i.zero, i.size, i.bytes)) = some (some (.agg #[vE, vO]), 2, 24) := by kernel_rfl
end
section
open Go.RowKit
theorem countOk_iff (n : Int) : countOk n = true ↔ 0 ≤ n ∧ n ≤ 1099511627776 := by unfold countOk; simp
end
section
open Go.RowKit Go.Maps
def key (x : Item) : List UInt8 := x.1.data.toList
def tot (k : List UInt8) : List Item → Int
 | [] => 0
 | x :: l => (if key x = k then x.2 else 0) + tot k l
def Tells (m : List (List UInt8 × Value)) (l : List Item) : Prop := ∀ k, mGet m k = if k ∈ l.map key then some (vI (tot k l)) else none
theorem Tells.nil : Tells [] [] := fun _ => rfl
end
section
open Go.RowKit Go.Maps
attribute [local go_sem] Oper.semAt_some
theorem keyedS : Keyed Tryz.prog 9 := string_keyed Tryz.underlying9
theorem key_str {s : ByteArray} (h : s.size ≤ maxLen) : keyOf Tryz.prog 9 (.string s) = some (strK.lit s.data.toList) := WideMaps.keyOf_string_mk Tryz.underlying9 h
end
section
open Go.RowKit Go.Maps
abbrev Bs := List UInt8
theorem bs_irr (x : Bs) : ¬ x < x := List.lt_irrefl x
theorem bs_asy (x y : Bs) (h : x < y) : ¬ y < x := List.lt_asymm h
theorem bs_tri (x y : Bs) : x < y ∨ x = y ∨ y < x := by
 by_cases h1 : x < y
 · exact .inl h1
 · by_cases h2 : y < x
   · exact .inr (.inr h2)
   · exact .inr (.inl (List.le_antisymm (List.not_lt.1 h2) (List.not_lt.1 h1)))
theorem less_eq : ∀ (x y : Bs), Op.bytesLess x y = decide (x < y)
 | [], [] => by simp [Op.bytesLess]
 | [], _ :: _ => by simp [Op.bytesLess]
 | _ :: _, [] => by simp [Op.bytesLess]
 | a :: x, b :: y => by
   rw [Op.bytesLess, less_eq x y, Bool.eq_iff_iff]; simp only [List.cons_lt_cons_iff]
   by_cases h1 : a < b
   · simp [h1]
   · by_cases h2 : a = b
     · subst h2; simp
     · simp [h1, h2]
end
end It
namespace Ks
section
open Go.RowKit Go.Maps Go.Sort Go.Shelf
end
end Ks
namespace It
section
open Go.RowKit Go.Maps Go.Sort
end
end It
namespace CatI
section
open Go.RowKit Go.Shelf
abbrev Part := Option Addr × Nat × Nat × List Value
def pv (p : Part) : Value := .slice p.1 p.2.1 p.2.2.1
def lens : List Part → Nat
 | [] => 0
 | p :: r => p.2.1 + lens r
def all (l : List Part) : List Value := (l.map (·.2.2.2)).flatten
structure Parts (w : World) (B : Nat) (l : List Part) : Prop where
 sl : ∀ p ∈ l, Sl w 0 B 2 (pv p) p.2.1 p.2.2.2
 one : ∀ p ∈ l, ∀ y ∈ p.2.2.2, y.oneCell' = true
end
end CatI
namespace It
section
open Go.RowKit Go.Maps
def sa : ByteArray := ⟨#[97]⟩
def sb : ByteArray := ⟨#[98]⟩
def sc : ByteArray := ⟨#[99]⟩
def lb : List Item := [(sa, 1), (sc, 5)]
theorem toList_key (s : ByteArray) : s.toList = s.data.toList := ByteArray.toList_eq s
theorem strLe_eq (a b : ByteArray) : strLe a b = !(Op.bytesLess b.toList a.toList) := by
 unfold strLe; rw [less_eq, less_eq, Bool.eq_iff_iff]; simp only [Bool.or_eq_true, decide_eq_true_eq, beq_iff_eq, Bool.not_eq_true', decide_eq_false_iff_not]
 constructor
 · rintro (h | h) h2
   · exact bs_asy _ _ h h2
   · rw [h] at h2; exact bs_irr _ h2
 · intro h
   rcases bs_tri a.toList b.toList with h1 | h1 | h1
   · exact .inl h1
   · exact .inr h1
   · exact absurd h1 h
def okI (x : Item) : Bool := good x.1 && decide (1 ≤ x.2) && countOk x.2
theorem okItem_eq (x : Item) (last : ByteArray) : okItem x last = (okI x && decide (last.data.toList < key x)) := by
 unfold okItem okI key; rw [strLe_eq, Bool.not_not, less_eq, toList_key, toList_key]
theorem mayTo_iff : ∀ (l : List Item) (last : ByteArray), mayTo last l = true ↔ (∀ x ∈ l, okI x = true) ∧ (last.data.toList :: l.map key).Pairwise (· < ·)
 | [], last => by simp [mayTo]
 | x :: r, last => by
   simp only [mayTo, okItem_eq, Bool.and_eq_true, mayTo_iff r x.1, decide_eq_true_eq, List.map_cons]; rw [show x.1.data.toList = key x from rfl]; simp only [List.pairwise_cons, List.mem_cons, List.mem_map, forall_eq_or_imp]
   constructor
   · rintro ⟨⟨h1, h2⟩, h3, h4, h5⟩
     refine ⟨⟨h1, h3⟩, ⟨h2, fun a ha => List.lt_trans h2 (h4 a ha)⟩, h4, h5⟩
   · rintro ⟨⟨h1, h3⟩, ⟨h2, _⟩, h4, h5⟩
     exact ⟨⟨h1, h2⟩, h3, h4, h5⟩
structure M (l : List Item) : Prop where
 len : l.length ≤ 16
 ok : ∀ x ∈ l, good x.1 = true ∧ 1 ≤ x.2 ∧ x.2 ≤ 1099511627776
 sorted : l.Pairwise fun a b => key a < key b
theorem good_key {x : Item} (h : good x.1 = true) : [] < key x := by
 unfold good at h; simp only [Bool.and_eq_true, decide_eq_true_eq] at h; have h1 := h.1.2; unfold key; rw [← ByteArray.size_data] at h1; have h2 : x.1.data.toList.length = x.1.data.size := by simp
 match hl : x.1.data.toList with
 | [] => rw [hl] at h2; simp at h2; omega
 | c :: r => simp
theorem okI_iff (x : Item) : okI x = true ↔ good x.1 = true ∧ 1 ≤ x.2 ∧ x.2 ≤ 1099511627776 := by
 unfold okI; simp only [Bool.and_eq_true, decide_eq_true_eq, countOk_iff]
 constructor
 · rintro ⟨⟨h1, h2⟩, h3⟩; exact ⟨h1, h2, h3.2⟩
 · rintro ⟨h1, h2, h3⟩; exact ⟨⟨h1, h2⟩, by omega, h3⟩
theorem may_iff (l : List Item) : may l = true ↔ M l := by
 unfold may; rw [Bool.and_eq_true, decide_eq_true_eq, mayTo_iff]
 constructor
 · rintro ⟨⟨h1, h2⟩, h3⟩
   refine ⟨h3, fun x hx => (okI_iff x).1 (h1 x hx), ?_⟩; have := (List.pairwise_cons.1 h2).2
   rwa [List.pairwise_map] at this
 · rintro ⟨h1, h2, h3⟩
   refine ⟨⟨fun x hx => (okI_iff x).2 (h2 x hx), List.pairwise_cons.2 ⟨fun k hk => ?_, ?_⟩⟩, h1⟩
   · obtain ⟨x, hx, rfl⟩ := List.mem_map.1 hk
     exact good_key (h2 x hx).1
   · rw [List.pairwise_map]; exact h3
def made (h : Item → Int) (a : List Item) : List Item := a.filterMap fun x => if 0 < h x then some (x.1, h x) else none
theorem made_nil (h : Item → Int) : made h [] = [] := rfl
end
end It
namespace Sk
section
open Go.RowKit Go.Maps
open It Al
abbrev Key := List UInt8
abbrev Row := List Int
def row0 : Row := List.replicate 11 0
def at_ (r : Row) (j : Nat) : Int := r.getD j 0
def addR (r : Row) (j : Option Nat) (n : Int) : Row := match j with
 | none => r
 | some j => r.set j (wrap64 (at_ r j + n))
def road (k : Int) : Option Nat × Option Nat × Option Nat :=
 if k = 1 then (none, some 0, some 4) else if k = 2 then (some 0, some 1, none) else if k = 3 then (some 1, some 0, none) else if k = 4 then (some 1, some 2, none) else if k = 5 then (some 2, some 1, none)
 else if k = 6 then (some 2, none, some 8) else if k = 7 then (none, some 3, some 5) else if k = 8 then (some 3, some 0, none) else if k = 9 then (some 3, none, some 9) else if k = 10 then (some 0, none, some 10) else if k = 11 then (none, some 0, some 7) else (none, none, none)
def stepR (k : Int) (r : Row) (n : Int) : Row := addR (addR (addR r (road k).1 (-n)) (road k).2.1 n) (road k).2.2 n
def flowOk (n : Int) : Bool := decide (0 ≤ n) && decide (n ≤ 72057594037927936)
def okAt (j : Nat) (x : Int) : Bool := if j < 4 then countOk x else if j = 6 then true else flowOk x
def eachR (r : Row) : Bool := (List.range 11).all fun j => okAt j (at_ r j)
def rightR (r : Row) : Bool := eachR r && countOk (at_ r 0 + at_ r 1 + at_ r 2 + at_ r 3)
structure OkRow (r : Row) : Prop where
 len : r.length = 11
 bd : ∀ x ∈ r, -9223372036854775808 ≤ x ∧ x ≤ 9223372036854775807
abbrev Stk := List (Key × Row)
def rowC (r : Row) : Array Value := (r.map (Value.int .i64)).toArray
def rowV (r : Row) : Value := .agg (rowC r)
theorem rowC_get {r : Row} {j : Nat} (h : j < r.length) : (rowC r)[j]? = some (vI (at_ r j)) := by
 unfold rowC at_; rw [List.getElem?_toArray, List.getElem?_map, List.getElem?_eq_getElem h, List.getD_eq_getElem?_getD, List.getElem?_eq_getElem h]
 rfl
theorem rowC_set (r : Row) (j : Nat) (x : Int) : (rowC r).setIfInBounds j (vI x) = rowC (r.set j x) := by
 unfold rowC; rw [List.setIfInBounds_toArray, List.map_set]
theorem OkRow.zero : OkRow row0 := ⟨by simp [row0], fun x hx => by rw [List.eq_of_mem_replicate hx]; omega⟩
theorem OkRow.at_ {r : Row} (h : OkRow r) (j : Nat) : -9223372036854775808 ≤ at_ r j ∧ at_ r j ≤ 9223372036854775807 := by
 unfold Sk.at_; rw [List.getD_eq_getElem?_getD]
 by_cases hj : j < r.length
 · rw [List.getElem?_eq_getElem hj]
   exact h.bd _ (List.getElem_mem hj)
 · rw [List.getElem?_eq_none (by omega)]
   simp
theorem wrap_bd (x : Int) : -9223372036854775808 ≤ wrap64 x ∧ wrap64 x ≤ 9223372036854775807 := by unfold wrap64; omega
theorem OkRow.set {r : Row} (h : OkRow r) (j : Nat) (x : Int) : OkRow (r.set j (wrap64 x)) := by
 refine ⟨by rw [List.length_set]; exact h.len, fun y hy => ?_⟩; rcases List.mem_or_eq_of_mem_set hy with h1 | h1
 · exact h.bd y h1
 · rw [h1]; exact wrap_bd x
theorem OkRow.add {r : Row} (h : OkRow r) (j : Option Nat) (n : Int) : OkRow (addR r j n) := by
 cases j with
 | none => exact h
 | some j => exact h.set j _
theorem eachR_all {r : Row} (h : ∀ j, j < 11 → okAt j (at_ r j) = true) : eachR r = true := List.all_eq_true.2 fun j hj => h j (List.mem_range.1 hj)
theorem eachR_no {r : Row} {j : Nat} (hj : j < 11) (h : okAt j (at_ r j) = false) : eachR r = false := by
 unfold eachR; rw [List.all_eq_false]; exact ⟨j, List.mem_range.2 hj, by simp [h]⟩
theorem eachR_at {r : Row} (h : eachR r = true) {j : Nat} (hj : j < 11) : okAt j (at_ r j) = true := List.all_eq_true.1 h j (List.mem_range.2 hj)
theorem eachR_four {r : Row} (h : eachR r = true) {j : Nat} (hj : j < 4) : 0 ≤ at_ r j ∧ at_ r j ≤ 1099511627776 := by
 have := eachR_at h (show j < 11 by omega); unfold okAt countOk at this; rw [if_pos hj] at this; simpa using this
end
end Sk
section
open Go.RowKit
theorem grownBy_segs {b : Nat} : ∀ (vs : List Value) (w : World) (o : Nat), w.grownBy (w.setCells b o vs) (some b)
 | [], w, _ => ⟨rfl, rfl, rfl, Nat.le_refl _, fun _ _ _ => rfl⟩
 | v :: r, w, o => by
   rw [World.setCells]; exact (grownBy_set w b o v).andThen (grownBy_segs r _ (o + 1)) (fun j e => .inr e)
def putSeg (cs : Array Value) (o : Nat) : List Value → Array Value
 | [] => cs
 | v :: r => putSeg (cs.setIfInBounds o v) (o + 1) r
theorem putSeg_eq : ∀ (vs : List Value) (cs : Array Value) (o : Nat), o + vs.length ≤ cs.size → putSeg cs o vs = (cs.toList.take o ++ vs ++ cs.toList.drop (o + vs.length)).toArray
 | [], cs, o, _ => by simp [putSeg]
 | v :: r, cs, o, h => by
   simp only [List.length_cons] at h; rw [putSeg, putSeg_eq r _ (o + 1) (by simp; omega)]
   congr 1
   rw [Array.toList_setIfInBounds]; apply List.ext_getElem?; intro i; have hl : (cs.toList.take o).length = o := by rw [List.length_take]; simp; omega
   have hl2 : ((cs.toList.set o v).take (o + 1)).length = o + 1 := by rw [List.length_take, List.length_set]; simp; omega
   rcases Nat.lt_trichotomy i o with h1 | h1 | h1
   · rw [List.getElem?_append_left (by simp [hl2]; omega), List.getElem?_append_left (by omega), List.getElem?_append_left (by simp [hl]; omega), List.getElem?_append_left (by omega)]
     rw [List.getElem?_take, if_pos (by omega), List.getElem?_take, if_pos h1, List.getElem?_set_ne (by omega)]
   · subst h1
     rw [List.getElem?_append_left (by simp [hl2]; omega), List.getElem?_append_left (by omega), List.getElem?_append_left (by simp [hl]), List.getElem?_append_right (by omega)]; rw [List.getElem?_take, if_pos (by omega), List.getElem?_set_self (by simp; omega), hl]; simp
   · by_cases h2 : i < o + 1 + r.length
     · rw [List.getElem?_append_left (by simp [hl2]; omega), List.getElem?_append_right (by omega), hl2, List.getElem?_append_left (by simp [hl]; omega), List.getElem?_append_right (by omega), hl]
       rw [show i - o = (i - (o + 1)) + 1 by omega, List.getElem?_cons_succ]
     · rw [List.getElem?_append_right (by simp [hl2]; omega), List.getElem?_append_right (by simp [hl]; omega)]
       simp only [List.length_append, hl2, hl, List.length_cons, List.getElem?_drop]; rw [List.getElem?_set_ne (by omega)]
       congr 1
       omega
theorem Ob.seg {g : Nat} {t : TypeId} : ∀ (vs : List Value) {w : World} {cs : Array Value} (o : Nat), Ob w g t cs → Ob (w.setCells g o vs) g t (putSeg cs o vs)
 | [], _, _, _, h => h
 | v :: r, w, cs, o, h => by
   rw [World.setCells, putSeg]; exact Ob.seg r (o + 1) (h.set o v)
theorem Ob.all {w : World} {g : Nat} {t : TypeId} {cs : Array Value} (h : Ob w g t cs) (vs : List Value) (hl : vs.length = cs.size) : Ob (w.setCells g 0 vs) g t vs.toArray := by
 have := Ob.seg vs 0 h; rw [putSeg_eq vs cs 0 (by omega)] at this
 have e : cs.toList.take 0 ++ vs ++ cs.toList.drop (0 + vs.length) = vs := by
   rw [Nat.zero_add, hl, List.take_zero, List.nil_append, List.drop_of_length_le (by simp), List.append_nil]
 rw [e] at this; exact this
theorem Ob.there {w : World} {g : Nat} {t : TypeId} {cs : Array Value} (h : Ob w g t cs) {o n : Nat} (hn : o + n ≤ cs.size) : w.there g o n := fun j hj => by
 refine ⟨?_, h.frozen _⟩; rw [h.cell (j := o + j) (v := cs[o + j]'(by omega)) (by rw [Array.getElem?_eq_getElem (by omega)])]
 rfl
theorem Ob.range {w : World} {g : Nat} {t : TypeId} {cs : Array Value} (h : Ob w g t cs) {o : Nat} {vs : List Value} (hv : ∀ j v, vs[j]? = some v → cs[o + j]? = some v) : w.rangeAt g o vs := fun j v hj => h.cell (hv j v hj)
end
end Go.Proofs.YtgcnhmjpfbbfcaaGreat
