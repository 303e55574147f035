/-
  the log, the walk: Append.
  the log, the walk: Append, whatever comes.
  the log: lives.
  The same as Rr, where the iterator hands over several values at once.
  from world to world: what a round of a range may write, and what stays.
  the log: the law Nobody.
  items: the walk of May.
  from a law's walk to its row: the call returns true, and nothing that was there has turned.
  arguments opened: a slice of structs, whatever the number of their one-cell fields; a slice of items.
  the row WalNobody.
-/
import Derived.Test.YteiniahikhiadaaWn6
import Derived.Lib.SlBytesConst
import Derived.Test.YteiniahikhiadaaWn4
import Derived.Test.YteiniahikhiadaaWn2
import Derived.Test.YteiniahikhiadaaWn1
import Derived.ProofKit
import Derived.OpenShut
import Derived.JoinedCond
import Derived.Deep.CondSized
import Derived.SizedLaws
import Derived.Deep.Slices
import Derived.Deep.Fields
import Derived.ChangeSame

set_option linter.unusedVariables false
set_option linter.unusedSimpArgs false
namespace Go.Proofs.Yteiniahikhiadaa
open Go.RowKit Go.Maps
namespace Wa
open Ce Se
theorem chF_drop (S : List UInt8) (q j : Nat) : chF (S.drop (63 * q)) j = chF S (q + j) := by
  unfold chF
  rw [List.drop_drop, show 63 * q + 63 * j = 63 * (q + j) by omega]
theorem nch_drop (S : List UInt8) (q : Nat) (h : 63 * q ≤ S.length) : nch (S.drop (63 * q)) = nch S - q := by
  unfold nch
  rw [List.length_drop]
  omega
theorem tail_app (L : Lg) (l : List UInt8) : tailOf L ++ encE l = (strm (L.es ++ [l])).drop (63 * (used L / 63)) := by
  unfold tailOf
  have h : 63 * (used L / 63) ≤ (strm L.es).length := by unfold used; omega
  rw [strm_snoc, List.drop_append_of_le_length h]
theorem app_eq (D : Dv) (L : Lg) (size : Nat) (l : List UInt8) : wrG writeD D (Wa.base L.half size + (used L / 63 : Nat)) (chF (tailOf L ++ encE l)) (nch (tailOf L ++ encE l)) = appG writeD D L size l := by
  unfold appG
  have h : 63 * (used L / 63) ≤ (strm (L.es ++ [l])).length := by
    rw [strm_snoc, List.length_append]
    unfold used
    omega
  rw [tail_app, nch_drop _ _ h]
  congr 1
  funext j
  exact chF_drop _ _ _
theorem tail_next (L : Lg) (l : List UInt8) : (tailOf L ++ encE l).drop (63 * ((tailOf L ++ encE l).length / 63)) = tailOf { L with es := L.es ++ [l] } := by
  have h : 63 * (used L / 63) ≤ (strm (L.es ++ [l])).length := by
    rw [strm_snoc, List.length_append]
    unfold used
    omega
  rw [tail_app, List.drop_drop, List.length_drop]
  unfold tailOf
  show List.drop _ (strm (L.es ++ [l])) = List.drop (63 * ((strm (L.es ++ [l])).length / 63)) (strm (L.es ++ [l]))
  congr 1
  omega
theorem tailOf_len (L : Lg) : (tailOf L).length ≤ 62 := by
  unfold tailOf used
  rw [List.length_drop]
  omega
section
variable {w w' : World} {base b d sb mb : Nat} {D D' : Dv} {X Y : Nat → Prop} {L : Lg}
set_option maxRecDepth 100000 in
set_option maxHeartbeats 8000000 in
theorem append_good (h : LgAt w base b d sb mb X Y D L) {l : List UInt8} {v : Value} (hI : EntAt w (fun i => ¬ X i) v l) (h1 : l.length ≤ 65536) (h2 : (l.length : Int) + 3 ≤ roomL L (szD D)) (h3 : L.fin = false) :
    Calls Try.prog 17 #[.pointer (some ⟨b, 0, none⟩), v] w fun e w' => e = .returned (.tuple #[.int .i64 (appendG writeD D L (szD D) l).2.2.1, .int .i64 (appendG writeD D L (szD D) l).2.2.2]) ∧
      ∃ X' Y', LgAt w' base b d sb mb X' Y' (appendG writeD D L (szD D) l).1 (appendG writeD D L (szD D) l).2.1 ∧ Grew w w' X Y X' Y' := by
  have cR := Lib.hid (room_calls h)
  obtain ⟨ev, tv, vs, l1, l2, l3, l4, l5, l6⟩ := h.lg
  have hcnt0 := strm_cnt L.es
  obtain ⟨Ap, cp, rfl, -⟩ := (Sl.of_own l2).at_
  have hlo := hI
  obtain ⟨lo0, hi0, hbl0, -⟩ := hlo
  obtain ⟨Ab, cb, rfl, hcb1, hcb2⟩ := hbl0.form
  unfold maxLen at hcb2
  have hd1 : decide ((l.length : Int) > 65536) = false := by simp; omega
  have hd2 : decide ((l.length : Int) + 3 > roomL L (szD D)) = false := by simp; omega
  have H := Lib.hid h
  have HIE := Lib.hid hI
  have HA := Lib.hid (show appendG writeD D L (szD D) l = if (appG writeD D L (szD D) l).2 ≠ 0 then ((appG writeD D L (szD D) l).1, { L with fin := true }, 0, (appG writeD D L (szD D) l).2) else ((appG writeD D L (szD D) l).1, { L with es := L.es ++ [l] }, (L.es.length : Int), 0) by
    unfold appendG
    rw [if_neg (by omega), if_neg (by omega), h3]
    rfl)
  have HRM := Lib.hid (show -600000 ≤ roomL L (szD D) ∧ roomL L (szD D) ≤ 600000 by
    have hlen := h.dv.len
    have hfit := h.ok.fits
    unfold roomL used szD at *
    omega)
  generalize hrm : roomL L (szD D) = rm at *
  have HR := Lib.hid hrm
  have hrmb := HRM.out
  have hF := Lib.hid h3
  clear h hI hbl0 hrm h2 h3
  go_enter Try.func17, Try.ntmps17
  go_wp2_with fail
  refine cR.out.mono ?_
  rintro e w1 ⟨rfl, hb1⟩
  have l11 := l1.same hb1
  have y7 := l11.cell (j := 7) (v := .bool L.fin) rfl
  rw [hF.out] at y7
  have cE := entry_calls l _ w1 (HIE.out.same hb1).bytes h1
  have CE := Lib.hid cE
  clear cE
  go_wp2_with fail
  refine CE.out.mono ?_
  rintro e w2 ⟨⟨xv, rfl, hxv⟩, hb2⟩
  have hb12 := hb1.trans (hb2.mono hb1.size)
  have hdr := hb12.drew
  have hsd := hdr.size
  have l1d := l1.same hdr
  have hLd := H.out.same hdr
  have hxE := (BytesAt.of_own hxv)
  obtain ⟨Ax, cx, rfl, -⟩ := hxE.form
  have hxB : BytesAt w2.drew 0 w2.drew.heap.size (.slice Ax (encE l).length cx) (encE l) := (hxE.below (Below.refl _ w2).drew).wide (Nat.zero_le _) (Nat.le_refl _)
  have hlenT := tailOf_len L
  have hencl := encE_len l
  have HENC := Lib.hid hencl
  have hne := H.out.ne
  have hlook := hLd.dv
  have hus : used L ≤ 600000 := by
    have := H.out.ok.fits
    have := H.out.dv.len
    unfold used szD at *
    omega
  have cP := put_calls hLd.dv hLd.len (l1d.cell (j := 0) rfl) l1d.lt hne L.half (used L) hLd.ok.hf hus (tailOf L) (encE l) tv _ ((l6.same hdr).bytes) hxB (by omega)
  rw [app_eq] at cP
  have CP := Lib.hid cP
  obtain ⟨lot, hit, hbt, -⟩ := l6
  obtain ⟨At, ct, rfl, -⟩ := hbt.form
  clear cP hxB hxE hxv hbt hlook l11 y7 cR CE hLd hencl
  generalize happ : appG writeD D L (szD D) l = R at *
  have HAP := Lib.hid happ
  clear happ
  go_wp2_with fail
  generalize hw3 : w2.drew = w3 at *
  refine Pu.regionM [(0, false), (1, false), (2, false), (3, false), (4, false), (5, false), (6, false), (7, false), (8, false), (9, false), (10, false), (11, false), (12, false), (13, false), (14, true), (15, false), (16, false), (17, false), (18, false), (19, false)]
    (fun V => Ob V b 88 (lgC d L.g L.half (.slice Ap L.es.length cp) L.sure (used L) (.slice At (tailOf L).length ct) L.fin)) hmx (by kernel_rfl) (by kernel_rfl) (by kernel_rfl) (by rw [hw3]; exact l1d) rfl ?_
  rw [hw3]
  clear hw3
  simp only [Pu.named, List.filterMap_cons, List.filterMap_nil, List.getElem?_toArray, List.getElem?_cons_succ, List.getElem?_cons_zero, Option.map_some]
  iterate 14 (apply Pu.WalkM.on (by rfl)
              · rintro V hV
                have q2 := hV.cell (j := 2) (v := .int .i64 (L.half : Int)) rfl
                have q5 := hV.cell (j := 5) (v := .int .i64 (used L : Int)) rfl
                have q6 := hV.cell (j := 6) (v := .slice At (tailOf L).length ct) rfl
                go_wp2_with fail
                refine ⟨rfl, ?_, rfl⟩
                try simp only [Act.put, List.setIfInBounds_toArray, List.set_cons_succ, List.set_cons_zero]
                rfl
              simp only [Act.put, List.setIfInBounds_toArray, List.set_cons_succ, List.set_cons_zero])
  refine Pu.WalkM.make (by rfl) ?_
  rintro V rfl
  go_wp2_with fail
  refine CP.out.mono ?_
  rintro e W4 ⟨⟨nv, rfl, hn0, hn1⟩, hD4, hK4⟩
  have HN0 := Lib.hid hn0
  have HN1 := Lib.hid hn1
  have HD4 := Lib.hid hD4
  have HK4 := Lib.hid hK4
  have hbl := l1d.lt
  have l14 := Kept.ob hK4 l1d ⟨hbl, hne⟩
  have hs4 := Kept.size hK4
  obtain ⟨An, nn, cn, rfl⟩ : ∃ A n c, nv = .slice A n c := by
    by_cases hr : R.2 = 0
    · obtain ⟨A, c, e, -⟩ := (Sl.of_own (hn0 hr)).at_
      exact ⟨_, _, _, e⟩
    · exact ⟨_, _, _, hn1 hr⟩
  clear hn0 hn1 hD4 hK4 CP
  go_wp2_with fail
  refine ⟨rfl, .tuple #[.slice An nn cn, .int .i64 R.2], (fun V => V = W4), (fun V => V = W4), ?_, rfl, (fun _ h => h), (.inr (fun V h => by rw [h]; exact l14)), ?_⟩
  · try simp only [Act.put, List.setIfInBounds_toArray, List.set_cons_succ, List.set_cons_zero]
    try rfl
  simp only [Act.put, List.setIfInBounds_toArray, List.set_cons_succ, List.set_cons_zero]
  iterate 5 (apply Pu.WalkM.on (by rfl)
             · rintro V hV
               rw [hV]
               go_wp2_with fail
               refine ⟨rfl, ?_, rfl⟩
               try simp only [Act.put, List.setIfInBounds_toArray, List.set_cons_succ, List.set_cons_zero]
               rfl
             simp only [Act.put, List.setIfInBounds_toArray, List.set_cons_succ, List.set_cons_zero])
  refine Pu.WalkM.nil ?_
  rintro V4 rfl
  have hKw : Kept (fun i => i < w.heap.size ∧ i ≠ d ∧ i ≠ sb ∧ i ≠ mb) w V4 := (Kept.of_below hdr fun i hi => hi.1).trans (Kept.mono HK4.out fun i hi => ⟨by omega, hi.2⟩)
  have HKw := Lib.hid hKw
  have hRl : R.1.sure.length = D.sure.length := by rw [← HAP.out]; exact wrG_len _ _ _ _
  have HRl := Lib.hid hRl
  have hbl0 := l1.lt
  have hxX := H.out.x
  have hV4w : w.heap.size ≤ V4.heap.size := hKw.size
  have HL2 := Lib.hid l2
  have HL5 := Lib.hid l5
  have HL3 := Lib.hid l3
  have HL4 := Lib.hid l4
  have z3 := l14.cell (j := 3) (v := .slice Ap L.es.length cp) rfl
  have z5 := l14.cell (j := 5) (v := .int .i64 (used L : Int)) rfl
  have z6 := l14.cell (j := 6) (v := .slice At (tailOf L).length ct) rfl
  have z7 := l14.cell (j := 7) (v := .bool L.fin) rfl
  have f5 := l14.frozen 5
  have f6 := l14.frozen 6
  have f7 := l14.frozen 7
  clear hKw hRl l1 l1d l2 l3 l4 l5 hdr hb12 hb1 hb2
  by_cases h0 : R.2 = 0
  · have hq : (R.2 != 0) = false := by simpa using h0
    have HA2 := Lib.hid (HA.out.trans (if_neg (by simp [h0])))
    have HNR := Lib.hid (HN0.out h0)
    clear h0 HA HN0
    have hel3 := HENC.out
    have hel4 : (encE l).length ≤ 65539 := by omega
    clear hel3
    go_wp2_with fail
    have gs5 := (grownBy_set V4 b 5 (.int .i64 ((used L : Int) + ((encE l).length : Int)))).trans (grownBy_set _ b 6 (.slice An nn cn))
    have o5 : Ob ((V4.setCell ⟨b, 5, none⟩ (.int .i64 ((used L : Int) + ((encE l).length : Int)))).setCell ⟨b, 6, none⟩ (.slice An nn cn)) b 88 (lgC d L.g L.half (.slice Ap L.es.length cp) L.sure ((used L : Int) + ((encE l).length : Int)) (.slice An nn cn) L.fin) := (l14.set 5 (.int .i64 ((used L : Int) + ((encE l).length : Int)))).set 6 (.slice An nn cn)
    have hk5 : Kept (fun i => i < V4.heap.size ∧ i ≠ b) V4 ((V4.setCell ⟨b, 5, none⟩ (.int .i64 ((used L : Int) + ((encE l).length : Int)))).setCell ⟨b, 6, none⟩ (.slice An nn cn)) := Kept.of_grown gs5 fun i hi => ⟨hi.1, fun e => hi.2 (Option.some.inj e)⟩
    generalize ((V4.setCell ⟨b, 5, none⟩ (.int .i64 ((used L : Int) + ((encE l).length : Int)))).setCell ⟨b, 6, none⟩ (.slice An nn cn)) = V5 at *
    clear gs5 l14 z3 z5 z6 z7 f5 f6 f7
    have hdr5 := (Below.refl V5.heap.size V5).drew
    have hk5d : Kept (fun i => i < V4.heap.size ∧ i ≠ b) V4 V5.drew := hk5.trans (Kept.of_below hdr5 fun i hi => by have := hk5.size; omega)
    have hs5 := hk5d.size
    replace o5 := o5.same hdr5
    have hkw5 : Kept (fun i => i < w.heap.size ∧ i ≠ b ∧ i ≠ d ∧ i ≠ sb ∧ i ≠ mb) w V5.drew := (HKw.out.mono fun i hi => ⟨hi.1, hi.2.2⟩).trans (hk5d.mono fun i hi => ⟨by omega, hi.2.1⟩)
    have hFx : ∀ i, ¬ X i ∧ i < w.heap.size → i < w.heap.size ∧ i ≠ b ∧ i ≠ d ∧ i ≠ sb ∧ i ≠ mb := fun i hi => ⟨hi.2, fun e => hi.1 (e ▸ hxX.1), fun e => hi.1 (e ▸ hxX.2.1), fun e => hi.1 (e ▸ hxX.2.2.1), fun e => hi.1 (e ▸ hxX.2.2.2)⟩
    have hIE5 := HIE.out.lt.kept (hkw5.mono hFx)
    have hrow5 : V5.drew.ownsRow base 34 1 (.slice Ap L.es.length cp) L.es.length vs := row_keptK HL2.out hkw5 fun g hg => ⟨(HL2.out.lt g hg).2, HL4.out g hg⟩
    have hEs5 : Ents V5.drew (fun i => (Y i ∧ ¬ X i) ∧ i < w.heap.size) vs L.es := HL5.out.lt.kept (hkw5.mono fun i hi => hFx i ⟨hi.1.2, hi.2⟩)
    have hT5 : EntAt V5.drew (fun i => w.heap.size ≤ i ∧ i < V4.heap.size) (.slice An nn cn) (tailOf { L with es := L.es ++ [l] }) := by
      have h1 := EntAt.own HNR.out
      rw [tail_next] at h1
      have hl9 := HNR.out.lt
      exact (h1.kept (hk5d.mono fun i hi => ⟨(hl9 i hi).2, by have := (hl9 i hi).1; omega⟩)).mono fun i hi => ⟨by have := (hl9 i hi).1; omega, (hl9 i hi).2⟩
    have hDv5 := HD4.out.kept hk5d ⟨HD4.out.ob.lt, hne.1.symm⟩ ⟨HD4.out.sure.lt, hne.2.1.symm⟩ ⟨HD4.out.map.lt, hne.2.2.symm⟩
    have cC := Lib.hid (cloneb_calls l _ V5.drew hIE5.bytes (by omega))
    have HT5 := Lib.hid hT5
    have HDv5 := Lib.hid hDv5
    have HKw5 := Lib.hid hkw5
    have HFx := Lib.hid hFx
    have hbase : base ≤ w.heap.size := by have := (H.out.y b (H.out.xy b hxX.1)); omega
    obtain ⟨i1, hi1, hq0⟩ := Option.map_eq_some_iff.1 slice_info
    simp only [Prod.mk.injEq] at hq0
    obtain ⟨hq0, hq1, hq2⟩ := hq0
    have husL : 3 * L.es.length ≤ 600000 := by unfold used at hus; omega
    clear hk5 hk5d hkw5 hIE5 hT5 hDv5 hFx
    refine Pt.regionT (.look 0 (.look 1 (.look 2 (.look 3 (.look 4 (.look 5 (.look 9 (.look 10 (.make 6 (.make 7 (.make 8 (.make 11 .nil)))))))))))) (fun V => Ob V b 88 (lgC d L.g L.half (.slice Ap L.es.length cp) L.sure ((used L : Int) + ((encE l).length : Int)) (.slice An nn cn) L.fin)) hmx (by kernel_rfl) (by kernel_rfl) (by kernel_rfl) o5 rfl ?_
    simp only [Pt.named, List.getElem?_toArray, List.getElem?_cons_succ, List.getElem?_cons_zero, Option.map_some]
    iterate 8 (apply Pt.WalkT.on (by rfl)
               · rintro V hV
                 have q3 := hV.cell (j := 3) (v := .slice Ap L.es.length cp) rfl
                 go_wp2_with fail
                 refine ⟨rfl, ?_, rfl⟩
                 try simp only [Act.put, List.setIfInBounds_toArray, List.set_cons_succ, List.set_cons_zero]
                 rfl
               simp only [Act.put, List.setIfInBounds_toArray, List.set_cons_succ, List.set_cons_zero])
    refine Pt.WalkT.make (by rfl) ?_
    rintro T1 rfl
    go_wp2_with fail
    refine cC.out.mono ?_
    rintro e T2 ⟨⟨cl, rfl, hcl⟩, hbT⟩
    have o52 := o5.same hbT
    have hrow2 := ownsRow_below hrow5 hbT
    have hEs2 := hEs5.same hbT
    have hT2s := hbT.size
    have hcE := EntAt.own hcl
    have hcL : ∀ g, cl.ownBlock = some g → V5.drew.heap.size ≤ g ∧ g < T2.heap.size := fun g hg => hcl.lt g hg
    have hk2 : Below V5.drew.heap.size V5.drew T2 := hbT
    obtain ⟨A8, c8, rfl, -⟩ := (BytesAt.of_own hcl).form
    clear hcl hbT
    go_wp2_with fail
    refine ⟨rfl, .slice A8 l.length c8, (fun V => Ob V b 88 (lgC d L.g L.half (.slice Ap L.es.length cp) L.sure ((used L : Int) + ((encE l).length : Int)) (.slice An nn cn) L.fin)), (fun V => V = T2), ?_, rfl, (fun V h => by rw [h]; exact o52), (.inr (fun _ h => h)), ?_⟩
    · try simp only [Act.put, List.setIfInBounds_toArray, List.set_cons_succ, List.set_cons_zero]
      try rfl
    simp only [Act.put, List.setIfInBounds_toArray, List.set_cons_succ, List.set_cons_zero]
    refine Pt.WalkT.make (by rfl) ?_
    rintro T3 rfl
    go_wp2_with fail
    refine ⟨rfl, .slice (some ⟨T3.heap.size, 0, none⟩) 1 1, (fun V => Ob V b 88 (lgC d L.g L.half (.slice Ap L.es.length cp) L.sure ((used L : Int) + ((encE l).length : Int)) (.slice An nn cn) L.fin)), (fun V => V = T3.alloc (.cells #[.slice A8 l.length c8] 34)), ?_, rfl, (fun V h => by rw [h]; exact o52.alloc _), (.inr (fun _ h => h)), ?_⟩
    · try simp only [Act.put, List.setIfInBounds_toArray, List.set_cons_succ, List.set_cons_zero]
      try rfl
    simp only [Act.put, List.setIfInBounds_toArray, List.set_cons_succ, List.set_cons_zero]
    have hA4 := Sl.new T3 #[.slice A8 l.length c8] 34 (n := 1) (size := 1) rfl (by unfold maxLen; omega)
    have hal := (Below.refl T3.heap.size T3).alloc (Nat.le_refl _) (.cells #[.slice A8 l.length c8] 34)
    have hs4' : (T3.alloc (.cells #[.slice A8 l.length c8] 34)).heap.size = T3.heap.size + 1 := by simp
    replace o52 := o52.alloc (.cells #[.slice A8 l.length c8] 34)
    replace hrow2 := hrow2.alloc (.cells #[.slice A8 l.length c8] 34)
    replace hEs2 := hEs2.same hal
    replace hcE := hcE.same hal
    replace hk2 := hk2.trans (hal.mono hT2s)
    have HS4 := Lib.hid hs4'
    refine Pt.WalkT.make (by rfl) ?_
    rintro T4 hT4
    rw [← hT4] at o52 hrow2 hEs2 hcE hk2 hA4 HS4
    clear hT4 hs4' hal hrow5 hEs5 o5
    have hrl := HL2.out.lt
    have hsT3 : w.heap.size ≤ T3.heap.size := by omega
    refine wpList_append_sl _ rfl (.tmp 72) (.tmp 75) _ rfl base 34 i1 _ 1 24 Try.underlying22 hi1 hq0 hq1 hq2 rfl (by omega) (.slice Ap L.es.length cp) L.es.length vs rfl hrow2 T3.heap.size (T3.heap.size + 1) _ 1 [.slice A8 l.length c8] rfl hA4 (by simp [Value.oneCell']) (by unfold maxLen; omega) (by omega) (by have := HS4.out; omega) ?_
    intro v1 T5 hv1 hgx hat1
    have hneb : some b ≠ (Value.slice Ap L.es.length cp).ownBlock := fun e => (HL4.out b e.symm).1 rfl
    have o55 := o52.kept hgx hneb
    have hgs := hgx.size
    have hk5 : Kept (fun i => i < w.heap.size ∧ (Value.slice Ap L.es.length cp).ownBlock ≠ some i) V5.drew T5 := (Kept.of_below hk2 fun i hi => by omega).trans (Kept.of_grown hgx fun i hi => ⟨by have := HS4.out; omega, fun e => hi.2 e.symm⟩)
    have hXw : ∀ i, X i → i < w.heap.size := fun i hi => (H.out.y i (H.out.xy i hi)).2
    have hs4o := HS4.out
    have hv1l := hv1.lt
    have hvX : ∀ i, v1.ownBlock = some i → X i ∨ i = T4.heap.size := fun i hi => by
      rcases hat1 with h | h
      · exact .inl (HL3.out i (h.symm.trans hi))
      · rw [h] at hi; cases hi; exact .inr rfl
    have hvN : ∀ g, v1.ownBlock = some g → g ≠ b ∧ g ≠ d ∧ g ≠ sb ∧ g ≠ mb := fun g hg => by
      rcases hat1 with h | h
      · exact HL4.out g (h.symm.trans hg)
      · rw [h] at hg
        cases hg
        have h1 := hXw b hxX.1
        have h2 := hXw d hxX.2.1
        have h3 := hXw sb hxX.2.2.1
        have h4 := hXw mb hxX.2.2.2
        omega
    have hDvT := HDv5.out.kept hk5 ⟨hXw d hxX.2.1, fun e => (HL4.out d e).2.1 rfl⟩ ⟨hXw sb hxX.2.2.1, fun e => (HL4.out sb e).2.2.1 rfl⟩ ⟨hXw mb hxX.2.2.2, fun e => (HL4.out mb e).2.2.2 rfl⟩
    have hEsT : Ents T5 (fun i => (Y i ∧ ¬ X i) ∧ i < w.heap.size) vs L.es := hEs2.kept (Kept.of_grown hgx fun i hi => ⟨by omega, fun e => hi.1.2 (HL3.out i e.symm)⟩)
    have hcT : EntAt T5 (fun i => V5.drew.heap.size ≤ i ∧ i < T3.heap.size) (.slice A8 l.length c8) l := (hcE.kept (Kept.of_grown hgx fun i hi => ⟨by have := hcL i hi; omega, fun e => by have := hrl i e.symm; have := hcL i hi; omega⟩)).mono fun i hi => hcL i hi
    have hTT : EntAt T5 (fun i => w.heap.size ≤ i ∧ i < V4.heap.size) (.slice An nn cn) (tailOf { L with es := L.es ++ [l] }) := HT5.out.kept ((Kept.of_below hk2 fun i hi => by omega).trans (Kept.of_grown hgx fun i hi => ⟨by omega, fun e => by have := hrl i e.symm; omega⟩))
    obtain ⟨A9, c9, rfl, -⟩ := (Sl.of_own hv1).at_
    have HV1 := Lib.hid hv1
    have HvX := Lib.hid hvX
    have HvN := Lib.hid hvN
    have HDvT := Lib.hid hDvT
    have HEsT := Lib.hid hEsT
    have HcT := Lib.hid hcT
    have HTT := Lib.hid hTT
    have HK5 := Lib.hid hk5
    have HVL := Lib.hid hv1l
    have HXW := Lib.hid hXw
    have hT5s : w.heap.size ≤ T5.heap.size := by omega
    clear hv1 hvX hvN hDvT hEsT hcT hTT hk5 hv1l hat1 hgx hrow2 hEs2 hcE hA4 hXw hcL hrl hk2 o52
    refine ⟨rfl, .slice A9 (L.es.length + 1) c9, (fun V => Ob V b 88 (lgC d L.g L.half (.slice Ap L.es.length cp) L.sure ((used L : Int) + ((encE l).length : Int)) (.slice An nn cn) L.fin)), (fun V => V = T5), ?_, rfl, (fun V h => by rw [h]; exact o55), (.inr (fun _ h => h)), ?_⟩
    · try simp only [Act.put, List.setIfInBounds_toArray, List.set_cons_succ, List.set_cons_zero]
      try rfl
    simp only [Act.put, List.setIfInBounds_toArray, List.set_cons_succ, List.set_cons_zero]
    refine Pt.WalkT.make (by rfl) ?_
    rintro T6 rfl
    have q3 := o55.cell (j := 3) (v := .slice Ap L.es.length cp) rfl
    have f3 := o55.frozen 3
    go_wp2_with fail
    have gs := grownBy_set T6 b 3 (.slice A9 (L.es.length + 1) c9)
    have o56 := o55.set 3 (.slice A9 (L.es.length + 1) c9)
    have hkS : Kept (fun i => i < T6.heap.size ∧ i ≠ b) T6 (T6.setCell ⟨b, 3, none⟩ (.slice A9 (L.es.length + 1) c9)) := Kept.of_grown gs fun i hi => ⟨hi.1, fun e => hi.2 (Option.some.inj e)⟩
    refine ⟨rfl, undef, (fun _ => True), (fun V => V = T6.setCell ⟨b, 3, none⟩ (.slice A9 (L.es.length + 1) c9)), rfl, rfl, (fun _ _ => trivial), (.inl (by kernel_rfl)), Pt.WalkT.nil ?_⟩
    rintro T7 rfl
    simp only [Act.put]
    generalize T6.setCell ⟨b, 3, none⟩ (.slice A9 (L.es.length + 1) c9) = T7 at *
    have q3' := o56.cell (j := 3) (v := .slice A9 (L.es.length + 1) c9) rfl
    have HO6 := Lib.hid o56
    have HKS := Lib.hid hkS
    clear q3 f3 gs o55 o56 hkS
    go_wp2
    go_ret2
    rw [HA2.out]
    have hkS := HKS.out
    have hs7 := hkS.size
    have hXw := HXW.out
    have hsz0 := hXw b hxX.1
    have huse : ((used { L with es := L.es ++ [l] } : Nat) : Int) = (used L : Int) + ((encE l).length : Int) := by
      show ((strm (L.es ++ [l])).length : Int) = _
      rw [strm_snoc, List.length_append]
      unfold used
      omega
    have hok := H.out.ok.append (wr := writeD) (D := D) l
    rw [HA2.out] at hok
    have hY0 := H.out.y
    have hfr : Kept (fun i => i < w.heap.size ∧ ¬ X i) w T7 := (HKw5.out.mono fun i hi => HFx.out i ⟨hi.2, hi.1⟩).trans ((HK5.out.mono fun i hi => ⟨hi.1, fun e => hi.2 (HL3.out i e)⟩).trans (hkS.mono fun i hi => ⟨by omega, fun e => hi.2 (e ▸ hxX.1)⟩))
    refine ⟨by simp, fun i => X i ∨ (Value.slice A9 (L.es.length + 1) c9).ownBlock = some i, fun i => Y i ∨ (w.heap.size ≤ i ∧ i < T7.heap.size), ⟨HDvT.out.kept hkS ⟨by have := HDvT.out.ob.lt; omega, hne.1.symm⟩ ⟨by have := HDvT.out.sure.lt; omega, hne.2.1.symm⟩ ⟨by have := HDvT.out.map.lt; omega, hne.2.2.symm⟩, by rw [HRl.out]; exact H.out.len,
      ⟨.slice A9 (L.es.length + 1) c9, .slice An nn cn, vs ++ [.slice A8 l.length c8], ?_, ?_, fun g hg => .inr hg, HvN.out, ?_, ?_⟩, ⟨.inl hxX.1, .inl hxX.2.1, .inl hxX.2.2.1, .inl hxX.2.2.2⟩, hne, fun i hi => ?_, fun i hi => ?_, ?_⟩, fun i hi => ?_, fun i hi => ?_, hfr⟩
    · have := HO6.out
      rw [← huse] at this
      exact this
    · have := row_keptK HV1.out hkS fun g hg => ⟨(HVL.out g hg).2, (HvN.out g hg).1⟩
      have hl1 : (L.es ++ [l]).length = L.es.length + 1 := by rw [List.length_append]; rfl
      show T7.ownsRow base _ 1 _ (L.es ++ [l]).length _
      rw [hl1]
      exact this
    · have h1 : Ents T7 (fun i => (Y i ∨ (w.heap.size ≤ i ∧ i < T7.heap.size)) ∧ ¬ (X i ∨ (Value.slice A9 (L.es.length + 1) c9).ownBlock = some i)) vs L.es := (HEsT.out.kept (hkS.mono fun i hi => ⟨by omega, fun e => hi.1.2 (e ▸ hxX.1)⟩)).mono fun i hi => ⟨.inl hi.1.1, fun h => h.elim hi.1.2 fun e => by
        rcases HvX.out i e with h | h
        · exact hi.1.2 h
        · omega⟩
      have h2 : EntAt T7 (fun i => (Y i ∨ (w.heap.size ≤ i ∧ i < T7.heap.size)) ∧ ¬ (X i ∨ (Value.slice A9 (L.es.length + 1) c9).ownBlock = some i)) (.slice A8 l.length c8) l := (HcT.out.kept (hkS.mono fun i hi => by omega)).mono fun i hi => ⟨.inr (by omega), fun h => h.elim (fun h => by have := hXw i h; omega) fun e => by
        rcases HvX.out i e with h | h
        · have := hXw i h; omega
        · omega⟩
      exact h1.snoc h2
    · exact (HTT.out.kept (hkS.mono fun i hi => by omega)).mono fun i hi => ⟨.inr (by omega), fun h => h.elim (fun h => by have := hXw i h; omega) fun e => by
        rcases HvX.out i e with h | h
        · have := hXw i h; omega
        · omega⟩
    · rcases hi with h | h
      · exact .inl (H.out.xy i h)
      · rcases HvX.out i h with h2 | h2
        · exact .inl (H.out.xy i h2)
        · exact .inr ⟨by omega, by have := (HVL.out i h).2; omega⟩
    · rcases hi with h | h
      · have := hY0 i h; omega
      · omega
    · rw [szD_len HRl.out]
      exact hok
    · rcases hi with h | h
      · exact .inl h
      · rcases HvX.out i h with h2 | h2
        · exact .inl h2
        · exact .inr (by omega)
    · rcases hi with h | h
      · exact .inl h
      · exact .inr h.1
  · have hq : (R.2 != 0) = true := by simpa using h0
    have HA2 := Lib.hid (HA.out.trans (if_pos h0))
    clear h0 HA HN0
    go_wp2
    go_ret2
    rw [HA2.out]
    have gs := grownBy_set V4 b 7 (.bool true)
    have hkk : Kept (fun i => i < w.heap.size ∧ i ≠ b ∧ i ≠ d ∧ i ≠ sb ∧ i ≠ mb) w (V4.setCell ⟨b, 7, none⟩ (.bool true)) := (HKw.out.mono fun i hi => ⟨hi.1, hi.2.2⟩).trans (Kept.of_grown gs fun i hi => ⟨by omega, fun e => hi.2.1 (Option.some.inj e)⟩)
    have hD5 := HD4.out.kept (Kept.of_grown (Fr := fun i => i < V4.heap.size ∧ i ≠ b) gs fun i hi => ⟨hi.1, fun e => hi.2 (Option.some.inj e)⟩) ⟨HD4.out.ob.lt, hne.1.symm⟩ ⟨HD4.out.sure.lt, hne.2.1.symm⟩ ⟨HD4.out.map.lt, hne.2.2.symm⟩
    have hr := H.out.remake hkk hD5 HRl.out (su := L.sure) (fin := true) (fun ev tv ho => ((HKw.out.ob ho ⟨hbl0, hne⟩)).set 7 (.bool true)) H.out.ok.sure
    exact ⟨rfl, X, Y, hr, Grew.of_kept (kept_x hxX hkk)⟩
end
end Wa
end Go.Proofs.Yteiniahikhiadaa

namespace Go.Proofs.Yteiniahikhiadaa
open Go.RowKit Go.Maps
namespace Wa
open Ce Se
section
variable {w w' : World} {base b d sb mb : Nat} {D D' : Dv} {X Y : Nat → Prop} {L : Lg}
set_option maxRecDepth 100000 in
theorem append_long (b : Nat) {l : List UInt8} {v : Value} {lo hi : Nat} (hI : BytesAt w lo hi v l) (h1 : 65536 < l.length) :
    Calls Try.prog 17 #[.pointer (some ⟨b, 0, none⟩), v] w fun e w' => e = .returned (.tuple #[.int .i64 0, .int .i64 3]) ∧ w = w' := by
  obtain ⟨Ab, cb, rfl, hcb1, hcb2⟩ := hI.form
  unfold maxLen at hcb2
  have hd1 : decide ((l.length : Int) > 65536) = true := by simp; omega
  clear hI h1
  go_enter Try.func17, Try.ntmps17
  go_wp2
  go_ret2
  exact ⟨rfl, rfl⟩
set_option maxRecDepth 100000 in
theorem append_full (h : LgAt w base b d sb mb X Y D L) {l : List UInt8} {v : Value} {lo hi : Nat} (hI : BytesAt w lo hi v l) (h1 : l.length ≤ 65536) (h2 : (l.length : Int) + 3 > roomL L (szD D)) :
    Calls Try.prog 17 #[.pointer (some ⟨b, 0, none⟩), v] w fun e w' => e = .returned (.tuple #[.int .i64 0, .int .i64 2]) ∧ Below w.heap.size w w' := by
  have cR := Lib.hid (room_calls h)
  obtain ⟨Ab, cb, rfl, hcb1, hcb2⟩ := hI.form
  unfold maxLen at hcb2
  have hd1 : decide ((l.length : Int) > 65536) = false := by simp; omega
  have hd2 : decide ((l.length : Int) + 3 > roomL L (szD D)) = true := by simp; omega
  generalize roomL L (szD D) = rm at *
  clear hI h2 h
  go_enter Try.func17, Try.ntmps17
  go_wp2_with fail
  refine cR.out.mono ?_
  rintro e w1 ⟨rfl, hb1⟩
  go_wp2
  go_ret2
  exact ⟨rfl, hb1⟩
set_option maxRecDepth 100000 in
theorem append_end (h : LgAt w base b d sb mb X Y D L) {l : List UInt8} {v : Value} {lo hi : Nat} (hI : BytesAt w lo hi v l) (h1 : l.length ≤ 65536) (h2 : (l.length : Int) + 3 ≤ roomL L (szD D)) (h3 : L.fin = true) :
    Calls Try.prog 17 #[.pointer (some ⟨b, 0, none⟩), v] w fun e w' => e = .returned (.tuple #[.int .i64 0, .int .i64 30]) ∧ Below w.heap.size w w' := by
  have cR := Lib.hid (room_calls h)
  obtain ⟨ev, tv, vs, l1, -⟩ := h.lg
  obtain ⟨Ab, cb, rfl, hcb1, hcb2⟩ := hI.form
  unfold maxLen at hcb2
  have hd1 : decide ((l.length : Int) > 65536) = false := by simp; omega
  have hd2 : decide ((l.length : Int) + 3 > roomL L (szD D)) = false := by simp; omega
  generalize roomL L (szD D) = rm at *
  have HF := Lib.hid h3
  clear hI h2 h h3
  go_enter Try.func17, Try.ntmps17
  go_wp2_with fail
  refine cR.out.mono ?_
  rintro e w1 ⟨rfl, hb1⟩
  have y7 := (l1.same hb1).cell (j := 7) (v := .bool L.fin) rfl
  rw [HF.out] at y7
  go_wp2
  go_ret2
  exact ⟨rfl, hb1⟩
theorem append_calls (h : LgAt w base b d sb mb X Y D L) {l : List UInt8} {v : Value} (hI : EntAt w (fun i => ¬ X i) v l) :
    Calls Try.prog 17 #[.pointer (some ⟨b, 0, none⟩), v] w fun e w' => e = .returned (.tuple #[.int .i64 (appendG writeD D L (szD D) l).2.2.1, .int .i64 (appendG writeD D L (szD D) l).2.2.2]) ∧
      ∃ X' Y', LgAt w' base b d sb mb X' Y' (appendG writeD D L (szD D) l).1 (appendG writeD D L (szD D) l).2.1 ∧ Grew w w' X Y X' Y' := by
  by_cases h1 : l.length > 65536
  · have e : appendG writeD D L (szD D) l = (D, L, 0, 3) := by unfold appendG; rw [if_pos h1]
    rw [e]
    refine (append_long b hI.bytes h1).mono ?_
    rintro e w' ⟨rfl, rfl⟩
    exact ⟨rfl, X, Y, h, Grew.of_kept (Kept.refl _ _)⟩
  · by_cases h2 : (l.length : Int) + 3 > roomL L (szD D)
    · have e : appendG writeD D L (szD D) l = (D, L, 0, 2) := by unfold appendG; rw [if_neg h1, if_pos h2]
      rw [e]
      refine (append_full h hI.bytes (by omega) h2).mono ?_
      rintro e w' ⟨rfl, hb⟩
      exact ⟨rfl, X, Y, h.same hb, Grew.of_kept (Kept.of_below hb fun i hi => hi.1)⟩
    · cases h3 : L.fin with
      | true =>
        have e : appendG writeD D L (szD D) l = (D, L, 0, 30) := by unfold appendG; rw [if_neg h1, if_neg h2, if_pos h3]
        rw [e]
        refine (append_end h hI.bytes (by omega) (by omega) h3).mono ?_
        rintro e w' ⟨rfl, hb⟩
        exact ⟨rfl, X, Y, h.same hb, Grew.of_kept (Kept.of_below hb fun i hi => hi.1)⟩
      | false => exact append_good h hI (by omega) (by omega) h3
end
end Wa
end Go.Proofs.Yteiniahikhiadaa

namespace Go.Proofs.Yteiniahikhiadaa
open Go.RowKit Go.Maps
namespace Wa
open Ce Se
theorem Lay.szD {D : Dv} {n : Nat} {g : Int} {half : Nat} {es : List (List UInt8)} (h : Lay D n g half es) : szD D = (n - 2) / 2 := by unfold Wa.szD; rw [h.al.len]
theorem openD_new {n : Nat} (h4 : 4 ≤ n) : ∃ D, openD (newD n) = (D, some ⟨1, 0, [], 0, false⟩, 0) ∧ Lay D n 1 0 [] := by
  obtain ⟨h1, h2, h3⟩ := open_new h4
  have hl : (newD n).sure.length = n := by simp [newD]
  refine ⟨_, ?_, h3⟩
  unfold openD
  rw [hl]
  generalize openG writeD flushD lastD offD n (newD n) = r at *
  obtain ⟨r1, r2, r3⟩ := r
  simp only at h1 h2
  rw [h1, h2]
theorem lives_plain : ∃ D1 D2 D3, openD (newD 8) = (D1, some ⟨1, 0, [], 0, false⟩, 0) ∧ szD D1 = 3 ∧ appendG writeD D1 ⟨1, 0, [], 0, false⟩ 3 [97] = (D2, ⟨1, 0, [[97]], 0, false⟩, 0, 0) ∧ szD D2 = 3 ∧ syncG flushD D2 ⟨1, 0, [[97]], 0, false⟩ = (D3, ⟨1, 0, [[97]], 1, false⟩, 0) ∧ szD D3 = 3 := by
  obtain ⟨D1, h1, l1⟩ := openD_new (n := 8) (by omega)
  have hr : roomL (⟨1, 0, [], 0, false⟩ : Lg) 3 = 189 := by unfold roomL used; rfl
  rcases l1.append (L := ⟨1, 0, [], 0, false⟩) rfl [97] with ⟨h, -⟩ | ⟨-, h, -⟩ | ⟨-, -, D2, h2, l2⟩
  · simp at h
  · rw [show (8 - 2) / 2 = 3 from rfl, hr] at h
    simp at h
  · obtain ⟨D3, h3, l3⟩ := Lay.sync (L := ⟨1, 0, [[97]], 0, false⟩) l2 rfl
    exact ⟨D1, D2, D3, h1, l1.szD, h2, l2.szD, h3, l3.szD⟩
theorem eql_nilE (b : Nat) (w : World) : (binOp .eql 45 (.func (.func 55) #[] #[.pointer (some ⟨b, 0, none⟩)]) .nilFunc).run Try.prog w = .ok (.bool false) w := by kernel_rfl
/-- a constant's bytes -/
theorem Sl.newm (w : World) (cs : Array Value) (t : TypeId) (m : Nat × Nat) {size n : Nat} (h : cs.size = n * size) (hn : n ≤ maxLen) :
    Sl (w.alloc (.cells cs t m)) w.heap.size (w.heap.size + 1) size (.slice (some ⟨w.heap.size, 0, none⟩) n n) n cs.toList := by
  refine ⟨by simpa using h, _, n, rfl, Nat.le_refl _, hn, fun _ => ⟨w.heap.size, 0, rfl, Nat.le_refl _, by omega, fun j _ => ?_⟩⟩
  unfold World.cell?
  rw [heap_alloc_new]
  simp
theorem Grew.below {w w' : World} {X Y X' Y' : Nat → Prop} {B : Nat} (h : Grew w w' X Y X' Y') (hB : B ≤ w.heap.size) (hX : ∀ i, X i → B ≤ i) : Below B w w' := h.kp.below fun i hi => ⟨by omega, fun hx => by have := hX i hx; omega⟩
theorem LgAt.xlo {w : World} {base b d sb mb : Nat} {X Y : Nat → Prop} {D : Dv} {L : Lg} (h : LgAt w base b d sb mb X Y D L) : ∀ i, X i → base ≤ i := fun i hi => (h.y i (h.xy i hi)).1
set_option maxRecDepth 100000 in
set_option maxHeartbeats 8000000 in
theorem lives_calls (w : World) : Calls Try.prog 13 #[] w fun e w' => e = .returned (.bool true) ∧ Below w.heap.size w w' := by
  obtain ⟨D1, D2, D3, p1, z1, p2, z2, p3, z3⟩ := lives_plain
  have heq := eql_nilE
  have hcv := fun (w : World) (C : Array Value) (n c : Nat) => Lib.run_convert_bytes_const (P := Try.prog) w 34 5 C n c Try.underlying34 Try.underlying5
  have cN := new_calls 8 w (by omega) (by omega)
  rw [show ((8 : Nat) : Int) = 8 from rfl] at cN
  have CN := Lib.hid cN
  clear cN
  go_enter Try.func13, Try.ntmps13
  go_wp2_with fail
  refine CN.out.mono ?_
  rintro e w1 ⟨⟨d, sb, mb, rfl, hD⟩, hB⟩
  have cO := open_calls hD
  rw [p1] at cO
  have CO := Lib.hid cO
  have HLO := Lib.hid hD.lo
  clear cO hD
  go_wp2_with fail
  refine CO.out.mono ?_
  rintro e w2 ⟨pv, rfl, -, hDv, -, hL⟩
  obtain ⟨b, X, Y, rfl, hLg, -⟩ := hL _ rfl
  have hB2 : Below w.heap.size w w2 := hB.trans (Dev.below hDv hB.size (by have := HLO.out; omega))
  have HLg := Lib.hid hLg
  clear hL hLg hDv hB CO
  go_wp2_with (go_at_call 15; refine (open_nil _).mono ?_; rintro e w3 ⟨rfl, rfl⟩)
  refine (entries_made _ _).mono ?_
  rintro e w3 ⟨rfl, hw3⟩
  have hb3 : Below w2.heap.size w2 w3 := by rw [← hw3]; exact (Below.refl _ w2).alloc (Nat.le_refl _) _
  have hB3 := hB2.trans (hb3.mono hB2.size)
  have HL3 := Lib.hid (HLg.out.same hb3)
  clear hw3
  go_wp2_with fail
  have hsl : BytesAt (w3.alloc (.cells #[.int .u8 97] 5 (1, 2))) w3.heap.size (w3.heap.size + 1) (.slice (some ⟨w3.heap.size, 0, none⟩) 1 1) [97] := Sl.newm w3 #[.int .u8 97] 5 (1, 2) (n := 1) (size := 1) rfl (by unfold maxLen; omega)
  have hb4 := (Below.refl w3.heap.size w3).alloc (Nat.le_refl _) (.cells #[.int .u8 97] 5 (1, 2))
  have hs4 : (w3.alloc (.cells #[.int .u8 97] 5 (1, 2))).heap.size = w3.heap.size + 1 := by simp
  have hI : EntAt (w3.alloc (.cells #[.int .u8 97] 5 (1, 2))) (fun i => ¬ X i) (.slice (some ⟨w3.heap.size, 0, none⟩) 1 1) [97] := ⟨_, _, hsl, by omega, fun i h1 h2 hx => by have := (HL3.out.y i (HL3.out.xy i hx)).2; omega⟩
  have cA := append_calls (HL3.out.same hb4) hI
  rw [z1, p2] at cA
  have CA := Lib.hid cA
  have hB4 := hB3.trans (hb4.mono hB3.size)
  clear hsl hI cA hs4
  generalize w3.alloc (.cells #[.int .u8 97] 5 (1, 2)) = w4 at *
  refine CA.out.mono ?_
  rintro e w5 ⟨rfl, X5, Y5, hL5, hG5⟩
  have hB5 := hB4.trans (hG5.below hB4.size HL3.out.xlo)
  have cS := sync_calls hL5
  rw [p3] at cS
  have CS := Lib.hid cS
  have cU := Lib.hid (sure_calls hL5)
  have HL5 := Lib.hid hL5
  clear hL5 hG5 cS CA hb4
  go_wp2_with (go_at_call 21; refine cU.out.mono ?_; rintro e w6 ⟨rfl, rfl⟩)
  refine CS.out.mono ?_
  rintro e w6 ⟨rfl, hL6, hK6⟩
  have hB6 := hB5.trans (Kept.below hK6 (B := w.heap.size) fun i hi => ⟨by have := hB5.size; omega, fun hx => by have := HL5.out.xlo i hx; omega⟩)
  have cU6 := Lib.hid (sure_calls hL6)
  have cL6 := Lib.hid (wlen_calls hL6)
  have cR6 := room_calls hL6
  rw [z3, show roomL (⟨1, 0, [[97]], 1, false⟩ : Lg) 3 = 185 from rfl] at cR6
  have CR6 := Lib.hid cR6
  have HL6 := Lib.hid hL6
  clear hL6 hK6 cR6
  go_wp2_with (first
    | (go_at_call 21; refine cU6.out.mono ?_; rintro e w7 ⟨rfl, rfl⟩)
    | (go_at_call 24; refine cL6.out.mono ?_; rintro e w7 ⟨rfl, rfl⟩))
  refine CR6.out.mono ?_
  rintro e w7 ⟨rfl, hb7⟩
  have hB7 := hB6.trans (hb7.mono hB6.size)
  have cG := Lib.hid (gen_calls (HL6.out.same hb7))
  go_wp2_with (go_at_call 20; refine cG.out.mono ?_; rintro e w8 ⟨rfl, rfl⟩)
  go_ret
  exact ⟨rfl, hB7⟩
end Wa
end Go.Proofs.Yteiniahikhiadaa

namespace Go.Proofs.Yteiniahikhiadaa
open Go.RowKit
namespace Rv
section
variable {δ : Type} {F : Fence} {n : Nat} {P : Program}

/-- a contract of an iterator: its values read by Rd where they are handed over -/
def Reads (F : Fence) (n : Nat) (P : Program) (gf : Nat) (lb : Array Value) (Rd : δ → Array Value → World → Prop) (Kp : World → World → Prop) (S Sp : List δ → Prop) (T : List δ → δ → Prop) (w : World) : Prop :=
  ∀ (l : Nat) (J Jx : List δ → World → Prop) (W : World), Below w.heap.size w W → AbidesFrom W.heap.size J → AbidesFrom W.heap.size Jx →
    (∀ pre d v W1, J pre W1 → T pre d → Rd d v W1 → YieldAt F (n - 1) P l v W1 fun e W' => (e = .returned (.bool true) ∧ J (pre ++ [d]) W' ∧ Kp W1 W') ∨ (e = .returned (.bool false) ∧ Jx (pre ++ [d]) W')) →
    J [] W →
    CallsIn F n P gf (#[.func (.yield l) #[] #[]] ++ lb) W fun e W' => (∃ v, e = .returned v) ∧ ((∃ xs, S xs ∧ J xs W') ∨ (∃ pre, Sp pre ∧ Jx pre W'))

/-- the loop's own two blocks -/
structure Bk (D l : Nat) (r : Loop) (W : World) : Prop where
  loop : W.heap[l]? = some (.loop r)
  mark : W.heap[D]? = some (.deferred (some []))
theorem Bk.lt {D l : Nat} {r : Loop} {W : World} (h : Bk D l r W) : l < W.heap.size ∧ D < W.heap.size := ⟨(Array.getElem?_eq_some_iff.1 h.loop).1, (Array.getElem?_eq_some_iff.1 h.mark).1⟩
theorem Bk.abide {D l : Nat} {r : Loop} {A B : World} {row : Option Nat} (h : Bk D l r A) (hg : A.grownBy B row) (hr : ∀ k, row = some k → ∃ o : Obj, A.heap[k]? = some o ∧ o.isWalk = true) : Bk D l r B :=
  ⟨(grownBy_keeps hg hr h.loop rfl).trans h.loop, (grownBy_keeps hg hr h.mark rfl).trans h.mark⟩
theorem Bk.keeps {D l B : Nat} {r : Loop} {X Y : World} (h : Bk D l r X) (hk : KeepsFrom B X Y) (hD : B ≤ D) (hl : B ≤ l) : Bk D l r Y :=
  ⟨hk.same _ _ hl h.loop rfl, hk.same _ _ hD h.mark rfl⟩
theorem Bk.turn {D l : Nat} {r : Loop} {W : World} (h : Bk D l r W) (hne : D ≠ l) (r' : Loop) : Bk D l r' (W.putObj l (.loop r')) :=
  ⟨World.putObj_heap_same h.lt.1, (World.putObj_heap_other hne).trans h.mark⟩

/-- how a round may be left -/
def rpost (B : Nat) (Kp : World → World → Prop) (I : List δ → World → Prop) (Ix : Code → List δ → World → Prop) (xs : List δ) (W : World) : Exit → Act → World → Prop
  | .normal, _, W' => KeepsFrom B W W' ∧ Kp W W' ∧ I xs W'
  | .ret, _, W' => KeepsFrom B W W' ∧ Ix .ret xs W'
  | .exit id, _, W' => KeepsFrom B W W' ∧ Ix (.exit id) xs W'
  | .goto t, _, W' => KeepsFrom B W W' ∧ Ix (.goto t) xs W'
  | .panic _, _, _ => False
  | .outgrown, _, _ => False

theorem range_reads {g : Operand} {ps : Array Tmp} {assign body : Code} {Q : Exit → Act → World → Prop} {a : Act} {w : World}
    (hro : F.round = none) (h1 : 1 ≤ n) {gf : Nat} {lb : Array Value} (hg : a.eval g = .func (.func gf) #[] lb) (hFg : F.fn gf) (eg : ∀ args w, (callFunc gf args).run P w = .ok (.enter gf args) w)
    {Rd : δ → Array Value → World → Prop} {Kp : World → World → Prop} {S Sp : List δ → Prop} {T : List δ → δ → Prop} {w0 : World} (hit : Reads F (n - 1) P gf lb Rd Kp S Sp T w0) (hb0 : Below w0.heap.size w0 w)
    (hKt : ∀ {A B C : World}, Kp A B → Kp B C → Kp A C) (hKb : ∀ (W : World) (l : Nat) (r r' : Loop), w.heap.size ≤ l → W.heap[l]? = some (.loop r) → Kp W (W.putObj l (.loop r'))) (hps : ∀ d v W, Rd d v W → v.size = ps.size)
    (I : List δ → World → Prop) (Ix : Code → List δ → World → Prop) (hI : OwnFrom w.heap.size I) (hIx : ∀ c, OwnFrom w.heap.size (Ix c)) (h0 : I [] w)
    (hround : ∀ (l : Nat) (pre : List δ) (d : δ) (v : Array Value) (W : World), w.heap.size ≤ l → I pre W → T pre d → Rd d v W →
      assign.wpIn (F.inRound l) (n - 1 - 1) P (Exit.then (fun a' W' => KeepsFrom w.heap.size W W' ∧ Kp W W' ∧
        ∀ (W2 : World), W'.grownBy W2 (some l) → (∃ o : Obj, W'.heap[l]? = some o ∧ o.isCells = false) → body.wpIn (F.inRound l) (n - 1 - 1) P (rpost w.heap.size Kp I Ix (pre ++ [d]) W2) a' W2) (fun _ _ _ => False))
        { tmps := (ps.zip v).foldl (fun t (p, v) => t.setIfInBounds p v) a.tmps, defers := [] } W)
    (hdone : ∀ (D : Nat) (xs : List δ) (W : World), w.heap.size ≤ D → S xs → I xs W → W.heap[D]? = some (.deferred (some [])) → Q .normal { a with defers := { target := .collected D, args := #[] } :: a.defers } W)
    (hstop : ∀ (D : Nat) (c : Code) (pre : List δ) (W : World), w.heap.size ≤ D → Sp pre → Ix c pre W → W.heap[D]? = some (.deferred (some [])) → c.wpIn F n P Q { a with defers := { target := .collected D, args := #[] } :: a.defers } W) :
    (Code.rangeFunc g ps assign body).wpIn F n P Q a w := by
  refine wpIn_rangeFunc fun fn hfn => ?_
  obtain ⟨mk, hmk⟩ : ∃ mk : LoopState → Option Code → Loop, mk = fun st pe => { state := st, pending := pe, fn := fn, tmps := a.tmps, params := ps, assign := assign, body := body, defers := w.heap.size } := ⟨_, rfl⟩
  obtain ⟨D, hD⟩ : ∃ D, D = w.heap.size := ⟨_, rfl⟩
  obtain ⟨V, hV⟩ : ∃ V : World, V = (w.alloc (.deferred (some []))).alloc (.loop (mk .ready none)) := ⟨_, rfl⟩
  have hbk : Bk D (D + 1) (mk .ready none) V := by
    rw [hV, hD]
    refine ⟨?_, (Below.heap_alloc _ _ _ (by simp)).trans (World.alloc_heap_new w _)⟩
    have := World.alloc_heap_new (w.alloc (.deferred (some []))) (.loop (mk .ready none))
    rwa [World.size_alloc] at this
  have hIV : I [] V := by rw [hV]; exact hI.alloc _ (hI.alloc _ h0)
  have hbV : Below w0.heap.size w0 V := by
    rw [hV]; exact hb0.trans ((((Below.refl _ w).alloc (Nat.le_refl _) _).alloc (by simp) _).mono hb0.size)
  have hVs : w.heap.size ≤ V.heap.size := by rw [hV]; simp; omega
  refine ⟨D + 1, [{ target := .collected D, args := #[] }], V, { target := .fn (.func gf) lb, args := #[.func (.yield (D + 1)) #[] #[]] }, V, gf, #[.func (.yield (D + 1)) #[] #[]] ++ lb, V, ?_, ?_, ?_, ?_, fun _ => h1, ?_⟩
  · rw [hro, hV, hmk, hD]; exact run_enterLoop_outer _ _ _ _ _
  · simp only [resolve, hg]
    simp [go_sem]
  · intro f' hf'
    simp [Target.leads] at hf'
    subst hf'
    exact hFg
  · simp [invoke, go_sem, eg]
  have walkRow : ∀ {A : World} {row : Option Nat}, (∀ r, row = some r → V.heap.size ≤ r ∧ ∃ o : Obj, A.heap[r]? = some o ∧ o.isWalk = true) → (∀ r, row = some r → w.heap.size ≤ r ∧ ∃ o : Obj, A.heap[r]? = some o ∧ o.isCells = false) :=
    fun hr r e => by
      obtain ⟨h1, o, h2, h3⟩ := hr r e
      exact ⟨Nat.le_trans hVs h1, o, h2, Obj.not_cells_of_walk h3⟩
  refine (hit (D + 1) (fun pre W => I pre W ∧ Bk D (D + 1) (mk .ready none) W) (fun pre W => ∃ c, Ix c pre W ∧ Bk D (D + 1) (mk .done (some c)) W) V hbV
    (fun s A B row h hg hr => ⟨hI s A B row h.1 hg (walkRow hr), h.2.abide hg fun k e => (hr k e).2⟩)
    (fun s A B row h hg hr => let ⟨c, h1, h2⟩ := h; ⟨c, hIx c s A B row h1 hg (walkRow hr), h2.abide hg fun k e => (hr k e).2⟩)
    (fun pre d v W hJ hlen hrd => ?_) ⟨hIV, hbk⟩).mono ?_
  · -- a round
    obtain ⟨hi, hk⟩ := hJ
    have hsz : v.size = (mk .ready none).params.size := by rw [hmk]; exact hps d v W hrd
    have hy := run_yield (P := P) (args := v) hk.loop hsz
    rw [hmk] at hy
    refine ⟨fn, _, assign, body, hy, roundIn_of_wpIn hfn (wpIn_mono (hround (D + 1) pre d v W (by omega) hi hlen hrd) fun e a1 W1 h => ?_)⟩
    cases e with
    | normal =>
      obtain ⟨hk1, hkp1, hbody⟩ := h
      have hb1 := hk.keeps hk1 (by omega) (by omega)
      have hst : (mk .ready none).state = .ready := by rw [hmk]
      refine ⟨_, run_beginRound hb1.loop hst, ?_⟩
      have hb2 := hb1.turn (by omega) { mk .ready none with state := .busy }
      have hkb2 : Kp W1 (W1.putObj (D + 1) (.loop { mk .ready none with state := .busy })) := hKb _ _ _ _ (by omega) hb1.loop
      refine wpIn_mono (hbody _ (grownBy_putObj' _ _ _) ⟨_, hb1.loop, rfl⟩) fun e a3 W3 h3 => ?_
      have fin : ∀ (j : Option Code), KeepsFrom w.heap.size (W1.putObj (D + 1) (.loop { mk .ready none with state := .busy })) W3 → ∃ W4, (Instr.endRound (D + 1) j).run P W3 = .ok (.bool j.isNone) W4 ∧ Bk D (D + 1) (mk (if j.isNone then .ready else .done) j) W4 ∧ W4 = W3.putObj (D + 1) (.loop (mk (if j.isNone then .ready else .done) j)) ∧
          W3.heap[D + 1]? = some (.loop { mk .ready none with state := .busy }) := fun j hk3 => by
        have hb3 := hb2.keeps hk3 (by omega) (by omega)
        have hr := run_endRound (P := P) j hb3.loop
        refine ⟨_, hr, ?_, ?_, hb3.loop⟩
        · have := hb3.turn (by omega) { mk .ready none with state := if j.isNone then .ready else .done, pending := j }
          rw [hmk] at this ⊢
          exact this
        · rw [hmk]
      cases e with
      | normal =>
        obtain ⟨hk3, hkp3, hi3⟩ := h3
        obtain ⟨W4, hr, hb4, e4, hl3⟩ := fin none hk3
        exact ⟨_, W4, hr, .inl ⟨rfl, ⟨by rw [e4]; exact hI.putObj _ hi3 (by omega) hl3 rfl, hb4⟩, hKt hkp1 (hKt hkb2 (hKt hkp3 (by rw [e4]; exact hKb _ _ _ _ (by omega) hl3)))⟩⟩
      | ret =>
        obtain ⟨hk3, hi3⟩ := h3
        obtain ⟨W4, hr, hb4, e4, hl3⟩ := fin (some .ret) hk3
        exact ⟨_, W4, hr, .inr ⟨rfl, .ret, by rw [e4]; exact (hIx _).putObj _ hi3 (by omega) hl3 rfl, hb4⟩⟩
      | exit id =>
        obtain ⟨hk3, hi3⟩ := h3
        obtain ⟨W4, hr, hb4, e4, hl3⟩ := fin (some (.exit id)) hk3
        exact ⟨_, W4, hr, .inr ⟨rfl, .exit id, by rw [e4]; exact (hIx _).putObj _ hi3 (by omega) hl3 rfl, hb4⟩⟩
      | goto t =>
        obtain ⟨hk3, hi3⟩ := h3
        obtain ⟨W4, hr, hb4, e4, hl3⟩ := fin (some (.goto t)) hk3
        exact ⟨_, W4, hr, .inr ⟨rfl, .goto t, by rw [e4]; exact (hIx _).putObj _ hi3 (by omega) hl3 rfl, hb4⟩⟩
      | panic ch => exact h3.elim
      | outgrown => exact h3.elim
    | ret => exact h.elim
    | exit id => exact h.elim
    | goto t => exact h.elim
    | panic ch => exact h.elim
    | outgrown => exact h.elim
  · -- behind the iterator
    rintro e W2 ⟨⟨v, rfl⟩, hend⟩
    rcases hend with ⟨xs, hS, hi, hk⟩ | ⟨pre, hSp, c, hi, hk⟩
    · have hr := run_endLoop (P := P) hk.loop (by rw [hmk]; simp)
      rw [hmk] at hr
      exact ⟨none, _, hr, hdone D xs _ (by omega) hS (hI.putObj _ hi (by omega) hk.loop rfl) ((World.putObj_heap_other (by omega)).trans hk.mark)⟩
    · have hr := run_endLoop (P := P) hk.loop (by rw [hmk]; simp)
      rw [hmk] at hr
      exact ⟨some c, _, hr, hstop D c pre _ (by omega) hSp ((hIx c).putObj _ hi (by omega) hk.loop rfl) ((World.putObj_heap_other (by omega)).trans hk.mark)⟩
end
end Rv
end Go.Proofs.Yteiniahikhiadaa

namespace Go.Proofs.Yteiniahikhiadaa
open Go.RowKit
namespace Kp
/-- whatever is not in X, and no loop's record, is as it was -/
structure KpX (X : Nat → Prop) (A B : World) : Prop where
  os : B.os = A.os
  tape : B.tape = A.tape
  output : B.output = A.output
  size : A.heap.size ≤ B.heap.size
  same : ∀ b o, A.heap[b]? = some o → ¬ X b → (∀ r, o ≠ .loop r) → B.heap[b]? = some o
theorem KpX.refl (X : Nat → Prop) (A : World) : KpX X A A := ⟨rfl, rfl, rfl, Nat.le_refl _, fun _ _ h _ _ => h⟩
theorem KpX.trans {X : Nat → Prop} {A B C : World} (h : KpX X A B) (k : KpX X B C) : KpX X A C :=
  ⟨k.os.trans h.os, k.tape.trans h.tape, k.output.trans h.output, Nat.le_trans h.size k.size, fun b o h1 h2 h3 => k.same b o (h.same b o h1 h2 h3) h2 h3⟩
theorem KpX.loop {X : Nat → Prop} {W : World} {l : Nat} {r r' : Loop} (h : W.heap[l]? = some (.loop r)) : KpX X W (W.putObj l (.loop r')) := by
  refine ⟨rfl, rfl, rfl, by simp, fun b _ hb _ hn => ?_⟩
  by_cases e : b = l
  · subst e
    rw [h] at hb
    cases hb
    exact (hn r rfl).elim
  · exact (World.putObj_heap_other e).trans hb
theorem KpX.of_grown {X : Nat → Prop} {A B : World} {row : Option Nat} (h : A.grownBy B row) (hr : ∀ g, row = some g → X g) : KpX X A B :=
  ⟨h.os, h.tape, h.output, h.size, fun b _ hb hx _ => (h.block b (Array.getElem?_eq_some_iff.1 hb).1 (fun e => hx (hr b e.symm))).trans hb⟩
theorem KpX.ob {X : Nat → Prop} {A B : World} {b : Nat} {t : TypeId} {cs : Array Value} (h : KpX X A B) (ho : Ob A b t cs) (hx : ¬ X b) : Ob B b t cs := h.same b _ ho hx (fun r e => by cases e)
theorem KpX.cell {X : Nat → Prop} {A B : World} {b j : Nat} {v : Value} (h : KpX X A B) (hc : A.cell? ⟨b, j, none⟩ = some v) (hx : ¬ X b) : B.cell? ⟨b, j, none⟩ = some v := by
  have h2 := hc
  unfold World.cell? at h2
  split at h2
  · rename_i c t _ hb
    have := h.same b _ hb hx (fun r e => by cases e)
    exact (World.cell?_of_block (w := A) (w' := B) (a := ⟨b, j, none⟩) (this.trans hb.symm)).trans hc
  · cases h2
theorem KpX.sl {X : Nat → Prop} {A B : World} {lo hi size n : Nat} {v : Value} {xs : List Value} (h : KpX X A B) (hs : Sl A lo hi size v n xs) (hx : ∀ i, lo ≤ i → i < hi → ¬ X i) : Sl B lo hi size v n xs := by
  refine ⟨hs.len, ?_⟩
  obtain ⟨A', c, e, h1, h2, h3⟩ := hs.at_
  refine ⟨A', c, e, h1, h2, fun hn => ?_⟩
  obtain ⟨b, o, ea, hl, hb, hc⟩ := h3 hn
  refine ⟨b, o, ea, hl, hb, fun j hj => ?_⟩
  have hj2 : j < xs.length := by rw [hs.len]; exact hj
  have e2 : xs[j]? = some xs[j] := List.getElem?_eq_getElem hj2
  rw [e2]
  exact h.cell ((hc j hj).trans e2) (hx b hl hb)
/-- a write that hits no cells leaves cells as they are -/
theorem ob_keep {A B : World} {row : Option Nat} {b : Nat} {t : TypeId} {cs : Array Value} (h : Ob A b t cs) (hg : A.grownBy B row) (hr : ∀ r, row = some r → ∃ o : Obj, A.heap[r]? = some o ∧ o.isCells = false) : Ob B b t cs :=
  h.kept hg fun e => by
    obtain ⟨o, h1, h2⟩ := hr b e.symm
    rw [show A.heap[b]? = _ from h] at h1
    cases h1
    cases h2
end Kp
end Go.Proofs.Yteiniahikhiadaa

namespace Go.Proofs.Yteiniahikhiadaa
open Go.RowKit Go.Maps
namespace Wa
open Ce Se It
attribute [local go_sem] Oper.semAt_some
theorem entries_none (n : Nat) (hn : 1 ≤ n) (Bs : Nat) (w : World) (hbs : Ob w Bs 28 #[.pointer none]) :
    Rv.Reads Fence.wide n Try.prog 55 #[.pointer (some ⟨Bs, 0, none⟩)] (fun (_ : Unit) (v : Array Value) (_ : World) => v.size = 2) (Below w.heap.size) (fun xs => xs = []) (fun _ => False) (fun _ _ => False) w := by
  intro l J Jx W hW hJ hJx hY h0
  have hB := hbs.same hW
  have cB : W.cell? ⟨Bs, 0, none⟩ = some (.pointer none) := hB.cell (j := 0) rfl
  refine callsIn_of_wp Try.func55 rfl trivial ?_ rfl
  simp only [Try.ntmps55, List.size_toArray, List.length_cons, List.length_nil, Nat.reduceAdd, Nat.reduceSub, Array.replicate_succ, Array.replicate_zero, List.push_toArray, List.append_toArray, List.nil_append, List.cons_append]
  clear hY
  gi_wp2
  refine bodyPost_ret (results_none rfl _ _ _) rfl ?_
  exact ⟨⟨_, rfl⟩, .inl ⟨_, rfl, h0⟩⟩
set_option maxRecDepth 100000 in
set_option maxHeartbeats 8000000 in
theorem nobody_law (kd oi on : Int) (bv lv kv : Value) (w : World) :
    Calls Try.prog 5 #[.agg #[.int .i64 kd, bv, lv, kv, .int .i64 oi, .int .i64 on]] w fun e w' => e = .returned (.bool true) ∧ Below w.heap.size w w' := by
  have heq := eql_nilE
  refine (callsIn_wide (n := 6)).1 ?_
  refine callsIn_of_wp_marks Try.func5 rfl trivial ?_ rfl
  simp only [Try.ntmps5, List.size_toArray, List.length_cons, List.length_nil, Nat.reduceAdd, Nat.reduceSub, Array.replicate_succ, Array.replicate_zero, List.push_toArray, List.append_toArray, List.nil_append, List.cons_append]
  gi_wp2_with (refine ⟨trivial, ?_⟩; gi_at_call 22; refine (callsIn_wide.2 (entries_made _ _)).mono ?_; rintro e w' ⟨rfl, rfl⟩)
  have hB3 : Below w.heap.size w (((w.alloc (.cells #[.int .i64 kd, bv, lv, kv, .int .i64 oi, .int .i64 on] 43)).alloc (.cells #[.bool false] 4)).alloc (.cells #[.pointer none] 28)) := (((Below.refl _ w).alloc (Nat.le_refl _) _).alloc (by simp) _).alloc (by simp; omega) _
  have o1 := ((Ob.new w 43 #[.int .i64 kd, bv, lv, kv, .int .i64 oi, .int .i64 on]).alloc (.cells #[.bool false] 4)).alloc (.cells #[.pointer none] 28)
  have o2 := (Ob.new (w.alloc (.cells #[.int .i64 kd, bv, lv, kv, .int .i64 oi, .int .i64 on] 43)) 4 #[.bool false]).alloc (.cells #[.pointer none] 28)
  have o3 := Ob.new ((w.alloc (.cells #[.int .i64 kd, bv, lv, kv, .int .i64 oi, .int .i64 on] 43)).alloc (.cells #[.bool false] 4)) 28 #[.pointer none]
  simp only [World.size_alloc] at o2 o3
  have hs3 : w.heap.size + 3 = (((w.alloc (.cells #[.int .i64 kd, bv, lv, kv, .int .i64 oi, .int .i64 on] 43)).alloc (.cells #[.bool false] 4)).alloc (.cells #[.pointer none] 28)).heap.size := by simp
  generalize (((w.alloc (.cells #[.int .i64 kd, bv, lv, kv, .int .i64 oi, .int .i64 on] 43)).alloc (.cells #[.bool false] 4)).alloc (.cells #[.pointer none] 28)) = w3 at *
  refine ⟨trivial, (callsIn_wide.2 (lives_calls w3)).mono ?_⟩
  rintro e W ⟨rfl, hb1⟩
  gi_wp2
  replace o1 := o1.same hb1
  replace o2 := o2.same hb1
  replace o3 := o3.same hb1
  have hBW := hB3.trans (hb1.mono hB3.size)
  have hsW := hb1.size
  clear hb1 hB3
  refine Rv.range_reads (n := 6) rfl (by omega) (gf := 55) rfl trivial (enters_of Try.func55 (by kernel_rfl) rfl)
    (entries_none 5 (by omega) (w.heap.size + 1 + 1) W o3) (Below.refl _ _) (fun h k => h.trans k) (fun W l r r' hl h => belowK_b (Nat.le_refl _) W l _ _ hl h rfl rfl) (fun _ _ _ h => h)
    (fun _ V => Ob V w.heap.size 43 #[.int .i64 kd, bv, lv, kv, .int .i64 oi, .int .i64 on] ∧ Below w.heap.size W V ∧ Ob V (w.heap.size + 1) 4 #[.bool false])
    (fun _ _ _ => False)
    (fun s A B row hs hg hr => ⟨Kp.ob_keep hs.1 hg (fun r e => (hr r e).2), ownFrom_below (B := W.heap.size) (by omega) (by omega) s A B row hs.2.1 hg hr, Kp.ob_keep hs.2.2 hg (fun r e => (hr r e).2)⟩)
    (fun c s A B row hs hg hr => hs.elim)
    ⟨o1, Below.refl _ _, o2⟩ ?round ?done ?stop
  case round => exact fun l pre d v W _ _ h => h.elim
  case stop => exact fun D c pre W _ h => h.elim
  case done =>
    rintro D xs V hD - ⟨p1, hB, p2⟩ hK
    have c1 := p1.cell (j := 1) (v := bv) rfl
    have c2 := p1.cell (j := 2) (v := lv) rfl
    have y2 := p2.cell (j := 0) (v := .bool false) rfl
    have f2 := p2.frozen 0
    clear o1 o2 o3
    gi_wp2_with (first
      | (refine ⟨trivial, ?_⟩; gi_at_call 17; refine (callsIn_wide.2 (append_nil bv V)).mono ?_; rintro e V1 ⟨rfl, rfl⟩)
      | (refine ⟨trivial, ?_⟩; gi_at_call 18; refine (callsIn_wide.2 (sync_nil V)).mono ?_; rintro e V1 ⟨rfl, rfl⟩)
      | (refine ⟨trivial, ?_⟩; gi_at_call 23; refine (callsIn_wide.2 (compact_nil lv V)).mono ?_; rintro e V1 ⟨rfl, rfl⟩)
      | (refine ⟨trivial, ?_⟩; gi_at_call 24; refine (callsIn_wide.2 (wlen_nil V)).mono ?_; rintro e V1 ⟨rfl, rfl⟩)
      | (refine ⟨trivial, ?_⟩; gi_at_call 21; refine (callsIn_wide.2 (sure_nil V)).mono ?_; rintro e V1 ⟨rfl, rfl⟩)
      | (refine ⟨trivial, ?_⟩; gi_at_call 16; refine (callsIn_wide.2 (room_nil V)).mono ?_; rintro e V1 ⟨rfl, rfl⟩)
      | (refine ⟨trivial, ?_⟩; gi_at_call 20; refine (callsIn_wide.2 (gen_nil V)).mono ?_; rintro e V1 ⟨rfl, rfl⟩))
    have hsB := hB.size
    have hb22 := p2.set 0 (.bool true)
    have hBB := hB.grown (grownBy_set V (w.heap.size + 1) 0 (.bool true)) (by omega) (fun k e => by cases e; omega)
    have hK2 : (V.setCell ⟨w.heap.size + 1, 0, none⟩ (.bool true)).heap[D]? = some (.deferred (some [])) := ((grownBy_set V (w.heap.size + 1) 0 (.bool true)).block D (Array.getElem?_eq_some_iff.1 hK).1 (fun e => by cases e; omega)).trans hK
    refine ⟨by simp, .inl ⟨_, _, rfl, run_takeDeferred hK2, ?_⟩⟩
    have c4 : ((V.setCell ⟨w.heap.size + 1, 0, none⟩ (.bool true)).putObj D (.deferred none)).cell? ⟨w.heap.size + 1, 0, none⟩ = some (.bool true) := (boxed_end hb22 hK2).cell
    refine ⟨.bool true, ?_, rfl, below_end (hBW.trans hBB) (by omega) hK2⟩
    simp [results, Try.f5, go_sem, c4]
end Wa
end Go.Proofs.Yteiniahikhiadaa

namespace Go.Proofs.Yteiniahikhiadaa
open Go.RowKit
namespace It
attribute [local go_sem] Oper.semAt_some

/-- every text and every number is one that a program can hold -/
def Fits (l : List Item) : Prop := ∀ x ∈ l, x.1.size ≤ maxLen ∧ -9223372036854775808 ≤ x.2 ∧ x.2 ≤ 9223372036854775807
def strLe (a b : ByteArray) : Bool := Op.bytesLess a.toList b.toList || a.toList == b.toList
def okItem (x : Item) (last : ByteArray) : Bool := good x.1 && decide (1 ≤ x.2) && countOk x.2 && !strLe x.1 last
def mayTo (last : ByteArray) : List Item → Bool
  | [] => true
  | x :: r => okItem x last && mayTo x.1 r
def lastOf (last : ByteArray) : List Item → ByteArray
  | [] => last
  | x :: r => lastOf x.1 r
def may (l : List Item) : Bool := mayTo ⟨#[]⟩ l && decide (l.length ≤ 16)
theorem mayTo_snoc (last : ByteArray) (l : List Item) (x : Item) : mayTo last (l ++ [x]) = (mayTo last l && okItem x (lastOf last l)) := by
  induction l generalizing last with
  | nil => simp [mayTo, lastOf]
  | cons y r ih => simp only [List.cons_append, mayTo, lastOf, ih, Bool.and_assoc]
theorem lastOf_snoc (last : ByteArray) (l : List Item) (x : Item) : lastOf last (l ++ [x]) = x.1 := by
  induction l generalizing last with
  | nil => rfl
  | cons y r ih => simp only [List.cons_append, lastOf, ih]
theorem mayTo_prefix {last : ByteArray} {p l : List Item} (h : p <+: l) (hp : mayTo last p = false) : mayTo last l = false := by
  obtain ⟨r, rfl⟩ := h
  induction p generalizing last with
  | nil => cases hp
  | cons x p ih =>
    simp only [List.cons_append, mayTo] at hp ⊢
    cases h1 : okItem x last with
    | false => rfl
    | true => rw [h1] at hp; simp only [Bool.true_and] at hp ⊢; exact ih hp
/-- the items behind those of a list that came -/
def vals {L : List Item} (pre : List (Of L)) : List Item := pre.map (·.1)
theorem vals_snoc {L : List Item} (pre : List (Of L)) (x : Of L) : vals (pre ++ [x]) = vals pre ++ [x.1] := by simp [vals]
theorem vals_all (L : List Item) : vals L.attach = L := List.attach_map_subtype_val L
theorem vals_prefix {L : List Item} {pre : List (Of L)} (h : pre <+: L.attach) : vals pre <+: L := by
  have := h.map (f := fun x : Of L => x.1)
  rw [List.attach_map_subtype_val] at this
  exact this

end It
end Go.Proofs.Yteiniahikhiadaa

namespace Go.Proofs.Yteiniahikhiadaa
open Go.ChangeShapes Go.WideShapes Go.ChangeAt Go.RowKit

theorem own : ownKnob Try.prog.godebug = none := by kernel_rfl
theorem laidOut : laidOutB Try.prog = true := by kernel_rfl

section
variable {H : Type} {enc : TypeId × Value → H} {P : Program}
/-- all arguments read as they did -/
theorem trodAll_stays (hl : laidOutB P = true) {W W' : World} (hb : Below W.heap.size W W') {sp : Nat → Bool} :
    ∀ {ts : List TypeId} {vs : List Value} {ds : List (DataW H)} {ps : List MemPlace}, ts.all (fun t => P.readableRec t && decide (t < P.types.size)) = true →
      DataW.TrodAll enc P W 0 (fun _ => true) true ts vs ds ps → (∀ p ∈ ps, p.block < W.heap.size) → (∀ p ∈ ps, sp p.block = true) → DataW.TrodAll enc P W' 0 sp true ts vs ds ps
  | [], vs, ds, ps, _, h, _, _ => by
    obtain ⟨rfl, rfl, rfl⟩ := trodAll_nil h
    exact trodAll_mk0
  | t :: ts, vs, ds, ps, hr, h, hlt, hs => by
    obtain ⟨v, vs', d, ds', p, q, rfl, rfl, rfl, h1, h2⟩ := trodAll_cons h
    simp only [List.all_cons, Bool.and_eq_true, decide_eq_true_eq] at hr
    exact trodAll_cons_mk (WideElems.Trod_stays hl hr.1.1 hr.1.2 h1 (fun x hx => hb.same (hlt x (List.mem_append_left _ hx))) (fun x hx => hs x (List.mem_append_left _ hx)))
      (trodAll_stays hl hb (by simpa using hr.2) h2 (fun x hx => hlt x (List.mem_append_right _ hx)) (fun x hx => hs x (List.mem_append_right _ hx)))

theorem law_post {f : Func} {s : ChangeSpec} {W W' : World} {args : Array Value} {ds gs : List (DataW H)} {before : List MemPlace} {tb : TypeId} (hl : laidOutB P = true)
    (hpar : f.params.toList.all (fun t => P.readableRec t && decide (t < P.types.size)) = true) (hrt : f.resultTypes = #[tb]) (ht : P.underlying tb = some .bool) (hv : s.vars = [])
    (hW : DataW.Whole enc P f.params.toList s.vars false W args.toList ds gs before) (hfn : s.fn H (ds ++ gs) = { results := [.lit (.bool true)], args := ds }) (hb : Below W.heap.size W W') :
    s.post enc P f false true false false W args (.bool true) W' := by
  obtain ⟨p, q, hA, hV, hps, hz, hn⟩ := id hW
  have hlt : ∀ x ∈ before, x.block < W.heap.size := fun x hx => hW.lt x hx
  have hq : q = [] := by
    rw [hv] at hV
    cases gs with
    | nil => exact hV
    | cons g gs => exact hV.elim
  subst hq
  rw [List.append_nil] at hps
  subst hps
  have hargs : ∀ sp : Nat → Bool, (∀ x ∈ before, sp x.block = true) → DataW.TrodAll enc P W' 0 sp true f.params.toList args.toList (s.fn H (ds ++ gs)).args before := fun sp hs => by
    rw [hfn]
    exact trodAll_stays hl hb hpar hA hlt hs
  have hres : ∀ (b : Nat) (sp : Nat → Bool) (hd : Bool), DataW.TrodAll enc P W' b sp hd f.resultTypes.toList ((Value.bool true).resultList f.resultTypes.size) (s.fn H (ds ++ gs)).results [] := fun b sp hd => by
    rw [hfn, hrt]
    exact trodAll_mk1 (shut_bool ht true)
  have hvars : ∀ sp : Nat → Bool, DataW.TrodVars enc P W' sp s.vars (s.fn H (ds ++ gs)).vars [] := fun sp => by
    rw [hfn, hv]
    rfl
  refine ⟨ds, gs, before, [], before, [], hW, hres _ _ _, hargs _ (fun x hx => by simpa using hlt x hx), hvars _, World.keptBut_mono (fun x hx => ⟨hx, .inr (.inl hx)⟩) (hb.frame (· ∈ before)), fun _ => ?_⟩
  refine ⟨ok_one hrt rfl (okWide_bool_mk ht _), _, _, ([] ++ before) ++ [], ⟨[] ++ before, [], trodAll_append (hargs _ (fun _ _ => rfl)) (hres _ _ _), hvars _, rfl, ?_, ?_⟩, ?_⟩
  · intro b off hp
    have hin : MemPlace.cell b off ∈ before := by simpa using hp
    rw [hb.frozen (hlt _ hin)]
    exact hz b off hin
  · intro ha; cases ha
  · intro x hx _
    simpa using hx
end
end Go.Proofs.Yteiniahikhiadaa

namespace Go.Proofs.Yteiniahikhiadaa
open Go.ChangeShapes Go.WideShapes Go.Deep Go.RowKit Go.ChangeAt

section
variable {H : Type} {enc : TypeId × Value → H} {P : Program} {w : World} {base : Nat} {spare : Nat → Bool} {held : Bool}
theorem open_slice_fields {t e : TypeId} {fs : Array Field} {fuel : Nat} {cs : List Value} {x : DataW H × List MemPlace} (ht : P.underlying t = some (.slice e)) (he : P.underlying e = some (.struct fs))
    (hone : oneCellFields P fs = true) (hC : P.cellsOf e = fs.size) (h : DataW.trod enc P w base spare held fuel t cs = some x) :
    (cs = [.slice none 0 0] ∧ x = (.nil, [])) ∨
    ∃ (a : Addr) (len cap m : Nat) (D : Nat → DataW H) (Pl : Nat → List MemPlace), cs = [.slice (some a) len cap] ∧ base ≤ a.block ∧ len ≤ cap ∧ cap ≤ maxLen ∧ m = (if spare a.block then cap else len) ∧
      x = (.slice ((List.range len).map D) ((List.range (m - len)).map fun j => D (len + j)), MemPlace.row a (m * fs.size) ++ (List.range m).flatMap Pl) ∧
      ∀ i, i < m → ∃ (ys : List (DataW H × List MemPlace)) (n : Nat), D i = .agg (ys.map (·.1)) ∧ Pl i = ys.flatMap (·.2) ∧ ys.length = fs.size ∧
        ∀ (j : Nat) (f : Field), fs[j]? = some f → ∃ (v : Value) (y : DataW H × List MemPlace), w.cell? (a.add (i * fs.size + j)) = some v ∧ ys[j]? = some y ∧ DataW.trod enc P w base spare held n f.type [v] = some y := by
  rcases open_slice ht h with h0 | ⟨a, len, cap, m, n, D, Pl, hcs, hb, hl, hm, hmm, hx, hi⟩
  · exact .inl h0
  · refine .inr ⟨a, len, cap, m, D, Pl, hcs, hb, hl, hm, hmm, by rw [hC] at hx; exact hx, fun i him => ?_⟩
    obtain ⟨cs', hc, ht'⟩ := hi i him
    rw [hC] at hc
    obtain ⟨ys, n', hn', hy, hlen, hyl, hf⟩ := DataW.trod_struct he ht'
    obtain ⟨_, hcl, hat⟩ := World.cells?_some hc
    simp only [Prod.mk.injEq] at hy
    refine ⟨ys, n', hy.1, hy.2, hyl, fun j f hj => ?_⟩
    obtain ⟨ho, hk⟩ := hone_of hone j f hj
    have hjl : j < fs.size := (Array.getElem?_eq_some_iff.1 hj).1
    have hcell := hat j hjl
    have hv : cs'[j]? = some (cs'[j]'(by omega)) := List.getElem?_eq_getElem (by omega)
    have h1 := hf j f hj
    rw [ho, hk] at h1
    have hone' : (cs'.drop j).take 1 = [cs'[j]'(by omega)] := by
      rw [List.drop_eq_getElem_cons (by omega)]
      rfl
    rw [hone'] at h1
    have hys : ys[j]? = some (ys[j]'(by omega)) := List.getElem?_eq_getElem (by omega)
    refine ⟨_, _, ?_, hys, h1.trans hys⟩
    rw [← Go.Deep.add_add, hcell, hv]

theorem cell_addr {w : World} {a : Addr} {v : Value} (h : w.cell? a = some v) : a.spot = none ∧ a.block < w.heap.size := by
  unfold World.cell? at h
  split at h
  · rename_i c _ _ hc
    refine ⟨?_, (Array.getElem?_eq_some_iff.1 hc).1⟩
    cases hs : a.spot with
    | none => rfl
    | some x => rw [hs] at h; simp at h
  · cases h
theorem addr_add (b o j : Nat) : (⟨b, o, none⟩ : Addr).add j = ⟨b, o + j, none⟩ := by unfold Addr.add; split <;> simp_all

/-- a list out of its elements' readings -/
theorem list_of {α : Type} (n : Nat) (p : Nat → α → Prop) (h : ∀ i, i < n → ∃ x, p i x) : ∃ l : List α, l.length = n ∧ ∀ i (hi : i < l.length), p i l[i] := by
  induction n with
  | zero => exact ⟨[], rfl, fun i hi => by simp at hi⟩
  | succ n ih =>
    obtain ⟨l, hl, hp⟩ := ih fun i hi => h i (by omega)
    obtain ⟨x, hx⟩ := h n (by omega)
    refine ⟨l ++ [x], by simp [hl], fun i hi => ?_⟩
    simp only [List.length_append, List.length_cons, List.length_nil] at hi
    by_cases e : i < l.length
    · rw [List.getElem_append_left e]; exact hp i e
    · obtain rfl : i = l.length := by omega
      simpa [hl] using hx
end
namespace It
theorem ItemsAt.mk {w : World} {lo B b o n c : Nat} {L : List Item} (hn : L.length = n) (h1 : n ≤ c) (h2 : c ≤ maxLen) (hlo : lo ≤ b) (hB : b < B)
    (h : ∀ i (hi : i < L.length), w.cell? ⟨b, o + i * 2, none⟩ = some (.string L[i].1) ∧ w.cell? ⟨b, o + i * 2 + 1, none⟩ = some (.int .i64 L[i].2)) : ItemsAt w lo B (.slice (some ⟨b, o, none⟩) n c) L := by
  subst hn
  refine ⟨itemCells_length L, _, _, rfl, h1, h2, fun _ => ⟨b, o, rfl, hlo, hB, fun j hj => ?_⟩⟩
  have hd := Nat.div_add_mod j 2
  have hm := Nat.mod_lt j (show 0 < 2 by omega)
  have hq : j / 2 < L.length := by omega
  obtain ⟨g1, g2⟩ := itemCells_get L (j / 2) hq
  obtain ⟨c1, c2⟩ := h (j / 2) hq
  rcases Nat.lt_or_ge (j % 2) 1 with hr | hr
  · obtain e : j = j / 2 * 2 := by omega
    rw [e, g1, ← c1]
  · obtain e : j = j / 2 * 2 + 1 := by omega
    rw [e, g2, ← c2]
    congr 2

end It
end Go.Proofs.Yteiniahikhiadaa

namespace Go.Proofs.Yteiniahikhiadaa
open Go.ChangeShapes Go.WideShapes Go.ChangeAt Go.Deep Go.RowKit
namespace Wa

set_option maxRecDepth 100000 in
/-- an argument that is a law's call: its shape -/
theorem form_of_trod {H : Type} {enc : TypeId × Value → H} {W : World} {cs : List Value} {x : DataW H × List MemPlace} {held : Bool} {fuel : Nat} (hf : DataW.trod enc Try.prog W 0 (fun _ => true) held fuel 43 cs = some x) :
    ∃ (kd oi on : Int) (bv lv kv : Value), cs = [.int .i64 kd, bv, lv, kv, .int .i64 oi, .int .i64 on] := by
  obtain ⟨ys, n, hn, hy, hlen, hyl, hfs⟩ := DataW.trod_struct Try.underlying43 hf
  have hl6 : cs.length = 6 := hlen.trans (by kernel_rfl)
  obtain ⟨v0, v1, v2, v3, v4, v5, rfl⟩ : ∃ v0 v1 v2 v3 v4 v5, cs = [v0, v1, v2, v3, v4, v5] := by
    match cs, hl6 with
    | [a, b, c, d, e, f], _ => exact ⟨a, b, c, d, e, f, rfl⟩
  have hys : ∀ j, j < 6 → ∃ y, ys[j]? = some y := fun j hj => ⟨_, List.getElem?_eq_getElem (by rw [hyl]; exact hj)⟩
  have int_of : ∀ (j : Nat) (f : Field) (v : Value), j < 6 → f.type = 3 → DataW.trod enc Try.prog W 0 (fun _ => true) held n f.type [v] = ys[j]? → ∃ k : Int, v = .int .i64 k := fun j f v hj hft h => by
    obtain ⟨y, hy⟩ := hys j hj
    rw [hy, hft] at h
    obtain ⟨k, e1, _, hk⟩ := DataW.trod_int Try.underlying3 h
    simp only [List.cons.injEq, and_true] at e1
    subst e1
    exact ⟨k, rfl⟩
  have fld := fun (j : Nat) (f : Field) hj => by
    obtain ⟨ho, hk⟩ := hone_of (P := Try.prog) (by kernel_rfl) j f hj
    have := hfs j f hj
    rw [ho, hk] at this
    exact this
  have g0 := fld 0 _ rfl
  have g4 := fld 4 _ rfl
  have g5 := fld 5 _ rfl
  obtain ⟨k0, rfl⟩ := int_of 0 _ v0 (by omega) rfl g0
  obtain ⟨k4, rfl⟩ := int_of 4 _ v4 (by omega) rfl g4
  obtain ⟨k5, rfl⟩ := int_of 5 _ v5 (by omega) rfl g5
  exact ⟨k0, k4, k5, v1, v2, v3, rfl⟩

set_option maxRecDepth 100000 in
theorem open_form {H : Type} {enc : TypeId × Value → H} {W : World} {base : Nat} {v : Value} {d : DataW H} {p : List MemPlace} {held : Bool} (hval : Value.okWide Try.prog W .any base 43 v)
    (h : DataW.Trod enc Try.prog W 0 (fun _ => true) held 43 v d p) :
    ∃ (kd oi on : Int) (bv lv kv : Value), v = .agg #[.int .i64 kd, bv, lv, kv, .int .i64 oi, .int .i64 on] := by
  obtain ⟨cs, rfl, -⟩ := okWide_struct Try.underlying43 hval
  obtain ⟨fuel, hf⟩ := h
  obtain ⟨kd, oi, on, bv, lv, kv, e⟩ := form_of_trod hf
  refine ⟨kd, oi, on, bv, lv, kv, ?_⟩
  have : cs.toList = _ := (by simpa [Value.cells] using e : cs.toList = [.int .i64 kd, bv, lv, kv, .int .i64 oi, .int .i64 on])
  rw [← Array.toArray_toList (xs := cs), this]

set_option maxRecDepth 100000 in
theorem walNobody_lifted (os : Os) (started : os.Started) (H : Type) (enc : TypeId × Value → H) :
    ReturnsInHanded {} Try.checked os 5 .any (Rows.walNobodySpec.pre6 enc Try.prog Try.f5 Rows.walNobodyRow.domain false) (Rows.walNobodySpec.post enc Try.prog Try.f5 false true false false) := by
  refine returnsInHanded_of_change (C := Try.checked) own started (by kernel_rfl) Try.func5
    (ChangeSpec.witness6 (enc := enc) (C := Try.checked) false ⟨#[], #[.agg #[.int .i64 0, .slice none 0 0, .slice none 0 0, .slice none 0 0, .int .i64 0, .int .i64 0]], []⟩ 8 (by kernel_rfl) (by kernel_rfl) (by kernel_rfl) (by kernel_rfl)) ?_
  intro W base args ds gs before hval0 hW _ _
  have hval : ∀ (j : Nat) t v, Try.f5.params[j]? = some t → args[j]? = some v → Value.okWide Try.prog W .any base t v := hval0
  obtain ⟨p, q, hA0, hV, hps, hfz, hnd⟩ := id hW
  have hA : DataW.TrodAll enc Try.prog W 0 (fun _ => true) true Try.f5.params.toList args.toList ds p := hA0
  rw [Try.params5] at hA hval
  obtain ⟨v0, vs0, d0, ds0, p0, q0, hargs, rfl, rfl, h0, r0⟩ := trodAll_cons hA
  obtain ⟨rfl, rfl, rfl⟩ := trodAll_nil r0
  obtain rfl : args = #[v0] := by cases args; simp_all
  obtain ⟨rfl, rfl⟩ := trodVars_none hV
  obtain ⟨kd, oi, on, bv, lv, kv, rfl⟩ := open_form (hval 0 43 v0 rfl rfl) h0
  refine (nobody_law kd oi on bv lv kv W).mono fun e W' ⟨he, hb⟩ => ?_
  subst he
  exact ⟨_, rfl, law_post laidOut (by kernel_rfl) rfl Try.underlying4 rfl hW rfl hb⟩

theorem walNobody_holds : Rows.WalNobodySaid :=
  OpenClaim.holds_of_wide 5 Try.f5 rfl rfl rfl rfl rfl rfl rfl ⟨rfl, rfl, rfl, rfl, rfl⟩ rfl rfl rfl rfl rfl (by kernel_rfl) Try.func5 (by kernel_rfl)
    (of_decide_eq_true (by kernel_rfl)) (by unfold Func.isWrapper; first | (rw [if_pos (by decide +kernel)]; kernel_rfl) | (rw [if_neg (by decide +kernel)]; exact ⟨rfl, rfl⟩))
    (fun os started H enc _ => walNobody_lifted os started H enc)

end Wa
end Go.Proofs.Yteiniahikhiadaa
