/-
  sector: Flush, the walk.
-/
import Derived.Test.YteiniahikhiadaaSeK
namespace Go.Proofs.Yteiniahikhiadaa
open Go.RowKit Go.Maps
namespace Se
open Ce

section
variable {w w' : World} {base d sb mb : Nat} {D D' : Dv}
set_option maxRecDepth 100000 in
set_option maxHeartbeats 8000000 in
theorem flush_good (h : DvAt w base d sb mb D) (ho : offD D = false) :
    Calls Try.prog 40 #[.pointer (some ⟨d, 0, none⟩)] w fun e w' => e = .returned (.int .i64 0) ∧ DvAt w' base d sb mb (flushD D).1 ∧ Dev d sb mb w w' := by
  obtain ⟨y0, y1, -⟩ := Ob.dev h.ob
  have cM := Lib.hid (made_calls d mb w y1)
  have CS := Lib.hid (spend_calls h ho)
  have HOKF := Lib.hid (show OkD (flushD D).1 from h.ok.flush)
  have HFE := Lib.hid (show (flushD D).1 = { spendD D with sure := (List.range D.sure.length).map (lastD D), dm := [], fl := wrap64 (D.fl + 1) } by unfold flushD; rw [ho]; rfl)
  obtain ⟨S, hS⟩ : ∃ S, S = spendD D := ⟨_, rfl⟩
  have HSS := Lib.hid (show S.sure = D.sure by rw [hS]; exact spendD_sure D)
  have HSM := Lib.hid (show S.dm = D.dm by rw [hS]; exact spendD_dm D)
  have HSF := Lib.hid (show S.fl = D.fl by rw [hS]; exact spendD_fl D)
  rw [← hS] at CS HFE
  clear h ho y0 y1 hS
  go_enter Try.func40, Try.ntmps40
  go_wp2_with fail
  refine cM.out.mono ?_
  rintro e W ⟨rfl, rfl⟩
  go_wp2_with fail
  refine CS.out.mono ?_
  rintro e W ⟨rfl, hD, hg⟩
  have HD := Lib.hid hD
  have HG := Lib.hid hg
  obtain ⟨x0, x1, -⟩ := Ob.dev hD.ob
  have HMp := Lib.hid hD.map
  have hdl := hD.ob.lt
  have hsl := hD.sure.lt
  have hml := hD.map.lt
  have hne := hD.ne
  clear hD hg cM CS
  go_wp2_with (at_range; refine wpList_range_g rfl (.tmp 16) 79 rfl 102 keyedI Try.underlying79 rfl HMp.out ?_; intro W1 hR hg1 hs1)
  have hO1 := HD.out.ob.kept hg1 (by simp)
  have hS1 := HD.out.sure.kept (hg1.block sb hsl (by simp)) hg1.size
  have hDv1 : Dev d sb mb W W1 := Kept.of_grown hg1 fun _ hi => ⟨hi.1, by simp⟩
  have HSt := Lib.hid (Half.start HD.out.ok)
  clear hg1 x0 x1
  generalize hr : W.heap.size = r at *
  go_frame
  go_loopw [3] (fun _ wr => ∃ (Sx : List Int) (cnt : Nat) (bs : List Blk), Rng Try.prog 3 wr mb r (bm S.dm) Sx cnt ∧ SureAt wr sb bs ∧ Half S Sx bs ∧ Ob wr d 86 (devC S sb mb) ∧ Dev d sb mb W wr ∧ W1.heap.size ≤ wr.heap.size) (fun _ wr => wr.rangeLeft mb r)
  case atStart => exact ⟨[], _, _, hR, hS1, HSt.out, hO1, hDv1, Nat.le_refl _⟩
  case round =>
    obtain ⟨Sx, cnt, bs, hR, hSu, hH, hO, hDv, hsz⟩ := hrel
    go_wp2_with (at_next; refine wpList_next_g rfl (.tmp 17) rfl keyedI Try.underlying3 rfl hR ?_ ?_)
    · intro hdone
      have hbs := hH.done (fun k hk => hdone k (by rw [bm_get, Option.isSome_map]; exact hk))
      obtain ⟨W5, hclr, hM5, hg5⟩ := hR.map.clear (tm := 79) Try.underlying79 0
      have hO5 := hO.kept hg5 (fun e => hne.2.1 (Option.some.inj e))
      have hS5 := hSu.kept (hg5.block sb hSu.lt (fun e => hne.2.2 (Option.some.inj e))) hg5.size
      obtain ⟨x0, x1, -⟩ := Ob.dev hO
      obtain ⟨z0, z1, z2, z3, z4, z5⟩ := Ob.dev hO5
      have hst := hO5.set 5 (.int .i64 (wrap64 (S.fl + 1)))
      have hg6 := grownBy_set W5 d 5 (.int .i64 (wrap64 (S.fl + 1)))
      have hS6 := hS5.kept (hg6.block sb hS5.lt (fun e => hne.1 (Option.some.inj e).symm)) hg6.size
      have hM6 := hM5.kept hg6 (fun e => hne.2.1 (Option.some.inj e).symm)
      have hFF : (flushD D).1 = { S with sure := bs, dm := [], fl := wrap64 (S.fl + 1) } := by
        have eL : lastD S = lastD D := by
          funext i
          unfold lastD
          rw [HSM.out, HSS.out]
        rw [HFE.out, hbs, HSF.out, HSS.out, eL]
      have hbl : bs.length = S.sure.length := hH.1
      have HFIN := Lib.hid (show DvAt (W5.setCell ⟨d, 5, none⟩ (.int .i64 (wrap64 (S.fl + 1)))) base d sb mb (flushD D).1 from by
        have hok := HOKF.out
        rw [hFF] at hok ⊢
        refine ⟨?_, hS6, hM6, hok, hne, HD.out.lo, by dsimp only; rw [hbl]; exact HD.out.len⟩
        have e : devC { S with sure := bs, dm := [], fl := wrap64 (S.fl + 1) } sb mb = (devC S sb mb).setIfInBounds 5 (.int .i64 (wrap64 (S.fl + 1))) := by
          unfold devC
          dsimp only
          rw [hbl]
          rfl
        rw [e]
        exact hst)
      have HDV := Lib.hid ((Dev.of_own (sb := sb) (mb := mb) HG.out).trans (hDv.trans ((Dev.of_map hg5).trans (Dev.of_own hg6))))
      have cA := Lib.hid (add_calls 5 S.fl W5 z5 (hO5.frozen 5))
      clear hS6 hM6 hst hg6 hS5 hM5 hg5 hO5 hDv hO hH hSu hR hFF hbs hbl
      go_wp2_with fail
      refine cA.out.mono ?_
      rintro e W7 ⟨rfl, rfl⟩
      go_wp2
      go_ret
      exact ⟨rfl, HFIN.out, HDV.out⟩
    · intro k v W2 cnt2 hk hks hR2 hlt hg2 hs2 hen
      rw [bm_get] at hk
      obtain ⟨b, hb, rfl⟩ := Option.map_eq_some_iff.1 hk
      have hkb := HD.out.ok.dm _ (bGet_mem hb)
      dsimp only at hkb
      obtain ⟨kk, rfl⟩ := Int.eq_ofNat_of_zero_le hkb.1
      have hkn : kk < S.sure.length := by omega
      have HL := Lib.hid hkb.2.2
      have hrlt := hR.lt
      obtain ⟨W3, hst, hrg, hth, hbl, hw3⟩ := new_blk W2 b HL.out
      have hO2 := hO.kept hg2 (fun e => by have := Option.some.inj e; omega)
      have hO3 := hO2.same hbl
      have hS3 := (hSu.kept (hg2.block sb hSu.lt (fun e => by have := Option.some.inj e; omega)) hg2.size).kept (hbl.block sb (by have := hSu.lt; omega)) hbl.size
      have hR3 := hR2.kept (only_of_below hbl none) (by simp) (by simp)
      obtain ⟨x0, x1, -⟩ := Ob.dev hO3
      have hbsl : bs.length = S.sure.length := hH.1
      have hxd : W3.drew.cell? ⟨d, 0, none⟩ = some (.slice (some ⟨sb, 0, none⟩) S.sure.length S.sure.length) := x0
      have hrd : W3.drew.rangeAt W2.heap.size 0 (bytesV b) := (World.rangeAt_drew _ _ _ _).2 hrg
      have htd : W3.drew.there sb (kk * 64) 64 := (World.there_drew _ _ _ _).2 (there_part hS3.there (by omega))
      have hsz3 : (bytesV b).toArray.size = 64 := by simp [bytesV_length, HL.out]
      have hln := HD.out.len.2
      have HR3 := Lib.hid hR3
      have HS3 := Lib.hid hS3
      have HO3 := Lib.hid hO3
      have HH := Lib.hid (hH.step HD.out.ok hb hkn)
      have HBS := Lib.hid hH.2.1
      have hDv2 := hDv.trans (Kept.mono (Kept.refl (fun _ => True) wr) fun _ _ => trivial)
      have HK := Lib.hid (Kept.trans hDv ((Kept.of_grown hg2 (Fr := fun i => i < W.heap.size ∧ i ≠ d ∧ i ≠ sb ∧ i ≠ mb) fun i hi => ⟨by omega, fun e => by have := Option.some.inj e; omega⟩).trans (Kept.of_below hbl fun i hi => by omega)))
      have hlt2 : cnt2 < wr.rangeLeft mb r := by rw [World.ranges.left_eq hR]; exact hlt
      have hW23 := hbl.size
      clear hR2 hR3 hS3 hO3 hO2 hrg hth hbl hSu hH hO hDv hDv2 hg2 hk hks hR
      have hq2 : wr.heap.size ≤ W2.heap.size := by omega
      have HS2 := Lib.hid hs2
      clear hs2
      generalize hn : S.sure.length = n at *
      unfold blkV at hen ⊢
      go_wp2_with fail
      refine Pu.regionM [(0, false), (1, false), (2, false), (3, false), (4, false), (5, false), (6, false), (7, true)] (fun V => V.cell? ⟨d, 0, none⟩ = some (.slice (some ⟨sb, 0, none⟩) n n) ∧ V.rangeAt W2.heap.size 0 (bytesV b)) hmx (by kernel_rfl) (by kernel_rfl) (by kernel_rfl) ⟨hxd, hrd⟩ rfl ?_
      simp only [Pu.named, List.filterMap_cons, List.filterMap_nil, List.getElem?_toArray, List.getElem?_cons_succ, List.getElem?_cons_zero, Option.map_some]
      iterate 5 (apply Pu.WalkM.on (by rfl)
                 · rintro V ⟨g0, gr⟩
                   go_wp2_with fail
                   refine ⟨rfl, ?_, rfl⟩
                   try simp only [Act.put, List.setIfInBounds_toArray, List.set_cons_succ, List.set_cons_zero]
                   rfl
                 simp only [Act.put, List.setIfInBounds_toArray, List.set_cons_succ, List.set_cons_zero])
      apply Pu.WalkM.on (by rfl)
      · rintro V ⟨g0, gr⟩
        refine wpList_load_mid rfl 102 (.tmp 4) rfl W2.heap.size 0 rfl (bytesV b) _ gr Try.underlying102 rfl (by rw [bytesV_length, HL.out]; kernel_rfl) ?_
        go_wp2_with fail
        refine ⟨rfl, ?_, rfl⟩
        try simp only [Act.put, List.setIfInBounds_toArray, List.set_cons_succ, List.set_cons_zero]
        rfl
      simp only [Act.put, List.setIfInBounds_toArray, List.set_cons_succ, List.set_cons_zero]
      apply Pu.WalkM.on (by rfl)
      · rintro V ⟨g0, gr⟩
        go_wp2_with fail
        refine ⟨rfl, ?_, rfl⟩
        try simp only [Act.put, List.setIfInBounds_toArray, List.set_cons_succ, List.set_cons_zero]
        rfl
      simp only [Act.put, List.setIfInBounds_toArray, List.set_cons_succ, List.set_cons_zero]
      refine Pu.WalkM.make (by rfl) ?_
      rintro V rfl
      refine wpList_store_mid rfl 102 (.tmp 29) (.tmp 28) rfl sb (kk * 64) (bytesV b).toArray rfl rfl (by rw [hsz3]; exact htd) (by rw [hsz3]; kernel_rfl) (all_oneCell_toArray (bytesV_one b)) ?_
      have eT : (bytesV b).toArray.toList = bytesV b := by simp
      rw [eT]
      have hg4 := grownBy_cells (b := sb) (bytesV b) W3.drew (kk * 64)
      have hw3d : W3.drew.heap.size = W2.heap.size + 1 := hw3
      have hslt := HS3.out.lt
      have g04 := hg4.cell hxd (fun e => hne.1 (Option.some.inj e))
      have gr4 := range_of_block (hg4.block W2.heap.size (by omega) (fun e => by have := Option.some.inj e; omega)) hrd
      refine ⟨rfl, undef, _, (fun V => V = W3.drew.setCells sb (kk * 64) (bytesV b)), rfl, rfl, (fun V h => by rw [h]; exact ⟨g04, gr4⟩), (.inr (fun _ h => h)), Pu.WalkM.nil ?_⟩
      rintro V' rfl
      simp only [Act.put]
      have hg4' : W3.grownBy (W3.drew.setCells sb (kk * 64) (bytesV b)) (some sb) := ⟨hg4.os, hg4.tape, hg4.output, hg4.size, hg4.block⟩
      have hbl2 : bs.length = n := hbsl
      have hS4 := (HS3.out.kept (w' := W3.drew) rfl (Nat.le_refl _)).set HBS.out (i := kk) (by omega) HL.out
      have hR4 := HR3.out.kept hg4' (fun e => hne.2.2 (Option.some.inj e).symm) (fun e => by have := Option.some.inj e; omega)
      have hO4 := HO3.out.kept hg4' (fun e => hne.1 (Option.some.inj e))
      have hK4 := Kept.trans HK.out (Kept.of_grown hg4' (Fr := fun i => i < W.heap.size ∧ i ≠ d ∧ i ≠ sb ∧ i ≠ mb) fun i hi => ⟨by omega, fun e => hi.2.2.1 (Option.some.inj e)⟩)
      have hs4 := hg4'.size
      have HFIN := Lib.hid (show ∃ (Sx : List Int) (cnt : Nat) (bs : List Blk), Rng Try.prog 3 (W3.drew.setCells sb (kk * 64) (bytesV b)) mb r (bm S.dm) Sx cnt ∧ SureAt (W3.drew.setCells sb (kk * 64) (bytesV b)) sb bs ∧ Half S Sx bs ∧ Ob (W3.drew.setCells sb (kk * 64) (bytesV b)) d 86 (devC S sb mb) ∧ Dev d sb mb W (W3.drew.setCells sb (kk * 64) (bytesV b)) ∧ W1.heap.size ≤ (W3.drew.setCells sb (kk * 64) (bytesV b)).heap.size from ⟨_, _, _, hR4, hS4, HH.out, hO4, hK4, by omega⟩)
      have HMS := Lib.hid (show (W3.drew.setCells sb (kk * 64) (bytesV b)).rangeLeft mb r < wr.rangeLeft mb r by rw [World.ranges.left_eq hR4]; exact hlt2)
      clear hS4 hR4 hO4 hK4 hg4 hg4' g04 gr4 hxd hrd htd x0 x1
      go_wp2
      exact ⟨HFIN.out, HMS.out⟩
/-- Flush, whatever the device -/
theorem flush_calls (h : DvAt w base d sb mb D) :
    Calls Try.prog 40 #[.pointer (some ⟨d, 0, none⟩)] w fun e w' => e = .returned (.int .i64 (flushD D).2) ∧ DvAt w' base d sb mb (flushD D).1 ∧ Dev d sb mb w w' := by
  cases ho : offD D with
  | true =>
    have e : flushD D = (D, 30) := by unfold flushD; rw [ho]; rfl
    rw [e]
    refine (flush_off h ho).mono ?_
    rintro e W ⟨rfl, rfl⟩
    exact ⟨rfl, h, Kept.refl _ _⟩
  | false =>
    have e : (flushD D).2 = 0 := by unfold flushD; rw [ho]; rfl
    rw [e]
    exact flush_good h ho
end
end Se
end Go.Proofs.Yteiniahikhiadaa
