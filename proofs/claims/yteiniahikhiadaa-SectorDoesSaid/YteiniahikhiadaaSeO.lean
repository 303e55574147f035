/-
  sector: Crash.
-/
import Derived.Test.YteiniahikhiadaaSeN
import Derived.Test.YteiniahikhiadaaLifeB
namespace Go.Proofs.Yteiniahikhiadaa
open Go.RowKit Go.Maps
namespace Se
open Ce Life

section
variable {w w' : World} {base d sb mb : Nat} {D D' : Dv}
set_option maxRecDepth 100000 in
set_option maxHeartbeats 16000000 in
theorem crash_good (h : DvAt w base d sb mb D) (keep : List Int) (kv : Value) (lo B : Nat) (hK : IntsAt w lo B kv keep) (hF : ∀ i, lo ≤ i → i < B → i < w.heap.size ∧ i ≠ d ∧ i ≠ sb ∧ i ≠ mb) (torn : Int) (n : Nat) (hn : n ≤ 64) :
    Calls Try.prog 31 #[.pointer (some ⟨d, 0, none⟩), kv, .int .i64 torn, .int .i64 n] w fun e w' => e = .returned (.int .i64 0) ∧ DvAt w' base d sb mb (crashD D keep torn n).1 ∧ Dev d sb mb w w' := by
  obtain ⟨x0, x1, -⟩ := Ob.dev h.ob
  have cM := Lib.hid (made_calls d mb w x1)
  have HOKF := Lib.hid (show OkD (crashD D keep torn n).1 from h.ok.crash keep torn n)
  have HFE := Lib.hid (show (crashD D keep torn n).1 = { D with sure := (List.range D.sure.length).map (crashB D keep torn n), dm := [], stops := false } by unfold crashD; rw [if_neg (by omega), Int.toNat_natCast])
  have HD := Lib.hid h
  have HMp := Lib.hid h.map
  have hdl := h.ob.lt
  have hsl := h.sure.lt
  have hml := h.map.lt
  have hne := h.ne
  have HKI := Lib.hid (fun W (hk : Dev d sb mb w W) => (Kept.sl hk hK (fun i h1 h2 => hF i h1 h2) : IntsAt W lo B kv keep))
  have hd1 : decide ((n : Int) < 0) = false := by simp
  have hd2 : decide ((n : Int) > 64) = false := by simp; omega
  obtain ⟨Ak, ck, rfl, -⟩ := hK.form
  clear h hK
  go_enter Try.func31, Try.ntmps31
  go_wp2_with fail
  refine cM.out.mono ?_
  rintro e W ⟨rfl, rfl⟩
  go_wp2_with (at_range; refine wpList_range_g rfl (.tmp 25) 79 rfl 102 keyedI Try.underlying79 rfl HMp.out ?_; intro W1 hR hg1 hs1)
  have hO1 := HD.out.ob.kept hg1 (by simp)
  have hS1 := HD.out.sure.kept (hg1.block sb hsl (by simp)) hg1.size
  have hDv1 : Dev d sb mb w W1 := Kept.of_grown hg1 fun _ hi => ⟨hi.1, by simp⟩
  have HSt := Lib.hid (HalfC.start (keep := keep) (torn := torn) (n := n) HD.out.ok)
  clear hg1 x0 x1
  generalize hr : w.heap.size = r at *
  go_frame
  go_loopw [9] (fun _ wr => ∃ (Sx : List Int) (cnt : Nat) (bs : List Blk), Rng Try.prog 3 wr mb r (bm D.dm) Sx cnt ∧ SureAt wr sb bs ∧ HalfC D keep torn n Sx bs ∧ Ob wr d 86 (devC D sb mb) ∧ Dev d sb mb w wr ∧ W1.heap.size ≤ wr.heap.size) (fun _ wr => wr.rangeLeft mb r)
  case atStart => exact ⟨[], _, _, hR, hS1, HSt.out, hO1, hDv1, Nat.le_refl _⟩
  case round =>
    obtain ⟨Sx, cnt, bs, hR, hSu, hH, hO, hDv, hsz⟩ := hrel
    go_wp2_with (at_next; refine wpList_next_g rfl (.tmp 26) rfl keyedI Try.underlying3 rfl hR ?_ ?_)
    · intro hdone
      have hbs := hH.done (fun k hk => hdone k (by rw [bm_get, Option.isSome_map]; exact hk))
      obtain ⟨W5, hclr, hM5, hg5⟩ := hR.map.clear (tm := 79) Try.underlying79 0
      have hO5 := hO.kept hg5 (fun e => hne.2.1 (Option.some.inj e))
      have hS5 := hSu.kept (hg5.block sb hSu.lt (fun e => hne.2.2 (Option.some.inj e))) hg5.size
      obtain ⟨x0, x1, -⟩ := Ob.dev hO
      obtain ⟨z0, z1, z2, z3, z4, z5⟩ := Ob.dev hO5
      have hz2 := hO5.frozen 2
      have hst := hO5.set 2 (.bool false)
      have hg6 := grownBy_set W5 d 2 (.bool false)
      have hS6 := hS5.kept (hg6.block sb hS5.lt (fun e => hne.1 (Option.some.inj e).symm)) hg6.size
      have hM6 := hM5.kept hg6 (fun e => hne.2.1 (Option.some.inj e).symm)
      have hFF : (crashD D keep torn n).1 = { D with sure := bs, dm := [], stops := false } := by rw [HFE.out, hbs]
      have hbl : bs.length = D.sure.length := hH.1
      have HFIN := Lib.hid (show DvAt (W5.setCell ⟨d, 2, none⟩ (.bool false)) base d sb mb (crashD D keep torn n).1 from by
        have hok := HOKF.out
        rw [hFF] at hok ⊢
        refine ⟨?_, hS6, hM6, hok, hne, HD.out.lo, by dsimp only; rw [hbl]; exact HD.out.len⟩
        have e : devC { D with sure := bs, dm := [], stops := false } sb mb = (devC D sb mb).setIfInBounds 2 (.bool false) := by
          unfold devC
          dsimp only
          rw [hbl]
          rfl
        rw [e]
        exact hst)
      have HDV := Lib.hid (hDv.trans ((Dev.of_map hg5).trans (Dev.of_own hg6)))
      clear hS6 hM6 hst hg6 hS5 hM5 hg5 hO5 hDv hO hH hSu hR hFF hbs hbl
      go_wp2
      go_ret
      exact ⟨rfl, HFIN.out, HDV.out⟩
    · intro k v W2 cnt2 hk hks hR2 hlt hg2 hs2 hen
      rw [bm_get] at hk
      obtain ⟨b, hb, rfl⟩ := Option.map_eq_some_iff.1 hk
      have hkb := HD.out.ok.dm _ (bGet_mem hb)
      dsimp only at hkb
      obtain ⟨kk, rfl⟩ := Int.eq_ofNat_of_zero_le hkb.1
      have hkn : kk < D.sure.length := by omega
      have HL := Lib.hid hkb.2.2
      have hrlt := hR.lt
      obtain ⟨W3, hst, hrg, hth, hbl, hw3⟩ := new_blk W2 b HL.out
      have hO2 := hO.kept hg2 (fun e => by have := Option.some.inj e; omega)
      have hO3 := hO2.same hbl
      have hS3 := (hSu.kept (hg2.block sb hSu.lt (fun e => by have := Option.some.inj e; omega)) hg2.size).kept (hbl.block sb (by have := hSu.lt; omega)) hbl.size
      have hR3 := hR2.kept (only_of_below hbl none) (by simp) (by simp)
      obtain ⟨x0, x1, -⟩ := Ob.dev hO3
      have hbsl : bs.length = D.sure.length := hH.1
      have hxd : W3.drew.cell? ⟨d, 0, none⟩ = some (.slice (some ⟨sb, 0, none⟩) D.sure.length D.sure.length) := x0
      have hrd : W3.drew.rangeAt W2.heap.size 0 (bytesV b) := (World.rangeAt_drew _ _ _ _).2 hrg
      have htd : W3.drew.there sb (kk * 64) 64 := (World.there_drew _ _ _ _).2 (there_part hS3.there (by omega))
      have hsz3 : (bytesV b).toArray.size = 64 := by simp [bytesV_length, HL.out]
      have hln := HD.out.len.2
      have HR3 := Lib.hid hR3
      have HS3 := Lib.hid hS3
      have HO3 := Lib.hid hO3
      have HBS := Lib.hid hH.2.1
      have HH := Lib.hid hH
      have HKS := Lib.hid hks
      have HSTEP := Lib.hid (hH.step HD.out.ok hn hkn)
      have hwn : w.heap.size = r := hr
      have HK := Lib.hid (Kept.trans hDv ((Kept.of_grown hg2 (Fr := fun i => i < w.heap.size ∧ i ≠ d ∧ i ≠ sb ∧ i ≠ mb) fun i hi => ⟨by omega, fun e => by have := Option.some.inj e; omega⟩).trans (Kept.of_below hbl fun i hi => by omega)))
      have hlt2 : cnt2 < wr.rangeLeft mb r := by rw [World.ranges.left_eq hR]; exact hlt
      have hW23 := hbl.size
      have HCB := Lib.hid (show crashB D keep torn n kk = if (kk : Int) ∈ keep then b else if (kk : Int) = torn then b.take n ++ (D.sure.getD kk []).drop n else D.sure.getD kk [] by unfold crashB; rw [hb])
      have cC := contains_calls keep (kk : Int) (.slice Ak keep.length ck) lo B W3 (HKI.out W3 HK.out)
      rw [inL_iff] at cC
      clear hR2 hR3 hS3 hO3 hO2 hrg hth hbl hSu hH hO hDv hg2 hk hks hR
      have hq2 : wr.heap.size ≤ W2.heap.size := by omega
      have HS2 := Lib.hid hs2
      have HWN := Lib.hid hwn
      have HR := Lib.hid hr
      clear hs2 hwn hr
      unfold blkV at hen ⊢
      have CC := Lib.hid cC
      clear cC
      go_wp2_with fail
      refine CC.out.mono ?_
      rintro e W' ⟨rfl, rfl⟩
      by_cases hin : (kk : Int) ∈ keep
      · have hdi : decide ((kk : Int) ∈ keep) = true := by simpa using hin
        rw [hdi]
        go_wp2_with fail
        refine Pu.regionM [(0, false), (1, false), (2, false), (3, false), (4, false), (5, false), (6, false), (7, true)] (fun V => V.cell? ⟨d, 0, none⟩ = some (.slice (some ⟨sb, 0, none⟩) D.sure.length D.sure.length) ∧ V.rangeAt W2.heap.size 0 (bytesV b)) hmx (by kernel_rfl) (by kernel_rfl) (by kernel_rfl) ⟨hxd, hrd⟩ rfl ?_
        simp only [Pu.named, List.filterMap_cons, List.filterMap_nil, List.getElem?_toArray, List.getElem?_cons_succ, List.getElem?_cons_zero, Option.map_some]
        iterate 05 (apply Pu.WalkM.on (by rfl)
                    · rintro V ⟨g0, gr⟩
                      go_wp2_with fail
                      refine ⟨rfl, ?_, rfl⟩
                      try simp only [Act.put, List.setIfInBounds_toArray, List.set_cons_succ, List.set_cons_zero]
                      rfl
                    simp only [Act.put, List.setIfInBounds_toArray, List.set_cons_succ, List.set_cons_zero])
        apply Pu.WalkM.on (by rfl)
        · rintro V ⟨g0, gr⟩
          refine wpList_load_mid rfl 102 (.tmp 10) rfl W2.heap.size 0 rfl (bytesV b) _ gr Try.underlying102 rfl (by rw [bytesV_length, HL.out]; kernel_rfl) ?_
          go_wp2_with fail
          refine ⟨rfl, ?_, rfl⟩
          try simp only [Act.put, List.setIfInBounds_toArray, List.set_cons_succ, List.set_cons_zero]
          rfl
        simp only [Act.put, List.setIfInBounds_toArray, List.set_cons_succ, List.set_cons_zero]
        iterate 01 (apply Pu.WalkM.on (by rfl)
                    · rintro V ⟨g0, gr⟩
                      go_wp2_with fail
                      refine ⟨rfl, ?_, rfl⟩
                      try simp only [Act.put, List.setIfInBounds_toArray, List.set_cons_succ, List.set_cons_zero]
                      rfl
                    simp only [Act.put, List.setIfInBounds_toArray, List.set_cons_succ, List.set_cons_zero])
        refine Pu.WalkM.make (by rfl) ?_
        rintro V rfl
        refine wpList_store_mid rfl 102 (.tmp 42) (.tmp 41) rfl sb (kk * 64) (bytesV b).toArray rfl rfl (by rw [hsz3]; exact htd) (by rw [hsz3]; kernel_rfl) (all_oneCell_toArray (bytesV_one b)) ?_
        have eT : (bytesV b).toArray.toList = bytesV b := by simp
        rw [eT]
        have hg4 := grownBy_cells (b := sb) (bytesV b) W3.drew (kk * 64)
        have hw3d : W3.drew.heap.size = W2.heap.size + 1 := hw3
        have hslt := HS3.out.lt
        have g04 := hg4.cell hxd (fun e => hne.1 (Option.some.inj e))
        have gr4 := range_of_block (hg4.block W2.heap.size (by omega) (fun e => by have := Option.some.inj e; omega)) hrd
        refine ⟨rfl, undef, _, (fun V => V = W3.drew.setCells sb (kk * 64) (bytesV b)), rfl, rfl, (fun V h => by rw [h]; exact ⟨g04, gr4⟩), (.inr (fun _ h => h)), Pu.WalkM.nil ?_⟩
        rintro V' rfl
        simp only [Act.put]
        have hg4' : W3.grownBy (W3.drew.setCells sb (kk * 64) (bytesV b)) (some sb) := ⟨hg4.os, hg4.tape, hg4.output, hg4.size, hg4.block⟩
        have hS4 := (HS3.out.kept (w' := W3.drew) rfl (Nat.le_refl _)).set HBS.out (i := kk) (by omega) HL.out
        have hR4 := HR3.out.kept hg4' (fun e => hne.2.2 (Option.some.inj e).symm) (fun e => by have := Option.some.inj e; omega)
        have hO4 := HO3.out.kept hg4' (fun e => hne.1 (Option.some.inj e))
        have hwn := HWN.out
        have hK4 := Kept.trans HK.out (Kept.of_grown hg4' (Fr := fun i => i < w.heap.size ∧ i ≠ d ∧ i ≠ sb ∧ i ≠ mb) fun i hi => ⟨by omega, fun e => hi.2.2.1 (Option.some.inj e)⟩)
        have hs4 := hg4'.size
        have hst4 := HSTEP.out
        rw [HCB.out, if_pos hin] at hst4
        have HFIN := Lib.hid (show ∃ (Sx : List Int) (cnt : Nat) (bs : List Blk), Rng Try.prog 3 (W3.drew.setCells sb (kk * 64) (bytesV b)) mb r (bm D.dm) Sx cnt ∧ SureAt (W3.drew.setCells sb (kk * 64) (bytesV b)) sb bs ∧ HalfC D keep torn n Sx bs ∧ Ob (W3.drew.setCells sb (kk * 64) (bytesV b)) d 86 (devC D sb mb) ∧ Dev d sb mb w (W3.drew.setCells sb (kk * 64) (bytesV b)) ∧ W1.heap.size ≤ (W3.drew.setCells sb (kk * 64) (bytesV b)).heap.size from ⟨_, _, _, hR4, hS4, hst4, hO4, hK4, by omega⟩)
        have HMS := Lib.hid (show (W3.drew.setCells sb (kk * 64) (bytesV b)).rangeLeft mb r < wr.rangeLeft mb r by rw [World.ranges.left_eq hR4]; exact hlt2)
        clear hS4 hR4 hO4 hK4 hg4 hg4' g04 gr4 hxd hrd htd x0 x1 hst4
        go_wp2
        exact ⟨HFIN.out, HMS.out⟩
      · have hdi : decide ((kk : Int) ∈ keep) = false := by simpa using hin
        rw [hdi]
        by_cases ht : (kk : Int) = torn
        · have hdt : ((kk : Int) == torn) = true := by simpa using ht
          have hcb : crashB D keep torn n kk = b.take n ++ (bs.getD kk []).drop (b.take n).length := by
            rw [HCB.out, if_neg hin, if_pos ht, HH.out.old hkn HKS.out, List.length_take, HL.out, Nat.min_eq_left hn]
          have hlt3 : (b.take n).length = n := by rw [List.length_take, HL.out]; omega
          have hcl : (bytesV (b.take n)).length = n := by rw [bytesV_length]; exact hlt3
          have hcp := fun ty => run_copy_cells (P := Try.prog) W3.drew 34 34 ty 5 sb (kk * 64) n 64 ⟨W2.heap.size, 0, none⟩ n 64 (bytesV (b.take n)) Try.underlying34 (by kernel_rfl) (by rw [hcl]; simp) (fun j v hv => by
              have hj : j < n := by have := (List.getElem?_eq_some_iff.1 hv).1; omega
              have h1 : (bytesV b)[j]? = some v := by
                unfold bytesV at hv ⊢
                rw [List.map_take, List.getElem?_take] at hv
                simpa [hj] using hv
              have := hrd j v h1
              rw [Addr.add_mid]
              exact this) (fun j hj => (htd j (by omega)).1) (fun j hj => (htd j (by omega)).2) (bytesV_one _)
          have hal : Try.prog.arrayLen 102 = 64 := by kernel_rfl
          have hsa : ∀ (g o : Nat) (V : World), (Instr.sliceAt 102 (.pointer (some ⟨g, o, none⟩)) none (some (.int .i64 n)) none).run Try.prog V = .ok (.slice (some ⟨g, o, none⟩) n 64) V := fun g o V => by
            have h1 := run_sliceAt_array_h (P := Try.prog) V 102 ⟨g, o, none⟩ (by kernel_rfl) .i64 (n : Int) (by omega) (by rw [hal]; omega)
            rw [h1, show (sizeOf (Try.prog.elem 102)).run Try.prog V = .ok 1 V by kernel_rfl]
            simp [Result.andThen, slicedAt, hal, Addr.add_mid]
          have HT := Lib.hid ht
          clear ht
          go_wp2_with fail
          refine Pu.regionM [(0, false), (1, false), (2, false), (3, false), (4, false), (5, false), (6, false), (7, false), (8, false), (9, false), (10, true)] (fun V => V.cell? ⟨d, 0, none⟩ = some (.slice (some ⟨sb, 0, none⟩) D.sure.length D.sure.length) ∧ V.rangeAt W2.heap.size 0 (bytesV b)) hmx (by kernel_rfl) (by kernel_rfl) (by kernel_rfl) ⟨hxd, hrd⟩ rfl ?_
          simp only [Pu.named, List.filterMap_cons, List.filterMap_nil, List.getElem?_toArray, List.getElem?_cons_succ, List.getElem?_cons_zero, Option.map_some]
          iterate 10 (apply Pu.WalkM.on (by rfl)
                      · rintro V ⟨g0, gr⟩
                        go_wp2_with fail
                        refine ⟨rfl, ?_, rfl⟩
                        try simp only [Act.put, List.setIfInBounds_toArray, List.set_cons_succ, List.set_cons_zero]
                        rfl
                      simp only [Act.put, List.setIfInBounds_toArray, List.set_cons_succ, List.set_cons_zero])
          refine Pu.WalkM.make (by rfl) ?_
          rintro V rfl
          go_wp2_with fail
          have hg4 := grownBy_cells (b := sb) (bytesV (b.take n)) W3.drew (kk * 64)
          have hw3d : W3.drew.heap.size = W2.heap.size + 1 := hw3
          have hslt := HS3.out.lt
          have g04 := hg4.cell hxd (fun e => hne.1 (Option.some.inj e))
          have gr4 := range_of_block (hg4.block W2.heap.size (by omega) (fun e => by have := Option.some.inj e; omega)) hrd
          refine ⟨rfl, _, _, (fun V => V = W3.drew.setCells sb (kk * 64) (bytesV (b.take n))), rfl, rfl, (fun V h => by rw [h]; exact ⟨g04, gr4⟩), (.inr (fun _ h => h)), Pu.WalkM.nil ?_⟩
          rintro V' rfl
          simp only [Act.put]
          have hg4' : W3.grownBy (W3.drew.setCells sb (kk * 64) (bytesV (b.take n))) (some sb) := ⟨hg4.os, hg4.tape, hg4.output, hg4.size, hg4.block⟩
          have hS4 := (HS3.out.kept (w' := W3.drew) rfl (Nat.le_refl _)).part HBS.out (i := kk) (by omega) (by rw [hlt3]; exact hn)
          have hR4 := HR3.out.kept hg4' (fun e => hne.2.2 (Option.some.inj e).symm) (fun e => by have := Option.some.inj e; omega)
          have hO4 := HO3.out.kept hg4' (fun e => hne.1 (Option.some.inj e))
          have hwn := HWN.out
          have hK4 := Kept.trans HK.out (Kept.of_grown hg4' (Fr := fun i => i < w.heap.size ∧ i ≠ d ∧ i ≠ sb ∧ i ≠ mb) fun i hi => ⟨by omega, fun e => hi.2.2.1 (Option.some.inj e)⟩)
          have hs4 := hg4'.size
          have hst4 := HSTEP.out
          rw [hcb] at hst4
          have HFIN := Lib.hid (show ∃ (Sx : List Int) (cnt : Nat) (bs : List Blk), Rng Try.prog 3 (W3.drew.setCells sb (kk * 64) (bytesV (b.take n))) mb r (bm D.dm) Sx cnt ∧ SureAt (W3.drew.setCells sb (kk * 64) (bytesV (b.take n))) sb bs ∧ HalfC D keep torn n Sx bs ∧ Ob (W3.drew.setCells sb (kk * 64) (bytesV (b.take n))) d 86 (devC D sb mb) ∧ Dev d sb mb w (W3.drew.setCells sb (kk * 64) (bytesV (b.take n))) ∧ W1.heap.size ≤ (W3.drew.setCells sb (kk * 64) (bytesV (b.take n))).heap.size from ⟨_, _, _, hR4, hS4, hst4, hO4, hK4, by omega⟩)
          have HMS := Lib.hid (show (W3.drew.setCells sb (kk * 64) (bytesV (b.take n))).rangeLeft mb r < wr.rangeLeft mb r by rw [World.ranges.left_eq hR4]; exact hlt2)
          clear hS4 hR4 hO4 hK4 hg4 hg4' g04 gr4 hxd hrd htd x0 x1 hst4
          go_wp2
          go_roundw
          case rel => repeat (first | exact ⟨HFIN.out, rfl⟩ | exact ⟨rfl, HFIN.out⟩ | apply Exists.intro)
          case measure => exact HMS.out
        · have hdt : ((kk : Int) == torn) = false := by simpa using ht
          have hst4 := HH.out.stay hkn HKS.out (by rw [HCB.out, if_neg hin, if_neg ht])
          have HFIN := Lib.hid (show ∃ (Sx : List Int) (cnt : Nat) (bs : List Blk), Rng Try.prog 3 W3 mb r (bm D.dm) Sx cnt ∧ SureAt W3 sb bs ∧ HalfC D keep torn n Sx bs ∧ Ob W3 d 86 (devC D sb mb) ∧ Dev d sb mb w W3 ∧ W1.heap.size ≤ W3.heap.size from ⟨_, _, _, HR3.out, HS3.out, hst4, HO3.out, HK.out, by omega⟩)
          have HMS := Lib.hid (show W3.rangeLeft mb r < wr.rangeLeft mb r by rw [World.ranges.left_eq HR3.out]; exact hlt2)
          clear hst4 hxd hrd htd x0 x1
          go_wp2
          exact ⟨HFIN.out, HMS.out⟩
end
end Se
end Go.Proofs.Yteiniahikhiadaa
