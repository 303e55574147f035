/-
  sector: Flush, the walk.
  slices.Concat at bytes: what it hands back owns the parts, one behind the other.
  slices.Clone at bytes.
  the log, the walk: how many sectors a half has, where one lies.
  string(b) of bytes in memory.
  the log, the walk: a head.
  the log, the walk: a half's stream.
  the log, the walk: the entries of a stream.
  the log, the walk: the right head is found, and its half's entries.
  the log, the walk: sectors are cleared.
  the log, the walk: an entry as it stands in a stream.
  items: goods and counts.
  items: lists of items in memory; the iterator All.
  items: a range over All as one law; the walk of May.
-/
import Derived.Test.YteiniahikhiadaaWn3
import Derived.Test.YteiniahikhiadaaLayed
import Derived.Test.YteiniahikhiadaaWn2
import Derived.Laws.IdiomStrings
import Derived.Lib.SliceRun
import Derived.Laws.OwnMore
import Derived.Laws.MakeOwn
import Derived.Laws.Bits64b
import Derived.Test.YteiniahikhiadaaWn1
import Derived.Laws.RangeAny
import Derived.Deep.QuietTactic
import Derived.BigQuiet
import Derived.RangeFuncNested
import Derived.RangeFuncBound
import Derived.RangeFuncCalls
import Derived.RangeFuncLeaves
import Derived.Shelf.Abstract
import Derived.Shelf.RegionOpen
import Derived.TacticsInMore
import Derived.LoopNIn
import Derived.LoopIn

set_option linter.unusedVariables false
set_option linter.unusedSimpArgs false
namespace Go.Proofs.Yteiniahikhiadaa
open Go.RowKit Go.Maps
namespace Se
open Ce

section
variable {w w' : World} {base d sb mb : Nat} {D D' : Dv}
set_option maxRecDepth 100000 in
set_option maxHeartbeats 8000000 in
theorem flush_good (h : DvAt w base d sb mb D) (ho : offD D = false) :
    Calls Try.prog 40 #[.pointer (some ⟨d, 0, none⟩)] w fun e w' => e = .returned (.int .i64 0) ∧ DvAt w' base d sb mb (flushD D).1 ∧ Dev d sb mb w w' := by
  obtain ⟨y0, y1, -⟩ := Ob.dev h.ob
  have cM := Lib.hid (made_calls d mb w y1)
  have CS := Lib.hid (spend_calls h ho)
  have HOKF := Lib.hid (show OkD (flushD D).1 from h.ok.flush)
  have HFE := Lib.hid (show (flushD D).1 = { spendD D with sure := (List.range D.sure.length).map (lastD D), dm := [], fl := wrap64 (D.fl + 1) } by unfold flushD; rw [ho]; rfl)
  obtain ⟨S, hS⟩ : ∃ S, S = spendD D := ⟨_, rfl⟩
  have HSS := Lib.hid (show S.sure = D.sure by rw [hS]; exact spendD_sure D)
  have HSM := Lib.hid (show S.dm = D.dm by rw [hS]; exact spendD_dm D)
  have HSF := Lib.hid (show S.fl = D.fl by rw [hS]; exact spendD_fl D)
  rw [← hS] at CS HFE
  clear h ho y0 y1 hS
  go_enter Try.func40, Try.ntmps40
  go_wp2_with fail
  refine cM.out.mono ?_
  rintro e W ⟨rfl, rfl⟩
  go_wp2_with fail
  refine CS.out.mono ?_
  rintro e W ⟨rfl, hD, hg⟩
  have HD := Lib.hid hD
  have HG := Lib.hid hg
  obtain ⟨x0, x1, -⟩ := Ob.dev hD.ob
  have HMp := Lib.hid hD.map
  have hdl := hD.ob.lt
  have hsl := hD.sure.lt
  have hml := hD.map.lt
  have hne := hD.ne
  clear hD hg cM CS
  go_wp2_with (at_range; refine wpList_range_g rfl (.tmp 16) 79 rfl 102 keyedI Try.underlying79 rfl HMp.out ?_; intro W1 hR hg1 hs1)
  have hO1 := HD.out.ob.kept hg1 (by simp)
  have hS1 := HD.out.sure.kept (hg1.block sb hsl (by simp)) hg1.size
  have hDv1 : Dev d sb mb W W1 := Kept.of_grown hg1 fun _ hi => ⟨hi.1, by simp⟩
  have HSt := Lib.hid (Half.start HD.out.ok)
  clear hg1 x0 x1
  generalize hr : W.heap.size = r at *
  go_frame
  go_loopw [3] (fun _ wr => ∃ (Sx : List Int) (cnt : Nat) (bs : List Blk), Rng Try.prog 3 wr mb r (bm S.dm) Sx cnt ∧ SureAt wr sb bs ∧ Half S Sx bs ∧ Ob wr d 86 (devC S sb mb) ∧ Dev d sb mb W wr ∧ W1.heap.size ≤ wr.heap.size) (fun _ wr => wr.rangeLeft mb r)
  case atStart => exact ⟨[], _, _, hR, hS1, HSt.out, hO1, hDv1, Nat.le_refl _⟩
  case round =>
    obtain ⟨Sx, cnt, bs, hR, hSu, hH, hO, hDv, hsz⟩ := hrel
    go_wp2_with (at_next; refine wpList_next_g rfl (.tmp 17) rfl keyedI Try.underlying3 rfl hR ?_ ?_)
    · intro hdone
      have hbs := hH.done (fun k hk => hdone k (by rw [bm_get, Option.isSome_map]; exact hk))
      obtain ⟨W5, hclr, hM5, hg5⟩ := hR.map.clear (tm := 79) Try.underlying79 0
      have hO5 := hO.kept hg5 (fun e => hne.2.1 (Option.some.inj e))
      have hS5 := hSu.kept (hg5.block sb hSu.lt (fun e => hne.2.2 (Option.some.inj e))) hg5.size
      obtain ⟨x0, x1, -⟩ := Ob.dev hO
      obtain ⟨z0, z1, z2, z3, z4, z5⟩ := Ob.dev hO5
      have hst := hO5.set 5 (.int .i64 (wrap64 (S.fl + 1)))
      have hg6 := grownBy_set W5 d 5 (.int .i64 (wrap64 (S.fl + 1)))
      have hS6 := hS5.kept (hg6.block sb hS5.lt (fun e => hne.1 (Option.some.inj e).symm)) hg6.size
      have hM6 := hM5.kept hg6 (fun e => hne.2.1 (Option.some.inj e).symm)
      have hFF : (flushD D).1 = { S with sure := bs, dm := [], fl := wrap64 (S.fl + 1) } := by
        have eL : lastD S = lastD D := by
          funext i
          unfold lastD
          rw [HSM.out, HSS.out]
        rw [HFE.out, hbs, HSF.out, HSS.out, eL]
      have hbl : bs.length = S.sure.length := hH.1
      have HFIN := Lib.hid (show DvAt (W5.setCell ⟨d, 5, none⟩ (.int .i64 (wrap64 (S.fl + 1)))) base d sb mb (flushD D).1 from by
        have hok := HOKF.out
        rw [hFF] at hok ⊢
        refine ⟨?_, hS6, hM6, hok, hne, HD.out.lo, by dsimp only; rw [hbl]; exact HD.out.len⟩
        have e : devC { S with sure := bs, dm := [], fl := wrap64 (S.fl + 1) } sb mb = (devC S sb mb).setIfInBounds 5 (.int .i64 (wrap64 (S.fl + 1))) := by
          unfold devC
          dsimp only
          rw [hbl]
          rfl
        rw [e]
        exact hst)
      have HDV := Lib.hid ((Dev.of_own (sb := sb) (mb := mb) HG.out).trans (hDv.trans ((Dev.of_map hg5).trans (Dev.of_own hg6))))
      have cA := Lib.hid (add_calls 5 S.fl W5 z5 (hO5.frozen 5))
      clear hS6 hM6 hst hg6 hS5 hM5 hg5 hO5 hDv hO hH hSu hR hFF hbs hbl
      go_wp2_with fail
      refine cA.out.mono ?_
      rintro e W7 ⟨rfl, rfl⟩
      go_wp2
      go_ret
      exact ⟨rfl, HFIN.out, HDV.out⟩
    · intro k v W2 cnt2 hk hks hR2 hlt hg2 hs2 hen
      rw [bm_get] at hk
      obtain ⟨b, hb, rfl⟩ := Option.map_eq_some_iff.1 hk
      have hkb := HD.out.ok.dm _ (bGet_mem hb)
      dsimp only at hkb
      obtain ⟨kk, rfl⟩ := Int.eq_ofNat_of_zero_le hkb.1
      have hkn : kk < S.sure.length := by omega
      have HL := Lib.hid hkb.2.2
      have hrlt := hR.lt
      obtain ⟨W3, hst, hrg, hth, hbl, hw3⟩ := new_blk W2 b HL.out
      have hO2 := hO.kept hg2 (fun e => by have := Option.some.inj e; omega)
      have hO3 := hO2.same hbl
      have hS3 := (hSu.kept (hg2.block sb hSu.lt (fun e => by have := Option.some.inj e; omega)) hg2.size).kept (hbl.block sb (by have := hSu.lt; omega)) hbl.size
      have hR3 := hR2.kept (only_of_below hbl none) (by simp) (by simp)
      obtain ⟨x0, x1, -⟩ := Ob.dev hO3
      have hbsl : bs.length = S.sure.length := hH.1
      have hxd : W3.drew.cell? ⟨d, 0, none⟩ = some (.slice (some ⟨sb, 0, none⟩) S.sure.length S.sure.length) := x0
      have hrd : W3.drew.rangeAt W2.heap.size 0 (bytesV b) := (World.rangeAt_drew _ _ _ _).2 hrg
      have htd : W3.drew.there sb (kk * 64) 64 := (World.there_drew _ _ _ _).2 (there_part hS3.there (by omega))
      have hsz3 : (bytesV b).toArray.size = 64 := by simp [bytesV_length, HL.out]
      have hln := HD.out.len.2
      have HR3 := Lib.hid hR3
      have HS3 := Lib.hid hS3
      have HO3 := Lib.hid hO3
      have HH := Lib.hid (hH.step HD.out.ok hb hkn)
      have HBS := Lib.hid hH.2.1
      have hDv2 := hDv.trans (Kept.mono (Kept.refl (fun _ => True) wr) fun _ _ => trivial)
      have HK := Lib.hid (Kept.trans hDv ((Kept.of_grown hg2 (Fr := fun i => i < W.heap.size ∧ i ≠ d ∧ i ≠ sb ∧ i ≠ mb) fun i hi => ⟨by omega, fun e => by have := Option.some.inj e; omega⟩).trans (Kept.of_below hbl fun i hi => by omega)))
      have hlt2 : cnt2 < wr.rangeLeft mb r := by rw [World.ranges.left_eq hR]; exact hlt
      have hW23 := hbl.size
      clear hR2 hR3 hS3 hO3 hO2 hrg hth hbl hSu hH hO hDv hDv2 hg2 hk hks hR
      have hq2 : wr.heap.size ≤ W2.heap.size := by omega
      have HS2 := Lib.hid hs2
      clear hs2
      generalize hn : S.sure.length = n at *
      unfold blkV at hen ⊢
      go_wp2_with fail
      refine Pu.regionM [(0, false), (1, false), (2, false), (3, false), (4, false), (5, false), (6, false), (7, true)] (fun V => V.cell? ⟨d, 0, none⟩ = some (.slice (some ⟨sb, 0, none⟩) n n) ∧ V.rangeAt W2.heap.size 0 (bytesV b)) hmx (by kernel_rfl) (by kernel_rfl) (by kernel_rfl) ⟨hxd, hrd⟩ rfl ?_
      simp only [Pu.named, List.filterMap_cons, List.filterMap_nil, List.getElem?_toArray, List.getElem?_cons_succ, List.getElem?_cons_zero, Option.map_some]
      iterate 5 (apply Pu.WalkM.on (by rfl)
                 · rintro V ⟨g0, gr⟩
                   go_wp2_with fail
                   refine ⟨rfl, ?_, rfl⟩
                   try simp only [Act.put, List.setIfInBounds_toArray, List.set_cons_succ, List.set_cons_zero]
                   rfl
                 simp only [Act.put, List.setIfInBounds_toArray, List.set_cons_succ, List.set_cons_zero])
      apply Pu.WalkM.on (by rfl)
      · rintro V ⟨g0, gr⟩
        refine wpList_load_mid rfl 102 (.tmp 4) rfl W2.heap.size 0 rfl (bytesV b) _ gr Try.underlying102 rfl (by rw [bytesV_length, HL.out]; kernel_rfl) ?_
        go_wp2_with fail
        refine ⟨rfl, ?_, rfl⟩
        try simp only [Act.put, List.setIfInBounds_toArray, List.set_cons_succ, List.set_cons_zero]
        rfl
      simp only [Act.put, List.setIfInBounds_toArray, List.set_cons_succ, List.set_cons_zero]
      apply Pu.WalkM.on (by rfl)
      · rintro V ⟨g0, gr⟩
        go_wp2_with fail
        refine ⟨rfl, ?_, rfl⟩
        try simp only [Act.put, List.setIfInBounds_toArray, List.set_cons_succ, List.set_cons_zero]
        rfl
      simp only [Act.put, List.setIfInBounds_toArray, List.set_cons_succ, List.set_cons_zero]
      refine Pu.WalkM.make (by rfl) ?_
      rintro V rfl
      refine wpList_store_mid rfl 102 (.tmp 29) (.tmp 28) rfl sb (kk * 64) (bytesV b).toArray rfl rfl (by rw [hsz3]; exact htd) (by rw [hsz3]; kernel_rfl) (all_oneCell_toArray (bytesV_one b)) ?_
      have eT : (bytesV b).toArray.toList = bytesV b := by simp
      rw [eT]
      have hg4 := grownBy_cells (b := sb) (bytesV b) W3.drew (kk * 64)
      have hw3d : W3.drew.heap.size = W2.heap.size + 1 := hw3
      have hslt := HS3.out.lt
      have g04 := hg4.cell hxd (fun e => hne.1 (Option.some.inj e))
      have gr4 := range_of_block (hg4.block W2.heap.size (by omega) (fun e => by have := Option.some.inj e; omega)) hrd
      refine ⟨rfl, undef, _, (fun V => V = W3.drew.setCells sb (kk * 64) (bytesV b)), rfl, rfl, (fun V h => by rw [h]; exact ⟨g04, gr4⟩), (.inr (fun _ h => h)), Pu.WalkM.nil ?_⟩
      rintro V' rfl
      simp only [Act.put]
      have hg4' : W3.grownBy (W3.drew.setCells sb (kk * 64) (bytesV b)) (some sb) := ⟨hg4.os, hg4.tape, hg4.output, hg4.size, hg4.block⟩
      have hbl2 : bs.length = n := hbsl
      have hS4 := (HS3.out.kept (w' := W3.drew) rfl (Nat.le_refl _)).set HBS.out (i := kk) (by omega) HL.out
      have hR4 := HR3.out.kept hg4' (fun e => hne.2.2 (Option.some.inj e).symm) (fun e => by have := Option.some.inj e; omega)
      have hO4 := HO3.out.kept hg4' (fun e => hne.1 (Option.some.inj e))
      have hK4 := Kept.trans HK.out (Kept.of_grown hg4' (Fr := fun i => i < W.heap.size ∧ i ≠ d ∧ i ≠ sb ∧ i ≠ mb) fun i hi => ⟨by omega, fun e => hi.2.2.1 (Option.some.inj e)⟩)
      have hs4 := hg4'.size
      have HFIN := Lib.hid (show ∃ (Sx : List Int) (cnt : Nat) (bs : List Blk), Rng Try.prog 3 (W3.drew.setCells sb (kk * 64) (bytesV b)) mb r (bm S.dm) Sx cnt ∧ SureAt (W3.drew.setCells sb (kk * 64) (bytesV b)) sb bs ∧ Half S Sx bs ∧ Ob (W3.drew.setCells sb (kk * 64) (bytesV b)) d 86 (devC S sb mb) ∧ Dev d sb mb W (W3.drew.setCells sb (kk * 64) (bytesV b)) ∧ W1.heap.size ≤ (W3.drew.setCells sb (kk * 64) (bytesV b)).heap.size from ⟨_, _, _, hR4, hS4, HH.out, hO4, hK4, by omega⟩)
      have HMS := Lib.hid (show (W3.drew.setCells sb (kk * 64) (bytesV b)).rangeLeft mb r < wr.rangeLeft mb r by rw [World.ranges.left_eq hR4]; exact hlt2)
      clear hS4 hR4 hO4 hK4 hg4 hg4' g04 gr4 hxd hrd htd x0 x1
      go_wp2
      exact ⟨HFIN.out, HMS.out⟩
/-- Flush, whatever the device -/
theorem flush_calls (h : DvAt w base d sb mb D) :
    Calls Try.prog 40 #[.pointer (some ⟨d, 0, none⟩)] w fun e w' => e = .returned (.int .i64 (flushD D).2) ∧ DvAt w' base d sb mb (flushD D).1 ∧ Dev d sb mb w w' := by
  cases ho : offD D with
  | true =>
    have e : flushD D = (D, 30) := by unfold flushD; rw [ho]; rfl
    rw [e]
    refine (flush_off h ho).mono ?_
    rintro e W ⟨rfl, rfl⟩
    exact ⟨rfl, h, Kept.refl _ _⟩
  | false =>
    have e : (flushD D).2 = 0 := by unfold flushD; rw [ho]; rfl
    rw [e]
    exact flush_good h ho
end
end Se
end Go.Proofs.Yteiniahikhiadaa

namespace Go.Proofs.Yteiniahikhiadaa
open Go.RowKit Go.Shelf
namespace CatB

/-- a part: its address, length, capacity, cells -/
abbrev Part := Option Addr × Nat × Nat × List Value
def pv (p : Part) : Value := .slice p.1 p.2.1 p.2.2.1
def lens : List Part → Nat
  | [] => 0
  | p :: r => p.2.1 + lens r
def all (l : List Part) : List Value := (l.map (·.2.2.2)).flatten
theorem lens_le (l : List Part) (k : Nat) : lens (l.take k) ≤ lens l := by
  induction l generalizing k with
  | nil => simp [lens]
  | cons p r ih =>
    cases k with
    | zero => simp [lens]
    | succ k => simp only [List.take_succ_cons, lens]; have := ih k; omega
theorem lens_succ (l : List Part) (k : Nat) (h : k < l.length) : lens (l.take (k + 1)) = lens (l.take k) + l[k].2.1 := by
  induction l generalizing k with
  | nil => simp at h
  | cons p r ih =>
    cases k with
    | zero => simp [lens]
    | succ k => simp only [List.take_succ_cons, lens, List.getElem_cons_succ]; rw [ih k (by simpa using h)]; omega
theorem all_succ (l : List Part) (k : Nat) (h : k < l.length) : all (l.take (k + 1)) = all (l.take k) ++ l[k].2.2.2 := by
  unfold all
  induction l generalizing k with
  | nil => simp at h
  | cons p r ih =>
    cases k with
    | zero => simp
    | succ k =>
      simp only [List.take_succ_cons, List.map_cons, List.flatten_cons, List.getElem_cons_succ, List.append_assoc]
      rw [ih k (by simpa using h)]

set_option maxHeartbeats 1000000 in
theorem grow_calls (n : Nat) (w : World) (hn : n ≤ 1000000) :
    Calls Try.prog 97 #[.slice none 0 0, .int .i64 n] w fun e w' => (∃ v, e = .returned v ∧ w'.ownsRow w.heap.size 5 1 v 0 []) ∧ Below w.heap.size w w' := by
  cases n with
  | zero =>
    refine (Any8.slices_Grow_room Try.grow97 none 0 0 0 w (by omega) (by omega) (by omega) (by omega)).mono ?_
    rintro e w' ⟨rfl, rfl⟩
    exact ⟨⟨_, rfl, World.ownsRow_nil _ _ _ _⟩, Below.refl _ _⟩
  | succ n =>
    obtain ⟨i0, hi0, hz0⟩ := Option.map_eq_some_iff.1 Ce.byte_info
    simp only [Prod.mk.injEq] at hz0
    obtain ⟨hz0, hz1, hz2⟩ := hz0
    refine (Any8.slices_Grow_grow Try.grow97 i0 _ hi0 hz0 (by omega) none 0 0 (n + 1) [] w (by omega) (by omega) (by rw [hz2]; omega) (by omega) (by simp) (by simp) (by simp)).mono ?_
    rintro e w' ⟨rfl, rfl⟩
    have hG := grownCap_le_maxLen w (0 + (n + 1)) 0 (Try.grow97_ren.t 25) (by unfold maxLen; omega)
    have hge := grownCap_ge w (0 + (n + 1)) 0 (Try.grow97_ren.t 25)
    refine ⟨⟨_, rfl, ?_⟩, ((Below.refl w.heap.size w).drew).alloc (Nat.le_refl _) _⟩
    refine World.ownsRow_made w.drew _ _ (Nat.le_refl _) hG ?_
    generalize grownCap w (0 + (n + 1)) 0 (Try.grow97_ren.t 25) = G at *
    simp only [Array.size_append, size_zeroCells, Value.cells]
    simp
    omega

/-- the parts lie in memory -/
structure Parts (w : World) (B : Nat) (l : List Part) : Prop where
  sl : ∀ p ∈ l, Sl w 0 B 1 (pv p) p.2.1 p.2.2.2
  one : ∀ p ∈ l, ∀ y ∈ p.2.2.2, y.oneCell' = true

set_option maxRecDepth 100000 in
set_option maxHeartbeats 4000000 in
theorem concat_calls (l : List Part) (bk c : Nat) (w : World) (hlc : l.length ≤ c) (hc : c ≤ maxLen) (hbk : bk < w.heap.size) (hcell : ∀ j (h : j < l.length), w.cell? ⟨bk, j, none⟩ = some (pv l[j])) (hp : Parts w w.heap.size l) (hlen : lens l ≤ 1000000) :
    Calls Try.prog 86 #[.slice (some ⟨bk, 0, none⟩) l.length c] w fun e w' => (∃ v, e = .returned v ∧ w'.ownsRow w.heap.size 5 1 v (lens l) (all l)) ∧ Below w.heap.size w w' := by
  have HC := Lib.hid hcell
  clear hcell
  unfold maxLen at hc
  have cG := Lib.hid (fun W => grow_calls (lens l) W hlen)
  have hle := Lib.hid (lens_le l)
  have hls := Lib.hid (lens_succ l)
  have hla := Lib.hid (show lens (l.take l.length) = lens l by rw [List.take_length])
  have hal := Lib.hid (show all (l.take l.length) = all l by rw [List.take_length])
  have has := Lib.hid (all_succ l)
  generalize lens l = T at *
  go_enter Try.func86, Try.ntmps86
  go_wp2_with fail
  go_loop [3, 5, 11] (fun s _ i => ∃ k : Nat, k ≤ l.length ∧ i = .int .i64 k ∧ s = .int .i64 (lens (l.take k))) (fun _ _ i => l.length - (intOf i).toNat)
  case atStart => exact ⟨0, by omega, rfl, rfl⟩
  case round =>
    obtain ⟨k, hk, rfl, rfl⟩ := hrel
    by_cases hlt : k < l.length
    · have hck := HC.out k hlt
      have hS0 := hls.out k hlt
      have h1 := hle.out k
      have h2 := hle.out (k + 1)
      rw [hS0] at h2
      generalize l[k] = p at hck hS0 h2
      obtain ⟨A, n, c', xs⟩ := p
      simp only [pv] at hck
      dsimp only at h2 hS0
      have hS := Lib.hid hS0
      clear hS0
      generalize lens (l.take k) = S at *
      have hneg : decide (((S : Int) + (n : Int)) < 0) = false := by simp; omega
      have hw : wrap64 ((S : Int) + (n : Int)) = (S : Int) + (n : Int) := by unfold wrap64; omega
      go_wp2
      go_round
      case rel => exact ⟨k + 1, by omega, by go_num, by rw [hS.out]; go_num⟩
      case measure => simp [intOf]; omega
    · obtain rfl : k = l.length := by omega
      rw [hla.out]
      go_wp2_with fail
      refine (cG.out _).mono ?_
      rintro e w1 ⟨⟨v, rfl, hv⟩, h1⟩
      have hs1 := h1.size
      go_wp2_with fail
      go_loopw [6, 8, 27] (fun u _ i wr => ∃ k : Nat, k ≤ l.length ∧ i = .int .i64 k ∧ wr.ownsRow w.heap.size 5 1 u (lens (l.take k)) (all (l.take k)) ∧ Below w.heap.size w wr) (fun _ _ i _ => l.length - (intOf i).toNat)
      case atStart => exact ⟨0, by omega, rfl, hv, h1⟩
      case round =>
        obtain ⟨k, hk, rfl, hown, hB⟩ := hrel
        by_cases hlt : k < l.length
        · have hck0 := HC.out k hlt
          have hck := (hB.cell (p := ⟨bk, k, none⟩) hbk).trans hck0
          have hsl := (hp.sl _ (List.getElem_mem hlt)).below hB
          have hone := Lib.hid (hp.one _ (List.getElem_mem hlt))
          have hS0 := hls.out k hlt
          have hA0 := has.out k hlt
          have h2 := hle.out (k + 1)
          rw [hS0] at h2
          clear hck0
          generalize l[k] = p at hck hS0 hA0 h2 hsl hone
          obtain ⟨A, n, c', xs⟩ := p
          simp only [pv] at hck hsl
          dsimp only at h2 hS0 hA0 hsl hone
          have hS := Lib.hid hS0
          have hA := Lib.hid hA0
          clear hS0 hA0
          generalize lens (l.take k) = S at *
          generalize all (l.take k) = X at *
          obtain ⟨i0, hi0, hz0⟩ := Option.map_eq_some_iff.1 Ce.byte_info
          simp only [Prod.mk.injEq] at hz0
          obtain ⟨hz0, hz1, hz2⟩ := hz0
          go_wp2_with (at_builtin
                       refine wpList_append_sl _ rfl (.tmp 31) (.tmp 32) _ rfl w.heap.size 5 i0 _ 1 1 Try.underlying34 hi0 hz0 hz1 hz2 rfl (by omega) u6 S X rfl hown 0 w.heap.size _ n xs rfl hsl hone.out (by unfold maxLen; omega) (by omega) hB.size ?_
                       intro v1 w5 hv1 hg1 hat1)
          go_roundw
          case rel => exact ⟨k + 1, by omega, by go_num, by rw [hS.out, hA.out]; exact hv1, hB.grown hg1 hB.size (fun g hg => (hown.lt g hg).1)⟩
          case measure => simp [intOf]; omega
        · obtain rfl : k = l.length := by omega
          rw [hla.out, hal.out] at hown
          obtain ⟨A5, c5, rfl, -⟩ := (Sl.of_own hown).at_
          go_wp2
          go_ret
          exact ⟨⟨_, rfl, hown⟩, hB⟩
end CatB
end Go.Proofs.Yteiniahikhiadaa

namespace Go.Proofs.Yteiniahikhiadaa
open Go.RowKit
namespace Ce

theorem BytesAt.all {w : World} {lo : Nat} {v : Value} {l : List UInt8} (h : w.ownsRow lo 5 1 v l.length (bytesV l)) : BytesAt w 0 w.heap.size v l := (BytesAt.of_own h).wide (Nat.zero_le _) (Nat.le_refl _)

set_option maxRecDepth 100000 in
set_option maxHeartbeats 1000000 in
theorem cloneb_calls (l : List UInt8) (v : Value) (w : World) (h : BytesAt w 0 w.heap.size v l) (hl : l.length ≤ 140737488351232) :
    Calls Try.prog 54 #[v] w fun e w' => (∃ v', e = .returned v' ∧ w'.ownsRow w.heap.size 5 1 v' l.length (bytesV l)) ∧ Below w.heap.size w w' := by
  obtain ⟨i0, hi0, hz0⟩ := Option.map_eq_some_iff.1 byte_info
  simp only [Prod.mk.injEq] at hz0
  obtain ⟨hz0, hz1, hz2⟩ := hz0
  have h0 := h
  have HL := Lib.hid hl
  clear hl
  obtain ⟨A, c, rfl, hc1, hc2⟩ := h.form
  unfold maxLen at hc2
  have heq := Lib.run_eql_slice_nil (P := Try.prog) w 34 5 A l.length c 0 0 Try.underlying34
  rcases A with _ | ad
  · have hl0 : l = [] := by
      rcases l with _ | ⟨x, r⟩
      · rfl
      · obtain ⟨b, o, e, _⟩ := h.cellAt (j := 0) (by simp)
        cases e
    subst hl0
    simp only [List.length_nil] at heq ⊢
    go_enter Try.func54, Try.ntmps54
    go_wp2
    go_ret
    exact ⟨⟨_, rfl, World.ownsRow_nil _ _ _ _⟩, Below.refl _ _⟩
  · go_enter Try.func54, Try.ntmps54
    go_wp2_with (at_builtin
                 refine wpList_append_sl _ rfl (.tmp 5) (.tmp 6) _ rfl w.heap.size 5 i0 _ 1 1 Try.underlying34 hi0 hz0 hz1 hz2 rfl (by omega) (.slice (some ⟨w.heap.size, 0, none⟩) 0 0) 0 [] rfl (World.ownsRow_lit w #[] 0 (Nat.le_refl _) (Nat.zero_le _) rfl) 0 w.heap.size _ l.length (bytesV l) rfl (Sl.below h0 ((Below.refl _ w).alloc (Nat.le_refl _) _)) (bytesV_one l) (by have := HL.out; unfold maxLen; omega) (by have := HL.out; omega) (by simp) ?_
                 intro v1 w1 hv1 hg1 hat1
                 have hB : Below w.heap.size w w1 := ((Below.refl _ w).alloc (Nat.le_refl _) (.cells #[] 5)).grown hg1 (by simp) (fun g hg => by cases hg; exact Nat.le_refl _)
                 clear hg1 hat1)
    have hown : w1.ownsRow w.heap.size 5 1 v1 l.length (bytesV l) := by simpa using hv1
    obtain ⟨A1, c1, rfl, -⟩ := (BytesAt.of_own hown).form
    clear hv1
    go_wp2
    go_ret
    exact ⟨⟨_, rfl, hown⟩, hB⟩
end Ce
end Go.Proofs.Yteiniahikhiadaa

namespace Go.Proofs.Yteiniahikhiadaa
open Go.RowKit Go.Maps
namespace Wa
open Ce Se
/-- a half's sectors -/
def szD (D : Dv) : Nat := (D.sure.length - 2) / 2
section
variable {w w' : World} {base b d sb mb : Nat} {D D' : Dv}
theorem size_calls (h : DvAt w base d sb mb D) (h4 : 4 ≤ D.sure.length) (hc : w.cell? ⟨b, 0, none⟩ = some (.pointer (some ⟨d, 0, none⟩))) :
    Calls Try.prog 51 #[.pointer (some ⟨b, 0, none⟩)] w fun e w' => e = .returned (.int .i64 (szD D : Nat)) ∧ w = w' := by
  have cL := Lib.hid (len_calls h)
  have hlen := h.len
  have HZ := Lib.hid (show (((D.sure.length : Int) - 2) / 2) = (szD D : Nat) by unfold szD; omega)
  generalize szD D = z at *
  generalize D.sure.length = n at *
  clear h
  go_enter Try.func51, Try.ntmps51
  go_wp2_with fail
  refine cL.out.mono ?_
  rintro e W ⟨rfl, rfl⟩
  go_wp2
  go_ret
  exact ⟨by rw [← HZ.out]; rfl, rfl⟩
theorem at_calls (h : DvAt w base d sb mb D) (h4 : 4 ≤ D.sure.length) (hc : w.cell? ⟨b, 0, none⟩ = some (.pointer (some ⟨d, 0, none⟩))) (half i : Nat) (hh : half ≤ 1) (hi : i ≤ 1000000) :
    Calls Try.prog 87 #[.pointer (some ⟨b, 0, none⟩), .int .i64 half, .int .i64 i] w fun e w' => e = .returned (.int .i64 (Wa.base half (szD D) + i)) ∧ w = w' := by
  have cS := Lib.hid (size_calls h h4 hc)
  have hlen := h.len
  have hz : szD D ≤ 8191 := by unfold szD; omega
  have HB := Lib.hid (show (2 : Int) + half * szD D = Wa.base half (szD D) from rfl)
  generalize szD D = z at *
  generalize Wa.base half z = B at *
  clear h
  go_enter Try.func87, Try.ntmps87
  go_wp2_with fail
  refine cS.out.mono ?_
  rintro e W ⟨rfl, rfl⟩
  obtain rfl | rfl : half = 0 ∨ half = 1 := by omega
  · have hB2 : B = 2 := by have := HB.out; omega
    subst hB2
    go_wp2
    go_ret
    exact ⟨rfl, rfl⟩
  · have hB2 : B = 2 + (z : Int) := by have := HB.out; omega
    subst hB2
    go_wp2
    go_ret
    exact ⟨rfl, rfl⟩
end
end Wa
end Go.Proofs.Yteiniahikhiadaa

namespace Go.Proofs.Yteiniahikhiadaa
open Go.RowKit
namespace Se
open Ce
theorem string_at {P : Program} {w : World} {src dst e : TypeId} (hs : P.underlying src = some (.slice e)) (he : P.underlying e = some (.int .u8)) (hd : P.underlying dst = some .string) {lo B n c : Nat} {A : Option Addr} {l : List UInt8}
    (h : BytesAt w lo B (.slice A n c) l) : (convert src dst (.slice A n c)).run P w = .ok (.string ⟨l.toArray⟩) w := by
  obtain ⟨A', c', e', h1, h2, h3⟩ := h.at_
  have hl : n = l.length := by cases e'; rfl
  cases e'
  match l, hl with
  | [], _ =>
    rw [run_convert_bytes_string w src dst e A _ c hs he hd]
    cases A <;> simp [Conv.bytesToString] <;> rfl
  | x :: r, _ =>
    obtain ⟨b, o, rfl, _, _, hc⟩ := h3 (by simp)
    refine run_convert_bytes_back w src dst e ⟨b, o, none⟩ c (x :: r) hs he hd fun j hj => ?_
    have e1 : (⟨b, o, none⟩ : Addr).add j = ⟨b, o + j, none⟩ := by unfold Addr.add; split <;> simp_all
    rw [e1, hc j (by omega)]
    unfold bytesV
    rw [List.getElem?_map, List.getElem?_eq_getElem hj]
    rfl
theorem string_of (w : World) {lo B n c : Nat} {A : Option Addr} {l : List UInt8} (h : BytesAt w lo B (.slice A n c) l) : (convert 34 9 (.slice A n c)).run Try.prog w = .ok (.string ⟨l.toArray⟩) w :=
  string_at Try.underlying34 Try.underlying5 Try.underlying9 h
theorem madeBytes (n : Nat) : (madeCells (Value.int .u8 0).cells (n * 1)).toList = bytesV (List.replicate n 0) := by
  have hz : (Value.int .u8 0).cells = #[.int .u8 0] := rfl
  unfold madeCells bytesV
  rw [hz]
  apply List.ext_getElem
  · simp
  · intro i h1 h2
    simp [Nat.mod_one]
theorem byteInfo : (Try.prog.info? 5).map (fun i => (i.zero, i.size, i.bytes)) = some (some (.int .u8 0), 1, 1) := by kernel_rfl
/-- make([]byte, n) -/
theorem make_bytes (n : Nat) (w : World) (hn : n ≤ 281474976710656) : ∃ w', (Instr.makeSlice 34 (.int .i64 (n : Int)) (.int .i64 (n : Int))).run Try.prog w = .ok (.slice (some ⟨w.heap.size, 0, none⟩) n n) w' ∧
    w'.ownsRow w.heap.size 5 1 (.slice (some ⟨w.heap.size, 0, none⟩) n n) n (bytesV (List.replicate n 0)) ∧ w.grownBy w' none := by
  obtain ⟨i0, hi0, hz0⟩ := Option.map_eq_some_iff.1 byteInfo
  simp only [Prod.mk.injEq] at hz0
  obtain ⟨hz0, hz1, hz2⟩ := hz0
  obtain ⟨w1, h1, h2, h3⟩ := run_make_full (P := Try.prog) w w.heap.size 34 5 i0 _ 1 Try.underlying34 hi0 hz0 hz1 .i64 .i64 n (by rw [hz2]; omega) (by unfold maxLen; omega) (Nat.le_refl _)
  rw [madeBytes] at h2
  exact ⟨w1, h1, h2, h3⟩
end Se
end Go.Proofs.Yteiniahikhiadaa

namespace Go.Proofs.Yteiniahikhiadaa
open Go.RowKit Go.Maps
namespace Wa
open Ce Se
theorem be8_get (g : Int) {k : Nat} (hk : k < 8) : (be8 g)[k]? = some (UInt8.ofNat ((g % 18446744073709551616).toNat / 256 ^ (7 - k) % 256)) := by
  unfold be8
  rw [List.getElem?_map, List.getElem?_range hk]
  rfl
/-- so many bytes of a head's number are put -/
def hdK (g : Int) (k : Nat) : List UInt8 := (be8 g).take k ++ List.replicate (32 - k) 0
theorem hdK_len (g : Int) {k : Nat} (hk : k ≤ 8) : (hdK g k).length = 32 := by simp [hdK, be8_len]; omega
theorem hdK_set (g : Int) {k : Nat} (hk : k < 8) : (hdK g k).set k (UInt8.ofNat ((g % 18446744073709551616).toNat / 256 ^ (7 - k) % 256)) = hdK g (k + 1) := by
  have hl : ((be8 g).take k).length = k := by rw [List.length_take, be8_len]; omega
  have h2 := be8_get g hk
  obtain ⟨h3, h4⟩ := List.getElem?_eq_some_iff.1 h2
  unfold hdK
  rw [List.set_append_right _ _ (by omega), hl, Nat.sub_self, show 32 - k = (32 - (k + 1)) + 1 by omega, List.replicate_succ, List.set_cons_zero, ← h4, List.take_succ_eq_append_getElem h3, List.append_assoc]
  rfl
theorem hdK_half (g : Int) (half : Nat) : (hdK g 8).set 8 (UInt8.ofNat half) = h32 g half := by
  have hl : ((be8 g).take 8).length = 8 := by rw [List.length_take, be8_len]; omega
  unfold hdK h32
  rw [List.set_append_right _ _ (by omega), hl, Nat.sub_self, List.take_of_length_le (by rw [be8_len]; omega)]
  rfl
theorem row_wide {w : World} {lo lo' : Nat} {e : TypeId} {size n : Nat} {v : Value} {xs : List Value} (h : w.ownsRow lo e size v n xs) (hl : lo' ≤ lo) : w.ownsRow lo' e size v n xs := by
  refine ⟨h.1, ?_⟩
  rcases h.2 with h2 | ⟨g, cap, cur, h1, h3, h4⟩
  · exact .inl h2
  · exact .inr ⟨g, cap, cur, h1, Nat.le_trans hl h3, h4⟩
/-- slices.Concat of two -/
theorem cat2_calls (w : World) (bk : Nat) (u v : Value) (x y : List UInt8) (hbk : bk < w.heap.size) (h0 : w.cell? ⟨bk, 0, none⟩ = some u) (h1 : w.cell? ⟨bk, 1, none⟩ = some v) (hu : BytesAt w 0 w.heap.size u x) (hv : BytesAt w 0 w.heap.size v y) (hl : x.length + y.length ≤ 1000000) :
    Calls Try.prog 86 #[.slice (some ⟨bk, 0, none⟩) 2 2] w fun e w' => (∃ r, e = .returned r ∧ w'.ownsRow w.heap.size 5 1 r (x ++ y).length (bytesV (x ++ y))) ∧ Below w.heap.size w w' := by
  obtain ⟨A1, c1, rfl, -⟩ := hu.form
  obtain ⟨A2, c2, rfl, -⟩ := hv.form
  refine (CatB.concat_calls [(A1, x.length, c1, bytesV x), (A2, y.length, c2, bytesV y)] bk 2 w (by simp) (by unfold maxLen; omega) hbk (fun j hj => by
    match j, hj with
    | 0, _ => exact h0
    | 1, _ => exact h1)
    ⟨fun p hp => by
      simp only [List.mem_cons, List.not_mem_nil, or_false] at hp
      rcases hp with rfl | rfl
      · exact hu
      · exact hv, fun p hp => by
      simp only [List.mem_cons, List.not_mem_nil, or_false] at hp
      rcases hp with rfl | rfl
      · exact bytesV_one _
      · exact bytesV_one _⟩ (by simp [CatB.lens]; omega)).mono ?_
  rintro e w' ⟨⟨r, rfl, hr⟩, hb⟩
  refine ⟨⟨r, rfl, ?_⟩, hb⟩
  simpa [CatB.lens, CatB.all, bytesV_append] using hr
theorem bytesV_set (l : List UInt8) (j : Nat) (u : UInt8) : bytesV (l.set j u) = (bytesV l).set j (.int .u8 (u.toNat : Int)) := by simp [bytesV, List.map_set]
set_option maxRecDepth 100000 in
set_option maxHeartbeats 4000000 in
theorem head_calls (g : Int) (half : Nat) (hh : half ≤ 1) (w : World) (h0 : -9223372036854775808 ≤ g) (h1 : g < 9223372036854775808) :
    Calls Try.prog 84 #[.int .i64 g, .int .i64 half] w fun e w' => (∃ v, e = .returned v ∧ w'.ownsRow w.heap.size 5 1 v 64 (bytesV (headB g half))) ∧ Below w.heap.size w w' := by
  obtain ⟨w1, hmk, hv1, hg1⟩ := make_bytes 32 w (by omega)
  rw [show ((32 : Nat) : Int) = 32 from rfl] at hmk
  have hb1 := (Below.refl w.heap.size w).grown hg1 (Nat.le_refl _) (fun k e => by cases e)
  rw [show List.replicate 32 (0 : UInt8) = hdK g 0 by unfold hdK; simp] at hv1
  have hs1 := hg1.size
  have HU := Lib.hid (show (g % 18446744073709551616).toNat < 18446744073709551616 by omega)
  have HUG := Lib.hid (show g % 18446744073709551616 = ((g % 18446744073709551616).toNat : Int) by omega)
  have HST := Lib.hid (fun k (hk : k < 8) => hdK_set g hk)
  have HSH := Lib.hid (hdK_half g half)
  generalize (g % 18446744073709551616).toNat = U at *
  go_enter Try.func84, Try.ntmps84
  go_wp2
  go_loopw [6, 8] (fun _ i wr => ∃ k : Nat, k ≤ 8 ∧ i = .int .i64 k ∧ wr.ownsRow w.heap.size 5 1 (.slice (some ⟨w.heap.size, 0, none⟩) 32 32) 32 (bytesV (hdK g k)) ∧ Below w.heap.size w wr) (fun _ i _ => 8 - (intOf i).toNat)
  case atStart => exact ⟨0, by omega, rfl, hv1, hb1⟩
  case round =>
    obtain ⟨k, hk, rfl, hown, hB⟩ := hrel
    by_cases hlt : k < 8
    · have hcl := hown.cellAt k (by omega)
      rw [List.getElem?_eq_getElem (by rw [bytesV_length, hdK_len g (by omega)]; omega)] at hcl
      have hfz := hown.frozenAt k
      go_wp2
      have hbt : Value.int .u8 (IntKind.u64.wrap g / 2 ^ (8 * (7 - k)) % 256) = .int .u8 ((UInt8.ofNat (U / 256 ^ (7 - k) % 256)).toNat : Int) := by
        have e1 : IntKind.u64.wrap g = (U : Int) := by rw [← HUG.out]; rfl
        rw [e1, byte_shift (by omega), Int.toNat_natCast]
        congr 2
        simp
      rw [hbt]
      obtain ⟨hown2, hg2⟩ := hown.stored k (.int .u8 ((UInt8.ofNat (U / 256 ^ (7 - k) % 256)).toNat : Int))
      go_roundw
      case rel =>
        refine ⟨k + 1, by omega, by go_num, ?_, hB.grown hg2 hB.size (fun k e => by cases e; exact Nat.le_refl _)⟩
        rw [← HST.out k hlt, bytesV_set]
        exact hown2
      case measure => simp [intOf]; omega
    · obtain rfl : k = 8 := by omega
      have hcl := hown.cellAt 8 (by omega)
      rw [List.getElem?_eq_getElem (by rw [bytesV_length, hdK_len g (by omega)]; omega)] at hcl
      have hfz := hown.frozenAt 8
      obtain ⟨hown2, hg2⟩ := hown.stored 8 (.int .u8 ((UInt8.ofNat half).toNat : Int))
      have hB2 := hB.grown hg2 hB.size (fun k e => by cases e; exact Nat.le_refl _)
      rw [← bytesV_set, HSH.out] at hown2
      have hhb : (UInt8.ofNat half).toNat = half := by simp; omega
      rw [hhb] at hown2 hB2
      have hal := hB2.alloc hB2.size (.cells #[.slice (some ⟨w.heap.size, 0, none⟩) 32 32, .slice (some ⟨w.heap.size, 0, none⟩) 32 32] 34)
      have hsl : BytesAt ((wr.setCell ⟨w.heap.size, 8, none⟩ (.int .u8 (half : Int))).alloc (.cells #[.slice (some ⟨w.heap.size, 0, none⟩) 32 32, .slice (some ⟨w.heap.size, 0, none⟩) 32 32] 34)) 0 ((wr.setCell ⟨w.heap.size, 8, none⟩ (.int .u8 (half : Int))).alloc (.cells #[.slice (some ⟨w.heap.size, 0, none⟩) 32 32, .slice (some ⟨w.heap.size, 0, none⟩) 32 32] 34)).heap.size (.slice (some ⟨w.heap.size, 0, none⟩) 32 32) (h32 g half) := by
        unfold BytesAt
        rw [h32_len]
        exact ((Sl.of_own hown2).below ((Below.refl _ _).alloc (Nat.le_refl _) _)).wide (Nat.zero_le _) (by simp)
      have hob := Ob.new (wr.setCell ⟨w.heap.size, 8, none⟩ (.int .u8 (half : Int))) 34 #[.slice (some ⟨w.heap.size, 0, none⟩) 32 32, .slice (some ⟨w.heap.size, 0, none⟩) 32 32]
      have cC := cat2_calls ((wr.setCell ⟨w.heap.size, 8, none⟩ (.int .u8 (half : Int))).alloc (.cells #[.slice (some ⟨w.heap.size, 0, none⟩) 32 32, .slice (some ⟨w.heap.size, 0, none⟩) 32 32] 34)) (wr.setCell ⟨w.heap.size, 8, none⟩ (.int .u8 (half : Int))).heap.size _ _ (h32 g half) (h32 g half) hob.lt (hob.cell (j := 0) rfl) (hob.cell (j := 1) rfl) hsl hsl (by simp [h32_len])
      rw [show h32 g half ++ h32 g half = headB g half from rfl, headB_len] at cC
      have hss : (wr.setCell ⟨w.heap.size, 8, none⟩ (.int .u8 (half : Int))).heap.size = wr.heap.size := by simp
      rw [hss] at cC
      have CC := Lib.hid cC
      have HAL := Lib.hid hal
      clear cC hsl hown2 hg2 hB2 hhb hown hal hob hss
      go_wp2_with fail
      refine CC.out.mono ?_
      rintro e W ⟨⟨r, rfl, hr⟩, hb⟩
      have hlt2 := HAL.out.size
      go_wp2
      go_ret
      exact ⟨⟨r, rfl, row_wide hr (by omega)⟩, HAL.out.trans (hb.mono hlt2)⟩
theorem be_short {l : List UInt8} (h : l.length ≤ 7) : be l < 72057594037927936 := by
  have h1 := beF_lt l
  have h2 : 256 ^ l.length ≤ 256 ^ 7 := Nat.pow_le_pow_right (by omega) h
  omega
theorem be_eight {l : List UInt8} (h : l.length ≤ 8) : be l < 18446744073709551616 := by
  have h1 := beF_lt l
  have h2 : 256 ^ l.length ≤ 256 ^ 8 := Nat.pow_le_pow_right (by omega) h
  omega
theorem or_byte {u : Nat} (c : UInt8) (hu : u < 72057594037927936) : bits .or .u64 ((u : Int) * 256) (c.toNat : Int) = ((u * 256 + c.toNat : Nat) : Int) := by
  have hc := c.toNat_lt
  have e : (u : Int) * 256 = ((u * 256 : Nat) : Int) := by omega
  rw [e, bits_or_u64_nat _ _ (by omega) (by omega)]
  congr 1
  have := Nat.two_pow_add_eq_or_of_lt (i := 8) (b := c.toNat) (by omega) u
  rw [show (2 : Nat) ^ 8 = 256 by rfl] at this
  rw [Nat.mul_comm u 256]
  exact this.symm
set_option maxRecDepth 100000 in
set_option maxHeartbeats 4000000 in
theorem isHead_calls (l : Blk) (hl : l.length = 64) (i : Nat) (hi : i ≤ 1) (v : Value) (w : World) (hI : BytesAt w 0 w.heap.size v l) :
    Calls Try.prog 76 #[v, .int .i64 i] w fun e w' => e = .returned (.tuple #[.int .i64 (isHd l i).1, .int .i64 (isHd l i).2]) ∧ Below w.heap.size w w' := by
  obtain ⟨A, c, rfl, hc1, hc2⟩ := hI.form
  rw [hl] at hI hc1 ⊢
  have HG := Lib.hid (fun k (hk : k < 64) => hI.cellAt (j := k) (by omega))
  obtain ⟨p, o, hA, -⟩ := HG.out 0 (by omega)
  subst hA
  have HC := Lib.hid (fun k (hk : k < 64) => show w.cell? ⟨p, o + k, none⟩ = some (.int .u8 ((l.getD k 0).toNat : Int)) by
    obtain ⟨p', o', e, h1, h2, h3⟩ := HG.out k hk
    cases e
    rw [h3, List.getD_eq_getElem?_getD, List.getElem?_eq_getElem (by omega)]
    rfl)
  unfold maxLen at hc2
  go_enter Try.func76, Try.ntmps76
  go_wp2
  go_loop [6, 8, 14] (fun u _ i => ∃ k : Nat, k ≤ 8 ∧ i = .int .i64 k ∧ u = .int .u64 (be (l.take k))) (fun _ _ i => 8 - (intOf i).toNat)
  case atStart => exact ⟨0, by omega, rfl, rfl⟩
  case round =>
    obtain ⟨k, hk, rfl, rfl⟩ := hrel
    by_cases hlt : k < 8
    · have hcell := HC.out k (by omega)
      have hub := be_short (l := l.take k) (by rw [List.length_take]; omega)
      have HS := Lib.hid (show be (l.take (k + 1)) = be (l.take k) * 256 + (l.getD k 0).toNat by rw [List.take_succ_eq_append_getElem (by omega), be_snoc, List.getD_eq_getElem?_getD, List.getElem?_eq_getElem (by omega)]; rfl)
      have hq : (l.getD k 0).toNat < 256 := (l.getD k 0).toNat_lt
      have hor := or_byte (l.getD k 0) hub
      generalize be (l.take k) = u at *
      generalize (l.getD k 0).toNat = q at *
      go_wp2
      go_round
      case rel => exact ⟨k + 1, by omega, by go_num, by rw [HS.out]; go_num⟩
      case measure => simp [intOf]; omega
    · obtain rfl : k = 8 := by omega
      have hub := be_eight (l := l.take 8) (by rw [List.length_take]; omega)
      have hcell := HC.out 8 (by omega)
      have HD := Lib.hid (show isHd l i = if toI (be (l.take 8)) < 1 ∨ toI (be (l.take 8)) % 2 ≠ i ∨ (l.getD 8 0).toNat > 1 ∨ headB (toI (be (l.take 8))) (l.getD 8 0).toNat ≠ l then (0, 0) else (toI (be (l.take 8)), (l.getD 8 0).toNat) from rfl)
      have HW := Lib.hid (show wrap64 (be (l.take 8) : Int) = toI (be (l.take 8)) by unfold wrap64 toI; split <;> omega)
      have htb := toI_bd hub
      have HI := Lib.hid hI
      have hq : (l.getD 8 0).toNat < 256 := (l.getD 8 0).toNat_lt
      generalize (l.getD 8 0).toNat = H at *
      generalize be (l.take 8) = u at *
      generalize toI u = G at *
      clear hI HG HC
      go_wp2_with fail
      go_region
      rw [HW.out]
      clear HW hcell hub hq hc1 hc2
      have hdr : Below w.heap.size w w.drew.drew := ((Below.refl _ w).drew).drew
      by_cases h1 : G < 1
      · have HR := Lib.hid (HD.out.trans (if_pos (.inl h1)))
        have hd : decide (G < 1) = true := by simpa using h1
        clear h1 HD HI hdr
        go_wp2_with fail
        go_region
        go_wp2
        go_ret2
        rw [HR.out]
        exact ⟨rfl, ((Below.refl _ w).drew).drew⟩
      · have hd : decide (G < 1) = false := by simpa using h1
        have hg1 : 1 ≤ G := by omega
        by_cases h2 : G % 2 ≠ i
        · have HR := Lib.hid (HD.out.trans (if_pos (.inr (.inl h2))))
          have hd2 : (G % 2 != (i : Int)) = true := by simpa using h2
          clear h1 h2 HD HI hdr
          go_wp2_with fail
          go_region
          go_wp2
          go_ret2
          rw [HR.out]
          exact ⟨rfl, ((Below.refl _ w).drew).drew⟩
        · have hd2 : (G % 2 != (i : Int)) = false := by simpa using h2
          by_cases h3 : H > 1
          · have HR := Lib.hid (HD.out.trans (if_pos (.inr (.inr (.inl h3)))))
            have hd3 : decide ((H : Int) > 1) = true := by simp; omega
            clear h1 h2 h3 HD HI hdr
            go_wp2_with fail
            go_region
            go_wp2
            go_ret2
            rw [HR.out]
            exact ⟨rfl, ((Below.refl _ w).drew).drew⟩
          · have hd3 : decide ((H : Int) > 1) = false := by simp; omega
            obtain ⟨s2, hs2⟩ : ∃ s2 : ByteArray, s2 = ⟨l.toArray⟩ := ⟨_, rfl⟩
            have hI2 := fun (W : World) (hW : Below w.heap.size w W) => string_of W (BytesAt.mono HI.out hW hW.size)
            rw [← hs2] at hI2
            have HI2 := Lib.hid hI2
            have hc0 := hI2 _ (Below.refl _ w).drew.drew
            have hdr := (Below.refl w.heap.size w).drew.drew
            have CH := Lib.hid (fun W => head_calls G H (by omega) W htb.1 htb.2)
            have hq : (headB G H = l ∧ isHd l i = (G, H)) ∨ (¬ headB G H = l ∧ isHd l i = (0, 0)) := by
              by_cases h4 : headB G H = l
              · exact .inl ⟨h4, HD.out.trans (if_neg (fun h => h.elim h1 fun h => h.elim h2 fun h => h.elim h3 fun h => h h4))⟩
              · exact .inr ⟨h4, HD.out.trans (if_pos (.inr (.inr (.inr h4))))⟩
            have HQ := Lib.hid hq
            have HS2 := Lib.hid hs2
            clear h1 h2 h3 HD HI hI2 hq hs2 hc0
            go_wp2_with fail
            refine Pu.regionM [(0, false), (1, false), (2, false), (3, false), (4, false), (5, false), (6, false), (7, false), (8, false), (9, false), (10, false), (11, false), (12, false), (13, false), (14, false), (17, false), (18, false), (15, true), (16, false), (19, false), (20, false)] (fun V => Below w.heap.size w V) hmx (by kernel_rfl) (by kernel_rfl) (by kernel_rfl) hdr rfl ?_
            simp only [Pu.named, List.filterMap_cons, List.filterMap_nil, List.getElem?_toArray, List.getElem?_cons_succ, List.getElem?_cons_zero, Option.map_some]
            iterate 17 (apply Pu.WalkM.on (by rfl)
                        · rintro V hV
                          have hc0 := HI2.out V hV
                          go_wp2_with fail
                          refine ⟨rfl, ?_, rfl⟩
                          try simp only [Act.put, List.setIfInBounds_toArray, List.set_cons_succ, List.set_cons_zero]
                          rfl
                        simp only [Act.put, List.setIfInBounds_toArray, List.set_cons_succ, List.set_cons_zero])
            refine Pu.WalkM.make (by rfl) ?_
            rintro V rfl
            go_wp2_with (go_at_call 84; refine (CH.out _).mono ?_; rintro e W1 ⟨⟨v1, rfl, hv1⟩, hb1⟩)
            have hv2 : BytesAt W1 w.drew.drew.heap.size W1.heap.size v1 (headB G H) := by
              unfold BytesAt
              rw [headB_len]
              exact Sl.of_own hv1
            obtain ⟨A1, c1, rfl, -⟩ := hv2.form
            have hx := string_of W1 hv2
            generalize (headB G H).length = n1 at *
            refine ⟨rfl, .slice A1 n1 c1, (fun V => V = W1), (fun V => V = W1), ?_, rfl, (fun _ h => h), (.inr (fun V h => by rw [h]; exact hdr.trans (hb1.mono hdr.size))), ?_⟩
            · try simp only [Act.put, List.setIfInBounds_toArray, List.set_cons_succ, List.set_cons_zero]
            simp only [Act.put, List.setIfInBounds_toArray, List.set_cons_succ, List.set_cons_zero]
            have hB1 := hdr.trans (hb1.mono hdr.size)
            rcases HQ.out with ⟨q1, q2⟩ | ⟨q1, q2⟩
            · rw [q1, ← HS2.out] at hx
              have HR := Lib.hid q2
              clear q1 q2 HQ HI2
              iterate 3 (apply Pu.WalkM.on (by rfl)
                         · rintro V hV
                           rw [hV]
                           go_wp2_with fail
                           refine ⟨rfl, ?_, rfl⟩
                           try simp only [Act.put, List.setIfInBounds_toArray, List.set_cons_succ, List.set_cons_zero]
                           rfl
                         simp only [Act.put, List.setIfInBounds_toArray, List.set_cons_succ, List.set_cons_zero])
              refine Pu.WalkM.nil ?_
              rintro V rfl
              go_wp2
              go_ret2
              rw [HR.out]
              exact ⟨rfl, hB1⟩
            · obtain ⟨s1, hs1⟩ : ∃ s1 : ByteArray, s1 = ⟨(headB G H).toArray⟩ := ⟨_, rfl⟩
              rw [← hs1] at hx
              have hne : ¬ s1.toList = s2.toList := by
                rw [ByteArray.toList_eq, ByteArray.toList_eq, hs1, HS2.out]
                exact q1
              have hnb : (s1.toList == s2.toList) = false := by simpa using hne
              have HR := Lib.hid q2
              clear q1 q2 HQ HI2 hs1 hne
              iterate 3 (apply Pu.WalkM.on (by rfl)
                         · rintro V hV
                           rw [hV]
                           go_wp2_with fail
                           refine ⟨rfl, ?_, rfl⟩
                           try simp only [Act.put, List.setIfInBounds_toArray, List.set_cons_succ, List.set_cons_zero]
                           rfl
                         simp only [Act.put, List.setIfInBounds_toArray, List.set_cons_succ, List.set_cons_zero])
              refine Pu.WalkM.nil ?_
              rintro V rfl
              go_wp2
              go_ret2
              rw [HR.out]
              exact ⟨rfl, hB1⟩
end Wa
end Go.Proofs.Yteiniahikhiadaa

namespace Go.Proofs.Yteiniahikhiadaa
open Go.RowKit Go.Maps
namespace Wa
open Ce Se
theorem BlkAt.bytes {w w' : World} {v : Value} {b : Blk} (h : BlkAt w w' v b) (hb : b.length = 64) : BytesAt w' w.heap.size w'.heap.size v b := by
  obtain ⟨g, rfl, h1, h2, h3, h4⟩ := h
  unfold BytesAt
  rw [hb]
  refine ⟨by rw [bytesV_length, hb], _, _, rfl, Nat.le_refl _, by unfold maxLen; omega, fun _ => ⟨g, 0, rfl, h1, h2, fun j hj => ?_⟩⟩
  have hj2 : j < (bytesV b).length := by rw [bytesV_length]; omega
  rw [List.getElem?_eq_getElem hj2]
  exact h3 j _ (List.getElem?_eq_getElem hj2)
theorem upto {w : World} {lo B n k c : Nat} {A : Option Addr} {l : List UInt8} (h : BytesAt w lo B (.slice A n c) l) (hk : k ≤ l.length) : BytesAt w lo B (.slice A k c) (l.take k) := by
  have hn : n = l.length := by
    obtain ⟨A', c', e, _⟩ := h.at_
    cases e; rfl
  subst hn
  have := Sl.upTo (k := k) h hk
  unfold BytesAt
  rw [List.length_take, Nat.min_eq_left hk]
  have e : bytesV (l.take k) = (bytesV l).take (k * 1) := by simp [bytesV]
  rw [e]
  exact this
/-- a half's blocks -/
def halfB (D : Dv) (half : Nat) : List Blk := (List.range (szD D)).map fun i => lastD D (2 + half * szD D + i)
theorem halfB_len (D : Dv) (half : Nat) : (halfB D half).length = szD D := by simp [halfB]
theorem halfB_get (D : Dv) (half : Nat) {k : Nat} (hk : k < szD D) : (halfB D half)[k]? = some (lastD D (2 + half * szD D + k)) := by simp [halfB, hk]
theorem strm_go {bs : List Blk} {O S : List UInt8} {k : Nat} (h : O ++ strmOf (bs.drop k) = S) {b : Blk} (hb : bs[k]? = some b) {n : Nat} (hn : (b.getD 63 0).toNat = n) :
    (63 < n → O = S) ∧ (n < 63 → O ++ b.take n = S) ∧ (n = 63 → (O ++ b.take n) ++ strmOf (bs.drop (k + 1)) = S) := by
  obtain ⟨hk, hb⟩ := List.getElem?_eq_some_iff.1 hb
  rw [List.drop_eq_getElem_cons hk, hb] at h
  simp only [strmOf, hn] at h
  refine ⟨fun h1 => ?_, fun h1 => ?_, fun h1 => ?_⟩
  · rw [if_neg (by omega), List.append_nil] at h
    exact h
  · rw [if_pos (by omega), if_neg (by omega), List.append_nil] at h
    exact h
  · rw [if_pos (by omega), if_pos h1, ← List.append_assoc] at h
    exact h
section
variable {w w' : World} {base b d sb mb : Nat} {D D' : Dv}
set_option maxRecDepth 100000 in
set_option maxHeartbeats 4000000 in
theorem stream_calls (h : DvAt w base d sb mb D) (h4 : 4 ≤ D.sure.length) (ho : offD D = false) (hbl : b < w.heap.size) (hc : w.cell? ⟨b, 0, none⟩ = some (.pointer (some ⟨d, 0, none⟩))) (half : Nat) (hh : half ≤ 1) :
    Calls Try.prog 77 #[.pointer (some ⟨b, 0, none⟩), .int .i64 half] w fun e w' => (∃ v, e = .returned (.tuple #[v, .int .i64 0]) ∧ w'.ownsRow w.heap.size 5 1 v (strmOf (halfB D half)).length (bytesV (strmOf (halfB D half)))) ∧ Below w.heap.size w w' := by
  have hlen := h.len
  have hz : szD D ≤ 8191 := by unfold szD; omega
  have hz1 : 1 ≤ szD D := by unfold szD; omega
  have hbz : 2 + half * szD D + szD D ≤ D.sure.length := by
    have := Nat.mul_le_mul_right (szD D) hh
    unfold szD at this ⊢
    omega
  have CS := Lib.hid (fun (W : World) (hW : Below w.heap.size w W) => size_calls (h.same hW) h4 ((hW.cell (p := ⟨b, 0, none⟩) hbl).trans hc))
  have CA := Lib.hid (fun (W : World) (hW : Below w.heap.size w W) (i : Nat) (hi : i ≤ 1000000) => at_calls (h.same hW) h4 ((hW.cell (p := ⟨b, 0, none⟩) hbl).trans hc) half i hh hi)
  have CR := Lib.hid (fun (W : World) (hW : Below w.heap.size w W) (i : Nat) (hi : i < D.sure.length) => read_good (h.same hW) ho i hi)
  have HC := Lib.hid (fun (W : World) (hW : Below w.heap.size w W) => (hW.cell (p := ⟨b, 0, none⟩) hbl).trans hc)
  have HL := Lib.hid (halfB_len D half)
  have HG := Lib.hid (fun (k : Nat) (hk : k < szD D) => halfB_get D half hk)
  have HLB := Lib.hid (fun (i : Nat) (hi : i < D.sure.length) => lastD_len h.ok hi)
  have HBE := Lib.hid (fun (k : Nat) => show Wa.base half (szD D) + k = ((2 + half * szD D + k : Nat) : Int) by unfold Wa.base; simp)
  generalize hbs : halfB D half = bs at *
  generalize hzz : szD D = z at *
  obtain ⟨i0, hi0, hz0⟩ := Option.map_eq_some_iff.1 byte_info
  simp only [Prod.mk.injEq] at hz0
  obtain ⟨hz0, hz1', hz2⟩ := hz0
  generalize hS : strmOf bs = S at *
  have HS := Lib.hid hS
  clear h hc hbs ho hzz hS
  go_enter Try.func77, Try.ntmps77
  go_wp2_with fail
  refine (CS.out _ (Below.refl _ _)).mono ?_
  rintro e W ⟨rfl, rfl⟩
  go_wp2_with fail
  go_loopw [6, 7, 8, 9, 10, 13] (fun o _ _ _ _ i wr => ∃ (k : Nat) (O : List UInt8), k ≤ z ∧ i = .int .i64 k ∧ wr.ownsRow w.heap.size 5 1 o O.length (bytesV O) ∧ O ++ strmOf (bs.drop k) = S ∧ O.length ≤ 63 * k ∧ Below w.heap.size w wr) (fun _ _ _ _ _ i _ => z - (intOf i).toNat)
  case atStart => exact ⟨0, [], by omega, rfl, World.ownsRow_nil _ _ _ _, by rw [← HS.out]; rfl, by simp, Below.refl _ _⟩
  case round =>
    obtain ⟨k, O, hk, rfl, hown, hO, hOl, hB⟩ := hrel
    by_cases hlt : k < z
    · have hcr := HC.out _ hB.drew
      have hdr := hB.drew
      have HGk := HG.out k hlt
      have hik : 2 + half * z + k < D.sure.length := by omega
      obtain ⟨m, hm⟩ : ∃ m : Nat, 2 + half * z + k = m := ⟨_, rfl⟩
      have cA := fun (W : World) (hW : Below w.heap.size w W) => CA.out W hW k (by omega)
      rw [HBE.out k, hm] at cA
      have CAk := Lib.hid cA
      rw [hm] at HGk hik
      have hl64 := HLB.out _ hik
      have HOO := Lib.hid (fun (n : Nat) hn => strm_go (n := n) hO HGk hn)
      have CR2 := Lib.hid (fun W hW => CR.out W hW _ hik)
      generalize lastD D m = blk at *
      have CR3 := CR2
      clear HGk hO CR2 hcr cA hm
      go_wp2_with fail
      refine Pu.regionM [(0, false), (1, false), (2, false), (3, false), (4, false), (5, false), (6, false), (7, false), (8, true), (9, false), (10, false), (11, false), (12, false), (13, false)] (fun V => Below w.heap.size w V) hmx (by kernel_rfl) (by kernel_rfl) (by kernel_rfl) hdr rfl ?_
      simp only [Pu.named, List.filterMap_cons, List.filterMap_nil, List.getElem?_toArray, List.getElem?_cons_succ, List.getElem?_cons_zero, Option.map_some]
      iterate 7 (apply Pu.WalkM.on (by rfl)
                 · rintro V hV
                   have hcr := HC.out V hV
                   go_wp2_with fail
                   refine ⟨rfl, ?_, rfl⟩
                   try simp only [Act.put, List.setIfInBounds_toArray, List.set_cons_succ, List.set_cons_zero]
                   rfl
                 simp only [Act.put, List.setIfInBounds_toArray, List.set_cons_succ, List.set_cons_zero])
      iterate 1 (apply Pu.WalkM.on (by rfl)
                 · rintro V hV
                   go_wp2_with (go_at_call 87; refine (CAk.out _ hV).mono ?_; rintro e W1 ⟨rfl, rfl⟩)
                   refine ⟨rfl, ?_, rfl⟩
                   try simp only [Act.put, List.setIfInBounds_toArray, List.set_cons_succ, List.set_cons_zero]
                   rfl
                 simp only [Act.put, List.setIfInBounds_toArray, List.set_cons_succ, List.set_cons_zero])
      refine Pu.WalkM.make (by rfl) ?_
      rintro V rfl
      go_wp2_with (go_at_call 41; refine (CR3.out _ hdr).mono ?_; rintro e W1 ⟨⟨v1, rfl, hv1⟩, hb1⟩)
      have hB1 := hdr.trans (hb1.mono hdr.size)
      have hv2 := BlkAt.bytes hv1 hl64
      obtain ⟨A1, c1, rfl, hc1, hc2⟩ := hv2.form
      rw [hl64] at hv1 hv2 hc1
      have hown1 := ownsRow_below hown ((Below.refl _ wr).drew.trans hb1)
      refine ⟨rfl, .tuple #[.slice A1 (List.length blk) c1, .int .i64 0], (fun V => V = W1), (fun V => V = W1), ?_, rfl, (fun _ h => h), (.inr (fun V h => by rw [h]; exact hB1)), ?_⟩
      · try simp only [Act.put, List.setIfInBounds_toArray, List.set_cons_succ, List.set_cons_zero]
      simp only [Act.put, List.setIfInBounds_toArray, List.set_cons_succ, List.set_cons_zero]
      iterate 5 (apply Pu.WalkM.on (by rfl)
                 · rintro V hV
                   rw [hV]
                   go_wp2_with fail
                   refine ⟨rfl, ?_, rfl⟩
                   try simp only [Act.put, List.setIfInBounds_toArray, List.set_cons_succ, List.set_cons_zero]
                   rfl
                 simp only [Act.put, List.setIfInBounds_toArray, List.set_cons_succ, List.set_cons_zero])
      refine Pu.WalkM.nil ?_
      rintro V rfl
      rw [hl64]
      obtain ⟨p1, o1, e1, hp1, hp2, hcl⟩ := hv2.cellAt (j := 63) (by omega)
      subst e1
      have hcl2 : V.cell? ⟨p1, o1 + 63, none⟩ = some (.int .u8 ((blk.getD 63 0).toNat : Int)) := by
        rw [hcl, List.getD_eq_getElem?_getD, List.getElem?_eq_getElem (by omega)]
        rfl
      have hnn : (blk.getD 63 0).toNat < 256 := (blk.getD 63 0).toNat_lt
      have HO2 := HOO
      have HO3 := Lib.hid (HO2.out _ rfl)
      have hupto := fun (n : Nat) (hn : n ≤ 64) => upto hv2 (k := n) (by omega)
      generalize (blk.getD 63 0).toNat = n at *
      obtain ⟨hO3, hO4, hO5⟩ := HO3.out
      rcases (show n < 63 ∨ n = 63 ∨ 63 < n by omega) with hn | rfl | hn
      · have hd1 : decide ((n : Int) ≤ 63) = true := by simp; omega
        have hd2 : ((n : Int) != 63) = true := by simp; omega
        have k1 : (0 : Int) ≤ (n : Int) := by omega
        have k2 : (n : Int) ≤ (c1 : Int) := by omega
        have HOS := Lib.hid (hO4 hn)
        have hut := hupto n (by omega)
        unfold BytesAt at hut
        have hln : (blk.take n).length = n := by rw [List.length_take]; omega
        rw [hln] at hut
        have HUT := Lib.hid hut
        have HS2 := hB1.size
        clear hO3 hO4 hO5 HO3 HO2 HOO hupto hut hv1 hv2 hcl
        go_wp2_with (at_builtin
                     refine wpList_append_sl _ rfl (.tmp 37) (.tmp 40) _ rfl w.heap.size 5 i0 _ 1 1 Try.underlying34 hi0 hz0 hz1' hz2 rfl (by omega) u6 O.length (bytesV O) rfl hown1 wr.drew.heap.size V.heap.size _ n (bytesV (blk.take n)) rfl HUT.out (bytesV_one _) (by unfold maxLen; omega) (by omega) HS2 ?_
                     intro v5 w5 hv5 hg5 hat5)
        have hB5 := hB1.grown hg5 HS2 (fun g hg => (hown1.lt g hg).1)
        have hv6 : w5.ownsRow w.heap.size 5 1 v5 (O ++ blk.take n).length (bytesV (O ++ blk.take n)) := by
          rw [List.length_append, hln, bytesV_append]
          exact hv5
        clear hv5 hg5 hat5
        rw [HOS.out] at hv6
        obtain ⟨A, c, rfl, -⟩ := (BytesAt.of_own hv6).form
        go_wp2
        go_ret2
        exact ⟨⟨_, rfl, hv6⟩, hB5⟩
      · have hd1 : decide (((63 : Nat) : Int) ≤ 63) = true := by decide
        have hd2 : (((63 : Nat) : Int) != 63) = false := by decide
        have k1 : (0 : Int) ≤ ((63 : Nat) : Int) := by omega
        have k2 : ((63 : Nat) : Int) ≤ (c1 : Int) := by omega
        have HOS := Lib.hid (hO5 rfl)
        have hut := hupto 63 (by omega)
        unfold BytesAt at hut
        have hln : (blk.take 63).length = 63 := by rw [List.length_take]; omega
        rw [hln] at hut
        have HUT := Lib.hid hut
        have HS2 := hB1.size
        clear hO3 hO4 hO5 HO3 HO2 HOO hupto hut hv1 hv2 hcl
        go_wp2_with (at_builtin
                     refine wpList_append_sl _ rfl (.tmp 37) (.tmp 40) _ rfl w.heap.size 5 i0 _ 1 1 Try.underlying34 hi0 hz0 hz1' hz2 rfl (by omega) u6 O.length (bytesV O) rfl hown1 wr.drew.heap.size V.heap.size _ 63 (bytesV (blk.take 63)) rfl HUT.out (bytesV_one _) (by unfold maxLen; omega) (by omega) HS2 ?_
                     intro v5 w5 hv5 hg5 hat5)
        have hB5 := hB1.grown hg5 HS2 (fun g hg => (hown1.lt g hg).1)
        have hv6 : w5.ownsRow w.heap.size 5 1 v5 (O ++ blk.take 63).length (bytesV (O ++ blk.take 63)) := by
          rw [List.length_append, hln, bytesV_append]
          exact hv5
        clear hv5 hg5 hat5
        go_roundw
        case rel => exact ⟨k + 1, O ++ blk.take 63, by omega, by go_num, hv6, HOS.out, by rw [List.length_append, hln]; omega, hB5⟩
        case measure => simp [intOf]; omega
      · have hd1 : decide ((n : Int) ≤ 63) = false := by simp; omega
        have hd2 : ((n : Int) != 63) = true := by simp; omega
        have hOS := hO3 hn
        rw [hOS] at hown1
        obtain ⟨A, c, rfl, -⟩ := (BytesAt.of_own hown1).form
        clear hO3 hO4 hO5 hn HO3 HO2 HOO hupto hcl hv1 hv2
        go_wp2
        go_ret2
        exact ⟨⟨_, rfl, hown1⟩, hB1⟩
    · obtain rfl : k = z := by omega
      have hd := HL.out
      rw [List.drop_of_length_le (by omega), show strmOf [] = [] from rfl, List.append_nil] at hO
      rw [hO] at hown hOl
      obtain ⟨A, c, rfl, -⟩ := (BytesAt.of_own hown).form
      go_wp2
      go_ret2
      exact ⟨⟨_, rfl, hown⟩, hB⟩
end
end Wa
end Go.Proofs.Yteiniahikhiadaa

namespace Go.Proofs.Yteiniahikhiadaa
open Go.RowKit Go.Maps
namespace Wa
open Ce Se
/-- bytes that lie where nobody writes -/
def EntAt (w : World) (Fr : Nat → Prop) (v : Value) (l : List UInt8) : Prop := ∃ lo hi, BytesAt w lo hi v l ∧ hi ≤ w.heap.size ∧ ∀ i, lo ≤ i → i < hi → Fr i
def Ents (w : World) (Fr : Nat → Prop) : List Value → List (List UInt8) → Prop
  | [], [] => True
  | v :: vs, l :: ls => EntAt w Fr v l ∧ Ents w Fr vs ls
  | _, _ => False
section
variable {w w' : World} {Fr Fr' : Nat → Prop} {v : Value} {l : List UInt8}
theorem EntAt.of {lo hi : Nat} (h : BytesAt w lo hi v l) (hh : hi ≤ w.heap.size) : EntAt w (fun i => lo ≤ i ∧ i < hi) v l := ⟨lo, hi, h, hh, fun _ h1 h2 => ⟨h1, h2⟩⟩
theorem EntAt.mono (h : EntAt w Fr v l) (hF : ∀ i, Fr i → Fr' i) : EntAt w Fr' v l := by
  obtain ⟨lo, hi, h1, h2, h3⟩ := h
  exact ⟨lo, hi, h1, h2, fun i a b => hF i (h3 i a b)⟩
theorem EntAt.kept (h : EntAt w Fr v l) (hk : Kept Fr w w') : EntAt w' Fr v l := by
  obtain ⟨lo, hi, h1, h2, h3⟩ := h
  exact ⟨lo, hi, hk.sl h1 h3, Nat.le_trans h2 hk.size, h3⟩
theorem EntAt.bytes (h : EntAt w Fr v l) : BytesAt w 0 w.heap.size v l := by
  obtain ⟨lo, hi, h1, h2, h3⟩ := h
  exact h1.wide (Nat.zero_le _) h2
theorem EntAt.lt (h : EntAt w Fr v l) : EntAt w (fun i => Fr i ∧ i < w.heap.size) v l := by
  obtain ⟨lo, hi, h1, h2, h3⟩ := h
  exact ⟨lo, hi, h1, h2, fun i a b => ⟨h3 i a b, by omega⟩⟩
theorem EntAt.same (h : EntAt w Fr v l) (hb : Below w.heap.size w w') : EntAt w' Fr v l := by
  obtain ⟨lo, hi, h1, h2, h3⟩ := h
  exact ⟨lo, hi, h1.below (hb.mono h2), Nat.le_trans h2 hb.size, h3⟩
/-- in a row of the call's own -/
theorem EntAt.own {lo : Nat} (h : w.ownsRow lo 5 1 v l.length (bytesV l)) : EntAt w (fun i => v.ownBlock = some i) v l := by
  rcases h.2 with ⟨rfl, h0⟩ | ⟨g, cap, cur, rfl, h1, h2, h3, h4, h5, h6⟩
  · obtain rfl := List.eq_nil_of_length_eq_zero h0
    exact ⟨0, 0, BytesAt.nil _ _ _, Nat.zero_le _, fun i _ hi => absurd hi (Nat.not_lt_zero i)⟩
  · refine ⟨g, g + 1, ?_, (Array.getElem?_eq_some_iff.1 h2).1, fun i a b => ?_⟩
    · refine ⟨h.1, _, _, rfl, h3, h4, fun _ => ⟨g, 0, rfl, Nat.le_refl _, Nat.lt_succ_self _, fun j hj => ?_⟩⟩
      rw [Nat.zero_add, h.cellAt j hj]
    · show some g = some i
      congr 1
      omega
theorem Ents.len : ∀ {vs : List Value} {ls : List (List UInt8)}, Ents w Fr vs ls → vs.length = ls.length
  | [], [], _ => rfl
  | _ :: _, _ :: _, h => by rw [List.length_cons, List.length_cons, h.2.len]
theorem Ents.mono (hF : ∀ i, Fr i → Fr' i) : ∀ {vs : List Value} {ls : List (List UInt8)}, Ents w Fr vs ls → Ents w Fr' vs ls
  | [], [], _ => trivial
  | _ :: _, _ :: _, h => ⟨h.1.mono hF, h.2.mono hF⟩
theorem Ents.kept (hk : Kept Fr w w') : ∀ {vs : List Value} {ls : List (List UInt8)}, Ents w Fr vs ls → Ents w' Fr vs ls
  | [], [], _ => trivial
  | _ :: _, _ :: _, h => ⟨h.1.kept hk, h.2.kept hk⟩
theorem Ents.same (hb : Below w.heap.size w w') : ∀ {vs : List Value} {ls : List (List UInt8)}, Ents w Fr vs ls → Ents w' Fr vs ls
  | [], [], _ => trivial
  | _ :: _, _ :: _, h => ⟨h.1.same hb, h.2.same hb⟩
theorem Ents.lt : ∀ {vs : List Value} {ls : List (List UInt8)}, Ents w Fr vs ls → Ents w (fun i => Fr i ∧ i < w.heap.size) vs ls
  | [], [], _ => trivial
  | _ :: _, _ :: _, h => ⟨h.1.lt, h.2.lt⟩
theorem Ents.snoc : ∀ {vs : List Value} {ls : List (List UInt8)}, Ents w Fr vs ls → EntAt w Fr v l → Ents w Fr (vs ++ [v]) (ls ++ [l])
  | [], [], _, h => ⟨h, trivial⟩
  | _ :: _, _ :: _, h, k => ⟨h.1, h.2.snoc k⟩
theorem Ents.get : ∀ {vs : List Value} {ls : List (List UInt8)}, Ents w Fr vs ls → ∀ (i : Nat) (h : i < ls.length), ∃ v, vs[i]? = some v ∧ EntAt w Fr v ls[i]
  | [], [], _, _, hi => (Nat.not_lt_zero _ hi).elim
  | v :: _, l :: _, h, 0, _ => ⟨v, rfl, h.1⟩
  | _ :: _, _ :: ls, h, i + 1, hi => by
    obtain ⟨v, h1, h2⟩ := h.2.get i (by simpa using hi)
    exact ⟨v, by simpa using h1, by simpa using h2⟩
theorem Ents.one : ∀ {vs : List Value} {ls : List (List UInt8)}, Ents w Fr vs ls → ∀ y ∈ vs, y.oneCell' = true
  | [], [], _, y, hy => by cases hy
  | v :: vs, _ :: _, h, y, hy => by
    rcases List.mem_cons.1 hy with rfl | hy
    · obtain ⟨lo, hi, h1, -⟩ := h.1
      obtain ⟨A, c, rfl, -⟩ := h1.form
      rfl
    · exact h.2.one y hy
end
/-- a slice value's length -/
def lenV : Value → Nat
  | .slice _ n _ => n
  | _ => 0
theorem slice_info : (Try.prog.info? 34).map (fun i => (i.zero, i.size, i.bytes)) = some (some (.slice none 0 0), 1, 24) := by kernel_rfl
/-- a slice from its element k on: at its very end the address stays -/
theorem onFrom {w : World} {lo B k n c p o : Nat} {l : List UInt8} (h : BytesAt w lo B (.slice (some ⟨p, o, none⟩) n c) l) (hk : k ≤ l.length) : BytesAt w lo B (.slice (if c = k then some ⟨p, o, none⟩ else some ⟨p, o + k, none⟩) (n - k) (c - k)) (l.drop k) := by
  have hn : n = l.length := by
    obtain ⟨A', c', e, _⟩ := h.at_
    cases e; rfl
  subst hn
  have := Sl.onFrom (k := k) h hk
  unfold BytesAt
  rw [List.length_drop]
  have e : bytesV (l.drop k) = (bytesV l).drop (k * 1) := by simp [bytesV]
  rw [e]
  simpa using this
theorem or_byte3 {u : Nat} (c : UInt8) (hu : u < 16777216) : bits .or .i64 ((u : Int) * 256) (c.toNat : Int) = ((u * 256 + c.toNat : Nat) : Int) := by
  have hc := c.toNat_lt
  have e : (u : Int) * 256 = ((u * 256 : Nat) : Int) := by omega
  rw [e]
  have hor : u * 256 ||| c.toNat = u * 256 + c.toNat := by
    have := Nat.two_pow_add_eq_or_of_lt (i := 8) (b := c.toNat) (by omega) u
    rw [show (2 : Nat) ^ 8 = 256 by rfl] at this
    rw [Nat.mul_comm u 256]
    exact this.symm
  generalize c.toNat = q at *
  have h1 : (BitVec.ofInt 64 ((u * 256 : Nat) : Int)).toNat = u * 256 := by
    rw [BitVec.ofInt_natCast, BitVec.toNat_ofNat]; exact Nat.mod_eq_of_lt (by omega)
  have h2 : (BitVec.ofInt 64 (q : Int)).toNat = q := by
    rw [BitVec.ofInt_natCast, BitVec.toNat_ofNat]; exact Nat.mod_eq_of_lt (by omega)
  show IntKind.i64.wrap ((BitVec.ofInt 64 ((u * 256 : Nat) : Int) ||| BitVec.ofInt 64 (q : Int)).toNat : Int) = _
  rw [BitVec.toNat_or, h1, h2, hor, IntKind.wrap_i64]
  omega
set_option maxRecDepth 100000 in
set_option maxHeartbeats 4000000 in
theorem entries_calls (l : List UInt8) (v : Value) (w : World) (lo hi : Nat) (hI : BytesAt w lo hi v l) (hhi : hi ≤ w.heap.size) (hl : l.length ≤ 600000) :
    Calls Try.prog 78 #[v] w fun e w' => (∃ ev vs, e = .returned ev ∧ w'.ownsRow w.heap.size 34 1 ev vs.length vs ∧ Ents w' (fun i => lo ≤ i ∧ i < hi) vs (entP l)) ∧ Below w.heap.size w w' := by
  obtain ⟨i0, hi0, hz0⟩ := Option.map_eq_some_iff.1 slice_info
  simp only [Prod.mk.injEq] at hz0
  obtain ⟨hz0, hz1, hz2⟩ := hz0
  go_enter Try.func78, Try.ntmps78
  go_wp2
  go_loopw [0, 3, 4, 6] (fun bv o _ _ wr => ∃ (r : List UInt8) (es : List (List UInt8)) (vs : List Value), BytesAt wr lo hi bv r ∧ r.length ≤ l.length ∧ es ++ entP r = entP l ∧ wr.ownsRow w.heap.size 34 1 o vs.length vs ∧ Ents wr (fun i => lo ≤ i ∧ i < hi) vs es ∧ vs.length + r.length ≤ 600000 ∧ Below w.heap.size w wr) (fun bv _ _ _ _ => lenV bv)
  case atStart => exact ⟨l, [], [], hI, Nat.le_refl _, rfl, World.ownsRow_nil _ _ _ _, trivial, by simpa using hl, Below.refl _ _⟩
  case round =>
    obtain ⟨r, es, vs, hb, hrl, hes, hown, hE, hvl, hB⟩ := hrel
    obtain ⟨A, c, rfl, hc1, hc2⟩ := hb.form
    unfold maxLen at hc2
    by_cases h3 : r.length < 3
    · have hd : decide ((r.length : Int) ≥ 3) = false := by simp; omega
      rw [entP_short h3, List.append_nil] at hes
      rw [hes] at hE
      obtain ⟨Ao, co, rfl, -⟩ := (Sl.of_own hown).at_
      go_wp2
      go_ret
      first | exact ⟨⟨_, rfl, vs, hown, hE⟩, hB⟩ | exact ⟨⟨_, vs, rfl, hown, hE⟩, hB⟩
    · have hd : decide ((r.length : Int) ≥ 3) = true := by simp; omega
      have HG := Lib.hid (fun k (hk : k < r.length) => hb.cellAt (j := k) hk)
      obtain ⟨p, o, hA, -⟩ := HG.out 0 (by omega)
      subst hA
      have HC := Lib.hid (fun k (hk : k < r.length) => show wr.cell? ⟨p, o + k, none⟩ = some (.int .u8 ((r.getD k 0).toNat : Int)) by
        obtain ⟨p', o', e, h1, h2, h3⟩ := HG.out k hk
        cases e
        rw [h3, List.getD_eq_getElem?_getD, List.getElem?_eq_getElem hk]
        rfl)
      have HF3 := Lib.hid (onFrom hb (k := 3) (by omega))
      have H3 := Lib.hid h3
      have HES := Lib.hid hes
      have HB0 := Lib.hid hb
      have k1 : (3 : Int) ≤ (c : Int) := by omega
      have k2 : (3 : Int) ≤ (r.length : Int) := by omega
      have k3 : (r.length : Int) ≤ (c : Int) := by omega
      clear h3 hes HG hb
      go_wp2
      go_loop [4, 6, 13] (fun u _ i => ∃ k : Nat, k ≤ 3 ∧ i = .int .i64 k ∧ u = .int .i64 (be (r.take k))) (fun _ _ i => 3 - (intOf i).toNat)
      case atStart => exact ⟨0, by omega, rfl, rfl⟩
      case round =>
        obtain ⟨k, hk, rfl, rfl⟩ := hrel
        by_cases hlt : k < 3
        · have h3' := H3.out
          have hcell := HC.out k (by omega)
          have hub : be (r.take k) < 65536 := by
            have h1 := beF_lt (r.take k)
            have h2 : 256 ^ (r.take k).length ≤ 256 ^ 2 := Nat.pow_le_pow_right (by omega) (by rw [List.length_take]; omega)
            omega
          have HS := Lib.hid (show be (r.take (k + 1)) = be (r.take k) * 256 + (r.getD k 0).toNat by rw [List.take_succ_eq_append_getElem (by omega), be_snoc, List.getD_eq_getElem?_getD, List.getElem?_eq_getElem (by omega)]; rfl)
          have hq : (r.getD k 0).toNat < 256 := (r.getD k 0).toNat_lt
          have hor := or_byte3 (r.getD k 0) (show be (r.take k) < 16777216 by omega)
          generalize be (r.take k) = u at *
          generalize (r.getD k 0).toNat = q at *
          go_wp2
          go_round
          case rel => exact ⟨k + 1, by omega, by go_num, by rw [HS.out]; go_num⟩
          case measure => simp [intOf]; omega
        · obtain rfl : k = 3 := by omega
          have hub : be (r.take 3) < 16777216 := by
            have h1 := beF_lt (r.take 3)
            have h2 : 256 ^ (r.take 3).length ≤ 256 ^ 3 := Nat.pow_le_pow_right (by omega) (by rw [List.length_take]; omega)
            omega
          have HEM := Lib.hid (entP_more (b := r) H3.out)
          have HEB := Lib.hid (entP_bad (b := r) H3.out)
          generalize be (r.take 3) = n at *
          have hes := HES.out
          by_cases hbad : n > 65536 ∨ n > (r.drop 3).length
          · rw [HEB.out hbad, List.append_nil] at hes
            rw [hes] at hE
            obtain ⟨Ao, co, rfl, -⟩ := (Sl.of_own hown).at_
            rw [List.length_drop] at hbad
            have hq : decide ((n : Int) > 65536) = true ∨ (decide ((n : Int) > 65536) = false ∧ decide (r.length - 3 < n) = true) := by
              by_cases h1 : n > 65536
              · exact .inl (by simp; omega)
              · exact .inr ⟨by simp; omega, by simp; omega⟩
            clear hbad HEM HEB hes HES
            by_cases hcc : c = 3
            · subst hcc
              have hr3 : r.length - 3 = 0 := by omega
              rw [hr3] at hq
              rcases hq with q1 | ⟨q1, q2⟩
              all_goals
                go_wp2
                go_ret
                first | exact ⟨⟨_, rfl, vs, hown, hE⟩, hB⟩ | exact ⟨⟨_, vs, rfl, hown, hE⟩, hB⟩
            · rcases hq with q1 | ⟨q1, q2⟩
              all_goals
                go_wp2
                go_ret
                first | exact ⟨⟨_, rfl, vs, hown, hE⟩, hB⟩ | exact ⟨⟨_, vs, rfl, hown, hE⟩, hB⟩
          · rw [HEM.out hbad] at hes
            rw [List.length_drop] at hbad
            have q1 : decide ((n : Int) > 65536) = false := by simp; omega
            have q2 : decide (r.length - 3 < n) = false := by simp; omega
            have k4 : (0 : Int) ≤ (n : Int) := by omega
            have k5 : (n : Int) ≤ ((c - 3 : Nat) : Int) := by omega
            have k6 : (n : Int) ≤ ((r.length - 3 : Nat) : Int) := by omega
            have k7 : ((r.length - 3 : Nat) : Int) ≤ ((c - 3 : Nat) : Int) := by omega
            clear HEM HEB HES
            have hs1 := hB.size
            have HE := Lib.hid hE
            have HES2 := Lib.hid hes
            by_cases hcc : c = 3
            · subst hcc
              obtain rfl : n = 0 := by omega
              have hr3 : r.length - 3 = 0 := by omega
              have hf3 := HF3.out
              rw [if_pos rfl, hr3, Nat.sub_self] at hf3
              have HNEW := Lib.hid (BytesAt.clip (upto hf3 (k := 0) (by omega)))
              have HREST := Lib.hid (onFrom hf3 (k := 0) (by omega))
              rw [if_pos rfl, Nat.sub_self] at HREST
              clear hf3 HF3 hE hes hbad
              go_wp2_with (at_builtin
                           refine wpList_append_sl _ rfl (.tmp 33) (.tmp 38) _ rfl w.heap.size 34 i0 _ 1 24 Try.underlying22 hi0 hz0 hz1 hz2 rfl (by omega) u3 vs.length vs rfl (hown.alloc _) wr.heap.size (wr.heap.size + 1) _ 1 [.slice (some ⟨p, o, none⟩) 0 0] rfl (Sl.new wr #[.slice (some ⟨p, o, none⟩) 0 0] 34 (n := 1) rfl (by unfold maxLen; omega)) (by simp [Value.oneCell']) (by unfold maxLen; omega) (by omega) (by simp; omega) ?_
                           intro v1 w5 hv1 hg1 hat1)
              have hgo := (World.grownBy_alloc wr (.cells #[.slice (some ⟨p, o, none⟩) 0 0] 34) u3.ownBlock).trans hg1
              have hB5 := hB.grown hgo hB.size (fun g hg => (hown.lt g hg).1)
              have hK5 : Kept (fun i => lo ≤ i ∧ i < hi) wr w5 := Kept.of_grown hgo fun i hi2 => ⟨by omega, fun e => by have := (hown.lt i e.symm).1; omega⟩
              go_roundw
              case rel => exact ⟨(r.drop 3).drop 0, es ++ [(r.drop 3).take 0], vs ++ [.slice (some ⟨p, o, none⟩) 0 0], hK5.sl HREST.out (fun i a b => ⟨a, b⟩), by simp; omega, by rw [List.append_assoc]; exact HES2.out, by rw [List.length_append]; exact hv1, (HE.out.snoc ⟨lo, hi, HNEW.out, by omega, fun i a b => ⟨a, b⟩⟩).kept hK5, by simp; omega, hB5⟩
              case measure => simp [lenV]; omega
            · have hf3 := HF3.out
              rw [if_neg hcc] at hf3
              have hl3 : (r.drop 3).length = r.length - 3 := List.length_drop
              have HNEW := Lib.hid (BytesAt.clip (upto hf3 (k := n) (by omega)))
              have HREST := Lib.hid (onFrom hf3 (k := n) (by omega))
              clear hf3 HF3 hE hes hbad
              by_cases hcn : c - 3 = n
              · rw [if_pos hcn, show c - 3 - n = 0 by omega] at HREST
                go_wp2_with (at_builtin
                             refine wpList_append_sl _ rfl (.tmp 33) (.tmp 38) _ rfl w.heap.size 34 i0 _ 1 24 Try.underlying22 hi0 hz0 hz1 hz2 rfl (by omega) u3 vs.length vs rfl (hown.alloc _) wr.heap.size (wr.heap.size + 1) _ 1 [.slice (some ⟨p, o + 3, none⟩) n n] rfl (Sl.new wr #[.slice (some ⟨p, o + 3, none⟩) n n] 34 (n := 1) rfl (by unfold maxLen; omega)) (by simp [Value.oneCell']) (by unfold maxLen; omega) (by omega) (by simp; omega) ?_
                             intro v1 w5 hv1 hg1 hat1)
                have hgo := (World.grownBy_alloc wr (.cells #[.slice (some ⟨p, o + 3, none⟩) n n] 34) u3.ownBlock).trans hg1
                have hB5 := hB.grown hgo hB.size (fun g hg => (hown.lt g hg).1)
                have hK5 : Kept (fun i => lo ≤ i ∧ i < hi) wr w5 := Kept.of_grown hgo fun i hi2 => ⟨by omega, fun e => by have := (hown.lt i e.symm).1; omega⟩
                go_roundw
                case rel => exact ⟨(r.drop 3).drop n, es ++ [(r.drop 3).take n], vs ++ [.slice (some ⟨p, o + 3, none⟩) n n], hK5.sl HREST.out (fun i a b => ⟨a, b⟩), by simp; omega, by rw [List.append_assoc]; exact HES2.out, by rw [List.length_append]; exact hv1, (HE.out.snoc ⟨lo, hi, HNEW.out, by omega, fun i a b => ⟨a, b⟩⟩).kept hK5, by simp; omega, hB5⟩
                case measure => simp [lenV]; omega
              · rw [if_neg hcn] at HREST
                go_wp2_with (at_builtin
                             refine wpList_append_sl _ rfl (.tmp 33) (.tmp 38) _ rfl w.heap.size 34 i0 _ 1 24 Try.underlying22 hi0 hz0 hz1 hz2 rfl (by omega) u3 vs.length vs rfl (hown.alloc _) wr.heap.size (wr.heap.size + 1) _ 1 [.slice (some ⟨p, o + 3, none⟩) n n] rfl (Sl.new wr #[.slice (some ⟨p, o + 3, none⟩) n n] 34 (n := 1) rfl (by unfold maxLen; omega)) (by simp [Value.oneCell']) (by unfold maxLen; omega) (by omega) (by simp; omega) ?_
                             intro v1 w5 hv1 hg1 hat1)
                have hgo := (World.grownBy_alloc wr (.cells #[.slice (some ⟨p, o + 3, none⟩) n n] 34) u3.ownBlock).trans hg1
                have hB5 := hB.grown hgo hB.size (fun g hg => (hown.lt g hg).1)
                have hK5 : Kept (fun i => lo ≤ i ∧ i < hi) wr w5 := Kept.of_grown hgo fun i hi2 => ⟨by omega, fun e => by have := (hown.lt i e.symm).1; omega⟩
                go_roundw
                case rel => exact ⟨(r.drop 3).drop n, es ++ [(r.drop 3).take n], vs ++ [.slice (some ⟨p, o + 3, none⟩) n n], hK5.sl HREST.out (fun i a b => ⟨a, b⟩), by simp; omega, by rw [List.append_assoc]; exact HES2.out, by rw [List.length_append]; exact hv1, (HE.out.snoc ⟨lo, hi, HNEW.out, by omega, fun i a b => ⟨a, b⟩⟩).kept hK5, by simp; omega, hB5⟩
                case measure => simp [lenV]; omega
end Wa
end Go.Proofs.Yteiniahikhiadaa

namespace Go.Proofs.Yteiniahikhiadaa
open Go.RowKit Go.Maps
namespace Wa
open Ce Se
/-- one head more is looked at -/
def findR (last : Nat → Blk) : Nat → Int × Nat
  | 0 => (0, 1)
  | k + 1 => if (isHd (last k) k).1 > (findR last k).1 then isHd (last k) k else findR last k
theorem findR_two (last : Nat → Blk) : findR last 2 = findG last := by
  rfl
/-- a log's cells -/
def logC (d : Nat) (ev tv : Value) (L : Lg) : Array Value := #[.pointer (some ⟨d, 0, none⟩), .int .i64 L.g, .int .i64 L.half, ev, .int .i64 L.sure, .int .i64 (used L), tv, .bool L.fin]
section
variable {w w' : World} {base b d sb mb : Nat} {D D' : Dv}
theorem Kept.old {B : Nat} {a c e : World} (h : Kept (fun i => i < B ∧ i ≠ b) a c) (k : Below c.heap.size c e) (hB : B ≤ c.heap.size) : Kept (fun i => i < B ∧ i ≠ b) a e :=
  h.trans (Kept.of_below k fun i hi => by omega)
set_option maxRecDepth 100000 in
set_option maxHeartbeats 4000000 in
theorem find_calls (h : DvAt w base d sb mb D) (h4 : 4 ≤ D.sure.length) (ho : offD D = false) (hb : Ob w b 88 (logC d (.slice none 0 0) (.slice none 0 0) ⟨0, 1, [], 0, false⟩)) (hbd : b ≠ d ∧ b ≠ sb ∧ b ≠ mb) :
    Calls Try.prog 49 #[.pointer (some ⟨b, 0, none⟩)] w fun e w' => (∃ ev vs, e = .returned (.tuple #[ev, .int .i64 0]) ∧ w'.ownsRow w.heap.size 34 1 ev vs.length vs ∧ Ents w' (fun i => w.heap.size ≤ i) vs (foundG (lastD D) (szD D))) ∧
      Ob w' b 88 (logC d (.slice none 0 0) (.slice none 0 0) ⟨(findG (lastD D)).1, (findG (lastD D)).2, [], 0, false⟩) ∧ Kept (fun i => i < w.heap.size ∧ i ≠ b) w w' := by
  have hlen := h.len
  have hbl := hb.lt
  have hdl := h.ob.lt
  have hsl := h.sure.lt
  have hml := h.map.lt
  have HD := Lib.hid (fun (W : World) (hW : Kept (fun i => i < w.heap.size ∧ i ≠ b) w W) => h.kept hW (by simp; omega) (by simp; omega) (by simp; omega))
  have CR := Lib.hid (fun (W : World) (hW : Kept (fun i => i < w.heap.size ∧ i ≠ b) w W) (i : Nat) (hi : i < D.sure.length) => read_good (HD.out W hW) ho i hi)
  have HLB := Lib.hid (fun (i : Nat) (hi : i < D.sure.length) => lastD_len h.ok hi)
  have HF := Lib.hid (findR_two (lastD D))
  have HFS := Lib.hid (fun k => show findR (lastD D) (k + 1) = if (isHd (lastD D k) k).1 > (findR (lastD D) k).1 then isHd (lastD D k) k else findR (lastD D) k from rfl)
  have hb0 : Ob w b 88 (logC d (.slice none 0 0) (.slice none 0 0) ⟨(findR (lastD D) 0).1, (findR (lastD D) 0).2, [], 0, false⟩) := hb
  clear h
  go_enter Try.func49, Try.ntmps49
  go_wp2
  go_loopw [4, 5, 6, 7, 8, 11] (fun _ _ _ _ _ i wr => ∃ k : Nat, k ≤ 2 ∧ i = .int .i64 k ∧ Ob wr b 88 (logC d (.slice none 0 0) (.slice none 0 0) ⟨(findR (lastD D) k).1, (findR (lastD D) k).2, [], 0, false⟩) ∧ Kept (fun i => i < w.heap.size ∧ i ≠ b) w wr) (fun _ _ _ _ _ i _ => 2 - (intOf i).toNat)
  case atStart => exact ⟨0, by omega, rfl, hb0, Kept.refl _ _⟩
  case round =>
    obtain ⟨k, hk, rfl, hO, hK⟩ := hrel
    by_cases hlt : k < 2
    · have y0 := hO.cell (j := 0) (v := .pointer (some ⟨d, 0, none⟩)) rfl
      have hsz := hK.size
      have cR := CR.out wr hK k (by omega)
      have hl64 := HLB.out k (by omega)
      have HS := Lib.hid (HFS.out k)
      generalize lastD D k = blk at *
      have HO := Lib.hid hO
      generalize findR (lastD D) k = p at *
      go_wp2_with (go_at_call 41; refine cR.mono ?_; rintro e W1 ⟨⟨v1, rfl, hv1⟩, hb1⟩)
      have hv2 := (BlkAt.bytes hv1 hl64).wide (Nat.zero_le _) (Nat.le_refl _)
      refine (isHead_calls blk hl64 k (by omega) v1 W1 hv2).mono ?_
      rintro e W2 ⟨rfl, hb2⟩
      have hK2 := Kept.old (Kept.old hK hb1 hsz) hb2 (by have := hb1.size; omega)
      have hO2 := (HO.out.same hb1).same hb2
      have hs2 := hK2.size
      generalize isHd blk k = q at *
      have c1 := hO2.cell (j := 1) (v := .int .i64 p.1) rfl
      have c2 := hO2.cell (j := 2) (v := .int .i64 p.2) rfl
      have z1 := hO2.frozen 1
      have z2 := hO2.frozen 2
      by_cases hgt : q.1 > p.1
      · have hd : decide (q.1 > p.1) = true := by simpa using hgt
        have HS2 := Lib.hid (HS.out.trans (if_pos hgt))
        clear HS hgt
        go_wp2
        go_roundw
        case rel =>
          refine ⟨k + 1, by omega, by go_num, ?_, ?_⟩
          · rw [HS2.out]
            exact (hO2.set 1 (.int .i64 q.1)).set 2 (.int .i64 q.2)
          · exact hK2.trans (Kept.of_grown ((grownBy_set W2 b 1 (.int .i64 q.1)).trans (grownBy_set _ b 2 (.int .i64 q.2))) fun i hi => ⟨by omega, fun e => hi.2 (Option.some.inj e)⟩)
        case measure => simp [intOf]; omega
      · have hd : decide (q.1 > p.1) = false := by simpa using hgt
        have HS2 := Lib.hid (HS.out.trans (if_neg hgt))
        clear HS hgt
        go_wp2
        go_roundw
        case rel =>
          refine ⟨k + 1, by omega, by go_num, ?_, hK2⟩
          rw [HS2.out]
          exact hO2
        case measure => simp [intOf]; omega
    · obtain rfl : k = 2 := by omega
      rw [HF.out] at hO
      have hDr := HD.out wr hK
      have hsz := hK.size
      have y0 := hO.cell (j := 0) (v := .pointer (some ⟨d, 0, none⟩)) rfl
      have y1 := hO.cell (j := 1) (v := .int .i64 (findG (lastD D)).1) rfl
      have y2 := hO.cell (j := 2) (v := .int .i64 (findG (lastD D)).2) rfl
      have hbd2 := findG_bd (lastD D)
      have HFo := Lib.hid (show foundG (lastD D) (szD D) = if (findG (lastD D)).1 = 0 then [] else entP (strmOf (halfB D (findG (lastD D)).2)) from rfl)
      have HO := Lib.hid hO
      have cS := Lib.hid (stream_calls hDr h4 ho hO.lt y0 (findG (lastD D)).2 hbd2.2)
      have HLS := Lib.hid (show (strmOf (halfB D (findG (lastD D)).2)).length ≤ 600000 by
        have := strmOf_len (halfB D (findG (lastD D)).2)
        rw [halfB_len] at this
        unfold szD at this
        omega)
      clear hO
      by_cases hg : (findG (lastD D)).1 = 0
      · have HF2 := Lib.hid (HFo.out.trans (if_pos hg))
        have hd : ((findG (lastD D)).1 == 0) = true := by simpa using hg
        generalize hp : findG (lastD D) = p at *
        have HP := Lib.hid hp
        clear hg HFo hp
        go_wp2
        go_ret2
        rw [HP.out]
        refine ⟨⟨_, [], rfl, World.ownsRow_nil _ _ _ _, ?_⟩, HO.out, hK⟩
        rw [HF2.out]
        trivial
      · have HF2 := Lib.hid (HFo.out.trans (if_neg hg))
        have hd : ((findG (lastD D)).1 == 0) = false := by simpa using hg
        generalize hp : findG (lastD D) = p at *
        have HP := Lib.hid hp
        clear hp
        generalize strmOf (halfB D p.2) = S at *
        clear hg HFo
        go_wp2_with (go_at_call 77; refine cS.out.mono ?_; rintro e W1 ⟨⟨v1, rfl, hv1⟩, hb1⟩)
        have hv2 : BytesAt W1 wr.heap.size W1.heap.size v1 S := BytesAt.of_own hv1
        have HLL := HLS.out
        refine (entries_calls S v1 W1 _ _ hv2 (Nat.le_refl _) HLL).mono ?_
        rintro e W2 ⟨⟨ev, vs, rfl, hev, hE⟩, hb2⟩
        obtain ⟨Ae, ce, rfl, -⟩ := (Sl.of_own hev).at_
        go_wp2
        go_ret2
        have hs1 := hb1.size
        rw [HP.out]
        refine ⟨⟨_, vs, rfl, row_wide hev (by omega), ?_⟩, (HO.out.same hb1).same hb2, Kept.old (Kept.old hK hb1 hsz) hb2 (by omega)⟩
        rw [HF2.out]
        exact hE.mono fun i hi => by omega
end
end Wa
end Go.Proofs.Yteiniahikhiadaa

namespace Go.Proofs.Yteiniahikhiadaa
open Go.RowKit Go.Maps
namespace Wa
open Ce Se
theorem wrG_len (D : Dv) (k : Int) (f : Nat → Blk) : ∀ n, (wrG writeD D k f n).1.sure.length = D.sure.length
  | 0 => rfl
  | n + 1 => by
    have ih := wrG_len D k f n
    simp only [wrG]
    split
    · rw [lenW, ih]
    · exact ih
theorem wrG_step {D : Dv} {k : Int} {f : Nat → Blk} {j : Nat} (h : (wrG writeD D k f j).2 = 0) : wrG writeD D k f (j + 1) = writeD (wrG writeD D k f j).1 (k + j) (f j) := by
  simp only [wrG]
  rw [if_pos h]
theorem szD_len {D E : Dv} (h : E.sure.length = D.sure.length) : szD E = szD D := by unfold szD; rw [h]
section
variable {w w' : World} {base b d sb mb : Nat} {D D' : Dv}
/-- what a look at the log needs -/
def Lk (base b d sb mb : Nat) (D : Dv) (W : World) : Prop := W.cell? ⟨b, 0, none⟩ = some (.pointer (some ⟨d, 0, none⟩)) ∧ ∃ E, DvAt W base d sb mb E ∧ E.sure.length = D.sure.length
theorem Lk.same {W W' : World} (h : Lk base b d sb mb D W) (hb : Below W.heap.size W W') (hbl : b < W.heap.size) : Lk base b d sb mb D W' := by
  obtain ⟨h1, E, h2, h3⟩ := h
  exact ⟨(hb.cell (p := ⟨b, 0, none⟩) hbl).trans h1, E, h2.same hb, h3⟩
theorem Lk.size {W : World} (h : Lk base b d sb mb D W) (h4 : 4 ≤ D.sure.length) :
    Calls Try.prog 51 #[.pointer (some ⟨b, 0, none⟩)] W fun e w' => e = .returned (.int .i64 (szD D : Nat)) ∧ W = w' := by
  obtain ⟨h1, E, h2, h3⟩ := h
  have := size_calls h2 (by omega) h1
  rwa [szD_len h3] at this
theorem Lk.at_ {W : World} (h : Lk base b d sb mb D W) (h4 : 4 ≤ D.sure.length) (half i : Nat) (hh : half ≤ 1) (hi : i ≤ 1000000) :
    Calls Try.prog 87 #[.pointer (some ⟨b, 0, none⟩), .int .i64 half, .int .i64 i] W fun e w' => e = .returned (.int .i64 (Wa.base half (szD D) + i)) ∧ W = w' := by
  obtain ⟨h1, E, h2, h3⟩ := h
  have := at_calls h2 (by omega) h1 half i hh hi
  rwa [szD_len h3] at this
theorem Dev.cell {W W' : World} {p : Addr} (h : Dev d sb mb W W') (hb : p.block < W.heap.size) (h1 : p.block ≠ d) (h2 : p.block ≠ sb) (h3 : p.block ≠ mb) : W'.cell? p = W.cell? p :=
  World.cell?_of_block (Kept.block h p.block ⟨hb, h1, h2, h3⟩)
set_option maxRecDepth 100000 in
set_option maxHeartbeats 4000000 in
theorem clear_calls (h : DvAt w base d sb mb D) (h4 : 4 ≤ D.sure.length) (hc : w.cell? ⟨b, 0, none⟩ = some (.pointer (some ⟨d, 0, none⟩))) (hbl : b < w.heap.size) (hbd : b ≠ d ∧ b ≠ sb ∧ b ≠ mb) (half from_ : Nat) (hh : half ≤ 1) (hf : from_ ≤ szD D) :
    Calls Try.prog 82 #[.pointer (some ⟨b, 0, none⟩), .int .i64 half, .int .i64 from_] w fun e w' =>
      e = .returned (.int .i64 (wrG writeD D (Wa.base half (szD D) + from_) (fun _ => List.replicate 64 0) (szD D - from_)).2) ∧ DvAt w' base d sb mb (wrG writeD D (Wa.base half (szD D) + from_) (fun _ => List.replicate 64 0) (szD D - from_)).1 ∧ Dev d sb mb w w' := by
  have hlen := h.len
  have hz : szD D ≤ 8191 := by unfold szD; omega
  have HLK := Lib.hid (fun (W : World) E (h1 : Dev d sb mb w W) (h2 : DvAt W base d sb mb E) (h3 : E.sure.length = D.sure.length) => show Lk base b d sb mb D W from ⟨(Dev.cell (p := ⟨b, 0, none⟩) h1 hbl hbd.1 hbd.2.1 hbd.2.2).trans hc, E, h2, h3⟩)
  have HGS := Lib.hid (fun j hj => wrG_step (D := D) (k := Wa.base half (szD D) + from_) (f := fun _ => List.replicate 64 0) (j := j) hj)
  have HGL := Lib.hid (fun j => wrG_len D (Wa.base half (szD D) + from_) (fun _ => List.replicate 64 0) j)
  have HGB := Lib.hid (fun j n hj hn => wrG_bad (wr := writeD) (D := D) (k := Wa.base half (szD D) + from_) (f := fun _ => List.replicate 64 0) (j := j) hj n hn)
  have H0 := Lib.hid (show wrG writeD D (Wa.base half (szD D) + from_) (fun _ => List.replicate 64 0) 0 = (D, 0) from rfl)
  have HBE := Lib.hid (fun (i j : Nat) (hij : i = from_ + j) => show Wa.base half (szD D) + (i : Int) = Wa.base half (szD D) + (from_ : Int) + (j : Int) by omega)
  obtain ⟨G, hG⟩ : ∃ G : Nat → Dv × Int, G = wrG writeD D (Wa.base half (szD D) + from_) (fun _ => List.replicate 64 0) := ⟨_, rfl⟩
  rw [← hG] at HGS HGL HGB H0
  have HG := Lib.hid hG
  have HDV := Lib.hid h
  have hdb : d < w.heap.size := h.ob.lt
  have hmb : mb < w.heap.size := h.map.lt
  clear hG h hc
  go_enter Try.func82, Try.ntmps82
  go_wp2
  go_loopw [7, 8] (fun i _ wr => ∃ j : Nat, from_ + j ≤ szD D ∧ i = .int .i64 ((from_ + j : Nat) : Int) ∧ (G j).2 = 0 ∧ DvAt wr base d sb mb (G j).1 ∧ Dev d sb mb w wr) (fun i _ _ => szD D - (intOf i).toNat)
  case atStart => exact ⟨0, hf, rfl, by rw [H0.out], by rw [H0.out]; exact HDV.out, Kept.refl _ _⟩
  case round =>
    obtain ⟨j, hj, rfl, hGj, hDj, hK⟩ := hrel
    have hlk := HLK.out wr _ hK hDj (HGL.out j)
    have cS := Lib.hid (hlk.size h4)
    obtain ⟨i, hi⟩ : ∃ i : Nat, from_ + j = i := ⟨_, rfl⟩
    rw [hi]
    have HI := Lib.hid hi
    rw [hi] at hj
    clear hi
    go_wp2_with fail
    refine cS.out.mono ?_
    rintro e W ⟨rfl, rfl⟩
    by_cases hlt : i < szD D
    · have hd : decide (i < szD D) = true := by simp; omega
      have hlt2 := Lib.hid hlt
      have hdr := (Below.refl wr.heap.size wr).drew
      have hsz := Kept.size hK
      have hlkd := hlk.same hdr (by omega)
      have CA := Lib.hid (fun W (hW : Lk base b d sb mb D W) => hW.at_ h4 half i hh (by omega))
      rw [HBE.out i j (by have := HI.out; omega)] at CA
      have CG := Lib.hid (HGS.out j hGj)
      have HGj := Lib.hid hGj
      have HDj := Lib.hid (DvAt.same hDj hdr)
      have HKd := Lib.hid (Dev.trans hK (Dev.of_below hdr))
      generalize Wa.base half (szD D) + (from_ : Int) + (j : Int) = at_ at CA CG
      clear hK hDj hGj hlk cS hj hlt
      go_wp2_with fail
      refine Pu.regionM [(0, false), (1, false), (2, false), (3, false), (4, false), (5, false), (6, false), (7, false), (8, true), (9, true), (10, false)] (fun V => Lk base b d sb mb D V) hmx (by kernel_rfl) (by kernel_rfl) (by kernel_rfl) hlkd rfl ?_
      simp only [Pu.named, List.filterMap_cons, List.filterMap_nil, List.getElem?_toArray, List.getElem?_cons_succ, List.getElem?_cons_zero, Option.map_some]
      iterate 7 (apply Pu.WalkM.on (by rfl)
                 · rintro V hV
                   have hcr := hV.1
                   go_wp2_with fail
                   refine ⟨rfl, ?_, rfl⟩
                   try simp only [Act.put, List.setIfInBounds_toArray, List.set_cons_succ, List.set_cons_zero]
                   rfl
                 simp only [Act.put, List.setIfInBounds_toArray, List.set_cons_succ, List.set_cons_zero])
      iterate 1 (apply Pu.WalkM.on (by rfl)
                 · rintro V hV
                   go_wp2_with (go_at_call 87; refine (CA.out _ hV).mono ?_; rintro e W1 ⟨rfl, rfl⟩)
                   refine ⟨rfl, ?_, rfl⟩
                   try simp only [Act.put, List.setIfInBounds_toArray, List.set_cons_succ, List.set_cons_zero]
                   rfl
                 simp only [Act.put, List.setIfInBounds_toArray, List.set_cons_succ, List.set_cons_zero])
      refine Pu.WalkM.make (by rfl) ?_
      rintro V rfl
      obtain ⟨w1, hmk, hv1, hg1⟩ := make_bytes 64 wr.drew (by omega)
      rw [show ((64 : Nat) : Int) = 64 from rfl] at hmk
      have hb1 : Below wr.drew.heap.size wr.drew w1 := (Below.refl _ _).grown hg1 (Nat.le_refl _) (fun k e => by cases e)
      go_wp2_with fail
      refine ⟨rfl, .slice (some ⟨wr.drew.heap.size, 0, none⟩) 64 64, (fun V => Lk base b d sb mb D V), (fun V => V = w1), ?_, rfl, (fun V h => by rw [h]; exact hlkd.same hb1 (by have := hdr.size; omega)), (.inr (fun _ h => h)), ?_⟩
      · try simp only [Act.put, List.setIfInBounds_toArray, List.set_cons_succ, List.set_cons_zero]
        try rfl
      simp only [Act.put, List.setIfInBounds_toArray, List.set_cons_succ, List.set_cons_zero]
      refine Pu.WalkM.make (by rfl) ?_
      rintro V rfl
      have hDv := HDj.out.same hb1
      have hI : BytesAt V wr.drew.heap.size V.heap.size (.slice (some ⟨wr.drew.heap.size, 0, none⟩) 64 64) (List.replicate 64 0) := Sl.of_own hv1
      have hds := hdr.size
      have cW := write_calls hDv at_ (List.replicate 64 0) _ _ _ hI (Nat.le_refl _) (by omega) (by omega)
      rw [← CG.out] at cW
      have CW := Lib.hid cW
      clear cW hI hv1 hmk
      go_wp2_with (go_at_call 38; refine CW.out.mono ?_; rintro e W3 ⟨rfl, hD3, hK3⟩)
      have hK4 := Dev.trans (Dev.trans HKd.out (Dev.of_below hb1)) hK3
      refine ⟨rfl, .int .i64 (G (j + 1)).2, (fun V => V = W3), (fun V => V = W3), ?_, rfl, (fun _ h => h), (.inr (fun V h => by rw [h]; exact HLK.out _ _ hK4 hD3 (HGL.out _))), ?_⟩
      · try simp only [Act.put, List.setIfInBounds_toArray, List.set_cons_succ, List.set_cons_zero]
        try rfl
      simp only [Act.put, List.setIfInBounds_toArray, List.set_cons_succ, List.set_cons_zero]
      iterate 1 (apply Pu.WalkM.on (by rfl)
                 · rintro V hV
                   rw [hV]
                   go_wp2_with fail
                   refine ⟨rfl, ?_, rfl⟩
                   try simp only [Act.put, List.setIfInBounds_toArray, List.set_cons_succ, List.set_cons_zero]
                   rfl
                 simp only [Act.put, List.setIfInBounds_toArray, List.set_cons_succ, List.set_cons_zero])
      refine Pu.WalkM.nil ?_
      rintro V rfl
      by_cases he : (G (j + 1)).2 = 0
      · have hne : ((G (j + 1)).2 != 0) = false := by simpa using he
        have HE := Lib.hid he
        have hlt3 := hlt2.out
        have hi3 := HI.out
        clear he
        go_wp2
        go_roundw
        case rel => exact ⟨j + 1, by omega, by rw [← hi3]; go_num, HE.out, hD3, hK4⟩
        case measure => simp [intOf]; omega
      · have hne : ((G (j + 1)).2 != 0) = true := by simpa using he
        have hfin := HGB.out (j + 1) (szD D - from_) he (by have := HI.out; have := hlt2.out; omega)
        have HFI := Lib.hid hfin
        clear he hfin
        go_wp2
        go_ret
        rw [← HG.out, HFI.out]
        exact ⟨rfl, hD3, hK4⟩
    · have hd : decide (i < szD D) = false := by simp; omega
      have hij : szD D - from_ = j := by have := HI.out; omega
      have hfin : G (szD D - from_) = G j := by rw [hij]
      rw [HG.out] at hfin hGj hDj
      have HFI := Lib.hid hfin
      have HGj := Lib.hid hGj
      clear hfin hGj hij
      go_wp2
      go_ret
      rw [HFI.out]
      exact ⟨by rw [HGj.out]; rfl, hDj, hK⟩
end
end Wa
end Go.Proofs.Yteiniahikhiadaa

namespace Go.Proofs.Yteiniahikhiadaa
open Go.RowKit Go.Maps
namespace Wa
open Ce Se
theorem ofNat_mod (n : Nat) : UInt8.ofNat (n % 256) = UInt8.ofNat n := by
  apply UInt8.toNat_inj.1
  simp
/-- so many bytes of an entry's top are put -/
def tbK (n k : Nat) : List UInt8 := (tb3 n).take k ++ List.replicate (3 - k) 0
theorem tbK_len (n : Nat) {k : Nat} (hk : k ≤ 3) : (tbK n k).length = 3 := by simp [tbK, tb3]; omega
theorem tbK_set (n : Nat) : ∀ k, k < 3 → (tbK n k).set k (UInt8.ofNat (n / 256 ^ (2 - k) % 256)) = tbK n (k + 1)
  | 0, _ => by simp [tbK, tb3, ofNat_mod]
  | 1, _ => by simp [tbK, tb3, ofNat_mod]
  | 2, _ => by simp [tbK, tb3, ofNat_mod]
set_option maxRecDepth 100000 in
set_option maxHeartbeats 4000000 in
theorem entry_calls (l : List UInt8) (v : Value) (w : World) (hI : BytesAt w 0 w.heap.size v l) (hl : l.length ≤ 65536) :
    Calls Try.prog 52 #[v] w fun e w' => (∃ r, e = .returned r ∧ w'.ownsRow w.heap.size 5 1 r (encE l).length (bytesV (encE l))) ∧ Below w.heap.size w w' := by
  obtain ⟨i0, hi0, hz0⟩ := Option.map_eq_some_iff.1 byteInfo
  simp only [Prod.mk.injEq] at hz0
  obtain ⟨hz0, hz1, hz2⟩ := hz0
  obtain ⟨A, c, rfl, -⟩ := hI.form
  have hmk := run_make (P := Try.prog) w 34 5 i0 _ Try.underlying34 hi0 hz0 .i64 .i64 3 (3 + (l.length : Int)) (by omega) (by omega) (by rw [hz2]; omega) (by omega)
  have htn : (3 + (l.length : Int)).toNat = 3 + l.length := by omega
  rw [htn, hz1, show ((3 : Int)).toNat = 3 from rfl] at hmk
  obtain ⟨W0, hW0⟩ : ∃ W0, W0 = w.alloc (.cells (madeCells (Value.int .u8 0).cells ((3 + l.length) * 1)) 5) := ⟨_, rfl⟩
  rw [← hW0] at hmk
  have hb0 : Below w.heap.size w W0 := by rw [hW0]; exact (Below.refl _ w).alloc (Nat.le_refl _) _
  have hown0 : W0.ownsRow w.heap.size 5 1 (.slice (some ⟨w.heap.size, 0, none⟩) 3 (3 + l.length)) 3 (bytesV (tbK l.length 0)) := by
    rw [hW0]
    refine ⟨by rw [bytesV_length, tbK_len _ (by omega)], .inr ⟨w.heap.size, 3 + l.length, _, rfl, Nat.le_refl _, heap_alloc_new _ _, by omega, by unfold maxLen; omega, size_madeCells _ _, ?_⟩⟩
    rw [madeBytes]
    unfold bytesV
    rw [← List.map_take, List.take_replicate]
    congr 1
    simp [tbK]
  have HST := Lib.hid (tbK_set l.length)
  have HT3 := Lib.hid (show tbK l.length 3 = tb3 l.length by simp [tbK, tb3])
  have HEN := Lib.hid (show encE l = tb3 l.length ++ l from rfl)
  have HEL := Lib.hid (encE_len l)
  have HI := Lib.hid hI
  have HL := Lib.hid hl
  clear hW0 htn hI
  go_enter Try.func52, Try.ntmps52
  go_wp2
  go_loopw [4, 11] (fun _ i wr => ∃ k : Nat, k ≤ 3 ∧ i = .int .i64 k ∧ wr.ownsRow w.heap.size 5 1 (.slice (some ⟨w.heap.size, 0, none⟩) 3 (3 + l.length)) 3 (bytesV (tbK l.length k)) ∧ Below w.heap.size w wr) (fun _ i _ => 3 - (intOf i).toNat)
  case atStart => exact ⟨0, by omega, rfl, hown0, hb0⟩
  case round =>
    obtain ⟨k, hk, rfl, hown, hB⟩ := hrel
    by_cases hlt : k < 3
    · have hcl := hown.cellAt k (by omega)
      rw [List.getElem?_eq_getElem (by rw [bytesV_length, tbK_len _ (by omega)]; omega)] at hcl
      have hfz := hown.frozenAt k
      have HSk := Lib.hid (HST.out k hlt)
      have hlN := HL.out
      go_wp2
      have hbt : Value.int .u8 ((l.length : Int) / 2 ^ (8 * (2 - k)) % 256) = .int .u8 ((UInt8.ofNat (l.length / 256 ^ (2 - k) % 256)).toNat : Int) := by
        rw [byte_shift (by omega), Int.toNat_natCast]
        congr 2
        simp
      rw [hbt]
      obtain ⟨hown2, hg2⟩ := hown.stored k (.int .u8 ((UInt8.ofNat (l.length / 256 ^ (2 - k) % 256)).toNat : Int))
      rw [← bytesV_set, HSk.out] at hown2
      go_roundw
      case rel => exact ⟨k + 1, by omega, by go_num, hown2, hB.grown hg2 hB.size (fun k e => by cases e; exact Nat.le_refl _)⟩
      case measure => simp [intOf]; omega
    · obtain rfl : k = 3 := by omega
      rw [HT3.out] at hown
      go_wp2_with (at_builtin
                   refine wpList_append_sl _ rfl (.tmp 25) (.tmp 26) _ rfl w.heap.size 5 i0 _ 1 1 Try.underlying34 hi0 hz0 hz1 hz2 rfl (by omega) _ 3 (bytesV (tb3 l.length)) rfl hown 0 w.heap.size _ l.length (bytesV l) rfl (Sl.below HI.out hB) (bytesV_one l) (by have := HL.out; unfold maxLen; omega) (by have := HL.out; omega) hB.size ?_
                   intro v1 w5 hv1 hg1 hat1)
      have hB5 := hB.grown hg1 hB.size (fun g hg => (hown.lt g hg).1)
      have hv6 : w5.ownsRow w.heap.size 5 1 v1 (encE l).length (bytesV (encE l)) := by
        rw [HEL.out, HEN.out, bytesV_append]
        exact hv1
      obtain ⟨A5, c5, rfl, -⟩ := (BytesAt.of_own hv6).form
      clear hv1 hg1 hat1
      go_wp2
      go_ret
      exact ⟨⟨_, rfl, hv6⟩, hB5⟩
end Wa
end Go.Proofs.Yteiniahikhiadaa

namespace Go.Proofs.Yteiniahikhiadaa
open Go.RowKit
namespace It

def okB (c : UInt8) : Bool := decide (97 ≤ c.toNat ∧ c.toNat ≤ 122) || decide (48 ≤ c.toNat ∧ c.toNat ≤ 57) || decide (c.toNat = 45)
def good (s : ByteArray) : Bool := s.data.toList.all okB && decide (1 ≤ s.size) && decide (s.size ≤ 16)
def countOk (n : Int) : Bool := decide (0 ≤ n) && decide (n ≤ 1099511627776)

theorem okB_cases (n : Nat) : n < 45 ∨ n = 45 ∨ (45 < n ∧ n < 48) ∨ (48 ≤ n ∧ n ≤ 57) ∨ (57 < n ∧ n < 97) ∨ (97 ≤ n ∧ n ≤ 122) ∨ 122 < n := by omega
theorem good_no {s : ByteArray} {k : Nat} (hk : k < s.size) (h : okB s[k] = false) : good s = false := by
  unfold good
  have : s.data.toList.all okB = false := by
    rw [List.all_eq_false]
    refine ⟨s[k], ?_, by simp [h]⟩
    exact Array.mem_toList_iff.2 (Array.getElem_mem hk)
  rw [this]; rfl
theorem good_all {s : ByteArray} (h : ∀ j, (hj : j < s.size) → okB s[j] = true) : good s = (decide (1 ≤ s.size) && decide (s.size ≤ 16)) := by
  unfold good
  have : s.data.toList.all okB = true := by
    rw [List.all_eq_true]
    intro x hx
    obtain ⟨i, hi, rfl⟩ := List.getElem_of_mem hx
    exact h i (by simpa using hi)
  rw [this]; rfl

theorem len_tests (n : Nat) : (!decide (n = 0) && decide ((n : Int) ≤ 16)) = (decide (1 ≤ n) && decide (n ≤ 16)) := by
  rw [Bool.eq_iff_iff]
  simp only [Bool.and_eq_true, Bool.not_eq_true', decide_eq_false_iff_not, decide_eq_true_eq]
  omega
theorem empty_iff (s : ByteArray) : s.toList.isEmpty = decide (s.size = 0) := by
  rw [ByteArray.toList_eq, Bool.eq_iff_iff]
  simp [← ByteArray.size_data]
theorem countOk_no {n : Int} (h : ¬ (0 ≤ n ∧ n ≤ 1099511627776)) : countOk n = false := by
  unfold countOk
  by_cases h1 : 0 ≤ n
  · rw [decide_eq_false (p := n ≤ 1099511627776) (by omega)]; simp
  · rw [decide_eq_false h1]; rfl
end It
end Go.Proofs.Yteiniahikhiadaa

namespace Go.Proofs.Yteiniahikhiadaa
open Go.RowKit
namespace It

attribute [local go_sem] Oper.semAt_some

abbrev Item := ByteArray × Int
def itemCells (l : List Item) : List Value := l.flatMap fun x => [.string x.1, .int .i64 x.2]
theorem itemCells_length (l : List Item) : (itemCells l).length = l.length * 2 := by
  induction l with
  | nil => rfl
  | cons x r ih => simp only [itemCells, List.flatMap_cons, List.length_append, List.length_cons, List.length_nil] at ih ⊢; omega
theorem itemCells_append (a b : List Item) : itemCells (a ++ b) = itemCells a ++ itemCells b := by simp [itemCells]
theorem itemCells_one (l : List Item) : ∀ y ∈ itemCells l, y.oneCell' = true := by
  intro y hy
  obtain ⟨x, _, hx⟩ := List.mem_flatMap.1 hy
  simp only [List.mem_cons, List.not_mem_nil, or_false] at hx
  rcases hx with rfl | rfl <;> rfl
theorem itemCells_get : ∀ (l : List Item) (j : Nat) (hj : j < l.length), (itemCells l)[j * 2]? = some (.string l[j].1) ∧ (itemCells l)[j * 2 + 1]? = some (.int .i64 l[j].2)
  | [], j, hj => absurd hj (by simp)
  | x :: r, 0, _ => by simp [itemCells]
  | x :: r, j + 1, hj => by
    have h := itemCells_get r j (by simpa using hj)
    have e1 : (j + 1) * 2 = j * 2 + 1 + 1 := by omega
    have e2 : (j + 1) * 2 + 1 = j * 2 + 1 + 1 + 1 := by omega
    rw [e1]
    simp only [itemCells, List.flatMap_cons, List.cons_append, List.nil_append, List.getElem?_cons_succ, List.getElem_cons_succ]
    exact h
/-- a slice of items -/
def ItemsAt (w : World) (lo B : Nat) (v : Value) (l : List Item) : Prop := Sl w lo B 2 v l.length (itemCells l)
section
variable {w w' : World} {lo lo' B B' : Nat} {v : Value} {l : List Item}
theorem ItemsAt.below (h : ItemsAt w lo B v l) (hb : Below B w w') : ItemsAt w' lo B v l := Sl.below h hb
theorem ItemsAt.mono (h : ItemsAt w lo B v l) (hb : Below B w w') (hB : B ≤ B') : ItemsAt w' lo B' v l := Sl.mono h hb hB
theorem ItemsAt.wide (h : ItemsAt w lo B v l) (hl : lo' ≤ lo) (hB : B ≤ B') : ItemsAt w lo' B' v l := Sl.wide h hl hB
theorem ItemsAt.nil (w : World) (lo B : Nat) : ItemsAt w lo B (.slice none 0 0) [] := Sl.nil w lo B 2
theorem ItemsAt.form (h : ItemsAt w lo B v l) : ∃ A c, v = .slice A l.length c ∧ l.length ≤ c ∧ c ≤ maxLen := by
  obtain ⟨A, c, e, h1, h2, _⟩ := h.at_
  exact ⟨A, c, e, h1, h2⟩
theorem ItemsAt.cellAt {A : Option Addr} {n c j : Nat} (h : ItemsAt w lo B (.slice A n c) l) (hj : j < l.length) :
    ∃ b o, A = some ⟨b, o, none⟩ ∧ lo ≤ b ∧ b < B ∧ w.cell? ⟨b, o + j * 2, none⟩ = some (.string l[j].1) ∧ w.cell? ⟨b, o + j * 2 + 1, none⟩ = some (.int .i64 l[j].2) := by
  obtain ⟨A', c', e, _, _, h3⟩ := h.at_
  cases e
  obtain ⟨b, o, e1, e2, e3, e4⟩ := h3 (by omega)
  obtain ⟨g1, g2⟩ := itemCells_get l j hj
  exact ⟨b, o, e1, e2, e3, (e4 (j * 2) (by omega)).trans g1, (e4 (j * 2 + 1) (by omega)).trans g2⟩
theorem ItemsAt.of_own {e : TypeId} {n : Nat} (h : w.ownsRow lo e 2 v n (itemCells l)) : ItemsAt w lo w.heap.size v l := by
  have hn : n = l.length := by have := h.1; rw [itemCells_length] at this; omega
  subst hn
  exact Sl.of_own h
end

/-- an item of a list -/
abbrev Of (l : List Item) := { x : Item // x ∈ l }
def enc2 {l : List Item} (x : Of l) : Array Value := #[.string x.1.1, .int .i64 x.1.2]
/-- the first k items -/
def firsts (l : List Item) (k : Nat) : List (Of l) := l.attach.take k
theorem firsts_succ (l : List Item) (k : Nat) (h : k < l.length) : firsts l (k + 1) = firsts l k ++ [⟨l[k], List.getElem_mem h⟩] := by
  unfold firsts
  rw [List.take_succ_eq_append_getElem (by simpa using h)]
  simp
theorem firsts_length (l : List Item) (k : Nat) (h : k ≤ l.length) : (firsts l k).length = k := by
  unfold firsts; simp [h]
theorem firsts_all (l : List Item) : firsts l l.length = l.attach := by
  unfold firsts; rw [List.take_of_length_le (by simp)]

end It
end Go.Proofs.Yteiniahikhiadaa

namespace Go.Proofs.Yteiniahikhiadaa
open Go.RowKit
namespace It
attribute [local go_sem] Oper.semAt_some

/-- how the body of a round may be left -/
def rpost {α : Type} (B n₀ : Nat) (C : List α → World → Prop) (Cx : Code → List α → World → Prop) (xs : List α) (W : World) : Exit → Act → World → Prop
  | .normal, _, W' => KeepsFrom B W W' ∧ Below n₀ W W' ∧ C xs W'
  | .ret, _, W' => KeepsFrom B W W' ∧ Below n₀ W W' ∧ Cx .ret xs W'
  | .exit id, _, W' => KeepsFrom B W W' ∧ Below n₀ W W' ∧ Cx (.exit id) xs W'
  | .goto t, _, W' => KeepsFrom B W W' ∧ Below n₀ W W' ∧ Cx (.goto t) xs W'
  | .panic _, _, _ => False
  | .outgrown, _, _ => False

theorem boxed_keep {A B : World} {row : Option Nat} {b : Nat} {t : TypeId} {v : Value} (h : Boxed A b t v) (hg : A.grownBy B row) (hr : ∀ r, row = some r → ∃ o : Obj, A.heap[r]? = some o ∧ o.isCells = false) : Boxed B b t v :=
  boxed_own b t (fun _ : Unit => v) () A B row h hg hr
theorem row_keep {A B : World} {row : Option Nat} {lo : Nat} {e : TypeId} {size n : Nat} {v : Value} {xs : List Value} (h : A.ownsRow lo e size v n xs) (hg : A.grownBy B row) (hr : ∀ r, row = some r → ∃ o : Obj, A.heap[r]? = some o ∧ o.isCells = false) : B.ownsRow lo e size v n xs := by
  refine h.kept hg ?_
  cases hv : v.ownBlock with
  | none => exact .inl rfl
  | some g =>
    refine .inr fun e => ?_
    obtain ⟨o, ho, hc⟩ := hr g e.symm
    rcases h.2 with ⟨rfl, _⟩ | ⟨g', cap, cur, rfl, _, hg', _⟩
    · simp [Value.ownBlock] at hv
    · simp [Value.ownBlock] at hv
      subst hv
      rw [hg'] at ho
      cases ho
      cases hc
theorem boxed_below {A B : World} {b : Nat} {t : TypeId} {v : Value} (h : Boxed A b t v) (hb : Below A.heap.size A B) : Boxed B b t v := (hb.block b h.lt).trans h
theorem keeps_below {A B : World} (n : Nat) (hb : Below A.heap.size A B) : KeepsFrom n A B :=
  ⟨hb.size, fun k _ _ hk _ => (hb.block k (Array.getElem?_eq_some_iff.1 hk).1).trans hk⟩
theorem keeps_set {A B : World} {n : Nat} (h : KeepsFrom n A B) (a : Addr) (v : Value) : KeepsFrom n A (B.setCell a v) := h.trans ((KeepsOthers.setCell _ _ _).from _)
/-- behind the function's return: the block of the rounds' deferred calls is let go -/
theorem boxed_end {W : World} {D b : Nat} {t : TypeId} {v : Value} (h : Boxed W b t v) (hK : W.heap[D]? = some (.deferred (some []))) : Boxed (W.putObj D (.deferred none)) b t v :=
  boxed_keep h (grownBy_putObj' _ D (.deferred none)) (fun r e => by cases e; exact ⟨_, hK, rfl⟩)
theorem below_end {w W : World} {D : Nat} (h : Below w.heap.size w W) (hD : w.heap.size ≤ D) (hK : W.heap[D]? = some (.deferred (some []))) : Below w.heap.size w (W.putObj D (.deferred none)) :=
  h.trans (belowK_b (w := w) (Nat.le_refl _) W D _ _ hD hK rfl rfl)
end It
end Go.Proofs.Yteiniahikhiadaa
