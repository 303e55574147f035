/-
  sector: Write.
-/
import Derived.Test.YteiniahikhiadaaSeG
namespace Go.Proofs.Yteiniahikhiadaa
open Go.RowKit Go.Maps
namespace Se
open Ce

theorem rising_len (hi : Int) : ∀ (l : List Int) (lo : Int), l.Pairwise (· < ·) → (∀ x ∈ l, lo ≤ x ∧ x < hi) → lo ≤ hi → (l.length : Int) ≤ hi - lo
  | [], lo, _, _, h => by simp; omega
  | x :: r, lo, hp, hb, h => by
    rw [List.pairwise_cons] at hp
    have hx := hb x (by simp)
    have := rising_len hi r (x + 1) hp.2 (fun y hy => ⟨by have := hp.1 y hy; omega, (hb y (List.mem_cons_of_mem _ hy)).2⟩) (by omega)
    simp only [List.length_cons, Int.natCast_add, Int.cast_ofNat_Int]
    omega
section
variable {w w' : World} {base d sb mb : Nat} {D D' : Dv}
theorem DvAt.rising (h : DvAt w base d sb mb D) : ((bm D.dm).map (·.1)).Pairwise (· < ·) := by
  rw [List.pairwise_map]
  exact (h.map.sorted keyedI).imp (fun {p q} h => by simpa [intK] using h)
theorem DvAt.short (h : DvAt w base d sb mb D) : (bm D.dm).length ≤ 16384 := by
  have h1 := rising_len D.sure.length ((bm D.dm).map (·.1)) 0 h.rising (fun x hx => by
    obtain ⟨p, hp, rfl⟩ := List.mem_map.1 hx
    obtain ⟨q, hq, rfl⟩ := List.mem_map.1 hp
    have := h.ok.dm q hq
    exact ⟨this.1, this.2.1⟩) (by omega)
  rw [List.length_map] at h1
  have := h.len.2
  omega
theorem DvAt.mapped (h : DvAt w base d sb mb D) {m : List (Int × Blk)} (hg : w.grownBy w' (some mb)) (hm : GMap intK w' Try.prog 3 mb (bm m)) (hok : OkD { D with dm := m }) : DvAt w' base d sb mb { D with dm := m } :=
  ⟨h.ob.kept hg (fun e => h.ne.2.1 (Option.some.inj e)), h.sure.kept (hg.block sb h.sure.lt (fun e => h.ne.2.2 (Option.some.inj e))) hg.size, hm, hok, h.ne, h.lo, h.len⟩
theorem Dev.of_map (hg : w.grownBy w' (some mb)) : Dev d sb mb w w' := Kept.of_grown hg fun _ hi => ⟨hi.1, fun e => hi.2.2.2 (Option.some.inj e)⟩
theorem Dev.of_sure (hg : w.grownBy w' (some sb)) : Dev d sb mb w w' := Kept.of_grown hg fun _ hi => ⟨hi.1, fun e => hi.2.2.1 (Option.some.inj e)⟩
theorem Dev.of_below (hb : Below w.heap.size w w') : Dev d sb mb w w' := Kept.of_below hb fun _ hi => hi.1
theorem Dev.trans {w'' : World} (h : Dev d sb mb w w') (k : Dev d sb mb w' w'') : Dev d sb mb w w'' := Kept.trans h (Kept.mono k fun _ hi => ⟨Nat.lt_of_lt_of_le hi.1 (Kept.size h), hi.2⟩)
theorem Dev.below {B : Nat} (h : Dev d sb mb w w') (hB : B ≤ w.heap.size) (hd : B ≤ d ∧ B ≤ sb ∧ B ≤ mb) : Below B w w' := Kept.below h fun i hi => ⟨by omega, by omega, by omega, by omega⟩
theorem bytes_range {lo hi : Nat} {A : Option Addr} {n c : Nat} {bl : List UInt8} (h : BytesAt w lo hi (.slice A n c) bl) (hl : 0 < bl.length) : ∃ b o, A = some ⟨b, o, none⟩ ∧ lo ≤ b ∧ b < hi ∧ w.rangeAt b o (bytesV bl) := by
  obtain ⟨b, o, e, h1, h2, -⟩ := h.cellAt hl
  subst e
  refine ⟨b, o, rfl, h1, h2, fun j v hv => ?_⟩
  have hj : j < bl.length := by
    have := (List.getElem?_eq_some_iff.1 hv).1
    simpa [bytesV] using this
  obtain ⟨b', o', e', -, -, hc⟩ := h.cellAt hj
  cases e'
  rw [hc, ← hv]
  unfold bytesV
  rw [List.getElem?_map, List.getElem?_eq_getElem hj]
  rfl
set_option maxRecDepth 100000 in
set_option maxHeartbeats 4000000 in
theorem write_good (h : DvAt w base d sb mb D) (ho : offD D = false) (i : Int) (bl : List UInt8) (v : Value) (lo hi : Nat) (hI : BytesAt w lo hi v bl) (hhi : hi ≤ w.heap.size) (hd : d < lo) (hmlo : mb < lo) (hi0 : 0 ≤ i) (hi1 : i < D.sure.length) (hbl : bl.length = 64) :
    Calls Try.prog 38 #[.pointer (some ⟨d, 0, none⟩), .int .i64 i, v] w fun e w' => e = .returned (.int .i64 0) ∧ DvAt w' base d sb mb { spendD D with dm := bPut D.dm i bl, wr := wrap64 (D.wr + 1) } ∧ Dev d sb mb w w' := by
  obtain ⟨y0, y1, -⟩ := Ob.dev h.ob
  have cM := Lib.hid (made_calls d mb w y1)
  have cI := is_calls h i
  have e1 : decide (0 ≤ i ∧ i < (D.sure.length : Int)) = true := by simp; omega
  rw [e1] at cI
  have CI := Lib.hid cI
  have CS := Lib.hid (spend_calls h ho)
  have hW := h.ok.write i bl
  have eW : (writeD D i bl).1 = { spendD D with dm := bPut D.dm i bl, wr := wrap64 (D.wr + 1) } := by
    unfold writeD
    rw [if_neg (by omega), ho]
    rfl
  rw [eW] at hW
  have hln := h.len.2
  have hOK := Lib.hid (show OkD { spendD D with dm := bPut D.dm i bl } from ⟨hW.sure, hW.dm, hW.left, by dsimp only; rw [spendD_wr]; exact h.ok.wr, hW.fl⟩)
  have HW := Lib.hid hW
  have HDM := Lib.hid (spendD_dm D)
  have HWR := Lib.hid (spendD_wr D)
  obtain ⟨A, c, rfl, hc1, hc2⟩ := hI.form
  unfold maxLen at hc2
  rw [hbl]
  rw [hbl] at hI hc1
  have hkey := Lib.hid (keyI (k := i) (by omega) (by omega))
  have HI := Lib.hid hI
  have HBL := Lib.hid hbl
  clear cI e1 h ho hI hbl eW hW
  generalize D.sure.length = n at *
  go_enter Try.func38, Try.ntmps38
  go_wp2_with fail
  refine cM.out.mono ?_
  rintro e W ⟨rfl, rfl⟩
  go_wp2_with fail
  refine CI.out.mono ?_
  rintro e W ⟨rfl, rfl⟩
  go_wp2_with fail
  refine CS.out.mono ?_
  rintro e W ⟨rfl, hS, hg⟩
  have hIW : BytesAt W lo hi (.slice A 64 c) bl := Sl.grown HI.out hg hhi (fun k e => .inl (by cases e; exact hd))
  obtain ⟨bb, oo, rfl, hb1, hb2, hr⟩ := bytes_range hIW (by rw [HBL.out]; omega)
  obtain ⟨x0, x1, x2, x3, x4, -⟩ := Ob.dev hS.ob
  have HS := Lib.hid hS
  have HG := Lib.hid hg
  have hrd : W.drew.rangeAt bb oo (bytesV bl) := (World.rangeAt_drew _ _ _ _).2 hr
  have hx1 : W.drew.cell? ⟨d, 1, none⟩ = some (.map (some mb)) := x1
  clear CI CS cM y0 y1 hIW hS hg hr
  have har : ∀ V : World, (Instr.arrayAt 102 (.slice (some ⟨bb, oo, none⟩) 64 c)).run Try.prog V = .ok (.pointer (some ⟨bb, oo, none⟩)) V := fun V => by
    simp [Instr.arrayAt, run_underlying Try.underlying102, go_sem]
  go_wp2_with fail
  refine Pu.regionM [(0, false), (1, false), (2, false), (3, false), (4, false), (5, false), (6, false), (7, false), (8, true)] (fun V => V.cell? ⟨d, 1, none⟩ = some (.map (some mb)) ∧ V.rangeAt bb oo (bytesV bl)) hmx (by kernel_rfl) (by kernel_rfl) (by kernel_rfl) ⟨hx1, hrd⟩ rfl ?_
  simp only [Pu.named, List.filterMap_cons, List.filterMap_nil, List.getElem?_toArray, List.getElem?_cons_succ, List.getElem?_cons_zero, Option.map_some]
  iterate 6 (apply Pu.WalkM.on (by rfl)
             · rintro V ⟨g1, gr⟩
               go_wp2_with fail
               refine ⟨rfl, ?_, rfl⟩
               try simp only [Act.put, List.setIfInBounds_toArray, List.set_cons_succ, List.set_cons_zero]
               rfl
             simp only [Act.put, List.setIfInBounds_toArray, List.set_cons_succ, List.set_cons_zero])
  apply Pu.WalkM.on (by rfl)
  · rintro V ⟨g1, gr⟩
    go_wp2_with fail
    refine ⟨rfl, ?_, rfl⟩
    try simp only [Act.put, List.setIfInBounds_toArray, List.set_cons_succ, List.set_cons_zero]
    rfl
  simp only [Act.put, List.setIfInBounds_toArray, List.set_cons_succ, List.set_cons_zero]
  apply Pu.WalkM.on (by rfl)
  · rintro V ⟨g1, gr⟩
    refine wpList_load_mid rfl 102 (.tmp 31) rfl bb oo rfl (bytesV bl) _ gr Try.underlying102 rfl (by rw [bytesV_length, HBL.out]; kernel_rfl) ?_
    go_wp2_with fail
    refine ⟨rfl, ?_, rfl⟩
    try simp only [Act.put, List.setIfInBounds_toArray, List.set_cons_succ, List.set_cons_zero]
    rfl
  simp only [Act.put, List.setIfInBounds_toArray, List.set_cons_succ, List.set_cons_zero]
  refine Pu.WalkM.make (by rfl) ?_
  rintro V rfl
  have hm7 : GMap intK W.drew Try.prog 3 mb (bm (spendD D).dm) := HS.out.map
  have hsh := HS.out.short
  refine wpList_put_g rfl (.tmp 28) (.tmp 29) (.tmp 32) _ rfl 3 _ keyedI Try.underlying79 rfl hm7 (by unfold maxLen; omega) _ (blkV bl) _ rfl rfl hkey.out ?_
  intro W3 hM3 hg3
  rw [bm_put, HDM.out] at hM3
  have hg7 : W.grownBy W3 (some mb) := ⟨hg3.os, hg3.tape, hg3.output, hg3.size, hg3.block⟩
  have hne := HS.out.ne
  have hbW : bb < W.heap.size := by have := HG.out.size; omega
  have gr3 : W3.rangeAt bb oo (bytesV bl) := range_of_block (hg3.block bb hbW (fun e => by have := Option.some.inj e; omega)) hrd
  have g13 : W3.cell? ⟨d, 1, none⟩ = some (.map (some mb)) := hg3.cell hx1 (fun e => hne.2.1 (Option.some.inj e))
  refine ⟨rfl, undef, _, (fun W => W = W3), rfl, rfl, (fun W h => by rw [h]; exact ⟨g13, gr3⟩), (.inr (fun _ h => h)), Pu.WalkM.nil ?_⟩
  rintro W' rfl
  simp only [Act.put]
  have HD3 := Lib.hid (HS.out.mapped hg7 hM3 hOK.out)
  obtain ⟨z0, z1, z2, z3, z4, -⟩ := Ob.dev HD3.out.ob
  have hst := HD3.out.ob.set 4 (.int .i64 (wrap64 (D.wr + 1)))
  have hg8 := grownBy_set W' d 4 (.int .i64 (wrap64 (D.wr + 1)))
  have HFIN := Lib.hid (HD3.out.own (D' := { spendD D with dm := bPut D.dm i bl, wr := wrap64 (D.wr + 1) }) hg8 hst rfl rfl HW.out)
  have HDV := Lib.hid ((Dev.of_own (sb := sb) (mb := mb) HG.out).trans ((Dev.of_map hg7).trans (Dev.of_own hg8)))
  dsimp only at z4
  rw [HWR.out] at z4
  have cA := Lib.hid (add_calls 4 D.wr W' z4 (HD3.out.ob.frozen 4))
  clear x0 x1 x2 x3 x4 hM3 hg3 gr3 g13 hst hg8 hm7 hrd hx1
  go_wp2_with fail
  refine cA.out.mono ?_
  rintro e W4 ⟨rfl, rfl⟩
  go_wp2
  go_ret
  exact ⟨rfl, HFIN.out, HDV.out⟩
end
end Se
end Go.Proofs.Yteiniahikhiadaa
