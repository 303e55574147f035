/-
  sector: the laws' looks.
-/
import Derived.Test.YteiniahikhiadaaSgH
import Derived.Test.YteiniahikhiadaaPi
import Derived.Test.YteiniahikhiadaaStr
import Derived.Test.YteiniahikhiadaaSeT
namespace Go.Proofs.Yteiniahikhiadaa
open Go.RowKit Go.Maps
namespace Se
open Ce It Kp
attribute [local go_sem] Oper.semAt_some
def atN (w : World) (b : Nat) : Nat := match w.cell? ⟨b, 0, none⟩ with | some (.int _ n) => n.toNat | _ => 0
theorem atN_ob {w : World} {b : Nat} {t : TypeId} {k : Nat} (h : Ob w b t #[.int .i64 k]) : atN w b = k := by
  unfold atN
  rw [h.cell (j := 0) (v := .int .i64 k) rfl]
  rfl
theorem SureAt.bytes {w : World} {sb : Nat} {bs : List Blk} (h : SureAt w sb bs) (hbs : ∀ c ∈ bs, c.length = 64) {i : Nat} (hi : i < bs.length) : BytesAt w 0 w.heap.size (.slice (some ⟨sb, i * 64, none⟩) 64 64) (bs.getD i []) := by
  have h64 := hbs _ (List.getElem_mem hi)
  have eg : bs.getD i [] = bs[i] := by rw [List.getD_eq_getElem?_getD, List.getElem?_eq_getElem hi]; rfl
  rw [eg]
  refine ⟨by rw [bytesV_length]; omega, _, _, by rw [h64], by rw [h64]; exact Nat.le_refl _, by unfold maxLen; omega, fun _ => ⟨sb, i * 64, rfl, Nat.zero_le _, h.lt, fun j hj => ?_⟩⟩
  have hjl : j < (bytesV bs[i]).length := by rw [bytesV_length]; omega
  rw [List.getElem?_eq_getElem hjl]
  exact h.at_ i hi j _ (List.getElem?_eq_getElem hjl)
set_option maxRecDepth 100000 in
set_option maxHeartbeats 16000000 in
theorem looks_calls {w : World} {base d sb mb : Nat} {D : Dv} {rb x xs lb tb : Nat} {R : Rv} (h : DvAt w base d sb mb D) (hr : RvAt w rb x xs lb tb R) (hA : Along D R) :
    Calls Try.prog 46 #[.pointer (some ⟨d, 0, none⟩), .pointer (some ⟨x, 0, none⟩)] w fun e w' => e = .returned (.bool true) ∧ Below w.heap.size w w' := by
  have hen := eql_nil
  have HK := Lib.hid h.keys
  have HA := Lib.hid hA
  have hx := hr.ob
  have hrt := hr.dirty
  unfold revC at hx
  rw [hA.wr, hA.fl] at hx
  have hm : R.sure.length = D.sure.length := by rw [hA.sure]
  rw [hm] at hx
  have hlen := h.len
  obtain ⟨O, hO⟩ : ∃ O, O = offD D := ⟨_, rfl⟩
  have HO := Lib.hid hO
  have HR := Lib.hid hr
  have H := Lib.hid h
  have HRL := Lib.hid hm
  obtain ⟨m, hmm⟩ : ∃ m, m = D.sure.length := ⟨_, rfl⟩
  rw [← hmm] at hx hlen
  have HM := Lib.hid hmm
  have HX := Lib.hid hx
  have HT := Lib.hid hrt
  clear hmm hm hO h hr hA hx hrt
  refine (callsIn_wide (n := 6)).1 ?_
  refine callsIn_of_wp_marks Try.func46 rfl trivial ?_ rfl
  simp only [Try.ntmps46, List.size_toArray, List.length_cons, List.length_nil, Nat.reduceAdd, Nat.reduceSub, Array.replicate_succ, Array.replicate_zero, List.push_toArray, List.append_toArray, List.nil_append, List.cons_append]
  gi_wp2_with (refine ⟨trivial, ?_⟩; gi_at_call 47; refine (callsIn_wide.2 (dirty_calls _ rfl _)).mono ?_; rintro e w' ⟨rfl, rfl⟩)
  have a1 := Below.refl w.heap.size w
  have b0 := Ob.new w 50 #[.pointer (some ⟨x, 0, none⟩)]
  have a2 := a1.alloc (Nat.le_refl _) (.cells #[.pointer (some ⟨x, 0, none⟩)] 50)
  have b1 := Ob.new (w.alloc (.cells #[.pointer (some ⟨x, 0, none⟩)] 50)) 4 #[.bool false]
  have a3 := a2.alloc (by simp) (.cells #[.bool false] 4)
  have b2 := Ob.new ((w.alloc (.cells #[.pointer (some ⟨x, 0, none⟩)] 50)).alloc (.cells #[.bool false] 4)) 24 #[.pointer (some ⟨d, 0, none⟩)]
  have hB3 := a3.alloc (by simp; omega) (.cells #[.pointer (some ⟨d, 0, none⟩)] 24)
  replace b0 := (b0.alloc (.cells #[.bool false] 4)).alloc (.cells #[.pointer (some ⟨d, 0, none⟩)] 24)
  replace b1 := b1.alloc (.cells #[.pointer (some ⟨d, 0, none⟩)] 24)
  simp only [World.size_alloc] at b1 b2
  have hsz3 : (((w.alloc (.cells #[.pointer (some ⟨x, 0, none⟩)] 50)).alloc (.cells #[.bool false] 4)).alloc (.cells #[.pointer (some ⟨d, 0, none⟩)] 24)).heap.size = w.heap.size + 3 := by simp
  generalize (((w.alloc (.cells #[.pointer (some ⟨x, 0, none⟩)] 50)).alloc (.cells #[.bool false] 4)).alloc (.cells #[.pointer (some ⟨d, 0, none⟩)] 24)) = w3 at *
  clear a1 a2 a3
  refine ⟨trivial, (callsIn_wide.2 (counts_calls (H.out.same hB3))).mono ?_⟩
  rintro e w4 ⟨rfl, hb4⟩
  have hB4 := hB3.trans (hb4.mono hB3.size)
  replace b0 := b0.same hb4
  replace b1 := b1.same hb4
  replace b2 := b2.same hb4
  have hs4 : w.heap.size + 3 ≤ w4.heap.size := by have := hb4.size; omega
  have HB4 := Lib.hid hB4
  clear hB3 hb4 hsz3 hB4
  gi_wp2
  have hdr := HB4.out.drew
  have d0 : w4.drew.cell? ⟨w.heap.size, 0, none⟩ = some (.pointer (some ⟨x, 0, none⟩)) := b0.cell (j := 0) rfl
  have kx := HX.out.same hdr
  have x0 := kx.cell (j := 0) (v := .slice (some ⟨xs, 0, none⟩) m m) rfl
  have x1 := kx.cell (j := 1) (v := .slice (some ⟨lb, 0, none⟩) m m) rfl
  have x2 := kx.cell (j := 2) (v := .slice (some ⟨tb, 0, none⟩) m m) rfl
  have x5 := kx.cell (j := 5) (v := .int .i64 D.wr) rfl
  have x6 := kx.cell (j := 6) (v := .int .i64 D.fl) rfl
  have cO := off_calls (H.out.same hdr)
  rw [← HO.out] at cO
  have CO := Lib.hid cO
  have cR := roff_calls (HR.out.same hdr)
  rw [HA.out.off, ← HO.out] at cR
  have CR := Lib.hid cR
  have cL := len_calls (H.out.same hdr)
  rw [← HM.out] at cL
  have CL := Lib.hid cL
  clear cO cR cL hdr
  refine wpIn_wide.2 ?_
  refine Pu.regionW (fun V => V = w4.drew) hmx (by kernel_rfl) (by kernel_rfl) rfl rfl ?_
  iterate 35 (first
    | (refine Pu.Walk.off (by rfl) ?_; simp only [Act.put, List.setIfInBounds_toArray, List.set_cons_succ, List.set_cons_zero])
    | (apply Pu.Walk.on (by rfl)
       · rintro V rfl
         go_wp2_with (first | (go_at_call 42; refine CO.out.mono ?_; rintro e W' ⟨rfl, rfl⟩) | (go_at_call 58; refine CR.out.mono ?_; rintro e W' ⟨rfl, rfl⟩) | (go_at_call 43; refine CL.out.mono ?_; rintro e W' ⟨rfl, rfl⟩))
         refine ⟨rfl, ?_, rfl⟩
         try simp only [Act.put, List.setIfInBounds_toArray, List.set_cons_succ, List.set_cons_zero]
         rfl
       simp only [Act.put, List.setIfInBounds_toArray, List.set_cons_succ, List.set_cons_zero]))
  refine Pu.Walk.nil (fun V hV => ?_)
  rw [hV]
  clear hV V
  clear d0 x0 x1 x2 x5 x6 hen kx CO CR CL
  gi_wp2
  have b4 : Ob (w4.alloc (.cells #[.int .i64 0] 3)).drew w4.heap.size 3 #[.int .i64 0] := Ob.new w4 3 #[.int .i64 0]
  have e0 : Ob ((w4.alloc (.cells #[.int .i64 0] 3)).drew) w.heap.size 50 #[.pointer (some ⟨x, 0, none⟩)] := b0.alloc (.cells #[.int .i64 0] 3)
  have e1 : Ob ((w4.alloc (.cells #[.int .i64 0] 3)).drew) (w.heap.size + 1) 4 #[.bool false] := b1.alloc (.cells #[.int .i64 0] 3)
  have e2 : Ob ((w4.alloc (.cells #[.int .i64 0] 3)).drew) (w.heap.size + 1 + 1) 24 #[.pointer (some ⟨d, 0, none⟩)] := b2.alloc (.cells #[.int .i64 0] 3)
  have hB5 : Below w.heap.size w (w4.alloc (.cells #[.int .i64 0] 3)).drew := (HB4.out.alloc HB4.out.size (.cells #[.int .i64 0] 3)).drew
  have hs5 : ((w4.alloc (.cells #[.int .i64 0] 3)).drew).heap.size = w4.heap.size + 1 := by show (w4.alloc (.cells #[.int .i64 0] 3)).heap.size = _; rw [World.size_alloc]
  clear b0 b1 b2 HB4
  generalize (w4.alloc (.cells #[.int .i64 0] 3)).drew = w5 at *
  generalize hab : w4.heap.size = ab at *
  clear hab w4
  have HB5 := Lib.hid hB5
  have hM5 := H.out.same hB5
  clear hB5
  refine Rr.range_reads (n := 6) rfl (by omega) (gf := 72) rfl trivial (enters_of Try.func72 (by kernel_rfl) rfl)
    (dirty_reads 5 (by omega) (w.heap.size + 1 + 1) (fun i => i = ab) hM5 e2 (fun i hi => by omega)) (Below.refl _ _) (fun h k => h.trans k) (fun W l r r' _ h => KpX.loop h) rfl
    (fun pre W => Ob W w.heap.size 50 #[.pointer (some ⟨x, 0, none⟩)] ∧ Ob W (w.heap.size + 1) 4 #[.bool false] ∧ Ob W ab 3 #[.int .i64 (nextAt pre)] ∧ Below w.heap.size w5 W)
    (fun c pre W => False)
    (fun s A B row hs hg hr => ⟨ob_keep hs.1 hg (fun r e => (hr r e).2), ob_keep hs.2.1 hg (fun r e => (hr r e).2), ob_keep hs.2.2.1 hg (fun r e => (hr r e).2), ownFrom_below (B := w5.heap.size) (by omega) (by omega) s A B row hs.2.2.2 hg hr⟩)
    (fun c s A B row hs hg hr => hs.elim)
    ⟨e0, e1, b4, Below.refl _ _⟩ ?round ?done ?stop
  case stop => exact fun Dd c pre W _ _ h _ => h.elim
  case round =>
    rintro l pre k v W hl ⟨hb0, hb1, hb2, hB⟩ hpre rfl
    obtain ⟨g1, g2, g3, g4, g5⟩ := dirty_gap HA.out HK.out hpre
    obtain ⟨kn, rfl⟩ := Int.eq_ofNat_of_zero_le (show 0 ≤ k by omega)
    have hnx := nextAt_snoc pre (kn : Int)
    simp only [Int.toNat_natCast] at g1 g2 g4 g5 hnx
    rw [← HM.out] at g2
    have G4 := Lib.hid g4
    have G5 := Lib.hid g5
    have HNX := Lib.hid hnx
    clear g3 g4 g5 hnx hpre
    gi_wp2
    refine ⟨keeps_below _ (Below.refl _ W), KpX.refl _ _, fun W2 hg2 ho2 => ?_⟩
    replace hb0 := ob_keep hb0 hg2 (fun r e => by cases e; exact ho2)
    replace hb1 := ob_keep hb1 hg2 (fun r e => by cases e; exact ho2)
    replace hb2 := ob_keep hb2 hg2 (fun r e => by cases e; exact ho2)
    replace hB : Below w.heap.size w5 W2 := hB.grown hg2 (by have := hB.size; omega) (fun k e => by cases e; omega)
    clear ho2 hg2
    generalize hna : nextAt pre = n0 at *
    clear hna
    gi_wp2
    gi_loopw [75] (fun _ wr => ∃ j : Nat, n0 ≤ j ∧ j ≤ kn ∧ Ob wr w.heap.size 50 #[.pointer (some ⟨x, 0, none⟩)] ∧ Ob wr (w.heap.size + 1) 4 #[.bool false] ∧ Ob wr ab 3 #[.int .i64 j] ∧ Below w.heap.size w5 wr ∧ KeepsFrom w5.heap.size W2 wr ∧ KpX (fun i => i = ab) W2 wr) (fun _ wr => kn - atN wr ab)
    case atStart => exact ⟨n0, Nat.le_refl _, g1, hb0, hb1, hb2, hB, keeps_below _ (Below.refl _ _), KpX.refl _ _⟩
    case round =>
      obtain ⟨j, hj0, hj1, q0, q1, q2, qB, qK, qX⟩ := hrel
      have QB := Lib.hid qB
      have QK := Lib.hid qK
      have QX := Lib.hid qX
      have hbw := HB5.out.trans qB
      have kx := HX.out.same hbw
      have kt := HT.out.same hbw
      have hjR : j < R.dirty.length := by rw [HR.out.ok.dl, HRL.out, ← HM.out]; omega
      have hdj := kt.cell (boolC_get hjR)
      have d0 := q0.cell (j := 0) (v := .pointer (some ⟨x, 0, none⟩)) rfl
      have d2 := q2.cell (j := 0) (v := .int .i64 j) rfl
      have x0 := kx.cell (j := 0) (v := .slice (some ⟨xs, 0, none⟩) m m) rfl
      have x1 := kx.cell (j := 1) (v := .slice (some ⟨lb, 0, none⟩) m m) rfl
      have x2 := kx.cell (j := 2) (v := .slice (some ⟨tb, 0, none⟩) m m) rfl
      have x5 := kx.cell (j := 5) (v := .int .i64 D.wr) rfl
      have x6 := kx.cell (j := 6) (v := .int .i64 D.fl) rfl
      have l1 : (0 : Int) ≤ (j : Int) := by omega
      have l2 : (j : Int) < (m : Int) := by omega
      have l3 : decide (j < m) = true := by simp; omega
      have l4 : decide ((j : Int) < (m : Int)) = true := by simp; omega
      clear qB qK qX kx kt hbw hjR hb0 hb1 hb2 hB
      by_cases hlt : j < kn
      · have hdf := G4.out j hj0 hlt
        rw [hdf] at hdj
        clear hdf
        gi_wp2
        refine Pi.regionIn [(0, false), (1, false), (2, false), (3, false), (4, false), (5, false), (6, false), (7, false), (8, false), (9, false), (10, false), (11, false), (12, false), (13, false), (14, false), (15, false), (16, false)] (fun V => V = wr.drew) hmx (by kernel_rfl) (by kernel_rfl) (by kernel_rfl) (by kernel_rfl) rfl rfl ?_
        simp only [Pu.named, List.filterMap_cons, List.filterMap_nil, List.getElem?_toArray, List.getElem?_cons_succ, List.getElem?_cons_zero, Option.map_some]
        iterate 17 (first
          | (refine Pu.WalkM.off (by rfl) ?_; simp only [Act.put, List.setIfInBounds_toArray, List.set_cons_succ, List.set_cons_zero])
          | (apply Pu.WalkM.on (by rfl)
             · rintro V rfl
               go_wp2_with fail
               refine ⟨rfl, ?_, rfl⟩
               try simp only [Act.put, List.setIfInBounds_toArray, List.set_cons_succ, List.set_cons_zero]
               rfl
             simp only [Act.put, List.setIfInBounds_toArray, List.set_cons_succ, List.set_cons_zero]))
        refine Pu.WalkM.nil ?_
        intro V hV
        rw [hV]
        clear hV V
        refine Pi.OnlyN.out ?_
        clear d0 d2 x0 x1 x2 x5 x6 hdj l3 l4
        have d2 := q2.cell (j := 0) (v := .int .i64 j) rfl
        have f2 := q2.frozen 0
        have l5 : (j : Int) < 16384 := by omega
        gi_wp2
        go_roundw
        case rel =>
          refine ⟨j + 1, by omega, by omega, q0.other (by omega) 0 _, q1.other (by omega) 0 _, ?_, ?_, ?_, ?_⟩
          · have := q2.set 0 (.int .i64 ((j : Int) + 1))
            exact this
          · exact (QB.out.grown (grownBy_set wr ab 0 (.int .i64 ((j : Int) + 1))) (by have := QB.out.size; omega) (fun k e => by cases e; omega)).drew
          · have t := keeps_set QK.out ⟨ab, 0, none⟩ (.int .i64 ((j : Int) + 1))
            exact ⟨t.size, t.same⟩
          · have t := QX.out.trans (KpX.of_grown (X := fun i => i = ab) (grownBy_set wr ab 0 (.int .i64 ((j : Int) + 1))) (fun g e => by cases e; rfl))
            exact ⟨t.os, t.tape, t.output, t.size, t.same⟩
        case measure =>
          have e1 := atN_ob q2
          have e2 : atN (wr.setCell ⟨ab, 0, none⟩ (.int .i64 ((j : Int) + 1))).drew ab = j + 1 := atN_ob (k := j + 1) (q2.set 0 (.int .i64 ((j : Int) + 1)))
          rw [e1, e2]
          omega
      · obtain rfl : j = kn := by omega
        have hdf := G5.out
        rw [hdf] at hdj
        clear hdf
        gi_wp2
        refine Pi.regionIn [(0, false), (1, false), (2, false), (3, false), (4, false), (5, false), (6, false), (7, false), (8, false), (9, false), (10, false), (11, false), (12, false), (13, false), (14, false), (15, false), (16, false)] (fun V => V = wr.drew) hmx (by kernel_rfl) (by kernel_rfl) (by kernel_rfl) (by kernel_rfl) rfl rfl ?_
        simp only [Pu.named, List.filterMap_cons, List.filterMap_nil, List.getElem?_toArray, List.getElem?_cons_succ, List.getElem?_cons_zero, Option.map_some]
        iterate 17 (first
          | (refine Pu.WalkM.off (by rfl) ?_; simp only [Act.put, List.setIfInBounds_toArray, List.set_cons_succ, List.set_cons_zero])
          | (apply Pu.WalkM.on (by rfl)
             · rintro V rfl
               go_wp2_with fail
               refine ⟨rfl, ?_, rfl⟩
               try simp only [Act.put, List.setIfInBounds_toArray, List.set_cons_succ, List.set_cons_zero]
               rfl
             simp only [Act.put, List.setIfInBounds_toArray, List.set_cons_succ, List.set_cons_zero]))
        refine Pu.WalkM.nil ?_
        intro V hV
        rw [hV]
        clear hV V
        refine Pi.OnlyN.out ?_
        clear d0 d2 x0 x1 x2 x5 x6 hdj l3 l4
        have d2 := q2.cell (j := 0) (v := .int .i64 j) rfl
        have f2 := q2.frozen 0
        have l5 : (j : Int) < 16384 := by omega
        gi_wp2
        have t1 := keeps_set QK.out ⟨ab, 0, none⟩ (.int .i64 ((j : Int) + 1))
        have t := QX.out.trans (KpX.of_grown (X := fun i => i = ab) (grownBy_set wr ab 0 (.int .i64 ((j : Int) + 1))) (fun g e => by cases e; rfl))
        refine ⟨⟨t1.size, t1.same⟩, ⟨t.os, t.tape, t.output, t.size, t.same⟩, q0.other (by omega) 0 _, q1.other (by omega) 0 _, ?_, ?_⟩
        · rw [HNX.out]
          exact q2.set 0 (.int .i64 ((j : Int) + 1))
        · exact (QB.out.grown (grownBy_set wr ab 0 (.int .i64 ((j : Int) + 1))) (by have := QB.out.size; omega) (fun k e => by cases e; omega)).drew
  case done =>
    rintro Dd ks V hDd rfl ⟨hb0, hb1, hb2, hB⟩ hKd
    obtain ⟨z1, z2⟩ := dirty_end HA.out HK.out
    rw [← HM.out] at z1 z2
    have Z2 := Lib.hid z2
    clear z2
    generalize hna : nextAt (keysD D) = n0 at *
    clear hna e0 e1 e2 b4 hM5
    have hbw0 := HB5.out.trans hB
    have HBW0 := Lib.hid hbw0
    gi_wp2
    gi_loopw [89] (fun _ wr => ∃ j : Nat, n0 ≤ j ∧ j ≤ m ∧ Ob wr w.heap.size 50 #[.pointer (some ⟨x, 0, none⟩)] ∧ Ob wr (w.heap.size + 1) 4 #[.bool false] ∧ Ob wr ab 3 #[.int .i64 j] ∧ Below w.heap.size w wr ∧ wr.heap[Dd]? = some (.deferred (some []))) (fun _ wr => m - atN wr ab)
    case atStart => exact ⟨n0, Nat.le_refl _, z1, hb0, hb1, hb2, hbw0, hKd⟩
    case round =>
      obtain ⟨j, hj0, hj1, q0, q1, q2, qB, qK⟩ := hrel
      have QB := Lib.hid qB
      have QK := Lib.hid qK
      have kx := HX.out.same qB
      have kt := HT.out.same qB
      have d0 := q0.cell (j := 0) (v := .pointer (some ⟨x, 0, none⟩)) rfl
      have d2 := q2.cell (j := 0) (v := .int .i64 j) rfl
      have x0 := kx.cell (j := 0) (v := .slice (some ⟨xs, 0, none⟩) m m) rfl
      have x1 := kx.cell (j := 1) (v := .slice (some ⟨lb, 0, none⟩) m m) rfl
      have x2 := kx.cell (j := 2) (v := .slice (some ⟨tb, 0, none⟩) m m) rfl
      have x5 := kx.cell (j := 5) (v := .int .i64 D.wr) rfl
      have x6 := kx.cell (j := 6) (v := .int .i64 D.fl) rfl
      have l1 : (0 : Int) ≤ (j : Int) := by omega
      clear qB qK hb0 hb1 hb2 hB hbw0 hKd
      by_cases hlt : j < m
      · have hjR : j < R.dirty.length := by rw [HR.out.ok.dl, HRL.out, ← HM.out]; omega
        have hdj := kt.cell (boolC_get hjR)
        have hdf := Z2.out j hj0 hlt
        rw [hdf] at hdj
        have l2 : (j : Int) < (m : Int) := by omega
        have l3 : decide (j < m) = true := by simp; omega
        have l4 : decide ((j : Int) < (m : Int)) = true := by simp; omega
        clear hdf hjR kt kx
        gi_wp2
        refine wpIn_wide.2 ?_
        refine Pu.regionW (fun V => V = wr.drew) hmx (by kernel_rfl) (by kernel_rfl) rfl rfl ?_
        iterate 7 (first
          | (refine Pu.Walk.off (by rfl) ?_; simp only [Act.put, List.setIfInBounds_toArray, List.set_cons_succ, List.set_cons_zero])
          | (apply Pu.Walk.on (by rfl)
             · rintro V rfl
               go_wp2_with fail
               refine ⟨rfl, ?_, rfl⟩
               try simp only [Act.put, List.setIfInBounds_toArray, List.set_cons_succ, List.set_cons_zero]
               rfl
             simp only [Act.put, List.setIfInBounds_toArray, List.set_cons_succ, List.set_cons_zero]))
        refine Pu.Walk.nil (fun V hV => ?_)
        rw [hV]
        clear hV V
        gi_wp2
        refine wpIn_wide.2 ?_
        refine Pu.regionW (fun V => V = wr.drew.drew) hmx (by kernel_rfl) (by kernel_rfl) rfl rfl ?_
        iterate 7 (first
          | (refine Pu.Walk.off (by rfl) ?_; simp only [Act.put, List.setIfInBounds_toArray, List.set_cons_succ, List.set_cons_zero])
          | (apply Pu.Walk.on (by rfl)
             · rintro V rfl
               go_wp2_with fail
               refine ⟨rfl, ?_, rfl⟩
               try simp only [Act.put, List.setIfInBounds_toArray, List.set_cons_succ, List.set_cons_zero]
               rfl
             simp only [Act.put, List.setIfInBounds_toArray, List.set_cons_succ, List.set_cons_zero]))
        refine Pu.Walk.nil (fun V hV => ?_)
        rw [hV]
        clear hV V
        clear d0 d2 x0 x1 x2 x5 x6 hdj l3 l4
        have d2 := q2.cell (j := 0) (v := .int .i64 j) rfl
        have f2 := q2.frozen 0
        have l5 : (j : Int) < 16384 := by omega
        gi_wp2
        go_roundw
        case rel =>
          refine ⟨j + 1, by omega, by omega, q0.other (by omega) 0 _, q1.other (by omega) 0 _, ?_, ?_, ?_⟩
          · exact q2.set 0 (.int .i64 ((j : Int) + 1))
          · exact (QB.out.grown (grownBy_set wr ab 0 (.int .i64 ((j : Int) + 1))) (by have := QB.out.size; omega) (fun k e => by cases e; omega)).drew.drew
          · exact ((grownBy_set wr ab 0 (.int .i64 ((j : Int) + 1))).block Dd (Array.getElem?_eq_some_iff.1 QK.out).1 (fun e => by cases e; omega)).trans QK.out
        case measure =>
          have e1 := atN_ob q2
          have e2 := atN_ob (w := (wr.setCell ⟨ab, 0, none⟩ (.int .i64 ((j : Int) + 1))).drew.drew) (k := j + 1) (q2.set 0 (.int .i64 ((j : Int) + 1)))
          rw [e1, e2]
          omega
      · obtain rfl : m = j := by omega
        have l3 : decide (m < m) = false := by simp
        have l4 : decide ((m : Int) < (m : Int)) = false := by simp
        gi_wp2
        refine wpIn_wide.2 ?_
        refine Pu.regionW (fun V => V = wr.drew) hmx (by kernel_rfl) (by kernel_rfl) rfl rfl ?_
        iterate 7 (first
          | (refine Pu.Walk.off (by rfl) ?_; simp only [Act.put, List.setIfInBounds_toArray, List.set_cons_succ, List.set_cons_zero])
          | (apply Pu.Walk.on (by rfl)
             · rintro V rfl
               go_wp2_with fail
               refine ⟨rfl, ?_, rfl⟩
               try simp only [Act.put, List.setIfInBounds_toArray, List.set_cons_succ, List.set_cons_zero]
               rfl
             simp only [Act.put, List.setIfInBounds_toArray, List.set_cons_succ, List.set_cons_zero]))
        refine Pu.Walk.nil (fun V hV => ?_)
        rw [hV]
        clear hV V
        clear d0 d2 x0 x1 x2 x5 x6 l3 l4 kx kt
        have hM6 := H.out.same QB.out.drew
        have hR6 := HR.out.same QB.out.drew
        have cR := roff_calls hR6
        rw [HA.out.off, ← HO.out] at cR
        have CR := Lib.hid cR
        clear cR
        have HB6 := Lib.hid QB.out.drew
        have q0' : Ob wr.drew w.heap.size 50 #[.pointer (some ⟨x, 0, none⟩)] := q0
        have q1' : Ob wr.drew (w.heap.size + 1) 4 #[.bool false] := q1
        have HK6 := Lib.hid (show wr.drew.heap[Dd]? = some (.deferred (some [])) from QK.out)
        have HM6 := Lib.hid hM6
        have HR6 := Lib.hid hR6
        clear q0 q1 q2 QB QK hM6 hR6
        generalize wr.drew = w6 at *
        have d0 := q0'.cell (j := 0) (v := .pointer (some ⟨x, 0, none⟩)) rfl
        gi_wp2
        refine ⟨trivial, (callsIn_wide.2 CR.out).mono ?_⟩
        rintro e W' ⟨rfl, rfl⟩
        cases O with
        | true =>
          gi_wp2
          refine ⟨trivial, (callsIn_wide.2 (read_off HM6.out HO.out.symm 0 (by omega) (by rw [← HM.out]; omega))).mono ?_⟩
          rintro e W' ⟨rfl, rfl⟩
          have p1 := q1'
          have PB := HB6
          have PK := HK6
          obtain ⟨V2, hV2⟩ : ∃ V2, V2 = w6 := ⟨_, rfl⟩
          rw [← hV2] at p1 PB PK
          have hb22 := (show Ob V2 (w.heap.size + 1) 4 #[.bool false] from p1).set 0 (.bool true)
          have hBB := (show Below w.heap.size w V2 from PB.out).grown (grownBy_set V2 (w.heap.size + 1) 0 (.bool true)) (by have := PB.out.size; omega) (fun k e => by cases e; omega)
          have hK2 : (V2.setCell ⟨w.heap.size + 1, 0, none⟩ (.bool true)).heap[Dd]? = some (.deferred (some [])) := ((grownBy_set V2 (w.heap.size + 1) 0 (.bool true)).block Dd (Array.getElem?_eq_some_iff.1 PK.out).1 (fun e => by cases e; omega)).trans PK.out
          have f1 := p1.frozen 0
          have z1 := p1.cell (j := 0) (v := .bool false) rfl
          rw [hV2] at f1 z1
          gi_wp2
          rw [← hV2]
          refine ⟨by simp, .inl ⟨_, _, rfl, run_takeDeferred hK2, ?_⟩⟩
          have c4 := (boxed_end hb22 hK2).cell
          refine ⟨.bool true, ?_, rfl, below_end hBB (by omega) hK2⟩
          simp [results, Try.f46, go_sem, c4]
        | false =>
          gi_wp2
          gi_loopw [12] (fun v12 wr => ∃ i : Nat, i ≤ m ∧ v12 = .int .i64 i ∧ Ob wr w.heap.size 50 #[.pointer (some ⟨x, 0, none⟩)] ∧ Ob wr (w.heap.size + 1) 4 #[.bool false] ∧ Below w.heap.size w wr ∧ wr.heap[Dd]? = some (.deferred (some []))) (fun v12 _ => m - (intOf v12).toNat)
          case atStart => exact ⟨0, by omega, rfl, q0', q1', HB6.out, HK6.out⟩
          case round =>
            obtain ⟨i, hi, rfl, p0, p1, pB, pK⟩ := hrel
            have PB := Lib.hid pB
            have PK := Lib.hid pK
            clear pB pK q0' q1' HM6 HR6 HB6 HK6 d0
            have kx := HX.out.same PB.out
            have d0 := p0.cell (j := 0) (v := .pointer (some ⟨x, 0, none⟩)) rfl
            have x1 := kx.cell (j := 1) (v := .slice (some ⟨lb, 0, none⟩) m m) rfl
            by_cases hlt : i < m
            · have l3 : decide (i < m) = true := by simp; omega
              have l4 : decide ((i : Int) < (m : Int)) = true := by simp; omega
              have l1 : (0 : Int) ≤ (i : Int) := by omega
              have l2 : (i : Int) < (m : Int) := by omega
              gi_wp2
              refine ⟨trivial, (callsIn_wide.2 (read_good (H.out.same PB.out) HO.out.symm i (by rw [← HM.out]; exact hlt))).mono ?_⟩
              rintro e W2 ⟨⟨v, rfl, hv⟩, hb2⟩
              have hvb := hv.bytes (lastD_len H.out.ok (by rw [← HM.out]; exact hlt))
              obtain ⟨gv, rfl, -⟩ := hv
              have hBW := PB.out.trans (hb2.mono PB.out.size)
              have hR2 := HR.out.same hBW
              have hlb := hR2.last.bytes hR2.ok.last (i := i) (by rw [hR2.ok.ll, HRL.out, ← HM.out]; exact hlt)
              have hle : R.last.getD i [] = lastD D i := by rw [HA.out.last, getD_range _ _ _ (by rw [← HM.out]; exact hlt)]
              rw [hle] at hlb
              have hcv := string_of W2.drew (show BytesAt W2.drew _ _ _ _ from hvb.mono ((Below.refl _ W2).drew) (Nat.le_refl _))
              have hcl := string_of W2.drew (show BytesAt W2.drew _ _ _ _ from hlb.mono ((Below.refl _ W2).drew) (Nat.le_refl _))
              have HBW := Lib.hid hBW
              have hKW := (hb2.block Dd (Array.getElem?_eq_some_iff.1 PK.out).1).trans PK.out
              have HKW := Lib.hid hKW
              have p0' := p0.same hb2
              have p1' := p1.same hb2
              clear hle hlb hvb hR2 hBW hb2 hKW p0 p1 PB PK kx d0 x1
              generalize lastD D i = bl at *
              have d0 : W2.drew.cell? ⟨w.heap.size, 0, none⟩ = some (.pointer (some ⟨x, 0, none⟩)) := p0'.cell (j := 0) rfl
              have kx := HX.out.same HBW.out.drew
              have x1 := kx.cell (j := 1) (v := .slice (some ⟨lb, 0, none⟩) m m) rfl
              gi_wp2
              refine wpIn_wide.2 ?_
              refine Pu.regionW (fun V => V = W2.drew) hmx (by kernel_rfl) (by kernel_rfl) rfl rfl ?_
              iterate 15 (first
                | (refine Pu.Walk.off (by rfl) ?_; simp only [Act.put, List.setIfInBounds_toArray, List.set_cons_succ, List.set_cons_zero])
                | (apply Pu.Walk.on (by rfl)
                   · rintro V rfl
                     go_wp2_with fail
                     refine ⟨rfl, ?_, rfl⟩
                     try simp only [Act.put, List.setIfInBounds_toArray, List.set_cons_succ, List.set_cons_zero]
                     rfl
                   simp only [Act.put, List.setIfInBounds_toArray, List.set_cons_succ, List.set_cons_zero]))
              refine Pu.Walk.nil (fun V hV => ?_)
              rw [hV]
              clear hV V
              clear d0 x1 kx hcv hcl
              gi_wp2
              have q0n := (show Ob W2.drew w.heap.size 50 #[.pointer (some ⟨x, 0, none⟩)] from p0')
              have q1n := (show Ob W2.drew (w.heap.size + 1) 4 #[.bool false] from p1')
              have hbn := HBW.out.drew
              have hkn : W2.drew.heap[Dd]? = some (.deferred (some [])) := HKW.out
              go_roundw
              case rel => exact ⟨i + 1, by omega, by go_num, q0n, q1n, hbn, hkn⟩
              case measure => simp [intOf]; omega
            · obtain rfl : m = i := by omega
              have l3 : decide (m < m) = false := by simp
              have l4 : decide ((m : Int) < (m : Int)) = false := by simp
              obtain ⟨V2, hV2⟩ : ∃ V2, V2 = wr := ⟨_, rfl⟩
              rw [← hV2] at p1 PB PK
              have hb22 := (show Ob V2 (w.heap.size + 1) 4 #[.bool false] from p1).set 0 (.bool true)
              have hBB := (show Below w.heap.size w V2 from PB.out).grown (grownBy_set V2 (w.heap.size + 1) 0 (.bool true)) (by have := PB.out.size; omega) (fun k e => by cases e; omega)
              have hK2 : (V2.setCell ⟨w.heap.size + 1, 0, none⟩ (.bool true)).heap[Dd]? = some (.deferred (some [])) := ((grownBy_set V2 (w.heap.size + 1) 0 (.bool true)).block Dd (Array.getElem?_eq_some_iff.1 PK.out).1 (fun e => by cases e; omega)).trans PK.out
              have f1 := p1.frozen 0
              have z1 := p1.cell (j := 0) (v := .bool false) rfl
              rw [hV2] at f1 z1
              gi_wp2
              rw [← hV2]
              refine ⟨by simp, .inl ⟨_, _, rfl, run_takeDeferred hK2, ?_⟩⟩
              have c4 := (boxed_end hb22 hK2).cell
              refine ⟨.bool true, ?_, rfl, below_end hBB (by omega) hK2⟩
              simp [results, Try.f46, go_sem, c4]
end Se
end Go.Proofs.Yteiniahikhiadaa
