/-
  The law Sums.
  the row GoodsSums.
-/
import Derived.Test.YtlhpdalfnjhokaaGs13
import Derived.Test.YtlhpdalfnjhokaaGs6
import Derived.Test.YtlhpdalfnjhokaaGs12

set_option linter.unusedVariables false
set_option linter.unusedSimpArgs false
set_option linter.unusedSimpArgs false
namespace Go.Proofs.Ytlhpdalfnjhokaa
open Go.RowKit Go.Maps
namespace Sk
open It Al Kp
attribute [local go_sem] Oper.semAt_some
theorem StsAt.form {w : World} {base : Nat} {v : Value} {ss : List Stk} (h : StsAt w base v ss) : ∃ A c, v = .slice A ss.length c ∧ ss.length ≤ c ∧ c ≤ maxLen := by
  obtain ⟨ps, h1, h2, h3⟩ := h.at_
  obtain ⟨A, c, e, k1, k2, -⟩ := h2.at_
  exact ⟨A, c, e, k1, k2⟩
theorem totV_form (g : ByteArray) (ss : List Stk) : ∃ a0 a1 a2 a3 a4 a5 a6 a7 a8 a9 a10 wy, totV g ss = .agg #[.string g, .int .i64 a0, .int .i64 a1, .int .i64 a2, .int .i64 a3, .int .i64 a4, .int .i64 a5, .int .i64 a6, .int .i64 a7, .int .i64 a8, .int .i64 a9, .int .i64 a10, .int .i64 wy] := by
  unfold totV totC
  exact ⟨_, _, _, _, _, _, _, _, _, _, _, _, rfl⟩
set_option maxRecDepth 100000 in
set_option maxHeartbeats 16000000 in
theorem sums_law (ls : List (List OpV)) (vl : Value) (good : ByteArray) (hg : good.size ≤ maxLen) (w : World) (hO : OpssAt w w.heap.size vl ls) (hOk : ∀ l ∈ ls, ∀ o ∈ l, OkOp o) :
    Calls Try.prog 6 #[vl, .string good] w fun e w' => e = .returned (.bool true) ∧ Below w.heap.size w w' := by
  have hmx := hmx
  have hen := eql_nilG
  have ha1 := (Below.refl w.heap.size w).alloc (Nat.le_refl _) (.cells #[.bool false] 4)
  have cS := stocks_calls ls vl (w.alloc (.cells #[.bool false] 4)) (by have := hO.below ha1; obtain ⟨A, c, e, h1, h2, h3⟩ := this; exact ⟨A, c, e, h1, h2, fun j hj => by obtain ⟨b, p, v', q1, q2, q3, q4⟩ := h3 j hj; refine ⟨b, p, v', q1, by simp; omega, q3, ?_⟩; obtain ⟨A2, c2, e2, k1, k2, k3⟩ := q4; exact ⟨A2, c2, e2, k1, k2, fun i hi => by obtain ⟨b2, p2, lv, m1, m2, m3, m4⟩ := k3 i hi; exact ⟨b2, p2, lv, m1, by simp; omega, m3.wide (Nat.le_refl _) (by simp), m4⟩⟩⟩) hOk
  have CS := Lib.hid cS
  clear cS hO hOk
  refine (callsIn_wide (n := 6)).1 ?_
  refine callsIn_of_wp_marks Try.func6 rfl trivial ?_ rfl
  simp only [Try.ntmps6, List.size_toArray, List.length_cons, List.length_nil, Nat.reduceAdd, Nat.reduceSub, Array.replicate_succ, Array.replicate_zero, List.push_toArray, List.append_toArray, List.nil_append, List.cons_append]
  gi_wp2
  refine ⟨trivial, (callsIn_wide.2 CS.out).mono ?_⟩
  rintro e W1 ⟨⟨va, vb, ss, rfl, hl6, hs64, hA, hR⟩, hb1⟩
  have o1 := (Ob.new w 4 #[.bool false]).same hb1
  have hB1 := ha1.trans (hb1.mono ha1.size)
  obtain ⟨Aa, ca, rfl, hca1, hca2⟩ := hA.form
  obtain ⟨Ab, cb, rfl, hcb1, hcb2⟩ := hR.form
  have hsz1 : w.heap.size < W1.heap.size := by have := hb1.size; simp at this; omega
  rw [World.size_alloc] at hA hR
  have HS64 := Lib.hid hs64
  clear CS ha1 hb1 hs64
  gi_wp2
  have o6 := Ob.new W1 45 #[.slice Ab ss.length cb]
  have ha2 := (Below.refl W1.heap.size W1).alloc (Nat.le_refl _) (.cells #[.slice Ab ss.length cb] 45)
  have o12 := o1.same ha2
  have hA2 := hA.same ha2
  have hR2 := hR.same ha2
  have hB2 := hB1.trans (ha2.mono hB1.size)
  have hsz2 : (W1.alloc (.cells #[.slice Ab ss.length cb] 45)).heap.size = W1.heap.size + 1 := by simp
  clear o1 hA hR hB1 ha2
  generalize W1.alloc (.cells #[.slice Ab ss.length cb] 45) = W2 at *
  refine ⟨trivial, (callsIn_wide.2 (lives_calls W2)).mono ?_⟩
  rintro e W3 ⟨rfl, hb⟩
  have o63 := o6.same hb
  have o13 := o12.same hb
  have hA3 := hA2.same hb
  have hR3 := hR2.same hb
  have hB3 := hB2.trans (hb.mono hB2.size)
  have hsz3 : W1.heap.size < W3.heap.size := by have := hb.size; omega
  clear o6 o12 hA2 hR2 hB2 hb hsz2
  generalize W1.heap.size = b6 at *
  have z6 := o63.cell (j := 0) (v := .slice Ab ss.length cb) rfl
  gi_wp2
  have cT := Lib.hid (fun V (h : Below W3.drew.heap.size W3.drew V) => total_calls ss good hg _ V (w.heap.size + 1) ((hA3.same (Below.refl _ W3).drew).same h))
  have cRT := Lib.hid (fun V (h : Below W3.drew.heap.size W3.drew V) => rtotal_calls ss good _ V (w.heap.size + 1) ((hR3.same (Below.refl _ W3).drew).same h))
  obtain ⟨a0, a1, a2, a3, a4, a5, a6, a7, a8, a9, a10, wy, htv⟩ := totV_form good ss
  rw [htv] at cT cRT
  have O63 : Ob W3.drew b6 45 #[.slice Ab ss.length cb] := o63
  clear htv z6
  refine wpIn_wide.2 ?_
  refine Pu.regionW (fun V => Below W3.drew.heap.size W3.drew V) hmx (by kernel_rfl) (by kernel_rfl) (Below.refl _ _) rfl ?_
  iterate 7 (first
    | (refine Pu.Walk.off (by rfl) ?_; simp only [Act.put, List.setIfInBounds_toArray, List.set_cons_succ, List.set_cons_zero])
    | (apply Pu.Walk.on (by rfl)
       · intro V h1
         have z6 := (O63.same h1).cell (j := 0) (v := .slice Ab ss.length cb) rfl
         go_wp2_with (first
           | (go_at_call 16; refine (cT.out _ h1).mono ?_; rintro e W2 ⟨rfl, hb⟩; replace h1 := h1.trans (hb.mono h1.size); clear hb)
           | (go_at_call 20; refine (cRT.out _ h1).mono ?_; rintro e W2 ⟨rfl, hb⟩; replace h1 := h1.trans (hb.mono h1.size); clear hb))
         refine ⟨rfl, ?_, h1⟩
         try simp only [Act.put, List.setIfInBounds_toArray, List.set_cons_succ, List.set_cons_zero]
         rfl
       simp only [Act.put, List.setIfInBounds_toArray, List.set_cons_succ, List.set_cons_zero]))
  refine Pu.Walk.nil (fun W4 h4 => ?_)
  have hd3 : Below W3.heap.size W3 W4 := ((Below.refl _ W3).drew).trans h4
  have o64 := o63.same hd3
  have o14 := o13.same hd3
  have hA4 := hA3.same hd3
  have hR4 := hR3.same hd3
  have hB4 := hB3.trans (hd3.mono hB3.size)
  have hsz4 : b6 < W4.heap.size := by have := hd3.size; omega
  clear o63 o13 hA3 hR3 hB3 h4 hd3 cT cRT O63 hsz3
  have z6 := o64.cell (j := 0) (v := .slice Ab ss.length cb) rfl
  have cG := rgoods_calls ss _ W4 (w.heap.size + 1) hR4 (by omega) (fun s hs => by have := HS64.out s hs; omega)
  rw [goodsK_eq] at cG
  have CG := Lib.hid cG
  clear cG
  gi_wp2
  refine ⟨trivial, (callsIn_wide.2 CG.out).mono ?_⟩
  rintro e W5 ⟨⟨u, rfl, hu⟩, hb5⟩
  obtain ⟨Au, cu, rfl, hcu1, hcu2, -⟩ := (Sl.of_own hu).at_
  have hW5 := (Sl.of_own hu).wide (lo' := 0) (Nat.zero_le _) (Nat.le_refl _)
  have o65 := o64.same hb5
  have o15 := o14.same hb5
  have hA5 := hA4.same hb5
  have hR5 := hR4.same hb5
  have hB5 := hB4.trans (hb5.mono hB4.size)
  have hsz5 : b6 < W5.heap.size := by have := hb5.size; omega
  clear o64 o14 hA4 hR4 hB4 CG hu hb5 hsz4 z6
  gi_wp2
  have o7 := Ob.new W5 49 #[.slice Au (allKeys ss).length cu]
  have ha6 := (Below.refl W5.heap.size W5).alloc (Nat.le_refl _) (.cells #[.slice Au (allKeys ss).length cu] 49)
  have o66 := o65.same ha6
  have o16 := o15.same ha6
  have hA6 := hA5.same ha6
  have hR6 := hR5.same ha6
  have hB6 := hB5.trans (ha6.mono hB5.size)
  have hW6 := hW5.mono ha6 ha6.size
  have hsz6 : (W5.alloc (.cells #[.slice Au (allKeys ss).length cu] 49)).heap.size = W5.heap.size + 1 := by simp
  clear o65 o15 hA5 hR5 hB5 hW5 ha6
  generalize W5.alloc (.cells #[.slice Au (allKeys ss).length cu] 49) = W6 at *
  refine ⟨trivial, (callsIn_wide.2 (totals_calls ss _ W6 (w.heap.size + 1) hA6 (by omega))).mono ?_⟩
  rintro e W7 ⟨⟨tv, rfl, ht⟩, hb7⟩
  obtain ⟨At, ct, rfl, hct1, hct2, -⟩ := (Sl.of_own ht).at_
  have hT7 := (Sl.of_own ht).wide (lo' := 0) (Nat.zero_le _) (Nat.le_refl _)
  have o77 := o7.same hb7
  have o67 := o66.same hb7
  have o17 := o16.same hb7
  have hA7 := hA6.same hb7
  have hR7 := hR6.same hb7
  have hW7 := hW6.mono hb7 hb7.size
  have hB7 := hB6.trans (hb7.mono hB6.size)
  have hsz7 : W5.heap.size < W7.heap.size := by have := hb7.size; omega
  clear o7 o66 o16 hA6 hR6 hB6 hW6 hb7 hsz6 ht
  generalize W5.heap.size = b7 at *
  gi_wp2
  have o8 := Ob.new W7 38 #[.slice At (allKeys ss).length ct]
  have ha8 := (Below.refl W7.heap.size W7).alloc (Nat.le_refl _) (.cells #[.slice At (allKeys ss).length ct] 38)
  have o78 := o77.same ha8
  have o68 := o67.same ha8
  have o18 := o17.same ha8
  have hA8 := hA7.same ha8
  have hR8 := hR7.same ha8
  have hW8 := hW7.mono ha8 ha8.size
  have hT8 := hT7.mono ha8 ha8.size
  have hB8 := hB7.trans (ha8.mono hB7.size)
  have hsz8 : (W7.alloc (.cells #[.slice At (allKeys ss).length ct] 38)).heap.size = W7.heap.size + 1 := by simp
  clear o77 o67 o17 hA7 hR7 hB7 hW7 hT7 ha8
  generalize W7.alloc (.cells #[.slice At (allKeys ss).length ct] 38) = W8 at *
  refine ⟨trivial, (callsIn_wide.2 (ggoods_calls _ rfl W8)).mono ?_⟩
  rintro e W9 ⟨rfl, rfl⟩
  have o9 := Ob.new W8 33 #[.slice Aa ss.length ca]
  have ha9 := (Below.refl W8.heap.size W8).alloc (Nat.le_refl _) (.cells #[.slice Aa ss.length ca] 33)
  have o89 := o8.same ha9
  have o79 := o78.same ha9
  have o69 := o68.same ha9
  have o19 := o18.same ha9
  have hA9 := hA8.same ha9
  have hR9 := hR8.same ha9
  have hW9 := hW8.mono ha9 ha9.size
  have hT9 := hT8.mono ha9 ha9.size
  have hB9 := hB8.trans (ha9.mono hB8.size)
  have hsz9 : (W8.alloc (.cells #[.slice Aa ss.length ca] 33)).heap.size = W8.heap.size + 1 := by simp
  clear o8 o78 o68 o18 hA8 hR8 hB8 hW8 hT8 ha9
  generalize W8.alloc (.cells #[.slice Aa ss.length ca] 33) = W9 at *
  generalize W7.heap.size = b8 at *
  generalize W8.heap.size = b9 at *
  have z8 := o89.cell (j := 0) (v := .slice At (allKeys ss).length ct) rfl
  have z7 := o79.cell (j := 0) (v := .slice Au (allKeys ss).length cu) rfl
  gi_wp2
  have e10 : b9 = b8 + 1 := hsz8
  have oA := Ob.new W9 3 #[.int .i64 0]
  have oB := Ob.new (W9.alloc (.cells #[.int .i64 0] 3)) 4 #[.bool true]
  rw [World.size_alloc] at oB
  have oA2 := oA.alloc (.cells #[.bool true] 4)
  have ha11 : Below W9.heap.size W9 ((W9.alloc (.cells #[.int .i64 0] 3)).alloc (.cells #[.bool true] 4)) := ((Below.refl _ W9).alloc (Nat.le_refl _) _).alloc (by simp) _
  have o1 := o19.same ha11
  have o9b := o9.same ha11
  have hA := hA9.same ha11
  have hsz : ((W9.alloc (.cells #[.int .i64 0] 3)).alloc (.cells #[.bool true] 4)).heap.size = W9.heap.size + 2 := by simp
  rw [hsz9, hsz8] at oA2 oB
  rw [hsz9, hsz8] at hsz
  rw [hsz8] at o9b
  have H911 := Lib.hid ha11
  have HWT := Lib.hid hW9
  have HTT := Lib.hid hT9
  have HO := Lib.hid (And.intro o19 (And.intro o69 (And.intro o79 o89)))
  have HRR := Lib.hid hR9
  have HB := Lib.hid hB9
  have HAA := Lib.hid hA9
  clear oA ha11 o79 o69 o19 o89 o9 hA9 hR9 hB9 hW9 hT9 z7 z8
  generalize ((W9.alloc (.cells #[.int .i64 0] 3)).alloc (.cells #[.bool true] 4)) = W11 at *
  obtain ⟨hkeys, hkn⟩ := hA.keys
  have HKS := Lib.hid hkeys
  have HKN := Lib.hid hkn
  clear hkeys hkn
  have hN9 : W9.heap.size = b8 + 1 + 1 := by omega
  have HSZ := Lib.hid (And.intro hsz9 (And.intro hsz8 (And.intro e10 (And.intro hsz hN9))))
  refine Ro.range_reads (n := 6) rfl (by omega) (gf := 25) rfl trivial (enters_of Try.func25 (by kernel_rfl) rfl)
    (greads 5 (by omega) (b8 + 1) w.heap.size (fun i => i = b8 + 1 + 1 ∨ i = b8 + 1 + 1 + 1) hA (by omega) o9b (fun i hi => by omega) (by omega) (fun g hg => by rw [own_of o1] at hg; cases hg)) (Below.refl _ _) (fun h k => h.trans k) (fun W l r r' _ h => KpO.loop h) rfl
    (fun pre V => Kept (fun i => i < W11.heap.size ∧ i ≠ b8 + 1 + 1 ∧ i ≠ b8 + 1 + 1 + 1) W11 V ∧ Ob V (b8 + 1 + 1) 3 #[.int .i64 pre.length] ∧ Ob V (b8 + 1 + 1 + 1) 4 #[.bool (pre.all (kpS ss))])
    (fun c pre V => False)
    (fun s A B row hs hg hr => ⟨hs.1.trans (Kept.of_grown hg fun i hi => ⟨by have := hs.1.size; omega, fun e => by have := (hr i e.symm).1; omega⟩), ob_keep hs.2.1 hg (fun r e => (hr r e).2), ob_keep hs.2.2 hg (fun r e => (hr r e).2)⟩)
    (fun c s A B row hs hg hr => hs.elim)
    ⟨Kept.refl _ _, oA2, oB⟩ ?round ?done ?stop
  case stop => exact fun D c pre X _ _ h _ => h.elim
  case round =>
    rintro l pre dd v V hl ⟨i0, i1, i2⟩ hpre rfl
    have hnl : pre.length < (allKeys ss).length := by
      obtain ⟨r, hr⟩ := hpre
      have := congrArg List.length hr
      simp only [List.length_append, List.length_cons, List.length_nil] at this
      omega
    have hnd : (allKeys ss)[pre.length] = dd := by
      obtain ⟨r, hr⟩ := hpre
      simp only [← hr]
      rw [List.getElem_append_left (by simp)]
      simp
    have hal : (pre ++ [dd]).all (kpS ss) = (pre.all (kpS ss) && kpS ss dd) := by simp
    have hpl : (pre ++ [dd]).length = pre.length + 1 := by simp
    have HAL := Lib.hid hal
    have HPL := Lib.hid hpl
    clear hpre hal hpl o1 o9b hA oB oA2 hsz9 hsz8 e10 hsz hN9
    gi_wp2
    refine ⟨keeps_below _ (Below.refl _ V), KpO.refl _ _ _, fun V2 hg2 ho2 => ?_⟩
    have k0 := Lib.hid (i0.trans (Kept.of_grown hg2 (Fr := fun i => i < W11.heap.size ∧ i ≠ b8 + 1 + 1 ∧ i ≠ b8 + 1 + 1 + 1) fun i hi => ⟨by have := i0.size; omega, fun e => by have := Option.some.inj e; omega⟩))
    have k1 := ob_keep i1 hg2 (fun r e => by cases e; exact ho2)
    have k2 := ob_keep i2 hg2 (fun r e => by cases e; exact ho2)
    have hb9 := H911.out.trans (k0.out.below (B := W9.heap.size) (fun i hi => by obtain ⟨q1, q2, q3, q4, q5⟩ := HSZ.out; omega))
    have HB9 := Lib.hid hb9
    have hv2 : b8 + 1 + 1 + 2 ≤ V2.heap.size := by have := k0.out.size; obtain ⟨q1, q2, q3, q4, q5⟩ := HSZ.out; omega
    clear hg2 ho2 i0 i1 i2 hb9
    have o8 := HO.out.2.2.2.same HB9.out
    have o7 := HO.out.2.2.1.same HB9.out
    have o6 := HO.out.2.1.same HB9.out
    obtain ⟨bw, pw, ew, hbw, hcw⟩ := strs_get HWT.out hnl
    cases ew
    rw [hnd] at hcw
    have hcw : W9.cell? ⟨bw, pw + pre.length, none⟩ = some (.string ⟨dd.toArray⟩) := hcw
    obtain ⟨A', c', e', -, -, h3⟩ := HTT.out.at_
    cases e'
    obtain ⟨bt, pt, rfl, -, hbt, hct⟩ := h3 (by omega)
    have hRT : W9.rangeAt bt (pt + pre.length * 13) (totL ss dd) := by
      intro j x hj
      have hj13 : j < 13 := by have := (List.getElem?_eq_some_iff.1 hj).1; rwa [totL_len] at this
      have h1 := hct (pre.length * 13 + j) (by omega)
      rw [flat_get ss _ pre.length hnl j hj13, hnd, hj] at h1
      rw [Nat.add_assoc]
      exact h1
    have HRT := Lib.hid hRT
    have HCW := Lib.hid hcw
    have hkd : dd.length ≤ maxLen := HKS.out dd (by rw [← hnd]; exact List.getElem_mem hnl)
    have HLD : totL ss dd = [.string ⟨dd.toArray⟩, .int .i64 (at_ (totR ss dd) 0), .int .i64 (at_ (totR ss dd) 1), .int .i64 (at_ (totR ss dd) 2), .int .i64 (at_ (totR ss dd) 3), .int .i64 (at_ (totR ss dd) 4), .int .i64 (at_ (totR ss dd) 5), .int .i64 (at_ (totR ss dd) 6), .int .i64 (at_ (totR ss dd) 7), .int .i64 (at_ (totR ss dd) 8), .int .i64 (at_ (totR ss dd) 9), .int .i64 (at_ (totR ss dd) 10), .int .i64 (wayT (totR ss dd))] := rfl
    have HTV : totV ⟨dd.toArray⟩ ss = .agg #[.string ⟨dd.toArray⟩, .int .i64 (at_ (totR ss dd) 0), .int .i64 (at_ (totR ss dd) 1), .int .i64 (at_ (totR ss dd) 2), .int .i64 (at_ (totR ss dd) 3), .int .i64 (at_ (totR ss dd) 4), .int .i64 (at_ (totR ss dd) 5), .int .i64 (at_ (totR ss dd) 6), .int .i64 (at_ (totR ss dd) 7), .int .i64 (at_ (totR ss dd) 8), .int .i64 (at_ (totR ss dd) 9), .int .i64 (at_ (totR ss dd) 10), .int .i64 (wayT (totR ss dd))] := by unfold totV totC; rfl
    have HKP : kpS ss dd = keptT (at_ (totR ss dd) 0) (at_ (totR ss dd) 1) (at_ (totR ss dd) 2) (at_ (totR ss dd) 3) (at_ (totR ss dd) 4) (at_ (totR ss dd) 5) (at_ (totR ss dd) 6) (at_ (totR ss dd) 7) (at_ (totR ss dd) 8) (at_ (totR ss dd) 9) (at_ (totR ss dd) 10) (wayT (totR ss dd)) := rfl
    have cT := fun V (h : Below V2.drew.heap.size V2.drew V) => rtotal_calls ss ⟨dd.toArray⟩ _ V (w.heap.size + 1) ((HRR.out.same HB9.out.drew).same h)
    have cK := kept_calls ⟨dd.toArray⟩ (at_ (totR ss dd) 0) (at_ (totR ss dd) 1) (at_ (totR ss dd) 2) (at_ (totR ss dd) 3) (at_ (totR ss dd) 4) (at_ (totR ss dd) 5) (at_ (totR ss dd) 6) (at_ (totR ss dd) 7) (at_ (totR ss dd) 8) (at_ (totR ss dd) 9) (at_ (totR ss dd) 10) (wayT (totR ss dd))
    have cRK := rkept_calls ⟨dd.toArray⟩ (at_ (totR ss dd) 0) (at_ (totR ss dd) 1) (at_ (totR ss dd) 2) (at_ (totR ss dd) 3) (at_ (totR ss dd) 4) (at_ (totR ss dd) 5) (at_ (totR ss dd) 6) (at_ (totR ss dd) 7) (at_ (totR ss dd) 8) (at_ (totR ss dd) 9) (at_ (totR ss dd) 10) (wayT (totR ss dd))
    rw [HTV] at cT
    rw [HLD] at HRT
    rw [← HKP] at cK cRK
    clear HTV HLD HKP hnd hRT hcw hct h3
    generalize kpS ss dd = kp at *
    generalize wayT (totR ss dd) = wz at *
    generalize at_ (totR ss dd) 0 = e0 at *
    generalize at_ (totR ss dd) 1 = e1 at *
    generalize at_ (totR ss dd) 2 = e2 at *
    generalize at_ (totR ss dd) 3 = e3 at *
    generalize at_ (totR ss dd) 4 = e4 at *
    generalize at_ (totR ss dd) 5 = e5 at *
    generalize at_ (totR ss dd) 6 = e6 at *
    generalize at_ (totR ss dd) 7 = e7 at *
    generalize at_ (totR ss dd) 8 = e8 at *
    generalize at_ (totR ss dd) 9 = e9 at *
    generalize at_ (totR ss dd) 10 = e10 at *
    have CT := Lib.hid cT
    have CK := Lib.hid cK
    have CRK := Lib.hid cRK
    clear cT cK cRK
    have K0 := Lib.hid k1
    have K2 := Lib.hid k2
    have O8 := Lib.hid o8
    have O7 := Lib.hid o7
    have O6 := Lib.hid o6
    clear k1 k2 o8 o7 o6
    have hlt : decide ((allKeys ss).length ≤ pre.length) = false := by simp; omega
    have hlt2 : decide ((pre.length : Int) ≥ ((allKeys ss).length : Int)) = false := by simp; omega
    generalize (allKeys ss).length = N at *
    generalize pre.length = n at *
    gi_wp2
    refine Pi.regionInW (fun X => Below V2.drew.heap.size V2.drew X) hmx (by kernel_rfl) (by kernel_rfl) (by kernel_rfl) (Below.refl _ _) rfl ?_
    iterate 35 (first
      | (refine Pu.Walk.off (by rfl) ?_; simp only [Act.put, List.setIfInBounds_toArray, List.set_cons_succ, List.set_cons_zero])
      | (apply Pu.Walk.on (by rfl)
         · intro X h1
           have hx9 := HB9.out.drew.trans (h1.mono HB9.out.drew.size)
           have y8 := ((show Ob V2.drew b8 _ _ from O8.out).same h1).cell (j := 0) (v := .slice (some ⟨bt, pt, none⟩) N ct) rfl
           have y7 := ((show Ob V2.drew b7 _ _ from O7.out).same h1).cell (j := 0) (v := .slice (some ⟨bw, pw, none⟩) N cu) rfl
           have y6 := ((show Ob V2.drew b6 _ _ from O6.out).same h1).cell (j := 0) (v := .slice Ab ss.length cb) rfl
           have yA := ((show Ob V2.drew (b8 + 1 + 1) _ _ from K0.out).same h1).cell (j := 0) (v := .int .i64 n) rfl
           have yw := (hx9.cell (p := ⟨bw, pw + n, none⟩) hbw).trans HCW.out
           have yt : X.rangeAt bt (pt + n * 13) [.string ⟨dd.toArray⟩, .int .i64 e0, .int .i64 e1, .int .i64 e2, .int .i64 e3, .int .i64 e4, .int .i64 e5, .int .i64 e6, .int .i64 e7, .int .i64 e8, .int .i64 e9, .int .i64 e10, .int .i64 wz] := fun j v hj => (hx9.cell (p := ⟨bt, pt + n * 13 + j, none⟩) hbt).trans (HRT.out j v hj)
           go_wp2_with (first
             | (refine wpList_load_midg (by rfl) 27 _ rfl rfl [.string ⟨dd.toArray⟩, .int .i64 e0, .int .i64 e1, .int .i64 e2, .int .i64 e3, .int .i64 e4, .int .i64 e5, .int .i64 e6, .int .i64 e7, .int .i64 e8, .int .i64 e9, .int .i64 e10, .int .i64 wz] _ yt Try.underlying27 rfl (by kernel_rfl) ?_)
             | (go_at_call 20; refine (CT.out _ h1).mono ?_; rintro e W2 ⟨rfl, hb⟩; replace h1 := h1.trans (hb.mono h1.size); clear hb)
             | (go_at_call 13; refine (CK.out _).mono ?_; rintro e W2 ⟨rfl, hb⟩; replace h1 := h1.trans (hb.mono h1.size); clear hb)
             | (go_at_call 14; refine (CRK.out _).mono ?_; rintro e W2 ⟨rfl, hb⟩; replace h1 := h1.trans (hb.mono h1.size); clear hb))
           refine ⟨rfl, ?_, h1⟩
           try simp only [Act.put, List.setIfInBounds_toArray, List.set_cons_succ, List.set_cons_zero]
           rfl
         simp only [Act.put, List.setIfInBounds_toArray, List.set_cons_succ, List.set_cons_zero]))
    refine Pu.Walk.nil (fun V4 h4 => ?_)
    have hx9 := HB9.out.drew.trans (h4.mono HB9.out.drew.size)
    have hd4 : Below V2.heap.size V2 V4 := ((Below.refl _ V2).drew).trans h4
    have p8 := (O8.out.same hd4)
    have pA := (K0.out.same hd4)
    have pB := (K2.out.same hd4)
    have yt : V4.rangeAt bt (pt + n * 13) #[.string ⟨dd.toArray⟩, .int .i64 e0, .int .i64 e1, .int .i64 e2, .int .i64 e3, .int .i64 e4, .int .i64 e5, .int .i64 e6, .int .i64 e7, .int .i64 e8, .int .i64 e9, .int .i64 e10, .int .i64 wz].toList := fun j v hj => (hx9.cell (p := ⟨bt, pt + n * 13 + j, none⟩) hbt).trans (HRT.out j v hj)
    have HX9 := Lib.hid hx9
    have HD4 := Lib.hid hd4
    have hs4 := hd4.size
    clear h4 O8 O7 O6 K0 K2 CT hx9 hd4
    generalize hacc : pre.all (kpS ss) = acc at *
    have HACC := Lib.hid hacc
    clear hacc
    have y8 := p8.cell (j := 0) (v := .slice (some ⟨bt, pt, none⟩) N ct) rfl
    have yA := pA.cell (j := 0) (v := .int .i64 n) rfl
    have yB := pB.cell (j := 0) (v := .bool acc) rfl
    have fB := pB.frozen 0
    have fA := pA.frozen 0
    have hne : b8 + 1 + 1 ≠ b8 + 1 + 1 + 1 := by omega
    have hnb : 0 ≤ (n : Int) := by omega
    have hnm : (n : Int) ≤ 1000000 := by have := HKN.out; omega
    cases acc with
    | false =>
      have pA2 := (pA.other hne 0 (.bool false)).cell (j := 0) (v := .int .i64 n) rfl
      have fA2 := (pA.other hne 0 (.bool false)).frozen 0
      gi_wp2
      refine ⟨trivial, ?_⟩
      gi_wp2
      have gB := grownBy_set V4 (b8 + 1 + 1 + 1) 0 (.bool false)
      have qA := pA.other hne 0 (.bool false)
      have qB := pB.set 0 (.bool false)
      have hKF := keeps_set (keeps_below W11.heap.size HD4.out) ⟨b8 + 1 + 1 + 1, 0, none⟩ (.bool false)
      have hKO := (KpO.below (X := fun i => i = b8 + 1 + 1 ∨ i = b8 + 1 + 1 + 1) HD4.out (ob := w.heap.size) (by omega)).trans (KpO.of_grown gB (fun g e => .inr (Option.some.inj e).symm) (by have := HD4.out.size; omega) (fun e => by have := Option.some.inj e; omega))
      have hk5 := (k0.out.trans (Kept.of_below HD4.out (fun i hi => by obtain ⟨q1, q2, q3, q4, q5⟩ := HSZ.out; omega))).trans (Kept.of_grown gB (fun i hi => ⟨by have := HD4.out.size; obtain ⟨q1, q2, q3, q4, q5⟩ := HSZ.out; omega, fun e => hi.2.2 (Option.some.inj e)⟩))
      have hs6 := gB.size
      have hs7 := HD4.out.size
      generalize V4.setCell ⟨b8 + 1 + 1 + 1, 0, none⟩ (.bool false) = V6 at *
      have gA := grownBy_set V6 (b8 + 1 + 1) 0 (.int .i64 ((n : Int) + 1))
      have rA : Ob (V6.setCell ⟨b8 + 1 + 1, 0, none⟩ (.int .i64 ((n : Int) + 1))) _ _ #[.int .i64 ((n : Int) + 1)] := qA.set 0 (.int .i64 ((n : Int) + 1))
      have rB := qB.other (fun e => hne e.symm) 0 (.int .i64 ((n : Int) + 1))
      have hKF2 := keeps_set hKF ⟨b8 + 1 + 1, 0, none⟩ (.int .i64 ((n : Int) + 1))
      have hKO2 := hKO.trans (KpO.of_grown gA (fun g e => .inl (Option.some.inj e).symm) (by omega) (fun e => by have := Option.some.inj e; omega))
      have hk6 := hk5.trans (Kept.of_grown gA (fun i hi => ⟨by obtain ⟨q1, q2, q3, q4, q5⟩ := HSZ.out; omega, fun e => hi.2.1 (Option.some.inj e)⟩))
      refine ⟨hKF2, hKO2, hk6, ?_, ?_⟩
      · rw [HPL.out]; exact rA
      · rw [HAL.out]; exact rB
    | true =>
      have t0 := yt 0 _ rfl
      have t1 := yt 1 _ rfl
      have t2 := yt 2 _ rfl
      have t3 := yt 3 _ rfl
      have t4 := yt 4 _ rfl
      have t5 := yt 5 _ rfl
      have t6 := yt 6 _ rfl
      have t7 := yt 7 _ rfl
      have t8 := yt 8 _ rfl
      have t9 := yt 9 _ rfl
      have t10 := yt 10 _ rfl
      have t11 := yt 11 _ rfl
      have t12 := yt 12 _ rfl
      rw [Nat.add_zero] at t0
      gi_wp2
      refine ⟨trivial, (callsIn_wide.2 (CRK.out V4)).mono ?_⟩
      rintro e V5 ⟨rfl, hb5⟩
      have pA5 := pA.same hb5
      have pB5 := pB.same hb5
      have HD5 := Lib.hid (HD4.out.trans (hb5.mono HD4.out.size))
      have fB5 := pB5.frozen 0
      have yB5 := pB5.cell (j := 0) (v := .bool true) rfl
      have pA2 := (pA5.other hne 0 (.bool kp)).cell (j := 0) (v := .int .i64 n) rfl
      have fA2 := (pA5.other hne 0 (.bool kp)).frozen 0
      have hs5 := HD5.out.size
      clear y8 yA yB fB fA t0 t1 t2 t3 t4 t5 t6 t7 t8 t9 t10 t11 t12 yt pA pB HD4 hb5
      gi_wp2
      have gB := grownBy_set V5 (b8 + 1 + 1 + 1) 0 (.bool kp)
      have qA := pA5.other hne 0 (.bool kp)
      have qB := pB5.set 0 (.bool kp)
      have hKF := keeps_set (keeps_below W11.heap.size HD5.out) ⟨b8 + 1 + 1 + 1, 0, none⟩ (.bool kp)
      have hKO := (KpO.below (X := fun i => i = b8 + 1 + 1 ∨ i = b8 + 1 + 1 + 1) HD5.out (ob := w.heap.size) (by omega)).trans (KpO.of_grown gB (fun g e => .inr (Option.some.inj e).symm) (by have := HD5.out.size; omega) (fun e => by have := Option.some.inj e; omega))
      have hk5 := (k0.out.trans (Kept.of_below HD5.out (fun i hi => by obtain ⟨q1, q2, q3, q4, q5⟩ := HSZ.out; omega))).trans (Kept.of_grown gB (fun i hi => ⟨by have := HD5.out.size; obtain ⟨q1, q2, q3, q4, q5⟩ := HSZ.out; omega, fun e => hi.2.2 (Option.some.inj e)⟩))
      have hs6 := gB.size
      have hs7 := HD5.out.size
      generalize V5.setCell ⟨b8 + 1 + 1 + 1, 0, none⟩ (.bool kp) = V6 at *
      have gA := grownBy_set V6 (b8 + 1 + 1) 0 (.int .i64 ((n : Int) + 1))
      have rA : Ob (V6.setCell ⟨b8 + 1 + 1, 0, none⟩ (.int .i64 ((n : Int) + 1))) _ _ #[.int .i64 ((n : Int) + 1)] := qA.set 0 (.int .i64 ((n : Int) + 1))
      have rB := qB.other (fun e => hne e.symm) 0 (.int .i64 ((n : Int) + 1))
      have hKF2 := keeps_set hKF ⟨b8 + 1 + 1, 0, none⟩ (.int .i64 ((n : Int) + 1))
      have hKO2 := hKO.trans (KpO.of_grown gA (fun g e => .inl (Option.some.inj e).symm) (by omega) (fun e => by have := Option.some.inj e; omega))
      have hk6 := hk5.trans (Kept.of_grown gA (fun i hi => ⟨by obtain ⟨q1, q2, q3, q4, q5⟩ := HSZ.out; omega, fun e => hi.2.1 (Option.some.inj e)⟩))
      refine ⟨hKF2, hKO2, hk6, ?_, ?_⟩
      · rw [HPL.out]; exact rA
      · rw [HAL.out]; exact rB
  case done =>
    rintro D xs V hl rfl ⟨i0, i1, i2⟩ hK
    have hb9 := H911.out.trans (i0.below (B := W9.heap.size) (fun i hi => by omega))
    have hBV := HB.out.trans (hb9.mono HB.out.size)
    have o1V := HO.out.1.same hb9
    have o7V := HO.out.2.2.1.same hb9
    have hAV := HAA.out.same hb9
    have hAL : allS ss = (allKeys ss).all (kpS ss) := rfl
    rw [← hAL] at i2
    have cA := all_calls ss _ V.drew (w.heap.size + 1) (hAV.same (Below.refl _ V).drew) (by omega)
    have CA := Lib.hid cA
    have hdl : D < V.heap.size := (Array.getElem?_eq_some_iff.1 hK).1
    have hKd : V.drew.heap[D]? = some (.deferred (some [])) := hK
    clear hA o1 o9b oA2 oB hAL cA hb9 hAV i0 hK
    generalize allS ss = bb at *
    generalize (allKeys ss).length = N at *
    have P1 : Ob V.drew w.heap.size 4 #[.bool false] := o1V
    have P7 : Ob V.drew b7 49 #[.slice Au N cu] := o7V
    have PA : Ob V.drew (b8 + 1 + 1) 3 #[.int .i64 N] := i1
    have PB : Ob V.drew (b8 + 1 + 1 + 1) 4 #[.bool bb] := i2
    have hBd := hBV.drew
    have hwd : w.heap.size < V.drew.heap.size := P1.lt
    have hdl2 : D < V.drew.heap.size := hdl
    clear i1 i2 o1V o7V hBV hdl
    gi_wp2
    have hd3 := hdl2
    generalize hWD : V.drew = WD at *
    refine wpIn_wide.2 ?_
    refine Pu.regionM [(0, false), (1, false), (2, false), (3, false), (4, false), (5, false), (7, false), (6, true), (8, false), (9, false), (10, true)] (fun X => Ob X w.heap.size 4 #[.bool false] ∧ Ob X b7 49 #[.slice Au N cu] ∧ Ob X (b8 + 1 + 1) 3 #[.int .i64 N] ∧ Ob X (b8 + 1 + 1 + 1) 4 #[.bool bb]) hmx (by kernel_rfl) (by kernel_rfl) (by kernel_rfl) (by rw [hWD]; exact ⟨P1, P7, PA, PB⟩) rfl ?_
    simp only [Pu.named, List.filterMap_cons, List.filterMap_nil, List.getElem?_toArray, List.getElem?_cons_succ, List.getElem?_cons_zero, Option.map_some]
    rw [hWD]
    clear hWD
    iterate 7 (apply Pu.WalkM.on (by rfl)
               · rintro X ⟨x1, x7, xA, xB⟩
                 have y7 := x7.cell (j := 0) (v := .slice Au N cu) rfl
                 have yA := xA.cell (j := 0) (v := .int .i64 N) rfl
                 have yB := xB.cell (j := 0) (v := .bool bb) rfl
                 go_wp2_with fail
                 refine ⟨rfl, ?_, rfl⟩
                 try simp only [Act.put, List.setIfInBounds_toArray, List.set_cons_succ, List.set_cons_zero]
                 rfl
               simp only [Act.put, List.setIfInBounds_toArray, List.set_cons_succ, List.set_cons_zero])
    refine Pu.WalkM.make (by rfl) ?_
    intro X hX
    rw [hX]
    clear hX X
    go_wp2_with (go_at_call 18; refine CA.out.mono ?_; rintro e W3 ⟨rfl, hb3⟩)
    have Q1 := P1.same hb3
    have Q7 := P7.same hb3
    have QA := PA.same hb3
    have QB := PB.same hb3
    have hK3 := (hb3.block D hdl2).trans hKd
    have hB3 := hBd.trans (hb3.mono (by omega))
    have hdl3 : D < W3.heap.size := by have := hb3.size; omega
    clear P1 P7 PA PB hb3 CA hKd hBd
    refine ⟨rfl, .bool bb, (fun X => Ob X w.heap.size 4 #[.bool false] ∧ Ob X b7 49 #[.slice Au N cu] ∧ Ob X (b8 + 1 + 1) 3 #[.int .i64 N] ∧ Ob X (b8 + 1 + 1 + 1) 4 #[.bool bb]), (fun X => X = W3), ?_, rfl, (fun X h => by rw [h]; exact ⟨Q1, Q7, QA, QB⟩), (.inr (fun _ h => h)), ?_⟩
    · try simp only [Act.put, List.setIfInBounds_toArray, List.set_cons_succ, List.set_cons_zero]
    try simp only [Act.put, List.setIfInBounds_toArray, List.set_cons_succ, List.set_cons_zero]
    iterate 2 (apply Pu.WalkM.on (by rfl)
               · rintro X ⟨x1, x7, xA, xB⟩
                 go_wp2_with fail
                 refine ⟨rfl, ?_, rfl⟩
                 try simp only [Act.put, List.setIfInBounds_toArray, List.set_cons_succ, List.set_cons_zero]
                 try simp only [beq_self_eq_true]
                 rfl
               simp only [Act.put, List.setIfInBounds_toArray, List.set_cons_succ, List.set_cons_zero])
    refine Pu.WalkM.make (by rfl) ?_
    intro X hX
    rw [hX]
    clear hX X
    have y1 := Q1.cell (j := 0) (v := .bool false) rfl
    have f1 := Q1.frozen 0
    go_wp2_with fail
    refine ⟨rfl, undef, (fun _ => True), (fun X => X = W3.setCell ⟨w.heap.size, 0, none⟩ (.bool true)), rfl, by simp, (fun _ _ => trivial), (.inl (by kernel_rfl)), Pu.WalkM.nil ?_⟩
    intro X hX
    rw [hX]
    clear hX X
    try simp only [Act.put]
    have hBB := hB3.grown (grownBy_set W3 w.heap.size 0 (.bool true)) hB3.size (fun k e => by cases e; omega)
    have hb22 := Q1.set 0 (.bool true)
    have hKK : (W3.setCell ⟨w.heap.size, 0, none⟩ (.bool true)).heap[D]? = some (.deferred (some [])) := ((grownBy_set W3 w.heap.size 0 (.bool true)).block D hdl3 (fun e => by cases e; omega)).trans hK3
    clear y1 f1 Q1 Q7 QA QB hB3 hK3
    gi_wp2
    refine ⟨by simp, .inl ⟨_, _, rfl, run_takeDeferred hKK, ?_⟩⟩
    have c4 := (boxed_end hb22 hKK).cell
    refine ⟨.bool true, ?_, rfl, below_end hBB (by omega) hKK⟩
    simp [results, Try.f6, go_sem, c4]
end Sk
end Go.Proofs.Ytlhpdalfnjhokaa

namespace Go.Proofs.Ytlhpdalfnjhokaa
open Go.ChangeShapes Go.WideShapes Go.ChangeAt Go.RowKit
namespace Sk
set_option maxRecDepth 100000 in
theorem goodsSums_lifted (os : Os) (started : os.Started) (H : Type) (enc : TypeId × Value → H) :
    ReturnsInHanded {} Try.checked os 6 .any (Rows.goodsSumsSpec.pre6 enc Try.prog Try.f6 Rows.goodsSumsRow.domain false) (Rows.goodsSumsSpec.post enc Try.prog Try.f6 false true false false) := by
  refine returnsInHanded_of_change (C := Try.checked) own started (by kernel_rfl) Try.func6
    (ChangeSpec.witness6 (enc := enc) (C := Try.checked) false ⟨#[], #[.slice none 0 0, .string .empty], []⟩ 8 (by kernel_rfl) (by kernel_rfl) (by kernel_rfl) (by kernel_rfl)) ?_
  intro W base args ds gs before hval0 hW _ _
  have hval : ∀ (j : Nat) t v, Try.f6.params[j]? = some t → args[j]? = some v → Value.okWide Try.prog W .any base t v := hval0
  obtain ⟨p, q, hA0, hV, hps, hfz, hnd⟩ := id hW
  have hA : DataW.TrodAll enc Try.prog W 0 (fun _ => true) true Try.f6.params.toList args.toList ds p := hA0
  rw [Try.params6] at hA hval
  obtain ⟨v0, vs0, d0, ds0, p0, q0, hargs, rfl, rfl, h0, r0⟩ := trodAll_cons hA
  obtain ⟨v1, vs1, d1, ds1, p1, q1, rfl, rfl, rfl, h1, r1⟩ := trodAll_cons r0
  obtain ⟨rfl, rfl, rfl⟩ := trodAll_nil r1
  obtain rfl : args = #[v0, v1] := by cases args; simp_all
  obtain ⟨rfl, rfl⟩ := trodVars_none hV
  obtain ⟨good, rfl, rfl, rfl, wgood⟩ := Go.ChangeMaps.open_string Try.underlying9 (hval 1 9 v1 rfl rfl) h1
  obtain ⟨l, hl, fl⟩ := Sk.open_opss h0 (okWide_slice Try.underlying44 (hval 0 44 v0 rfl rfl))
  refine (sums_law l v0 good wgood W hl fl).mono fun e W' ⟨he, hb⟩ => ?_
  subst he
  exact ⟨_, rfl, law_post laidOut (by kernel_rfl) rfl Try.underlying4 rfl hW rfl hb⟩

theorem goodsSums_holds : Rows.GoodsSumsSaid :=
  OpenClaim.holds_of_wide 6 Try.f6 rfl rfl rfl rfl rfl rfl rfl ⟨rfl, rfl, rfl, rfl, rfl⟩ rfl rfl rfl rfl rfl (by kernel_rfl) Try.func6 (by kernel_rfl)
    (of_decide_eq_true (by kernel_rfl)) (by unfold Func.isWrapper; first | (rw [if_pos (by decide +kernel)]; kernel_rfl) | (rw [if_neg (by decide +kernel)]; exact ⟨rfl, rfl⟩))
    (fun os started H enc _ => goodsSums_lifted os started H enc)

end Sk
end Go.Proofs.Ytlhpdalfnjhokaa
