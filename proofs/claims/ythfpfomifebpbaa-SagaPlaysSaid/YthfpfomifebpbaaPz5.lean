/-
  saga: Next, whose saga and steps lie in new memory.
-/
import Derived.Test.YthfpfomifebpbaaSs6
import Derived.Test.YthfpfomifebpbaaPz4

set_option linter.unusedVariables false
set_option linter.unusedSimpArgs false
namespace Go.Proofs.Ythfpfomifebpbaa
open Go.RowKit Go.Maps
namespace Sa
open It
variable {mlo : Nat}
set_option linter.unusedSimpArgs false

theorem SlOff.highm {w w' : World} {b size n : Nat} {v : Value} {xs : List Value} (h : SlOff mlo w b size v n xs) (hk : Kept (fun i => mlo ≤ i ∧ i < w.heap.size) w w') : Sl w' mlo w'.heap.size size v n xs := by
  obtain ⟨lo, B, h0, h1, h2, h3⟩ := h
  exact (hk.sl h3 fun i ha hb => ⟨by omega, by omega⟩).wide h0 (Nat.le_trans h2 hk.size)
theorem Off.highm {w w' : World} {b : Nat} {s : Saga} {vw vg vp : Value} (h : Off mlo w b s vw vg vp) (hk : Kept (fun i => mlo ≤ i ∧ i < w.heap.size) w w') : Parts w' mlo w'.heap.size s vw vg vp := by
  obtain ⟨vs, h1, h2, h3⟩ := h.got
  exact ⟨SlOff.highm h.want hk, ⟨vs, h1, SlOff.highm h2 hk, fun k hk' => SlOff.highm (h3 k hk') hk⟩, SlOff.highm h.pend hk⟩

set_option maxRecDepth 100000 in
set_option maxHeartbeats 4000000 in
theorem next_fresh (s : Saga) (vw vg vp : Value) (ev : Ev) (ve : Value) (w : World) (h : Parts w 0 w.heap.size s vw vg vp) (hF : Fit s) (hv : ItemsAt w 0 w.heap.size ve ev.items) (hFe : Fits ev.items) :
    Calls Try.prog 20 #[.agg (sagaC s vw vg vp), .agg (evC ev ve)] w fun e w' => Ret3 w.heap.size w' e (nextS s ev) ∧ Below w.heap.size w w' := by
  have HP := Lib.hid h
  have HV := Lib.hid hv
  obtain ⟨A, c, rfl, -⟩ := h.want.form
  obtain ⟨A', c', rfl, -⟩ := h.got.form
  obtain ⟨A2, c2, rfl, -⟩ := h.pend.form
  obtain ⟨A3, c3, rfl, -⟩ := hv.form
  clear h hv
  obtain ⟨sc, hsc⟩ : ∃ sc, sc = sagaC s (.slice A s.want.length c) (.slice A' s.got.length c') (.slice A2 s.pending.length c2) := ⟨_, rfl⟩
  obtain ⟨ec, hec⟩ : ∃ ec, ec = evC ev (.slice A3 ev.items.length c3) := ⟨_, rfl⟩
  have ha1 := (Below.refl w.heap.size w).alloc (Nat.le_refl _) (.cells sc 27)
  have ha2 := ha1.alloc ha1.size (.cells ec 44)
  have ha3 := ha2.alloc ha2.size (.cells #[.int .i64 0, .int .i64 0, .int .i64 0, .slice none 0 0, .bool false, .int .i64 0, .int .i64 0, .slice none 0 0, .slice none 0 0, .bool false] 27)
  have o1 := ((Ob.new w 27 sc).alloc (.cells ec 44)).alloc (.cells #[.int .i64 0, .int .i64 0, .int .i64 0, .slice none 0 0, .bool false, .int .i64 0, .int .i64 0, .slice none 0 0, .slice none 0 0, .bool false] 27)
  have o2 := (Ob.new (w.alloc (.cells sc 27)) 44 ec).alloc (.cells #[.int .i64 0, .int .i64 0, .int .i64 0, .slice none 0 0, .bool false, .int .i64 0, .int .i64 0, .slice none 0 0, .slice none 0 0, .bool false] 27)
  have o3 := Ob.new ((w.alloc (.cells sc 27)).alloc (.cells ec 44)) 27 #[.int .i64 0, .int .i64 0, .int .i64 0, .slice none 0 0, .bool false, .int .i64 0, .int .i64 0, .slice none 0 0, .slice none 0 0, .bool false]
  have z1 : (w.alloc (.cells sc 27)).heap.size = w.heap.size + 1 := World.size_alloc _ _
  have z2 : ((w.alloc (.cells sc 27)).alloc (.cells ec 44)).heap.size = w.heap.size + 2 := by rw [World.size_alloc, z1]
  rw [z1] at o2
  rw [z2] at o3
  rw [← hsc, ← hec]
  unfold nextS
  have hcall : ∀ W, Below w.heap.size w W → Calls Try.prog 26 #[.agg sc] W fun e w' => e = .returned (.bool (mayS s)) ∧ Below W.heap.size W w' := fun W hb => by rw [hsc]; exact sagamay_calls s _ _ _ W (HP.out.later hb) hF
  have hcop : mayS s = true → ∀ W, Below w.heap.size w W → Calls Try.prog 35 #[.agg sc] W _ := fun hm W hb => by
    rw [hsc]
    obtain ⟨hh, -⟩ := mayS_split hm
    exact copied_calls s _ _ _ W (HP.out.later hb) (by have := may_len hh.may; omega) (by have := hh.got; have := hh.r2; omega) (by have := (pend_in hm).2; omega) (got_len hh.kept)
  have HC := Lib.hid hcall
  have HCO := Lib.hid hcop
  have hs1 : sc.size = 10 := by rw [hsc]; rfl
  have he1 : ec.size = 3 := by rw [hec]; rfl
  have HSC := Lib.hid hsc
  have HEC := Lib.hid hec
  clear hcall hcop hsc hec
  go_enter Try.func20, Try.ntmps20
  go_wp2_with (first
    | (refine wpList_load_obg (by rfl) _ _ rfl rfl _ o1 Try.underlying27 rfl (by rw [hs1]; kernel_rfl) ?_)
    | (refine wpList_load_obg (by rfl) _ _ rfl rfl _ o2 Try.underlying44 rfl (by rw [he1]; kernel_rfl) ?_))
  generalize (((w.alloc (.cells sc 27)).alloc (.cells ec 44)).alloc (.cells #[.int .i64 0, .int .i64 0, .int .i64 0, .slice none 0 0, .bool false, .int .i64 0, .int .i64 0, .slice none 0 0, .slice none 0 0, .bool false] 27)) = W0 at *
  have hz0 := o3.lt
  refine (HC.out _ ha3).mono ?_
  rintro e W1 ⟨rfl, hb1⟩
  have o1 := o1.same hb1
  have o2 := o2.same hb1
  have o3 := o3.same hb1
  have hB1 := ha3.trans (hb1.mono (by omega))
  have hs1' := hb1.size
  clear ha1 ha2 ha3 hb1 HC z1 z2
  generalize hm : mayS s = m
  have HM := Lib.hid hm
  clear hm
  cases m with
  | false =>
    go_wp2_with (refine wpList_store_ob (cells := #[.int .i64 0, .int .i64 0, .int .i64 0, .slice none 0 0, .bool false, .int .i64 0, .int .i64 0, .slice none 0 0, .slice none 0 0, .bool false]) rfl 27 (.tmp 4) (.tmp 13) rfl rfl rfl o3 rfl (by kernel_rfl) (by simp [Value.oneCell']) ?_; intro W8 ho8 hg8)
    have hBf := hB1.grown hg8 (by omega) (fun g e => by have e2 : w.heap.size + 2 = g := Option.some.inj e; omega)
    obtain ⟨p0, p1, p2, p3, p4, p5, p6, p7, p8, p9⟩ := ob_ten ho8
    refine bodyPost_ret (v := .tuple #[.agg (sagaC saga0 nilS nilS nilS), nilS, .int .i64 1]) ?_ rfl ⟨by rw [HM.out]; exact rfl, hBf⟩
    simp [results, Try.f20, go_sem, sagaC, saga0, nilS, p0, p1, p2, p3, p4, p5, p6, p7, p8, p9]
  | true =>
    have cC := Lib.hid (HCO.out HM.out W1 hB1)
    go_wp2_with (refine wpList_load_obg (by rfl) _ _ rfl rfl _ o1 Try.underlying27 rfl (by rw [hs1]; kernel_rfl) ?_)
    refine cC.out.mono ?_
    rintro e W2 ⟨⟨uw, ug, up, P, G, L, rfl, hP, hMk⟩, hb2⟩
    have o2 := o2.same hb2
    have o3 := o3.same hb2
    have hB2 := hB1.trans (hb2.mono (by omega))
    have hs2' := hb2.size
    have hf1 := (hMk (W2.alloc (.cells (sagaC s uw ug up) 27)) W2.heap.size ((Below.refl W2.heap.size W2).alloc (Nat.le_refl _) _) (Nat.le_refl _) (Ob.new _ _ _)).off.parts
    obtain ⟨D1, d1, rfl, -⟩ := hf1.want.form
    obtain ⟨D2, d2, rfl, -⟩ := hf1.got.form
    obtain ⟨D3, d3, rfl, -⟩ := hf1.pend.form
    obtain ⟨sd, hsd⟩ : ∃ sd, sd = sagaC s (.slice D1 s.want.length d1) (.slice D2 s.got.length d2) (.slice D3 s.pending.length d3) := ⟨_, rfl⟩
    rw [← hsd] at hMk ⊢
    have hoN := Ob.new W2 27 #[.int .i64 0, .int .i64 0, .int .i64 0, .slice none 0 0, .bool false, .int .i64 0, .int .i64 0, .slice none 0 0, .slice none 0 0, .bool false]
    have hd1 : sd.size = 10 := by rw [hsd]; rfl
    have hd2 : sd.all (·.oneCell') = true := by rw [hsd]; simp [sagaC, Value.oneCell']
    have z3 : (W2.alloc (.cells #[.int .i64 0, .int .i64 0, .int .i64 0, .slice none 0 0, .bool false, .int .i64 0, .int .i64 0, .slice none 0 0, .slice none 0 0, .bool false] 27)).heap.size = W2.heap.size + 1 := World.size_alloc _ _
    have hal3 := (Below.refl W2.heap.size W2).alloc (Nat.le_refl _) (.cells #[.int .i64 0, .int .i64 0, .int .i64 0, .slice none 0 0, .bool false, .int .i64 0, .int .i64 0, .slice none 0 0, .slice none 0 0, .bool false] 27)
    have HSD := Lib.hid hsd
    clear hf1 hsd
    go_wp2_with (first
      | (refine wpList_store_ob (cells := sd) rfl 27 (.tmp 7) (.tmp 15) rfl rfl rfl hoN hd1 (by rw [hd1]; kernel_rfl) hd2 ?_
         intro W3 hoT hg3
         have hb3 : Below W2.heap.size W2 W3 := hal3.grown hg3 (by omega) (fun g e => by have e2 : W2.heap.size = g := Option.some.inj e; omega)
         have hmine := hMk W3 W2.heap.size hb3 (Nat.le_refl _) hoT
         have o2 := o2.same hb3
         have o3 := o3.same hb3
         have hB3 := hB2.trans (hb3.mono (by omega))
         have hs3' := hb3.size
         have hz3' := hg3.size
         obtain ⟨hh, -⟩ := mayS_split HM.out
         have cH := Lib.hid (happen_calls s _ _ _ P G L W2.heap.size W1.heap.size ev _ _ hmine hP (pend_in HM.out).1 ((HV.out.mono hB3 (Nat.le_refl _)).wide (Nat.le_refl _) (by omega)) hh hF hFe (by have := may_len hh.may; omega))
         rw [← HEC.out] at cH
         clear hMk hmine hh cC hb3 hoN hal3 hg3)
      | (refine wpList_load_obg (by rfl) _ _ rfl rfl _ o2 Try.underlying44 rfl (by rw [he1]; kernel_rfl) ?_))
    refine cH.out.mono ?_
    rintro e W4 ⟨hR, hb4⟩
    have o3 := o3.below hb4 (by omega)
    have hB4 := hB3.trans (hb4.mono (by omega))
    have hs4' := hb4.size
    clear cH o2 hb4
    generalize hrs : happenS s ev = r at hR
    have HRS := Lib.hid hrs
    have hnx : nextU (mayS s) (happenS s ev) = r := by rw [HM.out, hrs]; rfl
    have HNX := Lib.hid hnx
    clear hrs hnx
    cases r with
    | error x =>
      have hx0 : x ≠ 0 := happen_err HRS.out
      have dx : decide (x = 0) = false := decide_eq_false hx0
      have dx2 : (x == 0) = false := by rw [beq_eq_false_iff_ne]; exact hx0
      have dx3 : (x != 0) = true := by simp [bne, dx2]
      obtain rfl : e = .returned (.tuple #[.slice none 0 0, .int .i64 x]) := hR
      go_wp2_with (refine wpList_store_ob (cells := #[.int .i64 0, .int .i64 0, .int .i64 0, .slice none 0 0, .bool false, .int .i64 0, .int .i64 0, .slice none 0 0, .slice none 0 0, .bool false]) rfl 27 (.tmp 4) (.tmp 23) rfl rfl rfl o3 rfl (by kernel_rfl) (by simp [Value.oneCell']) ?_; intro W8 ho8 hg8)
      have hBf := hB4.grown hg8 (by omega) (fun g e => by have e2 : w.heap.size + 2 = g := Option.some.inj e; omega)
      obtain ⟨p0, p1, p2, p3, p4, p5, p6, p7, p8, p9⟩ := ob_ten ho8
      refine bodyPost_ret (v := .tuple #[.agg (sagaC saga0 nilS nilS nilS), nilS, .int .i64 x]) ?_ rfl ⟨by rw [HNX.out]; exact rfl, hBf⟩
      simp [results, Try.f20, go_sem, sagaC, saga0, nilS, p0, p1, p2, p3, p4, p5, p6, p7, p8, p9]
    | ok y =>
      obtain ⟨vl, rfl, hSt, vw4, vg4, vp4, ho4, hf4⟩ := hR
      have hf5 := hf4.parts
      obtain ⟨B1, e1, rfl, -⟩ := hf5.want.form
      obtain ⟨B2, e2, rfl, -⟩ := hf5.got.form
      obtain ⟨B3, e3, rfl, -⟩ := hf5.pend.form
      obtain ⟨B4, e4, rfl, -⟩ := hSt.form
      have hmb := hf4.mb
      clear hf5
      go_wp2_with (first
        | (refine wpList_load_obg (by rfl) _ _ rfl rfl _ ho4 Try.underlying27 rfl (by kernel_rfl) ?_)
        | (refine wpList_store_ob (cells := sagaC y.1 (.slice B1 y.1.want.length e1) (.slice B2 y.1.got.length e2) (.slice B3 y.1.pending.length e3)) rfl 27 (.tmp 4) (.tmp 25) rfl rfl rfl o3 rfl (by kernel_rfl) (by simp [sagaC, Value.oneCell']) ?_; intro W8 ho8 hg8))
      have hBf := hB4.grown hg8 (by omega) (fun g e => by have e2 : w.heap.size + 2 = g := Option.some.inj e; omega)
      have hk8 : Kept (fun i => W1.heap.size + 2 ≤ i ∧ i < W4.heap.size) W4 W8 := Kept.of_grown hg8 fun i hi => ⟨hi.2, fun e => by have e2 : i = w.heap.size + 2 := Option.some.inj e; have := hi.1; omega⟩
      obtain ⟨p0, p1, p2, p3, p4, p5, p6, p7, p8, p9⟩ := ob_ten ho8
      refine bodyPost_ret (v := .tuple #[.agg (sagaC y.1 (.slice B1 y.1.want.length e1) (.slice B2 y.1.got.length e2) (.slice B3 y.1.pending.length e3)), .slice B4 y.2.length e4, .int .i64 0]) ?_ rfl ⟨by rw [HNX.out]; exact ⟨_, _, _, _, rfl, (hf4.highm hk8).wide (by have := hB1.size; omega) (Nat.le_refl _), (hSt.kept hk8 fun i ha hb => ⟨ha, hb⟩).wide (by have := hB1.size; omega) hg8.size⟩, hBf⟩
      simp [results, Try.f20, go_sem, sagaC, p0, p1, p2, p3, p4, p5, p6, p7, p8, p9]
end Sa
end Go.Proofs.Ythfpfomifebpbaa
