/-
  saga: retry.
  saga: happen, Next.
  saga: which regions a saga that may be names; what happens gives no error 0.
  saga: Next.
  saga: the parts of a saga that lie in none of some blocks.
  saga: Same, Over.
  saga: what lives looks at, by reckoning.
  saga: lives.
  the document's answers on items: put.
  the document's answers on items: Norm.
  items: what the law's walk collects.
  items: what the laws Order, Parts and Walks say is true.
  saga: the document's Split, Missing.
-/
import Derived.Test.YthfpfomifebpbaaGreatNz6
import Derived.Test.YthfpfomifebpbaaGreatNz5
import Derived.Test.YthfpfomifebpbaaGreatNz4
import Derived.Laws.OwnMore
import Derived.Deep.AppendLies

set_option linter.unusedVariables false
set_option linter.unusedSimpArgs false
namespace Go.Proofs.YthfpfomifebpbaaGreat
open Go.RowKit Go.Maps
namespace Sa
open It
variable {mlo : Nat}
set_option linter.unusedSimpArgs false

def retryS (s : Saga) : Except Int (Saga × List Step) := if s.state = 3 then beginS s.order s.first s.regions s.want s.waits else .error 80

theorem retry_end {r : Except Int (Saga × List Step)} {W1 W5 : World} {lo b n1 c1 n2 c2 n3 c3 n4 c4 : Nat} {A1 A2 A3 A4 : Option Addr} {y : Saga} {x : Int}
    (hr : Gives lo W1 y (.slice A1 n1 c1) (.slice A2 n2 c2) (.slice A3 n3 c3) (.slice A4 n4 c4) x r)
    (hk : Kept (fun i => lo ≤ i ∧ i < W1.heap.size) W1 W5) (hob : Ob W5 b 26 (sagaC y (.slice A1 n1 c1) (.slice A2 n2 c2) (.slice A3 n3 c3))) (hlo : b < lo) (hmb : mlo ≤ b) :
    Ret mlo W5 b (.returned (.tuple #[.slice A4 n4 c4, .int .i64 x])) r := by
  cases r with
  | error z =>
    obtain ⟨rfl, h⟩ := hr
    show Ending.returned _ = _
    rw [h]
  | ok u =>
    obtain ⟨rfl, rfl, hP, hS⟩ := hr
    have hsz := hk.size
    have hP5 := hP.kept hk fun i ha hb => ⟨ha, hb⟩
    obtain ⟨vs, g1, g2, g3⟩ := hP5.got
    refine ⟨_, rfl, (hS.kept hk fun i ha hb => ⟨ha, hb⟩).wide (by omega) hsz, _, _, _, hob, ⟨hmb, ⟨lo, _, by omega, .inr hlo, hsz, hP5.want⟩, ⟨vs, g1, ⟨lo, _, by omega, .inr hlo, hsz, g2⟩, fun k hk' => ⟨lo, _, by omega, .inr hlo, hsz, g3 k hk'⟩⟩, ⟨lo, _, by omega, .inr hlo, hsz, hP5.pend⟩⟩⟩

set_option maxRecDepth 100000 in
set_option maxHeartbeats 4000000 in
theorem retry_calls (s : Saga) (vw vg vp : Value) (b : Nat) (w : World) (ho : Ob w b 26 (sagaC s vw vg vp)) (hf : Off mlo w b s vw vg vp) (hF : Fits s.want) (hl : s.want.length ≤ 1000000) :
    Calls Tryz.prog 71 #[.pointer (some ⟨b, 0, none⟩)] w fun e w' => Ret mlo w' b e (retryS s) ∧ Below b w w' := by
  have hmx : Tryz.prog.follows .mixedOrders = true := by kernel_rfl
  have hlt := ho.lt
  obtain ⟨-, -, -, -, -, k5, -, -, -, -⟩ := ob_ten ho
  unfold retryS
  by_cases h3 : s.state = 3
  · rw [if_pos h3]
    have d1 : decide (s.state = 3) = true := decide_eq_true h3
    have d2 : (s.state == 3) = true := by rw [beq_iff_eq]; exact h3
    have d3 : (s.state != 3) = false := by simp [bne, d2]
    have hob : Ob w.drew b 26 (sagaC s vw vg vp) := ho
    have hpa := hf.parts
    obtain ⟨A, c, rfl, -⟩ := hpa.want.form
    have hdr : Below w.heap.size w w.drew := (Below.refl _ w).drew
    have hdz : w.drew.heap.size = w.heap.size := rfl
    have cB := Lib.hid (fun V (h : Below w.drew.heap.size w.drew V) => begin_calls s.order s.first s.regions s.want s.waits (.slice A s.want.length c) V (hpa.want.mono (hdr.trans h) (by have := h.size; have : w.drew.heap.size = w.heap.size := rfl; omega)) hF hl)
    have hmb := hf.mb
    clear ho hf hpa h3
    go_enter Tryz.func71, Tryz.ntmps71
    go_wp2
    refine Pt.regionT (.look 0 (.look 1 (.look 2 (.look 3 (.look 4 (.look 5 (.look 6 (.look 7 (.look 8 (.look 9 (.look 10 (.look 11 (.look 12 (.look 13 (.look 14 (.look 15 (.look 16 (.look 17 (.look 18 (.look 19 (.fork 20 (.look 21 (.look 22 (.look 23 (.look 24 (.make 25 (.make 26 (.look 27 (.look 28 .nil)))))))) 25 (.make 20 (.look 21 (.look 22 (.look 23 (.look 24 (.make 26 (.look 27 (.look 28 .nil))))))))))))))))))))))))))))) (fun V => Ob V b 26 (sagaC s (.slice A s.want.length c) vg vp)) hmx (by kernel_rfl) (by kernel_rfl) (by kernel_rfl) hob rfl ?_
    simp only [Pt.named, List.getElem?_toArray, List.getElem?_cons_succ, List.getElem?_cons_zero, Option.map_some]
    iterate 20 (
      apply Pt.WalkT.on (by rfl)
      · intro V hV
        obtain ⟨q0, q1, q2, q3, q4, q5, q6, q7, q8, q9⟩ := ob_ten hV
        go_wp2_with fail
        refine ⟨rfl, ?_, rfl⟩
        try simp only [Act.put, List.setIfInBounds_toArray, List.set_cons_succ, List.set_cons_zero]
        rfl
      simp only [Act.put, List.setIfInBounds_toArray, List.set_cons_succ, List.set_cons_zero])
    refine Pt.WalkT.fork (by rfl) (by rfl) ?_ ?_
    · intro W hWJ
      cases hWJ.symm
      go_wp2_with (go_at_call 21; refine (cB.out w.drew (Below.refl _ _)).mono ?_; rintro e W1 ⟨hr, hb1⟩; obtain ⟨y, A1, n1, c1, A2, n2, c2, A3, n3, c3, A4, n4, c4, xx, rfl, hgv⟩ := hr.form; clear hr)
      have hob1 := hob.same hb1
      have hs1 := hb1.size
      refine ⟨rfl, .tuple #[.agg (sagaC y (.slice A1 n1 c1) (.slice A2 n2 c2) (.slice A3 n3 c3)), .slice A4 n4 c4, .int .i64 xx], _, (fun V => V = W1), ?_, rfl, (fun V h => by rw [h]; exact hob1), (.inr (fun _ h => h)), ?_⟩
      · simp only [Act.put, List.setIfInBounds_toArray, List.set_cons_succ, List.set_cons_zero]
      simp only [Act.put, List.setIfInBounds_toArray, List.set_cons_succ, List.set_cons_zero]
      iterate 4 (
        apply Pt.WalkT.on (by rfl)
        · intro V hV
          go_wp2_with fail
          refine ⟨rfl, ?_, rfl⟩
          try simp only [Act.put, List.setIfInBounds_toArray, List.set_cons_succ, List.set_cons_zero]
          rfl
        simp only [Act.put, List.setIfInBounds_toArray, List.set_cons_succ, List.set_cons_zero])
      refine Pt.WalkT.make (by rfl) ?_
      intro W hWJ
      cases hWJ.symm
      have halk := (Below.refl W1.heap.size W1).alloc (Nat.le_refl _) (.cells #[.int .i64 0, .int .i64 0, .int .i64 0, .slice none 0 0, .bool false, .int .i64 0, .int .i64 0, .slice none 0 0, .slice none 0 0, .bool false] 26)
      have hob2 := hob1.same halk
      have hq := Ob.new W1 26 #[.int .i64 0, .int .i64 0, .int .i64 0, .slice none 0 0, .bool false, .int .i64 0, .int .i64 0, .slice none 0 0, .slice none 0 0, .bool false]
      have hzq : (W1.alloc (.cells #[.int .i64 0, .int .i64 0, .int .i64 0, .slice none 0 0, .bool false, .int .i64 0, .int .i64 0, .slice none 0 0, .slice none 0 0, .bool false] 26)).heap.size = W1.heap.size + 1 := World.size_alloc _ _
      go_wp2_with fail
      refine ⟨rfl, .pointer (some ⟨W1.heap.size, 0, none⟩), _, (fun V => V = _), ?_, rfl, (fun V h => by rw [h]; exact hob2), (.inr (fun _ h => h)), ?_⟩
      · simp only [Act.put, List.setIfInBounds_toArray, List.set_cons_succ, List.set_cons_zero]
      simp only [Act.put, List.setIfInBounds_toArray, List.set_cons_succ, List.set_cons_zero]
      generalize W1.alloc (.cells #[.int .i64 0, .int .i64 0, .int .i64 0, .slice none 0 0, .bool false, .int .i64 0, .int .i64 0, .slice none 0 0, .slice none 0 0, .bool false] 26) = WQ at *
      refine Pt.WalkT.make (by rfl) ?_
      intro W hWJ
      cases hWJ.symm
      go_wp2_with (refine wpList_store_ob (cells := (sagaC y (.slice A1 n1 c1) (.slice A2 n2 c2) (.slice A3 n3 c3))) rfl 26 (.tmp 4) (.tmp 34) rfl rfl rfl hq rfl (by kernel_rfl) (by simp [sagaC, Value.oneCell']) ?_; intro W4 ho4 hg4)
      have hob4 := hob2.kept hg4 (by simp; omega)
      refine ⟨rfl, undef, _, (fun V => V = W4), ?_, rfl, (fun V h => by rw [h]; exact hob4), (.inr (fun _ h => h)), ?_⟩
      · simp only [Act.put, List.setIfInBounds_toArray, List.set_cons_succ, List.set_cons_zero]
      simp only [Act.put, List.setIfInBounds_toArray, List.set_cons_succ, List.set_cons_zero]
      iterate 2 (
        apply Pt.WalkT.on (by rfl)
        · intro V hV
          go_wp2_with fail
          refine ⟨rfl, ?_, rfl⟩
          try simp only [Act.put, List.setIfInBounds_toArray, List.set_cons_succ, List.set_cons_zero]
          rfl
        simp only [Act.put, List.setIfInBounds_toArray, List.set_cons_succ, List.set_cons_zero])
      refine Pt.WalkT.nil ?_
      rintro V hVJ
      cases hVJ.symm
      go_wp2_with (first
        | (refine wpList_load_obg (by rfl) _ _ rfl rfl _ ho4 Tryz.underlying26 rfl (by kernel_rfl) ?_)
        | (refine wpList_store_ob (cells := (sagaC y (.slice A1 n1 c1) (.slice A2 n2 c2) (.slice A3 n3 c3))) rfl 26 (.tmp 39) (.tmp 38) rfl rfl rfl hob4 rfl (by kernel_rfl) (by simp [sagaC, Value.oneCell']) ?_; intro W5 ho5 hg5))
      go_ret2
      have hs4 := hg4.size
      have hs5 := hg5.size
      refine ⟨retry_end hgv (((Kept.of_below halk fun i hi => hi.2).trans (Kept.of_grown hg4 fun i hi => ⟨by have := hi.1; have := hi.2; omega, fun e => by have := hi.1; have := hi.2; have e2 : W1.heap.size = i := (Option.some.inj e).symm; omega⟩)).trans (Kept.of_grown hg5 fun i hi => ⟨by have := hi.1; have := hi.2; omega, fun e => by have := hi.1; have := hi.2; have e2 : b = i := (Option.some.inj e).symm; omega⟩)) ho5 (by omega) hmb, ((((hdr.trans hb1).mono (by omega)).trans (halk.mono (by omega))).grown hg4 (by omega) (fun g e => by have e2 : W1.heap.size = g := Option.some.inj e; omega)).grown hg5 (by omega) (fun g e => by have e2 : b = g := Option.some.inj e; omega)⟩
    · intro W hWJ
      cases hWJ.symm
      have hal := (Below.refl w.drew.heap.size w.drew).alloc (Nat.le_refl _) (.cells #[.int .i64 0, .int .i64 0, .int .i64 0, .slice none 0 0, .bool false, .int .i64 0, .int .i64 0, .slice none 0 0, .slice none 0 0, .bool false] 26)
      have hob2 := hob.same hal
      have hq := Ob.new w.drew 26 #[.int .i64 0, .int .i64 0, .int .i64 0, .slice none 0 0, .bool false, .int .i64 0, .int .i64 0, .slice none 0 0, .slice none 0 0, .bool false]
      have hzq : (w.drew.alloc (.cells #[.int .i64 0, .int .i64 0, .int .i64 0, .slice none 0 0, .bool false, .int .i64 0, .int .i64 0, .slice none 0 0, .slice none 0 0, .bool false] 26)).heap.size = w.drew.heap.size + 1 := World.size_alloc _ _
      go_wp2_with fail
      refine ⟨rfl, .pointer (some ⟨w.heap.size, 0, none⟩), _, (fun V => V = _), ?_, rfl, (fun V h => by rw [h]; exact hob2), (.inr (fun _ h => h)), ?_⟩
      · simp only [Act.put, List.setIfInBounds_toArray, List.set_cons_succ, List.set_cons_zero]
      simp only [Act.put, List.setIfInBounds_toArray, List.set_cons_succ, List.set_cons_zero]
      rw [show w.drew.alloc (.cells #[.int .i64 0, .int .i64 0, .int .i64 0, .slice none 0 0, .bool false, .int .i64 0, .int .i64 0, .slice none 0 0, .slice none 0 0, .bool false] 26) = (w.alloc (.cells #[.int .i64 0, .int .i64 0, .int .i64 0, .slice none 0 0, .bool false, .int .i64 0, .int .i64 0, .slice none 0 0, .slice none 0 0, .bool false] 26)).drew from rfl] at hal hob2 hq hzq
      generalize (w.alloc (.cells #[.int .i64 0, .int .i64 0, .int .i64 0, .slice none 0 0, .bool false, .int .i64 0, .int .i64 0, .slice none 0 0, .slice none 0 0, .bool false] 26)).drew = WQ at *
      refine Pt.WalkT.make (by rfl) ?_
      intro W hWJ
      cases hWJ.symm
      go_wp2_with (go_at_call 21; refine (cB.out WQ hal).mono ?_; rintro e W1 ⟨hr, hb1⟩; obtain ⟨y, A1, n1, c1, A2, n2, c2, A3, n3, c3, A4, n4, c4, xx, rfl, hgv⟩ := hr.form; clear hr)
      have hob1 := hob2.same hb1
      have hs1 := hb1.size
      refine ⟨rfl, .tuple #[.agg (sagaC y (.slice A1 n1 c1) (.slice A2 n2 c2) (.slice A3 n3 c3)), .slice A4 n4 c4, .int .i64 xx], _, (fun V => V = W1), ?_, rfl, (fun V h => by rw [h]; exact hob1), (.inr (fun _ h => h)), ?_⟩
      · simp only [Act.put, List.setIfInBounds_toArray, List.set_cons_succ, List.set_cons_zero]
      simp only [Act.put, List.setIfInBounds_toArray, List.set_cons_succ, List.set_cons_zero]
      iterate 4 (
        apply Pt.WalkT.on (by rfl)
        · intro V hV
          go_wp2_with fail
          refine ⟨rfl, ?_, rfl⟩
          try simp only [Act.put, List.setIfInBounds_toArray, List.set_cons_succ, List.set_cons_zero]
          rfl
        simp only [Act.put, List.setIfInBounds_toArray, List.set_cons_succ, List.set_cons_zero])
      refine Pt.WalkT.make (by rfl) ?_
      intro W hWJ
      cases hWJ.symm
      go_wp2_with (refine wpList_store_ob (cells := (sagaC y (.slice A1 n1 c1) (.slice A2 n2 c2) (.slice A3 n3 c3))) rfl 26 (.tmp 4) (.tmp 34) rfl rfl rfl (hq.same hb1) rfl (by kernel_rfl) (by simp [sagaC, Value.oneCell']) ?_; intro W4 ho4 hg4)
      have hob4 := hob1.kept hg4 (by simp; omega)
      refine ⟨rfl, undef, _, (fun V => V = W4), ?_, rfl, (fun V h => by rw [h]; exact hob4), (.inr (fun _ h => h)), ?_⟩
      · simp only [Act.put, List.setIfInBounds_toArray, List.set_cons_succ, List.set_cons_zero]
      simp only [Act.put, List.setIfInBounds_toArray, List.set_cons_succ, List.set_cons_zero]
      iterate 2 (
        apply Pt.WalkT.on (by rfl)
        · intro V hV
          go_wp2_with fail
          refine ⟨rfl, ?_, rfl⟩
          try simp only [Act.put, List.setIfInBounds_toArray, List.set_cons_succ, List.set_cons_zero]
          rfl
        simp only [Act.put, List.setIfInBounds_toArray, List.set_cons_succ, List.set_cons_zero])
      refine Pt.WalkT.nil ?_
      rintro V hVJ
      cases hVJ.symm
      go_wp2_with (first
        | (refine wpList_load_obg (by rfl) _ _ rfl rfl _ ho4 Tryz.underlying26 rfl (by kernel_rfl) ?_)
        | (refine wpList_store_ob (cells := (sagaC y (.slice A1 n1 c1) (.slice A2 n2 c2) (.slice A3 n3 c3))) rfl 26 (.tmp 39) (.tmp 38) rfl rfl rfl hob4 rfl (by kernel_rfl) (by simp [sagaC, Value.oneCell']) ?_; intro W5 ho5 hg5))
      go_ret2
      have hs4 := hg4.size
      have hs5 := hg5.size
      refine ⟨retry_end hgv ((Kept.of_grown hg4 fun i hi => ⟨by have := hi.1; have := hi.2; omega, fun e => by have := hi.1; have := hi.2; have e2 : w.heap.size = i := (Option.some.inj e).symm; omega⟩).trans (Kept.of_grown hg5 fun i hi => ⟨by have := hi.1; have := hi.2; omega, fun e => by have := hi.1; have := hi.2; have e2 : b = i := (Option.some.inj e).symm; omega⟩)) ho5 (by omega) hmb, ((((hdr.mono (by omega)).trans (hal.mono (by omega))).trans (hb1.mono (by omega))).grown hg4 (by omega) (fun g e => by have e2 : w.heap.size = g := Option.some.inj e; omega)).grown hg5 (by omega) (fun g e => by have e2 : b = g := Option.some.inj e; omega)⟩
  · rw [if_neg h3]
    have d1 : decide (s.state = 3) = false := decide_eq_false h3
    have d2 : (s.state == 3) = false := by rw [beq_eq_false_iff_ne]; exact h3
    have d3 : (s.state != 3) = true := by simp [bne, d2]
    clear h3
    go_enter Tryz.func71, Tryz.ntmps71
    go_wp2
    go_ret2
    exact ⟨rfl, Below.refl _ _⟩
end Sa
end Go.Proofs.YthfpfomifebpbaaGreat

namespace Go.Proofs.YthfpfomifebpbaaGreat
open Go.RowKit Go.Maps
namespace Sa
open It
variable {mlo : Nat}
set_option linter.unusedSimpArgs false

def happenS (s : Saga) (e : Ev) : Except Int (Saga × List Step) :=
  if e.kind = 1 then tookS s e
  else if e.kind = 2 then freedS s e
  else if e.kind = 3 then cancelS s
  else if e.kind = 4 then retryS s
  else if e.kind = 5 then allS s 2 7 7
  else if e.kind = 6 then didS s e 7 8
  else if e.kind = 7 then allS s 8 9 9
  else if e.kind = 8 then didS s e 9 10
  else .error 1
def nextU (m : Bool) (r : Except Int (Saga × List Step)) : Except Int (Saga × List Step) := if m then r else .error 1
def nextS (s : Saga) (e : Ev) : Except Int (Saga × List Step) := nextU (mayS s) (happenS s e)

/-- a Ret has the form of two values -/
theorem Ret.form {w' : World} {b : Nat} {e : Ending} {r : Except Int (Saga × List Step)} (h : Ret mlo w' b e r) : ∃ A n c x, e = .returned (.tuple #[.slice A n c, .int .i64 x]) := by
  cases r with
  | error x => exact ⟨_, _, _, _, h⟩
  | ok y =>
    obtain ⟨vl, rfl, hS, -⟩ := h
    obtain ⟨A, c, rfl, -⟩ := hS.form
    exact ⟨_, _, _, _, rfl⟩

set_option maxRecDepth 100000 in
set_option maxHeartbeats 4000000 in
theorem happen_calls (s : Saga) (vw vg vp : Value) (P G L b base : Nat) (ev : Ev) (ve : Value) (w : World) (hm : Mine mlo w P G L b s vw vg vp) (hbase : base ≤ P) (hr : ∀ x ∈ s.pending, 0 ≤ x ∧ x < s.got.length) (hv : ItemsAt w 0 base ve ev.items)
    (hh : Head s) (hF : Fit s) (hFe : Fits ev.items) (hl : s.want.length ≤ 1000000) :
    Calls Tryz.prog 25 #[.pointer (some ⟨b, 0, none⟩), .agg (evC ev ve)] w fun e w' => Ret mlo w' b e (happenS s ev) ∧ Below base w w' := by
  have hlt := hm.ob.lt
  have h1 := hm.PG
  have h2 := hm.GL
  have h3 := hm.Lb
  have hng : s.got.length ≤ 1000000 := by have := hh.got; have := hh.r2; omega
  have hal := (Below.refl w.heap.size w).alloc (Nat.le_refl _) (.cells (evC ev ve) 28)
  have hm0 := hm.later hal
  have hv0 := hv.mono (hal.mono (show base ≤ w.heap.size by omega)) (Nat.le_refl _)
  have hoE := Ob.new w 28 (evC ev ve)
  have hBA := hal.mono (show base ≤ w.heap.size by omega)
  obtain ⟨A, c, rfl, -⟩ := hv.form
  have c1 := Lib.hid (took_calls s vw vg vp P G L b base ev _ _ hm0 hbase hr hv0 hh hF hFe)
  have c2 := Lib.hid (freed_calls s vw vg vp P G L b base ev _ _ hm0 hbase hr hv0)
  have c3 := Lib.hid (cancel_calls s vw vg vp b _ hm0.ob hm0.off hng)
  have c4 := Lib.hid (retry_calls s vw vg vp b _ hm0.ob hm0.off hF.want hl)
  have c5 := Lib.hid (fun f t k => all_calls s vw vg vp b f t k _ hm0.ob hm0.off hng)
  have c6 := Lib.hid (fun f t => did_calls s vw vg vp P G L b base ev _ f t _ hm0 hbase hr hv0)
  have HBA := Lib.hid hBA
  unfold evC at c1 c2 c3 c4 c5 c6 hoE HBA ⊢
  clear hv hm hm0 hv0 hal hBA hr hh hF hFe
  unfold happenS
  generalize hk : ev.kind = k at c1 c2 c3 c4 c5 c6 hoE HBA ⊢
  clear hk
  obtain ⟨j0, j1, j2⟩ := ob_three hoE
  by_cases e1 : k = 1
  · rw [if_pos e1]
    subst e1
    have hcc := Lib.hid c1.out
    clear c1 c2 c3 c4 c5 c6
    go_enter Tryz.func25, Tryz.ntmps25
    go_wp2_with (refine wpList_load_obg (by rfl) _ _ rfl rfl _ hoE Tryz.underlying28 rfl (by kernel_rfl) ?_)
    refine hcc.out.mono ?_
    rintro e w1 ⟨hR, hb1⟩
    obtain ⟨A1, n1, c1, x1, rfl⟩ := hR.form
    go_wp2
    go_ret2
    exact ⟨hR, HBA.out.trans hb1⟩
  rw [if_neg e1]
  have d1 : decide (k = 1) = false := decide_eq_false e1
  by_cases e2 : k = 2
  · rw [if_pos e2]
    subst e2
    have hcc := Lib.hid c2.out
    clear c1 c2 c3 c4 c5 c6
    go_enter Tryz.func25, Tryz.ntmps25
    go_wp2_with (refine wpList_load_obg (by rfl) _ _ rfl rfl _ hoE Tryz.underlying28 rfl (by kernel_rfl) ?_)
    refine hcc.out.mono ?_
    rintro e w1 ⟨hR, hb1⟩
    obtain ⟨A1, n1, c1, x1, rfl⟩ := hR.form
    go_wp2
    go_ret2
    exact ⟨hR, HBA.out.trans hb1⟩
  rw [if_neg e2]
  have d2 : decide (k = 2) = false := decide_eq_false e2
  by_cases e3 : k = 3
  · rw [if_pos e3]
    subst e3
    have hcc := Lib.hid c3.out
    clear c1 c2 c3 c4 c5 c6
    go_enter Tryz.func25, Tryz.ntmps25
    go_wp2_with (refine wpList_load_obg (by rfl) _ _ rfl rfl _ hoE Tryz.underlying28 rfl (by kernel_rfl) ?_)
    refine hcc.out.mono ?_
    rintro e w1 ⟨hR, hb1⟩
    obtain ⟨A1, n1, c1, x1, rfl⟩ := hR.form
    go_wp2
    go_ret2
    exact ⟨hR, HBA.out.trans (hb1.mono (by omega))⟩
  rw [if_neg e3]
  have d3 : decide (k = 3) = false := decide_eq_false e3
  by_cases e4 : k = 4
  · rw [if_pos e4]
    subst e4
    have hcc := Lib.hid c4.out
    clear c1 c2 c3 c4 c5 c6
    go_enter Tryz.func25, Tryz.ntmps25
    go_wp2_with (refine wpList_load_obg (by rfl) _ _ rfl rfl _ hoE Tryz.underlying28 rfl (by kernel_rfl) ?_)
    refine hcc.out.mono ?_
    rintro e w1 ⟨hR, hb1⟩
    obtain ⟨A1, n1, c1, x1, rfl⟩ := hR.form
    go_wp2
    go_ret2
    exact ⟨hR, HBA.out.trans (hb1.mono (by omega))⟩
  rw [if_neg e4]
  have d4 : decide (k = 4) = false := decide_eq_false e4
  by_cases e5 : k = 5
  · rw [if_pos e5]
    subst e5
    have hcc := Lib.hid (c5.out 2 7 7)
    clear c1 c2 c3 c4 c5 c6
    go_enter Tryz.func25, Tryz.ntmps25
    go_wp2_with (refine wpList_load_obg (by rfl) _ _ rfl rfl _ hoE Tryz.underlying28 rfl (by kernel_rfl) ?_)
    refine hcc.out.mono ?_
    rintro e w1 ⟨hR, hb1⟩
    obtain ⟨A1, n1, c1, x1, rfl⟩ := hR.form
    go_wp2
    go_ret2
    exact ⟨hR, HBA.out.trans (hb1.mono (by omega))⟩
  rw [if_neg e5]
  have d5 : decide (k = 5) = false := decide_eq_false e5
  by_cases e6 : k = 6
  · rw [if_pos e6]
    subst e6
    have hcc := Lib.hid (c6.out 7 8)
    clear c1 c2 c3 c4 c5 c6
    go_enter Tryz.func25, Tryz.ntmps25
    go_wp2_with (refine wpList_load_obg (by rfl) _ _ rfl rfl _ hoE Tryz.underlying28 rfl (by kernel_rfl) ?_)
    refine hcc.out.mono ?_
    rintro e w1 ⟨hR, hb1⟩
    obtain ⟨A1, n1, c1, x1, rfl⟩ := hR.form
    go_wp2
    go_ret2
    exact ⟨hR, HBA.out.trans hb1⟩
  rw [if_neg e6]
  have d6 : decide (k = 6) = false := decide_eq_false e6
  by_cases e7 : k = 7
  · rw [if_pos e7]
    subst e7
    have hcc := Lib.hid (c5.out 8 9 9)
    clear c1 c2 c3 c4 c5 c6
    go_enter Tryz.func25, Tryz.ntmps25
    go_wp2_with (refine wpList_load_obg (by rfl) _ _ rfl rfl _ hoE Tryz.underlying28 rfl (by kernel_rfl) ?_)
    refine hcc.out.mono ?_
    rintro e w1 ⟨hR, hb1⟩
    obtain ⟨A1, n1, c1, x1, rfl⟩ := hR.form
    go_wp2
    go_ret2
    exact ⟨hR, HBA.out.trans (hb1.mono (by omega))⟩
  rw [if_neg e7]
  have d7 : decide (k = 7) = false := decide_eq_false e7
  by_cases e8 : k = 8
  · rw [if_pos e8]
    subst e8
    have hcc := Lib.hid (c6.out 9 10)
    clear c1 c2 c3 c4 c5 c6
    go_enter Tryz.func25, Tryz.ntmps25
    go_wp2_with (refine wpList_load_obg (by rfl) _ _ rfl rfl _ hoE Tryz.underlying28 rfl (by kernel_rfl) ?_)
    refine hcc.out.mono ?_
    rintro e w1 ⟨hR, hb1⟩
    obtain ⟨A1, n1, c1, x1, rfl⟩ := hR.form
    go_wp2
    go_ret2
    exact ⟨hR, HBA.out.trans hb1⟩
  rw [if_neg e8]
  have d8 : decide (k = 8) = false := decide_eq_false e8
  clear c1 c2 c3 c4 c5 c6
  go_enter Tryz.func25, Tryz.ntmps25
  go_wp2
  go_ret2
  exact ⟨rfl, HBA.out⟩
end Sa
end Go.Proofs.YthfpfomifebpbaaGreat

namespace Go.Proofs.YthfpfomifebpbaaGreat
open Go.RowKit Go.Maps
namespace Sa
open It

theorem holders_mem {L : List (List It.Item)} {x : Int} (h : x ∈ holders L) : ∃ i : Nat, x = i ∧ i < L.length ∧ 0 < (L.getD i []).length := by
  unfold holders holdersTo at h
  obtain ⟨i, hi, rfl⟩ := List.mem_map.1 h
  rw [List.mem_filter, List.mem_range] at hi
  exact ⟨i, rfl, hi.1, by simpa using hi.2⟩
theorem holders_len (L : List (List It.Item)) : (holders L).length ≤ L.length := holdersTo_len L L.length
theorem visit_mem {f r x : Int} (h : x ∈ visit f r) : 0 ≤ x ∧ x < r := by
  unfold visit at h
  split at h
  · simp at h
  · obtain ⟨i, -, rfl⟩ := List.mem_map.1 h
    exact ⟨Int.emod_nonneg _ (by omega), Int.emod_lt_of_pos _ (by omega)⟩
theorem inL_mem {x : Int} {l : List Int} (h : Life.inL x l = true) : x ∈ l := by
  unfold Life.inL at h
  rcases idx_cases x l with e | ⟨i, hi, e, hg⟩
  · rw [e] at h
    simp at h
  · rw [← hg, getD_get hi]
    exact List.getElem_mem hi
theorem rises_mem {l all : List Int} (h : rises l all = true) {x : Int} (hx : x ∈ l) : x ∈ all := by
  have h := of_decide_eq_true h
  obtain ⟨i, hi, rfl⟩ := List.getElem_of_mem hx
  have := (h i hi).2
  rw [getD_get hi] at this
  exact inL_mem this
theorem rises_up {l all : List Int} (h : rises l all = true) (h0 : ∀ x ∈ l, 0 ≤ x) : ∀ i, i < l.length → (i : Int) ≤ l.getD i 0 := by
  have h := of_decide_eq_true h
  intro i
  induction i with
  | zero => intro hi; rw [getD_get hi]; exact h0 _ (List.getElem_mem hi)
  | succ i ih =>
    intro hi
    have h1 := ih (by omega)
    have h2 := (h (i + 1) hi).1
    rw [show i + 1 - 1 = i by omega] at h2
    have : ¬ l.getD (i + 1) 0 ≤ l.getD i 0 := fun e => h2 ⟨by omega, e⟩
    omega
theorem rises_len {l all : List Int} {n : Nat} (h : rises l all = true) (h0 : ∀ x ∈ l, 0 ≤ x ∧ x < n) : l.length ≤ n := by
  rcases Nat.eq_zero_or_pos l.length with e | e
  · omega
  · have h1 := rises_up h (fun x hx => (h0 x hx).1) (l.length - 1) (by omega)
    have h2 := (h0 (l.getD (l.length - 1) 0) (by rw [getD_get (by omega)]; exact List.getElem_mem _)).2
    omega
theorem mayS_split {s : Saga} (h : mayS s = true) : Head s ∧ bodyAt s s.state = true := by
  unfold mayS at h
  rw [Bool.and_eq_true] at h
  exact ⟨head_of h.1, h.2⟩
/-- what the state says of who is pending -/
theorem pend_cases {s : Saga} (h : mayS s = true) : (s.state = 1 ∧ s.pending = ((visit s.first s.regions).drop (s.asked - 1).toNat).take 1) ∨ s.pending = [] ∨ ((s.state = 7 ∨ s.state = 9) ∧ rises s.pending (holders s.got) = true ∧ s.pending ≠ []) ∨ (s.state = 4 ∧ s.pending = holders s.got ∧ s.pending ≠ []) := by
  obtain ⟨hh, hb⟩ := mayS_split h
  unfold bodyAt at hb
  have hnil : ∀ {p : Bool}, (decide (s.pending.length = 0)) = true → s.pending = [] := fun {p} e => List.eq_nil_of_length_eq_zero (of_decide_eq_true e)
  split at hb
  · rename_i e
    simp only [Bool.and_eq_true, decide_eq_true_eq] at hb
    exact .inl ⟨e, hb.1.2⟩
  split at hb
  · simp only [Bool.and_eq_true, decide_eq_true_eq] at hb
    exact .inr (.inl (List.eq_nil_of_length_eq_zero hb.1.2))
  split at hb
  · rename_i e
    simp only [Bool.and_eq_true, decide_eq_true_eq, Bool.not_eq_true', decide_eq_false_iff_not] at hb
    exact .inr (.inr (.inl ⟨e, hb.2, fun e' => hb.1.1.2 (by rw [e']; rfl)⟩))
  split at hb
  · rename_i e
    simp only [Bool.and_eq_true, decide_eq_true_eq, Bool.not_eq_true', decide_eq_false_iff_not] at hb
    exact .inr (.inr (.inr ⟨e, hb.2, fun e' => hb.1 (by rw [e']; rfl)⟩))
  split at hb
  · simp only [Bool.and_eq_true, decide_eq_true_eq] at hb
    exact .inr (.inl (List.eq_nil_of_length_eq_zero hb.1.1.2))
  split at hb
  · simp only [Bool.and_eq_true, decide_eq_true_eq] at hb
    exact .inr (.inl (List.eq_nil_of_length_eq_zero hb.1.2))
  · cases hb
theorem pend_in {s : Saga} (h : mayS s = true) : (∀ x ∈ s.pending, 0 ≤ x ∧ x < s.got.length) ∧ s.pending.length ≤ 8 := by
  obtain ⟨hh, -⟩ := mayS_split h
  have hg := hh.got
  have h8 := hh.r2
  rcases pend_cases h with ⟨-, e⟩ | e | ⟨-, e, -⟩ | ⟨-, e, -⟩
  · refine ⟨fun x hx => ?_, ?_⟩
    · rw [e] at hx
      have := visit_mem (List.mem_of_mem_drop (List.mem_of_mem_take hx))
      omega
    · rw [e, List.length_take]
      omega
  · rw [e]
    exact ⟨fun x hx => by simp at hx, by simp⟩
  · have hm : ∀ x ∈ s.pending, 0 ≤ x ∧ x < s.got.length := fun x hx => by
      obtain ⟨i, rfl, h1, -⟩ := holders_mem (rises_mem e hx)
      omega
    exact ⟨hm, by have := rises_len e hm; omega⟩
  · refine ⟨fun x hx => ?_, ?_⟩
    · rw [e] at hx
      obtain ⟨i, rfl, h1, -⟩ := holders_mem hx
      omega
    · have := holders_len s.got
      rw [e]
      omega
theorem mayGot_all {s : Saga} (h : mayGot s = true) : ∀ l ∈ s.got, may l = true := by
  unfold mayGot at h
  rw [Bool.and_eq_true] at h
  exact List.all_eq_true.1 h.1
theorem got_len {s : Saga} (h : mayGot s = true) (k : Nat) : (s.got.getD k []).length ≤ 1000000 := by
  by_cases hk : k < s.got.length
  · rw [getD_get hk]
    have := may_len (mayGot_all h _ (List.getElem_mem hk))
    omega
  · rw [List.getD, List.getElem?_eq_none (by omega)]
    simp
theorem happen_err {s : Saga} {e : Ev} {x : Int} (h : happenS s e = .error x) : x ≠ 0 := by
  have hb : ∀ {a b c : Int} {w : List It.Item} {q : Bool}, beginS a b c w q = .error x → x ≠ 0 := fun {a b c w q} h => by
    unfold beginS beginU at h
    split at h
    · cases h; omega
    · split at h <;> cases h
      omega
  unfold happenS tookS tookU freedS cancelS cancelAt retryS allS didS didU at h
  repeat' (split at h)
  all_goals first
    | exact hb h
    | (cases h; omega)
    | cases h
end Sa
end Go.Proofs.YthfpfomifebpbaaGreat

namespace Go.Proofs.YthfpfomifebpbaaGreat
open Go.RowKit Go.Maps
namespace Sa
open It
variable {mlo : Nat}
set_option linter.unusedSimpArgs false

theorem SlOff.high {w w' : World} {b size n : Nat} {v : Value} {xs : List Value} (h : SlOff mlo w b size v n xs) (hk : Kept (fun i => mlo ≤ i ∧ i < w.heap.size) w w') : Sl w' 0 w'.heap.size size v n xs := by
  obtain ⟨lo, B, h0, h1, h2, h3⟩ := h
  exact (hk.sl h3 fun i ha hb => ⟨by omega, by omega⟩).wide (Nat.zero_le _) (Nat.le_trans h2 hk.size)
theorem Off.high {w w' : World} {b : Nat} {s : Saga} {vw vg vp : Value} (h : Off mlo w b s vw vg vp) (hk : Kept (fun i => mlo ≤ i ∧ i < w.heap.size) w w') : Parts w' 0 w'.heap.size s vw vg vp := by
  obtain ⟨vs, h1, h2, h3⟩ := h.got
  exact ⟨SlOff.high h.want hk, ⟨vs, h1, SlOff.high h2 hk, fun k hk' => SlOff.high (h3 k hk') hk⟩, SlOff.high h.pend hk⟩

set_option maxRecDepth 100000 in
set_option maxHeartbeats 4000000 in
theorem next_calls (s : Saga) (vw vg vp : Value) (ev : Ev) (ve : Value) (w : World) (h : Parts w 0 w.heap.size s vw vg vp) (hF : Fit s) (hv : ItemsAt w 0 w.heap.size ve ev.items) (hFe : Fits ev.items) :
    Calls Tryz.prog 9 #[.agg (sagaC s vw vg vp), .agg (evC ev ve)] w fun e w' => Ret3 0 w' e (nextS s ev) ∧ Below w.heap.size w w' := by
  have HP := Lib.hid h
  have HV := Lib.hid hv
  obtain ⟨A, c, rfl, -⟩ := h.want.form
  obtain ⟨A', c', rfl, -⟩ := h.got.form
  obtain ⟨A2, c2, rfl, -⟩ := h.pend.form
  obtain ⟨A3, c3, rfl, -⟩ := hv.form
  clear h hv
  obtain ⟨sc, hsc⟩ : ∃ sc, sc = sagaC s (.slice A s.want.length c) (.slice A' s.got.length c') (.slice A2 s.pending.length c2) := ⟨_, rfl⟩
  obtain ⟨ec, hec⟩ : ∃ ec, ec = evC ev (.slice A3 ev.items.length c3) := ⟨_, rfl⟩
  have ha1 := (Below.refl w.heap.size w).alloc (Nat.le_refl _) (.cells sc 26)
  have ha2 := ha1.alloc ha1.size (.cells ec 28)
  have ha3 := ha2.alloc ha2.size (.cells #[.int .i64 0, .int .i64 0, .int .i64 0, .slice none 0 0, .bool false, .int .i64 0, .int .i64 0, .slice none 0 0, .slice none 0 0, .bool false] 26)
  have o1 := ((Ob.new w 26 sc).alloc (.cells ec 28)).alloc (.cells #[.int .i64 0, .int .i64 0, .int .i64 0, .slice none 0 0, .bool false, .int .i64 0, .int .i64 0, .slice none 0 0, .slice none 0 0, .bool false] 26)
  have o2 := (Ob.new (w.alloc (.cells sc 26)) 28 ec).alloc (.cells #[.int .i64 0, .int .i64 0, .int .i64 0, .slice none 0 0, .bool false, .int .i64 0, .int .i64 0, .slice none 0 0, .slice none 0 0, .bool false] 26)
  have o3 := Ob.new ((w.alloc (.cells sc 26)).alloc (.cells ec 28)) 26 #[.int .i64 0, .int .i64 0, .int .i64 0, .slice none 0 0, .bool false, .int .i64 0, .int .i64 0, .slice none 0 0, .slice none 0 0, .bool false]
  have z1 : (w.alloc (.cells sc 26)).heap.size = w.heap.size + 1 := World.size_alloc _ _
  have z2 : ((w.alloc (.cells sc 26)).alloc (.cells ec 28)).heap.size = w.heap.size + 2 := by rw [World.size_alloc, z1]
  rw [z1] at o2
  rw [z2] at o3
  rw [← hsc, ← hec]
  unfold nextS
  have hcall : ∀ W, Below w.heap.size w W → Calls Tryz.prog 13 #[.agg sc] W fun e w' => e = .returned (.bool (mayS s)) ∧ Below W.heap.size W w' := fun W hb => by rw [hsc]; exact sagamay_calls s _ _ _ W (HP.out.later hb) hF
  have hcop : mayS s = true → ∀ W, Below w.heap.size w W → Calls Tryz.prog 24 #[.agg sc] W _ := fun hm W hb => by
    rw [hsc]
    obtain ⟨hh, -⟩ := mayS_split hm
    exact copied_calls s _ _ _ W (HP.out.later hb) (by have := may_len hh.may; omega) (by have := hh.got; have := hh.r2; omega) (by have := (pend_in hm).2; omega) (got_len hh.kept)
  have HC := Lib.hid hcall
  have HCO := Lib.hid hcop
  have hs1 : sc.size = 10 := by rw [hsc]; rfl
  have he1 : ec.size = 3 := by rw [hec]; rfl
  have HSC := Lib.hid hsc
  have HEC := Lib.hid hec
  clear hcall hcop hsc hec
  go_enter Tryz.func9, Tryz.ntmps9
  go_wp2_with (first
    | (refine wpList_load_obg (by rfl) _ _ rfl rfl _ o1 Tryz.underlying26 rfl (by rw [hs1]; kernel_rfl) ?_)
    | (refine wpList_load_obg (by rfl) _ _ rfl rfl _ o2 Tryz.underlying28 rfl (by rw [he1]; kernel_rfl) ?_))
  generalize (((w.alloc (.cells sc 26)).alloc (.cells ec 28)).alloc (.cells #[.int .i64 0, .int .i64 0, .int .i64 0, .slice none 0 0, .bool false, .int .i64 0, .int .i64 0, .slice none 0 0, .slice none 0 0, .bool false] 26)) = W0 at *
  have hz0 := o3.lt
  refine (HC.out _ ha3).mono ?_
  rintro e W1 ⟨rfl, hb1⟩
  have o1 := o1.same hb1
  have o2 := o2.same hb1
  have o3 := o3.same hb1
  have hB1 := ha3.trans (hb1.mono (by omega))
  have hs1' := hb1.size
  clear ha1 ha2 ha3 hb1 HC z1 z2
  generalize hm : mayS s = m
  have HM := Lib.hid hm
  clear hm
  cases m with
  | false =>
    go_wp2_with (refine wpList_store_ob (cells := #[.int .i64 0, .int .i64 0, .int .i64 0, .slice none 0 0, .bool false, .int .i64 0, .int .i64 0, .slice none 0 0, .slice none 0 0, .bool false]) rfl 26 (.tmp 4) (.tmp 13) rfl rfl rfl o3 rfl (by kernel_rfl) (by simp [Value.oneCell']) ?_; intro W8 ho8 hg8)
    have hBf := hB1.grown hg8 (by omega) (fun g e => by have e2 : w.heap.size + 2 = g := Option.some.inj e; omega)
    obtain ⟨p0, p1, p2, p3, p4, p5, p6, p7, p8, p9⟩ := ob_ten ho8
    refine bodyPost_ret (v := .tuple #[.agg (sagaC saga0 nilS nilS nilS), nilS, .int .i64 1]) ?_ rfl ⟨by rw [HM.out]; exact rfl, hBf⟩
    simp [results, Tryz.f9, go_sem, sagaC, saga0, nilS, p0, p1, p2, p3, p4, p5, p6, p7, p8, p9]
  | true =>
    have cC := Lib.hid (HCO.out HM.out W1 hB1)
    go_wp2_with (refine wpList_load_obg (by rfl) _ _ rfl rfl _ o1 Tryz.underlying26 rfl (by rw [hs1]; kernel_rfl) ?_)
    refine cC.out.mono ?_
    rintro e W2 ⟨⟨uw, ug, up, P, G, L, rfl, hP, hMk⟩, hb2⟩
    have o2 := o2.same hb2
    have o3 := o3.same hb2
    have hB2 := hB1.trans (hb2.mono (by omega))
    have hs2' := hb2.size
    have hf1 := (hMk (W2.alloc (.cells (sagaC s uw ug up) 26)) W2.heap.size ((Below.refl W2.heap.size W2).alloc (Nat.le_refl _) _) (Nat.le_refl _) (Ob.new _ _ _)).off.parts
    obtain ⟨D1, d1, rfl, -⟩ := hf1.want.form
    obtain ⟨D2, d2, rfl, -⟩ := hf1.got.form
    obtain ⟨D3, d3, rfl, -⟩ := hf1.pend.form
    obtain ⟨sd, hsd⟩ : ∃ sd, sd = sagaC s (.slice D1 s.want.length d1) (.slice D2 s.got.length d2) (.slice D3 s.pending.length d3) := ⟨_, rfl⟩
    rw [← hsd] at hMk ⊢
    have hoN := Ob.new W2 26 #[.int .i64 0, .int .i64 0, .int .i64 0, .slice none 0 0, .bool false, .int .i64 0, .int .i64 0, .slice none 0 0, .slice none 0 0, .bool false]
    have hd1 : sd.size = 10 := by rw [hsd]; rfl
    have hd2 : sd.all (·.oneCell') = true := by rw [hsd]; simp [sagaC, Value.oneCell']
    have z3 : (W2.alloc (.cells #[.int .i64 0, .int .i64 0, .int .i64 0, .slice none 0 0, .bool false, .int .i64 0, .int .i64 0, .slice none 0 0, .slice none 0 0, .bool false] 26)).heap.size = W2.heap.size + 1 := World.size_alloc _ _
    have hal3 := (Below.refl W2.heap.size W2).alloc (Nat.le_refl _) (.cells #[.int .i64 0, .int .i64 0, .int .i64 0, .slice none 0 0, .bool false, .int .i64 0, .int .i64 0, .slice none 0 0, .slice none 0 0, .bool false] 26)
    have HSD := Lib.hid hsd
    clear hf1 hsd
    go_wp2_with (first
      | (refine wpList_store_ob (cells := sd) rfl 26 (.tmp 7) (.tmp 15) rfl rfl rfl hoN hd1 (by rw [hd1]; kernel_rfl) hd2 ?_
         intro W3 hoT hg3
         have hb3 : Below W2.heap.size W2 W3 := hal3.grown hg3 (by omega) (fun g e => by have e2 : W2.heap.size = g := Option.some.inj e; omega)
         have hmine := hMk W3 W2.heap.size hb3 (Nat.le_refl _) hoT
         have o2 := o2.same hb3
         have o3 := o3.same hb3
         have hB3 := hB2.trans (hb3.mono (by omega))
         have hs3' := hb3.size
         have hz3' := hg3.size
         obtain ⟨hh, -⟩ := mayS_split HM.out
         have cH := Lib.hid (happen_calls s _ _ _ P G L W2.heap.size W1.heap.size ev _ _ hmine hP (pend_in HM.out).1 ((HV.out.mono hB3 (Nat.le_refl _)).wide (Nat.le_refl _) (by omega)) hh hF hFe (by have := may_len hh.may; omega))
         rw [← HEC.out] at cH
         clear hMk hmine hh cC hb3 hoN hal3 hg3)
      | (refine wpList_load_obg (by rfl) _ _ rfl rfl _ o2 Tryz.underlying28 rfl (by rw [he1]; kernel_rfl) ?_))
    refine cH.out.mono ?_
    rintro e W4 ⟨hR, hb4⟩
    have o3 := o3.below hb4 (by omega)
    have hB4 := hB3.trans (hb4.mono (by omega))
    have hs4' := hb4.size
    clear cH o2 hb4
    generalize hrs : happenS s ev = r at hR
    have HRS := Lib.hid hrs
    have hnx : nextU (mayS s) (happenS s ev) = r := by rw [HM.out, hrs]; rfl
    have HNX := Lib.hid hnx
    clear hrs hnx
    cases r with
    | error x =>
      have hx0 : x ≠ 0 := happen_err HRS.out
      have dx : decide (x = 0) = false := decide_eq_false hx0
      have dx2 : (x == 0) = false := by rw [beq_eq_false_iff_ne]; exact hx0
      have dx3 : (x != 0) = true := by simp [bne, dx2]
      obtain rfl : e = .returned (.tuple #[.slice none 0 0, .int .i64 x]) := hR
      go_wp2_with (refine wpList_store_ob (cells := #[.int .i64 0, .int .i64 0, .int .i64 0, .slice none 0 0, .bool false, .int .i64 0, .int .i64 0, .slice none 0 0, .slice none 0 0, .bool false]) rfl 26 (.tmp 4) (.tmp 23) rfl rfl rfl o3 rfl (by kernel_rfl) (by simp [Value.oneCell']) ?_; intro W8 ho8 hg8)
      have hBf := hB4.grown hg8 (by omega) (fun g e => by have e2 : w.heap.size + 2 = g := Option.some.inj e; omega)
      obtain ⟨p0, p1, p2, p3, p4, p5, p6, p7, p8, p9⟩ := ob_ten ho8
      refine bodyPost_ret (v := .tuple #[.agg (sagaC saga0 nilS nilS nilS), nilS, .int .i64 x]) ?_ rfl ⟨by rw [HNX.out]; exact rfl, hBf⟩
      simp [results, Tryz.f9, go_sem, sagaC, saga0, nilS, p0, p1, p2, p3, p4, p5, p6, p7, p8, p9]
    | ok y =>
      obtain ⟨vl, rfl, hSt, vw4, vg4, vp4, ho4, hf4⟩ := hR
      have hf5 := hf4.parts
      obtain ⟨B1, e1, rfl, -⟩ := hf5.want.form
      obtain ⟨B2, e2, rfl, -⟩ := hf5.got.form
      obtain ⟨B3, e3, rfl, -⟩ := hf5.pend.form
      obtain ⟨B4, e4, rfl, -⟩ := hSt.form
      have hmb := hf4.mb
      clear hf5
      go_wp2_with (first
        | (refine wpList_load_obg (by rfl) _ _ rfl rfl _ ho4 Tryz.underlying26 rfl (by kernel_rfl) ?_)
        | (refine wpList_store_ob (cells := sagaC y.1 (.slice B1 y.1.want.length e1) (.slice B2 y.1.got.length e2) (.slice B3 y.1.pending.length e3)) rfl 26 (.tmp 4) (.tmp 25) rfl rfl rfl o3 rfl (by kernel_rfl) (by simp [sagaC, Value.oneCell']) ?_; intro W8 ho8 hg8))
      have hBf := hB4.grown hg8 (by omega) (fun g e => by have e2 : w.heap.size + 2 = g := Option.some.inj e; omega)
      have hk8 : Kept (fun i => W1.heap.size + 2 ≤ i ∧ i < W4.heap.size) W4 W8 := Kept.of_grown hg8 fun i hi => ⟨hi.2, fun e => by have e2 : i = w.heap.size + 2 := Option.some.inj e; have := hi.1; omega⟩
      obtain ⟨p0, p1, p2, p3, p4, p5, p6, p7, p8, p9⟩ := ob_ten ho8
      refine bodyPost_ret (v := .tuple #[.agg (sagaC y.1 (.slice B1 y.1.want.length e1) (.slice B2 y.1.got.length e2) (.slice B3 y.1.pending.length e3)), .slice B4 y.2.length e4, .int .i64 0]) ?_ rfl ⟨by rw [HNX.out]; exact ⟨_, _, _, _, rfl, hf4.high hk8, (hSt.kept hk8 fun i ha hb => ⟨ha, hb⟩).wide (Nat.zero_le _) hg8.size⟩, hBf⟩
      simp [results, Tryz.f9, go_sem, sagaC, p0, p1, p2, p3, p4, p5, p6, p7, p8, p9]
end Sa
end Go.Proofs.YthfpfomifebpbaaGreat

namespace Go.Proofs.YthfpfomifebpbaaGreat
open Go.RowKit Go.Maps
namespace Sa
open It

/-- a slice that lies in none of the blocks of Av -/
def SlA (Av : Nat → Prop) (w : World) (size : Nat) (v : Value) (n : Nat) (xs : List Value) : Prop := ∃ lo B, B ≤ w.heap.size ∧ (∀ i, lo ≤ i → i < B → ¬ Av i) ∧ Sl w lo B size v n xs
section
variable {Av Av' : Nat → Prop} {w w' : World} {size n : Nat} {v : Value} {xs : List Value}
theorem SlA.keep (h : SlA Av w size v n xs) (hk : Kept (fun i => i < w.heap.size ∧ ¬ Av i) w w') : SlA Av w' size v n xs := by
  obtain ⟨lo, B, h1, h2, h3⟩ := h
  exact ⟨lo, B, Nat.le_trans h1 hk.size, h2, hk.sl h3 fun i ha hb => ⟨by omega, h2 i ha hb⟩⟩
theorem SlA.later (h : SlA Av w size v n xs) (hb : Below w.heap.size w w') : SlA Av w' size v n xs := h.keep (Kept.of_below hb fun _ hi => hi.1)
theorem SlA.grow {b : Nat} (h : SlA Av w size v n xs) (hg : w.grownBy w' (some b)) (hb : Av b) : SlA Av w' size v n xs :=
  h.keep (Kept.of_grown hg fun i hi => ⟨hi.1, fun e => hi.2 (by cases e; exact hb)⟩)
theorem SlA.all (h : SlA Av w size v n xs) : Sl w 0 w.heap.size size v n xs := by
  obtain ⟨lo, B, h1, h2, h3⟩ := h
  exact h3.wide (Nat.zero_le _) h1
theorem SlA.more (h : SlA Av w size v n xs) (hm : ∀ i, i < w.heap.size → Av' i → Av i) : SlA Av' w size v n xs := by
  obtain ⟨lo, B, h1, h2, h3⟩ := h
  exact ⟨lo, B, h1, fun i ha hb hx => h2 i ha hb (hm i (by omega) hx), h3⟩
theorem SlA.of {lo B : Nat} (h : Sl w lo B size v n xs) (hB : B ≤ w.heap.size) (ha : ∀ i, lo ≤ i → i < B → ¬ Av i) : SlA Av w size v n xs := ⟨lo, B, hB, ha, h⟩
theorem SlA.nil (Av : Nat → Prop) (w : World) (size : Nat) : SlA Av w size (.slice none 0 0) 0 [] := ⟨0, 0, Nat.zero_le _, fun i _ hb => absurd hb (Nat.not_lt_zero i), Sl.nil _ _ _ _⟩
theorem SlA.form (h : SlA Av w size v n xs) : ∃ A c, v = .slice A n c ∧ n ≤ c ∧ c ≤ maxLen := by
  obtain ⟨lo, B, h1, h2, h3⟩ := h
  obtain ⟨A, c, e, a, b, _⟩ := h3.at_
  exact ⟨A, c, e, a, b⟩
end
def GotA (Av : Nat → Prop) (w : World) (v : Value) (L : List (List It.Item)) : Prop :=
  ∃ vs : List Value, vs.length = L.length ∧ SlA Av w 1 v L.length vs ∧ ∀ k, k < L.length → SlA Av w 2 (vs.getD k (.slice none 0 0)) (L.getD k []).length (itemCells (L.getD k []))
structure PartsA (Av : Nat → Prop) (w : World) (s : Saga) (vw vg vp : Value) : Prop where
  want : SlA Av w 2 vw s.want.length (itemCells s.want)
  got : GotA Av w vg s.got
  pend : SlA Av w 1 vp s.pending.length (ints s.pending)
section
variable {Av Av' : Nat → Prop} {w w' : World} {s : Saga} {vw vg vp v : Value} {L : List (List It.Item)}
theorem GotA.keep (h : GotA Av w v L) (hk : Kept (fun i => i < w.heap.size ∧ ¬ Av i) w w') : GotA Av w' v L := by
  obtain ⟨vs, h1, h2, h3⟩ := h
  exact ⟨vs, h1, h2.keep hk, fun k hk' => (h3 k hk').keep hk⟩
theorem GotA.later (h : GotA Av w v L) (hb : Below w.heap.size w w') : GotA Av w' v L := h.keep (Kept.of_below hb fun _ hi => hi.1)
theorem GotA.more (h : GotA Av w v L) (hm : ∀ i, i < w.heap.size → Av' i → Av i) : GotA Av' w v L := by
  obtain ⟨vs, h1, h2, h3⟩ := h
  exact ⟨vs, h1, h2.more hm, fun k hk' => (h3 k hk').more hm⟩
theorem GotA.got (h : GotA Av w v L) : GotAt w 0 w.heap.size v L := by
  obtain ⟨vs, h1, h2, h3⟩ := h
  exact ⟨vs, h1, h2.all, fun k hk' => (h3 k hk').all⟩
theorem PartsA.keep (h : PartsA Av w s vw vg vp) (hk : Kept (fun i => i < w.heap.size ∧ ¬ Av i) w w') : PartsA Av w' s vw vg vp := ⟨h.want.keep hk, h.got.keep hk, h.pend.keep hk⟩
theorem PartsA.later (h : PartsA Av w s vw vg vp) (hb : Below w.heap.size w w') : PartsA Av w' s vw vg vp := ⟨h.want.later hb, h.got.later hb, h.pend.later hb⟩
theorem PartsA.grow {b : Nat} (h : PartsA Av w s vw vg vp) (hg : w.grownBy w' (some b)) (hb : Av b) : PartsA Av w' s vw vg vp :=
  h.keep (Kept.of_grown hg fun i hi => ⟨hi.1, fun e => hi.2 (by cases e; exact hb)⟩)
theorem PartsA.more (h : PartsA Av w s vw vg vp) (hm : ∀ i, i < w.heap.size → Av' i → Av i) : PartsA Av' w s vw vg vp := ⟨h.want.more hm, h.got.more hm, h.pend.more hm⟩
theorem PartsA.parts (h : PartsA Av w s vw vg vp) : Parts w 0 w.heap.size s vw vg vp := ⟨h.want.all, h.got.got, h.pend.all⟩
theorem PartsA.of {lo B : Nat} (h : Parts w lo B s vw vg vp) (hB : B ≤ w.heap.size) (ha : ∀ i, lo ≤ i → i < B → ¬ Av i) : PartsA Av w s vw vg vp := by
  obtain ⟨vs, h1, h2, h3⟩ := h.got
  exact ⟨.of h.want hB ha, ⟨vs, h1, .of h2 hB ha, fun k hk => .of (h3 k hk) hB ha⟩, .of h.pend hB ha⟩
theorem PartsA.same {s' : Saga} (h : PartsA Av w s vw vg vp) (h1 : s'.want = s.want) (h2 : s'.got = s.got) (h3 : s'.pending = s.pending) : PartsA Av w s' vw vg vp := ⟨h1 ▸ h.want, h2 ▸ h.got, h3 ▸ h.pend⟩
end
def StepsA (Av : Nat → Prop) (w : World) (v : Value) (l : List Step) : Prop :=
  ∃ vs : List Value, vs.length = l.length ∧ SlA Av w 4 v l.length (stepsC l vs) ∧ ∀ k, k < l.length → SlA Av w 2 (vs.getD k (.slice none 0 0)) (l.getD k step0).items.length (itemCells (l.getD k step0).items)
section
variable {Av Av' : Nat → Prop} {w w' : World} {v : Value} {l : List Step}
theorem StepsA.keep (h : StepsA Av w v l) (hk : Kept (fun i => i < w.heap.size ∧ ¬ Av i) w w') : StepsA Av w' v l := by
  obtain ⟨vs, h1, h2, h3⟩ := h
  exact ⟨vs, h1, h2.keep hk, fun k hk' => (h3 k hk').keep hk⟩
theorem StepsA.later (h : StepsA Av w v l) (hb : Below w.heap.size w w') : StepsA Av w' v l := h.keep (Kept.of_below hb fun _ hi => hi.1)
theorem StepsA.grow {b : Nat} (h : StepsA Av w v l) (hg : w.grownBy w' (some b)) (hb : Av b) : StepsA Av w' v l :=
  h.keep (Kept.of_grown hg fun i hi => ⟨hi.1, fun e => hi.2 (by cases e; exact hb)⟩)
theorem StepsA.more (h : StepsA Av w v l) (hm : ∀ i, i < w.heap.size → Av' i → Av i) : StepsA Av' w v l := by
  obtain ⟨vs, h1, h2, h3⟩ := h
  exact ⟨vs, h1, h2.more hm, fun k hk' => (h3 k hk').more hm⟩
theorem StepsA.steps (h : StepsA Av w v l) : StepsAt w 0 w.heap.size v l := by
  obtain ⟨vs, h1, h2, h3⟩ := h
  exact ⟨vs, h1, h2.all, fun k hk' => (h3 k hk').all⟩
theorem StepsA.of {lo B : Nat} (h : StepsAt w lo B v l) (hB : B ≤ w.heap.size) (ha : ∀ i, lo ≤ i → i < B → ¬ Av i) : StepsA Av w v l := by
  obtain ⟨vs, h1, h2, h3⟩ := h
  exact ⟨vs, h1, .of h2 hB ha, fun k hk => .of (h3 k hk) hB ha⟩
theorem StepsA.nil (Av : Nat → Prop) (w : World) : StepsA Av w (.slice none 0 0) [] := ⟨[], rfl, SlA.nil _ _ _, fun k hk => by simp at hk⟩
theorem StepsA.form (h : StepsA Av w v l) : ∃ A c, v = .slice A l.length c := by
  obtain ⟨vs, h1, h2, h3⟩ := h
  obtain ⟨A, c, e, -⟩ := h2.form
  exact ⟨A, c, e⟩
end
theorem partsA0 (Av : Nat → Prop) (w : World) : PartsA Av w saga0 (.slice none 0 0) (.slice none 0 0) (.slice none 0 0) := ⟨SlA.nil _ _ _, ⟨[], rfl, SlA.nil _ _ _, fun k hk => by simp [saga0] at hk⟩, SlA.nil _ _ _⟩
/-- items lie in no block that holds no text -/
theorem items_no {Av : Nat → Prop} {w : World} {lo B : Nat} {v : Value} {l : List It.Item} (h : ItemsAt w lo B v l) (ha : ∀ b, Av b → b < w.heap.size → ∃ t cs, Ob w b t cs ∧ ∀ x ∈ cs.toList, ∀ s, x ≠ .string s) : SlA Av w 2 v l.length (itemCells l) := by
  by_cases hl : 0 < l.length
  · obtain ⟨A, c, rfl, a, b'⟩ := h.form
    obtain ⟨g, o, rfl, h1, h2, h3, h4⟩ := h.cellAt hl
    have hgs : g < w.heap.size := by
      apply Decidable.byContradiction
      intro hge
      have : w.cell? ⟨g, o + 0 * 2, none⟩ = none := by simp [World.cell?, Array.getElem?_eq_none (show w.heap.size ≤ g by omega)]
      rw [this] at h3
      cases h3
    have hgb : ¬ Av g := by
      intro hav
      obtain ⟨t, cs, ho, hn⟩ := ha g hav hgs
      have hc : w.cell? ⟨g, o + 0 * 2, none⟩ = cs[o + 0 * 2]? := by simp [World.cell?, show w.heap[g]? = _ from ho]
      rw [hc] at h3
      obtain ⟨hlt, he⟩ := Array.getElem?_eq_some_iff.1 h3
      exact hn _ (by rw [← he]; simp) _ rfl
    obtain ⟨A', c', e, q1, q2, q3⟩ := h.at_
    cases e
    refine ⟨g, g + 1, by omega, fun i ha hb e => hgb (by rw [show g = i by omega]; exact e), h.len, _, _, rfl, q1, q2, fun hn => ?_⟩
    obtain ⟨b2, o2, e2, q4, q5, q6⟩ := q3 hn
    cases e2
    exact ⟨_, _, rfl, by omega, by omega, q6⟩
  · obtain rfl : l = [] := List.eq_nil_of_length_eq_zero (by omega)
    obtain ⟨A', c', e, q1, q2, q3⟩ := h.at_
    exact ⟨0, 0, Nat.zero_le _, fun i _ hb => absurd hb (Nat.not_lt_zero i), h.len, A', c', e, q1, q2, fun hn => absurd hn (Nat.lt_irrefl _)⟩
end Sa
end Go.Proofs.YthfpfomifebpbaaGreat

namespace Go.Proofs.YthfpfomifebpbaaGreat
open Go.RowKit Go.Maps
namespace Sa
open It
set_option linter.unusedSimpArgs false

def sameP (a b : Saga) : Bool := decide (a.order = b.order) && decide (a.first = b.first) && decide (a.regions = b.regions) && (a.waits == b.waits) && decide (a.state = b.state)
def sameL (a b : Saga) : Bool := decide (a.want = b.want) && decide (a.pending = b.pending) && decide (a.got = b.got)
def sameQ (a b : Saga) : Bool := decide (a.asked = b.asked) && (a.cancelled == b.cancelled)
def sameS (a b : Saga) : Bool := sameP a b && sameL a b && sameQ a b
theorem sameS_iff {a b : Saga} : sameS a b = true ↔ a = b := by
  unfold sameS sameP sameL sameQ
  simp only [Bool.and_eq_true, decide_eq_true_eq, beq_iff_eq]
  constructor
  · rintro ⟨⟨⟨⟨⟨⟨h1, h2⟩, h3⟩, h4⟩, h5⟩, ⟨h6, h7⟩, h8⟩, h9, h10⟩
    cases a
    cases b
    simp_all
  · rintro rfl
    simp

theorem dec_int (x y : Int) : (decide (x = y) = true ∧ (x == y) = true) ∨ (decide (x = y) = false ∧ (x == y) = false) := by
  by_cases h : x = y
  · exact .inl ⟨decide_eq_true h, by rw [beq_iff_eq]; exact h⟩
  · exact .inr ⟨decide_eq_false h, by rw [beq_eq_false_iff_ne]; exact h⟩
theorem dec_bool (x y : Bool) : (decide (x = y) = true ∧ (x == y) = true) ∨ (decide (x = y) = false ∧ (x == y) = false) := by
  cases x <;> cases y <;> simp

theorem plain_cases (a b : Saga) :
    ((decide (a.order = b.order) = false ∧ (a.order == b.order) = false) ∧ sameP a b = false) ∨
    ((decide (a.order = b.order) = true ∧ (a.order == b.order) = true) ∧ (decide (a.first = b.first) = false ∧ (a.first == b.first) = false) ∧ sameP a b = false) ∨
    ((decide (a.order = b.order) = true ∧ (a.order == b.order) = true) ∧ (decide (a.first = b.first) = true ∧ (a.first == b.first) = true) ∧ (decide (a.regions = b.regions) = false ∧ (a.regions == b.regions) = false) ∧ sameP a b = false) ∨
    ((decide (a.order = b.order) = true ∧ (a.order == b.order) = true) ∧ (decide (a.first = b.first) = true ∧ (a.first == b.first) = true) ∧ (decide (a.regions = b.regions) = true ∧ (a.regions == b.regions) = true) ∧ (decide (a.waits = b.waits) = false ∧ (a.waits == b.waits) = false) ∧ sameP a b = false) ∨
    ((decide (a.order = b.order) = true ∧ (a.order == b.order) = true) ∧ (decide (a.first = b.first) = true ∧ (a.first == b.first) = true) ∧ (decide (a.regions = b.regions) = true ∧ (a.regions == b.regions) = true) ∧ (decide (a.waits = b.waits) = true ∧ (a.waits == b.waits) = true) ∧ (decide (a.state = b.state) = false ∧ (a.state == b.state) = false) ∧ sameP a b = false) ∨
    ((decide (a.order = b.order) = true ∧ (a.order == b.order) = true) ∧ (decide (a.first = b.first) = true ∧ (a.first == b.first) = true) ∧ (decide (a.regions = b.regions) = true ∧ (a.regions == b.regions) = true) ∧ (decide (a.waits = b.waits) = true ∧ (a.waits == b.waits) = true) ∧ (decide (a.state = b.state) = true ∧ (a.state == b.state) = true) ∧ sameP a b = true) := by
  rcases dec_int a.order b.order with h0 | h0
  rotate_left
  · exact .inl ⟨h0, by unfold sameP; simp only [h0.1, Bool.and_false, Bool.false_and, Bool.true_and]⟩
  rcases dec_int a.first b.first with h1 | h1
  rotate_left
  · exact .inr (.inl ⟨h0, h1, by unfold sameP; simp only [h0.1, h1.1, Bool.and_false, Bool.false_and, Bool.true_and]⟩)
  rcases dec_int a.regions b.regions with h2 | h2
  rotate_left
  · exact .inr (.inr (.inl ⟨h0, h1, h2, by unfold sameP; simp only [h0.1, h1.1, h2.1, Bool.and_false, Bool.false_and, Bool.true_and]⟩))
  rcases dec_bool a.waits b.waits with h3 | h3
  rotate_left
  · exact .inr (.inr (.inr (.inl ⟨h0, h1, h2, h3, by unfold sameP; simp only [h0.1, h1.1, h2.1, h3.2, Bool.and_false, Bool.false_and, Bool.true_and]⟩)))
  rcases dec_int a.state b.state with h4 | h4
  rotate_left
  · exact .inr (.inr (.inr (.inr (.inl ⟨h0, h1, h2, h3, h4, by unfold sameP; simp only [h0.1, h1.1, h2.1, h3.2, h4.1, Bool.and_false, Bool.false_and, Bool.true_and]⟩))))
  exact .inr (.inr (.inr (.inr (.inr ⟨h0, h1, h2, h3, h4, by unfold sameP; simp only [h0.1, h1.1, h2.1, h3.2, h4.1, Bool.and_true]⟩))))

set_option maxRecDepth 100000 in
set_option maxHeartbeats 8000000 in
theorem same_calls (a b : Saga) (vw vg vp uw ug up : Value) (w : World) (ha : Parts w 0 w.heap.size a vw vg vp) (hb : Parts w 0 w.heap.size b uw ug up) :
    Calls Tryz.prog 23 #[.agg (sagaC a vw vg vp), .agg (sagaC b uw ug up)] w fun e w' => e = .returned (.bool (sameS a b)) ∧ Below w.heap.size w w' := by
  have cW := Lib.hid (fun W (h : Below w.heap.size w W) => equali_calls a.want b.want vw uw W (ha.later h).want (hb.later h).want)
  have cN := Lib.hid (fun W (h : Below w.heap.size w W) => equaln_calls a.pending b.pending vp up W (ha.later h).pend (hb.later h).pend)
  have cG := Lib.hid (fun W (h : Below w.heap.size w W) => equalf_calls a.got b.got vg ug W (ha.later h).got (hb.later h).got)
  obtain ⟨A1, c1, rfl, -⟩ := ha.want.form
  obtain ⟨A2, c2, rfl, -⟩ := ha.got.form
  obtain ⟨A3, c3, rfl, -⟩ := ha.pend.form
  obtain ⟨B1, d1, rfl, -⟩ := hb.want.form
  obtain ⟨B2, d2, rfl, -⟩ := hb.got.form
  obtain ⟨B3, d3, rfl, -⟩ := hb.pend.form
  clear ha hb
  generalize hq1 : decide (a.want = b.want) = q1 at cW
  generalize hq2 : decide (a.pending = b.pending) = q2 at cN
  generalize hq3 : decide (a.got = b.got) = q3 at cG
  have HL := Lib.hid (show sameL a b = (q1 && q2 && q3) by unfold sameL; rw [hq1, hq2, hq3])
  clear hq1 hq2 hq3
  have HS := Lib.hid (show sameS a b = (sameP a b && sameL a b && sameQ a b) from rfl)
  have hal := ((Below.refl w.heap.size w).alloc (Nat.le_refl _) (.cells (sagaC a (.slice A1 a.want.length c1) (.slice A2 a.got.length c2) (.slice A3 a.pending.length c3)) 26))
  have hal2 := hal.alloc hal.size (.cells (sagaC b (.slice B1 b.want.length d1) (.slice B2 b.got.length d2) (.slice B3 b.pending.length d3)) 26)
  have hoA := (Ob.new w 26 (sagaC a (.slice A1 a.want.length c1) (.slice A2 a.got.length c2) (.slice A3 a.pending.length c3))).alloc (.cells (sagaC b (.slice B1 b.want.length d1) (.slice B2 b.got.length d2) (.slice B3 b.pending.length d3)) 26)
  have hoB := Ob.new (w.alloc (.cells (sagaC a (.slice A1 a.want.length c1) (.slice A2 a.got.length c2) (.slice A3 a.pending.length c3)) 26)) 26 (sagaC b (.slice B1 b.want.length d1) (.slice B2 b.got.length d2) (.slice B3 b.pending.length d3))
  rw [World.size_alloc] at hoB
  have HB := Lib.hid hal2
  clear hal hal2
  unfold sagaC at hoA hoB HB ⊢
  have HAB := Lib.hid (fun V (h : Below ((w.alloc (.cells #[.int .i64 a.order, .int .i64 a.first, .int .i64 a.regions, .slice A1 a.want.length c1, .bool a.waits, .int .i64 a.state, .int .i64 a.asked, .slice A2 a.got.length c2, .slice A3 a.pending.length c3, .bool a.cancelled] 26)).alloc (.cells #[.int .i64 b.order, .int .i64 b.first, .int .i64 b.regions, .slice B1 b.want.length d1, .bool b.waits, .int .i64 b.state, .int .i64 b.asked, .slice B2 b.got.length d2, .slice B3 b.pending.length d3, .bool b.cancelled] 26)).heap.size ((w.alloc (.cells #[.int .i64 a.order, .int .i64 a.first, .int .i64 a.regions, .slice A1 a.want.length c1, .bool a.waits, .int .i64 a.state, .int .i64 a.asked, .slice A2 a.got.length c2, .slice A3 a.pending.length c3, .bool a.cancelled] 26)).alloc (.cells #[.int .i64 b.order, .int .i64 b.first, .int .i64 b.regions, .slice B1 b.want.length d1, .bool b.waits, .int .i64 b.state, .int .i64 b.asked, .slice B2 b.got.length d2, .slice B3 b.pending.length d3, .bool b.cancelled] 26)) V) => And.intro (ob_ten (hoA.same h)) (ob_ten (hoB.same h)))
  clear hoA hoB
  rcases plain_cases a b with ⟨⟨s0, t0⟩, hpl⟩ | ⟨⟨s0, t0⟩, ⟨s1, t1⟩, hpl⟩ | ⟨⟨s0, t0⟩, ⟨s1, t1⟩, ⟨s2, t2⟩, hpl⟩ | ⟨⟨s0, t0⟩, ⟨s1, t1⟩, ⟨s2, t2⟩, ⟨s3, t3⟩, hpl⟩ | ⟨⟨s0, t0⟩, ⟨s1, t1⟩, ⟨s2, t2⟩, ⟨s3, t3⟩, ⟨s4, t4⟩, hpl⟩ | ⟨⟨s0, t0⟩, ⟨s1, t1⟩, ⟨s2, t2⟩, ⟨s3, t3⟩, ⟨s4, t4⟩, hpl⟩
  · have HPL := Lib.hid hpl
    clear hpl
    cases q1 <;> cases q2 <;> cases q3 <;> (
      go_enter Tryz.func23, Tryz.ntmps23
      go_wp2_with (first
        | (go_at_call 64; refine (cW.out _ HB.out).mono ?_; rintro e W ⟨rfl, hb1⟩; obtain ⟨⟨a0, a1, a2, a3, a4, a5, a6, a7, a8, a9⟩, b0, b1, b2, b3, b4, b5, b6, b7, b8, b9⟩ := HAB.out W hb1; have HB1 := Lib.hid (HB.out.trans (hb1.mono HB.out.size)); have HAB1 := Lib.hid (fun V (h : Below W.heap.size W V) => HAB.out V (hb1.trans (h.mono hb1.size))); clear hb1)
        | (go_at_call 43; refine (cN.out _ HB1.out).mono ?_; rintro e W2 ⟨rfl, hb1⟩; obtain ⟨⟨a0, a1, a2, a3, a4, a5, a6, a7, a8, a9⟩, b0, b1, b2, b3, b4, b5, b6, b7, b8, b9⟩ := HAB1.out W2 hb1; have HB1 := Lib.hid (HB1.out.trans (hb1.mono HB1.out.size)); have HAB2 := Lib.hid (fun V (h : Below W2.heap.size W2 V) => HAB1.out V (hb1.trans (h.mono hb1.size))); clear hb1)
        | (go_at_call 65; refine (cG.out _ HB1.out).mono ?_; rintro e W3 ⟨rfl, hb1⟩; obtain ⟨⟨a0, a1, a2, a3, a4, a5, a6, a7, a8, a9⟩, b0, b1, b2, b3, b4, b5, b6, b7, b8, b9⟩ := HAB2.out W3 hb1; have HB1 := Lib.hid (HB1.out.trans (hb1.mono HB1.out.size)); clear hb1))
      go_ret
      exact ⟨by rw [HS.out, HPL.out, HL.out]; rfl, HB1.out⟩)
  · have HPL := Lib.hid hpl
    clear hpl
    cases q1 <;> cases q2 <;> cases q3 <;> (
      go_enter Tryz.func23, Tryz.ntmps23
      go_wp2_with (first
        | (go_at_call 64; refine (cW.out _ HB.out).mono ?_; rintro e W ⟨rfl, hb1⟩; obtain ⟨⟨a0, a1, a2, a3, a4, a5, a6, a7, a8, a9⟩, b0, b1, b2, b3, b4, b5, b6, b7, b8, b9⟩ := HAB.out W hb1; have HB1 := Lib.hid (HB.out.trans (hb1.mono HB.out.size)); have HAB1 := Lib.hid (fun V (h : Below W.heap.size W V) => HAB.out V (hb1.trans (h.mono hb1.size))); clear hb1)
        | (go_at_call 43; refine (cN.out _ HB1.out).mono ?_; rintro e W2 ⟨rfl, hb1⟩; obtain ⟨⟨a0, a1, a2, a3, a4, a5, a6, a7, a8, a9⟩, b0, b1, b2, b3, b4, b5, b6, b7, b8, b9⟩ := HAB1.out W2 hb1; have HB1 := Lib.hid (HB1.out.trans (hb1.mono HB1.out.size)); have HAB2 := Lib.hid (fun V (h : Below W2.heap.size W2 V) => HAB1.out V (hb1.trans (h.mono hb1.size))); clear hb1)
        | (go_at_call 65; refine (cG.out _ HB1.out).mono ?_; rintro e W3 ⟨rfl, hb1⟩; obtain ⟨⟨a0, a1, a2, a3, a4, a5, a6, a7, a8, a9⟩, b0, b1, b2, b3, b4, b5, b6, b7, b8, b9⟩ := HAB2.out W3 hb1; have HB1 := Lib.hid (HB1.out.trans (hb1.mono HB1.out.size)); clear hb1))
      go_ret
      exact ⟨by rw [HS.out, HPL.out, HL.out]; rfl, HB1.out⟩)
  · have HPL := Lib.hid hpl
    clear hpl
    cases q1 <;> cases q2 <;> cases q3 <;> (
      go_enter Tryz.func23, Tryz.ntmps23
      go_wp2_with (first
        | (go_at_call 64; refine (cW.out _ HB.out).mono ?_; rintro e W ⟨rfl, hb1⟩; obtain ⟨⟨a0, a1, a2, a3, a4, a5, a6, a7, a8, a9⟩, b0, b1, b2, b3, b4, b5, b6, b7, b8, b9⟩ := HAB.out W hb1; have HB1 := Lib.hid (HB.out.trans (hb1.mono HB.out.size)); have HAB1 := Lib.hid (fun V (h : Below W.heap.size W V) => HAB.out V (hb1.trans (h.mono hb1.size))); clear hb1)
        | (go_at_call 43; refine (cN.out _ HB1.out).mono ?_; rintro e W2 ⟨rfl, hb1⟩; obtain ⟨⟨a0, a1, a2, a3, a4, a5, a6, a7, a8, a9⟩, b0, b1, b2, b3, b4, b5, b6, b7, b8, b9⟩ := HAB1.out W2 hb1; have HB1 := Lib.hid (HB1.out.trans (hb1.mono HB1.out.size)); have HAB2 := Lib.hid (fun V (h : Below W2.heap.size W2 V) => HAB1.out V (hb1.trans (h.mono hb1.size))); clear hb1)
        | (go_at_call 65; refine (cG.out _ HB1.out).mono ?_; rintro e W3 ⟨rfl, hb1⟩; obtain ⟨⟨a0, a1, a2, a3, a4, a5, a6, a7, a8, a9⟩, b0, b1, b2, b3, b4, b5, b6, b7, b8, b9⟩ := HAB2.out W3 hb1; have HB1 := Lib.hid (HB1.out.trans (hb1.mono HB1.out.size)); clear hb1))
      go_ret
      exact ⟨by rw [HS.out, HPL.out, HL.out]; rfl, HB1.out⟩)
  · have HPL := Lib.hid hpl
    clear hpl
    cases q1 <;> cases q2 <;> cases q3 <;> (
      go_enter Tryz.func23, Tryz.ntmps23
      go_wp2_with (first
        | (go_at_call 64; refine (cW.out _ HB.out).mono ?_; rintro e W ⟨rfl, hb1⟩; obtain ⟨⟨a0, a1, a2, a3, a4, a5, a6, a7, a8, a9⟩, b0, b1, b2, b3, b4, b5, b6, b7, b8, b9⟩ := HAB.out W hb1; have HB1 := Lib.hid (HB.out.trans (hb1.mono HB.out.size)); have HAB1 := Lib.hid (fun V (h : Below W.heap.size W V) => HAB.out V (hb1.trans (h.mono hb1.size))); clear hb1)
        | (go_at_call 43; refine (cN.out _ HB1.out).mono ?_; rintro e W2 ⟨rfl, hb1⟩; obtain ⟨⟨a0, a1, a2, a3, a4, a5, a6, a7, a8, a9⟩, b0, b1, b2, b3, b4, b5, b6, b7, b8, b9⟩ := HAB1.out W2 hb1; have HB1 := Lib.hid (HB1.out.trans (hb1.mono HB1.out.size)); have HAB2 := Lib.hid (fun V (h : Below W2.heap.size W2 V) => HAB1.out V (hb1.trans (h.mono hb1.size))); clear hb1)
        | (go_at_call 65; refine (cG.out _ HB1.out).mono ?_; rintro e W3 ⟨rfl, hb1⟩; obtain ⟨⟨a0, a1, a2, a3, a4, a5, a6, a7, a8, a9⟩, b0, b1, b2, b3, b4, b5, b6, b7, b8, b9⟩ := HAB2.out W3 hb1; have HB1 := Lib.hid (HB1.out.trans (hb1.mono HB1.out.size)); clear hb1))
      go_ret
      exact ⟨by rw [HS.out, HPL.out, HL.out]; rfl, HB1.out⟩)
  · have HPL := Lib.hid hpl
    clear hpl
    cases q1 <;> cases q2 <;> cases q3 <;> (
      go_enter Tryz.func23, Tryz.ntmps23
      go_wp2_with (first
        | (go_at_call 64; refine (cW.out _ HB.out).mono ?_; rintro e W ⟨rfl, hb1⟩; obtain ⟨⟨a0, a1, a2, a3, a4, a5, a6, a7, a8, a9⟩, b0, b1, b2, b3, b4, b5, b6, b7, b8, b9⟩ := HAB.out W hb1; have HB1 := Lib.hid (HB.out.trans (hb1.mono HB.out.size)); have HAB1 := Lib.hid (fun V (h : Below W.heap.size W V) => HAB.out V (hb1.trans (h.mono hb1.size))); clear hb1)
        | (go_at_call 43; refine (cN.out _ HB1.out).mono ?_; rintro e W2 ⟨rfl, hb1⟩; obtain ⟨⟨a0, a1, a2, a3, a4, a5, a6, a7, a8, a9⟩, b0, b1, b2, b3, b4, b5, b6, b7, b8, b9⟩ := HAB1.out W2 hb1; have HB1 := Lib.hid (HB1.out.trans (hb1.mono HB1.out.size)); have HAB2 := Lib.hid (fun V (h : Below W2.heap.size W2 V) => HAB1.out V (hb1.trans (h.mono hb1.size))); clear hb1)
        | (go_at_call 65; refine (cG.out _ HB1.out).mono ?_; rintro e W3 ⟨rfl, hb1⟩; obtain ⟨⟨a0, a1, a2, a3, a4, a5, a6, a7, a8, a9⟩, b0, b1, b2, b3, b4, b5, b6, b7, b8, b9⟩ := HAB2.out W3 hb1; have HB1 := Lib.hid (HB1.out.trans (hb1.mono HB1.out.size)); clear hb1))
      go_ret
      exact ⟨by rw [HS.out, HPL.out, HL.out]; rfl, HB1.out⟩)
  · have HPL := Lib.hid hpl
    clear hpl
    cases q1 <;> cases q2 <;> cases q3
    rotate_right
    · rcases dec_int a.asked b.asked with ⟨s5, t5⟩ | ⟨s5, t5⟩
      · rcases dec_bool a.cancelled b.cancelled with ⟨s6, t6⟩ | ⟨s6, t6⟩ <;> (
          have HQ6 := Lib.hid t6
          go_enter Tryz.func23, Tryz.ntmps23
          go_wp2_with (first
            | (go_at_call 64; refine (cW.out _ HB.out).mono ?_; rintro e W ⟨rfl, hb1⟩; obtain ⟨⟨a0, a1, a2, a3, a4, a5, a6, a7, a8, a9⟩, b0, b1, b2, b3, b4, b5, b6, b7, b8, b9⟩ := HAB.out W hb1; have HB1 := Lib.hid (HB.out.trans (hb1.mono HB.out.size)); have HAB1 := Lib.hid (fun V (h : Below W.heap.size W V) => HAB.out V (hb1.trans (h.mono hb1.size))); clear hb1)
            | (go_at_call 43; refine (cN.out _ HB1.out).mono ?_; rintro e W2 ⟨rfl, hb1⟩; obtain ⟨⟨a0, a1, a2, a3, a4, a5, a6, a7, a8, a9⟩, b0, b1, b2, b3, b4, b5, b6, b7, b8, b9⟩ := HAB1.out W2 hb1; have HB1 := Lib.hid (HB1.out.trans (hb1.mono HB1.out.size)); have HAB2 := Lib.hid (fun V (h : Below W2.heap.size W2 V) => HAB1.out V (hb1.trans (h.mono hb1.size))); clear hb1)
            | (go_at_call 65; refine (cG.out _ HB1.out).mono ?_; rintro e W3 ⟨rfl, hb1⟩; obtain ⟨⟨a0, a1, a2, a3, a4, a5, a6, a7, a8, a9⟩, b0, b1, b2, b3, b4, b5, b6, b7, b8, b9⟩ := HAB2.out W3 hb1; have HB1 := Lib.hid (HB1.out.trans (hb1.mono HB1.out.size)); clear hb1))
          go_ret
          exact ⟨by rw [HS.out, HPL.out, HL.out]; unfold sameQ; rw [s5, HQ6.out]; rfl, HB1.out⟩)
      · go_enter Tryz.func23, Tryz.ntmps23
        go_wp2_with (first
          | (go_at_call 64; refine (cW.out _ HB.out).mono ?_; rintro e W ⟨rfl, hb1⟩; obtain ⟨⟨a0, a1, a2, a3, a4, a5, a6, a7, a8, a9⟩, b0, b1, b2, b3, b4, b5, b6, b7, b8, b9⟩ := HAB.out W hb1; have HB1 := Lib.hid (HB.out.trans (hb1.mono HB.out.size)); have HAB1 := Lib.hid (fun V (h : Below W.heap.size W V) => HAB.out V (hb1.trans (h.mono hb1.size))); clear hb1)
          | (go_at_call 43; refine (cN.out _ HB1.out).mono ?_; rintro e W2 ⟨rfl, hb1⟩; obtain ⟨⟨a0, a1, a2, a3, a4, a5, a6, a7, a8, a9⟩, b0, b1, b2, b3, b4, b5, b6, b7, b8, b9⟩ := HAB1.out W2 hb1; have HB1 := Lib.hid (HB1.out.trans (hb1.mono HB1.out.size)); have HAB2 := Lib.hid (fun V (h : Below W2.heap.size W2 V) => HAB1.out V (hb1.trans (h.mono hb1.size))); clear hb1)
          | (go_at_call 65; refine (cG.out _ HB1.out).mono ?_; rintro e W3 ⟨rfl, hb1⟩; obtain ⟨⟨a0, a1, a2, a3, a4, a5, a6, a7, a8, a9⟩, b0, b1, b2, b3, b4, b5, b6, b7, b8, b9⟩ := HAB2.out W3 hb1; have HB1 := Lib.hid (HB1.out.trans (hb1.mono HB1.out.size)); clear hb1))
        go_ret
        exact ⟨by rw [HS.out, HPL.out, HL.out]; unfold sameQ; rw [s5]; rfl, HB1.out⟩
    all_goals (
      go_enter Tryz.func23, Tryz.ntmps23
      go_wp2_with (first
        | (go_at_call 64; refine (cW.out _ HB.out).mono ?_; rintro e W ⟨rfl, hb1⟩; obtain ⟨⟨a0, a1, a2, a3, a4, a5, a6, a7, a8, a9⟩, b0, b1, b2, b3, b4, b5, b6, b7, b8, b9⟩ := HAB.out W hb1; have HB1 := Lib.hid (HB.out.trans (hb1.mono HB.out.size)); have HAB1 := Lib.hid (fun V (h : Below W.heap.size W V) => HAB.out V (hb1.trans (h.mono hb1.size))); clear hb1)
        | (go_at_call 43; refine (cN.out _ HB1.out).mono ?_; rintro e W2 ⟨rfl, hb1⟩; obtain ⟨⟨a0, a1, a2, a3, a4, a5, a6, a7, a8, a9⟩, b0, b1, b2, b3, b4, b5, b6, b7, b8, b9⟩ := HAB1.out W2 hb1; have HB1 := Lib.hid (HB1.out.trans (hb1.mono HB1.out.size)); have HAB2 := Lib.hid (fun V (h : Below W2.heap.size W2 V) => HAB1.out V (hb1.trans (h.mono hb1.size))); clear hb1)
        | (go_at_call 65; refine (cG.out _ HB1.out).mono ?_; rintro e W3 ⟨rfl, hb1⟩; obtain ⟨⟨a0, a1, a2, a3, a4, a5, a6, a7, a8, a9⟩, b0, b1, b2, b3, b4, b5, b6, b7, b8, b9⟩ := HAB2.out W3 hb1; have HB1 := Lib.hid (HB1.out.trans (hb1.mono HB1.out.size)); clear hb1))
      go_ret
      exact ⟨by rw [HS.out, HPL.out, HL.out]; rfl, HB1.out⟩)

theorem over_calls (st : Int) (w : World) : Calls Tryz.prog 22 #[.int .i64 st] w fun e w' => e = .returned (.bool (decide (st = 5 ∨ st = 6 ∨ st = 10))) ∧ w = w' := by
  rcases Decidable.em (st = 5) with rfl | h5
  · go_enter Tryz.func22, Tryz.ntmps22
    go_wp2
    go_ret
    exact ⟨by simp, rfl⟩
  rcases Decidable.em (st = 6) with rfl | h6
  · go_enter Tryz.func22, Tryz.ntmps22
    go_wp2
    go_ret
    exact ⟨by simp, rfl⟩
  rcases Decidable.em (st = 10) with rfl | h10
  · go_enter Tryz.func22, Tryz.ntmps22
    go_wp2
    go_ret
    exact ⟨by simp, rfl⟩
  have e5 : (st == 5) = false := by rw [beq_eq_false_iff_ne]; exact h5
  have e6 : (st == 6) = false := by rw [beq_eq_false_iff_ne]; exact h6
  have e10 : (st == 10) = false := by rw [beq_eq_false_iff_ne]; exact h10
  have d5 : decide (st = 5) = false := decide_eq_false h5
  have d6 : decide (st = 6) = false := decide_eq_false h6
  have d10 : decide (st = 10) = false := decide_eq_false h10
  have hd : decide (st = 5 ∨ st = 6 ∨ st = 10) = false := decide_eq_false (by omega)
  rw [hd]
  clear h5 h6 h10 hd
  go_enter Tryz.func22, Tryz.ntmps22
  go_wp2
  go_ret
  exact ⟨rfl, rfl⟩
end Sa
end Go.Proofs.YthfpfomifebpbaaGreat

namespace Go.Proofs.YthfpfomifebpbaaGreat
open Go.RowKit Go.Maps
namespace Sa
open It

def lv5 : List It.Item := [(sa, 5)]
def lv3 : List It.Item := [(sa, 3)]
def lv2 : List It.Item := [(sa, 2)]
def lvS : Saga := ⟨1, 0, 2, lv5, true, 1, 1, [[], []], [0], false⟩
def lvT : Saga := ⟨1, 0, 2, lv5, true, 1, 2, [lv3, []], [1], false⟩
def lvU : Saga := ⟨1, 0, 2, lv5, true, 2, 2, [lv3, lv2], [], false⟩
theorem lv_m1 : mayS lvS = true := by decide +kernel
theorem lv_m2 : mayS lvT = true := by decide +kernel
theorem lv_m3 : mayS lvU = true := by decide +kernel
theorem lv_b : beginS 1 0 2 lv5 true = .ok (lvS, [⟨3, 0, lv5, 0⟩]) := by kernel_rfl
theorem lv_1 : nextS lvS ⟨1, 0, lv3⟩ = .ok (lvT, [⟨3, 1, lv2, 0⟩]) := by kernel_rfl
theorem lv_2 : nextS lvT ⟨1, 1, lv2⟩ = .ok (lvU, [⟨100, 0, [], 2⟩]) := by kernel_rfl
theorem lv_3 : nextS lvU ⟨4, 0, []⟩ = .error 80 := by kernel_rfl
theorem lv_h : holders lvU.got = [0, 1] := by decide +kernel
theorem lv_s : sameS lvU lvU = true := sameS_iff.2 rfl
theorem fits5 {n : Int} (h0 : 0 ≤ n) (h1 : n ≤ 100) : Fits [(sa, n)] := by
  intro x hx
  simp only [List.mem_singleton] at hx
  subst hx
  exact ⟨show sa.size ≤ maxLen by decide +kernel, by show _ ≤ n; omega, by show n ≤ _; omega⟩
theorem fit_T : Fit lvT := ⟨fits5 (by omega) (by omega), fun l hl => by
  rcases List.mem_cons.1 hl with rfl | hl
  · exact fits5 (by omega) (by omega)
  · rcases List.mem_cons.1 hl with rfl | hl
    · intro x hx; simp at hx
    · simp at hl⟩
theorem fit_U : Fit lvU := ⟨fits5 (by omega) (by omega), fun l hl => by
  rcases List.mem_cons.1 hl with rfl | hl
  · exact fits5 (by omega) (by omega)
  · rcases List.mem_cons.1 hl with rfl | hl
    · exact fits5 (by omega) (by omega)
    · simp at hl⟩
theorem fit_S : Fit lvS := ⟨fits5 (by omega) (by omega), fun l hl => by
  rcases List.mem_cons.1 hl with rfl | hl
  · intro x hx; simp at hx
  · rcases List.mem_cons.1 hl with rfl | hl
    · intro x hx; simp at hx
    · simp at hl⟩
theorem item1 {W : World} {n : Int} : ItemsAt (W.alloc (.cells #[.string ⟨#[97]⟩, .int .i64 n] 50)) 0 (W.alloc (.cells #[.string ⟨#[97]⟩, .int .i64 n] 50)).heap.size (.slice (some ⟨W.heap.size, 0, none⟩) 1 1) [(sa, n)] := by
  have := Sl.new W #[.string ⟨#[97]⟩, .int .i64 n] 50 (size := 2) (n := 1) rfl (by unfold maxLen; omega)
  exact Sl.wide this (Nat.zero_le _) (by rw [World.size_alloc]; omega)
end Sa
end Go.Proofs.YthfpfomifebpbaaGreat

namespace Go.Proofs.YthfpfomifebpbaaGreat
open Go.RowKit Go.Maps
namespace Sa
open It
set_option linter.unusedSimpArgs false

set_option maxRecDepth 100000 in
set_option maxHeartbeats 8000000 in
theorem lives_calls (w : World) : Calls Tryz.prog 8 #[] w fun e w' => e = .returned (.bool true) ∧ Below w.heap.size w w' := by
  have hnn := neq_nil
  go_enter Tryz.func8, Tryz.ntmps8
  have hB := Below.refl w.heap.size w
  have hi := item1 (W := w) (n := 5)
  have hal := (Below.refl w.heap.size w).alloc (Nat.le_refl _) (.cells #[.string ⟨#[97]⟩, .int .i64 5] 50)
  have hB := hB.trans (hal.mono hB.size)
  have cc := Lib.hid (begin_calls 1 0 2 lv5 true _ _ hi (fits5 (by omega) (by omega)) (by decide))
  go_wp2_with fail
  refine cc.out.mono ?_
  rintro e w1 ⟨hr, hb⟩
  rw [lv_b] at hr
  have hB := hB.trans (hb.mono hB.size)
  obtain ⟨vw, vg, vp, vl, rfl, hP0, hS0⟩ := hr
  have hPS := hP0.wide (Nat.zero_le _) (Nat.le_refl _)
  have hSS := hS0.wide (Nat.zero_le _) (Nat.le_refl _)
  obtain ⟨AS1, cS1, rfl, -⟩ := hPS.want.form
  obtain ⟨AS2, cS2, rfl, -⟩ := hPS.got.form
  obtain ⟨AS3, cS3, rfl, -⟩ := hPS.pend.form
  obtain ⟨AS4, cS4, rfl, -⟩ := hSS.form
  obtain ⟨sdS, hsdS⟩ : ∃ sd, sd = sagaC lvS (.slice AS1 lvS.want.length cS1) (.slice AS2 lvS.got.length cS2) (.slice AS3 lvS.pending.length cS3) := ⟨_, rfl⟩
  clear hP0 hS0
  rw [← hsdS]
  have hzS : sdS.size = 10 := by rw [hsdS]; rfl
  have haS : sdS.all (·.oneCell') = true := by rw [hsdS]; simp [sagaC, Value.oneCell']
  have hoN := Ob.new w1 26 #[.int .i64 0, .int .i64 0, .int .i64 0, .slice none 0 0, .bool false, .int .i64 0, .int .i64 0, .slice none 0 0, .slice none 0 0, .bool false]
  have hal3 := (Below.refl w1.heap.size w1).alloc (Nat.le_refl _) (.cells #[.int .i64 0, .int .i64 0, .int .i64 0, .slice none 0 0, .bool false, .int .i64 0, .int .i64 0, .slice none 0 0, .slice none 0 0, .bool false] 26)
  have z3 : (w1.alloc (.cells #[.int .i64 0, .int .i64 0, .int .i64 0, .slice none 0 0, .bool false, .int .i64 0, .int .i64 0, .slice none 0 0, .slice none 0 0, .bool false] 26)).heap.size = w1.heap.size + 1 := World.size_alloc _ _
  have HSDS := Lib.hid hsdS
  clear cc hb hsdS hi hal
  go_wp2_with (first
    | (refine wpList_store_ob (cells := sdS) rfl 26 (.tmp 1) (.tmp 17) rfl rfl rfl hoN hzS (by rw [hzS]; kernel_rfl) haS ?_
       intro w2 hoS hg3
       have hb3 : Below w1.heap.size w1 w2 := hal3.grown hg3 (by omega) (fun g e => by have e2 : w1.heap.size = g := Option.some.inj e; omega)
       have hPS := hPS.later hb3
       have hSS := hSS.later hb3
       have hB := hB.trans (hb3.mono hB.size)
       have hi := item1 (W := w2) (n := 3)
       have hal := (Below.refl w2.heap.size w2).alloc (Nat.le_refl _) (.cells #[.string ⟨#[97]⟩, .int .i64 3] 50)
       have hB := hB.trans (hal.mono hB.size)
       have cc := Lib.hid (next_calls lvS _ _ _ ⟨1, 0, lv3⟩ _ _ (hPS.later hal) fit_S hi (fits5 (by omega) (by omega)))
       have hPSz := hPS.later hal
       have hSSz := hSS.later hal
       have hoSz := hoS.same hal
       clear hoN hal3 hg3 hb3 z3)
    | (refine wpList_load_obg (by rfl) _ _ rfl rfl _ hoS Tryz.underlying26 rfl (by rw [hzS]; kernel_rfl) ?_))
  rw [HSDS.out]
  refine cc.out.mono ?_
  rintro e w3 ⟨hr, hb⟩
  rw [lv_1] at hr
  have hPS := hPSz.later hb
  have hSS := hSSz.later hb
  have hoS := hoSz.same hb
  have hB := hB.trans (hb.mono hB.size)
  obtain ⟨vw, vg, vp, vl, rfl, hP0, hS0⟩ := hr
  have hPT := hP0.wide (Nat.zero_le _) (Nat.le_refl _)
  have hST := hS0.wide (Nat.zero_le _) (Nat.le_refl _)
  obtain ⟨AT1, cT1, rfl, -⟩ := hPT.want.form
  obtain ⟨AT2, cT2, rfl, -⟩ := hPT.got.form
  obtain ⟨AT3, cT3, rfl, -⟩ := hPT.pend.form
  obtain ⟨AT4, cT4, rfl, -⟩ := hST.form
  obtain ⟨sdT, hsdT⟩ : ∃ sd, sd = sagaC lvT (.slice AT1 lvT.want.length cT1) (.slice AT2 lvT.got.length cT2) (.slice AT3 lvT.pending.length cT3) := ⟨_, rfl⟩
  clear hP0 hS0
  rw [← hsdT]
  have hzT : sdT.size = 10 := by rw [hsdT]; rfl
  have haT : sdT.all (·.oneCell') = true := by rw [hsdT]; simp [sagaC, Value.oneCell']
  have hoN := Ob.new w3 26 #[.int .i64 0, .int .i64 0, .int .i64 0, .slice none 0 0, .bool false, .int .i64 0, .int .i64 0, .slice none 0 0, .slice none 0 0, .bool false]
  have hal3 := (Below.refl w3.heap.size w3).alloc (Nat.le_refl _) (.cells #[.int .i64 0, .int .i64 0, .int .i64 0, .slice none 0 0, .bool false, .int .i64 0, .int .i64 0, .slice none 0 0, .slice none 0 0, .bool false] 26)
  have z3 : (w3.alloc (.cells #[.int .i64 0, .int .i64 0, .int .i64 0, .slice none 0 0, .bool false, .int .i64 0, .int .i64 0, .slice none 0 0, .slice none 0 0, .bool false] 26)).heap.size = w3.heap.size + 1 := World.size_alloc _ _
  have HSDT := Lib.hid hsdT
  clear cc hb hsdT hi hal
  go_wp2_with (first
    | (refine wpList_store_ob (cells := sdT) rfl 26 (.tmp 4) (.tmp 26) rfl rfl rfl hoN hzT (by rw [hzT]; kernel_rfl) haT ?_
       intro w4 hoT hg3
       have hb3 : Below w3.heap.size w3 w4 := hal3.grown hg3 (by omega) (fun g e => by have e2 : w3.heap.size = g := Option.some.inj e; omega)
       have hPS := hPS.later hb3
       have hSS := hSS.later hb3
       have hoS := hoS.same hb3
       have hPT := hPT.later hb3
       have hST := hST.later hb3
       have hB := hB.trans (hb3.mono hB.size)
       have hi := item1 (W := w4) (n := 2)
       have hal := (Below.refl w4.heap.size w4).alloc (Nat.le_refl _) (.cells #[.string ⟨#[97]⟩, .int .i64 2] 50)
       have hB := hB.trans (hal.mono hB.size)
       have cc := Lib.hid (next_calls lvT _ _ _ ⟨1, 1, lv2⟩ _ _ (hPT.later hal) fit_T hi (fits5 (by omega) (by omega)))
       have hPSz := hPS.later hal
       have hSSz := hSS.later hal
       have hoSz := hoS.same hal
       have hPTz := hPT.later hal
       have hSTz := hST.later hal
       have hoTz := hoT.same hal
       clear hoN hal3 hg3 hb3 z3)
    | (refine wpList_load_obg (by rfl) _ _ rfl rfl _ hoT Tryz.underlying26 rfl (by rw [hzT]; kernel_rfl) ?_))
  rw [HSDT.out]
  refine cc.out.mono ?_
  rintro e w5 ⟨hr, hb⟩
  rw [lv_2] at hr
  have hPS := hPSz.later hb
  have hSS := hSSz.later hb
  have hoS := hoSz.same hb
  have hPT := hPTz.later hb
  have hST := hSTz.later hb
  have hoT := hoTz.same hb
  have hB := hB.trans (hb.mono hB.size)
  obtain ⟨vw, vg, vp, vl, rfl, hP0, hS0⟩ := hr
  have hPU := hP0.wide (Nat.zero_le _) (Nat.le_refl _)
  have hSU := hS0.wide (Nat.zero_le _) (Nat.le_refl _)
  obtain ⟨AU1, cU1, rfl, -⟩ := hPU.want.form
  obtain ⟨AU2, cU2, rfl, -⟩ := hPU.got.form
  obtain ⟨AU3, cU3, rfl, -⟩ := hPU.pend.form
  obtain ⟨AU4, cU4, rfl, -⟩ := hSU.form
  obtain ⟨sdU, hsdU⟩ : ∃ sd, sd = sagaC lvU (.slice AU1 lvU.want.length cU1) (.slice AU2 lvU.got.length cU2) (.slice AU3 lvU.pending.length cU3) := ⟨_, rfl⟩
  clear hP0 hS0
  rw [← hsdU]
  have hzU : sdU.size = 10 := by rw [hsdU]; rfl
  have haU : sdU.all (·.oneCell') = true := by rw [hsdU]; simp [sagaC, Value.oneCell']
  have hoN := Ob.new w5 26 #[.int .i64 0, .int .i64 0, .int .i64 0, .slice none 0 0, .bool false, .int .i64 0, .int .i64 0, .slice none 0 0, .slice none 0 0, .bool false]
  have hal3 := (Below.refl w5.heap.size w5).alloc (Nat.le_refl _) (.cells #[.int .i64 0, .int .i64 0, .int .i64 0, .slice none 0 0, .bool false, .int .i64 0, .int .i64 0, .slice none 0 0, .slice none 0 0, .bool false] 26)
  have z3 : (w5.alloc (.cells #[.int .i64 0, .int .i64 0, .int .i64 0, .slice none 0 0, .bool false, .int .i64 0, .int .i64 0, .slice none 0 0, .slice none 0 0, .bool false] 26)).heap.size = w5.heap.size + 1 := World.size_alloc _ _
  have HSDU := Lib.hid hsdU
  clear cc hb hsdU hi hal
  go_wp2_with (first
    | (refine wpList_store_ob (cells := sdU) rfl 26 (.tmp 7) (.tmp 35) rfl rfl rfl hoN hzU (by rw [hzU]; kernel_rfl) haU ?_
       intro w6 hoU hg3
       have hb3 : Below w5.heap.size w5 w6 := hal3.grown hg3 (by omega) (fun g e => by have e2 : w5.heap.size = g := Option.some.inj e; omega)
       have hPS := hPS.later hb3
       have hSS := hSS.later hb3
       have hoS := hoS.same hb3
       have hPT := hPT.later hb3
       have hST := hST.later hb3
       have hoT := hoT.same hb3
       have hPU := hPU.later hb3
       have hSU := hSU.later hb3
       have hB := hB.trans (hb3.mono hB.size)
       have cc := Lib.hid (next_calls lvU _ _ _ ⟨4, 0, []⟩ _ w6 hPU fit_U (ItemsAt.nil _ _ _) (fun x hx => by simp at hx))
       have hPSz := hPS
       have hSSz := hSS
       have hoSz := hoS
       have hPTz := hPT
       have hSTz := hST
       have hoTz := hoT
       have hPUz := hPU
       have hSUz := hSU
       have hoUz := hoU
       clear hoN hal3 hg3 hb3 z3)
    | (refine wpList_load_obg (by rfl) _ _ rfl rfl _ hoU Tryz.underlying26 rfl (by rw [hzU]; kernel_rfl) ?_))
  rw [HSDU.out]
  refine cc.out.mono ?_
  rintro e w7 ⟨hr, hb⟩
  rw [lv_3] at hr
  have hPS := hPSz.later hb
  have hSS := hSSz.later hb
  have hoS := hoSz.same hb
  have hPT := hPTz.later hb
  have hST := hSTz.later hb
  have hoT := hoTz.same hb
  have hPU := hPUz.later hb
  have hSU := hSUz.later hb
  have hoU := hoUz.same hb
  have hB := hB.trans (hb.mono hB.size)
  obtain rfl : e = .returned (.tuple #[.agg (sagaC saga0 nilS nilS nilS), nilS, .int .i64 80]) := hr
  obtain ⟨sdR, hsdR⟩ : ∃ sd, sd = sagaC saga0 nilS nilS nilS := ⟨_, rfl⟩
  unfold nilS at hsdR ⊢
  rw [← hsdR]
  have hzR : sdR.size = 10 := by rw [hsdR]; rfl
  have haR : sdR.all (·.oneCell') = true := by rw [hsdR]; simp [sagaC, Value.oneCell']
  have hoN := Ob.new w7 26 #[.int .i64 0, .int .i64 0, .int .i64 0, .slice none 0 0, .bool false, .int .i64 0, .int .i64 0, .slice none 0 0, .slice none 0 0, .bool false]
  have hal3 := (Below.refl w7.heap.size w7).alloc (Nat.le_refl _) (.cells #[.int .i64 0, .int .i64 0, .int .i64 0, .slice none 0 0, .bool false, .int .i64 0, .int .i64 0, .slice none 0 0, .slice none 0 0, .bool false] 26)
  have z3 : (w7.alloc (.cells #[.int .i64 0, .int .i64 0, .int .i64 0, .slice none 0 0, .bool false, .int .i64 0, .int .i64 0, .slice none 0 0, .slice none 0 0, .bool false] 26)).heap.size = w7.heap.size + 1 := World.size_alloc _ _
  have HSDR := Lib.hid hsdR
  clear cc hb hsdR 
  go_wp2_with (first
    | (refine wpList_store_ob (cells := sdR) rfl 26 (.tmp 10) (.tmp 42) rfl rfl rfl hoN hzR (by rw [hzR]; kernel_rfl) haR ?_
       intro w8 hoR hg3
       have hb3 : Below w7.heap.size w7 w8 := hal3.grown hg3 (by omega) (fun g e => by have e2 : w7.heap.size = g := Option.some.inj e; omega)
       have hPS := hPS.later hb3
       have hSS := hSS.later hb3
       have hoS := hoS.same hb3
       have hPT := hPT.later hb3
       have hST := hST.later hb3
       have hoT := hoT.same hb3
       have hPU := hPU.later hb3
       have hSU := hSU.later hb3
       have hoU := hoU.same hb3
       have hB := hB.trans (hb3.mono hB.size)
       obtain ⟨b5, o5, x5, rfl, -, -, m0, m1, -, -, -⟩ := hST.cellAt (j := 0) (by decide)
       obtain ⟨b8, o8, x8, rfl, -, -, -, -, -, n3, -⟩ := hSU.cellAt (j := 0) (by decide)
       have m0' : w8.cell? ⟨b5, o5, none⟩ = some (.int .i64 3) := by simpa using m0
       have m1' : w8.cell? ⟨b5, o5 + 1, none⟩ = some (.int .i64 1) := by simpa using m1
       have n3' : w8.cell? ⟨b8, o8 + 3, none⟩ = some (.int .i64 2) := by simpa using n3
       have u5 : w8.cell? ⟨w5.heap.size, 5, none⟩ = some (.int .i64 2) := by rw [HSDU.out] at hoU; exact hoU.cell rfl
       have cM := Lib.hid (sagamay_calls lvU _ _ _ w8 hPU fit_U)
       clear hoN hal3 hg3 hb3 z3 m0 m1 n3)
    | (refine wpList_load_obg (by rfl) _ _ rfl rfl _ hoU Tryz.underlying26 rfl (by rw [hzU]; kernel_rfl) ?_))
  rw [HSDU.out]
  refine cM.out.mono ?_
  rintro e w9 ⟨rfl, hb⟩
  rw [lv_m3]
  have hoU := hoU.same hb
  have hPU := hPU.later hb
  have hB := hB.trans (hb.mono hB.size)
  have cH := Lib.hid (holders_calls lvU _ _ _ w9 hPU (by decide))
  clear cM hb m0' m1' n3' u5
  go_wp2_with (refine wpList_load_obg (by rfl) _ _ rfl rfl _ hoU Tryz.underlying26 rfl (by rw [hzU]; kernel_rfl) ?_)
  rw [HSDU.out]
  refine cH.out.mono ?_
  rintro e w10 ⟨⟨vh, rfl, hvh⟩, hb⟩
  rw [lv_h] at hvh
  obtain ⟨Ah, ch, rfl, -⟩ := (IntsAt.of_own hvh).form
  have hoU := hoU.same hb
  have hPU := hPU.later hb
  have hB := hB.trans (hb.mono hB.size)
  have cO := Lib.hid (over_calls 6 w10)
  have cS := Lib.hid (same_calls lvU lvU _ _ _ _ _ _ w10 hPU hPU)
  rw [lv_s] at cS
  clear cH hb hvh
  go_wp2_with fail
  refine cO.out.mono ?_
  rintro e w11 ⟨rfl, rfl⟩
  go_wp2_with (refine wpList_load_obg (by rfl) _ _ rfl rfl _ hoU Tryz.underlying26 rfl (by rw [hzU]; kernel_rfl) ?_)
  rw [HSDU.out]
  refine cS.out.mono ?_
  rintro e w12 ⟨rfl, hb⟩
  have hB := hB.trans (hb.mono hB.size)
  go_wp2
  go_ret
  exact ⟨rfl, hB⟩
end Sa
end Go.Proofs.YthfpfomifebpbaaGreat

namespace Go.Proofs.YthfpfomifebpbaaGreat
open Go.RowKit Go.Maps
namespace It

def putL (g : ByteArray) (n : Int) : List Item → List Item
  | [] => [(g, n)]
  | x :: r => if key x < g.data.toList then x :: putL g n r else if key x = g.data.toList then (x.1, n) :: r else (g, n) :: x :: r
theorem putL_new (g : ByteArray) (n : Int) : ∀ (l : List Item) (j : Nat), (∀ i (h : i < l.length), i < j → key l[i] < g.data.toList) → j ≤ l.length → (∀ h : j < l.length, ¬ key l[j] < g.data.toList ∧ key l[j] ≠ g.data.toList) →
    putL g n l = l.take j ++ [(g, n)] ++ l.drop j
  | [], j, _, hj, _ => by simp at hj; subst hj; rfl
  | x :: r, 0, _, _, h => by
    have := h (by simp)
    simp only [List.getElem_cons_zero] at this
    simp [putL, this.1, this.2]
  | x :: r, j + 1, h1, hj, h => by
    have h0 := h1 0 (by simp) (by omega)
    simp only [List.getElem_cons_zero] at h0
    unfold putL
    rw [if_pos h0, putL_new g n r j (fun i hi hij => h1 (i + 1) (by simpa using hi) (by omega)) (by simpa using hj) (fun hh => h (by simpa using hh))]
    rfl
theorem putL_set (g : ByteArray) (n : Int) : ∀ (l : List Item) (j : Nat), (∀ i (h : i < l.length), i < j → key l[i] < g.data.toList) → (h : j < l.length) → key l[j] = g.data.toList →
    putL g n l = l.set j (l[j].1, n)
  | [], j, _, hj, _ => absurd hj (by simp)
  | x :: r, 0, _, _, h => by
    simp only [List.getElem_cons_zero] at h
    unfold putL
    rw [if_neg (by rw [h]; exact bs_irr _), if_pos h]
    rfl
  | x :: r, j + 1, h1, hj, h => by
    have h0 := h1 0 (by simp) (by omega)
    simp only [List.getElem_cons_zero] at h0
    unfold putL
    rw [if_pos h0, putL_set g n r j (fun i hi hij => h1 (i + 1) (by simpa using hi) (by omega)) (by simpa using hj) (by simpa using h)]
    rfl
theorem putL_len (g : ByteArray) (n : Int) : ∀ l : List Item, (putL g n l).length ≤ l.length + 1
  | [] => by simp [putL]
  | x :: r => by
    unfold putL
    split
    · have := putL_len g n r; simp; omega
    · split <;> simp
theorem putL_mem (g : ByteArray) (n : Int) (x : Item) : ∀ l : List Item, l.Pairwise (fun a b => key a < key b) → (x ∈ putL g n l ↔ x = (g, n) ∨ (x ∈ l ∧ key x ≠ g.data.toList))
  | [], _ => by simp [putL]
  | y :: r, h => by
    have h' := List.pairwise_cons.1 h
    have hg : key ((g, n) : Item) = g.data.toList := rfl
    unfold putL
    split
    · rename_i hy
      have hne : key y ≠ g.data.toList := fun e => by rw [e] at hy; exact bs_irr _ hy
      rw [List.mem_cons, putL_mem g n x r h'.2, List.mem_cons]
      constructor
      · rintro (rfl | h | h)
        · exact .inr ⟨.inl rfl, hne⟩
        · exact .inl h
        · exact .inr ⟨.inr h.1, h.2⟩
      · rintro (h | ⟨rfl | h, h2⟩)
        · exact .inr (.inl h)
        · exact .inl rfl
        · exact .inr (.inr ⟨h, h2⟩)
    · have hr : ∀ z ∈ r, key z ≠ g.data.toList ∨ key y < g.data.toList := fun z hz => by
        by_cases hy : key y < g.data.toList
        · exact .inr hy
        · refine .inl fun e => hy ?_
          have := h'.1 z hz
          rwa [e] at this
      rename_i hy
      split
      · rename_i he
        have e1 : ((y.1, n) : Item) = (g, n) := key_item _ _ (show key y = key ((g, n) : Item) from he) rfl
        rw [e1, List.mem_cons, List.mem_cons]
        constructor
        · rintro (h | h)
          · exact .inl h
          · exact .inr ⟨.inr h, (hr x h).resolve_right hy⟩
        · rintro (h | ⟨rfl | h, h2⟩)
          · exact .inl h
          · exact absurd he h2
          · exact .inr h
      · rename_i he
        rw [List.mem_cons, List.mem_cons]
        constructor
        · rintro (h | rfl | h)
          · exact .inl h
          · exact .inr ⟨.inl rfl, he⟩
          · exact .inr ⟨.inr h, (hr x h).resolve_right hy⟩
        · rintro (h | ⟨rfl | h, h2⟩)
          · exact .inl h
          · exact .inr (.inl rfl)
          · exact .inr (.inr h)
theorem putL_sorted (g : ByteArray) (n : Int) : ∀ l : List Item, l.Pairwise (fun a b => key a < key b) → (putL g n l).Pairwise (fun a b => key a < key b)
  | [], _ => by simp [putL]
  | y :: r, h => by
    have h' := List.pairwise_cons.1 h
    unfold putL
    split
    · rename_i hy
      refine List.pairwise_cons.2 ⟨fun z hz => ?_, putL_sorted g n r h'.2⟩
      rcases (putL_mem g n z r h'.2).1 hz with rfl | ⟨h1, _⟩
      · exact hy
      · exact h'.1 z h1
    · split
      · exact List.pairwise_cons.2 ⟨fun z hz => h'.1 z hz, h'.2⟩
      · rename_i h1 h2
        have hlt : g.data.toList < key y := by
          rcases bs_tri (key y) g.data.toList with h | h | h
          · exact absurd h h1
          · exact absurd h h2
          · exact h
        refine List.pairwise_cons.2 ⟨fun z hz => ?_, h⟩
        rcases List.mem_cons.1 hz with rfl | hz
        · exact hlt
        · exact List.lt_trans hlt (h'.1 z hz)

theorem itemCells_take (l : List Item) (k : Nat) : itemCells (l.take k) = (itemCells l).take (k * 2) := by
  induction l generalizing k with
  | nil => simp [itemCells]
  | cons x r ih =>
    cases k with
    | zero => simp [itemCells]
    | succ k =>
      have e : (k + 1) * 2 = k * 2 + 1 + 1 := by omega
      simp only [itemCells, List.take_succ_cons, List.flatMap_cons, List.cons_append, List.nil_append, e] at ih ⊢
      rw [ih]
theorem itemCells_drop (l : List Item) (k : Nat) : itemCells (l.drop k) = (itemCells l).drop (k * 2) := by
  induction l generalizing k with
  | nil => simp [itemCells]
  | cons x r ih =>
    cases k with
    | zero => simp [itemCells]
    | succ k =>
      have e : (k + 1) * 2 = k * 2 + 1 + 1 := by omega
      simp only [itemCells, List.flatMap_cons, List.cons_append, List.nil_append, e, List.drop_succ_cons] at ih ⊢
      rw [ih]
theorem itemCells_set (l : List Item) (j : Nat) (hj : j < l.length) (n : Int) : itemCells (l.set j (l[j].1, n)) = (itemCells l).set (j * 2 + 1) (.int .i64 n) := by
  induction l generalizing j with
  | nil => simp at hj
  | cons x r ih =>
    cases j with
    | zero => rfl
    | succ j =>
      have e : (j + 1) * 2 + 1 = j * 2 + 1 + 1 + 1 := by omega
      have := ih j (by simpa using hj)
      simp only [List.set_cons_succ, List.getElem_cons_succ, itemCells, List.flatMap_cons, List.cons_append, List.nil_append, e] at this ⊢
      rw [this]

end It
end Go.Proofs.YthfpfomifebpbaaGreat

namespace Go.Proofs.YthfpfomifebpbaaGreat
open Go.RowKit Go.Maps
namespace It

def outN (L : List Item) (i : Nat) : List Item := (ksOf ((L.take i).map key)).filterMap (pick L)
theorem outN_sorted (L : List Item) (i : Nat) : (outN L i).Pairwise fun a b => key a < key b := by
  unfold outN
  rw [List.pairwise_filterMap]
  refine (ksOf_sorted ((L.take i).map key)).imp_of_mem fun {a b} _ _ h x hx y hy => ?_
  rw [(pick_some hx).1, (pick_some hy).1]
  exact h
theorem outN_mem (L : List Item) (i : Nat) (x : Item) : x ∈ outN L i ↔ key x ∈ (L.take i).map key ∧ x.2 = tot (key x) L ∧ 0 < x.2 := by
  unfold outN
  rw [List.mem_filterMap]
  constructor
  · rintro ⟨k, hk, hx⟩
    obtain ⟨rfl, h2, h3⟩ := pick_some hx
    exact ⟨(ksOf_mem _ _).1 hk, h2, h3⟩
  · rintro ⟨h1, h2, h3⟩
    refine ⟨key x, (ksOf_mem _ _).2 h1, ?_⟩
    unfold pick
    rw [← h2, if_pos h3, ← item_eta]
theorem outN_len (L : List Item) (i : Nat) : (outN L i).length ≤ i := by
  refine Nat.le_trans (List.length_filterMap_le _ _) ?_
  have h : ∀ l : List Bs, (ksOf l).length ≤ l.length := by
    intro l
    induction l with
    | nil => simp [ksOf]
    | cons y l ih =>
      have hk : ∀ (k : Bs) (r : List Bs), (insK k r).length ≤ r.length + 1 := by
        intro k r
        induction r with
        | nil => simp [insK]
        | cons z r ih => unfold insK; split; · simp
                         split; · simp
                         simp only [List.length_cons]; omega
      have := hk y (ksOf l)
      unfold ksOf at ih this ⊢
      rw [List.foldr_cons, List.length_cons]
      omega
  refine Nat.le_trans (h _) ?_
  rw [List.length_map, List.length_take]
  omega
theorem outN_put {L : List Item} {i : Nat} (h : i < L.length) (ht : 0 < tot (key L[i]) L) : putL L[i].1 (tot (key L[i]) L) (outN L i) = outN L (i + 1) := by
  refine uniq (r := fun a b : Item => key a < key b) (fun _ => bs_irr _) (fun _ _ => bs_asy _ _) (putL_sorted _ _ _ (outN_sorted L i)) (outN_sorted L (i + 1)) fun x => ?_
  rw [putL_mem _ _ _ _ (outN_sorted L i), outN_mem, outN_mem, List.take_succ_eq_append_getElem h, List.map_append, List.mem_append, List.map_singleton, List.mem_singleton]
  have hk : L[i].1.data.toList = key L[i] := rfl
  rw [hk]
  constructor
  · rintro (rfl | ⟨⟨h1, h2, h3⟩, _⟩)
    · exact ⟨.inr rfl, rfl, ht⟩
    · exact ⟨.inl h1, h2, h3⟩
  · rintro ⟨h1, h2, h3⟩
    by_cases e : key x = key L[i]
    · left
      refine key_item _ _ e ?_
      rw [h2, e]
    · exact .inr ⟨⟨h1.resolve_right e, h2, h3⟩, e⟩
theorem outN_skip {L : List Item} {i : Nat} (h : i < L.length) (ht : ¬ 0 < tot (key L[i]) L) : outN L (i + 1) = outN L i := by
  refine uniq (r := fun a b : Item => key a < key b) (fun _ => bs_irr _) (fun _ _ => bs_asy _ _) (outN_sorted L (i + 1)) (outN_sorted L i) fun x => ?_
  rw [outN_mem, outN_mem, List.take_succ_eq_append_getElem h, List.map_append, List.mem_append, List.map_singleton, List.mem_singleton]
  constructor
  · rintro ⟨h1, h2, h3⟩
    refine ⟨h1.resolve_right fun e => ht ?_, h2, h3⟩
    rw [← e, ← h2]; exact h3
  · rintro ⟨h1, h2, h3⟩
    exact ⟨.inl h1, h2, h3⟩
theorem outN_all (L : List Item) : outN L L.length = normL L := by unfold outN normL; rw [List.take_length]
theorem tot_take_le {L : List Item} (h : L.all okC = true) (k : Bs) (j : Nat) : 0 ≤ tot k (L.take j) ∧ tot k (L.take j) ≤ tot k L := by
  have h1 : (L.take j).all okC = true := all_prefix (List.take_prefix _ _) h
  have h2 : (L.drop j).all okC = true := by
    rw [← List.take_append_drop j L, List.all_append, Bool.and_eq_true] at h
    exact h.2
  have h3 := tot_append k (L.take j) (L.drop j)
  rw [List.take_append_drop] at h3
  have := tot_nonneg k _ h1
  have := tot_nonneg k _ h2
  omega
theorem okC_false {L : List Item} {i : Nat} (h : i < L.length) (hf : okC L[i] = false) : L.all okC = false := by
  rw [List.all_eq_false]
  exact ⟨L[i], List.getElem_mem h, by simp [hf]⟩

theorem own_form {w : World} {lo : Nat} {e : TypeId} {size n : Nat} {v : Value} {xs : List Value} (h : w.ownsRow lo e size v n xs) : v = .slice none 0 0 ∨ ∃ b o n c, v = .slice (some ⟨b, o, none⟩) n c := by
  rcases h.2 with ⟨rfl, _⟩ | ⟨g, cap, cur, rfl, _⟩
  · rcases Nat.eq_zero_or_pos n with h0 | h0
    · exact .inl rfl
    · exact .inl rfl
  · exact .inr ⟨_, _, _, _, rfl⟩

end It
end Go.Proofs.YthfpfomifebpbaaGreat

namespace Go.Proofs.YthfpfomifebpbaaGreat
open Go.RowKit Go.Maps
namespace It
attribute [local go_sem] Oper.semAt_some

theorem eql_nil (b : Nat) (w : World) : (binOp .eql 106 (.func (.func 112) #[] #[.pointer (some ⟨b, 0, none⟩)]) .nilFunc).run Tryz.prog w = .ok (.bool false) w := by kernel_rfl

/-- how far a walk goes that stops at so many -/
def upTo (most : Int) (L : List Item) : List Item := if 1 ≤ most ∧ most ≤ L.length then L.take most.toNat else L

end It
end Go.Proofs.YthfpfomifebpbaaGreat

namespace Go.Proofs.YthfpfomifebpbaaGreat
open Go.RowKit Go.Maps
namespace It

set_option maxHeartbeats 400000 in
theorem refmeet_calls (a b : List Item) (va vb : Value) (w : World) (ha : ItemsAt w 0 w.heap.size va a) (hb : ItemsAt w 0 w.heap.size vb b) (hla : a.length ≤ 1000000) :
    Calls Tryz.prog 119 #[va, vb] w fun e w' =>
      (∃ v, e = .returned v ∧ w'.ownsRow w.heap.size 50 2 v (eachL meetF a b).length (itemCells (eachL meetF a b))) ∧ Below w.heap.size w w' := by
  have cE := Lib.hid (refboth_calls 1 meetF (.inl ⟨rfl, rfl⟩) a b va vb w ha hb hla)
  obtain ⟨A, c, rfl, -⟩ := ha.form
  obtain ⟨A', c', rfl, -⟩ := hb.form
  generalize eachL meetF a b = R at *
  go_enter Tryz.func119, Tryz.ntmps119
  go_wp2_with fail
  refine cE.out.mono ?_
  rintro e w1 ⟨⟨v, rfl, h1⟩, h2⟩
  obtain ⟨A1, c1, rfl, -⟩ := (ItemsAt.of_own h1).form
  go_wp2
  go_ret
  exact ⟨⟨_, rfl, h1⟩, h2⟩
set_option maxHeartbeats 400000 in
theorem refrest_calls (a b : List Item) (va vb : Value) (w : World) (ha : ItemsAt w 0 w.heap.size va a) (hb : ItemsAt w 0 w.heap.size vb b) (hla : a.length ≤ 1000000) :
    Calls Tryz.prog 75 #[va, vb] w fun e w' =>
      (∃ v, e = .returned v ∧ w'.ownsRow w.heap.size 50 2 v (eachL restF a b).length (itemCells (eachL restF a b))) ∧ Below w.heap.size w w' := by
  have cE := Lib.hid (refboth_calls 2 restF (.inr ⟨rfl, rfl⟩) a b va vb w ha hb hla)
  obtain ⟨A, c, rfl, -⟩ := ha.form
  obtain ⟨A', c', rfl, -⟩ := hb.form
  generalize eachL restF a b = R at *
  go_enter Tryz.func75, Tryz.ntmps75
  go_wp2_with fail
  refine cE.out.mono ?_
  rintro e w1 ⟨⟨v, rfl, h1⟩, h2⟩
  obtain ⟨A1, c1, rfl, -⟩ := (ItemsAt.of_own h1).form
  go_wp2
  go_ret
  exact ⟨⟨_, rfl, h1⟩, h2⟩

theorem M.fits {l : List Item} (h : M l) : Fits l := fun x hx => by
  have h1 := h.ok x hx
  have h2 := h1.1
  unfold good at h2
  simp only [Bool.and_eq_true, decide_eq_true_eq] at h2
  refine ⟨Nat.le_trans h2.2 (by unfold maxLen; omega), by omega, by omega⟩

end It
end Go.Proofs.YthfpfomifebpbaaGreat

namespace Go.Proofs.YthfpfomifebpbaaGreat
open Go.RowKit Go.Maps
namespace Sa
open It
set_option linter.unusedSimpArgs false

def leftR (want : List It.Item) (L : List (List It.Item)) : List It.Item := L.foldl (fun l o => It.eachL restF l (It.eachL meetF l o)) want
theorem leftR_succ (want : List It.Item) (L : List (List It.Item)) {k : Nat} (hk : k < L.length) : leftR want (L.take (k + 1)) = It.eachL restF (leftR want (L.take k)) (It.eachL meetF (leftR want (L.take k)) (L.getD k [])) := by
  unfold leftR
  rw [List.take_succ_eq_append_getElem hk, List.foldl_append, getD_get hk]
  rfl
theorem itEach_le (f : Int → Int → Int) (a b : List It.Item) : (It.eachL f a b).length ≤ a.length := List.length_filterMap_le _ _
theorem leftR_len (want : List It.Item) (L : List (List It.Item)) : (leftR want L).length ≤ want.length := by
  induction L generalizing want with
  | nil => exact Nat.le_refl _
  | cons o L ih => exact Nat.le_trans (ih _) (itEach_le _ _ _)

set_option maxRecDepth 100000 in
set_option maxHeartbeats 2000000 in
theorem refsplit_calls (want : List It.Item) (L : List (List It.Item)) (va vb : Value) (w : World) (ha : ItemsAt w 0 w.heap.size va want) (hb : GotAt w 0 w.heap.size vb L) (hwl : want.length ≤ 1000000) (hll : L.length ≤ 1000000) :
    Calls Tryz.prog 87 #[va, vb] w fun e w' => (∃ vo vl, e = .returned (.tuple #[vo, vl]) ∧ ItemsAt w' 0 w'.heap.size vl (leftR want L)) ∧ Below w.heap.size w w' := by
  obtain ⟨i0, hi0, hz0⟩ := Option.map_eq_some_iff.1 list_info
  simp only [Prod.mk.injEq] at hz0
  obtain ⟨hz0, hz1, hz2⟩ := hz0
  have hb0 := Lib.hid hb
  obtain ⟨A, c, rfl, -⟩ := ha.form
  obtain ⟨A', c', rfl, hc1, hc2⟩ := hb.form
  unfold maxLen at hc2
  have ha0 := Lib.hid ha
  clear ha hb
  go_enter Tryz.func87, Tryz.ntmps87
  go_wp2
  go_loopw [0, 6, 7, 8] (fun vl vo i _ wr => ∃ (k : Nat) (vs : List Value), k ≤ L.length ∧ i = .int .i64 k ∧ ItemsAt wr 0 wr.heap.size vl (leftR want (L.take k)) ∧ wr.ownsRow w.heap.size 22 1 vo k vs ∧ Below w.heap.size w wr) (fun _ _ i _ _ => L.length - (intOf i).toNat)
  case atStart => exact ⟨0, [], by omega, rfl, ha0.out, World.ownsRow_nil _ _ _ _, Below.refl _ _⟩
  case round =>
    obtain ⟨k, vs, hk, rfl, hvl, hvo, hb⟩ := hrel
    have hlow := fun g e => hvo.lt g e
    by_cases hlt : k < L.length
    · have hd : decide ((k : Int) < L.length) = true := by simp; omega
      obtain ⟨b, o, x, rfl, _, hbB, hck, hx⟩ := (hb0.out.below hb).cellAt hlt
      have hx := hx.wide (Nat.le_refl _) hb.size
      have HS := Lib.hid (leftR_succ want L hlt)
      have HL := Lib.hid (leftR_len want (L.take k))
      generalize L.getD k [] = y at hx HS
      generalize leftR want (L.take k) = left at hvl HL HS
      obtain ⟨A1, c1, rfl, -⟩ := hx.form
      obtain ⟨A3, c3, rfl, -⟩ := hvl.form
      have hll1 : left.length ≤ 1000000 := Nat.le_trans HL.out hwl
      have cMe := Lib.hid (refmeet_calls left y _ _ wr hvl hx hll1)
      clear hx
      go_wp2_with fail
      refine cMe.out.mono ?_
      rintro e w3 ⟨⟨v3, rfl, hv3⟩, hb3⟩
      clear cMe
      have hg3 := (ItemsAt.of_own hv3).wide (Nat.zero_le _) (Nat.le_refl _)
      obtain ⟨A4, c4, rfl, -⟩ := hg3.form
      have cRe := Lib.hid (refrest_calls left (It.eachL meetF left y) _ _ w3 (ItemsAt.mono hvl hb3 hb3.size) hg3 hll1)
      clear hg3 hvl
      go_wp2_with fail
      refine cRe.out.mono ?_
      rintro e w4 ⟨⟨v4, rfl, hv4⟩, hb4⟩
      clear cRe
      have hb34 := hb3.trans (hb4.mono hb3.size)
      have hvo4 := row_later hvo hb34
      obtain ⟨A5, c5, rfl, -⟩ := (ItemsAt.of_own hv4).form
      have hal := (Below.refl w4.heap.size w4).alloc (Nat.le_refl _) (.cells #[.slice A4 (It.eachL meetF left y).length c4] 22)
      have hva := row_later hvo4 hal
      have hvl5 := row_later hv4 hal
      have hob := Ob.new w4 22 #[.slice A4 (It.eachL meetF left y).length c4]
      have hba := (hb.trans (hb34.mono hb.size)).trans (hal.mono (by have := hb.size; have := hb34.size; omega))
      go_wp2_with (at_builtin; go_must (refine wpList_append_own _ rfl (.tmp 24) (.tmp 26) 23 rfl w.heap.size 22 i0 _ 1 24 Tryz.underlying23 hi0 hz0 hz1 hz2 rfl (by omega) _ k _ rfl hva ⟨w4.heap.size, 0, none⟩ 1 1 [.slice A4 (It.eachL meetF left y).length c4] rfl rfl (fun j u hu => by rw [add_mid, Nat.zero_add]; exact hob.cell (by simpa using hu)) (by simp [Value.oneCell']) (by unfold maxLen; omega) (by omega) hba.size ?_; intro v1 w1 hv1 hg1 hat1))
      have hrow : ItemsAt w1 0 w1.heap.size (.slice A5 (It.eachL restF left (It.eachL meetF left y)).length c5) (It.eachL restF left (It.eachL meetF left y)) := by
        have h34 := hb3.size
        have h1 := hb.size
        refine (ItemsAt.of_own (hvl5.kept hg1 ?_)).wide (Nat.zero_le _) (Nat.le_refl _)
        cases hq : Value.ownBlock (.slice A5 (It.eachL restF left (It.eachL meetF left y)).length c5) with
        | none => exact .inl rfl
        | some g =>
          refine .inr fun e => ?_
          have := (hvl5.lt g hq).1
          have := hlow g e.symm
          omega
      exact ⟨⟨k + 1, _, by omega, by go_num, by rw [HS.out]; exact hrow, hv1, hba.grown hg1 hba.size (fun g e => (hlow g e).1)⟩, by simp [intOf]; omega⟩
    · obtain rfl : k = L.length := by omega
      have hd : decide ((L.length : Int) < L.length) = false := decide_eq_false (by omega)
      rw [List.take_length] at hvl
      obtain ⟨A3, c3, rfl, -⟩ := hvl.form
      go_wp2
      go_ret2
      exact ⟨⟨_, _, rfl, hvl⟩, hb⟩

theorem refmissing_calls (s : Saga) (vw vg vp : Value) (w : World) (h : Parts w 0 w.heap.size s vw vg vp) (hwl : s.want.length ≤ 1000000) (hll : s.got.length ≤ 1000000) :
    Calls Tryz.prog 46 #[.agg (sagaC s vw vg vp)] w fun e w' => (∃ vl, e = .returned vl ∧ ItemsAt w' 0 w'.heap.size vl (leftR s.want s.got)) ∧ Below w.heap.size w w' := by
  have cM := Lib.hid (fun W (hb : Below w.heap.size w W) => refsplit_calls s.want s.got vw vg W (h.later hb).want (h.later hb).got hwl hll)
  obtain ⟨A, c, rfl, -⟩ := h.want.form
  obtain ⟨A', c', rfl, -⟩ := h.got.form
  obtain ⟨A2, c2, rfl, -⟩ := h.pend.form
  clear h
  unfold sagaC
  have hB := (Below.refl _ w).alloc (Nat.le_refl _) (.cells #[.int .i64 s.order, .int .i64 s.first, .int .i64 s.regions, .slice A s.want.length c, .bool s.waits, .int .i64 s.state, .int .i64 s.asked, .slice A' s.got.length c', .slice A2 s.pending.length c2, .bool s.cancelled] 26)
  go_enter Tryz.func46, Tryz.ntmps46
  go_wp2_with fail
  refine (cM.out _ hB).mono ?_
  rintro e w1 ⟨⟨vo, vl, rfl, hv⟩, hb⟩
  obtain ⟨A1, c1, rfl, -⟩ := hv.form
  go_wp2
  go_ret
  exact ⟨⟨_, rfl, hv⟩, hB.trans (hb.mono hB.size)⟩

/-- is a saga not too large to be looked at? -/
def smallS (s : Saga) : Bool := decide (s.want.length ≤ 50) && decide (s.got.length ≤ 50) && decide (s.pending.length ≤ 50) && s.got.all fun l => decide (l.length ≤ 50)
set_option maxRecDepth 100000 in
set_option maxHeartbeats 2000000 in
theorem small_calls (s : Saga) (vw vg vp : Value) (w : World) (h : Parts w 0 w.heap.size s vw vg vp) :
    Calls Tryz.prog 7 #[.agg (sagaC s vw vg vp)] w fun e w' => e = .returned (.bool (smallS s)) ∧ Below w.heap.size w w' := by
  have hg0 := Lib.hid h.got
  obtain ⟨A, c, rfl, -⟩ := h.want.form
  obtain ⟨A', c', rfl, hc1, hc2⟩ := h.got.form
  obtain ⟨A2, c2, rfl, -⟩ := h.pend.form
  unfold maxLen at hc2
  clear h
  unfold sagaC
  have hB := (Below.refl _ w).alloc (Nat.le_refl _) (.cells #[.int .i64 s.order, .int .i64 s.first, .int .i64 s.regions, .slice A s.want.length c, .bool s.waits, .int .i64 s.state, .int .i64 s.asked, .slice A' s.got.length c', .slice A2 s.pending.length c2, .bool s.cancelled] 26)
  by_cases h1 : s.want.length ≤ 50
  rotate_left
  · have d1 : decide ((s.want.length : Int) > 50) = true := decide_eq_true (by omega)
    have hs : smallS s = false := by
      unfold smallS
      rw [decide_eq_false (show ¬ s.want.length ≤ 50 from h1)]
      simp
    rw [hs]
    clear hs h1
    go_enter Tryz.func7, Tryz.ntmps7
    go_wp2
    go_ret
    exact ⟨rfl, hB⟩
  have d1 : decide ((s.want.length : Int) > 50) = false := decide_eq_false (by omega)
  by_cases h2 : s.got.length ≤ 50
  rotate_left
  · have d2 : decide ((s.got.length : Int) > 50) = true := decide_eq_true (by omega)
    have hs : smallS s = false := by
      unfold smallS
      rw [decide_eq_false (show ¬ s.got.length ≤ 50 from h2)]
      simp
    rw [hs]
    clear hs h2
    go_enter Tryz.func7, Tryz.ntmps7
    go_wp2
    go_ret
    exact ⟨rfl, hB⟩
  have d2 : decide ((s.got.length : Int) > 50) = false := decide_eq_false (by omega)
  by_cases h3 : s.pending.length ≤ 50
  rotate_left
  · have d3 : decide ((s.pending.length : Int) > 50) = true := decide_eq_true (by omega)
    have hs : smallS s = false := by
      unfold smallS
      rw [decide_eq_false (show ¬ s.pending.length ≤ 50 from h3)]
      simp
    rw [hs]
    clear hs h3
    go_enter Tryz.func7, Tryz.ntmps7
    go_wp2
    go_ret
    exact ⟨rfl, hB⟩
  have d3 : decide ((s.pending.length : Int) > 50) = false := decide_eq_false (by omega)
  have hs : smallS s = s.got.all fun l => decide (l.length ≤ 50) := by
    unfold smallS
    rw [decide_eq_true h1, decide_eq_true h2, decide_eq_true h3]
    simp
  have HS := Lib.hid hs
  clear hs h1 h2 h3
  go_enter Tryz.func7, Tryz.ntmps7
  go_wp2
  go_loop [3] (fun i => ∃ k : Nat, k ≤ s.got.length ∧ i = .int .i64 k ∧ ∀ j, j < k → (s.got.getD j []).length ≤ 50) (fun i => s.got.length - (intOf i).toNat)
  case atStart => exact ⟨0, by omega, rfl, fun j hj => by omega⟩
  case round =>
    obtain ⟨k, hk, rfl, hN⟩ := hrel
    have HN := Lib.hid hN
    clear hN
    by_cases hlt : k < s.got.length
    · have hd : decide ((k : Int) < s.got.length) = true := decide_eq_true (by omega)
      obtain ⟨b, o, x, rfl, _, hbB, hck, hx⟩ := hg0.out.cellAt hlt
      have hck := (hB.cell (p := ⟨b, o + k, none⟩) hbB).trans hck
      have hno : ¬ (s.got.getD k []).length ≤ 50 → smallS s = false := fun h => by
        rw [HS.out, Bool.eq_false_iff]
        intro e
        have := List.all_eq_true.1 e _ (List.getElem_mem hlt)
        rw [getD_get hlt] at h
        exact h (of_decide_eq_true this)
      have hye : (s.got.getD k []).length ≤ 50 → ∀ j, j < k + 1 → (s.got.getD j []).length ≤ 50 := fun h => allTo_snoc HN.out h
      generalize s.got.getD k [] = y at hx hno hye
      obtain ⟨A1, c1, rfl, -⟩ := hx.form
      have HNO := Lib.hid hno
      have HYE := Lib.hid hye
      clear hno hye hx
      by_cases hy : y.length ≤ 50
      · have dy : decide ((y.length : Int) > 50) = false := decide_eq_false (by omega)
        have HY := Lib.hid hy
        clear hy
        go_wp2
        go_round
        case rel => exact ⟨k + 1, by omega, by go_num, HYE.out HY.out⟩
        case measure => simp [intOf]; omega
      · have dy : decide ((y.length : Int) > 50) = true := decide_eq_true (by omega)
        have HY := Lib.hid hy
        clear hy
        go_wp2
        go_ret
        exact ⟨by rw [HNO.out HY.out]; rfl, hB⟩
    · obtain rfl : k = s.got.length := by omega
      have hd : decide ((s.got.length : Int) < s.got.length) = false := decide_eq_false (by omega)
      have hs : smallS s = true := by
        rw [HS.out, List.all_eq_true]
        intro l hl
        obtain ⟨i, hi, rfl⟩ := List.getElem_of_mem hl
        have := HN.out i hi
        rw [getD_get hi] at this
        exact decide_eq_true this
      have HS2 := Lib.hid hs
      clear hs
      go_wp2
      go_ret
      exact ⟨by rw [HS2.out]; rfl, hB⟩
end Sa
end Go.Proofs.YthfpfomifebpbaaGreat
