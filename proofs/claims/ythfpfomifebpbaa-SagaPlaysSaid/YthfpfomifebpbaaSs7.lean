/-
  saga: Same, Over.
  saga: what lives looks at, by reckoning.
  saga: lives.
  saga: the document's sameInts and Same.
  saga: the law SagaSame.
  from a law's walk to its row: the call returns true, and nothing that was there has turned.
  arguments opened: a slice of structs, whatever the number of their one-cell fields; a slice of items.
  arguments opened: a slice of anything that can be read.
  arguments opened: sagas, events, slices of ints.
  the row SagaSame.
-/
import Derived.Test.YthfpfomifebpbaaSs6
import Derived.Test.YthfpfomifebpbaaSs4
import Derived.Test.YthfpfomifebpbaaSs1
import Derived.ProofKit
import Derived.OpenShut
import Derived.JoinedCond
import Derived.Deep.CondSized
import Derived.SizedLaws
import Derived.Deep.Slices
import Derived.Deep.Fields
import Derived.ChangeSame

set_option linter.unusedVariables false
set_option linter.unusedSimpArgs false
namespace Go.Proofs.Ythfpfomifebpbaa
open Go.RowKit Go.Maps
namespace Sa
open It
set_option linter.unusedSimpArgs false

def sameP (a b : Saga) : Bool := decide (a.order = b.order) && decide (a.first = b.first) && decide (a.regions = b.regions) && (a.waits == b.waits) && decide (a.state = b.state)
def sameL (a b : Saga) : Bool := decide (a.want = b.want) && decide (a.pending = b.pending) && decide (a.got = b.got)
def sameQ (a b : Saga) : Bool := decide (a.asked = b.asked) && (a.cancelled == b.cancelled)
def sameS (a b : Saga) : Bool := sameP a b && sameL a b && sameQ a b
theorem sameS_iff {a b : Saga} : sameS a b = true ↔ a = b := by
  unfold sameS sameP sameL sameQ
  simp only [Bool.and_eq_true, decide_eq_true_eq, beq_iff_eq]
  constructor
  · rintro ⟨⟨⟨⟨⟨⟨h1, h2⟩, h3⟩, h4⟩, h5⟩, ⟨h6, h7⟩, h8⟩, h9, h10⟩
    cases a
    cases b
    simp_all
  · rintro rfl
    simp

theorem dec_int (x y : Int) : (decide (x = y) = true ∧ (x == y) = true) ∨ (decide (x = y) = false ∧ (x == y) = false) := by
  by_cases h : x = y
  · exact .inl ⟨decide_eq_true h, by rw [beq_iff_eq]; exact h⟩
  · exact .inr ⟨decide_eq_false h, by rw [beq_eq_false_iff_ne]; exact h⟩
theorem dec_bool (x y : Bool) : (decide (x = y) = true ∧ (x == y) = true) ∨ (decide (x = y) = false ∧ (x == y) = false) := by
  cases x <;> cases y <;> simp

theorem plain_cases (a b : Saga) :
    ((decide (a.order = b.order) = false ∧ (a.order == b.order) = false) ∧ sameP a b = false) ∨
    ((decide (a.order = b.order) = true ∧ (a.order == b.order) = true) ∧ (decide (a.first = b.first) = false ∧ (a.first == b.first) = false) ∧ sameP a b = false) ∨
    ((decide (a.order = b.order) = true ∧ (a.order == b.order) = true) ∧ (decide (a.first = b.first) = true ∧ (a.first == b.first) = true) ∧ (decide (a.regions = b.regions) = false ∧ (a.regions == b.regions) = false) ∧ sameP a b = false) ∨
    ((decide (a.order = b.order) = true ∧ (a.order == b.order) = true) ∧ (decide (a.first = b.first) = true ∧ (a.first == b.first) = true) ∧ (decide (a.regions = b.regions) = true ∧ (a.regions == b.regions) = true) ∧ (decide (a.waits = b.waits) = false ∧ (a.waits == b.waits) = false) ∧ sameP a b = false) ∨
    ((decide (a.order = b.order) = true ∧ (a.order == b.order) = true) ∧ (decide (a.first = b.first) = true ∧ (a.first == b.first) = true) ∧ (decide (a.regions = b.regions) = true ∧ (a.regions == b.regions) = true) ∧ (decide (a.waits = b.waits) = true ∧ (a.waits == b.waits) = true) ∧ (decide (a.state = b.state) = false ∧ (a.state == b.state) = false) ∧ sameP a b = false) ∨
    ((decide (a.order = b.order) = true ∧ (a.order == b.order) = true) ∧ (decide (a.first = b.first) = true ∧ (a.first == b.first) = true) ∧ (decide (a.regions = b.regions) = true ∧ (a.regions == b.regions) = true) ∧ (decide (a.waits = b.waits) = true ∧ (a.waits == b.waits) = true) ∧ (decide (a.state = b.state) = true ∧ (a.state == b.state) = true) ∧ sameP a b = true) := by
  rcases dec_int a.order b.order with h0 | h0
  rotate_left
  · exact .inl ⟨h0, by unfold sameP; simp only [h0.1, Bool.and_false, Bool.false_and, Bool.true_and]⟩
  rcases dec_int a.first b.first with h1 | h1
  rotate_left
  · exact .inr (.inl ⟨h0, h1, by unfold sameP; simp only [h0.1, h1.1, Bool.and_false, Bool.false_and, Bool.true_and]⟩)
  rcases dec_int a.regions b.regions with h2 | h2
  rotate_left
  · exact .inr (.inr (.inl ⟨h0, h1, h2, by unfold sameP; simp only [h0.1, h1.1, h2.1, Bool.and_false, Bool.false_and, Bool.true_and]⟩))
  rcases dec_bool a.waits b.waits with h3 | h3
  rotate_left
  · exact .inr (.inr (.inr (.inl ⟨h0, h1, h2, h3, by unfold sameP; simp only [h0.1, h1.1, h2.1, h3.2, Bool.and_false, Bool.false_and, Bool.true_and]⟩)))
  rcases dec_int a.state b.state with h4 | h4
  rotate_left
  · exact .inr (.inr (.inr (.inr (.inl ⟨h0, h1, h2, h3, h4, by unfold sameP; simp only [h0.1, h1.1, h2.1, h3.2, h4.1, Bool.and_false, Bool.false_and, Bool.true_and]⟩))))
  exact .inr (.inr (.inr (.inr (.inr ⟨h0, h1, h2, h3, h4, by unfold sameP; simp only [h0.1, h1.1, h2.1, h3.2, h4.1, Bool.and_true]⟩))))

set_option maxRecDepth 100000 in
set_option maxHeartbeats 8000000 in
theorem same_calls (a b : Saga) (vw vg vp uw ug up : Value) (w : World) (ha : Parts w 0 w.heap.size a vw vg vp) (hb : Parts w 0 w.heap.size b uw ug up) :
    Calls Try.prog 14 #[.agg (sagaC a vw vg vp), .agg (sagaC b uw ug up)] w fun e w' => e = .returned (.bool (sameS a b)) ∧ Below w.heap.size w w' := by
  have cW := Lib.hid (fun W (h : Below w.heap.size w W) => equali_calls a.want b.want vw uw W (ha.later h).want (hb.later h).want)
  have cN := Lib.hid (fun W (h : Below w.heap.size w W) => equaln_calls a.pending b.pending vp up W (ha.later h).pend (hb.later h).pend)
  have cG := Lib.hid (fun W (h : Below w.heap.size w W) => equalf_calls a.got b.got vg ug W (ha.later h).got (hb.later h).got)
  obtain ⟨A1, c1, rfl, -⟩ := ha.want.form
  obtain ⟨A2, c2, rfl, -⟩ := ha.got.form
  obtain ⟨A3, c3, rfl, -⟩ := ha.pend.form
  obtain ⟨B1, d1, rfl, -⟩ := hb.want.form
  obtain ⟨B2, d2, rfl, -⟩ := hb.got.form
  obtain ⟨B3, d3, rfl, -⟩ := hb.pend.form
  clear ha hb
  generalize hq1 : decide (a.want = b.want) = q1 at cW
  generalize hq2 : decide (a.pending = b.pending) = q2 at cN
  generalize hq3 : decide (a.got = b.got) = q3 at cG
  have HL := Lib.hid (show sameL a b = (q1 && q2 && q3) by unfold sameL; rw [hq1, hq2, hq3])
  clear hq1 hq2 hq3
  have HS := Lib.hid (show sameS a b = (sameP a b && sameL a b && sameQ a b) from rfl)
  have hal := ((Below.refl w.heap.size w).alloc (Nat.le_refl _) (.cells (sagaC a (.slice A1 a.want.length c1) (.slice A2 a.got.length c2) (.slice A3 a.pending.length c3)) 27))
  have hal2 := hal.alloc hal.size (.cells (sagaC b (.slice B1 b.want.length d1) (.slice B2 b.got.length d2) (.slice B3 b.pending.length d3)) 27)
  have hoA := (Ob.new w 27 (sagaC a (.slice A1 a.want.length c1) (.slice A2 a.got.length c2) (.slice A3 a.pending.length c3))).alloc (.cells (sagaC b (.slice B1 b.want.length d1) (.slice B2 b.got.length d2) (.slice B3 b.pending.length d3)) 27)
  have hoB := Ob.new (w.alloc (.cells (sagaC a (.slice A1 a.want.length c1) (.slice A2 a.got.length c2) (.slice A3 a.pending.length c3)) 27)) 27 (sagaC b (.slice B1 b.want.length d1) (.slice B2 b.got.length d2) (.slice B3 b.pending.length d3))
  rw [World.size_alloc] at hoB
  have HB := Lib.hid hal2
  clear hal hal2
  unfold sagaC at hoA hoB HB ⊢
  have HAB := Lib.hid (fun V (h : Below ((w.alloc (.cells #[.int .i64 a.order, .int .i64 a.first, .int .i64 a.regions, .slice A1 a.want.length c1, .bool a.waits, .int .i64 a.state, .int .i64 a.asked, .slice A2 a.got.length c2, .slice A3 a.pending.length c3, .bool a.cancelled] 27)).alloc (.cells #[.int .i64 b.order, .int .i64 b.first, .int .i64 b.regions, .slice B1 b.want.length d1, .bool b.waits, .int .i64 b.state, .int .i64 b.asked, .slice B2 b.got.length d2, .slice B3 b.pending.length d3, .bool b.cancelled] 27)).heap.size ((w.alloc (.cells #[.int .i64 a.order, .int .i64 a.first, .int .i64 a.regions, .slice A1 a.want.length c1, .bool a.waits, .int .i64 a.state, .int .i64 a.asked, .slice A2 a.got.length c2, .slice A3 a.pending.length c3, .bool a.cancelled] 27)).alloc (.cells #[.int .i64 b.order, .int .i64 b.first, .int .i64 b.regions, .slice B1 b.want.length d1, .bool b.waits, .int .i64 b.state, .int .i64 b.asked, .slice B2 b.got.length d2, .slice B3 b.pending.length d3, .bool b.cancelled] 27)) V) => And.intro (ob_ten (hoA.same h)) (ob_ten (hoB.same h)))
  clear hoA hoB
  rcases plain_cases a b with ⟨⟨s0, t0⟩, hpl⟩ | ⟨⟨s0, t0⟩, ⟨s1, t1⟩, hpl⟩ | ⟨⟨s0, t0⟩, ⟨s1, t1⟩, ⟨s2, t2⟩, hpl⟩ | ⟨⟨s0, t0⟩, ⟨s1, t1⟩, ⟨s2, t2⟩, ⟨s3, t3⟩, hpl⟩ | ⟨⟨s0, t0⟩, ⟨s1, t1⟩, ⟨s2, t2⟩, ⟨s3, t3⟩, ⟨s4, t4⟩, hpl⟩ | ⟨⟨s0, t0⟩, ⟨s1, t1⟩, ⟨s2, t2⟩, ⟨s3, t3⟩, ⟨s4, t4⟩, hpl⟩
  · have HPL := Lib.hid hpl
    clear hpl
    cases q1 <;> cases q2 <;> cases q3 <;> (
      go_enter Try.func14, Try.ntmps14
      go_wp2_with (first
        | (go_at_call 31; refine (cW.out _ HB.out).mono ?_; rintro e W ⟨rfl, hb1⟩; obtain ⟨⟨a0, a1, a2, a3, a4, a5, a6, a7, a8, a9⟩, b0, b1, b2, b3, b4, b5, b6, b7, b8, b9⟩ := HAB.out W hb1; have HB1 := Lib.hid (HB.out.trans (hb1.mono HB.out.size)); have HAB1 := Lib.hid (fun V (h : Below W.heap.size W V) => HAB.out V (hb1.trans (h.mono hb1.size))); clear hb1)
        | (go_at_call 32; refine (cN.out _ HB1.out).mono ?_; rintro e W2 ⟨rfl, hb1⟩; obtain ⟨⟨a0, a1, a2, a3, a4, a5, a6, a7, a8, a9⟩, b0, b1, b2, b3, b4, b5, b6, b7, b8, b9⟩ := HAB1.out W2 hb1; have HB1 := Lib.hid (HB1.out.trans (hb1.mono HB1.out.size)); have HAB2 := Lib.hid (fun V (h : Below W2.heap.size W2 V) => HAB1.out V (hb1.trans (h.mono hb1.size))); clear hb1)
        | (go_at_call 33; refine (cG.out _ HB1.out).mono ?_; rintro e W3 ⟨rfl, hb1⟩; obtain ⟨⟨a0, a1, a2, a3, a4, a5, a6, a7, a8, a9⟩, b0, b1, b2, b3, b4, b5, b6, b7, b8, b9⟩ := HAB2.out W3 hb1; have HB1 := Lib.hid (HB1.out.trans (hb1.mono HB1.out.size)); clear hb1))
      go_ret
      exact ⟨by rw [HS.out, HPL.out, HL.out]; rfl, HB1.out⟩)
  · have HPL := Lib.hid hpl
    clear hpl
    cases q1 <;> cases q2 <;> cases q3 <;> (
      go_enter Try.func14, Try.ntmps14
      go_wp2_with (first
        | (go_at_call 31; refine (cW.out _ HB.out).mono ?_; rintro e W ⟨rfl, hb1⟩; obtain ⟨⟨a0, a1, a2, a3, a4, a5, a6, a7, a8, a9⟩, b0, b1, b2, b3, b4, b5, b6, b7, b8, b9⟩ := HAB.out W hb1; have HB1 := Lib.hid (HB.out.trans (hb1.mono HB.out.size)); have HAB1 := Lib.hid (fun V (h : Below W.heap.size W V) => HAB.out V (hb1.trans (h.mono hb1.size))); clear hb1)
        | (go_at_call 32; refine (cN.out _ HB1.out).mono ?_; rintro e W2 ⟨rfl, hb1⟩; obtain ⟨⟨a0, a1, a2, a3, a4, a5, a6, a7, a8, a9⟩, b0, b1, b2, b3, b4, b5, b6, b7, b8, b9⟩ := HAB1.out W2 hb1; have HB1 := Lib.hid (HB1.out.trans (hb1.mono HB1.out.size)); have HAB2 := Lib.hid (fun V (h : Below W2.heap.size W2 V) => HAB1.out V (hb1.trans (h.mono hb1.size))); clear hb1)
        | (go_at_call 33; refine (cG.out _ HB1.out).mono ?_; rintro e W3 ⟨rfl, hb1⟩; obtain ⟨⟨a0, a1, a2, a3, a4, a5, a6, a7, a8, a9⟩, b0, b1, b2, b3, b4, b5, b6, b7, b8, b9⟩ := HAB2.out W3 hb1; have HB1 := Lib.hid (HB1.out.trans (hb1.mono HB1.out.size)); clear hb1))
      go_ret
      exact ⟨by rw [HS.out, HPL.out, HL.out]; rfl, HB1.out⟩)
  · have HPL := Lib.hid hpl
    clear hpl
    cases q1 <;> cases q2 <;> cases q3 <;> (
      go_enter Try.func14, Try.ntmps14
      go_wp2_with (first
        | (go_at_call 31; refine (cW.out _ HB.out).mono ?_; rintro e W ⟨rfl, hb1⟩; obtain ⟨⟨a0, a1, a2, a3, a4, a5, a6, a7, a8, a9⟩, b0, b1, b2, b3, b4, b5, b6, b7, b8, b9⟩ := HAB.out W hb1; have HB1 := Lib.hid (HB.out.trans (hb1.mono HB.out.size)); have HAB1 := Lib.hid (fun V (h : Below W.heap.size W V) => HAB.out V (hb1.trans (h.mono hb1.size))); clear hb1)
        | (go_at_call 32; refine (cN.out _ HB1.out).mono ?_; rintro e W2 ⟨rfl, hb1⟩; obtain ⟨⟨a0, a1, a2, a3, a4, a5, a6, a7, a8, a9⟩, b0, b1, b2, b3, b4, b5, b6, b7, b8, b9⟩ := HAB1.out W2 hb1; have HB1 := Lib.hid (HB1.out.trans (hb1.mono HB1.out.size)); have HAB2 := Lib.hid (fun V (h : Below W2.heap.size W2 V) => HAB1.out V (hb1.trans (h.mono hb1.size))); clear hb1)
        | (go_at_call 33; refine (cG.out _ HB1.out).mono ?_; rintro e W3 ⟨rfl, hb1⟩; obtain ⟨⟨a0, a1, a2, a3, a4, a5, a6, a7, a8, a9⟩, b0, b1, b2, b3, b4, b5, b6, b7, b8, b9⟩ := HAB2.out W3 hb1; have HB1 := Lib.hid (HB1.out.trans (hb1.mono HB1.out.size)); clear hb1))
      go_ret
      exact ⟨by rw [HS.out, HPL.out, HL.out]; rfl, HB1.out⟩)
  · have HPL := Lib.hid hpl
    clear hpl
    cases q1 <;> cases q2 <;> cases q3 <;> (
      go_enter Try.func14, Try.ntmps14
      go_wp2_with (first
        | (go_at_call 31; refine (cW.out _ HB.out).mono ?_; rintro e W ⟨rfl, hb1⟩; obtain ⟨⟨a0, a1, a2, a3, a4, a5, a6, a7, a8, a9⟩, b0, b1, b2, b3, b4, b5, b6, b7, b8, b9⟩ := HAB.out W hb1; have HB1 := Lib.hid (HB.out.trans (hb1.mono HB.out.size)); have HAB1 := Lib.hid (fun V (h : Below W.heap.size W V) => HAB.out V (hb1.trans (h.mono hb1.size))); clear hb1)
        | (go_at_call 32; refine (cN.out _ HB1.out).mono ?_; rintro e W2 ⟨rfl, hb1⟩; obtain ⟨⟨a0, a1, a2, a3, a4, a5, a6, a7, a8, a9⟩, b0, b1, b2, b3, b4, b5, b6, b7, b8, b9⟩ := HAB1.out W2 hb1; have HB1 := Lib.hid (HB1.out.trans (hb1.mono HB1.out.size)); have HAB2 := Lib.hid (fun V (h : Below W2.heap.size W2 V) => HAB1.out V (hb1.trans (h.mono hb1.size))); clear hb1)
        | (go_at_call 33; refine (cG.out _ HB1.out).mono ?_; rintro e W3 ⟨rfl, hb1⟩; obtain ⟨⟨a0, a1, a2, a3, a4, a5, a6, a7, a8, a9⟩, b0, b1, b2, b3, b4, b5, b6, b7, b8, b9⟩ := HAB2.out W3 hb1; have HB1 := Lib.hid (HB1.out.trans (hb1.mono HB1.out.size)); clear hb1))
      go_ret
      exact ⟨by rw [HS.out, HPL.out, HL.out]; rfl, HB1.out⟩)
  · have HPL := Lib.hid hpl
    clear hpl
    cases q1 <;> cases q2 <;> cases q3 <;> (
      go_enter Try.func14, Try.ntmps14
      go_wp2_with (first
        | (go_at_call 31; refine (cW.out _ HB.out).mono ?_; rintro e W ⟨rfl, hb1⟩; obtain ⟨⟨a0, a1, a2, a3, a4, a5, a6, a7, a8, a9⟩, b0, b1, b2, b3, b4, b5, b6, b7, b8, b9⟩ := HAB.out W hb1; have HB1 := Lib.hid (HB.out.trans (hb1.mono HB.out.size)); have HAB1 := Lib.hid (fun V (h : Below W.heap.size W V) => HAB.out V (hb1.trans (h.mono hb1.size))); clear hb1)
        | (go_at_call 32; refine (cN.out _ HB1.out).mono ?_; rintro e W2 ⟨rfl, hb1⟩; obtain ⟨⟨a0, a1, a2, a3, a4, a5, a6, a7, a8, a9⟩, b0, b1, b2, b3, b4, b5, b6, b7, b8, b9⟩ := HAB1.out W2 hb1; have HB1 := Lib.hid (HB1.out.trans (hb1.mono HB1.out.size)); have HAB2 := Lib.hid (fun V (h : Below W2.heap.size W2 V) => HAB1.out V (hb1.trans (h.mono hb1.size))); clear hb1)
        | (go_at_call 33; refine (cG.out _ HB1.out).mono ?_; rintro e W3 ⟨rfl, hb1⟩; obtain ⟨⟨a0, a1, a2, a3, a4, a5, a6, a7, a8, a9⟩, b0, b1, b2, b3, b4, b5, b6, b7, b8, b9⟩ := HAB2.out W3 hb1; have HB1 := Lib.hid (HB1.out.trans (hb1.mono HB1.out.size)); clear hb1))
      go_ret
      exact ⟨by rw [HS.out, HPL.out, HL.out]; rfl, HB1.out⟩)
  · have HPL := Lib.hid hpl
    clear hpl
    cases q1 <;> cases q2 <;> cases q3
    rotate_right
    · rcases dec_int a.asked b.asked with ⟨s5, t5⟩ | ⟨s5, t5⟩
      · rcases dec_bool a.cancelled b.cancelled with ⟨s6, t6⟩ | ⟨s6, t6⟩ <;> (
          have HQ6 := Lib.hid t6
          go_enter Try.func14, Try.ntmps14
          go_wp2_with (first
            | (go_at_call 31; refine (cW.out _ HB.out).mono ?_; rintro e W ⟨rfl, hb1⟩; obtain ⟨⟨a0, a1, a2, a3, a4, a5, a6, a7, a8, a9⟩, b0, b1, b2, b3, b4, b5, b6, b7, b8, b9⟩ := HAB.out W hb1; have HB1 := Lib.hid (HB.out.trans (hb1.mono HB.out.size)); have HAB1 := Lib.hid (fun V (h : Below W.heap.size W V) => HAB.out V (hb1.trans (h.mono hb1.size))); clear hb1)
            | (go_at_call 32; refine (cN.out _ HB1.out).mono ?_; rintro e W2 ⟨rfl, hb1⟩; obtain ⟨⟨a0, a1, a2, a3, a4, a5, a6, a7, a8, a9⟩, b0, b1, b2, b3, b4, b5, b6, b7, b8, b9⟩ := HAB1.out W2 hb1; have HB1 := Lib.hid (HB1.out.trans (hb1.mono HB1.out.size)); have HAB2 := Lib.hid (fun V (h : Below W2.heap.size W2 V) => HAB1.out V (hb1.trans (h.mono hb1.size))); clear hb1)
            | (go_at_call 33; refine (cG.out _ HB1.out).mono ?_; rintro e W3 ⟨rfl, hb1⟩; obtain ⟨⟨a0, a1, a2, a3, a4, a5, a6, a7, a8, a9⟩, b0, b1, b2, b3, b4, b5, b6, b7, b8, b9⟩ := HAB2.out W3 hb1; have HB1 := Lib.hid (HB1.out.trans (hb1.mono HB1.out.size)); clear hb1))
          go_ret
          exact ⟨by rw [HS.out, HPL.out, HL.out]; unfold sameQ; rw [s5, HQ6.out]; rfl, HB1.out⟩)
      · go_enter Try.func14, Try.ntmps14
        go_wp2_with (first
          | (go_at_call 31; refine (cW.out _ HB.out).mono ?_; rintro e W ⟨rfl, hb1⟩; obtain ⟨⟨a0, a1, a2, a3, a4, a5, a6, a7, a8, a9⟩, b0, b1, b2, b3, b4, b5, b6, b7, b8, b9⟩ := HAB.out W hb1; have HB1 := Lib.hid (HB.out.trans (hb1.mono HB.out.size)); have HAB1 := Lib.hid (fun V (h : Below W.heap.size W V) => HAB.out V (hb1.trans (h.mono hb1.size))); clear hb1)
          | (go_at_call 32; refine (cN.out _ HB1.out).mono ?_; rintro e W2 ⟨rfl, hb1⟩; obtain ⟨⟨a0, a1, a2, a3, a4, a5, a6, a7, a8, a9⟩, b0, b1, b2, b3, b4, b5, b6, b7, b8, b9⟩ := HAB1.out W2 hb1; have HB1 := Lib.hid (HB1.out.trans (hb1.mono HB1.out.size)); have HAB2 := Lib.hid (fun V (h : Below W2.heap.size W2 V) => HAB1.out V (hb1.trans (h.mono hb1.size))); clear hb1)
          | (go_at_call 33; refine (cG.out _ HB1.out).mono ?_; rintro e W3 ⟨rfl, hb1⟩; obtain ⟨⟨a0, a1, a2, a3, a4, a5, a6, a7, a8, a9⟩, b0, b1, b2, b3, b4, b5, b6, b7, b8, b9⟩ := HAB2.out W3 hb1; have HB1 := Lib.hid (HB1.out.trans (hb1.mono HB1.out.size)); clear hb1))
        go_ret
        exact ⟨by rw [HS.out, HPL.out, HL.out]; unfold sameQ; rw [s5]; rfl, HB1.out⟩
    all_goals (
      go_enter Try.func14, Try.ntmps14
      go_wp2_with (first
        | (go_at_call 31; refine (cW.out _ HB.out).mono ?_; rintro e W ⟨rfl, hb1⟩; obtain ⟨⟨a0, a1, a2, a3, a4, a5, a6, a7, a8, a9⟩, b0, b1, b2, b3, b4, b5, b6, b7, b8, b9⟩ := HAB.out W hb1; have HB1 := Lib.hid (HB.out.trans (hb1.mono HB.out.size)); have HAB1 := Lib.hid (fun V (h : Below W.heap.size W V) => HAB.out V (hb1.trans (h.mono hb1.size))); clear hb1)
        | (go_at_call 32; refine (cN.out _ HB1.out).mono ?_; rintro e W2 ⟨rfl, hb1⟩; obtain ⟨⟨a0, a1, a2, a3, a4, a5, a6, a7, a8, a9⟩, b0, b1, b2, b3, b4, b5, b6, b7, b8, b9⟩ := HAB1.out W2 hb1; have HB1 := Lib.hid (HB1.out.trans (hb1.mono HB1.out.size)); have HAB2 := Lib.hid (fun V (h : Below W2.heap.size W2 V) => HAB1.out V (hb1.trans (h.mono hb1.size))); clear hb1)
        | (go_at_call 33; refine (cG.out _ HB1.out).mono ?_; rintro e W3 ⟨rfl, hb1⟩; obtain ⟨⟨a0, a1, a2, a3, a4, a5, a6, a7, a8, a9⟩, b0, b1, b2, b3, b4, b5, b6, b7, b8, b9⟩ := HAB2.out W3 hb1; have HB1 := Lib.hid (HB1.out.trans (hb1.mono HB1.out.size)); clear hb1))
      go_ret
      exact ⟨by rw [HS.out, HPL.out, HL.out]; rfl, HB1.out⟩)

theorem over_calls (st : Int) (w : World) : Calls Try.prog 15 #[.int .i64 st] w fun e w' => e = .returned (.bool (decide (st = 5 ∨ st = 6 ∨ st = 10))) ∧ w = w' := by
  rcases Decidable.em (st = 5) with rfl | h5
  · go_enter Try.func15, Try.ntmps15
    go_wp2
    go_ret
    exact ⟨by simp, rfl⟩
  rcases Decidable.em (st = 6) with rfl | h6
  · go_enter Try.func15, Try.ntmps15
    go_wp2
    go_ret
    exact ⟨by simp, rfl⟩
  rcases Decidable.em (st = 10) with rfl | h10
  · go_enter Try.func15, Try.ntmps15
    go_wp2
    go_ret
    exact ⟨by simp, rfl⟩
  have e5 : (st == 5) = false := by rw [beq_eq_false_iff_ne]; exact h5
  have e6 : (st == 6) = false := by rw [beq_eq_false_iff_ne]; exact h6
  have e10 : (st == 10) = false := by rw [beq_eq_false_iff_ne]; exact h10
  have d5 : decide (st = 5) = false := decide_eq_false h5
  have d6 : decide (st = 6) = false := decide_eq_false h6
  have d10 : decide (st = 10) = false := decide_eq_false h10
  have hd : decide (st = 5 ∨ st = 6 ∨ st = 10) = false := decide_eq_false (by omega)
  rw [hd]
  clear h5 h6 h10 hd
  go_enter Try.func15, Try.ntmps15
  go_wp2
  go_ret
  exact ⟨rfl, rfl⟩
end Sa
end Go.Proofs.Ythfpfomifebpbaa

namespace Go.Proofs.Ythfpfomifebpbaa
open Go.RowKit Go.Maps
namespace Sa
open It

def lv5 : List It.Item := [(sa, 5)]
def lv3 : List It.Item := [(sa, 3)]
def lv2 : List It.Item := [(sa, 2)]
def lvS : Saga := ⟨1, 0, 2, lv5, true, 1, 1, [[], []], [0], false⟩
def lvT : Saga := ⟨1, 0, 2, lv5, true, 1, 2, [lv3, []], [1], false⟩
def lvU : Saga := ⟨1, 0, 2, lv5, true, 2, 2, [lv3, lv2], [], false⟩
theorem lv_m1 : mayS lvS = true := by decide +kernel
theorem lv_m2 : mayS lvT = true := by decide +kernel
theorem lv_m3 : mayS lvU = true := by decide +kernel
theorem lv_b : beginS 1 0 2 lv5 true = .ok (lvS, [⟨3, 0, lv5, 0⟩]) := by kernel_rfl
theorem lv_1 : nextS lvS ⟨1, 0, lv3⟩ = .ok (lvT, [⟨3, 1, lv2, 0⟩]) := by kernel_rfl
theorem lv_2 : nextS lvT ⟨1, 1, lv2⟩ = .ok (lvU, [⟨100, 0, [], 2⟩]) := by kernel_rfl
theorem lv_3 : nextS lvU ⟨4, 0, []⟩ = .error 80 := by kernel_rfl
theorem lv_h : holders lvU.got = [0, 1] := by decide +kernel
theorem lv_s : sameS lvU lvU = true := sameS_iff.2 rfl
theorem fits5 {n : Int} (h0 : 0 ≤ n) (h1 : n ≤ 100) : Fits [(sa, n)] := by
  intro x hx
  simp only [List.mem_singleton] at hx
  subst hx
  exact ⟨show sa.size ≤ maxLen by decide +kernel, by show _ ≤ n; omega, by show n ≤ _; omega⟩
theorem fit_T : Fit lvT := ⟨fits5 (by omega) (by omega), fun l hl => by
  rcases List.mem_cons.1 hl with rfl | hl
  · exact fits5 (by omega) (by omega)
  · rcases List.mem_cons.1 hl with rfl | hl
    · intro x hx; simp at hx
    · simp at hl⟩
theorem fit_U : Fit lvU := ⟨fits5 (by omega) (by omega), fun l hl => by
  rcases List.mem_cons.1 hl with rfl | hl
  · exact fits5 (by omega) (by omega)
  · rcases List.mem_cons.1 hl with rfl | hl
    · exact fits5 (by omega) (by omega)
    · simp at hl⟩
theorem fit_S : Fit lvS := ⟨fits5 (by omega) (by omega), fun l hl => by
  rcases List.mem_cons.1 hl with rfl | hl
  · intro x hx; simp at hx
  · rcases List.mem_cons.1 hl with rfl | hl
    · intro x hx; simp at hx
    · simp at hl⟩
theorem item1 {W : World} {n : Int} : ItemsAt (W.alloc (.cells #[.string ⟨#[97]⟩, .int .i64 n] 41)) 0 (W.alloc (.cells #[.string ⟨#[97]⟩, .int .i64 n] 41)).heap.size (.slice (some ⟨W.heap.size, 0, none⟩) 1 1) [(sa, n)] := by
  have := Sl.new W #[.string ⟨#[97]⟩, .int .i64 n] 41 (size := 2) (n := 1) rfl (by unfold maxLen; omega)
  exact Sl.wide this (Nat.zero_le _) (by rw [World.size_alloc]; omega)
end Sa
end Go.Proofs.Ythfpfomifebpbaa

namespace Go.Proofs.Ythfpfomifebpbaa
open Go.RowKit Go.Maps
namespace Sa
open It
set_option linter.unusedSimpArgs false

set_option maxRecDepth 100000 in
set_option maxHeartbeats 8000000 in
theorem lives_calls (w : World) : Calls Try.prog 9 #[] w fun e w' => e = .returned (.bool true) ∧ Below w.heap.size w w' := by
  have hnn := neq_nil
  go_enter Try.func9, Try.ntmps9
  have hB := Below.refl w.heap.size w
  have hi := item1 (W := w) (n := 5)
  have hal := (Below.refl w.heap.size w).alloc (Nat.le_refl _) (.cells #[.string ⟨#[97]⟩, .int .i64 5] 41)
  have hB := hB.trans (hal.mono hB.size)
  have cc := Lib.hid (begin_calls 1 0 2 lv5 true _ _ hi (fits5 (by omega) (by omega)) (by decide))
  go_wp2_with fail
  refine cc.out.mono ?_
  rintro e w1 ⟨hr, hb⟩
  rw [lv_b] at hr
  have hB := hB.trans (hb.mono hB.size)
  obtain ⟨vw, vg, vp, vl, rfl, hP0, hS0⟩ := hr
  have hPS := hP0.wide (Nat.zero_le _) (Nat.le_refl _)
  have hSS := hS0.wide (Nat.zero_le _) (Nat.le_refl _)
  obtain ⟨AS1, cS1, rfl, -⟩ := hPS.want.form
  obtain ⟨AS2, cS2, rfl, -⟩ := hPS.got.form
  obtain ⟨AS3, cS3, rfl, -⟩ := hPS.pend.form
  obtain ⟨AS4, cS4, rfl, -⟩ := hSS.form
  obtain ⟨sdS, hsdS⟩ : ∃ sd, sd = sagaC lvS (.slice AS1 lvS.want.length cS1) (.slice AS2 lvS.got.length cS2) (.slice AS3 lvS.pending.length cS3) := ⟨_, rfl⟩
  clear hP0 hS0
  rw [← hsdS]
  have hzS : sdS.size = 10 := by rw [hsdS]; rfl
  have haS : sdS.all (·.oneCell') = true := by rw [hsdS]; simp [sagaC, Value.oneCell']
  have hoN := Ob.new w1 27 #[.int .i64 0, .int .i64 0, .int .i64 0, .slice none 0 0, .bool false, .int .i64 0, .int .i64 0, .slice none 0 0, .slice none 0 0, .bool false]
  have hal3 := (Below.refl w1.heap.size w1).alloc (Nat.le_refl _) (.cells #[.int .i64 0, .int .i64 0, .int .i64 0, .slice none 0 0, .bool false, .int .i64 0, .int .i64 0, .slice none 0 0, .slice none 0 0, .bool false] 27)
  have z3 : (w1.alloc (.cells #[.int .i64 0, .int .i64 0, .int .i64 0, .slice none 0 0, .bool false, .int .i64 0, .int .i64 0, .slice none 0 0, .slice none 0 0, .bool false] 27)).heap.size = w1.heap.size + 1 := World.size_alloc _ _
  have HSDS := Lib.hid hsdS
  clear cc hb hsdS hi hal
  go_wp2_with (first
    | (refine wpList_store_ob (cells := sdS) rfl 27 (.tmp 1) (.tmp 17) rfl rfl rfl hoN hzS (by rw [hzS]; kernel_rfl) haS ?_
       intro w2 hoS hg3
       have hb3 : Below w1.heap.size w1 w2 := hal3.grown hg3 (by omega) (fun g e => by have e2 : w1.heap.size = g := Option.some.inj e; omega)
       have hPS := hPS.later hb3
       have hSS := hSS.later hb3
       have hB := hB.trans (hb3.mono hB.size)
       have hi := item1 (W := w2) (n := 3)
       have hal := (Below.refl w2.heap.size w2).alloc (Nat.le_refl _) (.cells #[.string ⟨#[97]⟩, .int .i64 3] 41)
       have hB := hB.trans (hal.mono hB.size)
       have cc := Lib.hid (next_calls lvS _ _ _ ⟨1, 0, lv3⟩ _ _ (hPS.later hal) fit_S hi (fits5 (by omega) (by omega)))
       have hPSz := hPS.later hal
       have hSSz := hSS.later hal
       have hoSz := hoS.same hal
       clear hoN hal3 hg3 hb3 z3)
    | (refine wpList_load_obg (by rfl) _ _ rfl rfl _ hoS Try.underlying27 rfl (by rw [hzS]; kernel_rfl) ?_))
  rw [HSDS.out]
  refine cc.out.mono ?_
  rintro e w3 ⟨hr, hb⟩
  rw [lv_1] at hr
  have hPS := hPSz.later hb
  have hSS := hSSz.later hb
  have hoS := hoSz.same hb
  have hB := hB.trans (hb.mono hB.size)
  obtain ⟨vw, vg, vp, vl, rfl, hP0, hS0⟩ := hr
  have hPT := hP0.wide (Nat.zero_le _) (Nat.le_refl _)
  have hST := hS0.wide (Nat.zero_le _) (Nat.le_refl _)
  obtain ⟨AT1, cT1, rfl, -⟩ := hPT.want.form
  obtain ⟨AT2, cT2, rfl, -⟩ := hPT.got.form
  obtain ⟨AT3, cT3, rfl, -⟩ := hPT.pend.form
  obtain ⟨AT4, cT4, rfl, -⟩ := hST.form
  obtain ⟨sdT, hsdT⟩ : ∃ sd, sd = sagaC lvT (.slice AT1 lvT.want.length cT1) (.slice AT2 lvT.got.length cT2) (.slice AT3 lvT.pending.length cT3) := ⟨_, rfl⟩
  clear hP0 hS0
  rw [← hsdT]
  have hzT : sdT.size = 10 := by rw [hsdT]; rfl
  have haT : sdT.all (·.oneCell') = true := by rw [hsdT]; simp [sagaC, Value.oneCell']
  have hoN := Ob.new w3 27 #[.int .i64 0, .int .i64 0, .int .i64 0, .slice none 0 0, .bool false, .int .i64 0, .int .i64 0, .slice none 0 0, .slice none 0 0, .bool false]
  have hal3 := (Below.refl w3.heap.size w3).alloc (Nat.le_refl _) (.cells #[.int .i64 0, .int .i64 0, .int .i64 0, .slice none 0 0, .bool false, .int .i64 0, .int .i64 0, .slice none 0 0, .slice none 0 0, .bool false] 27)
  have z3 : (w3.alloc (.cells #[.int .i64 0, .int .i64 0, .int .i64 0, .slice none 0 0, .bool false, .int .i64 0, .int .i64 0, .slice none 0 0, .slice none 0 0, .bool false] 27)).heap.size = w3.heap.size + 1 := World.size_alloc _ _
  have HSDT := Lib.hid hsdT
  clear cc hb hsdT hi hal
  go_wp2_with (first
    | (refine wpList_store_ob (cells := sdT) rfl 27 (.tmp 4) (.tmp 26) rfl rfl rfl hoN hzT (by rw [hzT]; kernel_rfl) haT ?_
       intro w4 hoT hg3
       have hb3 : Below w3.heap.size w3 w4 := hal3.grown hg3 (by omega) (fun g e => by have e2 : w3.heap.size = g := Option.some.inj e; omega)
       have hPS := hPS.later hb3
       have hSS := hSS.later hb3
       have hoS := hoS.same hb3
       have hPT := hPT.later hb3
       have hST := hST.later hb3
       have hB := hB.trans (hb3.mono hB.size)
       have hi := item1 (W := w4) (n := 2)
       have hal := (Below.refl w4.heap.size w4).alloc (Nat.le_refl _) (.cells #[.string ⟨#[97]⟩, .int .i64 2] 41)
       have hB := hB.trans (hal.mono hB.size)
       have cc := Lib.hid (next_calls lvT _ _ _ ⟨1, 1, lv2⟩ _ _ (hPT.later hal) fit_T hi (fits5 (by omega) (by omega)))
       have hPSz := hPS.later hal
       have hSSz := hSS.later hal
       have hoSz := hoS.same hal
       have hPTz := hPT.later hal
       have hSTz := hST.later hal
       have hoTz := hoT.same hal
       clear hoN hal3 hg3 hb3 z3)
    | (refine wpList_load_obg (by rfl) _ _ rfl rfl _ hoT Try.underlying27 rfl (by rw [hzT]; kernel_rfl) ?_))
  rw [HSDT.out]
  refine cc.out.mono ?_
  rintro e w5 ⟨hr, hb⟩
  rw [lv_2] at hr
  have hPS := hPSz.later hb
  have hSS := hSSz.later hb
  have hoS := hoSz.same hb
  have hPT := hPTz.later hb
  have hST := hSTz.later hb
  have hoT := hoTz.same hb
  have hB := hB.trans (hb.mono hB.size)
  obtain ⟨vw, vg, vp, vl, rfl, hP0, hS0⟩ := hr
  have hPU := hP0.wide (Nat.zero_le _) (Nat.le_refl _)
  have hSU := hS0.wide (Nat.zero_le _) (Nat.le_refl _)
  obtain ⟨AU1, cU1, rfl, -⟩ := hPU.want.form
  obtain ⟨AU2, cU2, rfl, -⟩ := hPU.got.form
  obtain ⟨AU3, cU3, rfl, -⟩ := hPU.pend.form
  obtain ⟨AU4, cU4, rfl, -⟩ := hSU.form
  obtain ⟨sdU, hsdU⟩ : ∃ sd, sd = sagaC lvU (.slice AU1 lvU.want.length cU1) (.slice AU2 lvU.got.length cU2) (.slice AU3 lvU.pending.length cU3) := ⟨_, rfl⟩
  clear hP0 hS0
  rw [← hsdU]
  have hzU : sdU.size = 10 := by rw [hsdU]; rfl
  have haU : sdU.all (·.oneCell') = true := by rw [hsdU]; simp [sagaC, Value.oneCell']
  have hoN := Ob.new w5 27 #[.int .i64 0, .int .i64 0, .int .i64 0, .slice none 0 0, .bool false, .int .i64 0, .int .i64 0, .slice none 0 0, .slice none 0 0, .bool false]
  have hal3 := (Below.refl w5.heap.size w5).alloc (Nat.le_refl _) (.cells #[.int .i64 0, .int .i64 0, .int .i64 0, .slice none 0 0, .bool false, .int .i64 0, .int .i64 0, .slice none 0 0, .slice none 0 0, .bool false] 27)
  have z3 : (w5.alloc (.cells #[.int .i64 0, .int .i64 0, .int .i64 0, .slice none 0 0, .bool false, .int .i64 0, .int .i64 0, .slice none 0 0, .slice none 0 0, .bool false] 27)).heap.size = w5.heap.size + 1 := World.size_alloc _ _
  have HSDU := Lib.hid hsdU
  clear cc hb hsdU hi hal
  go_wp2_with (first
    | (refine wpList_store_ob (cells := sdU) rfl 27 (.tmp 7) (.tmp 35) rfl rfl rfl hoN hzU (by rw [hzU]; kernel_rfl) haU ?_
       intro w6 hoU hg3
       have hb3 : Below w5.heap.size w5 w6 := hal3.grown hg3 (by omega) (fun g e => by have e2 : w5.heap.size = g := Option.some.inj e; omega)
       have hPS := hPS.later hb3
       have hSS := hSS.later hb3
       have hoS := hoS.same hb3
       have hPT := hPT.later hb3
       have hST := hST.later hb3
       have hoT := hoT.same hb3
       have hPU := hPU.later hb3
       have hSU := hSU.later hb3
       have hB := hB.trans (hb3.mono hB.size)
       have cc := Lib.hid (next_calls lvU _ _ _ ⟨4, 0, []⟩ _ w6 hPU fit_U (ItemsAt.nil _ _ _) (fun x hx => by simp at hx))
       have hPSz := hPS
       have hSSz := hSS
       have hoSz := hoS
       have hPTz := hPT
       have hSTz := hST
       have hoTz := hoT
       have hPUz := hPU
       have hSUz := hSU
       have hoUz := hoU
       clear hoN hal3 hg3 hb3 z3)
    | (refine wpList_load_obg (by rfl) _ _ rfl rfl _ hoU Try.underlying27 rfl (by rw [hzU]; kernel_rfl) ?_))
  rw [HSDU.out]
  refine cc.out.mono ?_
  rintro e w7 ⟨hr, hb⟩
  rw [lv_3] at hr
  have hPS := hPSz.later hb
  have hSS := hSSz.later hb
  have hoS := hoSz.same hb
  have hPT := hPTz.later hb
  have hST := hSTz.later hb
  have hoT := hoTz.same hb
  have hPU := hPUz.later hb
  have hSU := hSUz.later hb
  have hoU := hoUz.same hb
  have hB := hB.trans (hb.mono hB.size)
  obtain rfl : e = .returned (.tuple #[.agg (sagaC saga0 nilS nilS nilS), nilS, .int .i64 80]) := hr
  obtain ⟨sdR, hsdR⟩ : ∃ sd, sd = sagaC saga0 nilS nilS nilS := ⟨_, rfl⟩
  unfold nilS at hsdR ⊢
  rw [← hsdR]
  have hzR : sdR.size = 10 := by rw [hsdR]; rfl
  have haR : sdR.all (·.oneCell') = true := by rw [hsdR]; simp [sagaC, Value.oneCell']
  have hoN := Ob.new w7 27 #[.int .i64 0, .int .i64 0, .int .i64 0, .slice none 0 0, .bool false, .int .i64 0, .int .i64 0, .slice none 0 0, .slice none 0 0, .bool false]
  have hal3 := (Below.refl w7.heap.size w7).alloc (Nat.le_refl _) (.cells #[.int .i64 0, .int .i64 0, .int .i64 0, .slice none 0 0, .bool false, .int .i64 0, .int .i64 0, .slice none 0 0, .slice none 0 0, .bool false] 27)
  have z3 : (w7.alloc (.cells #[.int .i64 0, .int .i64 0, .int .i64 0, .slice none 0 0, .bool false, .int .i64 0, .int .i64 0, .slice none 0 0, .slice none 0 0, .bool false] 27)).heap.size = w7.heap.size + 1 := World.size_alloc _ _
  have HSDR := Lib.hid hsdR
  clear cc hb hsdR 
  go_wp2_with (first
    | (refine wpList_store_ob (cells := sdR) rfl 27 (.tmp 10) (.tmp 42) rfl rfl rfl hoN hzR (by rw [hzR]; kernel_rfl) haR ?_
       intro w8 hoR hg3
       have hb3 : Below w7.heap.size w7 w8 := hal3.grown hg3 (by omega) (fun g e => by have e2 : w7.heap.size = g := Option.some.inj e; omega)
       have hPS := hPS.later hb3
       have hSS := hSS.later hb3
       have hoS := hoS.same hb3
       have hPT := hPT.later hb3
       have hST := hST.later hb3
       have hoT := hoT.same hb3
       have hPU := hPU.later hb3
       have hSU := hSU.later hb3
       have hoU := hoU.same hb3
       have hB := hB.trans (hb3.mono hB.size)
       obtain ⟨b5, o5, x5, rfl, -, -, m0, m1, -, -, -⟩ := hST.cellAt (j := 0) (by decide)
       obtain ⟨b8, o8, x8, rfl, -, -, -, -, -, n3, -⟩ := hSU.cellAt (j := 0) (by decide)
       have m0' : w8.cell? ⟨b5, o5, none⟩ = some (.int .i64 3) := by simpa using m0
       have m1' : w8.cell? ⟨b5, o5 + 1, none⟩ = some (.int .i64 1) := by simpa using m1
       have n3' : w8.cell? ⟨b8, o8 + 3, none⟩ = some (.int .i64 2) := by simpa using n3
       have u5 : w8.cell? ⟨w5.heap.size, 5, none⟩ = some (.int .i64 2) := by rw [HSDU.out] at hoU; exact hoU.cell rfl
       have cM := Lib.hid (sagamay_calls lvU _ _ _ w8 hPU fit_U)
       clear hoN hal3 hg3 hb3 z3 m0 m1 n3)
    | (refine wpList_load_obg (by rfl) _ _ rfl rfl _ hoU Try.underlying27 rfl (by rw [hzU]; kernel_rfl) ?_))
  rw [HSDU.out]
  refine cM.out.mono ?_
  rintro e w9 ⟨rfl, hb⟩
  rw [lv_m3]
  have hoU := hoU.same hb
  have hPU := hPU.later hb
  have hB := hB.trans (hb.mono hB.size)
  have cH := Lib.hid (holders_calls lvU _ _ _ w9 hPU (by decide))
  clear cM hb m0' m1' n3' u5
  go_wp2_with (refine wpList_load_obg (by rfl) _ _ rfl rfl _ hoU Try.underlying27 rfl (by rw [hzU]; kernel_rfl) ?_)
  rw [HSDU.out]
  refine cH.out.mono ?_
  rintro e w10 ⟨⟨vh, rfl, hvh⟩, hb⟩
  rw [lv_h] at hvh
  obtain ⟨Ah, ch, rfl, -⟩ := (IntsAt.of_own hvh).form
  have hoU := hoU.same hb
  have hPU := hPU.later hb
  have hB := hB.trans (hb.mono hB.size)
  have cO := Lib.hid (over_calls 6 w10)
  have cS := Lib.hid (same_calls lvU lvU _ _ _ _ _ _ w10 hPU hPU)
  rw [lv_s] at cS
  clear cH hb hvh
  go_wp2_with fail
  refine cO.out.mono ?_
  rintro e w11 ⟨rfl, rfl⟩
  go_wp2_with (refine wpList_load_obg (by rfl) _ _ rfl rfl _ hoU Try.underlying27 rfl (by rw [hzU]; kernel_rfl) ?_)
  rw [HSDU.out]
  refine cS.out.mono ?_
  rintro e w12 ⟨rfl, hb⟩
  have hB := hB.trans (hb.mono hB.size)
  go_wp2
  go_ret
  exact ⟨rfl, hB⟩
end Sa
end Go.Proofs.Ythfpfomifebpbaa

namespace Go.Proofs.Ythfpfomifebpbaa
open Go.RowKit Go.Maps
namespace Sa
open It
set_option linter.unusedSimpArgs false

set_option maxRecDepth 100000 in
set_option maxHeartbeats 2000000 in
theorem refints_calls (a b : List Int) (va vb : Value) (w : World) (ha : IntsAt w 0 w.heap.size va a) (hb : IntsAt w 0 w.heap.size vb b) :
    Calls Try.prog 30 #[va, vb] w fun e w' => e = .returned (.bool (decide (a = b))) ∧ Below w.heap.size w w' := by
  have hmx : Try.prog.follows .mixedOrders = true := by kernel_rfl
  have HA := Lib.hid ha
  have HB := Lib.hid hb
  obtain ⟨A, c, rfl, hc1, hc2, -⟩ := ha.form
  obtain ⟨A', c', rfl, hc1', hc2', -⟩ := hb.form
  unfold maxLen at hc2 hc2'
  clear ha hb
  by_cases hlen : a.length = b.length
  · have dl : decide ((a.length : Int) = b.length) = true := decide_eq_true (by omega)
    have hln2 : ((a.length : Int) != (b.length : Int)) = false := by simp; omega
    go_enter Try.func30, Try.ntmps30
    go_wp2
    go_loopw [5] (fun i wr => ∃ k : Nat, k ≤ a.length ∧ i = .int .i64 k ∧ (∀ j, j < k → a.getD j 0 = b.getD j 0) ∧ Below w.heap.size w wr) (fun i _ => a.length - (intOf i).toNat)
    case atStart => exact ⟨0, by omega, rfl, (fun j hj => by omega), Below.refl _ _⟩
    case round =>
      obtain ⟨k, hk, rfl, hN, hW⟩ := hrel
      have HN := Lib.hid hN
      clear hN
      by_cases hlt : k < a.length
      · have hd : decide ((k : Int) < a.length) = true := decide_eq_true (by omega)
        obtain ⟨p, o, rfl, _, hp, g1⟩ := (HA.out.mono hW (Nat.le_refl _)).cellAt hlt
        obtain ⟨p', o', rfl, _, hp', g2⟩ := (HB.out.mono hW (Nat.le_refl _)).cellAt (j := k) (by omega)
        have hno : a.getD k 0 ≠ b.getD k 0 → decide (a = b) = false := fun h => decide_eq_false fun e => h (by rw [e])
        have hye : a.getD k 0 = b.getD k 0 → ∀ j, j < k + 1 → a.getD j 0 = b.getD j 0 := fun h => allTo_snoc HN.out h
        generalize a.getD k 0 = x at g1 hno hye
        generalize b.getD k 0 = y at g2 hno hye
        have HNO := Lib.hid hno
        have HYE := Lib.hid hye
        clear hno hye
        have hs := hW.size
        go_wp2
        refine Pu.regionW (fun W' => Below wr.drew.heap.size wr.drew W') hmx (by kernel_rfl) (by kernel_rfl) (Below.refl _ _) rfl ?_
        iterate 9 (first
          | (refine Pu.Walk.off (by rfl) ?_; simp only [Act.put, List.setIfInBounds_toArray, List.set_cons_succ, List.set_cons_zero])
          | (apply Pu.Walk.on (by rfl)
             · intro W1 h1
               have g1a : W1.cell? ⟨p, o + k, none⟩ = some (.int .i64 x) := (Below.cell (p := ⟨p, o + k, none⟩) h1 (by show p < wr.heap.size; omega)).trans g1
               have g2a : W1.cell? ⟨p', o' + k, none⟩ = some (.int .i64 y) := (Below.cell (p := ⟨p', o' + k, none⟩) h1 (by show p' < wr.heap.size; omega)).trans g2
               go_wp2_with fail
               refine ⟨rfl, ?_, h1⟩
               try simp only [Act.put, List.setIfInBounds_toArray, List.set_cons_succ, List.set_cons_zero]
               rfl
             simp only [Act.put, List.setIfInBounds_toArray, List.set_cons_succ, List.set_cons_zero]))
        refine Pu.Walk.nil (fun W1 h1 => ?_)
        have hB1 : Below w.heap.size w W1 := (hW.trans ((Below.refl w.heap.size wr).drew)).trans (h1.mono hW.size)
        clear g1 g2
        by_cases hxy : x = y
        · subst hxy
          go_wp2
          go_roundw
          case rel => exact ⟨k + 1, by omega, by go_num, HYE.out rfl, hB1⟩
          case measure => simp [intOf]; omega
        · have dx : decide (x = y) = false := decide_eq_false hxy
          go_wp2
          go_ret
          exact ⟨by rw [HNO.out hxy]; rfl, hB1⟩
      · obtain rfl : k = a.length := by omega
        go_wp2
        go_ret
        exact ⟨by rw [decide_eq_true (eq_of_getD hlen HN.out)]; rfl, hW⟩
  · have dl : decide ((a.length : Int) = b.length) = false := decide_eq_false (by omega)
    rw [decide_eq_false (fun e : a = b => hlen (by rw [e]))]
    go_enter Try.func30, Try.ntmps30
    go_wp2
    go_ret
    exact ⟨rfl, Below.refl _ _⟩

theorem neq_cases (x y : Int) : (x = y ∧ decide (x = y) = true ∧ (x == y) = true ∧ (x != y) = false) ∨ (x ≠ y ∧ decide (x = y) = false ∧ (x == y) = false ∧ (x != y) = true) := by
  by_cases h : x = y
  · exact .inl ⟨h, decide_eq_true h, by rw [beq_iff_eq]; exact h, by simp [h]⟩
  · exact .inr ⟨h, decide_eq_false h, by rw [beq_eq_false_iff_ne]; exact h, by simp [h]⟩
theorem neqb_cases (x y : Bool) : (x = y ∧ decide (x = y) = true ∧ (x == y) = true ∧ (x != y) = false) ∨ (x ≠ y ∧ decide (x = y) = false ∧ (x == y) = false ∧ (x != y) = true) := by
  cases x <;> cases y <;> simp
theorem same_no {a b : Saga} (h : a ≠ b) : sameS a b = false := by
  rw [Bool.eq_false_iff]
  exact fun e => h (sameS_iff.1 e)

set_option maxRecDepth 100000 in
set_option maxHeartbeats 8000000 in
theorem refsame15_calls (a b : Saga) (vw vg vp uw ug up : Value) (w : World) (ha : Parts w 0 w.heap.size a vw vg vp) (hb : Parts w 0 w.heap.size b uw ug up) :
    Calls Try.prog 12 #[.agg (sagaC a vw vg vp), .agg (sagaC b uw ug up)] w fun e w' => e = .returned (.bool (sameS a b)) ∧ Below w.heap.size w w' := by
  have hmx : Try.prog.follows .mixedOrders = true := by kernel_rfl
  have cW := Lib.hid (fun W (h : Below w.heap.size w W) => refsame_calls a.want b.want vw uw W (ha.later h).want (hb.later h).want)
  have cN := Lib.hid (fun W (h : Below w.heap.size w W) => refints_calls a.pending b.pending vp up W (ha.later h).pend (hb.later h).pend)
  have HGA := Lib.hid ha.got
  have HGB := Lib.hid hb.got
  obtain ⟨A1, c1, rfl, -⟩ := ha.want.form
  obtain ⟨A2, c2, rfl, ha1, ha2⟩ := ha.got.form
  obtain ⟨A3, c3, rfl, -⟩ := ha.pend.form
  obtain ⟨B1, d1, rfl, -⟩ := hb.want.form
  obtain ⟨B2, d2, rfl, hb1, hb2⟩ := hb.got.form
  obtain ⟨B3, d3, rfl, -⟩ := hb.pend.form
  unfold maxLen at ha2 hb2
  clear ha hb
  have hal := ((Below.refl w.heap.size w).alloc (Nat.le_refl _) (.cells (sagaC a (.slice A1 a.want.length c1) (.slice A2 a.got.length c2) (.slice A3 a.pending.length c3)) 27))
  have hal2 := hal.alloc hal.size (.cells (sagaC b (.slice B1 b.want.length d1) (.slice B2 b.got.length d2) (.slice B3 b.pending.length d3)) 27)
  have hoA := (Ob.new w 27 (sagaC a (.slice A1 a.want.length c1) (.slice A2 a.got.length c2) (.slice A3 a.pending.length c3))).alloc (.cells (sagaC b (.slice B1 b.want.length d1) (.slice B2 b.got.length d2) (.slice B3 b.pending.length d3)) 27)
  have hoB := Ob.new (w.alloc (.cells (sagaC a (.slice A1 a.want.length c1) (.slice A2 a.got.length c2) (.slice A3 a.pending.length c3)) 27)) 27 (sagaC b (.slice B1 b.want.length d1) (.slice B2 b.got.length d2) (.slice B3 b.pending.length d3))
  rw [World.size_alloc] at hoB
  have HB := Lib.hid hal2
  clear hal hal2
  unfold sagaC at hoA hoB HB ⊢
  have HAB := Lib.hid (fun V (h : Below ((w.alloc (.cells #[.int .i64 a.order, .int .i64 a.first, .int .i64 a.regions, .slice A1 a.want.length c1, .bool a.waits, .int .i64 a.state, .int .i64 a.asked, .slice A2 a.got.length c2, .slice A3 a.pending.length c3, .bool a.cancelled] 27)).alloc (.cells #[.int .i64 b.order, .int .i64 b.first, .int .i64 b.regions, .slice B1 b.want.length d1, .bool b.waits, .int .i64 b.state, .int .i64 b.asked, .slice B2 b.got.length d2, .slice B3 b.pending.length d3, .bool b.cancelled] 27)).heap.size ((w.alloc (.cells #[.int .i64 a.order, .int .i64 a.first, .int .i64 a.regions, .slice A1 a.want.length c1, .bool a.waits, .int .i64 a.state, .int .i64 a.asked, .slice A2 a.got.length c2, .slice A3 a.pending.length c3, .bool a.cancelled] 27)).alloc (.cells #[.int .i64 b.order, .int .i64 b.first, .int .i64 b.regions, .slice B1 b.want.length d1, .bool b.waits, .int .i64 b.state, .int .i64 b.asked, .slice B2 b.got.length d2, .slice B3 b.pending.length d3, .bool b.cancelled] 27)) V) => And.intro (ob_ten (hoA.same h)) (ob_ten (hoB.same h)))
  have HOA := Lib.hid hoA
  have HOB := Lib.hid hoB
  clear hoA hoB
  rcases neq_cases a.order b.order with ⟨h0, x0, y0, z0⟩ | ⟨h0, x0, y0, z0⟩
  rotate_left
  · have HN := Lib.hid (show a ≠ b from fun e => h0 (by rw [e]))
    clear h0
    have HE := Lib.hid HB.out
    go_enter Try.func12, Try.ntmps12
    go_wp2_with (first
      | (go_at_call 21; refine (cW.out _ HB.out).mono ?_; rintro e W ⟨rfl, hb1⟩; obtain ⟨⟨a0, a1, a2, a3, a4, a5, a6, a7, a8, a9⟩, b0, b1, b2, b3, b4, b5, b6, b7, b8, b9⟩ := HAB.out W hb1; have HB1 := Lib.hid (HB.out.trans (hb1.mono HB.out.size)); have HAB1 := Lib.hid (fun V (h : Below W.heap.size W V) => HAB.out V (hb1.trans (h.mono hb1.size))); have HE := Lib.hid HB1.out; clear hb1)
      | (go_at_call 30; refine (cN.out _ HB1.out).mono ?_; rintro e W2 ⟨rfl, hb1⟩; obtain ⟨⟨a0, a1, a2, a3, a4, a5, a6, a7, a8, a9⟩, b0, b1, b2, b3, b4, b5, b6, b7, b8, b9⟩ := HAB1.out W2 hb1; have HE := Lib.hid (HB1.out.trans (hb1.mono HB1.out.size)); clear hb1))
    go_ret
    exact ⟨by rw [same_no HN.out]; rfl, HE.out⟩
  have H0 := Lib.hid h0
  clear h0
  rcases neq_cases a.first b.first with ⟨h1, x1, y1, z1⟩ | ⟨h1, x1, y1, z1⟩
  rotate_left
  · have HN := Lib.hid (show a ≠ b from fun e => h1 (by rw [e]))
    clear h1
    have HE := Lib.hid HB.out
    go_enter Try.func12, Try.ntmps12
    go_wp2_with (first
      | (go_at_call 21; refine (cW.out _ HB.out).mono ?_; rintro e W ⟨rfl, hb1⟩; obtain ⟨⟨a0, a1, a2, a3, a4, a5, a6, a7, a8, a9⟩, b0, b1, b2, b3, b4, b5, b6, b7, b8, b9⟩ := HAB.out W hb1; have HB1 := Lib.hid (HB.out.trans (hb1.mono HB.out.size)); have HAB1 := Lib.hid (fun V (h : Below W.heap.size W V) => HAB.out V (hb1.trans (h.mono hb1.size))); have HE := Lib.hid HB1.out; clear hb1)
      | (go_at_call 30; refine (cN.out _ HB1.out).mono ?_; rintro e W2 ⟨rfl, hb1⟩; obtain ⟨⟨a0, a1, a2, a3, a4, a5, a6, a7, a8, a9⟩, b0, b1, b2, b3, b4, b5, b6, b7, b8, b9⟩ := HAB1.out W2 hb1; have HE := Lib.hid (HB1.out.trans (hb1.mono HB1.out.size)); clear hb1))
    go_ret
    exact ⟨by rw [same_no HN.out]; rfl, HE.out⟩
  have H1 := Lib.hid h1
  clear h1
  rcases neq_cases a.regions b.regions with ⟨h2, x2, y2, z2⟩ | ⟨h2, x2, y2, z2⟩
  rotate_left
  · have HN := Lib.hid (show a ≠ b from fun e => h2 (by rw [e]))
    clear h2
    have HE := Lib.hid HB.out
    go_enter Try.func12, Try.ntmps12
    go_wp2_with (first
      | (go_at_call 21; refine (cW.out _ HB.out).mono ?_; rintro e W ⟨rfl, hb1⟩; obtain ⟨⟨a0, a1, a2, a3, a4, a5, a6, a7, a8, a9⟩, b0, b1, b2, b3, b4, b5, b6, b7, b8, b9⟩ := HAB.out W hb1; have HB1 := Lib.hid (HB.out.trans (hb1.mono HB.out.size)); have HAB1 := Lib.hid (fun V (h : Below W.heap.size W V) => HAB.out V (hb1.trans (h.mono hb1.size))); have HE := Lib.hid HB1.out; clear hb1)
      | (go_at_call 30; refine (cN.out _ HB1.out).mono ?_; rintro e W2 ⟨rfl, hb1⟩; obtain ⟨⟨a0, a1, a2, a3, a4, a5, a6, a7, a8, a9⟩, b0, b1, b2, b3, b4, b5, b6, b7, b8, b9⟩ := HAB1.out W2 hb1; have HE := Lib.hid (HB1.out.trans (hb1.mono HB1.out.size)); clear hb1))
    go_ret
    exact ⟨by rw [same_no HN.out]; rfl, HE.out⟩
  have H2 := Lib.hid h2
  clear h2
  by_cases h3 : a.want = b.want
  rotate_left
  · rw [decide_eq_false h3] at cW
    have HN := Lib.hid (show a ≠ b from fun e => h3 (by rw [e]))
    clear h3
    have HE := Lib.hid HB.out
    go_enter Try.func12, Try.ntmps12
    go_wp2_with (first
      | (go_at_call 21; refine (cW.out _ HB.out).mono ?_; rintro e W ⟨rfl, hb1⟩; obtain ⟨⟨a0, a1, a2, a3, a4, a5, a6, a7, a8, a9⟩, b0, b1, b2, b3, b4, b5, b6, b7, b8, b9⟩ := HAB.out W hb1; have HB1 := Lib.hid (HB.out.trans (hb1.mono HB.out.size)); have HAB1 := Lib.hid (fun V (h : Below W.heap.size W V) => HAB.out V (hb1.trans (h.mono hb1.size))); have HE := Lib.hid HB1.out; clear hb1)
      | (go_at_call 30; refine (cN.out _ HB1.out).mono ?_; rintro e W2 ⟨rfl, hb1⟩; obtain ⟨⟨a0, a1, a2, a3, a4, a5, a6, a7, a8, a9⟩, b0, b1, b2, b3, b4, b5, b6, b7, b8, b9⟩ := HAB1.out W2 hb1; have HE := Lib.hid (HB1.out.trans (hb1.mono HB1.out.size)); clear hb1))
    go_ret
    exact ⟨by rw [same_no HN.out]; rfl, HE.out⟩
  rw [decide_eq_true h3] at cW
  have H3 := Lib.hid h3
  clear h3
  rcases neqb_cases a.waits b.waits with ⟨h4, x4, y4, z4⟩ | ⟨h4, x4, y4, z4⟩
  rotate_left
  · have HN := Lib.hid (show a ≠ b from fun e => h4 (by rw [e]))
    clear h4
    have HE := Lib.hid HB.out
    go_enter Try.func12, Try.ntmps12
    go_wp2_with (first
      | (go_at_call 21; refine (cW.out _ HB.out).mono ?_; rintro e W ⟨rfl, hb1⟩; obtain ⟨⟨a0, a1, a2, a3, a4, a5, a6, a7, a8, a9⟩, b0, b1, b2, b3, b4, b5, b6, b7, b8, b9⟩ := HAB.out W hb1; have HB1 := Lib.hid (HB.out.trans (hb1.mono HB.out.size)); have HAB1 := Lib.hid (fun V (h : Below W.heap.size W V) => HAB.out V (hb1.trans (h.mono hb1.size))); have HE := Lib.hid HB1.out; clear hb1)
      | (go_at_call 30; refine (cN.out _ HB1.out).mono ?_; rintro e W2 ⟨rfl, hb1⟩; obtain ⟨⟨a0, a1, a2, a3, a4, a5, a6, a7, a8, a9⟩, b0, b1, b2, b3, b4, b5, b6, b7, b8, b9⟩ := HAB1.out W2 hb1; have HE := Lib.hid (HB1.out.trans (hb1.mono HB1.out.size)); clear hb1))
    go_ret
    exact ⟨by rw [same_no HN.out]; rfl, HE.out⟩
  have H4 := Lib.hid h4
  clear h4
  rcases neq_cases a.state b.state with ⟨h5, x5, y5, z5⟩ | ⟨h5, x5, y5, z5⟩
  rotate_left
  · have HN := Lib.hid (show a ≠ b from fun e => h5 (by rw [e]))
    clear h5
    have HE := Lib.hid HB.out
    go_enter Try.func12, Try.ntmps12
    go_wp2_with (first
      | (go_at_call 21; refine (cW.out _ HB.out).mono ?_; rintro e W ⟨rfl, hb1⟩; obtain ⟨⟨a0, a1, a2, a3, a4, a5, a6, a7, a8, a9⟩, b0, b1, b2, b3, b4, b5, b6, b7, b8, b9⟩ := HAB.out W hb1; have HB1 := Lib.hid (HB.out.trans (hb1.mono HB.out.size)); have HAB1 := Lib.hid (fun V (h : Below W.heap.size W V) => HAB.out V (hb1.trans (h.mono hb1.size))); have HE := Lib.hid HB1.out; clear hb1)
      | (go_at_call 30; refine (cN.out _ HB1.out).mono ?_; rintro e W2 ⟨rfl, hb1⟩; obtain ⟨⟨a0, a1, a2, a3, a4, a5, a6, a7, a8, a9⟩, b0, b1, b2, b3, b4, b5, b6, b7, b8, b9⟩ := HAB1.out W2 hb1; have HE := Lib.hid (HB1.out.trans (hb1.mono HB1.out.size)); clear hb1))
    go_ret
    exact ⟨by rw [same_no HN.out]; rfl, HE.out⟩
  have H5 := Lib.hid h5
  clear h5
  rcases neq_cases a.asked b.asked with ⟨h6, x6, y6, z6⟩ | ⟨h6, x6, y6, z6⟩
  rotate_left
  · have HN := Lib.hid (show a ≠ b from fun e => h6 (by rw [e]))
    clear h6
    have HE := Lib.hid HB.out
    go_enter Try.func12, Try.ntmps12
    go_wp2_with (first
      | (go_at_call 21; refine (cW.out _ HB.out).mono ?_; rintro e W ⟨rfl, hb1⟩; obtain ⟨⟨a0, a1, a2, a3, a4, a5, a6, a7, a8, a9⟩, b0, b1, b2, b3, b4, b5, b6, b7, b8, b9⟩ := HAB.out W hb1; have HB1 := Lib.hid (HB.out.trans (hb1.mono HB.out.size)); have HAB1 := Lib.hid (fun V (h : Below W.heap.size W V) => HAB.out V (hb1.trans (h.mono hb1.size))); have HE := Lib.hid HB1.out; clear hb1)
      | (go_at_call 30; refine (cN.out _ HB1.out).mono ?_; rintro e W2 ⟨rfl, hb1⟩; obtain ⟨⟨a0, a1, a2, a3, a4, a5, a6, a7, a8, a9⟩, b0, b1, b2, b3, b4, b5, b6, b7, b8, b9⟩ := HAB1.out W2 hb1; have HE := Lib.hid (HB1.out.trans (hb1.mono HB1.out.size)); clear hb1))
    go_ret
    exact ⟨by rw [same_no HN.out]; rfl, HE.out⟩
  have H6 := Lib.hid h6
  clear h6
  rcases neq_cases (a.got.length : Int) b.got.length with ⟨h7, x7, y7, z7⟩ | ⟨h7, x7, y7, z7⟩
  rotate_left
  · have HN := Lib.hid (show a ≠ b from fun e => h7 (by rw [e]))
    clear h7
    have HE := Lib.hid HB.out
    go_enter Try.func12, Try.ntmps12
    go_wp2_with (first
      | (go_at_call 21; refine (cW.out _ HB.out).mono ?_; rintro e W ⟨rfl, hb1⟩; obtain ⟨⟨a0, a1, a2, a3, a4, a5, a6, a7, a8, a9⟩, b0, b1, b2, b3, b4, b5, b6, b7, b8, b9⟩ := HAB.out W hb1; have HB1 := Lib.hid (HB.out.trans (hb1.mono HB.out.size)); have HAB1 := Lib.hid (fun V (h : Below W.heap.size W V) => HAB.out V (hb1.trans (h.mono hb1.size))); have HE := Lib.hid HB1.out; clear hb1)
      | (go_at_call 30; refine (cN.out _ HB1.out).mono ?_; rintro e W2 ⟨rfl, hb1⟩; obtain ⟨⟨a0, a1, a2, a3, a4, a5, a6, a7, a8, a9⟩, b0, b1, b2, b3, b4, b5, b6, b7, b8, b9⟩ := HAB1.out W2 hb1; have HE := Lib.hid (HB1.out.trans (hb1.mono HB1.out.size)); clear hb1))
    go_ret
    exact ⟨by rw [same_no HN.out]; rfl, HE.out⟩
  have H7 := Lib.hid h7
  clear h7
  by_cases h8 : a.pending = b.pending
  rotate_left
  · rw [decide_eq_false h8] at cN
    have HN := Lib.hid (show a ≠ b from fun e => h8 (by rw [e]))
    clear h8
    have HE := Lib.hid HB.out
    go_enter Try.func12, Try.ntmps12
    go_wp2_with (first
      | (go_at_call 21; refine (cW.out _ HB.out).mono ?_; rintro e W ⟨rfl, hb1⟩; obtain ⟨⟨a0, a1, a2, a3, a4, a5, a6, a7, a8, a9⟩, b0, b1, b2, b3, b4, b5, b6, b7, b8, b9⟩ := HAB.out W hb1; have HB1 := Lib.hid (HB.out.trans (hb1.mono HB.out.size)); have HAB1 := Lib.hid (fun V (h : Below W.heap.size W V) => HAB.out V (hb1.trans (h.mono hb1.size))); have HE := Lib.hid HB1.out; clear hb1)
      | (go_at_call 30; refine (cN.out _ HB1.out).mono ?_; rintro e W2 ⟨rfl, hb1⟩; obtain ⟨⟨a0, a1, a2, a3, a4, a5, a6, a7, a8, a9⟩, b0, b1, b2, b3, b4, b5, b6, b7, b8, b9⟩ := HAB1.out W2 hb1; have HE := Lib.hid (HB1.out.trans (hb1.mono HB1.out.size)); clear hb1))
    go_ret
    exact ⟨by rw [same_no HN.out]; rfl, HE.out⟩
  rw [decide_eq_true h8] at cN
  have H8 := Lib.hid h8
  clear h8
  rcases neqb_cases a.cancelled b.cancelled with ⟨h9, x9, y9, z9⟩ | ⟨h9, x9, y9, z9⟩
  rotate_left
  · have HN := Lib.hid (show a ≠ b from fun e => h9 (by rw [e]))
    clear h9
    have HE := Lib.hid HB.out
    go_enter Try.func12, Try.ntmps12
    go_wp2_with (first
      | (go_at_call 21; refine (cW.out _ HB.out).mono ?_; rintro e W ⟨rfl, hb1⟩; obtain ⟨⟨a0, a1, a2, a3, a4, a5, a6, a7, a8, a9⟩, b0, b1, b2, b3, b4, b5, b6, b7, b8, b9⟩ := HAB.out W hb1; have HB1 := Lib.hid (HB.out.trans (hb1.mono HB.out.size)); have HAB1 := Lib.hid (fun V (h : Below W.heap.size W V) => HAB.out V (hb1.trans (h.mono hb1.size))); have HE := Lib.hid HB1.out; clear hb1)
      | (go_at_call 30; refine (cN.out _ HB1.out).mono ?_; rintro e W2 ⟨rfl, hb1⟩; obtain ⟨⟨a0, a1, a2, a3, a4, a5, a6, a7, a8, a9⟩, b0, b1, b2, b3, b4, b5, b6, b7, b8, b9⟩ := HAB1.out W2 hb1; have HE := Lib.hid (HB1.out.trans (hb1.mono HB1.out.size)); clear hb1))
    go_ret
    exact ⟨by rw [same_no HN.out]; rfl, HE.out⟩
  have H9 := Lib.hid h9
  clear h9
  go_enter Try.func12, Try.ntmps12
  go_wp2_with (first
    | (go_at_call 21; refine (cW.out _ HB.out).mono ?_; rintro e W ⟨rfl, hb1⟩; obtain ⟨⟨a0, a1, a2, a3, a4, a5, a6, a7, a8, a9⟩, b0, b1, b2, b3, b4, b5, b6, b7, b8, b9⟩ := HAB.out W hb1; have HB1 := Lib.hid (HB.out.trans (hb1.mono HB.out.size)); have HAB1 := Lib.hid (fun V (h : Below W.heap.size W V) => HAB.out V (hb1.trans (h.mono hb1.size))); have HE := Lib.hid HB1.out; have HX1 := Lib.hid hb1; clear hb1)
    | (go_at_call 30; refine (cN.out _ HB1.out).mono ?_; rintro e W2 ⟨rfl, hb1⟩; obtain ⟨⟨a0, a1, a2, a3, a4, a5, a6, a7, a8, a9⟩, b0, b1, b2, b3, b4, b5, b6, b7, b8, b9⟩ := HAB1.out W2 hb1; have HE := Lib.hid (HB1.out.trans (hb1.mono HB1.out.size)); have HX2 := Lib.hid (HX1.out.trans (hb1.mono HX1.out.size)); clear hb1))
  clear HAB1 HB1 cW cN
  have hsW := HE.out.size
  have HGA2 := Lib.hid (HGA.out.mono HE.out hsW)
  have HGB2 := Lib.hid (HGB.out.mono HE.out hsW)
  have hol := HOB.out.lt
  go_loopw [5] (fun i wr => ∃ k : Nat, k ≤ a.got.length ∧ i = .int .i64 k ∧ (∀ j, j < k → a.got.getD j [] = b.got.getD j []) ∧ Below W2.heap.size W2 wr) (fun i _ => a.got.length - (intOf i).toNat)
  case atStart => exact ⟨0, by omega, rfl, (fun j hj => by omega), Below.refl _ _⟩
  case round =>
    obtain ⟨k, hk, rfl, hN, hW⟩ := hrel
    have HN := Lib.hid hN
    clear hN
    have hXW := HX2.out.trans (hW.mono HX2.out.size)
    obtain ⟨⟨a0, a1, a2, a3, a4, a5, a6, a7, a8, a9⟩, b0, b1, b2, b3, b4, b5, b6, b7, b8, b9⟩ := HAB.out wr hXW
    have hEW := HE.out.trans (hW.mono hsW)
    by_cases hlt : k < a.got.length
    · have hd : decide ((k : Int) < a.got.length) = true := decide_eq_true (by omega)
      have hltb : k < b.got.length := by have := H7.out; omega
      have hd' : decide ((k : Int) < b.got.length) = true := decide_eq_true (by omega)
      have hdr : Below wr.heap.size wr wr.drew := (Below.refl _ _).drew
      obtain ⟨p, o, x, rfl, _, hp, g1, hx⟩ := (HGA2.out.mono hW hW.size).cellAt hlt
      obtain ⟨p', o', y, rfl, _, hp', g2, hy⟩ := (HGB2.out.mono hW hW.size).cellAt hltb
      have hno : a.got.getD k [] ≠ b.got.getD k [] → sameS a b = false := fun h => same_no fun e => h (by rw [e])
      have hye : a.got.getD k [] = b.got.getD k [] → ∀ j, j < k + 1 → a.got.getD j [] = b.got.getD j [] := fun h => allTo_snoc HN.out h
      generalize a.got.getD k [] = la at hno hye hx
      generalize b.got.getD k [] = lb at hno hye hy
      have cE := Lib.hid (fun V (h : Below wr.drew.heap.size wr.drew V) => refsame_calls la lb x y V (hx.mono (hdr.trans h) (by have := h.size; have : wr.drew.heap.size = wr.heap.size := rfl; omega)) (hy.mono (hdr.trans h) (by have := h.size; have : wr.drew.heap.size = wr.heap.size := rfl; omega)))
      obtain ⟨A7, c7, rfl, -⟩ := hx.form
      obtain ⟨B7, d7, rfl, -⟩ := hy.form
      have HQ := Lib.hid (fun V (h : Below wr.drew.heap.size wr.drew V) => show _ ∧ _ ∧ V.cell? ⟨p, o + k, none⟩ = some (.slice A7 la.length c7) ∧ V.cell? ⟨p', o' + k, none⟩ = some (.slice B7 lb.length d7) from
        ⟨(HAB.out V ((hXW.drew).trans (h.mono hXW.size))).1, (HAB.out V ((hXW.drew).trans (h.mono hXW.size))).2, (Below.cell (p := ⟨p, o + k, none⟩) h hp).trans g1, (Below.cell (p := ⟨p', o' + k, none⟩) h hp').trans g2⟩)
      have HNO := Lib.hid hno
      have HYE := Lib.hid hye
      have hqq : la = lb ∨ ¬ la = lb := Decidable.em _
      have HQQ := Lib.hid hqq
      generalize hq : decide (la = lb) = q at cE
      have HDQ := Lib.hid hq
      clear hno hye hx hy hqq hq hXW g1 g2 a0 a1 a2 a3 a4 a5 a6 a8 a9 b0 b1 b2 b3 b4 b5 b6 b7 b8 b9
      go_wp2
      refine Pu.regionW (fun Wq => Below wr.drew.heap.size wr.drew Wq) hmx (by kernel_rfl) (by kernel_rfl) (Below.refl _ _) rfl ?_
      iterate 12 (first
        | (refine Pu.Walk.off (by rfl) ?_; simp only [Act.put, List.setIfInBounds_toArray, List.set_cons_succ, List.set_cons_zero])
        | (apply Pu.Walk.on (by rfl)
           · intro V1 h1
             obtain ⟨⟨a0, a1, a2, a3, a4, a5, a6, a7, a8, a9⟩, ⟨b0, b1, b2, b3, b4, b5, b6, b7, b8, b9⟩, e1, e2⟩ := HQ.out V1 h1
             go_wp2_with (go_at_call 21; refine (cE.out V1 h1).mono ?_; rintro e V2 ⟨rfl, hb⟩; replace h1 := h1.trans (hb.mono h1.size); clear hb)
             refine ⟨rfl, ?_, h1⟩
             try simp only [Act.put, List.setIfInBounds_toArray, List.set_cons_succ, List.set_cons_zero]
             rfl
           simp only [Act.put, List.setIfInBounds_toArray, List.set_cons_succ, List.set_cons_zero]))
      refine Pu.Walk.nil (fun V h1 => ?_)
      have hBV : Below W2.heap.size W2 V := (hW.drew).trans (h1.mono hW.size)
      cases q with
      | true =>
        go_wp2
        go_roundw
        case rel => exact ⟨k + 1, by omega, by go_num, HYE.out (of_decide_eq_true HDQ.out), hBV⟩
        case measure => simp [intOf]; omega
      | false =>
        go_wp2
        go_ret
        exact ⟨by rw [HNO.out (of_decide_eq_false HDQ.out)]; rfl, HE.out.trans (hBV.mono hsW)⟩
    · obtain rfl : k = a.got.length := by omega
      have hd : decide ((a.got.length : Int) < a.got.length) = false := decide_eq_false (by omega)
      have hs : sameS a b = true := sameS_iff.2 (by
        have hg := got_of_getD (by have := H7.out; omega) HN.out
        have e0 := H0.out
        have e1 := H1.out
        have e2 := H2.out
        have e3 := H3.out
        have e4 := H4.out
        have e5 := H5.out
        have e6 := H6.out
        have e8 := H8.out
        have e9 := H9.out
        cases a
        cases b
        simp_all)
      have HS := Lib.hid hs
      clear hs
      go_wp2
      go_ret
      exact ⟨by rw [HS.out]; rfl, hEW⟩
end Sa
end Go.Proofs.Ythfpfomifebpbaa

namespace Go.Proofs.Ythfpfomifebpbaa
open Go.RowKit Go.Maps
namespace Sa
open It
set_option linter.unusedSimpArgs false

set_option maxRecDepth 100000 in
set_option maxHeartbeats 4000000 in
theorem same_law (a b : Saga) (vw vg vp uw ug up : Value) (st : Int) (w : World) (ha : Parts w 0 w.heap.size a vw vg vp) (hb : Parts w 0 w.heap.size b uw ug up) :
    Calls Try.prog 4 #[.agg (sagaC a vw vg vp), .agg (sagaC b uw ug up), .int .i64 st] w fun e w' => e = .returned (.bool true) ∧ Below w.heap.size w w' := by
  have hmx : Try.prog.follows .mixedOrders = true := by kernel_rfl
  obtain ⟨A1, c1, rfl, -⟩ := ha.want.form
  obtain ⟨A2, c2, rfl, -⟩ := ha.got.form
  obtain ⟨A3, c3, rfl, -⟩ := ha.pend.form
  obtain ⟨B1, d1, rfl, -⟩ := hb.want.form
  obtain ⟨B2, d2, rfl, -⟩ := hb.got.form
  obtain ⟨B3, d3, rfl, -⟩ := hb.pend.form
  obtain ⟨sc, hsc⟩ : ∃ sc, sc = sagaC a (.slice A1 a.want.length c1) (.slice A2 a.got.length c2) (.slice A3 a.pending.length c3) := ⟨_, rfl⟩
  obtain ⟨sd, hsd⟩ : ∃ sd, sd = sagaC b (.slice B1 b.want.length d1) (.slice B2 b.got.length d2) (.slice B3 b.pending.length d3) := ⟨_, rfl⟩
  have cS := Lib.hid (fun W (h : Below w.heap.size w W) => same_calls a b _ _ _ _ _ _ W (ha.later h) (hb.later h))
  have cR := Lib.hid (fun W (h : Below w.heap.size w W) => refsame15_calls a b _ _ _ _ _ _ W (ha.later h) (hb.later h))
  have cA := Lib.hid (fun W (h : Below w.heap.size w W) => same_calls a a _ _ _ _ _ _ W (ha.later h) (ha.later h))
  rw [show sameS a a = true from sameS_iff.2 rfl] at cA
  rw [← hsc, ← hsd] at cS cR ⊢
  rw [← hsc] at cA
  have cL := Lib.hid (fun W => lives_calls W)
  have cO := Lib.hid (fun W => over_calls st W)
  have ha1 := (Below.refl w.heap.size w).alloc (Nat.le_refl _) (.cells sc 27)
  have ha2 := ha1.alloc ha1.size (.cells sd 27)
  have o1 := (Ob.new w 27 sc).alloc (.cells sd 27)
  have o2 := Ob.new (w.alloc (.cells sc 27)) 27 sd
  rw [World.size_alloc] at o2
  have hs1 : sc.size = 10 := by rw [hsc]; rfl
  have hs2 : sd.size = 10 := by rw [hsd]; rfl
  clear ha hb hsc hsd ha1
  generalize sameS a b = q at cS cR
  rcases neq_cases st 5 with ⟨h5, f5, e5, -⟩ | ⟨h5, f5, e5, -⟩
  · have HH := Lib.hid h5
    clear h5
    have hv : decide (st = 5 ∨ st = 6 ∨ st = 10) = true := decide_eq_true (.inl HH.out)
    rw [hv] at cO
    clear hv HH
    go_enter Try.func4, Try.ntmps4
    go_wp2
    generalize (w.alloc (.cells sc 27)).alloc (.cells sd 27) = W0 at *
    have hB0 := Lib.hid ha2.drew
    have o1 : Ob W0.drew _ 27 sc := o1
    have o2 : Ob W0.drew _ 27 sd := o2
    have hz := o2.lt
    refine Pu.regionW (fun Wq => Below W0.drew.heap.size W0.drew Wq) hmx (by kernel_rfl) (by kernel_rfl) (Below.refl _ _) rfl ?_
    cases q <;> (
      iterate 22 (first
        | (refine Pu.Walk.off (by rfl) ?_; simp only [Act.put, List.setIfInBounds_toArray, List.set_cons_succ, List.set_cons_zero])
        | (apply Pu.Walk.on (by rfl)
           · intro V1 h1
             go_wp2_with (first
               | (refine wpList_load_obg (by rfl) _ _ rfl rfl _ (o1.same h1) Try.underlying27 rfl (by rw [hs1]; kernel_rfl) ?_)
               | (refine wpList_load_obg (by rfl) _ _ rfl rfl _ (o2.same h1) Try.underlying27 rfl (by rw [hs2]; kernel_rfl) ?_)
               | (go_at_call 9; refine (cL.out V1).mono ?_; rintro e V2 ⟨rfl, hb⟩; replace h1 := h1.trans (hb.mono h1.size); clear hb)
               | (go_at_call 14; with_reducible refine (cS.out V1 (hB0.out.trans (h1.mono hB0.out.size))).mono ?_; rintro e V2 ⟨rfl, hb⟩; replace h1 := h1.trans (hb.mono h1.size); clear hb)
               | (go_at_call 14; with_reducible refine (cA.out V1 (hB0.out.trans (h1.mono hB0.out.size))).mono ?_; rintro e V2 ⟨rfl, hb⟩; replace h1 := h1.trans (hb.mono h1.size); clear hb)
               | (go_at_call 12; refine (cR.out V1 (hB0.out.trans (h1.mono hB0.out.size))).mono ?_; rintro e V2 ⟨rfl, hb⟩; replace h1 := h1.trans (hb.mono h1.size); clear hb)
               | (go_at_call 15; refine (cO.out V1).mono ?_; rintro e V2 ⟨rfl, rfl⟩))
             refine ⟨rfl, ?_, h1⟩
             try simp only [Act.put, List.setIfInBounds_toArray, List.set_cons_succ, List.set_cons_zero]
             rfl
           simp only [Act.put, List.setIfInBounds_toArray, List.set_cons_succ, List.set_cons_zero]))
      refine Pu.Walk.nil (fun V h1 => ?_)
      have hBV := hB0.out.trans (h1.mono hB0.out.size)
      go_wp2
      go_ret
      exact ⟨rfl, hBV⟩)
  rcases neq_cases st 6 with ⟨h6, f6, e6, -⟩ | ⟨h6, f6, e6, -⟩
  · have HH := Lib.hid h6
    clear h6 h5
    have hv : decide (st = 5 ∨ st = 6 ∨ st = 10) = true := decide_eq_true (.inr (.inl HH.out))
    rw [hv] at cO
    clear hv HH
    go_enter Try.func4, Try.ntmps4
    go_wp2
    generalize (w.alloc (.cells sc 27)).alloc (.cells sd 27) = W0 at *
    have hB0 := Lib.hid ha2.drew
    have o1 : Ob W0.drew _ 27 sc := o1
    have o2 : Ob W0.drew _ 27 sd := o2
    have hz := o2.lt
    refine Pu.regionW (fun Wq => Below W0.drew.heap.size W0.drew Wq) hmx (by kernel_rfl) (by kernel_rfl) (Below.refl _ _) rfl ?_
    cases q <;> (
      iterate 22 (first
        | (refine Pu.Walk.off (by rfl) ?_; simp only [Act.put, List.setIfInBounds_toArray, List.set_cons_succ, List.set_cons_zero])
        | (apply Pu.Walk.on (by rfl)
           · intro V1 h1
             go_wp2_with (first
               | (refine wpList_load_obg (by rfl) _ _ rfl rfl _ (o1.same h1) Try.underlying27 rfl (by rw [hs1]; kernel_rfl) ?_)
               | (refine wpList_load_obg (by rfl) _ _ rfl rfl _ (o2.same h1) Try.underlying27 rfl (by rw [hs2]; kernel_rfl) ?_)
               | (go_at_call 9; refine (cL.out V1).mono ?_; rintro e V2 ⟨rfl, hb⟩; replace h1 := h1.trans (hb.mono h1.size); clear hb)
               | (go_at_call 14; with_reducible refine (cS.out V1 (hB0.out.trans (h1.mono hB0.out.size))).mono ?_; rintro e V2 ⟨rfl, hb⟩; replace h1 := h1.trans (hb.mono h1.size); clear hb)
               | (go_at_call 14; with_reducible refine (cA.out V1 (hB0.out.trans (h1.mono hB0.out.size))).mono ?_; rintro e V2 ⟨rfl, hb⟩; replace h1 := h1.trans (hb.mono h1.size); clear hb)
               | (go_at_call 12; refine (cR.out V1 (hB0.out.trans (h1.mono hB0.out.size))).mono ?_; rintro e V2 ⟨rfl, hb⟩; replace h1 := h1.trans (hb.mono h1.size); clear hb)
               | (go_at_call 15; refine (cO.out V1).mono ?_; rintro e V2 ⟨rfl, rfl⟩))
             refine ⟨rfl, ?_, h1⟩
             try simp only [Act.put, List.setIfInBounds_toArray, List.set_cons_succ, List.set_cons_zero]
             rfl
           simp only [Act.put, List.setIfInBounds_toArray, List.set_cons_succ, List.set_cons_zero]))
      refine Pu.Walk.nil (fun V h1 => ?_)
      have hBV := hB0.out.trans (h1.mono hB0.out.size)
      go_wp2
      go_ret
      exact ⟨rfl, hBV⟩)
  rcases neq_cases st 10 with ⟨h10, f10, e10, -⟩ | ⟨h10, f10, e10, -⟩
  · have HH := Lib.hid h10
    clear h6 h5 h10
    have hv : decide (st = 5 ∨ st = 6 ∨ st = 10) = true := decide_eq_true (.inr (.inr HH.out))
    rw [hv] at cO
    clear hv HH
    go_enter Try.func4, Try.ntmps4
    go_wp2
    generalize (w.alloc (.cells sc 27)).alloc (.cells sd 27) = W0 at *
    have hB0 := Lib.hid ha2.drew
    have o1 : Ob W0.drew _ 27 sc := o1
    have o2 : Ob W0.drew _ 27 sd := o2
    have hz := o2.lt
    refine Pu.regionW (fun Wq => Below W0.drew.heap.size W0.drew Wq) hmx (by kernel_rfl) (by kernel_rfl) (Below.refl _ _) rfl ?_
    cases q <;> (
      iterate 22 (first
        | (refine Pu.Walk.off (by rfl) ?_; simp only [Act.put, List.setIfInBounds_toArray, List.set_cons_succ, List.set_cons_zero])
        | (apply Pu.Walk.on (by rfl)
           · intro V1 h1
             go_wp2_with (first
               | (refine wpList_load_obg (by rfl) _ _ rfl rfl _ (o1.same h1) Try.underlying27 rfl (by rw [hs1]; kernel_rfl) ?_)
               | (refine wpList_load_obg (by rfl) _ _ rfl rfl _ (o2.same h1) Try.underlying27 rfl (by rw [hs2]; kernel_rfl) ?_)
               | (go_at_call 9; refine (cL.out V1).mono ?_; rintro e V2 ⟨rfl, hb⟩; replace h1 := h1.trans (hb.mono h1.size); clear hb)
               | (go_at_call 14; with_reducible refine (cS.out V1 (hB0.out.trans (h1.mono hB0.out.size))).mono ?_; rintro e V2 ⟨rfl, hb⟩; replace h1 := h1.trans (hb.mono h1.size); clear hb)
               | (go_at_call 14; with_reducible refine (cA.out V1 (hB0.out.trans (h1.mono hB0.out.size))).mono ?_; rintro e V2 ⟨rfl, hb⟩; replace h1 := h1.trans (hb.mono h1.size); clear hb)
               | (go_at_call 12; refine (cR.out V1 (hB0.out.trans (h1.mono hB0.out.size))).mono ?_; rintro e V2 ⟨rfl, hb⟩; replace h1 := h1.trans (hb.mono h1.size); clear hb)
               | (go_at_call 15; refine (cO.out V1).mono ?_; rintro e V2 ⟨rfl, rfl⟩))
             refine ⟨rfl, ?_, h1⟩
             try simp only [Act.put, List.setIfInBounds_toArray, List.set_cons_succ, List.set_cons_zero]
             rfl
           simp only [Act.put, List.setIfInBounds_toArray, List.set_cons_succ, List.set_cons_zero]))
      refine Pu.Walk.nil (fun V h1 => ?_)
      have hBV := hB0.out.trans (h1.mono hB0.out.size)
      go_wp2
      go_ret
      exact ⟨rfl, hBV⟩)
  · have HH := Lib.hid (show ¬ (st = 5 ∨ st = 6 ∨ st = 10) from fun h => h.elim h5 (fun h => h.elim h6 h10))
    clear h6 h5 h10
    have hv : decide (st = 5 ∨ st = 6 ∨ st = 10) = false := decide_eq_false HH.out
    rw [hv] at cO
    clear hv HH
    go_enter Try.func4, Try.ntmps4
    go_wp2
    generalize (w.alloc (.cells sc 27)).alloc (.cells sd 27) = W0 at *
    have hB0 := Lib.hid ha2.drew
    have o1 : Ob W0.drew _ 27 sc := o1
    have o2 : Ob W0.drew _ 27 sd := o2
    have hz := o2.lt
    refine Pu.regionW (fun Wq => Below W0.drew.heap.size W0.drew Wq) hmx (by kernel_rfl) (by kernel_rfl) (Below.refl _ _) rfl ?_
    cases q <;> (
      iterate 22 (first
        | (refine Pu.Walk.off (by rfl) ?_; simp only [Act.put, List.setIfInBounds_toArray, List.set_cons_succ, List.set_cons_zero])
        | (apply Pu.Walk.on (by rfl)
           · intro V1 h1
             go_wp2_with (first
               | (refine wpList_load_obg (by rfl) _ _ rfl rfl _ (o1.same h1) Try.underlying27 rfl (by rw [hs1]; kernel_rfl) ?_)
               | (refine wpList_load_obg (by rfl) _ _ rfl rfl _ (o2.same h1) Try.underlying27 rfl (by rw [hs2]; kernel_rfl) ?_)
               | (go_at_call 9; refine (cL.out V1).mono ?_; rintro e V2 ⟨rfl, hb⟩; replace h1 := h1.trans (hb.mono h1.size); clear hb)
               | (go_at_call 14; with_reducible refine (cS.out V1 (hB0.out.trans (h1.mono hB0.out.size))).mono ?_; rintro e V2 ⟨rfl, hb⟩; replace h1 := h1.trans (hb.mono h1.size); clear hb)
               | (go_at_call 14; with_reducible refine (cA.out V1 (hB0.out.trans (h1.mono hB0.out.size))).mono ?_; rintro e V2 ⟨rfl, hb⟩; replace h1 := h1.trans (hb.mono h1.size); clear hb)
               | (go_at_call 12; refine (cR.out V1 (hB0.out.trans (h1.mono hB0.out.size))).mono ?_; rintro e V2 ⟨rfl, hb⟩; replace h1 := h1.trans (hb.mono h1.size); clear hb)
               | (go_at_call 15; refine (cO.out V1).mono ?_; rintro e V2 ⟨rfl, rfl⟩))
             refine ⟨rfl, ?_, h1⟩
             try simp only [Act.put, List.setIfInBounds_toArray, List.set_cons_succ, List.set_cons_zero]
             rfl
           simp only [Act.put, List.setIfInBounds_toArray, List.set_cons_succ, List.set_cons_zero]))
      refine Pu.Walk.nil (fun V h1 => ?_)
      have hBV := hB0.out.trans (h1.mono hB0.out.size)
      go_wp2
      go_ret
      exact ⟨rfl, hBV⟩)
end Sa
end Go.Proofs.Ythfpfomifebpbaa

namespace Go.Proofs.Ythfpfomifebpbaa
open Go.ChangeShapes Go.WideShapes Go.ChangeAt Go.RowKit

theorem own : ownKnob Try.prog.godebug = none := by kernel_rfl
theorem laidOut : laidOutB Try.prog = true := by kernel_rfl

section
variable {H : Type} {enc : TypeId × Value → H} {P : Program}
/-- all arguments read as they did -/
theorem trodAll_stays (hl : laidOutB P = true) {W W' : World} (hb : Below W.heap.size W W') {sp : Nat → Bool} :
    ∀ {ts : List TypeId} {vs : List Value} {ds : List (DataW H)} {ps : List MemPlace}, ts.all (fun t => P.readableRec t && decide (t < P.types.size)) = true →
      DataW.TrodAll enc P W 0 (fun _ => true) true ts vs ds ps → (∀ p ∈ ps, p.block < W.heap.size) → (∀ p ∈ ps, sp p.block = true) → DataW.TrodAll enc P W' 0 sp true ts vs ds ps
  | [], vs, ds, ps, _, h, _, _ => by
    obtain ⟨rfl, rfl, rfl⟩ := trodAll_nil h
    exact trodAll_mk0
  | t :: ts, vs, ds, ps, hr, h, hlt, hs => by
    obtain ⟨v, vs', d, ds', p, q, rfl, rfl, rfl, h1, h2⟩ := trodAll_cons h
    simp only [List.all_cons, Bool.and_eq_true, decide_eq_true_eq] at hr
    exact trodAll_cons_mk (WideElems.Trod_stays hl hr.1.1 hr.1.2 h1 (fun x hx => hb.same (hlt x (List.mem_append_left _ hx))) (fun x hx => hs x (List.mem_append_left _ hx)))
      (trodAll_stays hl hb (by simpa using hr.2) h2 (fun x hx => hlt x (List.mem_append_right _ hx)) (fun x hx => hs x (List.mem_append_right _ hx)))

theorem law_post {f : Func} {s : ChangeSpec} {W W' : World} {args : Array Value} {ds gs : List (DataW H)} {before : List MemPlace} {tb : TypeId} (hl : laidOutB P = true)
    (hpar : f.params.toList.all (fun t => P.readableRec t && decide (t < P.types.size)) = true) (hrt : f.resultTypes = #[tb]) (ht : P.underlying tb = some .bool) (hv : s.vars = [])
    (hW : DataW.Whole enc P f.params.toList s.vars false W args.toList ds gs before) (hfn : s.fn H (ds ++ gs) = { results := [.lit (.bool true)], args := ds }) (hb : Below W.heap.size W W') :
    s.post enc P f false true false false W args (.bool true) W' := by
  obtain ⟨p, q, hA, hV, hps, hz, hn⟩ := id hW
  have hlt : ∀ x ∈ before, x.block < W.heap.size := fun x hx => hW.lt x hx
  have hq : q = [] := by
    rw [hv] at hV
    cases gs with
    | nil => exact hV
    | cons g gs => exact hV.elim
  subst hq
  rw [List.append_nil] at hps
  subst hps
  have hargs : ∀ sp : Nat → Bool, (∀ x ∈ before, sp x.block = true) → DataW.TrodAll enc P W' 0 sp true f.params.toList args.toList (s.fn H (ds ++ gs)).args before := fun sp hs => by
    rw [hfn]
    exact trodAll_stays hl hb hpar hA hlt hs
  have hres : ∀ (b : Nat) (sp : Nat → Bool) (hd : Bool), DataW.TrodAll enc P W' b sp hd f.resultTypes.toList ((Value.bool true).resultList f.resultTypes.size) (s.fn H (ds ++ gs)).results [] := fun b sp hd => by
    rw [hfn, hrt]
    exact trodAll_mk1 (shut_bool ht true)
  have hvars : ∀ sp : Nat → Bool, DataW.TrodVars enc P W' sp s.vars (s.fn H (ds ++ gs)).vars [] := fun sp => by
    rw [hfn, hv]
    rfl
  refine ⟨ds, gs, before, [], before, [], hW, hres _ _ _, hargs _ (fun x hx => by simpa using hlt x hx), hvars _, World.keptBut_mono (fun x hx => ⟨hx, .inr (.inl hx)⟩) (hb.frame (· ∈ before)), fun _ => ?_⟩
  refine ⟨ok_one hrt rfl (okWide_bool_mk ht _), _, _, ([] ++ before) ++ [], ⟨[] ++ before, [], trodAll_append (hargs _ (fun _ _ => rfl)) (hres _ _ _), hvars _, rfl, ?_, ?_⟩, ?_⟩
  · intro b off hp
    have hin : MemPlace.cell b off ∈ before := by simpa using hp
    rw [hb.frozen (hlt _ hin)]
    exact hz b off hin
  · intro ha; cases ha
  · intro x hx _
    simpa using hx
end
end Go.Proofs.Ythfpfomifebpbaa

namespace Go.Proofs.Ythfpfomifebpbaa
open Go.ChangeShapes Go.WideShapes Go.Deep Go.RowKit Go.ChangeAt

section
variable {H : Type} {enc : TypeId × Value → H} {P : Program} {w : World} {base : Nat} {spare : Nat → Bool} {held : Bool}
theorem open_slice_fields {t e : TypeId} {fs : Array Field} {fuel : Nat} {cs : List Value} {x : DataW H × List MemPlace} (ht : P.underlying t = some (.slice e)) (he : P.underlying e = some (.struct fs))
    (hone : oneCellFields P fs = true) (hC : P.cellsOf e = fs.size) (h : DataW.trod enc P w base spare held fuel t cs = some x) :
    (cs = [.slice none 0 0] ∧ x = (.nil, [])) ∨
    ∃ (a : Addr) (len cap m : Nat) (D : Nat → DataW H) (Pl : Nat → List MemPlace), cs = [.slice (some a) len cap] ∧ base ≤ a.block ∧ len ≤ cap ∧ cap ≤ maxLen ∧ m = (if spare a.block then cap else len) ∧
      x = (.slice ((List.range len).map D) ((List.range (m - len)).map fun j => D (len + j)), MemPlace.row a (m * fs.size) ++ (List.range m).flatMap Pl) ∧
      ∀ i, i < m → ∃ (ys : List (DataW H × List MemPlace)) (n : Nat), D i = .agg (ys.map (·.1)) ∧ Pl i = ys.flatMap (·.2) ∧ ys.length = fs.size ∧
        ∀ (j : Nat) (f : Field), fs[j]? = some f → ∃ (v : Value) (y : DataW H × List MemPlace), w.cell? (a.add (i * fs.size + j)) = some v ∧ ys[j]? = some y ∧ DataW.trod enc P w base spare held n f.type [v] = some y := by
  rcases open_slice ht h with h0 | ⟨a, len, cap, m, n, D, Pl, hcs, hb, hl, hm, hmm, hx, hi⟩
  · exact .inl h0
  · refine .inr ⟨a, len, cap, m, D, Pl, hcs, hb, hl, hm, hmm, by rw [hC] at hx; exact hx, fun i him => ?_⟩
    obtain ⟨cs', hc, ht'⟩ := hi i him
    rw [hC] at hc
    obtain ⟨ys, n', hn', hy, hlen, hyl, hf⟩ := DataW.trod_struct he ht'
    obtain ⟨_, hcl, hat⟩ := World.cells?_some hc
    simp only [Prod.mk.injEq] at hy
    refine ⟨ys, n', hy.1, hy.2, hyl, fun j f hj => ?_⟩
    obtain ⟨ho, hk⟩ := hone_of hone j f hj
    have hjl : j < fs.size := (Array.getElem?_eq_some_iff.1 hj).1
    have hcell := hat j hjl
    have hv : cs'[j]? = some (cs'[j]'(by omega)) := List.getElem?_eq_getElem (by omega)
    have h1 := hf j f hj
    rw [ho, hk] at h1
    have hone' : (cs'.drop j).take 1 = [cs'[j]'(by omega)] := by
      rw [List.drop_eq_getElem_cons (by omega)]
      rfl
    rw [hone'] at h1
    have hys : ys[j]? = some (ys[j]'(by omega)) := List.getElem?_eq_getElem (by omega)
    refine ⟨_, _, ?_, hys, h1.trans hys⟩
    rw [← Go.Deep.add_add, hcell, hv]

theorem cell_addr {w : World} {a : Addr} {v : Value} (h : w.cell? a = some v) : a.spot = none ∧ a.block < w.heap.size := by
  unfold World.cell? at h
  split at h
  · rename_i c _ _ hc
    refine ⟨?_, (Array.getElem?_eq_some_iff.1 hc).1⟩
    cases hs : a.spot with
    | none => rfl
    | some x => rw [hs] at h; simp at h
  · cases h
theorem addr_add (b o j : Nat) : (⟨b, o, none⟩ : Addr).add j = ⟨b, o + j, none⟩ := by unfold Addr.add; split <;> simp_all

/-- a list out of its elements' readings -/
theorem list_of {α : Type} (n : Nat) (p : Nat → α → Prop) (h : ∀ i, i < n → ∃ x, p i x) : ∃ l : List α, l.length = n ∧ ∀ i (hi : i < l.length), p i l[i] := by
  induction n with
  | zero => exact ⟨[], rfl, fun i hi => by simp at hi⟩
  | succ n ih =>
    obtain ⟨l, hl, hp⟩ := ih fun i hi => h i (by omega)
    obtain ⟨x, hx⟩ := h n (by omega)
    refine ⟨l ++ [x], by simp [hl], fun i hi => ?_⟩
    simp only [List.length_append, List.length_cons, List.length_nil] at hi
    by_cases e : i < l.length
    · rw [List.getElem_append_left e]; exact hp i e
    · obtain rfl : i = l.length := by omega
      simpa [hl] using hx
end
namespace It
theorem ItemsAt.mk {w : World} {lo B b o n c : Nat} {L : List Item} (hn : L.length = n) (h1 : n ≤ c) (h2 : c ≤ maxLen) (hlo : lo ≤ b) (hB : b < B)
    (h : ∀ i (hi : i < L.length), w.cell? ⟨b, o + i * 2, none⟩ = some (.string L[i].1) ∧ w.cell? ⟨b, o + i * 2 + 1, none⟩ = some (.int .i64 L[i].2)) : ItemsAt w lo B (.slice (some ⟨b, o, none⟩) n c) L := by
  subst hn
  refine ⟨itemCells_length L, _, _, rfl, h1, h2, fun _ => ⟨b, o, rfl, hlo, hB, fun j hj => ?_⟩⟩
  have hd := Nat.div_add_mod j 2
  have hm := Nat.mod_lt j (show 0 < 2 by omega)
  have hq : j / 2 < L.length := by omega
  obtain ⟨g1, g2⟩ := itemCells_get L (j / 2) hq
  obtain ⟨c1, c2⟩ := h (j / 2) hq
  rcases Nat.lt_or_ge (j % 2) 1 with hr | hr
  · obtain e : j = j / 2 * 2 := by omega
    rw [e, g1, ← c1]
  · obtain e : j = j / 2 * 2 + 1 := by omega
    rw [e, g2, ← c2]
    congr 2

set_option maxRecDepth 100000 in
theorem items_of_trod {H : Type} {enc : TypeId × Value → H} {W : World} {v : Value} {x : DataW H × List MemPlace} {held : Bool} {fuel : Nat} (hf : DataW.trod enc Try.prog W 0 (fun _ => true) held fuel 22 [v] = some x) :
    ∃ L : List Item, ItemsAt W 0 W.heap.size v L ∧ Fits L ∧ ((x.1 = .nil ∧ L = []) ∨ ∃ es sp, x.1 = .slice es sp ∧ es.length = L.length) := by
  rcases open_slice_fields Try.underlying22 Try.underlying41 (by kernel_rfl) (by kernel_rfl) hf with ⟨h1, h2⟩ | ⟨a, n, c, m, D, Pl, hcs, hb, hl, hm, hmm, hx, hi⟩
  · simp only [List.cons.injEq, and_true] at h1
    cases h1
    exact ⟨[], ItemsAt.nil _ _ _, (fun x hx => by cases hx), .inl ⟨by rw [h2], rfl⟩⟩
  · simp only [List.cons.injEq, and_true] at hcs
    cases hcs
    simp only [if_true] at hmm
    subst hmm
    have hel : ∀ i, i < n → ∃ x : Item, W.cell? (a.add (i * 2)) = some (.string x.1) ∧ W.cell? (a.add (i * 2 + 1)) = some (.int .i64 x.2) ∧ x.1.size ≤ maxLen ∧ -9223372036854775808 ≤ x.2 ∧ x.2 ≤ 9223372036854775807 := by
      intro i hin
      obtain ⟨ys, n', _, _, _, hf⟩ := hi i (by omega)
      obtain ⟨v0, y0, c0, _, t0⟩ := hf 0 _ rfl
      obtain ⟨v1, y1, c1, _, t1⟩ := hf 1 _ rfl
      obtain ⟨s, e0, _, hs⟩ := DataW.trod_string Try.underlying9 t0
      obtain ⟨k, e1, _, hk⟩ := DataW.trod_int Try.underlying3 t1
      simp only [List.cons.injEq, and_true] at e0 e1
      subst e0 e1
      have hkb : -9223372036854775808 ≤ k ∧ k ≤ 9223372036854775807 := by simpa [Lit.wf, IntKind.min, IntKind.max, IntKind.signed, IntKind.bits] using hk
      exact ⟨(s, k), c0, c1, hs, hkb.1, hkb.2⟩
    obtain ⟨L, hLn, hL⟩ := list_of n _ hel
    have hfit : Fits L := fun x hx => by
      obtain ⟨i, hi, rfl⟩ := List.getElem_of_mem hx
      exact (hL i hi).2.2
    refine ⟨L, ?_, hfit, .inr ⟨_, _, by rw [hx], by simp [hLn]⟩⟩
    rcases Nat.eq_zero_or_pos n with h0 | h0
    · subst h0
      obtain rfl : L = [] := List.eq_nil_of_length_eq_zero hLn
      exact ⟨rfl, _, _, rfl, hl, hm, fun h => by omega⟩
    · have h1 := cell_addr (hL 0 (by omega)).1
      obtain ⟨b, o, sp⟩ := a
      have hsp : sp = none := by
        have := h1.1
        unfold Addr.add at this
        simpa using this
      subst hsp
      have hb : b < W.heap.size := by
        have := h1.2
        rw [addr_add] at this
        exact this
      refine ItemsAt.mk hLn hl hm (Nat.zero_le _) hb fun i hi => ?_
      have := hL i hi
      rw [addr_add, addr_add] at this
      exact ⟨this.1, by rw [← this.2.1]; congr 2⟩

set_option maxRecDepth 100000 in
/-- an argument that is a slice of items -/
theorem open_items {H : Type} {enc : TypeId × Value → H} {W : World} {base : Nat} {v : Value} {d : DataW H} {p : List MemPlace} {held : Bool} (hval : Value.okWide Try.prog W .any base 22 v)
    (h : DataW.Trod enc Try.prog W 0 (fun _ => true) held 22 v d p) :
    ∃ L : List Item, ItemsAt W 0 W.heap.size v L ∧ Fits L ∧ ((d = .nil ∧ L = []) ∨ ∃ es sp, d = .slice es sp ∧ es.length = L.length) := by
  obtain ⟨A, n, c, rfl⟩ := okWide_slice Try.underlying22 hval
  obtain ⟨fuel, hf⟩ := h
  exact items_of_trod hf
theorem items_bytes : Try.prog.bytesOf 41 = 24 := by kernel_rfl
theorem items_reach {H : Type} {ts : List TypeId} {ds : List (DataW H)} {j : Nat} {d : DataW H} {L : List Item} (h : (DataW.weightsEach Try.prog ts ds).all (· ≤ reachBytes) = true) (ht : ts[j]? = some 22) (hd : ds[j]? = some d)
    (hx : (d = .nil ∧ L = []) ∨ ∃ es sp, d = .slice es sp ∧ es.length = L.length) : L.length * 24 ≤ 140737488351232 := by
  rcases hx with ⟨_, rfl⟩ | ⟨es, sp, rfl, hl⟩
  · simp
  · have := sized_slice h ht hd Try.underlying22
    rw [items_bytes] at this
    unfold reachBytes at this
    have h2 : es.length * 24 ≤ (es.length + sp.length) * 24 := Nat.mul_le_mul_right _ (Nat.le_add_right _ _)
    omega
end It
end Go.Proofs.Ythfpfomifebpbaa

namespace Go.Proofs.Ythfpfomifebpbaa
open Go.ChangeShapes Go.WideShapes Go.Deep Go.RowKit Go.ChangeAt
section
variable {H : Type} {enc : TypeId × Value → H} {P : Program} {W : World} {held : Bool}
theorem slice_of_trod {t e : TypeId} {C fuel : Nat} {v : Value} {x : DataW H × List MemPlace} (ht : P.underlying t = some (.slice e)) (hC : P.cellsOf e = C) (hpos : 0 < C) (hf : DataW.trod enc P W 0 (fun _ => true) held fuel t [v] = some x) :
    ∃ (A : Option Addr) (n c : Nat), v = .slice A n c ∧ n ≤ c ∧ c ≤ maxLen ∧
      (∀ i, i < n → ∃ (b o : Nat) (cs : List Value) (y : DataW H × List MemPlace) (fuel' : Nat), A = some ⟨b, o, none⟩ ∧ b < W.heap.size ∧ cs.length = C ∧ (∀ j w, cs[j]? = some w → W.cell? ⟨b, o + i * C + j, none⟩ = some w) ∧ DataW.trod enc P W 0 (fun _ => true) held fuel' e cs = some y) ∧
      ((x.1 = .nil ∧ n = 0) ∨ ∃ es sp, x.1 = .slice es sp ∧ es.length = n) := by
  rcases open_slice ht hf with ⟨h1, h2⟩ | ⟨a, n, c, m, k, D, Pl, hcs, hb, hl, hm, hmm, hx, hi⟩
  · simp only [List.cons.injEq, and_true] at h1
    cases h1
    exact ⟨none, 0, 0, rfl, Nat.le_refl _, by unfold maxLen; omega, fun i hi => by omega, .inl ⟨by rw [h2], rfl⟩⟩
  · simp only [List.cons.injEq, and_true] at hcs
    cases hcs
    simp only [if_true] at hmm
    subst hmm
    rw [hC] at hi
    refine ⟨some a, n, _, rfl, hl, hm, fun i hin => ?_, .inr ⟨_, _, by rw [hx], by simp⟩⟩
    obtain ⟨cs0, hz, -⟩ := hi 0 (by omega)
    obtain ⟨_, hzl, hzt⟩ := World.cells?_some hz
    obtain ⟨w0, hw0⟩ : ∃ w, cs0[0]? = some w := ⟨_, List.getElem?_eq_getElem (by omega)⟩
    have hc0 := hzt (i := 0) hpos
    rw [hw0, Go.Deep.add_add] at hc0
    have hca := cell_addr hc0
    obtain ⟨cs', hc, ht'⟩ := hi i (by omega)
    obtain ⟨_, hcl, hat⟩ := World.cells?_some hc
    obtain ⟨b, o, sp⟩ := a
    have hsp : sp = none := by
      have := hca.1
      unfold Addr.add at this
      simpa using this
    subst hsp
    refine ⟨b, o, cs', _, _, rfl, ?_, hcl, fun j w hj => ?_, ht'⟩
    · have := hca.2
      rw [addr_add] at this
      exact this
    · have hjl : j < C := by rw [← hcl]; exact (List.getElem?_eq_some_iff.1 hj).1
      have := hat (i := j) hjl
      rw [hj, Go.Deep.add_add, addr_add] at this
      rw [← this]
      congr 2
      omega
end
end Go.Proofs.Ythfpfomifebpbaa

namespace Go.Proofs.Ythfpfomifebpbaa
open Go.ChangeShapes Go.WideShapes Go.Deep Go.RowKit Go.ChangeAt
namespace Sa
open It
section
variable {H : Type} {enc : TypeId × Value → H} {W : World} {held : Bool} {fuel : Nat} {x : DataW H × List MemPlace}
theorem ints_of_trod {v : Value} (hf : DataW.trod enc Try.prog W 0 (fun _ => true) held fuel 25 [v] = some x) :
    ∃ l : List Int, IntsAt W 0 W.heap.size v l ∧ ∀ k ∈ l, -9223372036854775808 ≤ k ∧ k ≤ 9223372036854775807 := by
  obtain ⟨A, n, c, rfl, h1, h2, h3, -⟩ := slice_of_trod Try.underlying25 (show Try.prog.cellsOf 3 = 1 by kernel_rfl) (by omega) hf
  have hel : ∀ i, i < n → ∃ k : Int, (-9223372036854775808 ≤ k ∧ k ≤ 9223372036854775807) ∧ ∃ b p, A = some ⟨b, p, none⟩ ∧ b < W.heap.size ∧ W.cell? ⟨b, p + i, none⟩ = some (.int .i64 k) := by
    intro i hin
    obtain ⟨b, o, cs, y, f', ea, hbW, hcl, hat, ht⟩ := h3 i hin
    obtain ⟨k0, c0, _, hk0⟩ := DataW.trod_int Try.underlying3 ht
    subst c0
    have hc := hat 0 _ rfl
    rw [Nat.mul_one, Nat.add_zero] at hc
    exact ⟨k0, by simpa [Lit.wf, IntKind.min, IntKind.max, IntKind.signed, IntKind.bits] using hk0, b, o, ea, hbW, hc⟩
  obtain ⟨l, hLn, hL⟩ := list_of n _ hel
  subst hLn
  refine ⟨l, ?_, fun k hk => ?_⟩
  · refine ⟨by simp [ints], A, c, rfl, h1, h2, fun h => ?_⟩
    obtain ⟨-, b, p, ea, hb, -⟩ := hL 0 h
    refine ⟨b, p, ea, Nat.zero_le _, hb, fun j hj => ?_⟩
    rw [Nat.mul_one] at hj
    obtain ⟨-, b', p', ea', -, hc⟩ := hL j hj
    rw [ea] at ea'
    cases ea'
    rw [hc]
    simp [ints, hj]
  · obtain ⟨i, hi, rfl⟩ := List.getElem_of_mem hk
    exact (hL i hi).1
theorem got_of_trod {v : Value} (hf : DataW.trod enc Try.prog W 0 (fun _ => true) held fuel 24 [v] = some x) :
    ∃ L : List (List It.Item), GotAt W 0 W.heap.size v L ∧ FitsL L := by
  obtain ⟨A, n, c, rfl, h1, h2, h3, -⟩ := slice_of_trod Try.underlying24 (show Try.prog.cellsOf 22 = 1 by kernel_rfl) (by omega) hf
  have hel : ∀ i, i < n → ∃ q : List It.Item × Value, Fits q.1 ∧ ItemsAt W 0 W.heap.size q.2 q.1 ∧ ∃ b p, A = some ⟨b, p, none⟩ ∧ b < W.heap.size ∧ W.cell? ⟨b, p + i, none⟩ = some q.2 := by
    intro i hin
    obtain ⟨b, o, cs, y, f', ea, hbW, hcl, hat, ht⟩ := h3 i hin
    obtain ⟨v', rfl⟩ := List.length_eq_one_iff.1 hcl
    obtain ⟨l, k1, k2, -⟩ := items_of_trod ht
    have hc := hat 0 _ rfl
    rw [Nat.mul_one, Nat.add_zero] at hc
    exact ⟨(l, v'), k2, k1, b, o, ea, hbW, hc⟩
  obtain ⟨qs, hLn, hL⟩ := list_of n _ hel
  subst hLn
  have hg1 : ∀ k (hk : k < qs.length), (qs.map (·.2)).getD k (.slice none 0 0) = qs[k].2 := fun k hk => by simp [List.getD, hk]
  have hg2 : ∀ k (hk : k < qs.length), (qs.map (·.1)).getD k [] = qs[k].1 := fun k hk => by simp [List.getD, hk]
  refine ⟨qs.map (·.1), ⟨qs.map (·.2), by simp, ?_, fun k hk => ?_⟩, fun l hl => ?_⟩
  · rw [List.length_map]
    refine ⟨by simp, A, c, rfl, h1, h2, fun h => ?_⟩
    obtain ⟨-, -, b, p, ea, hb, -⟩ := hL 0 h
    refine ⟨b, p, ea, Nat.zero_le _, hb, fun j hj => ?_⟩
    rw [Nat.mul_one] at hj
    obtain ⟨-, -, b', p', ea', -, hc⟩ := hL j hj
    rw [ea] at ea'
    cases ea'
    rw [hc]
    simp [hj]
  · rw [List.length_map] at hk
    rw [hg1 k hk, hg2 k hk]
    exact (hL k hk).2.1
  · obtain ⟨q, hq, rfl⟩ := List.mem_map.1 hl
    obtain ⟨i, hi, rfl⟩ := List.getElem_of_mem hq
    exact (hL i hi).1
structure OkSaga (s : Saga) : Prop where
  order : -9223372036854775808 ≤ s.order ∧ s.order ≤ 9223372036854775807
  first : -9223372036854775808 ≤ s.first ∧ s.first ≤ 9223372036854775807
  regions : -9223372036854775808 ≤ s.regions ∧ s.regions ≤ 9223372036854775807
  state : -9223372036854775808 ≤ s.state ∧ s.state ≤ 9223372036854775807
  asked : -9223372036854775808 ≤ s.asked ∧ s.asked ≤ 9223372036854775807
  pend : ∀ k ∈ s.pending, -9223372036854775808 ≤ k ∧ k ≤ 9223372036854775807
  fit : Fit s
set_option maxRecDepth 100000 in
theorem saga_of_trod {cs : List Value} (hf : DataW.trod enc Try.prog W 0 (fun _ => true) held fuel 27 cs = some x) :
    ∃ (s : Saga) (vw vg vp : Value), cs = (sagaC s vw vg vp).toList ∧ OkSaga s ∧ Parts W 0 W.heap.size s vw vg vp := by
  obtain ⟨ys, n, hn, hy, hlen, hyl, hfs⟩ := DataW.trod_struct Try.underlying27 hf
  have hl10 : cs.length = 10 := hlen.trans (by kernel_rfl)
  obtain ⟨v0, v1, v2, v3, v4, v5, v6, v7, v8, v9, rfl⟩ : ∃ v0 v1 v2 v3 v4 v5 v6 v7 v8 v9, cs = [v0, v1, v2, v3, v4, v5, v6, v7, v8, v9] := by
    match cs, hl10 with
    | [a, b, c, d, e, f, g, h, i, j], _ => exact ⟨a, b, c, d, e, f, g, h, i, j, rfl⟩
  have hys : ∀ j, j < 10 → ∃ y, ys[j]? = some y := fun j hj => ⟨_, List.getElem?_eq_getElem (by rw [hyl]; exact hj)⟩
  have int_of : ∀ (j : Nat) (f : Field) (v : Value), j < 10 → f.type = 3 → DataW.trod enc Try.prog W 0 (fun _ => true) held n f.type [v] = ys[j]? → ∃ k : Int, v = .int .i64 k ∧ -9223372036854775808 ≤ k ∧ k ≤ 9223372036854775807 := fun j f v hj hft h => by
    obtain ⟨y, hy⟩ := hys j hj
    rw [hy, hft] at h
    obtain ⟨k, e1, _, hk⟩ := DataW.trod_int Try.underlying3 h
    simp only [List.cons.injEq, and_true] at e1
    subst e1
    exact ⟨k, rfl, by simpa [Lit.wf, IntKind.min, IntKind.max, IntKind.signed, IntKind.bits] using hk⟩
  have bool_of : ∀ (j : Nat) (f : Field) (v : Value), j < 10 → f.type = 4 → DataW.trod enc Try.prog W 0 (fun _ => true) held n f.type [v] = ys[j]? → ∃ k : Bool, v = .bool k := fun j f v hj hft h => by
    obtain ⟨y, hy⟩ := hys j hj
    rw [hy, hft] at h
    obtain ⟨k, e1, _⟩ := DataW.trod_bool Try.underlying4 h
    simp only [List.cons.injEq, and_true] at e1
    subst e1
    exact ⟨k, rfl⟩
  have fld := fun (j : Nat) (f : Field) hj => by
    obtain ⟨ho, hk⟩ := hone_of (P := Try.prog) (by kernel_rfl) j f hj
    have := hfs j f hj
    rw [ho, hk] at this
    exact this
  obtain ⟨k0, rfl, b0⟩ := int_of 0 _ v0 (by omega) rfl (fld 0 _ rfl)
  obtain ⟨k1, rfl, b1⟩ := int_of 1 _ v1 (by omega) rfl (fld 1 _ rfl)
  obtain ⟨k2, rfl, b2⟩ := int_of 2 _ v2 (by omega) rfl (fld 2 _ rfl)
  have g3 := fld 3 _ rfl
  obtain ⟨k4, rfl⟩ := bool_of 4 _ v4 (by omega) rfl (fld 4 _ rfl)
  obtain ⟨k5, rfl, b5⟩ := int_of 5 _ v5 (by omega) rfl (fld 5 _ rfl)
  obtain ⟨k6, rfl, b6⟩ := int_of 6 _ v6 (by omega) rfl (fld 6 _ rfl)
  have g7 := fld 7 _ rfl
  have g8 := fld 8 _ rfl
  obtain ⟨k9, rfl⟩ := bool_of 9 _ v9 (by omega) rfl (fld 9 _ rfl)
  obtain ⟨y3, hy3⟩ := hys 3 (by omega)
  rw [hy3] at g3
  obtain ⟨L3, p3, f3, -⟩ := items_of_trod (v := v3) g3
  obtain ⟨y7, hy7⟩ := hys 7 (by omega)
  rw [hy7] at g7
  obtain ⟨L7, p7, f7⟩ := got_of_trod (v := v7) g7
  obtain ⟨y8, hy8⟩ := hys 8 (by omega)
  rw [hy8] at g8
  obtain ⟨L8, p8, f8⟩ := ints_of_trod (v := v8) g8
  exact ⟨⟨k0, k1, k2, L3, k4, k5, k6, L7, L8, k9⟩, v3, v7, v8, rfl, ⟨b0, b1, b2, b5, b6, f8, ⟨f3, f7⟩⟩, ⟨p3, p7, p8⟩⟩
set_option maxRecDepth 100000 in
theorem event_of_trod {cs : List Value} (hf : DataW.trod enc Try.prog W 0 (fun _ => true) held fuel 44 cs = some x) :
    ∃ (e : Ev) (v : Value), cs = (evC e v).toList ∧ ((-9223372036854775808 ≤ e.kind ∧ e.kind ≤ 9223372036854775807) ∧ (-9223372036854775808 ≤ e.region ∧ e.region ≤ 9223372036854775807) ∧ Fits e.items) ∧ ItemsAt W 0 W.heap.size v e.items := by
  obtain ⟨ys, n, hn, hy, hlen, hyl, hfs⟩ := DataW.trod_struct Try.underlying44 hf
  have hl3 : cs.length = 3 := hlen.trans (by kernel_rfl)
  obtain ⟨v0, v1, v2, rfl⟩ : ∃ v0 v1 v2, cs = [v0, v1, v2] := by
    match cs, hl3 with
    | [a, b, c], _ => exact ⟨a, b, c, rfl⟩
  have hys : ∀ j, j < 3 → ∃ y, ys[j]? = some y := fun j hj => ⟨_, List.getElem?_eq_getElem (by rw [hyl]; exact hj)⟩
  have int_of : ∀ (j : Nat) (f : Field) (v : Value), j < 3 → f.type = 3 → DataW.trod enc Try.prog W 0 (fun _ => true) held n f.type [v] = ys[j]? → ∃ k : Int, v = .int .i64 k ∧ -9223372036854775808 ≤ k ∧ k ≤ 9223372036854775807 := fun j f v hj hft h => by
    obtain ⟨y, hy⟩ := hys j hj
    rw [hy, hft] at h
    obtain ⟨k, e1, _, hk⟩ := DataW.trod_int Try.underlying3 h
    simp only [List.cons.injEq, and_true] at e1
    subst e1
    exact ⟨k, rfl, by simpa [Lit.wf, IntKind.min, IntKind.max, IntKind.signed, IntKind.bits] using hk⟩
  have fld := fun (j : Nat) (f : Field) hj => by
    obtain ⟨ho, hk⟩ := hone_of (P := Try.prog) (by kernel_rfl) j f hj
    have := hfs j f hj
    rw [ho, hk] at this
    exact this
  obtain ⟨k0, rfl, b0⟩ := int_of 0 _ v0 (by omega) rfl (fld 0 _ rfl)
  obtain ⟨k1, rfl, b1⟩ := int_of 1 _ v1 (by omega) rfl (fld 1 _ rfl)
  have g2 := fld 2 _ rfl
  obtain ⟨y2, hy2⟩ := hys 2 (by omega)
  rw [hy2] at g2
  obtain ⟨L, h1, h2, -⟩ := items_of_trod (v := v2) g2
  exact ⟨⟨k0, k1, L⟩, v2, rfl, ⟨b0, b1, h2⟩, h1⟩
end
section
variable {H : Type} {enc : TypeId × Value → H} {W : World} {base : Nat} {v : Value} {d : DataW H} {p : List MemPlace} {held : Bool}
set_option maxRecDepth 100000 in
theorem open_saga (hval : Value.okWide Try.prog W .any base 27 v) (h : DataW.Trod enc Try.prog W 0 (fun _ => true) held 27 v d p) :
    ∃ (s : Saga) (vw vg vp : Value), v = .agg (sagaC s vw vg vp) ∧ OkSaga s ∧ Parts W 0 W.heap.size s vw vg vp := by
  obtain ⟨cs, rfl, -⟩ := okWide_struct Try.underlying27 hval
  obtain ⟨fuel, hf⟩ := h
  obtain ⟨s, vw, vg, vp, e, h1, h2⟩ := saga_of_trod hf
  refine ⟨s, vw, vg, vp, ?_, h1, h2⟩
  congr 1
  apply Array.toList_inj.1
  rw [← e]
  simp [Value.cells]
set_option maxRecDepth 100000 in
theorem open_event (hval : Value.okWide Try.prog W .any base 44 v) (h : DataW.Trod enc Try.prog W 0 (fun _ => true) held 44 v d p) :
    ∃ (e : Ev) (ve : Value), v = .agg (evC e ve) ∧ ((-9223372036854775808 ≤ e.kind ∧ e.kind ≤ 9223372036854775807) ∧ (-9223372036854775808 ≤ e.region ∧ e.region ≤ 9223372036854775807) ∧ Fits e.items) ∧ ItemsAt W 0 W.heap.size ve e.items := by
  obtain ⟨cs, rfl, -⟩ := okWide_struct Try.underlying44 hval
  obtain ⟨fuel, hf⟩ := h
  obtain ⟨s, ve, e, h1, h2⟩ := event_of_trod hf
  refine ⟨s, ve, ?_, h1, h2⟩
  congr 1
  apply Array.toList_inj.1
  rw [← e]
  simp [Value.cells]
end
end Sa
end Go.Proofs.Ythfpfomifebpbaa

namespace Go.Proofs.Ythfpfomifebpbaa
open Go.ChangeShapes Go.WideShapes Go.ChangeAt Go.RowKit
namespace Sa
set_option maxRecDepth 100000 in
theorem sagaSame_lifted (os : Os) (started : os.Started) (H : Type) (enc : TypeId × Value → H) :
    ReturnsInHanded {} Try.checked os 4 .any (Rows.sagaSameSpec.pre6 enc Try.prog Try.f4 Rows.sagaSameRow.domain false) (Rows.sagaSameSpec.post enc Try.prog Try.f4 false true false false) := by
  refine returnsInHanded_of_change (C := Try.checked) own started (by kernel_rfl) Try.func4
    (ChangeSpec.witness6 (enc := enc) (C := Try.checked) false ⟨#[], #[.agg #[.int .i64 0, .int .i64 0, .int .i64 0, .slice none 0 0, .bool false, .int .i64 0, .int .i64 0, .slice none 0 0, .slice none 0 0, .bool false], .agg #[.int .i64 0, .int .i64 0, .int .i64 0, .slice none 0 0, .bool false, .int .i64 0, .int .i64 0, .slice none 0 0, .slice none 0 0, .bool false], .int .i64 0], []⟩ 8 (by kernel_rfl) (by kernel_rfl) (by kernel_rfl) (by kernel_rfl)) ?_
  intro W base args ds gs before hval0 hW _ _
  have hval : ∀ (j : Nat) t v, Try.f4.params[j]? = some t → args[j]? = some v → Value.okWide Try.prog W .any base t v := hval0
  obtain ⟨p, q, hA0, hV, hps, hfz, hnd⟩ := id hW
  have hA : DataW.TrodAll enc Try.prog W 0 (fun _ => true) true Try.f4.params.toList args.toList ds p := hA0
  rw [Try.params4] at hA hval
  obtain ⟨v0, vs0, d0, ds0, p0, q0, hargs, rfl, rfl, h0, r0⟩ := trodAll_cons hA
  obtain ⟨v1, vs1, d1, ds1, p1, q1, rfl, rfl, rfl, h1, r1⟩ := trodAll_cons r0
  obtain ⟨v2, vs2, d2, ds2, p2, q2, rfl, rfl, rfl, h2, r2⟩ := trodAll_cons r1
  obtain ⟨rfl, rfl, rfl⟩ := trodAll_nil r2
  obtain rfl : args = #[v0, v1, v2] := by cases args; simp_all
  obtain ⟨rfl, rfl⟩ := trodVars_none hV
  obtain ⟨st, rfl, rfl, rfl, wst⟩ := open_int Try.underlying3 (hval 2 3 v2 rfl rfl) h2
  obtain ⟨a, aw, ag, ap, rfl, fa, ha⟩ := Sa.open_saga (hval 0 27 v0 rfl rfl) h0
  obtain ⟨b, bw, bg, bp, rfl, fb, hb⟩ := Sa.open_saga (hval 1 27 v1 rfl rfl) h1
  have bst : -9223372036854775808 ≤ st ∧ st ≤ 9223372036854775807 := by simpa [Lit.wf, IntKind.min, IntKind.max, IntKind.signed, IntKind.bits] using wst
  refine (same_law a b _ _ _ _ _ _ st W ha hb).mono fun e W' ⟨he, hb⟩ => ?_
  subst he
  exact ⟨_, rfl, law_post laidOut (by kernel_rfl) rfl Try.underlying4 rfl hW rfl hb⟩

theorem sagaSame_holds : Rows.SagaSameSaid :=
  OpenClaim.holds_of_wide 4 Try.f4 rfl rfl rfl rfl rfl rfl rfl ⟨rfl, rfl, rfl, rfl, rfl⟩ rfl rfl rfl rfl rfl (by kernel_rfl) Try.func4 (by kernel_rfl)
    (of_decide_eq_true (by kernel_rfl)) (by unfold Func.isWrapper; first | (rw [if_pos (by decide +kernel)]; kernel_rfl) | (rw [if_neg (by decide +kernel)]; exact ⟨rfl, rfl⟩))
    (fun os started H enc _ => sagaSame_lifted os started H enc)

end Sa
end Go.Proofs.Ythfpfomifebpbaa
