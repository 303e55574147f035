/-
  saga: copied.
  A region that draws its order, some of whose operations make or write memory in one of two orders: a plan that forks.
  saga: Begin.
  saga: retry.
  saga: happen, Next.
  saga: which regions a saga that may be names; what happens gives no error 0.
  saga: Next.
-/
import Derived.Test.YthfpfomifebpbaaSs5
import Derived.Test.YthfpfomifebpbaaSs4
import Derived.Deep.RegionHeld3
import Derived.Test.YthfpfomifebpbaaSs3
import Derived.Laws.OwnMore

set_option linter.unusedVariables false
set_option linter.unusedSimpArgs false
namespace Go.Proofs.Ythfpfomifebpbaa
open Go.RowKit Go.Maps
namespace Sa
open It
variable {mlo : Nat}

theorem row_set {w : World} {base n cap gb r : Nat} {e : TypeId} {vs : List Value} {x : Value} (h : w.ownsRow base e 1 (.slice (some ⟨gb, 0, none⟩) n cap) n vs) (hr : r < n) :
    (w.setCell ⟨gb, r, none⟩ x).ownsRow base e 1 (.slice (some ⟨gb, 0, none⟩) n cap) n (vs.set r x) := by
  obtain ⟨g1, g2⟩ := h
  rcases g2 with ⟨e', hz⟩ | ⟨gb', cap', cur, e', q1, q2, q3, q4, q5, q6⟩
  · omega
  · cases e'
    have hob : Ob w gb e cur := q2
    have hob' := hob.set r x
    refine ⟨by simp [g1], .inr ⟨gb, cap, _, rfl, q1, hob', q3, q4, by simpa using q5, ?_⟩⟩
    rw [Nat.mul_one] at q6 ⊢
    rw [← q6, ← List.take_set]
    congr 1
    simp
/-- the memory behind the first two copies -/
theorem cop_three {s : Saga} {w Wz W1 W2 : World} {vw vg vp u1 u2 : Value} {Z : Array Value} (ho : Ob W2 w.heap.size 27 (sagaC s vw vg vp)) (hoB : Ob W2 (w.heap.size + 1) 27 Z) (hbz : Below w.heap.size w Wz.drew) (hb1 : Below Wz.drew.heap.size Wz.drew W1) (hb2 : Below W1.heap.size W1 W2)
    (hu1 : W1.ownsRow Wz.drew.heap.size 41 2 u1 s.want.length (itemCells s.want)) (hu2 : W2.ownsRow W1.heap.size 3 1 u2 s.pending.length (ints s.pending)) (hsz : w.heap.size + 1 < Wz.drew.heap.size) :
    ∃ W3, (W2.setCell ⟨w.heap.size, 3, none⟩ u1).setCell ⟨w.heap.size, 8, none⟩ u2 = W3 ∧ Ob W3 w.heap.size 27 (sagaC s u1 vg u2) ∧ Ob W3 (w.heap.size + 1) 27 Z ∧ ItemsAt W3 (w.heap.size + 2) W1.heap.size u1 s.want ∧
      W3.ownsRow W1.heap.size 3 1 u2 s.pending.length (ints s.pending) ∧ (∀ g, u2.ownBlock = some g → g < W2.heap.size) ∧ W3.heap.size = W2.heap.size ∧ Below w.heap.size w W3 ∧ w.heap.size + 2 ≤ W3.heap.size := by
  have h1 := hb1.size
  have h2 := hb2.size
  have hk : Kept (fun i => i < W2.heap.size ∧ i ≠ w.heap.size) W2 ((W2.setCell ⟨w.heap.size, 3, none⟩ u1).setCell ⟨w.heap.size, 8, none⟩ u2) :=
    (Kept.of_grown (grownBy_set W2 w.heap.size 3 u1) fun i hi => ⟨hi.1, fun e => hi.2 (by cases e; rfl)⟩).trans (Kept.of_grown (grownBy_set _ w.heap.size 8 u2) fun i hi => ⟨by rw [set_size]; exact hi.1, fun e => hi.2 (by cases e; rfl)⟩)
  have hw2 : ItemsAt W2 Wz.drew.heap.size W1.heap.size u1 s.want := (ItemsAt.of_own hu1).mono hb2 (Nat.le_refl _)
  refine ⟨_, rfl, (ho.set 3 u1).set 8 u2, hk.ob hoB ⟨hoB.lt, by omega⟩, (hk.sl hw2 fun i ha hb => ⟨by omega, by omega⟩).wide (by omega) (Nat.le_refl _), own_kept hu2 hk fun g hg => ⟨(hu2.lt g hg).2, by have := (hu2.lt g hg).1; omega⟩, fun g hg => (hu2.lt g hg).2, by rw [set_size, set_size], ?_, by rw [set_size, set_size]; omega⟩
  exact ((hbz.trans ((hb1.mono (by omega)).trans (hb2.mono (by omega))))).trans (hk.below fun i hi => ⟨by omega, by omega⟩)

theorem cop_five {s : Saga} {W4 : World} {p P G : Nat} {u1 u2 vg ug : Value} {Z : Array Value} {vs : List Value} (ho : Ob W4 p 27 (sagaC s u1 vg u2)) (hoB : Ob W4 (p + 1) 27 Z) (hw : ItemsAt W4 (p + 2) P u1 s.want) (hp : W4.ownsRow P 3 1 u2 s.pending.length (ints s.pending))
    (hg : W4.ownsRow G 22 1 ug s.got.length vs) (hP : p + 2 ≤ P) (hPG : P ≤ G) (hGW : G ≤ W4.heap.size) :
    ∃ W5, W4.setCell ⟨p, 7, none⟩ ug = W5 ∧ Ob W5 p 27 (sagaC s u1 ug u2) ∧ Ob W5 (p + 1) 27 Z ∧ ItemsAt W5 (p + 2) P u1 s.want ∧ W5.ownsRow P 3 1 u2 s.pending.length (ints s.pending) ∧ W5.ownsRow G 22 1 ug s.got.length vs ∧
      (∀ g, ug.ownBlock = some g → g < W5.heap.size) ∧ W5.heap.size = W4.heap.size ∧ Below p W4 W5 := by
  have hk : Kept (fun i => i < W4.heap.size ∧ i ≠ p) W4 (W4.setCell ⟨p, 7, none⟩ ug) := Kept.of_grown (grownBy_set W4 p 7 ug) fun i hi => ⟨hi.1, fun e => hi.2 (by cases e; rfl)⟩
  refine ⟨_, rfl, ho.set 7 ug, hk.ob hoB ⟨hoB.lt, by omega⟩, hk.sl hw fun i ha hb => ⟨by omega, by omega⟩, own_kept hp hk fun g e => ⟨(hp.lt g e).2, by have := (hp.lt g e).1; omega⟩, own_kept hg hk fun g e => ⟨(hg.lt g e).2, by have := (hg.lt g e).1; omega⟩, fun g e => by rw [set_size]; exact (hg.lt g e).2, set_size _ _ _ _, below_set W4 p 7 ug⟩
/-- the row of got behind k copies -/
structure CopRow (W5 wr : World) (G L : Nat) (ug : Value) (got : List (List It.Item)) (vs0 vs : List Value) (k : Nat) : Prop where
  len : vs.length = got.length
  row : wr.ownsRow G 22 1 ug got.length vs
  done : ∀ j, j < k → ItemsAt wr L wr.heap.size (vs.getD j (.slice none 0 0)) (got.getD j [])
  rest : ∀ j, k ≤ j → vs.getD j (.slice none 0 0) = vs0.getD j (.slice none 0 0)
  kept : Kept (fun i => i < W5.heap.size ∧ ug.ownBlock ≠ some i) W5 wr

theorem own_place {w : World} {base n cap gb r : Nat} {e : TypeId} {vs : List Value} (h : w.ownsRow base e 1 (.slice (some ⟨gb, 0, none⟩) n cap) n vs) (hr : r < n) :
    w.cell? ⟨gb, r, none⟩ = some (vs.getD r (.slice none 0 0)) ∧ w.frozen? ⟨gb, r, none⟩ = false := by
  obtain ⟨g1, g2⟩ := h
  rcases g2 with ⟨e', hz⟩ | ⟨gb', cap', cur, e', q1, q2, q3, q4, q5, q6⟩
  · omega
  · cases e'
    have hc : vs[r]? = cur[r]? := by rw [← q6, Nat.mul_one, List.getElem?_take_of_lt hr, Array.getElem?_toList]
    have hv : vs[r]? = some (vs.getD r (.slice none 0 0)) := by rw [List.getD, List.getElem?_eq_getElem (by omega)]; rfl
    exact ⟨by rw [show w.cell? ⟨gb, r, none⟩ = cur[r]? by simp [World.cell?, q2], ← hc, hv], by simp [World.frozen?, q2]⟩
theorem cop_round {W5 wr W6 : World} {G gb cap k : Nat} {v6 : Value} {got : List (List It.Item)} {vs0 vs : List Value} (h : CopRow W5 wr G W5.heap.size (.slice (some ⟨gb, 0, none⟩) got.length cap) got vs0 vs k) (hk : k < got.length) (hgb : gb < W5.heap.size)
    (hb : Below wr.heap.size wr W6) (hv : ItemsAt W6 wr.heap.size W6.heap.size v6 (got.getD k [])) :
    CopRow W5 (W6.setCell ⟨gb, k, none⟩ v6) G W5.heap.size (.slice (some ⟨gb, 0, none⟩) got.length cap) got vs0 (vs.set k v6) (k + 1) := by
  have h1 := h.kept.size
  have h2 := hb.size
  have hl := h.len
  have hk' : Kept (fun i => i < W6.heap.size ∧ i ≠ gb) W6 (W6.setCell ⟨gb, k, none⟩ v6) := Kept.of_grown (grownBy_set W6 gb k v6) fun i hi => ⟨hi.1, fun e => hi.2 (by cases e; rfl)⟩
  refine ⟨by simp [hl], row_set (row_later h.row hb) hk, fun j hj => ?_, fun j hj => ?_, (h.kept.trans (Kept.of_below hb fun i hi => by have := hi.1; omega)).trans (hk'.mono fun i hi => ⟨by have := hi.1; omega, fun e => hi.2 (by rw [e]; rfl)⟩)⟩
  · rw [set_size]
    by_cases e : j = k
    · subst e
      rw [show (vs.set j v6).getD j (.slice none 0 0) = v6 by simp [List.getD, show j < vs.length by omega]]
      exact (hk'.sl hv fun i ha hb' => ⟨hb', by omega⟩).wide (by omega) (Nat.le_refl _)
    · rw [show (vs.set k v6).getD j (.slice none 0 0) = vs.getD j (.slice none 0 0) by simp [List.getD, List.getElem?_set_ne (Ne.symm e)]]
      exact hk'.sl ((h.done j (by omega)).mono hb h2) fun i ha hb' => ⟨hb', by omega⟩
  · rw [show (vs.set k v6).getD j (.slice none 0 0) = vs.getD j (.slice none 0 0) by simp [List.getD, List.getElem?_set_ne (show k ≠ j by omega)]]
    exact h.rest j (by omega)

theorem cop_end {s : Saga} {p P G2 : Nat} {W3 W5 wr W8 : World} {u1 u2 ug : Value} {vs0 vs : List Value} (h : CopRow W5 wr W3.heap.size W5.heap.size ug s.got vs0 vs s.got.length) (hw : ItemsAt W5 (p + 2) P u1 s.want) (hp : W5.ownsRow P 3 1 u2 s.pending.length (ints s.pending))
    (hpG : ∀ g, u2.ownBlock = some g → g < G2) (hgL : ∀ g, ug.ownBlock = some g → g < W5.heap.size) (hg8 : wr.grownBy W8 (some (p + 1))) (hPG : P ≤ G2) (hz3 : W3.heap.size = G2) (h35 : W3.heap.size ≤ W5.heap.size) (hpP : p + 2 ≤ P) (_ : p + 2 ≤ W3.heap.size) :
    ∀ W b, Below W8.heap.size W8 W → W8.heap.size ≤ b → Ob W b 27 (sagaC s u1 ug u2) → Mine (p + 2) W P W3.heap.size W5.heap.size b s u1 ug u2 := by
  intro W b hW hb hob
  have h1 := h.kept.size
  have h2 := hg8.size
  have h3 := hW.size
  have hk : Kept (fun i => i < wr.heap.size ∧ i ≠ p + 1) wr W := (Kept.of_grown hg8 fun i hi => ⟨hi.1, fun e => hi.2 (by cases e; rfl)⟩).trans (Kept.of_below hW fun i hi => by omega)
  have hrl := fun g e => (h.row.lt g e).1
  have hpl := fun g e => (hp.lt g e).1
  have hk5 : Kept (fun i => i < W5.heap.size ∧ i < W3.heap.size ∧ i ≠ p + 1) W5 W := (h.kept.mono fun i hi => ⟨hi.1, fun e => by have := hrl i e; omega⟩).trans (hk.mono fun i hi => ⟨by omega, hi.2.2⟩)
  refine ⟨hob, by omega, by omega, h35, by omega, hk5.sl hw fun i ha hb => ⟨by omega, by omega, by omega⟩, own_kept hp hk5 fun g e => ⟨by have := hpG g e; omega, by have := hpG g e; omega, by have := hpl g e; omega⟩, fun g e => by have := hpG g e; omega, vs, h.len, own_kept h.row hk fun g e => ⟨by have := hgL g e; omega, by have := hrl g e; omega⟩, hgL, fun k hk' => (hk.sl (h.done k hk') fun i ha hb => ⟨by omega, by omega⟩).wide (Nat.le_refl _) (by omega)⟩

set_option maxRecDepth 100000 in
set_option maxHeartbeats 4000000 in
theorem copied_calls (s : Saga) (vw vg vp : Value) (w : World) (h : Parts w 0 w.heap.size s vw vg vp) (hnw : s.want.length ≤ 1000000) (hng : s.got.length ≤ 1000000) (hnp : s.pending.length ≤ 1000000) (hnl : ∀ k, (s.got.getD k []).length ≤ 1000000) :
    Calls Try.prog 35 #[.agg (sagaC s vw vg vp)] w fun e w' => (∃ uw ug up P G L, e = .returned (.agg (sagaC s uw ug up)) ∧ w.heap.size ≤ P ∧
      (∀ W b, Below w'.heap.size w' W → w'.heap.size ≤ b → Ob W b 27 (sagaC s uw ug up) → Mine (w.heap.size + 2) W P G L b s uw ug up)) ∧ Below w.heap.size w w' := by
  have hmx : Try.prog.follows .mixedOrders = true := by kernel_rfl
  have HW := Lib.hid (fun W (hb : Below w.heap.size w W) => (h.later hb).want)
  have HP := Lib.hid (fun W (hb : Below w.heap.size w W) => (h.later hb).pend)
  have HG := Lib.hid h.got
  obtain ⟨A, c, rfl, -⟩ := h.want.form
  obtain ⟨A', c', rfl, hc1, hc2⟩ := h.got.form
  obtain ⟨A2, c2, rfl, -⟩ := h.pend.form
  unfold maxLen at hc2
  clear h
  unfold sagaC
  have hal1 := (Below.refl w.heap.size w).alloc (Nat.le_refl _) (.cells #[.int .i64 s.order, .int .i64 s.first, .int .i64 s.regions, .slice A s.want.length c, .bool s.waits, .int .i64 s.state, .int .i64 s.asked, .slice A' s.got.length c', .slice A2 s.pending.length c2, .bool s.cancelled] 27)
  have hob1 := Ob.new w 27 #[.int .i64 s.order, .int .i64 s.first, .int .i64 s.regions, .slice A s.want.length c, .bool s.waits, .int .i64 s.state, .int .i64 s.asked, .slice A' s.got.length c', .slice A2 s.pending.length c2, .bool s.cancelled]
  have hz1 : (w.alloc (.cells #[.int .i64 s.order, .int .i64 s.first, .int .i64 s.regions, .slice A s.want.length c, .bool s.waits, .int .i64 s.state, .int .i64 s.asked, .slice A' s.got.length c', .slice A2 s.pending.length c2, .bool s.cancelled] 27)).heap.size = w.heap.size + 1 := World.size_alloc _ _
  go_enter Try.func35, Try.ntmps35
  go_wp2
  have hal2 := hal1.alloc hal1.size (.cells #[.int .i64 0, .int .i64 0, .int .i64 0, .slice none 0 0, .bool false, .int .i64 0, .int .i64 0, .slice none 0 0, .slice none 0 0, .bool false] 27)
  have hobA : Ob _ w.heap.size 27 _ := hob1.alloc (.cells #[.int .i64 0, .int .i64 0, .int .i64 0, .slice none 0 0, .bool false, .int .i64 0, .int .i64 0, .slice none 0 0, .slice none 0 0, .bool false] 27)
  have hobB := Ob.new (w.alloc (.cells #[.int .i64 s.order, .int .i64 s.first, .int .i64 s.regions, .slice A s.want.length c, .bool s.waits, .int .i64 s.state, .int .i64 s.asked, .slice A' s.got.length c', .slice A2 s.pending.length c2, .bool s.cancelled] 27)) 27 #[.int .i64 0, .int .i64 0, .int .i64 0, .slice none 0 0, .bool false, .int .i64 0, .int .i64 0, .slice none 0 0, .slice none 0 0, .bool false]
  rw [hz1] at hobB
  generalize (w.alloc (.cells #[.int .i64 s.order, .int .i64 s.first, .int .i64 s.regions, .slice A s.want.length c, .bool s.waits, .int .i64 s.state, .int .i64 s.asked, .slice A' s.got.length c', .slice A2 s.pending.length c2, .bool s.cancelled] 27)).alloc (.cells #[.int .i64 0, .int .i64 0, .int .i64 0, .slice none 0 0, .bool false, .int .i64 0, .int .i64 0, .slice none 0 0, .slice none 0 0, .bool false] 27) = Wz at *
  have hobA : Ob Wz.drew w.heap.size 27 _ := hobA
  have hobB : Ob Wz.drew (w.heap.size + 1) 27 _ := hobB
  have hbz := hal2.drew
  have hsz := hobB.lt
  obtain ⟨-, -, -, a3, -, -, -, -, a8, -⟩ := ob_ten hobA
  have cC1 := Lib.hid (clonei_calls s.want _ Wz.drew (HW.out _ hbz) hnw)
  have HBZ := Lib.hid hbz
  have HOA := Lib.hid hobA
  have HOB := Lib.hid hobB
  clear hal1 hal2 hz1 hob1 hbz hobA hobB
  go_region_with (first
      | (go_at_call 29; refine cC1.out.mono ?_; rintro e W1 ⟨⟨u1, rfl, hu1⟩, hb1⟩; obtain ⟨-, -, -, b3, -, -, -, -, b8, -⟩ := ob_ten (HOA.out.same hb1); obtain ⟨B1, d1, rfl, -⟩ := (ItemsAt.of_own hu1).form; have HB1 := Lib.hid hb1; have HU1 := Lib.hid hu1; have cC2 := Lib.hid (clonen_calls s.pending _ W1 (HP.out _ (HBZ.out.trans (hb1.mono HBZ.out.size))) hnp); clear hu1 hb1)
      | (go_at_call 54; refine cC2.out.mono ?_; rintro e W2 ⟨⟨u2, rfl, hu2⟩, hb2⟩; obtain ⟨-, -, -, d3, -, -, -, -, d8, -⟩ := ob_ten ((HOA.out.same HB1.out).same hb2); obtain ⟨B2, d2, rfl, -⟩ := (IntsAt.of_own hu2).form; have HB2 := Lib.hid hb2; have HU2 := Lib.hid hu2; have f3 := ((HOA.out.same HB1.out).same hb2).frozen 3; have f8 := ((HOA.out.same HB1.out).same hb2).frozen 8; clear hu2 hb2))
  all_goals (
    have ho2 := (HOA.out.same HB1.out).same HB2.out
    have hoB2 := (HOB.out.same HB1.out).same HB2.out
    obtain ⟨W3, hW3, ho3, hoB3, hw3, hp3, hpG, hz3, hb3, hsz3⟩ := cop_three ho2 hoB2 HBZ.out HB1.out HB2.out HU1.out HU2.out hsz
    rw [hW3]
    have HO3 := Lib.hid ho3
    have HOB3 := Lib.hid hoB3
    have HW3' := Lib.hid hw3
    have HP3 := Lib.hid hp3
    have HPG := Lib.hid hpG
    have HB3 := Lib.hid hb3
    have hz12 : W1.heap.size ≤ W2.heap.size := HB2.out.size
    have hz01 : w.heap.size + 2 ≤ W1.heap.size := by have := HB1.out.size; have : Wz.drew.heap.size = Wz.heap.size := rfl; omega
    clear ho2 hoB2 hW3 f3 f8 b3 b8 d3 d8 a3 a8 HB1 HB2 HU1 HU2 HBZ HOA HOB cC1 cC2 HP ho3 hoB3 hw3 hp3 hpG hb3
    obtain ⟨vs0, hl0, hsl0, hit0⟩ := HG.out
    have h10 : ∀ y ∈ vs0, y.oneCell' = true := fun y hy => by
      obtain ⟨k, hk, rfl⟩ := List.getElem_of_mem hy
      have := hit0 k (by omega)
      rw [List.getD, List.getElem?_eq_getElem hk] at this
      obtain ⟨A7, c7, e7, -⟩ := this.form
      rw [show vs0[k] = _ from e7]
      rfl
    have cG := Lib.hid (cloneg_calls s.got (.slice A' s.got.length c') vs0 W3 ((hsl0.below HB3.out).wide (Nat.le_refl _) (by omega)) h10 hng)
    have HIT := Lib.hid hit0
    obtain ⟨-, -, -, -, -, -, -, k7, -, -⟩ := ob_ten HO3.out
    clear HG hsl0 h10 hit0
    go_wp2_with fail
    refine cG.out.mono ?_
    rintro e W4 ⟨⟨ug, rfl, hug⟩, hb4⟩
    have ho4 := HO3.out.same hb4
    have g7 : W4.cell? ⟨w.heap.size, 7, none⟩ = some (.slice A' s.got.length c') := ho4.cell rfl
    have f7 := ho4.frozen 7
    have hz4 := hb4.size
    obtain ⟨W5, hW5, ho5, hoB5, hw5, hp5, hg5, hgL5, hz5, hb5⟩ := cop_five ho4 (HOB3.out.same hb4) (HW3'.out.mono (hb4.mono (by omega)) (Nat.le_refl _)) (row_later HP3.out hb4) hug hz01 (show W1.heap.size ≤ W3.heap.size by omega) hz4
    have HB5 := Lib.hid ((HB3.out.trans (hb4.mono (by omega))).trans hb5)
    obtain ⟨A6, c6, rfl, hc61, hc62, -⟩ := (Sl.of_own hug).at_
    unfold maxLen at hc62
    have HO5 := Lib.hid ho5
    have HOB5 := Lib.hid hoB5
    have HW5' := Lib.hid hw5
    have HP5 := Lib.hid hp5
    have HGL5 := Lib.hid hgL5
    obtain ⟨-, -, -, -, -, -, -, m7, -, -⟩ := ob_ten ho5
    have hcr : CopRow W5 W5 W3.heap.size W5.heap.size (.slice A6 s.got.length c6) s.got vs0 vs0 0 := ⟨hl0, hg5, fun j hj => by omega, fun j _ => rfl, Kept.refl _ _⟩
    have HCR := Lib.hid hcr
    clear HO3 HOB3 HW3' HP3 HB3 cG ho4 hug hb4 ho5 hoB5 hw5 hp5 hg5 hgL5 hb5 hcr k7
    go_wp2
    clear hW5 g7 f7
    go_loopw [3, 4, 20] (fun _ _ i wr => ∃ (k : Nat) (vs : List Value), k ≤ s.got.length ∧ i = .int .i64 k ∧ CopRow W5 wr W3.heap.size W5.heap.size (.slice A6 s.got.length c6) s.got vs0 vs k) (fun _ _ i _ => s.got.length - (intOf i).toNat)
    case atStart => exact ⟨0, vs0, by omega, rfl, HCR.out⟩
    case round =>
      obtain ⟨k, vs, hk, rfl, hC⟩ := hrel
      have HC := Lib.hid hC
      clear hC
      by_cases hlt : k < s.got.length
      · have hd : decide ((k : Int) < s.got.length) = true := decide_eq_true (by omega)
        have hrow := HC.out.row
        rcases hrow.2 with ⟨-, hz⟩ | ⟨gb, cap, cur, e', q1, -⟩
        · omega
        cases e'
        have hgl : gb < W5.heap.size := HGL5.out gb rfl
        have hcell := (own_place hrow hlt).1
        have hBw : Below w.heap.size W5 wr := HC.out.kept.below fun i hi => ⟨by omega, fun e => by have e2 : gb = i := Option.some.inj e; omega⟩
        have hx := HIT.out k hlt
        rw [← HC.out.rest k (Nat.le_refl _)] at hx
        generalize vs.getD k (.slice none 0 0) = x at hcell hx
        have hwr := HC.out.kept.size
        have hBwr := HB5.out.trans hBw
        have hor := HC.out.kept.ob HO5.out ⟨by omega, fun e => by have e2 : gb = w.heap.size := Option.some.inj e; omega⟩
        have hdr : Below wr.heap.size wr wr.drew := (Below.refl _ _).drew
        have hcK := hnl k
        generalize hgk : s.got.getD k [] = lk at hx hcK
        have HGK := Lib.hid hgk
        clear hgk hrow q1
        have cK := Lib.hid (fun V (h : Below wr.drew.heap.size wr.drew V) => clonei_calls lk x V ((hx.mono ((hBwr.trans (hdr.mono (by omega))).trans (h.mono (show w.heap.size ≤ wr.heap.size by omega))) (Nat.le_refl _)).wide (Nat.le_refl _) (by have := h.size; have : wr.drew.heap.size = wr.heap.size := rfl; omega)) hcK)
        have hQ := Lib.hid (fun V (h : Below wr.drew.heap.size wr.drew V) => show V.cell? ⟨w.heap.size, 7, none⟩ = some (.slice (some ⟨gb, 0, none⟩) s.got.length c6) from ((hor.same hdr).same h).cell rfl)
        obtain ⟨A7, c7, rfl, -⟩ := hx.form
        have hzk : (0 : Nat) + k = k := Nat.zero_add k
        clear hx hor hdr hBw hBwr
        go_wp2
        refine Pu.regionM [(0, false), (1, false), (2, false), (3, false), (4, true), (5, false), (6, true)] (fun Wq => Below wr.drew.heap.size wr.drew Wq) hmx (by kernel_rfl) (by kernel_rfl) (by kernel_rfl) (Below.refl _ _) rfl ?_
        simp only [Pu.named, List.filterMap_cons, List.filterMap_nil, List.getElem?_toArray, List.getElem?_cons_succ, List.getElem?_cons_zero, Option.map_some]
        iterate 4 (
          apply Pu.WalkM.on (by rfl)
          · intro V1 h1
            have q7 := hQ.out V1 h1
            go_wp2_with fail
            refine ⟨rfl, ?_, rfl⟩
            try simp only [Act.put, List.setIfInBounds_toArray, List.set_cons_succ, List.set_cons_zero]
            rfl
          simp only [Act.put, List.setIfInBounds_toArray, List.set_cons_succ, List.set_cons_zero])
        refine Pu.WalkM.make (by rfl) ?_
        rintro W' rfl
        go_wp2_with (go_at_call 29; refine (cK.out _ (Below.refl _ _)).mono ?_; rintro e W6 ⟨⟨v6, rfl, hv6⟩, hb6⟩)
        obtain ⟨A8, c8, rfl, -⟩ := (ItemsAt.of_own hv6).form
        refine ⟨rfl, .slice A8 lk.length c8, _, (fun V => V = W6), ?_, rfl, (fun V h => by rw [h]; exact hb6), (.inr (fun _ h => h)), ?_⟩
        · simp only [Act.put, List.setIfInBounds_toArray, List.set_cons_succ, List.set_cons_zero]
        simp only [Act.put, List.setIfInBounds_toArray, List.set_cons_succ, List.set_cons_zero]
        iterate 1 (
          apply Pu.WalkM.on (by rfl)
          · intro V1 h1
            skip
            go_wp2_with fail
            refine ⟨rfl, ?_, rfl⟩
            try simp only [Act.put, List.setIfInBounds_toArray, List.set_cons_succ, List.set_cons_zero]
            rfl
          simp only [Act.put, List.setIfInBounds_toArray, List.set_cons_succ, List.set_cons_zero])
        have hb6' : Below wr.heap.size wr W6 := ((Below.refl wr.heap.size wr).drew).trans hb6
        obtain ⟨hst, hfz⟩ := own_place (row_later HC.out.row hb6') hlt
        have hCn := Lib.hid (cop_round HC.out hlt hgl hb6' (by rw [HGK.out]; exact ItemsAt.of_own hv6))
        clear hb6 hb6' hv6 cK hQ
        refine Pu.WalkM.make (by rfl) ?_
        rintro W rfl
        go_wp2_with fail
        refine ⟨rfl, undef, (fun _ => True), (fun V => V = _), rfl, rfl, (fun _ _ => trivial), (.inl (by kernel_rfl)), Pu.WalkM.nil ?_⟩
        rintro V rfl
        simp only [Act.put]
        generalize W.setCell ⟨gb, k, none⟩ (.slice A8 lk.length c8) = W7 at *
        go_wp2
        go_roundw
        case rel => exact ⟨k + 1, _, by omega, by go_num, hCn.out⟩
        case measure => simp [intOf]; omega
      · obtain rfl : k = s.got.length := by omega
        have hwr := HC.out.kept.size
        have hrl := fun g e => (HC.out.row.lt g e).1
        have hor := HC.out.kept.ob HO5.out ⟨by omega, fun e => by have := hrl _ e; omega⟩
        have hobr := HC.out.kept.ob HOB5.out ⟨by omega, fun e => by have := hrl _ e; omega⟩
        have HRL := Lib.hid hrl
        clear hrl
        go_wp2_with (first
          | (refine wpList_load_obg (by rfl) _ _ rfl rfl _ hor Try.underlying27 rfl (by kernel_rfl) ?_)
          | (refine wpList_store_ob (cells := sagaC s (.slice B1 s.want.length d1) (.slice A6 s.got.length c6) (.slice B2 s.pending.length d2)) rfl 27 (.tmp 2) (.tmp 32) rfl rfl rfl hobr rfl (by kernel_rfl) (by simp [sagaC, Value.oneCell']) ?_; intro W8 ho8 hg8))
        have h8 := hg8.size
        have hBf : Below w.heap.size w W8 := (HB5.out.trans (HC.out.kept.below fun i hi => ⟨by omega, fun e => by have := HRL.out _ e; omega⟩)).grown hg8 (by omega) (fun g e => by have e2 : w.heap.size + 1 = g := Option.some.inj e; omega)
        have hM := cop_end HC.out HW5'.out HP5.out HPG.out HGL5.out hg8 hz12 hz3 (show W3.heap.size ≤ W5.heap.size by omega) hz01 hsz3
        obtain ⟨p0, p1, p2, p3, p4, p5, p6, p7, p8, p9⟩ := ob_ten ho8
        refine bodyPost_ret (v := .agg (sagaC s (.slice B1 s.want.length d1) (.slice A6 s.got.length c6) (.slice B2 s.pending.length d2))) ?_ rfl ⟨⟨_, _, _, _, _, _, rfl, by omega, hM⟩, hBf⟩
        simp [results, Try.f35, go_sem, sagaC, p0, p1, p2, p3, p4, p5, p6, p7, p8, p9])
end Sa
end Go.Proofs.Ythfpfomifebpbaa

namespace Go.Proofs.Ythfpfomifebpbaa
open Go.RowKit
namespace Pt
open Pu
inductive Plan where
  | nil
  | look (i : Nat) (p : Plan)
  | make (i : Nat) (p : Plan)
  | fork (i : Nat) (p : Plan) (j : Nat) (q : Plan)
inductive PlanO where
  | nil
  | look (o : Oper) (p : PlanO)
  | make (o : Oper) (p : PlanO)
  | fork (o : Oper) (p : PlanO) (o' : Oper) (q : PlanO)
def rest : Plan → List Nat
  | .nil => []
  | .look i p => i :: rest p
  | .make i p => i :: rest p
  | .fork i p _ _ => i :: rest p
section
variable {P : Program} {ops : Array Oper} {Q : Exit → Act → World → Prop} {md : Region.Mode}
def named (ops : Array Oper) : Plan → PlanO
  | .nil => .nil
  | .look i p => match ops[i]? with | some o => .look o (named ops p) | none => .nil
  | .make i p => match ops[i]? with | some o => .make o (named ops p) | none => .nil
  | .fork i p j q => match ops[i]?, ops[j]? with | some o, some o' => .fork o (named ops p) o' (named ops q) | _, _ => .nil
/-- is this operation behind all others, by its own edges and those of the ones it is behind? -/
def reach2 (ops : Array Oper) (o : Oper) (j : Nat) : Bool := o.after.any fun e => Region.binds .any e && (e.on == j || match ops[e.on]? with | some q => q.after.any fun e' => Region.binds .any e' && e'.on == j | none => false)
def endsAll2 (ops : Array Oper) (o : Oper) : Bool := decide (((List.range ops.size).filter fun j => !reach2 ops o j).length ≤ 1)
theorem endsAll2_at {o : Oper} {i : Nat} {listed : Array Bool} (h : endsAll2 ops o = true) (hsz : listed.size = ops.size) (hi : i < ops.size) (hun : listed.getD i true = false)
    (hall : ∀ e ∈ o.after, Region.binds .any e = true → listed.getD e.on true = true) (hcl : ∀ k q, ops[k]? = some q → listed.getD k true = true → ∀ e ∈ q.after, Region.binds .any e = true → listed.getD e.on true = true) : ∀ j, listed.getD j true = false → j = i := by
  intro j hj
  have hjs : j < ops.size := by
    rcases Nat.lt_or_ge j ops.size with h | h
    · exact h
    · simp [show ¬ j < listed.size by omega] at hj
  have free : ∀ k, listed.getD k true = false → reach2 ops o k = false := fun k hk => by
    cases hx : reach2 ops o k with
    | false => rfl
    | true =>
      obtain ⟨e, he, hbe⟩ := Array.any_eq_true'.1 hx
      simp only [Bool.and_eq_true, Bool.or_eq_true, beq_iff_eq] at hbe
      have h1 := hall e he hbe.1
      rcases hbe.2 with h2 | h2
      · rw [h2, hk] at h1
        cases h1
      · cases hq : ops[e.on]? with
        | none => rw [hq] at h2; cases h2
        | some q =>
          rw [hq] at h2
          obtain ⟨e', he', hbe'⟩ := Array.any_eq_true'.1 h2
          simp only [Bool.and_eq_true, beq_iff_eq] at hbe'
          have h3 := hcl e.on q hq h1 e' he' hbe'.1
          rw [hbe'.2, hk] at h3
          cases h3
  unfold endsAll2 at h
  have hlen := of_decide_eq_true h
  have mi : i ∈ (List.range ops.size).filter fun j => !reach2 ops o j := List.mem_filter.2 ⟨List.mem_range.2 hi, by rw [free i hun]; rfl⟩
  have mj : j ∈ (List.range ops.size).filter fun j => !reach2 ops o j := List.mem_filter.2 ⟨List.mem_range.2 hjs, by rw [free j hj]; rfl⟩
  generalize ((List.range ops.size).filter fun j => !reach2 ops o j) = F at *
  match F, hlen with
  | [], _ => cases mi
  | [x], _ =>
    rw [List.mem_singleton] at mi mj
    rw [mi, mj]
  | _ :: _ :: _, h => simp at h
/-- what one making operation owes -/
def Owes (P : Program) (ops : Array Oper) (a : Act) (o : Oper) (B J : World → Prop) (S : Act → (World → Prop) → (World → Prop) → Prop) : Prop :=
  Region.wanted o (yielded ops a.tmps) = true ∧ ∀ w, J w → wpList P ops (fun e a' w' => e = .normal ∧ ∃ v B' J', a' = a.put o.dst v ∧ J' w' ∧ S (a.put o.dst v) B' J' ∧ (∀ w, J' w → B' w) ∧ (endsAll2 ops o = true ∨ ∀ w, B' w → B w)) [o] a w
def SeqT (P : Program) (ops : Array Oper) (Q : Exit → Act → World → Prop) : PlanO → Act → (World → Prop) → (World → Prop) → Prop
  | .nil, a, _, J => ∀ w, J w → Q .normal a w
  | .look o p, a, B, J =>
    if Region.wanted o (yielded ops a.tmps) = true then
      ∃ v, (∀ w, B w → wpList P ops (fun e a' w' => e = .normal ∧ a' = a.put o.dst v ∧ w' = w) [o] a w) ∧ SeqT P ops Q p (a.put o.dst v) B J
    else SeqT P ops Q p (a.put o.dst undef) B J
  | .make o p, a, B, J => Owes P ops a o B J (SeqT P ops Q p)
  | .fork o p o' q, a, B, J => Owes P ops a o B J (SeqT P ops Q p) ∧ Owes P ops a o' B J (SeqT P ops Q q)

def hd (ops : Array Oper) (i : Nat) (r : List Nat) : Bool :=
  (match ops[i]? with
    | none => false
    | some o =>
      (match o.op with | .select .. => false | .defer _ => false | _ => true) &&
      ((o.looksAt ops).all fun t => o.dst != some t && r.all fun p => match ops[p]? with | some q => q.dst != some t | none => false) &&
      (match o.dst with | none => true | some d => r.all fun p => match ops[p]? with | some q => q.dst != some d | none => false)) &&
  (r.all fun p => p != i)
def okT (md : Region.Mode) (ops : Array Oper) : Plan → Bool
  | .nil => true
  | .look i p => hd ops i (rest p) && okT md ops p
  | .make i p => hd ops i (rest p) && ((rest p).all fun k => bound md ops k (i :: rest p)) && okT md ops p
  | .fork i p j q => hd ops i (rest p) && hd ops j (rest q) && (rest p).contains j && (rest q).contains i && ((rest p).all fun k => k == j || (rest q).contains k) && ((rest q).all fun k => k == i || (rest p).contains k) &&
      ((rest p).all fun k => k == j || bound md ops k (i :: rest p)) && okT md ops p && okT md ops q
def whole (ops : Array Oper) (p : Plan) : Bool := (List.range ops.size).all fun i => (rest p).contains i

theorem hd_at {i : Nat} {r : List Nat} (h : hd ops i r = true) : ∃ o, ops[i]? = some o ∧ (match o.op with | .select .. => false | .defer _ => false | _ => true) = true ∧
    (∀ t ∈ o.looksAt ops, o.dst ≠ some t ∧ ∀ p ∈ r, ∀ q, ops[p]? = some q → q.dst ≠ some t) ∧ (∀ d, o.dst = some d → ∀ p ∈ r, ∀ q, ops[p]? = some q → q.dst ≠ some d) ∧ (∀ p ∈ r, p ≠ i) := by
  simp only [hd, Bool.and_eq_true] at h
  obtain ⟨h1, h2⟩ := h
  cases ho : ops[i]? with
  | none => rw [ho] at h1; cases h1
  | some o =>
    rw [ho] at h1
    simp only [Bool.and_eq_true] at h1
    obtain ⟨⟨g1, g2⟩, g3⟩ := h1
    refine ⟨o, rfl, g1, fun t ht => ?_, fun d hd p hp q hq => ?_, fun p hp => ?_⟩
    · have := List.all_eq_true.1 g2 t ht
      simp only [Bool.and_eq_true, bne_iff_ne, List.all_eq_true] at this
      refine ⟨this.1, fun p hp q hq => ?_⟩
      have h5 := this.2 p hp
      rw [hq] at h5
      simpa using h5
    · rw [hd] at g3
      have h5 := List.all_eq_true.1 g3 p hp
      rw [hq] at h5
      simpa using h5
    · have := List.all_eq_true.1 h2 p hp
      simpa using this

/-- what is known between two operations -/
structure St (P : Program) (ops : Array Oper) (Q : Exit → Act → World → Prop) (md : Region.Mode) (post : Plan) (pre : List Nat) (A : Act) (B J : World → Prop) : Prop where
  sub : ∀ w, J w → B w
  op : ∀ i ∈ pre, ∀ o, ops[i]? = some o → (match o.op with | .select .. => false | .defer _ => false | _ => true) = true
  fact : ∀ i ∈ pre, ∀ o, ops[i]? = some o → ∀ w, B w → wpList P ops (fun e a' w' => e = .normal ∧ a' = A ∧ w' = w) [o] A w
  looks : ∀ i ∈ pre, ∀ o, ops[i]? = some o → ∀ t ∈ o.looksAt ops, ∀ p ∈ rest post, ∀ q, ops[p]? = some q → q.dst ≠ some t
  dst : ∀ i ∈ pre, ∀ o, ops[i]? = some o → ∀ d, o.dst = some d → ∀ p ∈ rest post, ∀ q, ops[p]? = some q → q.dst ≠ some d
  ok : okT md ops post = true
  seq : SeqT P ops Q (named ops post) A B J

/-- one more operation is seen through -/
theorem St.step {i : Nat} {post p : Plan} {pre : List Nat} {A : Act} {B J B' J' : World → Prop} {o : Oper} {v : Value} (h : St P ops Q md post pre A B J) (ho : ops[i]? = some o) (hi : i ∈ rest post) (hsub : ∀ k ∈ rest p, k ∈ rest post) (hok : okT md ops p = true)
    (hB : ∀ w, B' w → B w) (hJ : ∀ w, J' w → B' w) (hs : SeqT P ops Q (named ops p) (A.put o.dst v) B' J') : St P ops Q md p pre (A.put o.dst v) B' J' := by
  refine ⟨hJ, h.op, fun k hk ok hok w hw => ?_, fun k hk ok hok t ht p hp => h.looks k hk ok hok t ht p (hsub p hp), fun k hk ok hok d hd p hp => h.dst k hk ok hok d hd p (hsub p hp), hok, hs⟩
  have hl : ∀ t ∈ ok.looksAt ops, o.dst ≠ some t := fun t ht => h.looks k hk ok hok t ht i hi o ho
  refine shift (h.op k hk ok hok) (put_eval A hl v) (put_wanted A hl v) rfl (fun u hu => ?_) (h.fact k hk ok hok w (hB w hw))
  rw [put_comm A (d := o.dst) (e := ok.dst) (fun t ht he => h.dst k hk ok hok t he i hi o ho ht) u v, hu]
theorem St.still {i : Nat} {p : Plan} {pre : List Nat} {A : Act} {B J : World → Prop} {o : Oper} {v : Value} (h : St P ops Q md (.look i p) pre A B J) (ho : ops[i]? = some o)
    (hv : ∀ w, B w → wpList P ops (fun e a' w' => e = .normal ∧ a' = A.put o.dst v ∧ w' = w) [o] A w)
    (hs : SeqT P ops Q (named ops p) (A.put o.dst v) B J) : St P ops Q md p (i :: pre) (A.put o.dst v) B J := by
  have hz := h.ok
  simp only [okT, Bool.and_eq_true] at hz
  have h1 := h.step ho (by simp [rest]) (p := p) (fun k hk => by simp [rest, hk]) hz.2 (fun _ h => h) h.sub hs
  obtain ⟨o', ho', g1, g2, g3, g4⟩ := hd_at hz.1
  clear hz
  rw [ho] at ho'
  cases ho'
  refine ⟨h.sub, fun k hk ok hok => ?_, fun k hk ok hok w hw => ?_, fun k hk ok hok t ht p hp q hq => ?_, fun k hk ok hok d hd p hp q hq => ?_, h1.ok, h1.seq⟩
  · rcases List.mem_cons.1 hk with rfl | hk
    · rw [ho] at hok; cases hok; exact g1
    · exact h1.op k hk ok hok
  · rcases List.mem_cons.1 hk with rfl | hk
    · rw [ho] at hok; cases hok
      have hl : ∀ t ∈ o.looksAt ops, o.dst ≠ some t := fun t ht => (g2 t ht).1
      refine shift g1 (put_eval A hl v) (put_wanted A hl v) (put_defers _ _ _) (fun u hu => ?_) (hv w hw)
      rw [put_put, hu]
    · exact h1.fact k hk ok hok w hw
  · rcases List.mem_cons.1 hk with rfl | hk
    · rw [ho] at hok; cases hok; exact (g2 t ht).2 p hp q hq
    · exact h1.looks k hk ok hok t ht p hp q hq
  · rcases List.mem_cons.1 hk with rfl | hk
    · rw [ho] at hok; cases hok; exact g3 d hd p hp q hq
    · exact h1.dst k hk ok hok d hd p hp q hq
def makes : Plan → Bool
  | .look .. => false
  | _ => true
theorem advance {a : Act} {listed : Array Bool} {B J : World → Prop} : ∀ (post : Plan) (pre : List Nat) (A : Act), St P ops Q md post pre A B J → Agree ops A listed a → (∀ p ∈ rest post, listed.getD p true = false) →
    ∃ post' pre' A', St P ops Q md post' pre' A' B J ∧ Agree ops A' listed a ∧ (∀ p ∈ rest post', listed.getD p true = false) ∧ (∀ j, (j ∈ pre ∨ j ∈ rest post) → j ∈ pre' ∨ j ∈ rest post') ∧ makes post' = true
  | .nil, pre, A, h, ha, hu => ⟨.nil, pre, A, h, ha, hu, fun _ h => h, rfl⟩
  | .make i p, pre, A, h, ha, hu => ⟨.make i p, pre, A, h, ha, hu, fun _ h => h, rfl⟩
  | .fork i p j q, pre, A, h, ha, hu => ⟨.fork i p j q, pre, A, h, ha, hu, fun _ h => h, rfl⟩
  | .look i r, pre, A, h, ha, hu => by
    have hok := h.ok
    simp only [okT, Bool.and_eq_true] at hok
    obtain ⟨o, ho, g1, g2, g3, g4⟩ := hd_at hok.1
    have hs := h.seq
    simp only [named, ho, SeqT] at hs
    have hi := hu i (by simp [rest])
    have key : ∀ v, (∀ w, B w → wpList P ops (fun e a' w' => e = .normal ∧ a' = A.put o.dst v ∧ w' = w) [o] A w) → SeqT P ops Q (named ops r) (A.put o.dst v) B J →
        ∃ post' pre' A', St P ops Q md post' pre' A' B J ∧ Agree ops A' listed a ∧ (∀ p ∈ rest post', listed.getD p true = false) ∧ (∀ j, (j ∈ pre ∨ j ∈ rest (.look i r)) → j ∈ pre' ∨ j ∈ rest post') ∧ makes post' = true := by
      intro v hv hs2
      obtain ⟨post', pre', A', k1, k2, k3, k4, k5⟩ := advance r (i :: pre) _ (h.still ho hv hs2) (ha.more ho hi) (fun p hp => hu p (by simp [rest, hp]))
      refine ⟨post', pre', A', k1, k2, k3, fun j hj => k4 j ?_, k5⟩
      rcases hj with hj | hj
      · exact .inl (List.mem_cons_of_mem _ hj)
      · rcases List.mem_cons.1 hj with rfl | hj
        · exact .inl (by simp)
        · exact .inr hj
    by_cases hw : Region.wanted o (yielded ops A.tmps) = true
    · rw [if_pos hw] at hs
      obtain ⟨v, hv, hs2⟩ := hs
      exact key v hv hs2
    · rw [if_neg hw] at hs
      have hoff : ∀ w, B w → wpList P ops (fun e a' w' => e = .normal ∧ a' = A.put o.dst undef ∧ w' = w) [o] A w := fun w _ => by
        unfold wpList
        rw [if_neg hw]
        exact ⟨rfl, rfl, rfl⟩
      exact key undef hoff hs
/-- behind a plan's looks: which operation may come, and the plan that then goes on -/
theorem next {post : Plan} {A : Act} {B J : World → Prop} {pre : List Nat} (h : St P ops Q md post pre A B J) (hm : makes post = true) {listed : Array Bool} (hu : ∀ p ∈ rest post, listed.getD p true = false) {i : Nat} {o : Oper} (ho : ops[i]? = some o) (hi : i ∈ rest post)
    (hall : ∀ e ∈ o.after, Region.binds md e = true → listed.getD e.on true = true) :
    ∃ p, Owes P ops A o B J (SeqT P ops Q (named ops p)) ∧ okT md ops p = true ∧ (∀ k ∈ rest p, k ∈ rest post ∧ k ≠ i) ∧ (∀ k ∈ rest post, k ≠ i → k ∈ rest p) := by
  have hno : ∀ l : List Nat, (∀ k ∈ l, k ∈ rest post) → bound md ops i l = false := fun l hl => by
    cases hb : bound md ops i l with
    | false => rfl
    | true =>
      unfold bound at hb
      rw [ho] at hb
      obtain ⟨e, he, hbe⟩ := Array.any_eq_true'.1 hb
      simp only [Bool.and_eq_true, List.contains_iff_mem] at hbe
      have h1 := hall e he hbe.1
      rw [hu e.on (hl e.on hbe.2)] at h1
      cases h1
  have hok := h.ok
  have hs := h.seq
  cases post with
  | nil => cases hi
  | look i p => cases hm
  | make c p =>
    simp only [okT, Bool.and_eq_true] at hok
    obtain ⟨⟨k1, k2⟩, k3⟩ := hok
    obtain ⟨oc, hoc, -, -, -, g4⟩ := hd_at k1
    have hci : i = c := by
      rcases List.mem_cons.1 hi with h | h
      · exact h
      · have := List.all_eq_true.1 k2 i h
        rw [hno (c :: rest p) (fun k hk => hk)] at this
        cases this
    subst hci
    rw [ho] at hoc
    cases hoc
    simp only [named, ho, SeqT] at hs
    exact ⟨p, hs, k3, fun k hk => ⟨List.mem_cons_of_mem _ hk, g4 k hk⟩, fun k hk hne => (List.mem_cons.1 hk).resolve_left hne⟩
  | fork c p d q =>
    simp only [okT, Bool.and_eq_true] at hok
    obtain ⟨⟨⟨⟨⟨⟨⟨⟨k1, k2⟩, k3⟩, k4⟩, k5⟩, k6⟩, k7⟩, k8⟩, k9⟩ := hok
    obtain ⟨oc, hoc, -, -, -, g4⟩ := hd_at k1
    obtain ⟨od, hod, -, -, -, g5⟩ := hd_at k2
    simp only [named, hoc, hod, SeqT] at hs
    rw [List.contains_iff_mem] at k3 k4
    have m1 : ∀ k ∈ rest p, k = d ∨ k ∈ rest q := fun k hk => by
      have := List.all_eq_true.1 k5 k hk
      simpa [List.contains_iff_mem] using this
    have m2 : ∀ k ∈ rest q, k = c ∨ k ∈ rest p := fun k hk => by
      have := List.all_eq_true.1 k6 k hk
      simpa [List.contains_iff_mem] using this
    have hcd : i = c ∨ i = d := by
      rcases List.mem_cons.1 hi with h | h
      · exact .inl h
      · have := List.all_eq_true.1 k7 i h
        rw [hno (c :: rest p) (fun k hk => hk)] at this
        simp only [Bool.or_false, beq_iff_eq] at this
        exact .inr this
    rcases hcd with rfl | rfl
    · rw [ho] at hoc
      cases hoc
      exact ⟨p, hs.1, k8, fun k hk => ⟨List.mem_cons_of_mem _ hk, g4 k hk⟩, fun k hk hne => (List.mem_cons.1 hk).resolve_left hne⟩
    · rw [ho] at hod
      cases hod
      refine ⟨q, hs.2, k9, fun k hk => ⟨?_, g5 k hk⟩, fun k hk hne => ?_⟩
      · rcases m2 k hk with rfl | h
        · simp [rest]
        · exact List.mem_cons_of_mem _ h
      · rcases List.mem_cons.1 hk with rfl | h
        · exact k4
        · exact (m1 k h).resolve_left hne
theorem run_made (hmd : md = .any) (hf : fine md ops = true) : ∀ (m : Nat) (left : List Nat) (listed : Array Bool) (a A : Act) (w : World) (B J : World → Prop) (post : Plan) (pre : List Nat), left.length = m → listed.size = ops.size → left.Nodup → (∀ j, j ∈ left ↔ listed.getD j true = false) →
    (∀ j, listed.getD j true = false → j ∈ pre ∨ j ∈ rest post) → (∀ p ∈ rest post, listed.getD p true = false) → (∀ k q, ops[k]? = some q → listed.getD k true = true → ∀ e ∈ q.after, Region.binds md e = true → listed.getD e.on true = true) → Agree ops A listed a → J w → St P ops Q md post pre A B J → wpAny P md ops Q m listed a w := by
  intro m
  induction m with
  | zero =>
    intro left listed a A w B J post pre hm hsz hnd hl hc hu hcl ha hJ hS
    have hn : left = [] := List.length_eq_zero_iff.1 hm
    subst hn
    obtain ⟨post', pre', A', k1, k2, k3, k4, k5⟩ := advance post pre A hS ha hu
    have hp : post' = .nil := by
      cases post' with
      | nil => rfl
      | look i p => cases k5
      | make i p => have := (hl i).2 (k3 i (by simp [rest])); cases this
      | fork i p j q => have := (hl i).2 (k3 i (by simp [rest])); cases this
    subst hp
    have ht : a = A' := by
      have ht : a.tmps = A'.tmps := by
        refine Array.ext k2.size fun t h1 h2 => ?_
        have := k2.at' t fun j o _ _ => by
          have := (hl j).2
          cases hx : listed.getD j true with
          | true => rfl
          | false => cases this hx
        simpa [h1, h2] using this
      have hd := k2.defers
      cases a; cases A'
      simp only at ht hd
      rw [ht, hd]
    subst ht
    refine ⟨?_, k1.seq w hJ⟩
    cases hr : Region.ready md ops listed with
    | nil => rfl
    | cons i rs =>
      have : i ∈ Region.ready md ops listed := by rw [hr]; simp
      have := (hl i).2 (mem_ready.1 this).1
      cases this
  | succ m ih =>
    intro left listed a A w B J post pre hm hsz hnd hl hc hu hcl ha hJ hS
    refine ⟨fun hr => ?_, fun i hi => ?_⟩
    · rw [ready_some hf left listed hsz hl hr] at hm; simp at hm
    obtain ⟨post', pre', A', k1, k2, k3, k4, k5⟩ := advance post pre A hS ha hu
    obtain ⟨hun, o, ho, hall⟩ := mem_ready.1 hi
    obtain ⟨f1, f2, f3, f4⟩ := fine_at hf ho
    have his : i < ops.size := (Array.getElem?_eq_some_iff.1 ho).1
    have hallD : ∀ e ∈ o.after, Region.binds md e = true → listed.getD e.on true = true := fun e he hb => by
      have h1 := hall e he hb
      rcases Nat.lt_or_ge e.on listed.size with hes | hes
      · simp [hes] at h1 ⊢
        exact h1
      · simp [show ¬ e.on < listed.size by omega]
    have hlook : ∀ t ∈ o.looksAt ops, ∀ j p, ops[j]? = some p → p.dst = some t → listed.getD j true = true := by
      intro t ht j p hj hp
      obtain ⟨e, he, hb, rfl⟩ := f4 t ht j p hj hp
      exact hallD e he hb
    have heval := k2.eval hlook
    have hwant := k2.wanted hlook
    have hmem : i ∈ left := (hl i).2 hun
    have hnext : ∀ (A1 : Act) (B1 J1 : World → Prop) (post1 : Plan) (pre1 : List Nat) (v : Value) (w' : World), A1.put o.dst v = A1 → Agree ops A1 listed a → J1 w' → St P ops Q md post1 pre1 A1 B1 J1 →
        (∀ j, listed.getD j true = false → j ≠ i → j ∈ pre1 ∨ j ∈ rest post1) → (∀ p ∈ rest post1, listed.getD p true = false ∧ p ≠ i) → wpAny P md ops Q m (listed.setIfInBounds i true) (a.put o.dst v) w' := by
      intro A1 B1 J1 post1 pre1 v w' hv hag hJ1 hS1 hc1 hu1
      refine ih (left.erase i) _ _ A1 w' B1 J1 post1 pre1 (by rw [List.length_erase_of_mem hmem, hm]; rfl) (by simpa using hsz) (hnd.erase i) (fun j => ?_) (fun j hj => ?_) (fun p hp => ?_) (fun k q hq hk e he hb => ?_) (hag.put ho hv) hJ1 hS1
      · rw [hnd.mem_erase_iff, hl j]
        by_cases e : i = j
        · subst e
          simp [show i < listed.size by omega]
        · rw [getD_set_ne true e]
          exact ⟨fun h => h.2, fun h => ⟨fun h' => e h'.symm, h⟩⟩
      · by_cases e : i = j
        · subst e
          simp [show i < listed.size by omega] at hj
        · rw [getD_set_ne true e] at hj
          exact hc1 j hj (fun h => e h.symm)
      · rw [getD_set_ne true (fun e => (hu1 p hp).2 e.symm)]
        exact (hu1 p hp).1
      · have hold : listed.getD e.on true = true := by
          by_cases ek : i = k
          · subst ek
            rw [ho] at hq
            cases hq
            exact hallD e he hb
          · rw [getD_set_ne true ek] at hk
            exact hcl k q hq hk e he hb
        by_cases ee : i = e.on
        · rw [← ee]
          simp [show i < listed.size by omega]
        · rw [getD_set_ne true ee]
          exact hold
    have hcase : i ∈ pre' ∨ i ∈ rest post' := k4 i (hc i hun)
    have hkeep : ∀ v w', A'.put o.dst v = A' → w' = w → i ∉ rest post' → wpAny P md ops Q m (listed.setIfInBounds i true) (a.put o.dst v) w' := fun v w' hv hw hn =>
      hnext A' B J post' pre' v w' hv k2 (hw ▸ hJ) k1 (fun j hj hne => k4 j (hc j hj)) (fun p hp => ⟨k3 p hp, fun e => hn (e ▸ hp)⟩)
    by_cases hpost : i ∈ rest post'
    · obtain ⟨p, ⟨hwc, howe⟩, hokp, hsub, hsup⟩ := next k1 k5 k3 ho hpost hallD
      have h := howe w hJ
      have hmake : ∀ u w', (∃ v B' J', A'.put o.dst u = A'.put o.dst v ∧ J' w' ∧ SeqT P ops Q (named ops p) (A'.put o.dst v) B' J' ∧ (∀ w, J' w → B' w) ∧ (endsAll2 ops o = true ∨ ∀ w, B' w → B w)) → wpAny P md ops Q m (listed.setIfInBounds i true) (a.put o.dst u) w' := by
        rintro u w' ⟨v, B', J', h1, h2, h3, h4, h5⟩
        rw [← h1] at h3
        rcases h5 with h5 | h5
        · have hend := endsAll2_at (listed := listed) h5 hsz his hun (fun e he hb => hallD e he (by rw [hmd]; exact hb)) (fun k q hq hk e he hb => hcl k q hq hk e he (by rw [hmd]; exact hb))
          exact hnext (A'.put o.dst u) B' J' p [] u w' (put_put _ _ _ _) (k2.more ho (k3 i hpost)) h2 ⟨h4, fun k hk => (by cases hk), fun k hk => (by cases hk), fun k hk => (by cases hk), fun k hk => (by cases hk), hokp, h3⟩ (fun j hj hne => (hne (hend j hj)).elim) (fun q hq => ⟨k3 q (hsub q hq).1, (hsub q hq).2⟩)
        refine hnext (A'.put o.dst u) B' J' p pre' u w' (put_put _ _ _ _) (k2.more ho (k3 i hpost)) h2 (k1.step ho hpost (fun k hk => (hsub k hk).1) hokp h5 h4 h3) (fun j hj hne => ?_) (fun q hq => ⟨k3 q (hsub q hq).1, (hsub q hq).2⟩)
        rcases k4 j (hc j hj) with h | h
        · exact .inl h
        · exact .inr (hsup j h hne)
      unfold wpOp
      simp only [ho]
      unfold wpList at h
      rw [hwant]
      simp only [hwc, if_true] at h ⊢
      rcases h with h | ⟨_, _, _, h, _⟩
      case inr => cases h
      refine .inl ?_
      unfold Oper.wp at h ⊢
      rw [execOp_congr o f1 heval]
      generalize (execOp A'.eval o).run P w = x at *
      cases x with
      | ok x w' =>
        cases x <;> simp only [Oper.upon] at h ⊢
        case value v => exact hmake v w' h.2
        case skip => exact hmake _ w' h.2
        case defer d =>
          obtain ⟨v, B', J', h1, _⟩ := h.2
          have := congrArg (fun b : Act => b.defers.length) h1
          simp only [put_defers] at this
          simp at this
        case enter f args =>
          refine Calls.mono h fun e w'' he => ?_
          cases e with
          | returned v => exact hmake v w'' he.2
          | panicked c => cases he.1
          | outgrown => obtain ⟨_, _, h, _⟩ := he; cases h
        case row row args => exact Rows.mono h fun v w'' he => hmake v w'' he.2
      | halt x w' =>
        cases x <;> simp only [Oper.upon] at h ⊢
        case panic u => cases h.1
    · have hpre : i ∈ pre' := hcase.resolve_right hpost
      have h := k1.fact i hpre o ho w (k1.sub w hJ)
      unfold wpOp
      simp only [ho]
      unfold wpList at h
      rw [hwant]
      split
      · rename_i hw
        simp only [hw, if_true] at h
        rcases h with h | ⟨_, _, _, h, _⟩
        case inr => cases h
        refine .inl ?_
        unfold Oper.wp at h ⊢
        rw [execOp_congr o f1 heval]
        generalize (execOp A'.eval o).run P w = r at *
        cases r with
        | ok x w' =>
          cases x <;> simp only [Oper.upon] at h ⊢
          case value v => exact hkeep v w' h.2.1 h.2.2 hpost
          case skip => exact hkeep _ w' h.2.1 h.2.2 hpost
          case defer d =>
            have := congrArg List.length (put_self h.2.1).1
            simp at this
          case enter f args =>
            refine Calls.mono h fun e w'' he => ?_
            cases e with
            | returned v => exact hkeep v w'' he.2.1 he.2.2 hpost
            | panicked c => cases he.1
            | outgrown => obtain ⟨_, _, h, _⟩ := he; cases h
          case row row args => exact Rows.mono h fun v w'' he => hkeep v w'' he.2.1 he.2.2 hpost
        | halt x w' =>
          cases x <;> simp only [Oper.upon] at h ⊢
          case panic u => cases h.1
      · rename_i hw
        simp only [hw] at h
        exact hkeep _ w h.2.1 rfl hpost

/-- the walk, behind a name that nothing unfolds -/
structure WalkT (P : Program) (ops : Array Oper) (Q : Exit → Act → World → Prop) (l : PlanO) (a : Act) (B J : World → Prop) : Prop where
  go : SeqT P ops Q l a B J
theorem WalkT.nil {a : Act} {B J : World → Prop} (h : ∀ w, J w → Q .normal a w) : WalkT P ops Q .nil a B J := ⟨h⟩
theorem WalkT.on {a : Act} {B J : World → Prop} {o : Oper} {r : PlanO} (hw : asks ops.toList o a.tmps.toList = true) {v : Value}
    (h1 : ∀ w, B w → wpList P ops (Lets (a.put o.dst v) w) [o] a w) (h : WalkT P ops Q r (a.put o.dst v) B J) : WalkT P ops Q (.look o r) a B J := by
  have hw' : Region.wanted o (yielded ops a.tmps) = true := (asks_eq _ _ _).trans hw
  refine ⟨?_⟩
  simp only [SeqT, hw', if_true]
  exact ⟨v, fun w hB => Lets.eq ▸ h1 w hB, h.go⟩
theorem WalkT.off {a : Act} {B J : World → Prop} {o : Oper} {r : PlanO} (hw : asks ops.toList o a.tmps.toList = false) (h : WalkT P ops Q r (a.put o.dst undef) B J) : WalkT P ops Q (.look o r) a B J := by
  have hw' : Region.wanted o (yielded ops a.tmps) = false := (asks_eq _ _ _).trans hw
  refine ⟨?_⟩
  simp only [SeqT, hw']
  exact h.go
structure MadeT (P : Program) (ops : Array Oper) (Q : Exit → Act → World → Prop) (r : PlanO) (a : Act) (o : Oper) (B : World → Prop) (e : Exit) (a' : Act) (w' : World) : Prop where
  e : e = .normal
  on : ∃ v B' J', a' = a.put o.dst v ∧ J' w' ∧ (∀ w, J' w → B' w) ∧ (endsAll2 ops o = true ∨ ∀ w, B' w → B w) ∧ WalkT P ops Q r (a.put o.dst v) B' J'
theorem owes {a : Act} {B J : World → Prop} {o : Oper} {r : PlanO} (hw : asks ops.toList o a.tmps.toList = true) (h1 : ∀ w, J w → wpList P ops (MadeT P ops Q r a o B) [o] a w) : Owes P ops a o B J (SeqT P ops Q r) := by
  have hw' : Region.wanted o (yielded ops a.tmps) = true := (asks_eq _ _ _).trans hw
  have he : MadeT P ops Q r a o B = fun e a' w' => e = .normal ∧ ∃ v B' J', a' = a.put o.dst v ∧ J' w' ∧ SeqT P ops Q r (a.put o.dst v) B' J' ∧ (∀ w, J' w → B' w) ∧ (endsAll2 ops o = true ∨ ∀ w, B' w → B w) := by
    funext e a' w'
    exact propext ⟨fun h => ⟨h.e, let ⟨v, B', J', h1, h2, h3, h4, h5⟩ := h.on; ⟨v, B', J', h1, h2, h5.go, h3, h4⟩⟩, fun h => ⟨h.1, let ⟨v, B', J', h1, h2, h3, h4, h5⟩ := h.2; ⟨v, B', J', h1, h2, h4, h5, ⟨h3⟩⟩⟩⟩
  exact ⟨hw', fun w hJ => he ▸ h1 w hJ⟩
theorem WalkT.make {a : Act} {B J : World → Prop} {o : Oper} {r : PlanO} (hw : asks ops.toList o a.tmps.toList = true) (h1 : ∀ w, J w → wpList P ops (MadeT P ops Q r a o B) [o] a w) : WalkT P ops Q (.make o r) a B J := ⟨owes hw h1⟩
theorem WalkT.fork {a : Act} {B J : World → Prop} {o o' : Oper} {r r' : PlanO} (hw : asks ops.toList o a.tmps.toList = true) (hw' : asks ops.toList o' a.tmps.toList = true) (h1 : ∀ w, J w → wpList P ops (MadeT P ops Q r a o B) [o] a w) (h2 : ∀ w, J w → wpList P ops (MadeT P ops Q r' a o' B) [o'] a w) :
    WalkT P ops Q (.fork o r o' r') a B J := ⟨owes hw h1, owes hw' h2⟩

theorem okT_lt : ∀ {p : Plan}, okT md ops p = true → ∀ k ∈ rest p, k < ops.size
  | .nil, _, k, hk => by cases hk
  | .look i p, h, k, hk => by
    simp only [okT, Bool.and_eq_true] at h
    rcases List.mem_cons.1 hk with rfl | hk
    · obtain ⟨o, ho, -⟩ := hd_at h.1
      exact (Array.getElem?_eq_some_iff.1 ho).1
    · exact okT_lt h.2 k hk
  | .make i p, h, k, hk => by
    simp only [okT, Bool.and_eq_true] at h
    rcases List.mem_cons.1 hk with rfl | hk
    · obtain ⟨o, ho, -⟩ := hd_at h.1.1
      exact (Array.getElem?_eq_some_iff.1 ho).1
    · exact okT_lt h.2 k hk
  | .fork i p j q, h, k, hk => by
    simp only [okT, Bool.and_eq_true] at h
    rcases List.mem_cons.1 hk with rfl | hk
    · obtain ⟨o, ho, -⟩ := hd_at h.1.1.1.1.1.1.1.1
      exact (Array.getElem?_eq_some_iff.1 ho).1
    · exact okT_lt h.1.2 k hk
theorem regionT {id : Nat} {a : Act} {w : World} (plan : Plan) (B : World → Prop) (hm : P.follows .mixedOrders = true) (hf : fine .any ops = true) (hok : okT .any ops plan = true) (hwh : whole ops plan = true) (hB : B w.drew)
    {l : PlanO} (hl : named ops plan = l) (hs : WalkT P ops Q l a B (fun W => W = w.drew)) : (Code.region id ops true).wp P Q a w := by
  subst hl
  refine wp_region_any hm ?_
  have h := run_made (md := .any) (P := P) (Q := Q) rfl hf ops.size (List.range ops.size) (Array.replicate ops.size false) a a w.drew B (fun W => W = w.drew) plan [] (by simp) (by simp) List.nodup_range (fun j => ?_) (fun j hj => ?_) (fun p hp => ?_) (fun k q hq hk => ?_) ⟨rfl, rfl, fun _ _ => rfl⟩ rfl
    ⟨fun W h => h ▸ hB, (fun i hi => nomatch hi), (fun i hi => nomatch hi), (fun i hi => nomatch hi), (fun i hi => nomatch hi), hok, hs.go⟩
  · exact h
  · rw [List.mem_range]
    by_cases h : j < ops.size
    · simp [h]
    · simp [h]
  · right
    have hjs : j < ops.size := by
      rcases Nat.lt_or_ge j ops.size with h | h
      · exact h
      · simp [h] at hj
    have := List.all_eq_true.1 hwh j (List.mem_range.2 hjs)
    simpa [List.contains_iff_mem] using this
  · simp [okT_lt hok p hp]
  · have := (Array.getElem?_eq_some_iff.1 hq).1
    simp [this] at hk
end
end Pt
end Go.Proofs.Ythfpfomifebpbaa

namespace Go.Proofs.Ythfpfomifebpbaa
open Go.RowKit Go.Maps
namespace Sa
open It
set_option linter.unusedSimpArgs false

def saga1 (order first regions : Int) (want : List It.Item) (waits : Bool) : Saga := ⟨order, first, regions, want, waits, 1, 1, List.replicate regions.toNat [], [first], false⟩
def beginU (s : Saga) : Except Int (Saga × List Step) := if mayS s then .ok (s, [⟨3, s.first, s.want, 0⟩]) else .error 1
def beginS (order first regions : Int) (want : List It.Item) (waits : Bool) : Except Int (Saga × List Step) :=
  if (visit first regions).length = 0 then .error 1 else beginU (saga1 order first regions want waits)
abbrev nilS : Value := .slice none 0 0
/-- a saga, steps and an error, by value -/
def Ret3 (lo : Nat) (w' : World) (e : Ending) : Except Int (Saga × List Step) → Prop
  | .error x => e = .returned (.tuple #[.agg (sagaC saga0 nilS nilS nilS), nilS, .int .i64 x])
  | .ok y => ∃ vw vg vp vl, e = .returned (.tuple #[.agg (sagaC y.1 vw vg vp), vl, .int .i64 0]) ∧ Parts w' lo w'.heap.size y.1 vw vg vp ∧ StepsAt w' lo w'.heap.size vl y.2

def Gives (lo : Nat) (W : World) (y : Saga) (v1 v2 v3 v4 : Value) (x : Int) : Except Int (Saga × List Step) → Prop
  | .error z => z = x ∧ v4 = nilS
  | .ok u => u.1 = y ∧ x = 0 ∧ Parts W lo W.heap.size u.1 v1 v2 v3 ∧ StepsAt W lo W.heap.size v4 u.2
theorem Ret3.form {lo : Nat} {W : World} {e : Ending} {r : Except Int (Saga × List Step)} (h : Ret3 lo W e r) :
    ∃ y A1 n1 c1 A2 n2 c2 A3 n3 c3 A4 n4 c4 x, e = .returned (.tuple #[.agg (sagaC y (.slice A1 n1 c1) (.slice A2 n2 c2) (.slice A3 n3 c3)), .slice A4 n4 c4, .int .i64 x]) ∧ Gives lo W y (.slice A1 n1 c1) (.slice A2 n2 c2) (.slice A3 n3 c3) (.slice A4 n4 c4) x r := by
  cases r with
  | error z => exact ⟨_, _, _, _, _, _, _, _, _, _, _, _, _, _, h, rfl, rfl⟩
  | ok u =>
    obtain ⟨vw, vg, vp, vl, rfl, hP, hS⟩ := h
    obtain ⟨A1, c1, rfl, -⟩ := hP.want.form
    obtain ⟨A2, c2, rfl, -⟩ := hP.got.form
    obtain ⟨A3, c3, rfl, -⟩ := hP.pend.form
    obtain ⟨A4, c4, rfl, -⟩ := hS.form
    exact ⟨_, _, _, _, _, _, _, _, _, _, _, _, _, _, rfl, rfl, rfl, hP, hS⟩
theorem GotAt.kept {Fr : Nat → Prop} {w w' : World} {lo B : Nat} {v : Value} {L : List (List It.Item)} (h : GotAt w lo B v L) (hk : Kept Fr w w') (hF : ∀ i, lo ≤ i → i < B → Fr i) : GotAt w' lo B v L := by
  obtain ⟨vs, h1, h2, h3⟩ := h
  exact ⟨vs, h1, hk.sl h2 hF, fun k hk' => hk.sl (h3 k hk') hF⟩
theorem Parts.kept {Fr : Nat → Prop} {w w' : World} {lo B : Nat} {s : Saga} {vw vg vp : Value} (h : Parts w lo B s vw vg vp) (hk : Kept Fr w w') (hF : ∀ i, lo ≤ i → i < B → Fr i) : Parts w' lo B s vw vg vp := ⟨hk.sl h.want hF, h.got.kept hk hF, hk.sl h.pend hF⟩
theorem Parts.wide {w : World} {lo lo' B B' : Nat} {s : Saga} {vw vg vp : Value} (h : Parts w lo B s vw vg vp) (hl : lo' ≤ lo) (hB : B ≤ B') : Parts w lo' B' s vw vg vp := ⟨h.want.wide hl hB, h.got.wide hl hB, h.pend.wide hl hB⟩
theorem StepsAt.kept {Fr : Nat → Prop} {w w' : World} {lo B : Nat} {v : Value} {l : List Step} (h : StepsAt w lo B v l) (hk : Kept Fr w w') (hF : ∀ i, lo ≤ i → i < B → Fr i) : StepsAt w' lo B v l := by
  obtain ⟨vs, h1, h2, h3⟩ := h
  exact ⟨vs, h1, hk.sl h2 hF, fun k hk' => hk.sl (h3 k hk') hF⟩
theorem begin_mem {W4 : World} {p : Nat} {s : Saga} {vw vg : Value} {lo : Nat} (n : Nat) (first : Int) (ho : Ob W4 p 27 (sagaC s vw nilS nilS)) (hw : ItemsAt W4 lo p vw s.want) (hlo : lo ≤ p) (hg : W4.ownsRow (p + 1) 22 1 vg n (List.replicate n nilS)) :
    (W4.alloc (.cells #[.int .i64 first] 3)).cell? ⟨p, 7, none⟩ = some nilS ∧ (W4.alloc (.cells #[.int .i64 first] 3)).frozen? ⟨p, 7, none⟩ = false ∧
    ((W4.alloc (.cells #[.int .i64 first] 3)).setCell ⟨p, 7, none⟩ vg).cell? ⟨p, 8, none⟩ = some nilS ∧ ((W4.alloc (.cells #[.int .i64 first] 3)).setCell ⟨p, 7, none⟩ vg).frozen? ⟨p, 8, none⟩ = false ∧
    ∃ W6, ((W4.alloc (.cells #[.int .i64 first] 3)).setCell ⟨p, 7, none⟩ vg).setCell ⟨p, 8, none⟩ (.slice (some ⟨W4.heap.size, 0, none⟩) 1 1) = W6 ∧
      Ob W6 p 27 (sagaC { s with got := List.replicate n [], pending := [first] } vw vg (.slice (some ⟨W4.heap.size, 0, none⟩) 1 1)) ∧
      Parts W6 lo W6.heap.size { s with got := List.replicate n [], pending := [first] } vw vg (.slice (some ⟨W4.heap.size, 0, none⟩) 1 1) ∧ Below p W4 W6 := by
  have hlt := ho.lt
  have hal := (Below.refl W4.heap.size W4).alloc (Nat.le_refl _) (.cells #[.int .i64 first] 3)
  have ho1 := ho.same hal
  have hw1 := hw.mono (hal.mono (by omega)) (Nat.le_refl _)
  have hg1 := row_later hg hal
  have hs1 : Sl (W4.alloc (.cells #[.int .i64 first] 3)) W4.heap.size (W4.heap.size + 1) 1 (.slice (some ⟨W4.heap.size, 0, none⟩) 1 1) 1 [.int .i64 first] := Sl.new W4 #[.int .i64 first] 3 (size := 1) (n := 1) rfl (by unfold maxLen; omega)
  have hz1 : (W4.alloc (.cells #[.int .i64 first] 3)).heap.size = W4.heap.size + 1 := World.size_alloc _ _
  have hb1 := hal.mono (show p ≤ W4.heap.size by omega)
  generalize W4.alloc (.cells #[.int .i64 first] 3) = W5 at *
  have ho2 := ho1.set 7 vg
  have ho3 := ho2.set 8 (.slice (some ⟨W4.heap.size, 0, none⟩) 1 1)
  have hk : Kept (fun i => i < W5.heap.size ∧ i ≠ p) W5 ((W5.setCell ⟨p, 7, none⟩ vg).setCell ⟨p, 8, none⟩ (.slice (some ⟨W4.heap.size, 0, none⟩) 1 1)) :=
    (Kept.of_grown (grownBy_set W5 p 7 vg) fun i hi => ⟨hi.1, fun e => hi.2 (by cases e; rfl)⟩).trans (Kept.of_grown (grownBy_set _ p 8 _) fun i hi => ⟨by rw [set_size]; exact hi.1, fun e => hi.2 (by cases e; rfl)⟩)
  refine ⟨ho1.cell rfl, ho1.frozen 7, ho2.cell rfl, ho2.frozen 8, _, rfl, ho3, ⟨?_, ?_, ?_⟩, hb1.trans (hk.below fun i hi => ⟨by omega, by omega⟩)⟩
  · exact (hk.sl hw1 fun i _ hb => ⟨by omega, by omega⟩).wide (Nat.le_refl _) (by rw [set_size, set_size]; omega)
  · have hg3 := own_kept hg1 hk fun g e => ⟨(hg1.lt g e).2, by have := (hg1.lt g e).1; omega⟩
    refine ⟨List.replicate n nilS, by simp, ?_, fun k hk' => ?_⟩
    · have := (Sl.of_own hg3).wide (show lo ≤ p + 1 by omega) (Nat.le_refl _)
      simpa using this
    · have hk' : k < n := by simpa using hk'
      rw [show (List.replicate n nilS).getD k (.slice none 0 0) = nilS by simp [List.getD, hk'], show (List.replicate n ([] : List It.Item)).getD k [] = [] by simp [List.getD, hk']]
      exact ItemsAt.nil _ _ _
  · exact (hk.sl hs1 fun i ha hb => ⟨by omega, by omega⟩).wide (by omega) (by rw [set_size, set_size]; omega)

set_option maxRecDepth 100000 in
set_option maxHeartbeats 4000000 in
theorem begin_calls (order first regions : Int) (want : List It.Item) (waits : Bool) (vw : Value) (w : World) (hw : ItemsAt w 0 w.heap.size vw want) (hF : Fits want) (hl : want.length ≤ 1000000) :
    Calls Try.prog 10 #[.int .i64 order, .int .i64 first, .int .i64 regions, vw, .bool waits] w fun e w' => Ret3 w.heap.size w' e (beginS order first regions want waits) ∧ Below w.heap.size w w' := by
  have hmx : Try.prog.follows .mixedOrders = true := by kernel_rfl
  obtain ⟨i0, hi0, hz0⟩ := Option.map_eq_some_iff.1 list_info
  simp only [Prod.mk.injEq] at hz0
  obtain ⟨hz0, hz1, hz2⟩ := hz0
  have HW := Lib.hid (fun W (hb : Below w.heap.size w W) => hw.mono hb hb.size)
  obtain ⟨A, c, rfl, -⟩ := hw.form
  clear hw
  have hal := (Below.refl w.heap.size w).alloc (Nat.le_refl _) (.cells #[.int .i64 0, .int .i64 0, .int .i64 0, .slice none 0 0, .bool false, .int .i64 0, .int .i64 0, .slice none 0 0, .slice none 0 0, .bool false] 27)
  have hoR := Ob.new w 27 #[.int .i64 0, .int .i64 0, .int .i64 0, .slice none 0 0, .bool false, .int .i64 0, .int .i64 0, .slice none 0 0, .slice none 0 0, .bool false]
  have hza : (w.alloc (.cells #[.int .i64 0, .int .i64 0, .int .i64 0, .slice none 0 0, .bool false, .int .i64 0, .int .i64 0, .slice none 0 0, .slice none 0 0, .bool false] 27)).heap.size = w.heap.size + 1 := World.size_alloc _ _
  have cV := Lib.hid (fun W => visit_calls first regions W)
  unfold beginS
  by_cases hv : (visit first regions).length = 0
  · rw [if_pos hv]
    rw [hv] at cV
    clear hv
    go_enter Try.func10, Try.ntmps10
    go_wp2_with fail
    refine (cV.out _).mono ?_
    rintro e W1 ⟨⟨v1, rfl, hv1⟩, hb1⟩
    obtain ⟨A1, c1, rfl, -⟩ := (Sl.of_own hv1).at_
    have hoR1 := hoR.same hb1
    have hB1 := hal.trans (hb1.mono hal.size)
    go_wp2_with (refine wpList_store_ob (cells := #[.int .i64 0, .int .i64 0, .int .i64 0, .slice none 0 0, .bool false, .int .i64 0, .int .i64 0, .slice none 0 0, .slice none 0 0, .bool false]) rfl 27 (.tmp 10) (.tmp 19) rfl rfl rfl hoR1 rfl (by kernel_rfl) (by simp [Value.oneCell']) ?_; intro W8 ho8 hg8)
    have hBf := hB1.grown hg8 (by have := hB1.size; omega) (fun g e => by have e2 : w.heap.size = g := Option.some.inj e; omega)
    obtain ⟨p0, p1, p2, p3, p4, p5, p6, p7, p8, p9⟩ := ob_ten ho8
    refine bodyPost_ret (v := .tuple #[.agg (sagaC saga0 nilS nilS nilS), nilS, .int .i64 1]) ?_ rfl ⟨rfl, hBf⟩
    simp [results, Try.f10, go_sem, sagaC, saga0, nilS, p0, p1, p2, p3, p4, p5, p6, p7, p8, p9]
  · rw [if_neg hv]
    have hd : decide (((visit first regions).length : Int) = 0) = false := decide_eq_false (by omega)
    have hd2 : (((visit first regions).length : Int) == 0) = false := by rw [beq_eq_false_iff_ne]; omega
    have hr : ¬ (regions < 1 ∨ 8 < regions ∨ first < 0 ∨ regions ≤ first) := fun hb => hv (by rw [visit_none hb]; rfl)
    obtain ⟨n, hn⟩ : ∃ n : Nat, regions = n := ⟨regions.toNat, by omega⟩
    have hn1 : 1 ≤ n ∧ n ≤ 8 := by omega
    unfold saga1
    rw [hn] at cV hd hd2 ⊢
    rw [Int.toNat_natCast]
    generalize hvs : visit first (n : Int) = vs at cV hd hd2
    clear hvs hv hr hn
    go_enter Try.func10, Try.ntmps10
    go_wp2_with fail
    refine (cV.out _).mono ?_
    rintro e W1 ⟨⟨v1, rfl, hv1⟩, hb1⟩
    obtain ⟨A1, c1, rfl, -⟩ := (Sl.of_own hv1).at_
    have hoR1 := hoR.same hb1
    have hB1 := hal.trans (hb1.mono hal.size)
    have cC := Lib.hid (clonei_calls want _ W1 (HW.out _ hB1) hl)
    have hs1 : w.heap.size + 1 ≤ W1.heap.size := hoR1.lt
    clear hv1 hoR hal hb1 cV
    go_wp2_with fail
    refine cC.out.mono ?_
    rintro e W2 ⟨⟨v2, rfl, hv2⟩, hb2⟩
    have hoR2 := hoR1.same hb2
    have hB2 := hB1.trans (hb2.mono hB1.size)
    obtain ⟨A2, c2, rfl, -⟩ := (ItemsAt.of_own hv2).form
    clear hoR1 hB1 cC hb2
    obtain ⟨s0, hs0⟩ : ∃ s0 : Saga, s0 = ⟨order, first, n, want, waits, 1, 1, [], [], false⟩ := ⟨_, rfl⟩
    have hC0 : sagaC s0 (.slice A2 want.length c2) nilS nilS = #[.int .i64 order, .int .i64 first, .int .i64 n, .slice A2 want.length c2, .bool waits, .int .i64 1, .int .i64 1, .slice none 0 0, .slice none 0 0, .bool false] := by rw [hs0]; rfl
    have hal3 := (Below.refl W2.heap.size W2).alloc (Nat.le_refl _) (.cells #[.int .i64 order, .int .i64 first, .int .i64 n, .slice A2 want.length c2, .bool waits, .int .i64 1, .int .i64 1, .slice none 0 0, .slice none 0 0, .bool false] 27)
    have ho3 := Ob.new W2 27 #[.int .i64 order, .int .i64 first, .int .i64 n, .slice A2 want.length c2, .bool waits, .int .i64 1, .int .i64 1, .slice none 0 0, .slice none 0 0, .bool false]
    have hv3 := row_later hv2 hal3
    have hoR3 := hoR2.same hal3
    have hlow := fun g e => (hv2.lt g e).2
    have hz3 : (W2.alloc (.cells #[.int .i64 order, .int .i64 first, .int .i64 n, .slice A2 want.length c2, .bool waits, .int .i64 1, .int .i64 1, .slice none 0 0, .slice none 0 0, .bool false] 27)).heap.size = W2.heap.size + 1 := World.size_alloc _ _
    have hB3 := hB2.trans (hal3.mono hB2.size)
    have hs2 := hoR2.lt
    obtain ⟨W4, hmk, hrow4, hgr4⟩ := run_make_full (P := Try.prog) (W2.alloc (.cells #[.int .i64 order, .int .i64 first, .int .i64 n, .slice A2 want.length c2, .bool waits, .int .i64 1, .int .i64 1, .slice none 0 0, .slice none 0 0, .bool false] 27)) (W2.heap.size + 1) 24 22 i0 _ 1 Try.underlying24 hi0 hz0 hz1 .i64 .i64 n (by rw [hz2]; omega) (by unfold maxLen; omega) (by omega)
    have hz34 := hgr4.size
    rw [hz3] at hmk hrow4 hz34
    have ho4 : Ob W4 W2.heap.size 27 (sagaC s0 (.slice A2 want.length c2) nilS nilS) := by rw [hC0]; exact ho3.kept hgr4 (by simp)
    have hrow4' : W4.ownsRow (W2.heap.size + 1) 22 1 (.slice (some ⟨W2.heap.size + 1, 0, none⟩) n n) n (List.replicate n nilS) := by
      rw [← toList_madeCells_one]
      have h := hrow4
      rw [Nat.mul_one] at h
      exact h
    have hv4 : ItemsAt W4 (w.heap.size + 1) W2.heap.size (.slice A2 want.length c2) s0.want := by
      rw [hs0]
      have h2 := hv3.kept hgr4 (by
        cases hq : Value.ownBlock (.slice A2 want.length c2) with
        | none => exact .inl rfl
        | some g => exact .inr (by simp))
      exact (own_sl h2 hlow).wide hs1 (Nat.le_refl _)
    obtain ⟨g7, f7, g8, f8, W6, hW6, ho6, hP6, hb6⟩ := begin_mem n first ho4 hv4 (by omega) hrow4'
    have hB4 : Below w.heap.size w W4 := hB3.grown hgr4 (by omega) (fun g e => by cases e)
    have hoR6 := (hoR3.kept hgr4 (by simp)).below hb6 (by omega)
    have hB6 := Lib.hid (hB4.trans (hb6.mono (by omega)))
    obtain ⟨S, hS⟩ : ∃ S : Saga, S = { s0 with got := List.replicate n [], pending := [first] } := ⟨_, rfl⟩
    rw [← hS] at ho6 hP6
    have hSP : (⟨order, first, n, want, waits, 1, 1, List.replicate n [], [first], false⟩ : Saga) = S := by rw [hS, hs0]
    have hFS : Fit S := by
      rw [hS, hs0]
      refine ⟨hF, fun l hl => ?_⟩
      obtain ⟨-, rfl⟩ := List.mem_replicate.1 hl
      intro x hx
      simp at hx
    have hSw : S.want = want ∧ S.first = first := by rw [hS, hs0]; exact ⟨rfl, rfl⟩
    have HSW := Lib.hid hSw
    have HSP := Lib.hid hSP
    have HO6 := Lib.hid ho6
    have cM := Lib.hid (sagamay_calls S _ _ _ W6 (hP6.wide (Nat.zero_le _) (Nat.le_refl _)) hFS)
    have HP6 := Lib.hid hP6
    have HOR6 := Lib.hid hoR6
    have hs6 := hB6.out.size
    clear hal3 ho3 hv3 hoR3 hlow hB3 hrow4 ho4 hrow4' hv4 hB4 hb6 hs0 ho6 hP6 hoR6 hC0 hv2 hgr4 hSP hSw hFS hS
    go_wp2_with (refine wpList_load_obg (by rfl) _ _ rfl rfl _ HO6.out Try.underlying27 rfl (by kernel_rfl) ?_)
    refine cM.out.mono ?_
    rintro e W7 ⟨rfl, hb7⟩
    have hoR7 := HOR6.out.same hb7
    have hB7 := hB6.out.trans (hb7.mono hs6)
    have hs7 := hoR7.lt
    generalize hm : mayS S = m
    have HM := Lib.hid hm
    clear hm
    cases m with
    | false =>
      go_wp2_with (refine wpList_store_ob (cells := #[.int .i64 0, .int .i64 0, .int .i64 0, .slice none 0 0, .bool false, .int .i64 0, .int .i64 0, .slice none 0 0, .slice none 0 0, .bool false]) rfl 27 (.tmp 10) (.tmp 36) rfl rfl rfl hoR7 rfl (by kernel_rfl) (by simp [Value.oneCell']) ?_; intro W8 ho8 hg8)
      have hBf := hB7.grown hg8 (by omega) (fun g e => by have e2 : w.heap.size = g := Option.some.inj e; omega)
      obtain ⟨p0, p1, p2, p3, p4, p5, p6, p7, p8, p9⟩ := ob_ten ho8
      refine bodyPost_ret (v := .tuple #[.agg (sagaC saga0 nilS nilS nilS), nilS, .int .i64 1]) ?_ rfl ⟨by rw [HSP.out]; unfold beginU; rw [HM.out]; exact rfl, hBf⟩
      simp [results, Try.f10, go_sem, sagaC, saga0, nilS, p0, p1, p2, p3, p4, p5, p6, p7, p8, p9]
    | true =>
      have hob70 := HO6.out.same hb7
      have hob7 : Ob W7.drew W2.heap.size 27 (sagaC S (.slice A2 want.length c2) (.slice (some ⟨W2.heap.size + 1, 0, none⟩) n n) (.slice (some ⟨W4.heap.size, 0, none⟩) 1 1)) := hob70
      clear hob70
      have hP7 : Parts W7.drew _ W7.drew.heap.size S _ _ _ := (HP6.out.mono hb7 hb7.size).mono ((Below.refl W7.heap.size W7).drew) (Nat.le_refl _)
      have hoR7 : Ob W7.drew w.heap.size 27 _ := hoR7
      have hB7 := hB7.drew
      have cK := Lib.hid (clonei_calls want _ W7.drew (HW.out _ hB7) hl)
      have hlt7 := hob7.lt
      clear HO6 HP6 HOR6 cM hb7
      go_wp2
      refine Pt.regionT (.look 0 (.look 1 (.look 2 (.make 3 (.look 4 (.fork 5 (.make 6 (.look 7 (.look 8 .nil))) 6 (.make 5 (.look 7 (.look 8 .nil))))))))) (fun V => Ob V W2.heap.size 27 (sagaC S (.slice A2 want.length c2) (.slice (some ⟨W2.heap.size + 1, 0, none⟩) n n) (.slice (some ⟨W4.heap.size, 0, none⟩) 1 1))) hmx (by kernel_rfl) (by kernel_rfl) (by kernel_rfl) hob7 rfl ?_
      simp only [Pt.named, List.getElem?_toArray, List.getElem?_cons_succ, List.getElem?_cons_zero, Option.map_some]
      iterate 3 (
        apply Pt.WalkT.on (by rfl)
        · intro V hV
          go_wp2_with (refine wpList_load_obg (by rfl) _ _ rfl rfl _ hV Try.underlying27 rfl (by kernel_rfl) ?_)
          refine ⟨rfl, ?_, rfl⟩
          try simp only [Act.put, List.setIfInBounds_toArray, List.set_cons_succ, List.set_cons_zero]
          rfl
        simp only [Act.put, List.setIfInBounds_toArray, List.set_cons_succ, List.set_cons_zero])
      refine Pt.WalkT.make (by rfl) ?_
      rintro W rfl
      go_wp2_with (go_at_call 29; refine cK.out.mono ?_; rintro e W8 ⟨⟨v8, rfl, hv8⟩, hb8⟩)
      have hob8 := hob7.same hb8
      have hP8 := hP7.mono hb8 hb8.size
      have hoR8 := hoR7.same hb8
      have hB8 := hB7.trans (hb8.mono hB7.size)
      have hs7' : w.heap.size + 1 ≤ W7.drew.heap.size := hs7
      have hs8 := hb8.size
      have hv8 := (ItemsAt.of_own hv8).wide hs7' (Nat.le_refl _)
      obtain ⟨A8, c8, rfl, -⟩ := hv8.form
      clear cK
      refine ⟨rfl, .slice A8 want.length c8, _, (fun V => V = W8), ?_, rfl, (fun V h => by rw [h]; exact hob8), (.inr (fun _ h => h)), ?_⟩
      · simp only [Act.put, List.setIfInBounds_toArray, List.set_cons_succ, List.set_cons_zero]
      simp only [Act.put, List.setIfInBounds_toArray, List.set_cons_succ, List.set_cons_zero]
      iterate 1 (
        apply Pt.WalkT.on (by rfl)
        · intro V hV
          go_wp2_with fail
          refine ⟨rfl, ?_, rfl⟩
          try simp only [Act.put, List.setIfInBounds_toArray, List.set_cons_succ, List.set_cons_zero]
          rfl
        simp only [Act.put, List.setIfInBounds_toArray, List.set_cons_succ, List.set_cons_zero])
      refine Pt.WalkT.fork (by rfl) (by rfl) ?_ ?_
      · intro W hWJ
        cases hWJ.symm
        have hst := StepsAt.one' (w := W8) (x := ⟨3, first, want, 0⟩) hv8 (Nat.le_refl _) (by omega)
        have hal9 := (Below.refl W8.heap.size W8).alloc (Nat.le_refl _) (.cells #[.int .i64 3, .int .i64 first, .slice A8 want.length c8, .int .i64 0] 52)
        have hob9 := hob8.same hal9
        have hP9 := hP8.mono hal9 hal9.size
        have hz9 : (W8.alloc (.cells #[.int .i64 3, .int .i64 first, .slice A8 want.length c8, .int .i64 0] 52)).heap.size = W8.heap.size + 1 := World.size_alloc _ _
        have hoR9 := hoR8.same hal9
        have hB9 := hB8.trans (hal9.mono hB8.size)
        go_wp2_with fail
        refine ⟨rfl, .slice (some ⟨W8.heap.size, 0, none⟩) 1 1, _, (fun V => V = _), ?_, rfl, (fun V h => by rw [h]; exact hob9), (.inr (fun _ h => h)), ?_⟩
        · simp only [Act.put, List.setIfInBounds_toArray, List.set_cons_succ, List.set_cons_zero]
        simp only [Act.put, List.setIfInBounds_toArray, List.set_cons_succ, List.set_cons_zero]
        refine Pt.WalkT.make (by rfl) ?_
        intro W hWJ
        subst hWJ
        go_wp2_with (refine wpList_store_ob (cells := (sagaC S (.slice A2 want.length c2) (.slice (some ⟨W2.heap.size + 1, 0, none⟩) n n) (.slice (some ⟨W4.heap.size, 0, none⟩) 1 1))) rfl 27 (.tmp 10) (.tmp 37) rfl rfl rfl hoR9 rfl (by kernel_rfl) (by simp [sagaC, Value.oneCell']) ?_; intro W10 ho10 hg10)
        have hk10 := Kept.of_grown (Fr := fun i => i < (W8.alloc (.cells #[.int .i64 3, .int .i64 first, .slice A8 want.length c8, .int .i64 0] 52)).heap.size ∧ i ≠ w.heap.size) hg10 fun i hi => ⟨hi.1, fun e => hi.2 (by cases e; rfl)⟩
        have hs10 := hg10.size
        have hob10 := hob9.kept hg10 (by simp; omega)
        have hP10 := (hP9.kept hk10 fun i ha hb => ⟨hb, by omega⟩).wide (show w.heap.size ≤ w.heap.size + 1 by omega) hs10
        have hst10 := (hst.kept hk10 fun i ha hb => ⟨by omega, by omega⟩).wide (show w.heap.size ≤ w.heap.size + 1 by omega) (show W8.heap.size + 1 ≤ W10.heap.size by omega)
        have hB10 := hB9.grown hg10 (by omega) (fun g e => by have e2 : w.heap.size = g := Option.some.inj e; omega)
        refine ⟨rfl, undef, _, (fun V => V = W10), ?_, rfl, (fun V h => by rw [h]; exact hob10), (.inr (fun _ h => h)), ?_⟩
        · simp only [Act.put, List.setIfInBounds_toArray, List.set_cons_succ, List.set_cons_zero]
        simp only [Act.put, List.setIfInBounds_toArray, List.set_cons_succ, List.set_cons_zero]
        iterate 2 (
          apply Pt.WalkT.on (by rfl)
          · intro V hV
            go_wp2_with fail
            refine ⟨rfl, ?_, rfl⟩
            try simp only [Act.put, List.setIfInBounds_toArray, List.set_cons_succ, List.set_cons_zero]
            rfl
          simp only [Act.put, List.setIfInBounds_toArray, List.set_cons_succ, List.set_cons_zero])
        refine Pt.WalkT.nil ?_
        rintro V hVJ
        cases hVJ.symm
        obtain ⟨p0, p1, p2, p3, p4, p5, p6, p7, p8, p9⟩ := ob_ten ho10
        obtain ⟨es, ef⟩ := HSW.out
        go_wp2
        refine bodyPost_ret (v := .tuple #[.agg (sagaC S (.slice A2 want.length c2) (.slice (some ⟨W2.heap.size + 1, 0, none⟩) n n) (.slice (some ⟨W4.heap.size, 0, none⟩) 1 1)), .slice (some ⟨W8.heap.size, 0, none⟩) 1 1, .int .i64 0]) ?_ rfl ⟨by rw [HSP.out]; unfold beginU; rw [HM.out, es, ef]; exact ⟨_, _, _, _, rfl, hP10, hst10⟩, hB10⟩
        simp [results, Try.f10, go_sem, sagaC, p0, p1, p2, p3, p4, p5, p6, p7, p8, p9]
      · intro W hWJ
        cases hWJ.symm
        go_wp2_with (refine wpList_store_ob (cells := (sagaC S (.slice A2 want.length c2) (.slice (some ⟨W2.heap.size + 1, 0, none⟩) n n) (.slice (some ⟨W4.heap.size, 0, none⟩) 1 1))) rfl 27 (.tmp 10) (.tmp 37) rfl rfl rfl hoR8 rfl (by kernel_rfl) (by simp [sagaC, Value.oneCell']) ?_; intro W9 ho9 hg9)
        have hk9 := Kept.of_grown (Fr := fun i => i < W8.heap.size ∧ i ≠ w.heap.size) hg9 fun i hi => ⟨hi.1, fun e => hi.2 (by cases e; rfl)⟩
        have hs9 := hg9.size
        have hob9 := hob8.kept hg9 (by simp; omega)
        have hP9 := (hP8.kept hk9 fun i ha hb => ⟨hb, by omega⟩).wide (show w.heap.size ≤ w.heap.size + 1 by omega) hs9
        have hv9 := ItemsAt.wide (hk9.sl hv8 fun i ha hb => ⟨hb, by omega⟩) (show w.heap.size ≤ w.heap.size + 1 by omega) hs9
        have hB9 := hB8.grown hg9 (by omega) (fun g e => by have e2 : w.heap.size = g := Option.some.inj e; omega)
        refine ⟨rfl, undef, _, (fun V => V = W9), ?_, rfl, (fun V h => by rw [h]; exact hob9), (.inr (fun _ h => h)), ?_⟩
        · simp only [Act.put, List.setIfInBounds_toArray, List.set_cons_succ, List.set_cons_zero]
        simp only [Act.put, List.setIfInBounds_toArray, List.set_cons_succ, List.set_cons_zero]
        refine Pt.WalkT.make (by rfl) ?_
        intro W hWJ
        cases hWJ.symm
        have hst0 := StepsAt.one' (w := W9) (x := ⟨3, first, want, 0⟩) hv9 (Nat.le_refl _) (by omega)
        have hst := hst0.wide (Nat.le_refl _) (show W9.heap.size + 1 ≤ (W9.alloc (.cells #[.int .i64 3, .int .i64 first, .slice A8 want.length c8, .int .i64 0] 52)).heap.size by rw [World.size_alloc]; omega)
        clear hst0
        have hal10 := (Below.refl W9.heap.size W9).alloc (Nat.le_refl _) (.cells #[.int .i64 3, .int .i64 first, .slice A8 want.length c8, .int .i64 0] 52)
        have hob10 := hob9.same hal10
        have hP10 := hP9.mono hal10 hal10.size
        have hB10 := hB9.trans (hal10.mono hB9.size)
        have ho10 := ho9.same hal10
        go_wp2_with fail
        refine ⟨rfl, .slice (some ⟨W9.heap.size, 0, none⟩) 1 1, _, (fun V => V = _), ?_, rfl, (fun V h => by rw [h]; exact hob10), (.inr (fun _ h => h)), ?_⟩
        · simp only [Act.put, List.setIfInBounds_toArray, List.set_cons_succ, List.set_cons_zero]
        simp only [Act.put, List.setIfInBounds_toArray, List.set_cons_succ, List.set_cons_zero]
        iterate 2 (
          apply Pt.WalkT.on (by rfl)
          · intro V hV
            go_wp2_with fail
            refine ⟨rfl, ?_, rfl⟩
            try simp only [Act.put, List.setIfInBounds_toArray, List.set_cons_succ, List.set_cons_zero]
            rfl
          simp only [Act.put, List.setIfInBounds_toArray, List.set_cons_succ, List.set_cons_zero])
        refine Pt.WalkT.nil ?_
        rintro V hVJ
        cases hVJ.symm
        obtain ⟨p0, p1, p2, p3, p4, p5, p6, p7, p8, p9⟩ := ob_ten ho10
        obtain ⟨es, ef⟩ := HSW.out
        go_wp2
        refine bodyPost_ret (v := .tuple #[.agg (sagaC S (.slice A2 want.length c2) (.slice (some ⟨W2.heap.size + 1, 0, none⟩) n n) (.slice (some ⟨W4.heap.size, 0, none⟩) 1 1)), .slice (some ⟨W9.heap.size, 0, none⟩) 1 1, .int .i64 0]) ?_ rfl ⟨by rw [HSP.out]; unfold beginU; rw [HM.out, es, ef]; exact ⟨_, _, _, _, rfl, hP10, hst⟩, hB10⟩
        simp [results, Try.f10, go_sem, sagaC, p0, p1, p2, p3, p4, p5, p6, p7, p8, p9]
end Sa
end Go.Proofs.Ythfpfomifebpbaa

namespace Go.Proofs.Ythfpfomifebpbaa
open Go.RowKit Go.Maps
namespace Sa
open It
variable {mlo : Nat}
set_option linter.unusedSimpArgs false

def retryS (s : Saga) : Except Int (Saga × List Step) := if s.state = 3 then beginS s.order s.first s.regions s.want s.waits else .error 80

theorem retry_end {r : Except Int (Saga × List Step)} {W1 W5 : World} {lo b n1 c1 n2 c2 n3 c3 n4 c4 : Nat} {A1 A2 A3 A4 : Option Addr} {y : Saga} {x : Int}
    (hr : Gives lo W1 y (.slice A1 n1 c1) (.slice A2 n2 c2) (.slice A3 n3 c3) (.slice A4 n4 c4) x r)
    (hk : Kept (fun i => lo ≤ i ∧ i < W1.heap.size) W1 W5) (hob : Ob W5 b 27 (sagaC y (.slice A1 n1 c1) (.slice A2 n2 c2) (.slice A3 n3 c3))) (hlo : b < lo) (hmb : mlo ≤ b) :
    Ret mlo W5 b (.returned (.tuple #[.slice A4 n4 c4, .int .i64 x])) r := by
  cases r with
  | error z =>
    obtain ⟨rfl, h⟩ := hr
    show Ending.returned _ = _
    rw [h]
  | ok u =>
    obtain ⟨rfl, rfl, hP, hS⟩ := hr
    have hsz := hk.size
    have hP5 := hP.kept hk fun i ha hb => ⟨ha, hb⟩
    obtain ⟨vs, g1, g2, g3⟩ := hP5.got
    refine ⟨_, rfl, (hS.kept hk fun i ha hb => ⟨ha, hb⟩).wide (by omega) hsz, _, _, _, hob, ⟨hmb, ⟨lo, _, by omega, .inr hlo, hsz, hP5.want⟩, ⟨vs, g1, ⟨lo, _, by omega, .inr hlo, hsz, g2⟩, fun k hk' => ⟨lo, _, by omega, .inr hlo, hsz, g3 k hk'⟩⟩, ⟨lo, _, by omega, .inr hlo, hsz, hP5.pend⟩⟩⟩

set_option maxRecDepth 100000 in
set_option maxHeartbeats 4000000 in
theorem retry_calls (s : Saga) (vw vg vp : Value) (b : Nat) (w : World) (ho : Ob w b 27 (sagaC s vw vg vp)) (hf : Off mlo w b s vw vg vp) (hF : Fits s.want) (hl : s.want.length ≤ 1000000) :
    Calls Try.prog 59 #[.pointer (some ⟨b, 0, none⟩)] w fun e w' => Ret mlo w' b e (retryS s) ∧ Below b w w' := by
  have hmx : Try.prog.follows .mixedOrders = true := by kernel_rfl
  have hlt := ho.lt
  obtain ⟨-, -, -, -, -, k5, -, -, -, -⟩ := ob_ten ho
  unfold retryS
  by_cases h3 : s.state = 3
  · rw [if_pos h3]
    have d1 : decide (s.state = 3) = true := decide_eq_true h3
    have d2 : (s.state == 3) = true := by rw [beq_iff_eq]; exact h3
    have d3 : (s.state != 3) = false := by simp [bne, d2]
    have hob : Ob w.drew b 27 (sagaC s vw vg vp) := ho
    have hpa := hf.parts
    obtain ⟨A, c, rfl, -⟩ := hpa.want.form
    have hdr : Below w.heap.size w w.drew := (Below.refl _ w).drew
    have hdz : w.drew.heap.size = w.heap.size := rfl
    have cB := Lib.hid (fun V (h : Below w.drew.heap.size w.drew V) => begin_calls s.order s.first s.regions s.want s.waits (.slice A s.want.length c) V (hpa.want.mono (hdr.trans h) (by have := h.size; have : w.drew.heap.size = w.heap.size := rfl; omega)) hF hl)
    have hmb := hf.mb
    clear ho hf hpa h3
    go_enter Try.func59, Try.ntmps59
    go_wp2
    refine Pt.regionT (.look 0 (.look 1 (.look 2 (.look 3 (.look 4 (.look 5 (.look 6 (.look 7 (.look 8 (.look 9 (.look 10 (.look 11 (.look 12 (.look 13 (.look 14 (.look 15 (.look 16 (.look 17 (.look 18 (.look 19 (.fork 20 (.look 21 (.look 22 (.look 23 (.look 24 (.make 25 (.make 26 (.look 27 (.look 28 .nil)))))))) 25 (.make 20 (.look 21 (.look 22 (.look 23 (.look 24 (.make 26 (.look 27 (.look 28 .nil))))))))))))))))))))))))))))) (fun V => Ob V b 27 (sagaC s (.slice A s.want.length c) vg vp)) hmx (by kernel_rfl) (by kernel_rfl) (by kernel_rfl) hob rfl ?_
    simp only [Pt.named, List.getElem?_toArray, List.getElem?_cons_succ, List.getElem?_cons_zero, Option.map_some]
    iterate 20 (
      apply Pt.WalkT.on (by rfl)
      · intro V hV
        obtain ⟨q0, q1, q2, q3, q4, q5, q6, q7, q8, q9⟩ := ob_ten hV
        go_wp2_with fail
        refine ⟨rfl, ?_, rfl⟩
        try simp only [Act.put, List.setIfInBounds_toArray, List.set_cons_succ, List.set_cons_zero]
        rfl
      simp only [Act.put, List.setIfInBounds_toArray, List.set_cons_succ, List.set_cons_zero])
    refine Pt.WalkT.fork (by rfl) (by rfl) ?_ ?_
    · intro W hWJ
      cases hWJ.symm
      go_wp2_with (go_at_call 10; refine (cB.out w.drew (Below.refl _ _)).mono ?_; rintro e W1 ⟨hr, hb1⟩; obtain ⟨y, A1, n1, c1, A2, n2, c2, A3, n3, c3, A4, n4, c4, xx, rfl, hgv⟩ := hr.form; clear hr)
      have hob1 := hob.same hb1
      have hs1 := hb1.size
      refine ⟨rfl, .tuple #[.agg (sagaC y (.slice A1 n1 c1) (.slice A2 n2 c2) (.slice A3 n3 c3)), .slice A4 n4 c4, .int .i64 xx], _, (fun V => V = W1), ?_, rfl, (fun V h => by rw [h]; exact hob1), (.inr (fun _ h => h)), ?_⟩
      · simp only [Act.put, List.setIfInBounds_toArray, List.set_cons_succ, List.set_cons_zero]
      simp only [Act.put, List.setIfInBounds_toArray, List.set_cons_succ, List.set_cons_zero]
      iterate 4 (
        apply Pt.WalkT.on (by rfl)
        · intro V hV
          go_wp2_with fail
          refine ⟨rfl, ?_, rfl⟩
          try simp only [Act.put, List.setIfInBounds_toArray, List.set_cons_succ, List.set_cons_zero]
          rfl
        simp only [Act.put, List.setIfInBounds_toArray, List.set_cons_succ, List.set_cons_zero])
      refine Pt.WalkT.make (by rfl) ?_
      intro W hWJ
      cases hWJ.symm
      have halk := (Below.refl W1.heap.size W1).alloc (Nat.le_refl _) (.cells #[.int .i64 0, .int .i64 0, .int .i64 0, .slice none 0 0, .bool false, .int .i64 0, .int .i64 0, .slice none 0 0, .slice none 0 0, .bool false] 27)
      have hob2 := hob1.same halk
      have hq := Ob.new W1 27 #[.int .i64 0, .int .i64 0, .int .i64 0, .slice none 0 0, .bool false, .int .i64 0, .int .i64 0, .slice none 0 0, .slice none 0 0, .bool false]
      have hzq : (W1.alloc (.cells #[.int .i64 0, .int .i64 0, .int .i64 0, .slice none 0 0, .bool false, .int .i64 0, .int .i64 0, .slice none 0 0, .slice none 0 0, .bool false] 27)).heap.size = W1.heap.size + 1 := World.size_alloc _ _
      go_wp2_with fail
      refine ⟨rfl, .pointer (some ⟨W1.heap.size, 0, none⟩), _, (fun V => V = _), ?_, rfl, (fun V h => by rw [h]; exact hob2), (.inr (fun _ h => h)), ?_⟩
      · simp only [Act.put, List.setIfInBounds_toArray, List.set_cons_succ, List.set_cons_zero]
      simp only [Act.put, List.setIfInBounds_toArray, List.set_cons_succ, List.set_cons_zero]
      generalize W1.alloc (.cells #[.int .i64 0, .int .i64 0, .int .i64 0, .slice none 0 0, .bool false, .int .i64 0, .int .i64 0, .slice none 0 0, .slice none 0 0, .bool false] 27) = WQ at *
      refine Pt.WalkT.make (by rfl) ?_
      intro W hWJ
      cases hWJ.symm
      go_wp2_with (refine wpList_store_ob (cells := (sagaC y (.slice A1 n1 c1) (.slice A2 n2 c2) (.slice A3 n3 c3))) rfl 27 (.tmp 4) (.tmp 34) rfl rfl rfl hq rfl (by kernel_rfl) (by simp [sagaC, Value.oneCell']) ?_; intro W4 ho4 hg4)
      have hob4 := hob2.kept hg4 (by simp; omega)
      refine ⟨rfl, undef, _, (fun V => V = W4), ?_, rfl, (fun V h => by rw [h]; exact hob4), (.inr (fun _ h => h)), ?_⟩
      · simp only [Act.put, List.setIfInBounds_toArray, List.set_cons_succ, List.set_cons_zero]
      simp only [Act.put, List.setIfInBounds_toArray, List.set_cons_succ, List.set_cons_zero]
      iterate 2 (
        apply Pt.WalkT.on (by rfl)
        · intro V hV
          go_wp2_with fail
          refine ⟨rfl, ?_, rfl⟩
          try simp only [Act.put, List.setIfInBounds_toArray, List.set_cons_succ, List.set_cons_zero]
          rfl
        simp only [Act.put, List.setIfInBounds_toArray, List.set_cons_succ, List.set_cons_zero])
      refine Pt.WalkT.nil ?_
      rintro V hVJ
      cases hVJ.symm
      go_wp2_with (first
        | (refine wpList_load_obg (by rfl) _ _ rfl rfl _ ho4 Try.underlying27 rfl (by kernel_rfl) ?_)
        | (refine wpList_store_ob (cells := (sagaC y (.slice A1 n1 c1) (.slice A2 n2 c2) (.slice A3 n3 c3))) rfl 27 (.tmp 39) (.tmp 38) rfl rfl rfl hob4 rfl (by kernel_rfl) (by simp [sagaC, Value.oneCell']) ?_; intro W5 ho5 hg5))
      go_ret2
      have hs4 := hg4.size
      have hs5 := hg5.size
      refine ⟨retry_end hgv (((Kept.of_below halk fun i hi => hi.2).trans (Kept.of_grown hg4 fun i hi => ⟨by have := hi.1; have := hi.2; omega, fun e => by have := hi.1; have := hi.2; have e2 : W1.heap.size = i := (Option.some.inj e).symm; omega⟩)).trans (Kept.of_grown hg5 fun i hi => ⟨by have := hi.1; have := hi.2; omega, fun e => by have := hi.1; have := hi.2; have e2 : b = i := (Option.some.inj e).symm; omega⟩)) ho5 (by omega) hmb, ((((hdr.trans hb1).mono (by omega)).trans (halk.mono (by omega))).grown hg4 (by omega) (fun g e => by have e2 : W1.heap.size = g := Option.some.inj e; omega)).grown hg5 (by omega) (fun g e => by have e2 : b = g := Option.some.inj e; omega)⟩
    · intro W hWJ
      cases hWJ.symm
      have hal := (Below.refl w.drew.heap.size w.drew).alloc (Nat.le_refl _) (.cells #[.int .i64 0, .int .i64 0, .int .i64 0, .slice none 0 0, .bool false, .int .i64 0, .int .i64 0, .slice none 0 0, .slice none 0 0, .bool false] 27)
      have hob2 := hob.same hal
      have hq := Ob.new w.drew 27 #[.int .i64 0, .int .i64 0, .int .i64 0, .slice none 0 0, .bool false, .int .i64 0, .int .i64 0, .slice none 0 0, .slice none 0 0, .bool false]
      have hzq : (w.drew.alloc (.cells #[.int .i64 0, .int .i64 0, .int .i64 0, .slice none 0 0, .bool false, .int .i64 0, .int .i64 0, .slice none 0 0, .slice none 0 0, .bool false] 27)).heap.size = w.drew.heap.size + 1 := World.size_alloc _ _
      go_wp2_with fail
      refine ⟨rfl, .pointer (some ⟨w.heap.size, 0, none⟩), _, (fun V => V = _), ?_, rfl, (fun V h => by rw [h]; exact hob2), (.inr (fun _ h => h)), ?_⟩
      · simp only [Act.put, List.setIfInBounds_toArray, List.set_cons_succ, List.set_cons_zero]
      simp only [Act.put, List.setIfInBounds_toArray, List.set_cons_succ, List.set_cons_zero]
      rw [show w.drew.alloc (.cells #[.int .i64 0, .int .i64 0, .int .i64 0, .slice none 0 0, .bool false, .int .i64 0, .int .i64 0, .slice none 0 0, .slice none 0 0, .bool false] 27) = (w.alloc (.cells #[.int .i64 0, .int .i64 0, .int .i64 0, .slice none 0 0, .bool false, .int .i64 0, .int .i64 0, .slice none 0 0, .slice none 0 0, .bool false] 27)).drew from rfl] at hal hob2 hq hzq
      generalize (w.alloc (.cells #[.int .i64 0, .int .i64 0, .int .i64 0, .slice none 0 0, .bool false, .int .i64 0, .int .i64 0, .slice none 0 0, .slice none 0 0, .bool false] 27)).drew = WQ at *
      refine Pt.WalkT.make (by rfl) ?_
      intro W hWJ
      cases hWJ.symm
      go_wp2_with (go_at_call 10; refine (cB.out WQ hal).mono ?_; rintro e W1 ⟨hr, hb1⟩; obtain ⟨y, A1, n1, c1, A2, n2, c2, A3, n3, c3, A4, n4, c4, xx, rfl, hgv⟩ := hr.form; clear hr)
      have hob1 := hob2.same hb1
      have hs1 := hb1.size
      refine ⟨rfl, .tuple #[.agg (sagaC y (.slice A1 n1 c1) (.slice A2 n2 c2) (.slice A3 n3 c3)), .slice A4 n4 c4, .int .i64 xx], _, (fun V => V = W1), ?_, rfl, (fun V h => by rw [h]; exact hob1), (.inr (fun _ h => h)), ?_⟩
      · simp only [Act.put, List.setIfInBounds_toArray, List.set_cons_succ, List.set_cons_zero]
      simp only [Act.put, List.setIfInBounds_toArray, List.set_cons_succ, List.set_cons_zero]
      iterate 4 (
        apply Pt.WalkT.on (by rfl)
        · intro V hV
          go_wp2_with fail
          refine ⟨rfl, ?_, rfl⟩
          try simp only [Act.put, List.setIfInBounds_toArray, List.set_cons_succ, List.set_cons_zero]
          rfl
        simp only [Act.put, List.setIfInBounds_toArray, List.set_cons_succ, List.set_cons_zero])
      refine Pt.WalkT.make (by rfl) ?_
      intro W hWJ
      cases hWJ.symm
      go_wp2_with (refine wpList_store_ob (cells := (sagaC y (.slice A1 n1 c1) (.slice A2 n2 c2) (.slice A3 n3 c3))) rfl 27 (.tmp 4) (.tmp 34) rfl rfl rfl (hq.same hb1) rfl (by kernel_rfl) (by simp [sagaC, Value.oneCell']) ?_; intro W4 ho4 hg4)
      have hob4 := hob1.kept hg4 (by simp; omega)
      refine ⟨rfl, undef, _, (fun V => V = W4), ?_, rfl, (fun V h => by rw [h]; exact hob4), (.inr (fun _ h => h)), ?_⟩
      · simp only [Act.put, List.setIfInBounds_toArray, List.set_cons_succ, List.set_cons_zero]
      simp only [Act.put, List.setIfInBounds_toArray, List.set_cons_succ, List.set_cons_zero]
      iterate 2 (
        apply Pt.WalkT.on (by rfl)
        · intro V hV
          go_wp2_with fail
          refine ⟨rfl, ?_, rfl⟩
          try simp only [Act.put, List.setIfInBounds_toArray, List.set_cons_succ, List.set_cons_zero]
          rfl
        simp only [Act.put, List.setIfInBounds_toArray, List.set_cons_succ, List.set_cons_zero])
      refine Pt.WalkT.nil ?_
      rintro V hVJ
      cases hVJ.symm
      go_wp2_with (first
        | (refine wpList_load_obg (by rfl) _ _ rfl rfl _ ho4 Try.underlying27 rfl (by kernel_rfl) ?_)
        | (refine wpList_store_ob (cells := (sagaC y (.slice A1 n1 c1) (.slice A2 n2 c2) (.slice A3 n3 c3))) rfl 27 (.tmp 39) (.tmp 38) rfl rfl rfl hob4 rfl (by kernel_rfl) (by simp [sagaC, Value.oneCell']) ?_; intro W5 ho5 hg5))
      go_ret2
      have hs4 := hg4.size
      have hs5 := hg5.size
      refine ⟨retry_end hgv ((Kept.of_grown hg4 fun i hi => ⟨by have := hi.1; have := hi.2; omega, fun e => by have := hi.1; have := hi.2; have e2 : w.heap.size = i := (Option.some.inj e).symm; omega⟩).trans (Kept.of_grown hg5 fun i hi => ⟨by have := hi.1; have := hi.2; omega, fun e => by have := hi.1; have := hi.2; have e2 : b = i := (Option.some.inj e).symm; omega⟩)) ho5 (by omega) hmb, ((((hdr.mono (by omega)).trans (hal.mono (by omega))).trans (hb1.mono (by omega))).grown hg4 (by omega) (fun g e => by have e2 : w.heap.size = g := Option.some.inj e; omega)).grown hg5 (by omega) (fun g e => by have e2 : b = g := Option.some.inj e; omega)⟩
  · rw [if_neg h3]
    have d1 : decide (s.state = 3) = false := decide_eq_false h3
    have d2 : (s.state == 3) = false := by rw [beq_eq_false_iff_ne]; exact h3
    have d3 : (s.state != 3) = true := by simp [bne, d2]
    clear h3
    go_enter Try.func59, Try.ntmps59
    go_wp2
    go_ret2
    exact ⟨rfl, Below.refl _ _⟩
end Sa
end Go.Proofs.Ythfpfomifebpbaa

namespace Go.Proofs.Ythfpfomifebpbaa
open Go.RowKit Go.Maps
namespace Sa
open It
variable {mlo : Nat}
set_option linter.unusedSimpArgs false

def happenS (s : Saga) (e : Ev) : Except Int (Saga × List Step) :=
  if e.kind = 1 then tookS s e
  else if e.kind = 2 then freedS s e
  else if e.kind = 3 then cancelS s
  else if e.kind = 4 then retryS s
  else if e.kind = 5 then allS s 2 7 7
  else if e.kind = 6 then didS s e 7 8
  else if e.kind = 7 then allS s 8 9 9
  else if e.kind = 8 then didS s e 9 10
  else .error 1
def nextU (m : Bool) (r : Except Int (Saga × List Step)) : Except Int (Saga × List Step) := if m then r else .error 1
def nextS (s : Saga) (e : Ev) : Except Int (Saga × List Step) := nextU (mayS s) (happenS s e)

/-- a Ret has the form of two values -/
theorem Ret.form {w' : World} {b : Nat} {e : Ending} {r : Except Int (Saga × List Step)} (h : Ret mlo w' b e r) : ∃ A n c x, e = .returned (.tuple #[.slice A n c, .int .i64 x]) := by
  cases r with
  | error x => exact ⟨_, _, _, _, h⟩
  | ok y =>
    obtain ⟨vl, rfl, hS, -⟩ := h
    obtain ⟨A, c, rfl, -⟩ := hS.form
    exact ⟨_, _, _, _, rfl⟩

set_option maxRecDepth 100000 in
set_option maxHeartbeats 4000000 in
theorem happen_calls (s : Saga) (vw vg vp : Value) (P G L b base : Nat) (ev : Ev) (ve : Value) (w : World) (hm : Mine mlo w P G L b s vw vg vp) (hbase : base ≤ P) (hr : ∀ x ∈ s.pending, 0 ≤ x ∧ x < s.got.length) (hv : ItemsAt w 0 base ve ev.items)
    (hh : Head s) (hF : Fit s) (hFe : Fits ev.items) (hl : s.want.length ≤ 1000000) :
    Calls Try.prog 36 #[.pointer (some ⟨b, 0, none⟩), .agg (evC ev ve)] w fun e w' => Ret mlo w' b e (happenS s ev) ∧ Below base w w' := by
  have hlt := hm.ob.lt
  have h1 := hm.PG
  have h2 := hm.GL
  have h3 := hm.Lb
  have hng : s.got.length ≤ 1000000 := by have := hh.got; have := hh.r2; omega
  have hal := (Below.refl w.heap.size w).alloc (Nat.le_refl _) (.cells (evC ev ve) 44)
  have hm0 := hm.later hal
  have hv0 := hv.mono (hal.mono (show base ≤ w.heap.size by omega)) (Nat.le_refl _)
  have hoE := Ob.new w 44 (evC ev ve)
  have hBA := hal.mono (show base ≤ w.heap.size by omega)
  obtain ⟨A, c, rfl, -⟩ := hv.form
  have c1 := Lib.hid (took_calls s vw vg vp P G L b base ev _ _ hm0 hbase hr hv0 hh hF hFe)
  have c2 := Lib.hid (freed_calls s vw vg vp P G L b base ev _ _ hm0 hbase hr hv0)
  have c3 := Lib.hid (cancel_calls s vw vg vp b _ hm0.ob hm0.off hng)
  have c4 := Lib.hid (retry_calls s vw vg vp b _ hm0.ob hm0.off hF.want hl)
  have c5 := Lib.hid (fun f t k => all_calls s vw vg vp b f t k _ hm0.ob hm0.off hng)
  have c6 := Lib.hid (fun f t => did_calls s vw vg vp P G L b base ev _ f t _ hm0 hbase hr hv0)
  have HBA := Lib.hid hBA
  unfold evC at c1 c2 c3 c4 c5 c6 hoE HBA ⊢
  clear hv hm hm0 hv0 hal hBA hr hh hF hFe
  unfold happenS
  generalize hk : ev.kind = k at c1 c2 c3 c4 c5 c6 hoE HBA ⊢
  clear hk
  obtain ⟨j0, j1, j2⟩ := ob_three hoE
  by_cases e1 : k = 1
  · rw [if_pos e1]
    subst e1
    have hcc := Lib.hid c1.out
    clear c1 c2 c3 c4 c5 c6
    go_enter Try.func36, Try.ntmps36
    go_wp2_with (refine wpList_load_obg (by rfl) _ _ rfl rfl _ hoE Try.underlying44 rfl (by kernel_rfl) ?_)
    refine hcc.out.mono ?_
    rintro e w1 ⟨hR, hb1⟩
    obtain ⟨A1, n1, c1, x1, rfl⟩ := hR.form
    go_wp2
    go_ret2
    exact ⟨hR, HBA.out.trans hb1⟩
  rw [if_neg e1]
  have d1 : decide (k = 1) = false := decide_eq_false e1
  by_cases e2 : k = 2
  · rw [if_pos e2]
    subst e2
    have hcc := Lib.hid c2.out
    clear c1 c2 c3 c4 c5 c6
    go_enter Try.func36, Try.ntmps36
    go_wp2_with (refine wpList_load_obg (by rfl) _ _ rfl rfl _ hoE Try.underlying44 rfl (by kernel_rfl) ?_)
    refine hcc.out.mono ?_
    rintro e w1 ⟨hR, hb1⟩
    obtain ⟨A1, n1, c1, x1, rfl⟩ := hR.form
    go_wp2
    go_ret2
    exact ⟨hR, HBA.out.trans hb1⟩
  rw [if_neg e2]
  have d2 : decide (k = 2) = false := decide_eq_false e2
  by_cases e3 : k = 3
  · rw [if_pos e3]
    subst e3
    have hcc := Lib.hid c3.out
    clear c1 c2 c3 c4 c5 c6
    go_enter Try.func36, Try.ntmps36
    go_wp2_with (refine wpList_load_obg (by rfl) _ _ rfl rfl _ hoE Try.underlying44 rfl (by kernel_rfl) ?_)
    refine hcc.out.mono ?_
    rintro e w1 ⟨hR, hb1⟩
    obtain ⟨A1, n1, c1, x1, rfl⟩ := hR.form
    go_wp2
    go_ret2
    exact ⟨hR, HBA.out.trans (hb1.mono (by omega))⟩
  rw [if_neg e3]
  have d3 : decide (k = 3) = false := decide_eq_false e3
  by_cases e4 : k = 4
  · rw [if_pos e4]
    subst e4
    have hcc := Lib.hid c4.out
    clear c1 c2 c3 c4 c5 c6
    go_enter Try.func36, Try.ntmps36
    go_wp2_with (refine wpList_load_obg (by rfl) _ _ rfl rfl _ hoE Try.underlying44 rfl (by kernel_rfl) ?_)
    refine hcc.out.mono ?_
    rintro e w1 ⟨hR, hb1⟩
    obtain ⟨A1, n1, c1, x1, rfl⟩ := hR.form
    go_wp2
    go_ret2
    exact ⟨hR, HBA.out.trans (hb1.mono (by omega))⟩
  rw [if_neg e4]
  have d4 : decide (k = 4) = false := decide_eq_false e4
  by_cases e5 : k = 5
  · rw [if_pos e5]
    subst e5
    have hcc := Lib.hid (c5.out 2 7 7)
    clear c1 c2 c3 c4 c5 c6
    go_enter Try.func36, Try.ntmps36
    go_wp2_with (refine wpList_load_obg (by rfl) _ _ rfl rfl _ hoE Try.underlying44 rfl (by kernel_rfl) ?_)
    refine hcc.out.mono ?_
    rintro e w1 ⟨hR, hb1⟩
    obtain ⟨A1, n1, c1, x1, rfl⟩ := hR.form
    go_wp2
    go_ret2
    exact ⟨hR, HBA.out.trans (hb1.mono (by omega))⟩
  rw [if_neg e5]
  have d5 : decide (k = 5) = false := decide_eq_false e5
  by_cases e6 : k = 6
  · rw [if_pos e6]
    subst e6
    have hcc := Lib.hid (c6.out 7 8)
    clear c1 c2 c3 c4 c5 c6
    go_enter Try.func36, Try.ntmps36
    go_wp2_with (refine wpList_load_obg (by rfl) _ _ rfl rfl _ hoE Try.underlying44 rfl (by kernel_rfl) ?_)
    refine hcc.out.mono ?_
    rintro e w1 ⟨hR, hb1⟩
    obtain ⟨A1, n1, c1, x1, rfl⟩ := hR.form
    go_wp2
    go_ret2
    exact ⟨hR, HBA.out.trans hb1⟩
  rw [if_neg e6]
  have d6 : decide (k = 6) = false := decide_eq_false e6
  by_cases e7 : k = 7
  · rw [if_pos e7]
    subst e7
    have hcc := Lib.hid (c5.out 8 9 9)
    clear c1 c2 c3 c4 c5 c6
    go_enter Try.func36, Try.ntmps36
    go_wp2_with (refine wpList_load_obg (by rfl) _ _ rfl rfl _ hoE Try.underlying44 rfl (by kernel_rfl) ?_)
    refine hcc.out.mono ?_
    rintro e w1 ⟨hR, hb1⟩
    obtain ⟨A1, n1, c1, x1, rfl⟩ := hR.form
    go_wp2
    go_ret2
    exact ⟨hR, HBA.out.trans (hb1.mono (by omega))⟩
  rw [if_neg e7]
  have d7 : decide (k = 7) = false := decide_eq_false e7
  by_cases e8 : k = 8
  · rw [if_pos e8]
    subst e8
    have hcc := Lib.hid (c6.out 9 10)
    clear c1 c2 c3 c4 c5 c6
    go_enter Try.func36, Try.ntmps36
    go_wp2_with (refine wpList_load_obg (by rfl) _ _ rfl rfl _ hoE Try.underlying44 rfl (by kernel_rfl) ?_)
    refine hcc.out.mono ?_
    rintro e w1 ⟨hR, hb1⟩
    obtain ⟨A1, n1, c1, x1, rfl⟩ := hR.form
    go_wp2
    go_ret2
    exact ⟨hR, HBA.out.trans hb1⟩
  rw [if_neg e8]
  have d8 : decide (k = 8) = false := decide_eq_false e8
  clear c1 c2 c3 c4 c5 c6
  go_enter Try.func36, Try.ntmps36
  go_wp2
  go_ret2
  exact ⟨rfl, HBA.out⟩
end Sa
end Go.Proofs.Ythfpfomifebpbaa

namespace Go.Proofs.Ythfpfomifebpbaa
open Go.RowKit Go.Maps
namespace Sa
open It

theorem holders_mem {L : List (List It.Item)} {x : Int} (h : x ∈ holders L) : ∃ i : Nat, x = i ∧ i < L.length ∧ 0 < (L.getD i []).length := by
  unfold holders holdersTo at h
  obtain ⟨i, hi, rfl⟩ := List.mem_map.1 h
  rw [List.mem_filter, List.mem_range] at hi
  exact ⟨i, rfl, hi.1, by simpa using hi.2⟩
theorem holders_len (L : List (List It.Item)) : (holders L).length ≤ L.length := holdersTo_len L L.length
theorem visit_mem {f r x : Int} (h : x ∈ visit f r) : 0 ≤ x ∧ x < r := by
  unfold visit at h
  split at h
  · simp at h
  · obtain ⟨i, -, rfl⟩ := List.mem_map.1 h
    exact ⟨Int.emod_nonneg _ (by omega), Int.emod_lt_of_pos _ (by omega)⟩
theorem inL_mem {x : Int} {l : List Int} (h : Life.inL x l = true) : x ∈ l := by
  unfold Life.inL at h
  rcases idx_cases x l with e | ⟨i, hi, e, hg⟩
  · rw [e] at h
    simp at h
  · rw [← hg, getD_get hi]
    exact List.getElem_mem hi
theorem rises_mem {l all : List Int} (h : rises l all = true) {x : Int} (hx : x ∈ l) : x ∈ all := by
  have h := of_decide_eq_true h
  obtain ⟨i, hi, rfl⟩ := List.getElem_of_mem hx
  have := (h i hi).2
  rw [getD_get hi] at this
  exact inL_mem this
theorem rises_up {l all : List Int} (h : rises l all = true) (h0 : ∀ x ∈ l, 0 ≤ x) : ∀ i, i < l.length → (i : Int) ≤ l.getD i 0 := by
  have h := of_decide_eq_true h
  intro i
  induction i with
  | zero => intro hi; rw [getD_get hi]; exact h0 _ (List.getElem_mem hi)
  | succ i ih =>
    intro hi
    have h1 := ih (by omega)
    have h2 := (h (i + 1) hi).1
    rw [show i + 1 - 1 = i by omega] at h2
    have : ¬ l.getD (i + 1) 0 ≤ l.getD i 0 := fun e => h2 ⟨by omega, e⟩
    omega
theorem rises_len {l all : List Int} {n : Nat} (h : rises l all = true) (h0 : ∀ x ∈ l, 0 ≤ x ∧ x < n) : l.length ≤ n := by
  rcases Nat.eq_zero_or_pos l.length with e | e
  · omega
  · have h1 := rises_up h (fun x hx => (h0 x hx).1) (l.length - 1) (by omega)
    have h2 := (h0 (l.getD (l.length - 1) 0) (by rw [getD_get (by omega)]; exact List.getElem_mem _)).2
    omega
theorem mayS_split {s : Saga} (h : mayS s = true) : Head s ∧ bodyAt s s.state = true := by
  unfold mayS at h
  rw [Bool.and_eq_true] at h
  exact ⟨head_of h.1, h.2⟩
/-- what the state says of who is pending -/
theorem pend_cases {s : Saga} (h : mayS s = true) : (s.state = 1 ∧ s.pending = ((visit s.first s.regions).drop (s.asked - 1).toNat).take 1) ∨ s.pending = [] ∨ ((s.state = 7 ∨ s.state = 9) ∧ rises s.pending (holders s.got) = true ∧ s.pending ≠ []) ∨ (s.state = 4 ∧ s.pending = holders s.got ∧ s.pending ≠ []) := by
  obtain ⟨hh, hb⟩ := mayS_split h
  unfold bodyAt at hb
  have hnil : ∀ {p : Bool}, (decide (s.pending.length = 0)) = true → s.pending = [] := fun {p} e => List.eq_nil_of_length_eq_zero (of_decide_eq_true e)
  split at hb
  · rename_i e
    simp only [Bool.and_eq_true, decide_eq_true_eq] at hb
    exact .inl ⟨e, hb.1.2⟩
  split at hb
  · simp only [Bool.and_eq_true, decide_eq_true_eq] at hb
    exact .inr (.inl (List.eq_nil_of_length_eq_zero hb.1.2))
  split at hb
  · rename_i e
    simp only [Bool.and_eq_true, decide_eq_true_eq, Bool.not_eq_true', decide_eq_false_iff_not] at hb
    exact .inr (.inr (.inl ⟨e, hb.2, fun e' => hb.1.1.2 (by rw [e']; rfl)⟩))
  split at hb
  · rename_i e
    simp only [Bool.and_eq_true, decide_eq_true_eq, Bool.not_eq_true', decide_eq_false_iff_not] at hb
    exact .inr (.inr (.inr ⟨e, hb.2, fun e' => hb.1 (by rw [e']; rfl)⟩))
  split at hb
  · simp only [Bool.and_eq_true, decide_eq_true_eq] at hb
    exact .inr (.inl (List.eq_nil_of_length_eq_zero hb.1.1.2))
  split at hb
  · simp only [Bool.and_eq_true, decide_eq_true_eq] at hb
    exact .inr (.inl (List.eq_nil_of_length_eq_zero hb.1.2))
  · cases hb
theorem pend_in {s : Saga} (h : mayS s = true) : (∀ x ∈ s.pending, 0 ≤ x ∧ x < s.got.length) ∧ s.pending.length ≤ 8 := by
  obtain ⟨hh, -⟩ := mayS_split h
  have hg := hh.got
  have h8 := hh.r2
  rcases pend_cases h with ⟨-, e⟩ | e | ⟨-, e, -⟩ | ⟨-, e, -⟩
  · refine ⟨fun x hx => ?_, ?_⟩
    · rw [e] at hx
      have := visit_mem (List.mem_of_mem_drop (List.mem_of_mem_take hx))
      omega
    · rw [e, List.length_take]
      omega
  · rw [e]
    exact ⟨fun x hx => by simp at hx, by simp⟩
  · have hm : ∀ x ∈ s.pending, 0 ≤ x ∧ x < s.got.length := fun x hx => by
      obtain ⟨i, rfl, h1, -⟩ := holders_mem (rises_mem e hx)
      omega
    exact ⟨hm, by have := rises_len e hm; omega⟩
  · refine ⟨fun x hx => ?_, ?_⟩
    · rw [e] at hx
      obtain ⟨i, rfl, h1, -⟩ := holders_mem hx
      omega
    · have := holders_len s.got
      rw [e]
      omega
theorem mayGot_all {s : Saga} (h : mayGot s = true) : ∀ l ∈ s.got, may l = true := by
  unfold mayGot at h
  rw [Bool.and_eq_true] at h
  exact List.all_eq_true.1 h.1
theorem got_len {s : Saga} (h : mayGot s = true) (k : Nat) : (s.got.getD k []).length ≤ 1000000 := by
  by_cases hk : k < s.got.length
  · rw [getD_get hk]
    have := may_len (mayGot_all h _ (List.getElem_mem hk))
    omega
  · rw [List.getD, List.getElem?_eq_none (by omega)]
    simp
theorem happen_err {s : Saga} {e : Ev} {x : Int} (h : happenS s e = .error x) : x ≠ 0 := by
  have hb : ∀ {a b c : Int} {w : List It.Item} {q : Bool}, beginS a b c w q = .error x → x ≠ 0 := fun {a b c w q} h => by
    unfold beginS beginU at h
    split at h
    · cases h; omega
    · split at h <;> cases h
      omega
  unfold happenS tookS tookU freedS cancelS cancelAt retryS allS didS didU at h
  repeat' (split at h)
  all_goals first
    | exact hb h
    | (cases h; omega)
    | cases h
end Sa
end Go.Proofs.Ythfpfomifebpbaa

namespace Go.Proofs.Ythfpfomifebpbaa
open Go.RowKit Go.Maps
namespace Sa
open It
variable {mlo : Nat}
set_option linter.unusedSimpArgs false

theorem SlOff.high {w w' : World} {b size n : Nat} {v : Value} {xs : List Value} (h : SlOff mlo w b size v n xs) (hk : Kept (fun i => mlo ≤ i ∧ i < w.heap.size) w w') : Sl w' 0 w'.heap.size size v n xs := by
  obtain ⟨lo, B, h0, h1, h2, h3⟩ := h
  exact (hk.sl h3 fun i ha hb => ⟨by omega, by omega⟩).wide (Nat.zero_le _) (Nat.le_trans h2 hk.size)
theorem Off.high {w w' : World} {b : Nat} {s : Saga} {vw vg vp : Value} (h : Off mlo w b s vw vg vp) (hk : Kept (fun i => mlo ≤ i ∧ i < w.heap.size) w w') : Parts w' 0 w'.heap.size s vw vg vp := by
  obtain ⟨vs, h1, h2, h3⟩ := h.got
  exact ⟨SlOff.high h.want hk, ⟨vs, h1, SlOff.high h2 hk, fun k hk' => SlOff.high (h3 k hk') hk⟩, SlOff.high h.pend hk⟩

set_option maxRecDepth 100000 in
set_option maxHeartbeats 4000000 in
theorem next_calls (s : Saga) (vw vg vp : Value) (ev : Ev) (ve : Value) (w : World) (h : Parts w 0 w.heap.size s vw vg vp) (hF : Fit s) (hv : ItemsAt w 0 w.heap.size ve ev.items) (hFe : Fits ev.items) :
    Calls Try.prog 20 #[.agg (sagaC s vw vg vp), .agg (evC ev ve)] w fun e w' => Ret3 0 w' e (nextS s ev) ∧ Below w.heap.size w w' := by
  have HP := Lib.hid h
  have HV := Lib.hid hv
  obtain ⟨A, c, rfl, -⟩ := h.want.form
  obtain ⟨A', c', rfl, -⟩ := h.got.form
  obtain ⟨A2, c2, rfl, -⟩ := h.pend.form
  obtain ⟨A3, c3, rfl, -⟩ := hv.form
  clear h hv
  obtain ⟨sc, hsc⟩ : ∃ sc, sc = sagaC s (.slice A s.want.length c) (.slice A' s.got.length c') (.slice A2 s.pending.length c2) := ⟨_, rfl⟩
  obtain ⟨ec, hec⟩ : ∃ ec, ec = evC ev (.slice A3 ev.items.length c3) := ⟨_, rfl⟩
  have ha1 := (Below.refl w.heap.size w).alloc (Nat.le_refl _) (.cells sc 27)
  have ha2 := ha1.alloc ha1.size (.cells ec 44)
  have ha3 := ha2.alloc ha2.size (.cells #[.int .i64 0, .int .i64 0, .int .i64 0, .slice none 0 0, .bool false, .int .i64 0, .int .i64 0, .slice none 0 0, .slice none 0 0, .bool false] 27)
  have o1 := ((Ob.new w 27 sc).alloc (.cells ec 44)).alloc (.cells #[.int .i64 0, .int .i64 0, .int .i64 0, .slice none 0 0, .bool false, .int .i64 0, .int .i64 0, .slice none 0 0, .slice none 0 0, .bool false] 27)
  have o2 := (Ob.new (w.alloc (.cells sc 27)) 44 ec).alloc (.cells #[.int .i64 0, .int .i64 0, .int .i64 0, .slice none 0 0, .bool false, .int .i64 0, .int .i64 0, .slice none 0 0, .slice none 0 0, .bool false] 27)
  have o3 := Ob.new ((w.alloc (.cells sc 27)).alloc (.cells ec 44)) 27 #[.int .i64 0, .int .i64 0, .int .i64 0, .slice none 0 0, .bool false, .int .i64 0, .int .i64 0, .slice none 0 0, .slice none 0 0, .bool false]
  have z1 : (w.alloc (.cells sc 27)).heap.size = w.heap.size + 1 := World.size_alloc _ _
  have z2 : ((w.alloc (.cells sc 27)).alloc (.cells ec 44)).heap.size = w.heap.size + 2 := by rw [World.size_alloc, z1]
  rw [z1] at o2
  rw [z2] at o3
  rw [← hsc, ← hec]
  unfold nextS
  have hcall : ∀ W, Below w.heap.size w W → Calls Try.prog 26 #[.agg sc] W fun e w' => e = .returned (.bool (mayS s)) ∧ Below W.heap.size W w' := fun W hb => by rw [hsc]; exact sagamay_calls s _ _ _ W (HP.out.later hb) hF
  have hcop : mayS s = true → ∀ W, Below w.heap.size w W → Calls Try.prog 35 #[.agg sc] W _ := fun hm W hb => by
    rw [hsc]
    obtain ⟨hh, -⟩ := mayS_split hm
    exact copied_calls s _ _ _ W (HP.out.later hb) (by have := may_len hh.may; omega) (by have := hh.got; have := hh.r2; omega) (by have := (pend_in hm).2; omega) (got_len hh.kept)
  have HC := Lib.hid hcall
  have HCO := Lib.hid hcop
  have hs1 : sc.size = 10 := by rw [hsc]; rfl
  have he1 : ec.size = 3 := by rw [hec]; rfl
  have HSC := Lib.hid hsc
  have HEC := Lib.hid hec
  clear hcall hcop hsc hec
  go_enter Try.func20, Try.ntmps20
  go_wp2_with (first
    | (refine wpList_load_obg (by rfl) _ _ rfl rfl _ o1 Try.underlying27 rfl (by rw [hs1]; kernel_rfl) ?_)
    | (refine wpList_load_obg (by rfl) _ _ rfl rfl _ o2 Try.underlying44 rfl (by rw [he1]; kernel_rfl) ?_))
  generalize (((w.alloc (.cells sc 27)).alloc (.cells ec 44)).alloc (.cells #[.int .i64 0, .int .i64 0, .int .i64 0, .slice none 0 0, .bool false, .int .i64 0, .int .i64 0, .slice none 0 0, .slice none 0 0, .bool false] 27)) = W0 at *
  have hz0 := o3.lt
  refine (HC.out _ ha3).mono ?_
  rintro e W1 ⟨rfl, hb1⟩
  have o1 := o1.same hb1
  have o2 := o2.same hb1
  have o3 := o3.same hb1
  have hB1 := ha3.trans (hb1.mono (by omega))
  have hs1' := hb1.size
  clear ha1 ha2 ha3 hb1 HC z1 z2
  generalize hm : mayS s = m
  have HM := Lib.hid hm
  clear hm
  cases m with
  | false =>
    go_wp2_with (refine wpList_store_ob (cells := #[.int .i64 0, .int .i64 0, .int .i64 0, .slice none 0 0, .bool false, .int .i64 0, .int .i64 0, .slice none 0 0, .slice none 0 0, .bool false]) rfl 27 (.tmp 4) (.tmp 13) rfl rfl rfl o3 rfl (by kernel_rfl) (by simp [Value.oneCell']) ?_; intro W8 ho8 hg8)
    have hBf := hB1.grown hg8 (by omega) (fun g e => by have e2 : w.heap.size + 2 = g := Option.some.inj e; omega)
    obtain ⟨p0, p1, p2, p3, p4, p5, p6, p7, p8, p9⟩ := ob_ten ho8
    refine bodyPost_ret (v := .tuple #[.agg (sagaC saga0 nilS nilS nilS), nilS, .int .i64 1]) ?_ rfl ⟨by rw [HM.out]; exact rfl, hBf⟩
    simp [results, Try.f20, go_sem, sagaC, saga0, nilS, p0, p1, p2, p3, p4, p5, p6, p7, p8, p9]
  | true =>
    have cC := Lib.hid (HCO.out HM.out W1 hB1)
    go_wp2_with (refine wpList_load_obg (by rfl) _ _ rfl rfl _ o1 Try.underlying27 rfl (by rw [hs1]; kernel_rfl) ?_)
    refine cC.out.mono ?_
    rintro e W2 ⟨⟨uw, ug, up, P, G, L, rfl, hP, hMk⟩, hb2⟩
    have o2 := o2.same hb2
    have o3 := o3.same hb2
    have hB2 := hB1.trans (hb2.mono (by omega))
    have hs2' := hb2.size
    have hf1 := (hMk (W2.alloc (.cells (sagaC s uw ug up) 27)) W2.heap.size ((Below.refl W2.heap.size W2).alloc (Nat.le_refl _) _) (Nat.le_refl _) (Ob.new _ _ _)).off.parts
    obtain ⟨D1, d1, rfl, -⟩ := hf1.want.form
    obtain ⟨D2, d2, rfl, -⟩ := hf1.got.form
    obtain ⟨D3, d3, rfl, -⟩ := hf1.pend.form
    obtain ⟨sd, hsd⟩ : ∃ sd, sd = sagaC s (.slice D1 s.want.length d1) (.slice D2 s.got.length d2) (.slice D3 s.pending.length d3) := ⟨_, rfl⟩
    rw [← hsd] at hMk ⊢
    have hoN := Ob.new W2 27 #[.int .i64 0, .int .i64 0, .int .i64 0, .slice none 0 0, .bool false, .int .i64 0, .int .i64 0, .slice none 0 0, .slice none 0 0, .bool false]
    have hd1 : sd.size = 10 := by rw [hsd]; rfl
    have hd2 : sd.all (·.oneCell') = true := by rw [hsd]; simp [sagaC, Value.oneCell']
    have z3 : (W2.alloc (.cells #[.int .i64 0, .int .i64 0, .int .i64 0, .slice none 0 0, .bool false, .int .i64 0, .int .i64 0, .slice none 0 0, .slice none 0 0, .bool false] 27)).heap.size = W2.heap.size + 1 := World.size_alloc _ _
    have hal3 := (Below.refl W2.heap.size W2).alloc (Nat.le_refl _) (.cells #[.int .i64 0, .int .i64 0, .int .i64 0, .slice none 0 0, .bool false, .int .i64 0, .int .i64 0, .slice none 0 0, .slice none 0 0, .bool false] 27)
    have HSD := Lib.hid hsd
    clear hf1 hsd
    go_wp2_with (first
      | (refine wpList_store_ob (cells := sd) rfl 27 (.tmp 7) (.tmp 15) rfl rfl rfl hoN hd1 (by rw [hd1]; kernel_rfl) hd2 ?_
         intro W3 hoT hg3
         have hb3 : Below W2.heap.size W2 W3 := hal3.grown hg3 (by omega) (fun g e => by have e2 : W2.heap.size = g := Option.some.inj e; omega)
         have hmine := hMk W3 W2.heap.size hb3 (Nat.le_refl _) hoT
         have o2 := o2.same hb3
         have o3 := o3.same hb3
         have hB3 := hB2.trans (hb3.mono (by omega))
         have hs3' := hb3.size
         have hz3' := hg3.size
         obtain ⟨hh, -⟩ := mayS_split HM.out
         have cH := Lib.hid (happen_calls s _ _ _ P G L W2.heap.size W1.heap.size ev _ _ hmine hP (pend_in HM.out).1 ((HV.out.mono hB3 (Nat.le_refl _)).wide (Nat.le_refl _) (by omega)) hh hF hFe (by have := may_len hh.may; omega))
         rw [← HEC.out] at cH
         clear hMk hmine hh cC hb3 hoN hal3 hg3)
      | (refine wpList_load_obg (by rfl) _ _ rfl rfl _ o2 Try.underlying44 rfl (by rw [he1]; kernel_rfl) ?_))
    refine cH.out.mono ?_
    rintro e W4 ⟨hR, hb4⟩
    have o3 := o3.below hb4 (by omega)
    have hB4 := hB3.trans (hb4.mono (by omega))
    have hs4' := hb4.size
    clear cH o2 hb4
    generalize hrs : happenS s ev = r at hR
    have HRS := Lib.hid hrs
    have hnx : nextU (mayS s) (happenS s ev) = r := by rw [HM.out, hrs]; rfl
    have HNX := Lib.hid hnx
    clear hrs hnx
    cases r with
    | error x =>
      have hx0 : x ≠ 0 := happen_err HRS.out
      have dx : decide (x = 0) = false := decide_eq_false hx0
      have dx2 : (x == 0) = false := by rw [beq_eq_false_iff_ne]; exact hx0
      have dx3 : (x != 0) = true := by simp [bne, dx2]
      obtain rfl : e = .returned (.tuple #[.slice none 0 0, .int .i64 x]) := hR
      go_wp2_with (refine wpList_store_ob (cells := #[.int .i64 0, .int .i64 0, .int .i64 0, .slice none 0 0, .bool false, .int .i64 0, .int .i64 0, .slice none 0 0, .slice none 0 0, .bool false]) rfl 27 (.tmp 4) (.tmp 23) rfl rfl rfl o3 rfl (by kernel_rfl) (by simp [Value.oneCell']) ?_; intro W8 ho8 hg8)
      have hBf := hB4.grown hg8 (by omega) (fun g e => by have e2 : w.heap.size + 2 = g := Option.some.inj e; omega)
      obtain ⟨p0, p1, p2, p3, p4, p5, p6, p7, p8, p9⟩ := ob_ten ho8
      refine bodyPost_ret (v := .tuple #[.agg (sagaC saga0 nilS nilS nilS), nilS, .int .i64 x]) ?_ rfl ⟨by rw [HNX.out]; exact rfl, hBf⟩
      simp [results, Try.f20, go_sem, sagaC, saga0, nilS, p0, p1, p2, p3, p4, p5, p6, p7, p8, p9]
    | ok y =>
      obtain ⟨vl, rfl, hSt, vw4, vg4, vp4, ho4, hf4⟩ := hR
      have hf5 := hf4.parts
      obtain ⟨B1, e1, rfl, -⟩ := hf5.want.form
      obtain ⟨B2, e2, rfl, -⟩ := hf5.got.form
      obtain ⟨B3, e3, rfl, -⟩ := hf5.pend.form
      obtain ⟨B4, e4, rfl, -⟩ := hSt.form
      have hmb := hf4.mb
      clear hf5
      go_wp2_with (first
        | (refine wpList_load_obg (by rfl) _ _ rfl rfl _ ho4 Try.underlying27 rfl (by kernel_rfl) ?_)
        | (refine wpList_store_ob (cells := sagaC y.1 (.slice B1 y.1.want.length e1) (.slice B2 y.1.got.length e2) (.slice B3 y.1.pending.length e3)) rfl 27 (.tmp 4) (.tmp 25) rfl rfl rfl o3 rfl (by kernel_rfl) (by simp [sagaC, Value.oneCell']) ?_; intro W8 ho8 hg8))
      have hBf := hB4.grown hg8 (by omega) (fun g e => by have e2 : w.heap.size + 2 = g := Option.some.inj e; omega)
      have hk8 : Kept (fun i => W1.heap.size + 2 ≤ i ∧ i < W4.heap.size) W4 W8 := Kept.of_grown hg8 fun i hi => ⟨hi.2, fun e => by have e2 : i = w.heap.size + 2 := Option.some.inj e; have := hi.1; omega⟩
      obtain ⟨p0, p1, p2, p3, p4, p5, p6, p7, p8, p9⟩ := ob_ten ho8
      refine bodyPost_ret (v := .tuple #[.agg (sagaC y.1 (.slice B1 y.1.want.length e1) (.slice B2 y.1.got.length e2) (.slice B3 y.1.pending.length e3)), .slice B4 y.2.length e4, .int .i64 0]) ?_ rfl ⟨by rw [HNX.out]; exact ⟨_, _, _, _, rfl, hf4.high hk8, (hSt.kept hk8 fun i ha hb => ⟨ha, hb⟩).wide (Nat.zero_le _) hg8.size⟩, hBf⟩
      simp [results, Try.f20, go_sem, sagaC, p0, p1, p2, p3, p4, p5, p6, p7, p8, p9]
end Sa
end Go.Proofs.Ythfpfomifebpbaa
