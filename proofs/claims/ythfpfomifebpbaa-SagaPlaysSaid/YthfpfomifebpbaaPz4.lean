/-
  sagas played: a play in memory.
-/
import Derived.Test.YthfpfomifebpbaaPz2
import Derived.Test.YthfpfomifebpbaaPz3
import Derived.Test.YthfpfomifebpbaaSs6
import Derived.BigRegion

set_option linter.unusedVariables false
set_option linter.unusedSimpArgs false
namespace Go.Proofs.Ythfpfomifebpbaa
open Go.RowKit Go.Maps
namespace Sa
open It

/-- numbers in a block -/
def Vec (w : World) (b n : Nat) (f : Nat → Int) : Prop := ∃ cs, Ob w b 3 cs ∧ ∀ i, i < n → cs[i]? = some (.int .i64 (f i))
section
variable {w w' : World} {b n : Nat} {f : Nat → Int}
theorem Vec.lt (h : Vec w b n f) : b < w.heap.size := by
  obtain ⟨cs, h1, -⟩ := h
  exact h1.lt
theorem Vec.cell (h : Vec w b n f) {i : Nat} (hi : i < n) : w.cell? ⟨b, i, none⟩ = some (.int .i64 (f i)) := by
  obtain ⟨cs, h1, h2⟩ := h
  exact h1.cell (h2 i hi)
theorem Vec.frozen (h : Vec w b n f) (i : Nat) : w.frozen? ⟨b, i, none⟩ = false := by
  obtain ⟨cs, h1, h2⟩ := h
  exact h1.frozen i
theorem Vec.same (h : Vec w b n f) (hb : Below w.heap.size w w') : Vec w' b n f := by
  obtain ⟨cs, h1, h2⟩ := h
  exact ⟨cs, h1.same hb, h2⟩
theorem Vec.kept {row : Option Nat} (h : Vec w b n f) (hg : w.grownBy w' row) (hne : some b ≠ row) : Vec w' b n f := by
  obtain ⟨cs, h1, h2⟩ := h
  exact ⟨cs, h1.kept hg hne, h2⟩
theorem Vec.set (h : Vec w b n f) {r : Nat} (hr : r < n) (x : Int) : Vec (w.setCell ⟨b, r, none⟩ (.int .i64 x)) b n (upd f r x) := by
  obtain ⟨cs, h1, h2⟩ := h
  refine ⟨_, h1.set r _, fun i hi => ?_⟩
  have hlt : r < cs.size := by
    rcases Nat.lt_or_ge r cs.size with h | h
    · exact h
    · have := h2 r hr; rw [Array.getElem?_eq_none h] at this; cases this
  rw [Array.getElem?_setIfInBounds]
  by_cases e : r = i
  · subst e; rw [if_pos rfl, if_pos hlt, upd_at]
  · rw [if_neg e, upd_ne fun e' => e e'.symm]; exact h2 i hi
theorem Vec.other {b' j : Nat} {v : Value} (h : Vec w b n f) (hne : b ≠ b') : Vec (w.setCell ⟨b', j, none⟩ v) b n f := h.kept (grownBy_set w b' j v) fun e => hne (by cases e; rfl)
theorem Vec.eq {g : Nat → Int} (h : Vec w b n f) (e : ∀ i, i < n → f i = g i) : Vec w b n g := by
  obtain ⟨cs, h1, h2⟩ := h
  exact ⟨cs, h1, fun i hi => by rw [← e i hi]; exact h2 i hi⟩
end
def playC (s : Saga) (vw vg vp : Value) (fb hb kb gb n cf : Nat) (vy : Value) : Array Value :=
  #[.int .i64 s.order, .int .i64 s.first, .int .i64 s.regions, vw, .bool s.waits, .int .i64 s.state, .int .i64 s.asked, vg, vp, .bool s.cancelled, .slice (some ⟨fb, 0, none⟩) n cf, .slice (some ⟨hb, 0, none⟩) n n, .slice (some ⟨kb, 0, none⟩) n n, .slice (some ⟨gb, 0, none⟩) n n, vy]
/-- a play's own blocks -/
structure Bl where
  b : Nat
  f : Nat
  h : Nat
  k : Nat
  g : Nat
  cf : Nat
def Bl.is (B : Bl) (i : Nat) : Prop := i = B.b ∨ i = B.f ∨ i = B.h ∨ i = B.k ∨ i = B.g
def Bl.av (B : Bl) (vy : Value) (i : Nat) : Prop := B.is i ∨ vy.ownBlock = some i
structure Bl.Ok (B : Bl) : Prop where
  bf : B.b ≠ B.f
  bh : B.b ≠ B.h
  bk : B.b ≠ B.k
  bg : B.b ≠ B.g
  fh : B.f ≠ B.h
  fk : B.f ≠ B.k
  fg : B.f ≠ B.g
  hk : B.h ≠ B.k
  hg : B.h ≠ B.g
  kg : B.k ≠ B.g
structure PlayAt (w : World) (B : Bl) (n : Nat) (p : Play) (vw vg vp vy : Value) : Prop where
  ok : B.Ok
  ob : Ob w B.b 39 (playC p.s vw vg vp B.f B.h B.k B.g n B.cf vy)
  free : Vec w B.f n p.free
  held : Vec w B.h n p.held
  picked : Vec w B.k n p.picked
  gone : Vec w B.g n p.gone
  parts : PartsA (B.av vy) w p.s vw vg vp
  way : ∃ vs, vs.length = p.way.length ∧ Way w 52 4 vy p.way.length (stepsC p.way vs) ∧ ∀ k, k < p.way.length → SlA (B.av vy) w 2 (vs.getD k (.slice none 0 0)) (p.way.getD k step0).items.length (itemCells (p.way.getD k step0).items)
  yne : ∀ i, vy.ownBlock = some i → ¬ B.is i
section
variable {w w' : World} {B : Bl} {n : Nat} {p : Play} {vw vg vp vy : Value}
theorem PlayAt.lt (h : PlayAt w B n p vw vg vp vy) : ∀ i, B.av vy i → i < w.heap.size := fun i hi => by
  rcases hi with (rfl | rfl | rfl | rfl | rfl) | hi
  · exact h.ob.lt
  · exact h.free.lt
  · exact h.held.lt
  · exact h.picked.lt
  · exact h.gone.lt
  · obtain ⟨vs, -, h2, -⟩ := h.way
    exact h2.lt hi
theorem PlayAt.same (h : PlayAt w B n p vw vg vp vy) (hb : Below w.heap.size w w') : PlayAt w' B n p vw vg vp vy := by
  obtain ⟨vs, h1, h2, h3⟩ := h.way
  exact ⟨h.ok, h.ob.same hb, h.free.same hb, h.held.same hb, h.picked.same hb, h.gone.same hb, h.parts.later hb, ⟨vs, h1, h2.same hb, fun k hk => (h3 k hk).later hb⟩, h.yne⟩
/-- what a call that writes a play leaves alone -/
def Plays (B : Bl) (vy : Value) (w w' : World) : Prop := Kept (fun i => i < w.heap.size ∧ ¬ B.av vy i) w w'
theorem PlayAt.wayv (h : PlayAt w B n p vw vg vp vy) : ∃ A c, vy = .slice A p.way.length c ∧ p.way.length ≤ c ∧ c ≤ maxLen := by
  obtain ⟨vs, h1, h2, -⟩ := h.way
  exact h2.form
/-- the play's numbers -/
theorem PlayAt.cells (h : PlayAt w B n p vw vg vp vy) : w.cell? ⟨B.b, 10, none⟩ = some (.slice (some ⟨B.f, 0, none⟩) n B.cf) ∧ w.cell? ⟨B.b, 11, none⟩ = some (.slice (some ⟨B.h, 0, none⟩) n n) ∧ w.cell? ⟨B.b, 12, none⟩ = some (.slice (some ⟨B.k, 0, none⟩) n n) ∧ w.cell? ⟨B.b, 13, none⟩ = some (.slice (some ⟨B.g, 0, none⟩) n n) ∧ w.cell? ⟨B.b, 14, none⟩ = some vy ∧ w.cell? ⟨B.b, 5, none⟩ = some (.int .i64 p.s.state) :=
  ⟨h.ob.cell rfl, h.ob.cell rfl, h.ob.cell rfl, h.ob.cell rfl, h.ob.cell rfl, h.ob.cell rfl⟩
end

theorem sumF_bd {f : Nat → Int} : ∀ {k : Nat}, (∀ i, i < k → 0 ≤ f i ∧ f i ≤ 1099511627776) → 0 ≤ sumF f k ∧ sumF f k ≤ k * 1099511627776
  | 0, _ => ⟨Int.le_refl _, Int.le_refl _⟩
  | k + 1, h => by
    have h1 := sumF_bd fun i (hi : i < k) => h i (by omega)
    have h2 := h k (by omega)
    simp only [sumF]
    omega
set_option maxRecDepth 100000 in
set_option maxHeartbeats 4000000 in
/-- sums -/
theorem sums_calls (B : Bl) (n : Nat) (p : Play) (vw vg vp vy : Value) (w : World) (h : PlayAt w B n p vw vg vp vy) (hn : n ≤ 8) (hc : n ≤ B.cf)
    (hq : ∀ i, i < n → 0 ≤ p.held i ∧ p.held i ≤ 1099511627776 ∧ 0 ≤ p.picked i ∧ p.picked i ≤ 1099511627776 ∧ 0 ≤ p.gone i ∧ p.gone i ≤ 1099511627776) :
    Calls Try.prog 18 #[.pointer (some ⟨B.b, 0, none⟩)] w fun e w' => e = .returned (.tuple #[.int .i64 (sumF p.held n), .int .i64 (sumF p.picked n), .int .i64 (sumF p.gone n)]) ∧ Below w.heap.size w w' := by
  have hmx : Try.prog.follows .mixedOrders = true := by kernel_rfl
  go_enter Try.func18, Try.ntmps18
  obtain ⟨c0, c1, c2, c3, -, -⟩ := h.cells
  have HP := Lib.hid h
  have HQ := Lib.hid hq
  clear h hq
  go_wp2
  go_loopw [5, 6, 7, 8] (fun a b c i wr => ∃ k : Nat, k ≤ n ∧ i = .int .i64 k ∧ a = .int .i64 (sumF p.held k) ∧ b = .int .i64 (sumF p.picked k) ∧ c = .int .i64 (sumF p.gone k) ∧ Below w.heap.size w wr) (fun _ _ _ i _ => n - (intOf i).toNat)
  case atStart => exact ⟨0, by omega, rfl, rfl, rfl, rfl, Below.refl _ _⟩
  case round =>
    obtain ⟨k, hk, rfl, rfl, rfl, rfl, hB⟩ := hrel
    clear c0 c1 c2 c3
    have hp := HP.out.same hB
    obtain ⟨c0, c1, c2, c3, -, -⟩ := hp.cells
    by_cases hlt : k < n
    · have hd : decide (k < n) = true := by simpa using hlt
      go_upto_region 5 with (fail)
      clear hd
      have q1 := hp.held.cell hlt
      have q2 := hp.picked.cell hlt
      have q3 := hp.gone.cell hlt
      obtain ⟨a1, a2⟩ := sumF_bd (f := p.held) (k := k) fun i hi => ⟨(HQ.out i (by omega)).1, (HQ.out i (by omega)).2.1⟩
      obtain ⟨b1, b2⟩ := sumF_bd (f := p.picked) (k := k) fun i hi => ⟨(HQ.out i (by omega)).2.2.1, (HQ.out i (by omega)).2.2.2.1⟩
      obtain ⟨d1, d2⟩ := sumF_bd (f := p.gone) (k := k) fun i hi => ⟨(HQ.out i (by omega)).2.2.2.2.1, (HQ.out i (by omega)).2.2.2.2.2⟩
      obtain ⟨x1, x2, x3, x4, x5, x6⟩ := HQ.out k hlt
      have e1 := Lib.hid (show sumF p.held (k + 1) = sumF p.held k + p.held k from rfl)
      have e2 := Lib.hid (show sumF p.picked (k + 1) = sumF p.picked k + p.picked k from rfl)
      have e3 := Lib.hid (show sumF p.gone (k + 1) = sumF p.gone k + p.gone k from rfl)
      generalize sumF p.held k = s1 at *
      generalize sumF p.picked k = s2 at *
      generalize sumF p.gone k = s3 at *
      generalize p.held k = y1 at *
      generalize p.picked k = y2 at *
      generalize p.gone k = y3 at *
      clear hp
      have HB := Lib.hid hB.drew
      clear hB
      go_region
      go_wp2
      go_roundw
      case rel => exact ⟨k + 1, by omega, by go_num, by rw [e1.out], by rw [e2.out], by rw [e3.out], HB.out⟩
      case measure => simp [intOf]; omega
    · obtain rfl : k = n := by omega
      have hd : decide (k < k) = false := by simp
      go_wp2
      refine bodyPost_ret (v := .tuple #[.int .i64 (sumF p.held k), .int .i64 (sumF p.picked k), .int .i64 (sumF p.gone k)]) (by simp [results, Try.f18, go_sem]) rfl ⟨rfl, hB⟩
end Sa
end Go.Proofs.Ythfpfomifebpbaa
