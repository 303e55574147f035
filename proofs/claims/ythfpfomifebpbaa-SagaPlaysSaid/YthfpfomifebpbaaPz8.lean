/-
  sagas played: the first step on its way.
-/
import Derived.Test.YthfpfomifebpbaaPz7

set_option linter.unusedVariables false
set_option linter.unusedSimpArgs false
namespace Go.Proofs.Ythfpfomifebpbaa
open Go.RowKit Go.Maps
namespace Sa
open It

theorem PlayAt.first {w : World} {B : Bl} {n : Nat} {p : Play} {vw vg vp vy : Value} (h : PlayAt w B n p vw vg vp vy) {x : Step} {rest : List Step} (hw : p.way = x :: rest) :
    ∃ g off c Ax cx, vy = .slice (some ⟨g, off, none⟩) (rest.length + 1) c ∧ rest.length + 1 ≤ c ∧ g < w.heap.size ∧ w.rangeAt g off (stepL x (.slice Ax x.items.length cx)) ∧ SlA (B.av vy) w 2 (.slice Ax x.items.length cx) x.items.length (itemCells x.items) ∧
      ∀ A2, (if c = 1 then some (⟨g, off, none⟩ : Addr) else some ⟨g, off + 4, none⟩) = A2 → PlayAt (w.setCell ⟨B.b, 14, none⟩ (.slice A2 rest.length (c - 1))) B n { p with way := rest } vw vg vp (.slice A2 rest.length (c - 1)) ∧ Plays B vy w (w.setCell ⟨B.b, 14, none⟩ (.slice A2 rest.length (c - 1))) ∧ ∀ i, (Value.slice A2 rest.length (c - 1)).ownBlock = some i → vy.ownBlock = some i := by
  obtain ⟨vs, h1, h2, h3⟩ := h.way
  rw [hw] at h1 h2 h3
  cases vs with
  | nil => simp at h1
  | cons xv vs =>
    have h30 := h3 0 (by simp)
    have e30 : (xv :: vs).getD 0 (.slice none 0 0) = xv := rfl
    have e31 : (x :: rest).getD 0 step0 = x := rfl
    rw [e30, e31] at h30
    obtain ⟨Ax, cx, rfl, -⟩ := h30.form
    rcases h2.2 with ⟨-, h4⟩ | ⟨g, off, cap, cur, h4, h5, h6, h7, h8, h9⟩
    · simp at h4
    · subst h4
      have hcs : stepsC (x :: rest) (.slice Ax x.items.length cx :: vs) = stepL x (.slice Ax x.items.length cx) ++ stepsC rest vs := rfl
      have hlen := h2.1
      rw [hcs] at h9 hlen
      have h4l : (stepL x (.slice Ax x.items.length cx)).length = 4 := rfl
      refine ⟨g, off, cap, Ax, cx, rfl, h5, h7.lt, fun j v hj => ?_, h30, fun A2 hA2 => ?_⟩
      · have hj4 : j < 4 := by
          rcases Nat.lt_or_ge j 4 with h | h
          · exact h
          · rw [List.getElem?_eq_none (by rw [h4l]; exact h)] at hj; cases hj
        refine h7.cell ?_
        rw [h9 j (by rw [List.length_append, h4l]; omega), List.getElem?_append_left (by rw [h4l]; exact hj4)]
        exact hj
      · have hob : ∀ i, (Value.slice A2 rest.length (cap - 1)).ownBlock = some i ↔ (Value.slice (some ⟨g, off, none⟩) (rest.length + 1) cap).ownBlock = some i := fun i => by
          rw [← hA2]
          split <;> exact Iff.rfl
        have hav : ∀ i, B.av (.slice A2 rest.length (cap - 1)) i ↔ B.av (.slice (some ⟨g, off, none⟩) (rest.length + 1) cap) i := fun i => by
          unfold Bl.av
          rw [hob i]
        have hg := grownBy_set w B.b 14 (.slice A2 rest.length (cap - 1))
        have hb : B.av (.slice A2 rest.length (cap - 1)) B.b := .inl (.inl rfl)
        have hgb : g ≠ B.b := fun e => h.yne g rfl (.inl e)
        refine ⟨⟨h.ok, h.ob.set 14 _, h.free.other (fun e => h.ok.bf e.symm) , h.held.other (fun e => h.ok.bh e.symm), h.picked.other (fun e => h.ok.bk e.symm), h.gone.other (fun e => h.ok.bg e.symm), (h.parts.more fun i _ hi => (hav i).1 hi).grow hg hb, ⟨vs, by simpa using h1, ⟨?_, .inr ?_⟩, fun k hk => ?_⟩, fun i hi => h.yne i ((hob i).1 hi)⟩, ?_, fun i hi => (hob i).1 hi⟩
        · rw [List.length_append, h4l] at hlen
          simp only [List.length_cons] at hlen
          show (stepsC rest vs).length = rest.length * 4
          omega
        · rw [List.length_append, h4l] at hlen h9
          simp only [List.length_cons] at hlen h5 h8
          by_cases hc1 : cap = 1
          · rw [if_pos hc1] at hA2
            subst hA2
            refine ⟨g, off, cap - 1, cur, rfl, by show rest.length ≤ _; omega, by omega, h7.other hgb _ _, by omega, fun j hj => ?_⟩
            have hj : j < (stepsC rest vs).length := hj
            omega
          · rw [if_neg hc1] at hA2
            subst hA2
            refine ⟨g, off + 4, cap - 1, cur, rfl, by show rest.length ≤ _; omega, by omega, h7.other hgb _ _, by omega, fun j hj => ?_⟩
            have hj : j < (stepsC rest vs).length := hj
            have := h9 (4 + j) (by omega)
            rw [List.getElem?_append_right (by rw [h4l]; omega), h4l, show 4 + j - 4 = j by omega, show off + (4 + j) = off + 4 + j by omega] at this
            exact this
        · have hk : k < rest.length := hk
          have := h3 (k + 1) (by simp; omega)
          exact (SlA.more this fun i _ hi => (hav i).1 hi).grow hg hb
        · exact Kept.of_grown hg fun i hi => ⟨hi.1, fun e => hi.2 (by cases e; exact .inl (.inl rfl))⟩
theorem come_inv {n : Nat} {p q : Play} {x : Step} {rest : List Step} (hw : p.way = x :: rest) (hq : comeP n p = some q) :
    ∃ r : Nat, x.region = r ∧ r < n ∧ ∃ q1 ev, comeAt { p with way := rest } x r = some (q1, ev) ∧ tellP q1 ev = some q ∧ q.s.state ≠ 0 ∧ p.s.state ≠ 0 := by
  unfold comeP at hq
  rw [hw] at hq
  dsimp only at hq
  split at hq
  · cases hq
  rename_i hr
  refine ⟨x.region.toNat, by omega, by omega, ?_⟩
  cases hc : comeAt { p with way := rest } x x.region.toNat with
  | none => rw [hc] at hq; cases hq
  | some y =>
    obtain ⟨q1, ev⟩ := y
    rw [hc] at hq
    dsimp only at hq
    cases ht : tellP q1 ev with
    | none => rw [ht] at hq; cases hq
    | some t =>
      rw [ht] at hq
      unfold endsP at hq
      dsimp only at hq
      split at hq
      · rename_i hs
        cases hq
        exact ⟨q1, ev, rfl, ht, hs.1, hs.2⟩
      · cases hq
end Sa
end Go.Proofs.Ythfpfomifebpbaa
