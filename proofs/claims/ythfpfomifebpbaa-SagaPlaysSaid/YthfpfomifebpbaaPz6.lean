/-
  sagas played: what the law's tell and come write.
-/
import Derived.Test.YthfpfomifebpbaaPz5
import Derived.Deep.MidRow

set_option linter.unusedVariables false
set_option linter.unusedSimpArgs false
namespace Go.Proofs.Ythfpfomifebpbaa
open Go.RowKit Go.Maps
namespace Sa
open It

/-- a slice that lies apart stays when the row it lies apart from has grown -/
theorem SlA.turn {Av : Nat → Prop} {W2 W3 : World} {v v' y : Value} {n z : Nat} {xs : List Value} (h : SlA (fun i => Av i ∨ v.ownBlock = some i) W2 z y n xs) (hg : W2.grownBy W3 v.ownBlock) (hat : v'.ownBlock = v.ownBlock ∨ v'.ownBlock = some W2.heap.size) :
    SlA (fun i => Av i ∨ v'.ownBlock = some i) W3 z y n xs := by
  have h' : SlA (fun i => Av i ∨ v'.ownBlock = some i) W2 z y n xs := h.more fun i hi hx => by
    rcases hx with hx | hx
    · exact .inl hx
    · rcases hat with e | e
      · rw [e] at hx; exact .inr hx
      · rw [e] at hx; cases hx; omega
  obtain ⟨lo, B, q1, q2, q3⟩ := h'
  obtain ⟨lo', B', r1, r2, r3⟩ := h
  have hz := hg.size
  exact ⟨max lo lo', min B B', by omega, fun i ha hb => q2 i (by omega) (by omega), by
    obtain ⟨A, c, e, a1, a2, a3⟩ := q3.at_
    obtain ⟨A', c', e', b1, b2, b3⟩ := r3.at_
    rw [e] at e'
    cases e'
    have hk := (Kept.of_grown (Fr := fun i => i < W2.heap.size ∧ ¬ (Av i ∨ v.ownBlock = some i)) hg fun i hi => ⟨hi.1, fun e => hi.2 (.inr e.symm)⟩)
    refine ⟨q3.len, A, c, e, a1, a2, fun hn => ?_⟩
    obtain ⟨g, o, ea, g1, g2, g3⟩ := a3 hn
    obtain ⟨g', o', ea', f1, f2, f3⟩ := b3 hn
    rw [ea] at ea'
    cases ea'
    exact ⟨g, o, ea, by omega, by omega, fun j hj => (World.cell?_of_block (hk.block g ⟨by omega, r2 g f1 f2⟩)).trans (g3 j hj)⟩⟩
theorem PartsA.turn {Av : Nat → Prop} {W2 W3 : World} {v v' : Value} {s : Saga} {vw vg vp : Value} (h : PartsA (fun i => Av i ∨ v.ownBlock = some i) W2 s vw vg vp) (hg : W2.grownBy W3 v.ownBlock) (hat : v'.ownBlock = v.ownBlock ∨ v'.ownBlock = some W2.heap.size) :
    PartsA (fun i => Av i ∨ v'.ownBlock = some i) W3 s vw vg vp := by
  obtain ⟨vs, h1, h2, h3⟩ := h.got
  exact ⟨h.want.turn hg hat, ⟨vs, h1, h2.turn hg hat, fun k hk => (h3 k hk).turn hg hat⟩, h.pend.turn hg hat⟩
section
variable {w w' : World} {B : Bl} {n : Nat} {p : Play} {vw vg vp vy : Value}
theorem play_range {b f hh k g cf : Nat} {s : Saga} (h : Ob w b 39 (playC s vw vg vp f hh k g n cf vy)) : w.rangeAt b 0 (sagaC s vw vg vp).toList := fun j v hj => by
  rw [Nat.zero_add]
  rcases j with _ | _ | _ | _ | _ | _ | _ | _ | _ | _ | j
  all_goals first | exact h.cell hj | cases hj
theorem play_there {b f hh k g cf : Nat} {s : Saga} (h : Ob w b 39 (playC s vw vg vp f hh k g n cf vy)) : w.there b 0 10 := fun j hj => by
  refine ⟨?_, h.frozen _⟩
  rw [Nat.zero_add, h.cell (Array.getElem?_eq_getElem (show j < (playC s vw vg vp f hh k g n cf vy).size by show j < 15; omega))]
  rfl
theorem play_put {b f hh k g cf : Nat} {s : Saga} (h : Ob w b 39 (playC s vw vg vp f hh k g n cf vy)) (s' : Saga) (vw' vg' vp' : Value) :
    Ob (w.setCells b 0 (sagaC s' vw' vg' vp').toList) b 39 (playC s' vw' vg' vp' f hh k g n cf vy) := by
  have h2 := h.cells (sagaC s' vw' vg' vp').toList 0
  have e : setR (playC s vw vg vp f hh k g n cf vy) 0 (sagaC s' vw' vg' vp').toList = playC s' vw' vg' vp' f hh k g n cf vy := by simp [setR, sagaC, playC]
  rw [e] at h2
  exact h2
theorem PlayAt.saga (h : PlayAt w B n p vw vg vp vy) {s' : Saga} {vw' vg' vp' : Value} (hP : PartsA (B.av vy) w s' vw' vg' vp') :
    PlayAt (w.setCells B.b 0 (sagaC s' vw' vg' vp').toList) B n { p with s := s' } vw' vg' vp' vy ∧ Plays B vy w (w.setCells B.b 0 (sagaC s' vw' vg' vp').toList) := by
  have hg := grown_cells (b := B.b) (sagaC s' vw' vg' vp').toList w 0
  have hb : B.av vy B.b := .inl (.inl rfl)
  obtain ⟨vs, h1, h2, h3⟩ := h.way
  refine ⟨⟨h.ok, play_put h.ob _ _ _ _, h.free.kept hg ?_, h.held.kept hg ?_, h.picked.kept hg ?_, h.gone.kept hg ?_, hP.grow hg hb, ⟨vs, h1, h2.kept hg ?_, fun k hk => (h3 k hk).grow hg hb⟩, h.yne⟩, Kept.of_grown hg fun i hi => ⟨hi.1, fun e => hi.2 (by cases e; exact hb)⟩⟩
  · exact fun e => h.ok.bf (Option.some.inj e).symm
  · exact fun e => h.ok.bh (Option.some.inj e).symm
  · exact fun e => h.ok.bk (Option.some.inj e).symm
  · exact fun e => h.ok.bg (Option.some.inj e).symm
  · exact .inr fun e => h.yne _ e (.inl rfl)
/-- a step more is on its way -/
theorem PlayAt.push (h : PlayAt w B n p vw vg vp vy) {x : Step} {xv vy' : Value} {vs : List Value} (hl : vs.length = p.way.length) (hs : ∀ k, k < p.way.length → SlA (B.av vy) w 2 (vs.getD k (.slice none 0 0)) (p.way.getD k step0).items.length (itemCells (p.way.getD k step0).items))
    (hx : SlA (B.av vy) w 2 xv x.items.length (itemCells x.items)) (hw : Way w' 52 4 vy' (p.way.length + 1) (stepsC p.way vs ++ stepL x xv)) (hg : w.grownBy w' vy.ownBlock) (hat : vy'.ownBlock = vy.ownBlock ∨ vy'.ownBlock = some w.heap.size) :
    PlayAt (w'.setCell ⟨B.b, 14, none⟩ vy') B n { p with way := p.way ++ [x] } vw vg vp vy' ∧ Plays B vy w (w'.setCell ⟨B.b, 14, none⟩ vy') := by
  have hb : B.av vy' B.b := .inl (.inl rfl)
  have hg2 := grownBy_set w' B.b 14 vy'
  have ne : ∀ i, B.is i → some i ≠ vy.ownBlock := fun i hi e => h.yne i e.symm hi
  have hy' : ∀ i, vy'.ownBlock = some i → ¬ B.is i := fun i hi hb => by
    rcases hat with e | e
    · exact h.yne i (e.symm.trans hi) hb
    · rw [e] at hi
      cases hi
      have := h.lt _ (.inl hb)
      omega
  refine ⟨⟨h.ok, (h.ob.kept hg (ne _ (.inl rfl))).set 14 vy', (h.free.kept hg (ne _ (.inr (.inl rfl)))).other (fun e => h.ok.bf e.symm), (h.held.kept hg (ne _ (.inr (.inr (.inl rfl))))).other (fun e => h.ok.bh e.symm), (h.picked.kept hg (ne _ (.inr (.inr (.inr (.inl rfl)))))).other (fun e => h.ok.bk e.symm), (h.gone.kept hg (ne _ (.inr (.inr (.inr (.inr rfl)))))).other (fun e => h.ok.bg e.symm),
    (PartsA.turn (Av := B.is) h.parts hg hat).grow hg2 hb, ⟨vs ++ [xv], by simp [hl], ?_, fun k hk => ?_⟩, hy'⟩, ?_⟩
  · show Way _ _ _ _ (p.way ++ [x]).length (stepsC (p.way ++ [x]) (vs ++ [xv]))
    rw [List.length_append, stepsC_snoc x xv _ _ hl]
    exact hw.kept hg2 (.inr fun e => hy' _ e (.inl rfl))
  · have hk : k < (p.way ++ [x]).length := hk
    rw [List.length_append, List.length_singleton] at hk
    show SlA (B.av vy') _ 2 _ ((p.way ++ [x]).getD k step0).items.length (itemCells ((p.way ++ [x]).getD k step0).items)
    by_cases hlt : k < p.way.length
    · rw [show (vs ++ [xv]).getD k (.slice none 0 0) = vs.getD k (.slice none 0 0) by simp [List.getD, List.getElem?_append_left (show k < vs.length by omega)], show (p.way ++ [x]).getD k step0 = p.way.getD k step0 by simp [List.getD, List.getElem?_append_left hlt]]
      exact (SlA.turn (Av := B.is) (hs k hlt) hg hat).grow hg2 hb
    · obtain rfl : k = p.way.length := by omega
      rw [show (vs ++ [xv]).getD p.way.length (.slice none 0 0) = xv by rw [← hl]; simp [List.getD], show (p.way ++ [x]).getD p.way.length step0 = x by simp [List.getD]]
      exact (SlA.turn (Av := B.is) hx hg hat).grow hg2 hb
  · refine (Kept.of_grown (Fr := fun i => i < w.heap.size ∧ ¬ B.av vy i) hg fun i hi => ⟨hi.1, fun e => hi.2 (.inr e.symm)⟩).trans (Kept.of_grown hg2 fun i hi => ⟨Nat.lt_of_lt_of_le hi.1 hg.size, fun e => hi.2 ?_⟩)
    cases e
    exact .inl (.inl rfl)
/-- numbers change -/
theorem PlayAt.nums (h : PlayAt w B n p vw vg vp vy) {q : Play} (hs : q.s = p.s) (hy : q.way = p.way) (hg : Kept (fun i => i < w.heap.size ∧ ¬ (i = B.f ∨ i = B.h ∨ i = B.k ∨ i = B.g)) w w') (h1 : Vec w' B.f n q.free) (h2 : Vec w' B.h n q.held) (h3 : Vec w' B.k n q.picked) (h4 : Vec w' B.g n q.gone) :
    PlayAt w' B n q vw vg vp vy ∧ Plays B vy w w' := by
  obtain ⟨vs, g1, g2, g3⟩ := h.way
  have hk : Kept (fun i => i < w.heap.size ∧ ¬ B.av vy i) w w' := hg.mono fun i hi => ⟨hi.1, fun hx => hi.2 (.inl (.inr hx))⟩
  have hno : ¬ (B.b = B.f ∨ B.b = B.h ∨ B.b = B.k ∨ B.b = B.g) := by
    rintro (e | e | e | e)
    · exact h.ok.bf e
    · exact h.ok.bh e
    · exact h.ok.bk e
    · exact h.ok.bg e
  have hob := hg.ob h.ob ⟨h.ob.lt, hno⟩
  have hpa := h.parts.keep hk
  rw [← hs] at hob hpa
  refine ⟨⟨h.ok, hob, h1, h2, h3, h4, hpa, ?_, h.yne⟩, hk⟩
  · rw [hy]
    refine ⟨vs, g1, ⟨g2.1, ?_⟩, fun k hk' => (g3 k hk').keep hk⟩
    rcases g2.2 with e | ⟨g, off, cap, cur, e1, e2, e3, e4, e5⟩
    · exact .inl e
    · refine .inr ⟨g, off, cap, cur, e1, e2, e3, hg.ob e4 ⟨e4.lt, fun hx => h.yne g (by rw [e1]; rfl) (.inr hx)⟩, e5⟩
theorem Plays.trans {vy' : Value} {w'' : World} (h : Plays B vy w w') (k : Plays B vy' w' w'') (hv : ∀ i, vy'.ownBlock = some i → vy.ownBlock = some i ∨ w.heap.size ≤ i) : Plays B vy w w'' :=
  Kept.trans h (Kept.mono k fun i hi => ⟨Nat.lt_of_lt_of_le hi.1 (Kept.size h), fun hx => by
    rcases hx with hx | hx
    · exact hi.2 (.inl hx)
    · rcases hv i hx with hx | hx
      · exact hi.2 (.inr hx)
      · omega⟩)
theorem Plays.of_below (h : Below w.heap.size w w') : Plays B vy w w' := Kept.of_below h fun _ hi => hi.1
end
end Sa
end Go.Proofs.Ythfpfomifebpbaa
