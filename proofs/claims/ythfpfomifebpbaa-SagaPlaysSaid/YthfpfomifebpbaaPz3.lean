/-
  saga: the parts of a saga that lie in none of some blocks.
  a slice that may lie anywhere in a block, with room behind it that no other reads: appended to, and cut at its head.
-/
import Derived.Test.YthfpfomifebpbaaSs6
import Derived.Test.YthfpfomifebpbaaSs1
import Derived.Test.YthfpfomifebpbaaSs3
import Derived.Deep.Upon

set_option linter.unusedVariables false
set_option linter.unusedSimpArgs false
namespace Go.Proofs.Ythfpfomifebpbaa
open Go.RowKit Go.Maps
namespace Sa
open It

/-- a slice that lies in none of the blocks of Av -/
def SlA (Av : Nat → Prop) (w : World) (size : Nat) (v : Value) (n : Nat) (xs : List Value) : Prop := ∃ lo B, B ≤ w.heap.size ∧ (∀ i, lo ≤ i → i < B → ¬ Av i) ∧ Sl w lo B size v n xs
section
variable {Av Av' : Nat → Prop} {w w' : World} {size n : Nat} {v : Value} {xs : List Value}
theorem SlA.keep (h : SlA Av w size v n xs) (hk : Kept (fun i => i < w.heap.size ∧ ¬ Av i) w w') : SlA Av w' size v n xs := by
  obtain ⟨lo, B, h1, h2, h3⟩ := h
  exact ⟨lo, B, Nat.le_trans h1 hk.size, h2, hk.sl h3 fun i ha hb => ⟨by omega, h2 i ha hb⟩⟩
theorem SlA.later (h : SlA Av w size v n xs) (hb : Below w.heap.size w w') : SlA Av w' size v n xs := h.keep (Kept.of_below hb fun _ hi => hi.1)
theorem SlA.grow {b : Nat} (h : SlA Av w size v n xs) (hg : w.grownBy w' (some b)) (hb : Av b) : SlA Av w' size v n xs :=
  h.keep (Kept.of_grown hg fun i hi => ⟨hi.1, fun e => hi.2 (by cases e; exact hb)⟩)
theorem SlA.all (h : SlA Av w size v n xs) : Sl w 0 w.heap.size size v n xs := by
  obtain ⟨lo, B, h1, h2, h3⟩ := h
  exact h3.wide (Nat.zero_le _) h1
theorem SlA.more (h : SlA Av w size v n xs) (hm : ∀ i, i < w.heap.size → Av' i → Av i) : SlA Av' w size v n xs := by
  obtain ⟨lo, B, h1, h2, h3⟩ := h
  exact ⟨lo, B, h1, fun i ha hb hx => h2 i ha hb (hm i (by omega) hx), h3⟩
theorem SlA.of {lo B : Nat} (h : Sl w lo B size v n xs) (hB : B ≤ w.heap.size) (ha : ∀ i, lo ≤ i → i < B → ¬ Av i) : SlA Av w size v n xs := ⟨lo, B, hB, ha, h⟩
theorem SlA.nil (Av : Nat → Prop) (w : World) (size : Nat) : SlA Av w size (.slice none 0 0) 0 [] := ⟨0, 0, Nat.zero_le _, fun i _ hb => absurd hb (Nat.not_lt_zero i), Sl.nil _ _ _ _⟩
theorem SlA.form (h : SlA Av w size v n xs) : ∃ A c, v = .slice A n c ∧ n ≤ c ∧ c ≤ maxLen := by
  obtain ⟨lo, B, h1, h2, h3⟩ := h
  obtain ⟨A, c, e, a, b, _⟩ := h3.at_
  exact ⟨A, c, e, a, b⟩
end
def GotA (Av : Nat → Prop) (w : World) (v : Value) (L : List (List It.Item)) : Prop :=
  ∃ vs : List Value, vs.length = L.length ∧ SlA Av w 1 v L.length vs ∧ ∀ k, k < L.length → SlA Av w 2 (vs.getD k (.slice none 0 0)) (L.getD k []).length (itemCells (L.getD k []))
structure PartsA (Av : Nat → Prop) (w : World) (s : Saga) (vw vg vp : Value) : Prop where
  want : SlA Av w 2 vw s.want.length (itemCells s.want)
  got : GotA Av w vg s.got
  pend : SlA Av w 1 vp s.pending.length (ints s.pending)
section
variable {Av Av' : Nat → Prop} {w w' : World} {s : Saga} {vw vg vp v : Value} {L : List (List It.Item)}
theorem GotA.keep (h : GotA Av w v L) (hk : Kept (fun i => i < w.heap.size ∧ ¬ Av i) w w') : GotA Av w' v L := by
  obtain ⟨vs, h1, h2, h3⟩ := h
  exact ⟨vs, h1, h2.keep hk, fun k hk' => (h3 k hk').keep hk⟩
theorem GotA.later (h : GotA Av w v L) (hb : Below w.heap.size w w') : GotA Av w' v L := h.keep (Kept.of_below hb fun _ hi => hi.1)
theorem GotA.more (h : GotA Av w v L) (hm : ∀ i, i < w.heap.size → Av' i → Av i) : GotA Av' w v L := by
  obtain ⟨vs, h1, h2, h3⟩ := h
  exact ⟨vs, h1, h2.more hm, fun k hk' => (h3 k hk').more hm⟩
theorem GotA.got (h : GotA Av w v L) : GotAt w 0 w.heap.size v L := by
  obtain ⟨vs, h1, h2, h3⟩ := h
  exact ⟨vs, h1, h2.all, fun k hk' => (h3 k hk').all⟩
theorem PartsA.keep (h : PartsA Av w s vw vg vp) (hk : Kept (fun i => i < w.heap.size ∧ ¬ Av i) w w') : PartsA Av w' s vw vg vp := ⟨h.want.keep hk, h.got.keep hk, h.pend.keep hk⟩
theorem PartsA.later (h : PartsA Av w s vw vg vp) (hb : Below w.heap.size w w') : PartsA Av w' s vw vg vp := ⟨h.want.later hb, h.got.later hb, h.pend.later hb⟩
theorem PartsA.grow {b : Nat} (h : PartsA Av w s vw vg vp) (hg : w.grownBy w' (some b)) (hb : Av b) : PartsA Av w' s vw vg vp :=
  h.keep (Kept.of_grown hg fun i hi => ⟨hi.1, fun e => hi.2 (by cases e; exact hb)⟩)
theorem PartsA.more (h : PartsA Av w s vw vg vp) (hm : ∀ i, i < w.heap.size → Av' i → Av i) : PartsA Av' w s vw vg vp := ⟨h.want.more hm, h.got.more hm, h.pend.more hm⟩
theorem PartsA.parts (h : PartsA Av w s vw vg vp) : Parts w 0 w.heap.size s vw vg vp := ⟨h.want.all, h.got.got, h.pend.all⟩
theorem PartsA.of {lo B : Nat} (h : Parts w lo B s vw vg vp) (hB : B ≤ w.heap.size) (ha : ∀ i, lo ≤ i → i < B → ¬ Av i) : PartsA Av w s vw vg vp := by
  obtain ⟨vs, h1, h2, h3⟩ := h.got
  exact ⟨.of h.want hB ha, ⟨vs, h1, .of h2 hB ha, fun k hk => .of (h3 k hk) hB ha⟩, .of h.pend hB ha⟩
theorem PartsA.same {s' : Saga} (h : PartsA Av w s vw vg vp) (h1 : s'.want = s.want) (h2 : s'.got = s.got) (h3 : s'.pending = s.pending) : PartsA Av w s' vw vg vp := ⟨h1 ▸ h.want, h2 ▸ h.got, h3 ▸ h.pend⟩
end
def StepsA (Av : Nat → Prop) (w : World) (v : Value) (l : List Step) : Prop :=
  ∃ vs : List Value, vs.length = l.length ∧ SlA Av w 4 v l.length (stepsC l vs) ∧ ∀ k, k < l.length → SlA Av w 2 (vs.getD k (.slice none 0 0)) (l.getD k step0).items.length (itemCells (l.getD k step0).items)
section
variable {Av Av' : Nat → Prop} {w w' : World} {v : Value} {l : List Step}
theorem StepsA.keep (h : StepsA Av w v l) (hk : Kept (fun i => i < w.heap.size ∧ ¬ Av i) w w') : StepsA Av w' v l := by
  obtain ⟨vs, h1, h2, h3⟩ := h
  exact ⟨vs, h1, h2.keep hk, fun k hk' => (h3 k hk').keep hk⟩
theorem StepsA.later (h : StepsA Av w v l) (hb : Below w.heap.size w w') : StepsA Av w' v l := h.keep (Kept.of_below hb fun _ hi => hi.1)
theorem StepsA.grow {b : Nat} (h : StepsA Av w v l) (hg : w.grownBy w' (some b)) (hb : Av b) : StepsA Av w' v l :=
  h.keep (Kept.of_grown hg fun i hi => ⟨hi.1, fun e => hi.2 (by cases e; exact hb)⟩)
theorem StepsA.more (h : StepsA Av w v l) (hm : ∀ i, i < w.heap.size → Av' i → Av i) : StepsA Av' w v l := by
  obtain ⟨vs, h1, h2, h3⟩ := h
  exact ⟨vs, h1, h2.more hm, fun k hk' => (h3 k hk').more hm⟩
theorem StepsA.steps (h : StepsA Av w v l) : StepsAt w 0 w.heap.size v l := by
  obtain ⟨vs, h1, h2, h3⟩ := h
  exact ⟨vs, h1, h2.all, fun k hk' => (h3 k hk').all⟩
theorem StepsA.of {lo B : Nat} (h : StepsAt w lo B v l) (hB : B ≤ w.heap.size) (ha : ∀ i, lo ≤ i → i < B → ¬ Av i) : StepsA Av w v l := by
  obtain ⟨vs, h1, h2, h3⟩ := h
  exact ⟨vs, h1, .of h2 hB ha, fun k hk => .of (h3 k hk) hB ha⟩
theorem StepsA.nil (Av : Nat → Prop) (w : World) : StepsA Av w (.slice none 0 0) [] := ⟨[], rfl, SlA.nil _ _ _, fun k hk => by simp at hk⟩
theorem StepsA.form (h : StepsA Av w v l) : ∃ A c, v = .slice A l.length c := by
  obtain ⟨vs, h1, h2, h3⟩ := h
  obtain ⟨A, c, e, -⟩ := h2.form
  exact ⟨A, c, e⟩
end
theorem partsA0 (Av : Nat → Prop) (w : World) : PartsA Av w saga0 (.slice none 0 0) (.slice none 0 0) (.slice none 0 0) := ⟨SlA.nil _ _ _, ⟨[], rfl, SlA.nil _ _ _, fun k hk => by simp [saga0] at hk⟩, SlA.nil _ _ _⟩
/-- items lie in no block that holds no text -/
theorem items_no {Av : Nat → Prop} {w : World} {lo B : Nat} {v : Value} {l : List It.Item} (h : ItemsAt w lo B v l) (ha : ∀ b, Av b → b < w.heap.size → ∃ t cs, Ob w b t cs ∧ ∀ x ∈ cs.toList, ∀ s, x ≠ .string s) : SlA Av w 2 v l.length (itemCells l) := by
  by_cases hl : 0 < l.length
  · obtain ⟨A, c, rfl, a, b'⟩ := h.form
    obtain ⟨g, o, rfl, h1, h2, h3, h4⟩ := h.cellAt hl
    have hgs : g < w.heap.size := by
      apply Decidable.byContradiction
      intro hge
      have : w.cell? ⟨g, o + 0 * 2, none⟩ = none := by simp [World.cell?, Array.getElem?_eq_none (show w.heap.size ≤ g by omega)]
      rw [this] at h3
      cases h3
    have hgb : ¬ Av g := by
      intro hav
      obtain ⟨t, cs, ho, hn⟩ := ha g hav hgs
      have hc : w.cell? ⟨g, o + 0 * 2, none⟩ = cs[o + 0 * 2]? := by simp [World.cell?, show w.heap[g]? = _ from ho]
      rw [hc] at h3
      obtain ⟨hlt, he⟩ := Array.getElem?_eq_some_iff.1 h3
      exact hn _ (by rw [← he]; simp) _ rfl
    obtain ⟨A', c', e, q1, q2, q3⟩ := h.at_
    cases e
    refine ⟨g, g + 1, by omega, fun i ha hb e => hgb (by rw [show g = i by omega]; exact e), h.len, _, _, rfl, q1, q2, fun hn => ?_⟩
    obtain ⟨b2, o2, e2, q4, q5, q6⟩ := q3 hn
    cases e2
    exact ⟨_, _, rfl, by omega, by omega, q6⟩
  · obtain rfl : l = [] := List.eq_nil_of_length_eq_zero (by omega)
    obtain ⟨A', c', e, q1, q2, q3⟩ := h.at_
    exact ⟨0, 0, Nat.zero_le _, fun i _ hb => absurd hb (Nat.not_lt_zero i), h.len, A', c', e, q1, q2, fun hn => absurd hn (Nat.lt_irrefl _)⟩
end Sa
end Go.Proofs.Ythfpfomifebpbaa

namespace Go.Proofs.Ythfpfomifebpbaa
open Go.RowKit

/-- cells written one behind the other -/
def setR (cur : Array Value) (o : Nat) : List Value → Array Value
  | [] => cur
  | v :: r => setR (cur.setIfInBounds o v) (o + 1) r
theorem setR_size : ∀ (vs : List Value) (cur : Array Value) (o : Nat), (setR cur o vs).size = cur.size
  | [], _, _ => rfl
  | v :: r, cur, o => by rw [setR, setR_size r]; simp
theorem setR_get : ∀ (vs : List Value) (cur : Array Value) (o j : Nat), o + vs.length ≤ cur.size → (setR cur o vs)[j]? = if o ≤ j ∧ j < o + vs.length then vs[j - o]? else cur[j]?
  | [], cur, o, j, _ => by rw [if_neg (by simp)]; rfl
  | v :: r, cur, o, j, h => by
    simp only [List.length_cons] at h ⊢
    rw [setR, setR_get r _ _ _ (by simp; omega)]
    by_cases h1 : o + 1 ≤ j ∧ j < o + 1 + r.length
    · rw [if_pos h1, if_pos (by omega), show j - o = (j - (o + 1)) + 1 by omega, List.getElem?_cons_succ]
    · rw [if_neg h1, Array.getElem?_setIfInBounds]
      by_cases h2 : o = j
      · subst h2
        rw [if_pos rfl, if_pos (by omega), if_pos (by omega), Nat.sub_self]
        rfl
      · rw [if_neg h2, if_neg (by omega)]
theorem Ob.cells {w : World} {g : Nat} {t : TypeId} : ∀ (vs : List Value) {cur : Array Value} (o : Nat), Ob w g t cur → Ob (w.setCells g o vs) g t (setR cur o vs) := by
  intro vs
  induction vs generalizing w with
  | nil => intro cur o h; exact h
  | cons v r ih => intro cur o h; exact ih (o + 1) (h.set o v)
theorem grown_cells {b : Nat} : ∀ (vs : List Value) (w : World) (o : Nat), w.grownBy (w.setCells b o vs) (some b)
  | [], w, _ => World.grownBy.refl _ _
  | v :: r, w, o => (grownBy_set w b o v).trans (grown_cells r _ _)
/-- the slice v has n elements, whose cells are xs; it may be appended to -/
def Way (w : World) (e : TypeId) (size : Nat) (v : Value) (n : Nat) (xs : List Value) : Prop :=
  xs.length = n * size ∧ ((v = .slice none 0 0 ∧ n = 0) ∨ ∃ g off cap cur, v = .slice (some ⟨g, off, none⟩) n cap ∧ n ≤ cap ∧ cap ≤ maxLen ∧ Ob w g e cur ∧ off + cap * size ≤ cur.size ∧ ∀ j, j < xs.length → cur[off + j]? = xs[j]?)
section
variable {P : Program} {w w' : World} {e : TypeId} {size n : Nat} {v : Value} {xs : List Value}
theorem Way.form (h : Way w e size v n xs) : ∃ A c, v = .slice A n c ∧ n ≤ c ∧ c ≤ maxLen := by
  rcases h.2 with ⟨h1, rfl⟩ | ⟨g, off, cap, cur, h1, h2, h3, -⟩
  · exact ⟨_, _, h1, Nat.le_refl _, by unfold maxLen; omega⟩
  · exact ⟨_, _, h1, h2, h3⟩
theorem Way.nil (w : World) (e : TypeId) (size : Nat) : Way w e size (.slice none 0 0) 0 [] := ⟨by simp, .inl ⟨rfl, rfl⟩⟩
theorem Way.of_own {base : Nat} (h : w.ownsRow base e size v n xs) : Way w e size v n xs := by
  refine ⟨h.1, ?_⟩
  rcases h.2 with h2 | ⟨g, cap, cur, h1, -, h3, h4, h5, h6, h7⟩
  · exact .inl h2
  · refine .inr ⟨g, 0, cap, cur, h1, h4, h5, h3, by omega, fun j hj => ?_⟩
    rw [← h7, Nat.zero_add, List.getElem?_take, if_pos (by rw [h.1] at hj; exact hj), Array.getElem?_toList]
theorem Way.kept {row : Option Nat} (h : Way w e size v n xs) (hg : w.grownBy w' row) (hne : v.ownBlock = none ∨ v.ownBlock ≠ row) : Way w' e size v n xs := by
  refine ⟨h.1, ?_⟩
  rcases h.2 with h2 | ⟨g, off, cap, cur, h1, h3, h4, h5, h6⟩
  · exact .inl h2
  · refine .inr ⟨g, off, cap, cur, h1, h3, h4, h5.kept hg ?_, h6⟩
    subst h1
    rcases hne with hne | hne
    · cases hne
    · exact hne
theorem Way.lt (h : Way w e size v n xs) {g : Nat} (hv : v.ownBlock = some g) : g < w.heap.size := by
  rcases h.2 with ⟨h1, -⟩ | ⟨g', off, cap, cur, h1, h3, h4, h5, h6⟩
  · subst h1; cases hv
  · subst h1; cases hv; exact h5.lt
theorem Way.same (h : Way w e size v n xs) (hb : Below w.heap.size w w') : Way w' e size v n xs := by
  refine ⟨h.1, ?_⟩
  rcases h.2 with h2 | ⟨g, off, cap, cur, h1, h3, h4, h5, h6⟩
  · exact .inl h2
  · exact .inr ⟨g, off, cap, cur, h1, h3, h4, h5.same hb, h6⟩
/-- its elements -/
theorem Way.sl (h : Way w e size v n xs) : Sl w 0 w.heap.size size v n xs := by
  refine ⟨h.1, ?_⟩
  rcases h.2 with ⟨h1, rfl⟩ | ⟨g, off, cap, cur, h1, h3, h4, h5, h6, h7⟩
  · exact ⟨_, _, h1, Nat.le_refl _, by unfold maxLen; omega, fun hn => by omega⟩
  · refine ⟨_, _, h1, h3, h4, fun hn => ⟨g, off, rfl, Nat.zero_le _, h5.lt, fun j hj => ?_⟩⟩
    have hj' : j < xs.length := by rw [h.1]; exact hj
    have h8 := h7 j hj'
    rw [List.getElem?_eq_getElem hj'] at h8 ⊢
    exact h5.cell h8
theorem Way.sla (h : Way w e size v n xs) : ∃ lo B, B ≤ w.heap.size ∧ (∀ i, lo ≤ i → i < B → v.ownBlock = some i) ∧ Sl w lo B size v n xs := by
  rcases h.2 with ⟨h1, rfl⟩ | ⟨g, off, cap, cur, h1, h3, h4, h5, h6, h7⟩
  · exact ⟨0, 0, Nat.zero_le _, fun i _ hb => absurd hb (Nat.not_lt_zero i), h.1, _, _, h1, Nat.le_refl _, by unfold maxLen; omega, fun hn => by omega⟩
  · refine ⟨g, g + 1, h5.lt, fun i ha hb => by subst h1; show some g = some i; congr 1; omega, h.1, _, _, h1, h3, h4, fun hn => ⟨g, off, rfl, Nat.le_refl _, Nat.lt_succ_self _, fun j hj => ?_⟩⟩
    have hj' : j < xs.length := by rw [h.1]; exact hj
    have h8 := h7 j hj'
    rw [List.getElem?_eq_getElem hj'] at h8 ⊢
    exact h5.cell h8
/-- elements are appended -/
theorem run_append_way (t ty : TypeId) (i : TypeInfo) (z : Value) (bytes : Nat) (ht : P.underlying t = some (.slice e)) (hi : P.info? e = some i) (hz : i.zero = some z)
    (hsize : i.size = size) (hby : i.bytes = bytes) (hzs : z.cells.size = size) (h : Way w e size v n xs)
    (lo B : Nat) (u : Value) (m : Nat) (ys : List Value) (hm : 0 < m) (hu : Sl w lo B size u m ys) (h1 : ∀ y ∈ ys, y.oneCell' = true) (h63 : n + m ≤ maxLen) (hbytes : (n + m) * bytes ≤ 140737488355328) :
    ∃ v' w', (Builtin.append_ #[t, t] ty #[v, u]).run P w = .ok v' w' ∧ Way w' e size v' (n + m) (xs ++ ys) ∧ w.grownBy w' v.ownBlock ∧ (v'.ownBlock = v.ownBlock ∨ v'.ownBlock = some w.heap.size) := by
  subst hsize
  subst hby
  have hyl := hu.len
  obtain ⟨Au, cu, rfl, -, -, hc⟩ := hu.at_
  obtain ⟨bu, ou, rfl, -, -, hcu⟩ := hc hm
  have hs : Src P i.size t (.slice (some ⟨bu, ou, none⟩) m cu) m ys w := Src.ofSlice w ht ⟨bu, ou, none⟩ m cu ys hyl (fun j u hj => by
    have hj2 : j < ys.length := by
      rcases Nat.lt_or_ge j ys.length with h | h
      · exact h
      · rw [List.getElem?_eq_none h] at hj; cases hj
    rw [Addr.add_lit, hcu j (by rw [← hyl]; exact hj2)]
    exact hj) h1
  have hlen : (xs ++ ys).length = (n + m) * i.size := by rw [List.length_append, h.1, hyl, Nat.add_mul]
  have hbd : n + m ≤ 9223372036854775807 := by unfold maxLen at h63; omega
  -- a new row
  have grow : ∀ (bs : Option Addr) (sc : Nat), v = .slice bs n sc → sc < n + m → (Builtin.firstCells i.size n (.slice bs n sc)).run P w.drew = .ok xs.toArray w.drew →
      ∃ v' w', (Builtin.append_ #[t, t] ty #[v, .slice (some ⟨bu, ou, none⟩) m cu]).run P w = .ok v' w' ∧ Way w' e i.size v' (n + m) (xs ++ ys) ∧ w.grownBy w' v.ownBlock ∧ (v'.ownBlock = v.ownBlock ∨ v'.ownBlock = some w.heap.size) := by
    rintro bs sc rfl hg hold
    have hrun := run_append_grow_src (P := P) w t t ty e i z ht hi hz bs n sc xs hold _ m ys hs hg (by omega) (growslice_fits hg hbytes)
    have hge := grownCap_ge w (n + m) sc e
    have hcm := grownCap_le_maxLen w (n + m) sc e h63
    refine ⟨_, _, hrun, ⟨hlen, .inr ⟨w.heap.size, 0, _, _, rfl, hge, hcm, Ob.new w.drew e _, ?_, fun j hj => ?_⟩⟩, ?_, .inr rfl⟩
    · rw [Array.size_append, List.size_toArray, hlen, size_zeroCells, hzs, ← Nat.add_mul]
      exact Nat.le_of_eq (by rw [Nat.zero_add]; congr 1; omega)
    · rw [Nat.zero_add, Array.getElem?_append_left (by simpa using hj), List.getElem?_toArray]
    · exact only_of_below (((Below.refl w.heap.size w).drew).alloc (Nat.le_refl _) _) _
  rcases h.2 with ⟨rfl, rfl⟩ | ⟨g, off, cap, cur, rfl, h2, h3, h4, h5, h6⟩
  · refine grow none 0 rfl (by omega) ?_
    have : xs = [] := List.eq_nil_of_length_eq_zero (by rw [h.1]; omega)
    rw [this]
    exact run_firstCells_none w.drew i.size 0 0 0
  · by_cases hroom : n + m ≤ cap
    · have hsp : (n + m) * i.size ≤ cap * i.size := Nat.mul_le_mul_right _ hroom
      rw [Nat.add_mul] at hsp
      have hrun := run_append_room_src (P := P) w t t ty e i ht hi g off n cap _ m ys hs hroom
        (fun j hj => by
          have hlt : off + n * i.size + j < cur.size := by omega
          rw [h4.cell (Array.getElem?_eq_getElem hlt)]
          rfl)
        (fun j _ => h4.frozen _)
      refine ⟨_, _, hrun, ⟨hlen, .inr ⟨g, off, cap, _, rfl, hroom, h3, h4.cells ys _, by rw [setR_size]; exact h5, fun j hj => ?_⟩⟩, grown_cells _ _ _, .inl rfl⟩
      rw [setR_get _ _ _ _ (by omega)]
      have hxl := h.1
      by_cases hj1 : j < xs.length
      · rw [if_neg (by omega), List.getElem?_append_left hj1]
        exact h6 j hj1
      · rw [List.length_append] at hj
        rw [if_pos (by omega), List.getElem?_append_right (by omega)]
        congr 1
        omega
    · refine grow _ cap rfl (by omega) ?_
      refine run_firstCells_some w.drew i.size n ⟨g, off, none⟩ n cap xs h.1 (fun j u hj => ?_)
      have hj2 : j < xs.length := by
        rcases Nat.lt_or_ge j xs.length with h | h
        · exact h
        · rw [List.getElem?_eq_none h] at hj; cases hj
      rw [Addr.add_lit]
      exact h4.cell ((h6 j hj2).trans hj)
theorem wpList_append_way {ops : Array Oper} {rest : List Oper} {o : Oper} {a : Act} {Q : Exit → Act → World → Prop} (hgd : o.guard = none) (s x : Operand) (t : TypeId)
    (ho : o.op = .call { callee := .builtin .append, args := #[s, x], argTypes := #[t, t] })
    (e : TypeId) (i : TypeInfo) (z : Value) (size bytes : Nat) (ht : P.underlying t = some (.slice e)) (hi : P.info? e = some i) (hz : i.zero = some z)
    (hsize : i.size = size) (hby : i.bytes = bytes) (hzs : z.cells.size = size)
    (v : Value) (n : Nat) (xs : List Value) (hs : a.eval s = v) (hw : Way w e size v n xs)
    (lo B : Nat) (u : Value) (m : Nat) (ys : List Value) (hm : 0 < m) (hx : a.eval x = u) (hu : Sl w lo B size u m ys) (h1 : ∀ y ∈ ys, y.oneCell' = true)
    (h63 : n + m ≤ maxLen) (hbytes : (n + m) * bytes ≤ 140737488355328)
    (h : ∀ v' w', Way w' e size v' (n + m) (xs ++ ys) → w.grownBy w' v.ownBlock → (v'.ownBlock = v.ownBlock ∨ v'.ownBlock = some w.heap.size) → wpList P ops Q rest (a.put o.dst v') w') :
    wpList P ops Q (o :: rest) a w :=
  wpList_plain hgd fun K hK => by
    obtain ⟨v', w', hrun, h2, h3, h4⟩ := run_append_way (P := P) t o.type i z bytes ht hi hz hsize hby hzs hw lo B u m ys hm hu h1 h63 hbytes
    unfold Oper.wp execOp
    simp only [ho, resolve, invoke, builtin, Sem.run_bind, Sem.run_pure, Result.andThen_ok, List.map_toArray, List.map_cons, List.map_nil, hs, hx, hrun]
    exact hK _ _ (h v' w' h2 h3 h4)
end
end Go.Proofs.Ythfpfomifebpbaa
