/-
  moves: the document's moves in memory; Find, region.
-/
import Derived.Test.YtdbkkldgobkjcaaMvH

import Derived.Test.YtdbkkldgobkjcaaReg
namespace Go.Proofs.Ytdbkkldgobkjcaa
open Go.RowKit Go.Maps
namespace Mv
open It

/-- the cells of the document's moves: a move and the value of its list -/
def wayC (p : Way × Value) : List Value := [.int .i64 p.1.mv, .int .i64 p.1.fr, .int .i64 p.1.to_, p.2, .bool p.1.came]
def docCells (es : List (Way × Value)) : List Value := es.flatMap wayC
theorem docCells_length : ∀ es : List (Way × Value), (docCells es).length = es.length * 5
  | [] => rfl
  | p :: r => by
    have := docCells_length r
    simp only [docCells, List.flatMap_cons, List.length_append, List.length_cons] at this ⊢
    rw [this]
    simp only [wayC, List.length_cons, List.length_nil]
    omega
theorem docCells_append (a b : List (Way × Value)) : docCells (a ++ b) = docCells a ++ docCells b := by simp [docCells]
theorem docCells_get : ∀ (es : List (Way × Value)) (j i : Nat) (h : j < es.length), i < 5 → (docCells es)[j * 5 + i]? = (wayC es[j])[i]?
  | p :: r, 0, i, _, hi => by
    simp only [docCells, List.flatMap_cons, Nat.zero_mul, Nat.zero_add, List.getElem_cons_zero]
    rw [List.getElem?_append_left (by simp [wayC]; omega)]
  | p :: r, j + 1, i, h, hi => by
    have := docCells_get r j i (by simpa using h) hi
    simp only [docCells, List.flatMap_cons, List.getElem_cons_succ] at this ⊢
    rw [List.getElem?_append_right (by simp [wayC]; omega), ← this]
    congr 1
    simp only [wayC, List.length_cons, List.length_nil]
    omega
theorem docCells_take : ∀ (es : List (Way × Value)) (k : Nat), docCells (es.take k) = (docCells es).take (k * 5)
  | [], k => by simp [docCells]
  | p :: r, 0 => by simp [docCells]
  | p :: r, k + 1 => by
    have := docCells_take r k
    have e : (k + 1) * 5 = k * 5 + 5 := by omega
    simp only [docCells, List.take_succ_cons, List.flatMap_cons] at this ⊢
    rw [this, e, List.take_append]
    simp [wayC, List.take_of_length_le]
theorem docCells_drop : ∀ (es : List (Way × Value)) (k : Nat), docCells (es.drop k) = (docCells es).drop (k * 5)
  | [], k => by simp [docCells]
  | p :: r, 0 => by simp [docCells]
  | p :: r, k + 1 => by
    have := docCells_drop r k
    have e : (k + 1) * 5 = k * 5 + 5 := by omega
    simp only [docCells, List.drop_succ_cons, List.flatMap_cons] at this ⊢
    rw [this, e, List.drop_append]
    simp [wayC, List.drop_eq_nil_of_le]

/-- the document's moves: block xb; the lists of the moves lie below base, their row from base on -/
structure DocAt (w : World) (xb base : Nat) (es : List (Way × Value)) : Prop where
  ob : ∃ v, Ob w xb 28 #[v] ∧ w.ownsRow base 42 5 v es.length (docCells es)
  nest : ∀ p ∈ es, ItemsAt w 0 base p.2 p.1.l
  len : es.length ≤ 256
theorem DocAt.same {w w' : World} {xb base : Nat} {es : List (Way × Value)} (h : DocAt w xb base es) (hb : Below w.heap.size w w') (hB : base ≤ w.heap.size) : DocAt w' xb base es := by
  obtain ⟨v, h1, h2⟩ := h.ob
  exact ⟨⟨v, h1.same hb, row_below h2 hb⟩, fun p hp => (h.nest p hp).below (hb.mono hB), h.len⟩
/-- a write to a block that is no row of moves and not xb -/
theorem DocAt.kept {w w' : World} {xb base g : Nat} {es : List (Way × Value)} (h : DocAt w xb base es) (hg : w.grownBy w' (some g)) (hx : xb ≠ g) (hB : base ≤ w.heap.size) (hgb : base ≤ g) (hn : ∀ cu fz, w.heap[g]? ≠ some (.cells cu 42 fz)) : DocAt w' xb base es := by
  obtain ⟨v, h1, h2⟩ := h.ob
  refine ⟨⟨v, h1.kept hg (fun e => hx (Option.some.inj e)), h2.kept hg ?_⟩, fun p hp => (h.nest p hp).below ((Below.refl base w).grown hg hB (fun k e => by cases e; exact hgb)), h.len⟩
  rcases h2.2 with ⟨rfl, _⟩ | ⟨g', cap, cur, rfl, _, hg', _⟩
  · exact .inl rfl
  · refine .inr fun e => ?_
    have : g' = g := by simpa [Value.ownBlock] using e
    subst this
    exact hn _ _ hg'

/-- where the document finds a move -/
def idxW (ds : List Way) (k : Int) : Int := match ds.findIdx? (fun d => decide (d.mv = k)) with | some i => i | none => -1
theorem docAt_cell {w : World} {lo B c j n : Nat} {A : Option Addr} {es : List (Way × Value)} (h : Sl w lo B 5 (.slice A n c) es.length (docCells es)) (hj : j < es.length) : ∃ b o, A = some ⟨b, o, none⟩ ∧ lo ≤ b ∧ b < B ∧
    w.cell? ⟨b, o + j * 5, none⟩ = some (.int .i64 es[j].1.mv) ∧ w.cell? ⟨b, o + j * 5 + 1, none⟩ = some (.int .i64 es[j].1.fr) ∧ w.cell? ⟨b, o + j * 5 + 2, none⟩ = some (.int .i64 es[j].1.to_) ∧ w.cell? ⟨b, o + j * 5 + 3, none⟩ = some es[j].2 ∧ w.cell? ⟨b, o + j * 5 + 4, none⟩ = some (.bool es[j].1.came) := by
  obtain ⟨A', c', e, h1, h2, h3⟩ := h.at_
  cases e
  obtain ⟨b, o, ea, hl, hb, hc⟩ := h3 (by omega)
  have g := fun i (hi : i < 5) => (hc (j * 5 + i) (by omega)).trans (docCells_get es j i hj hi)
  exact ⟨b, o, ea, hl, hb, g 0 (by omega), g 1 (by omega), g 2 (by omega), g 3 (by omega), g 4 (by omega)⟩
theorem idxW_lt (ds : List Way) (k : Int) (j : Nat) (hj : j < ds.length) (hlt : ∀ i (h : i < ds.length), i < j → ds[i].mv ≠ k) (he : ds[j].mv = k) : idxW ds k = j := by
  unfold idxW
  have : ds.findIdx? (fun d => decide (d.mv = k)) = some j := by
    rw [List.findIdx?_eq_some_iff_getElem]
    exact ⟨hj, by simpa using he, fun i hi => by simpa using hlt i (by omega) hi⟩
  rw [this]
theorem idxW_none (ds : List Way) (k : Int) (h : ∀ i (h : i < ds.length), ds[i].mv ≠ k) : idxW ds k = -1 := by
  unfold idxW
  have : ds.findIdx? (fun d => decide (d.mv = k)) = none := by
    rw [List.findIdx?_eq_none_iff]
    intro d hd
    obtain ⟨i, hi, rfl⟩ := List.getElem_of_mem hd
    simpa using h i hi
  rw [this]

set_option maxRecDepth 100000 in
set_option maxHeartbeats 4000000 in
theorem find_calls (k : Int) (xb base : Nat) (es : List (Way × Value)) (w : World) (h : DocAt w xb base es) :
    Calls Try.prog 20 #[.pointer (some ⟨xb, 0, none⟩), .int .i64 k] w fun e w' => e = .returned (.int .i64 (idxW (es.map (·.1)) k)) ∧ w = w' := by
  obtain ⟨v, hx, hv⟩ := h.ob
  have hlen := h.len
  have hS := Sl.of_own hv
  obtain ⟨A, c, rfl, hc1, hc2, -⟩ := hS.at_
  unfold maxLen at hc2
  have g0 := hx.cell (j := 0) (v := .slice A es.length c) rfl
  have HS := Lib.hid hS
  clear hS hv hx h
  go_enter Try.func20, Try.ntmps20
  go_wp2
  go_loopw [5] (fun i wr => ∃ j : Nat, j ≤ es.length ∧ i = .int .i64 j ∧ wr = w ∧ ∀ i (h : i < es.length), i < j → es[i].1.mv ≠ k) (fun i _ => es.length - (intOf i).toNat)
  case atStart => exact ⟨0, by omega, rfl, rfl, fun i h hi => by omega⟩
  case round =>
    obtain ⟨j, hj, rfl, rfl, hne⟩ := hrel
    have HNE := Lib.hid hne
    clear hne
    by_cases hlt : j < es.length
    · have hd : decide ((j : Int) < (es.length : Int)) = true := by simp; omega
      obtain ⟨b, o, rfl, -, -, c0, -⟩ := docAt_cell HS.out hlt
      have hcs : (es[j].1.mv == k) = true ∨ (es[j].1.mv == k) = false := by cases (es[j].1.mv == k) <;> simp
      generalize hm : es[j].1.mv = m at *
      have HM := Lib.hid hm
      clear hm
      rcases hcs with hq | hq
      · go_wp2
        go_ret
        have he : m = k := by simpa using hq
        refine ⟨ret1 (congrArg (Value.int .i64) ?_), rfl⟩
        exact (idxW_lt _ _ j (by simpa using hlt) (fun i h hi => by simpa using HNE.out i (by simpa using h) hi) (by simpa using HM.out.trans he)).symm
      · go_wp2
        have hq2 : m ≠ k := by simpa using hq
        refine ⟨⟨j + 1, by omega, by go_num, trivial, fun i h hi => ?_⟩, by simp [intOf]; omega⟩
        by_cases e : i = j
        · subst e; rw [HM.out]; exact hq2
        · exact HNE.out i h (by omega)
    · obtain rfl : j = es.length := by omega
      have hd : decide ((es.length : Int) < (es.length : Int)) = false := by simp
      go_wp2
      go_ret
      refine ⟨ret1 (congrArg (Value.int .i64) ?_), rfl⟩
      exact (idxW_none _ _ (fun i h => by simpa using HNE.out i (by simpa using h) (by simpa using h))).symm
end Mv
end Go.Proofs.Ytdbkkldgobkjcaa
