/-
  saga: Decode.
  saga: the law SagaCodes.
  the row SagaCodes.
-/
import Derived.Test.YthfpfomifebpbaaGreatNx4
import Derived.Test.YthfpfomifebpbaaGreatNz7
import Derived.Test.YthfpfomifebpbaaGreatNx3
import Derived.Test.YthfpfomifebpbaaGreatNz6
import Derived.Test.YthfpfomifebpbaaGreatNz8
import Derived.Test.YthfpfomifebpbaaGreatNz12
import Derived.Test.YthfpfomifebpbaaGreatNz9

set_option linter.unusedVariables false
set_option linter.unusedSimpArgs false
namespace Go.Proofs.YthfpfomifebpbaaGreat
open Go.RowKit Go.Maps
namespace Sa
open It Ce
set_option linter.unusedSimpArgs false

/-- a saga, or none, by value -/
def RetD (w' : World) (e : Ending) : Option Saga → Prop
  | none => e = .returned (.tuple #[.agg (sagaC saga0 (.slice none 0 0) (.slice none 0 0) (.slice none 0 0)), .int .i64 10])
  | some s => ∃ vw vg vp, e = .returned (.tuple #[.agg (sagaC s vw vg vp), .int .i64 0]) ∧ Parts w' 0 w'.heap.size s vw vg vp
theorem tNum_le {least most : Int} {st : Tst} (h0 : 0 ≤ least) (h1 : 0 ≤ most) : 0 ≤ (tNum least most st).1 ∧ (tNum least most st).1 ≤ most := by
  cases hn : tNum least most st with
  | mk n o =>
    cases o with
    | none =>
      have := tNum_zero (by rw [hn] : (tNum least most st).2 = none)
      rw [hn] at this
      dsimp only at this ⊢
      omega
    | some r =>
      obtain ⟨_, _, _, h3, h4⟩ := tNum_some hn
      dsimp only
      omega
def AvD (n bt qs : Nat) (v : Value) : Nat → Prop := fun i => i = n ∨ i = bt ∨ i = qs ∨ v.ownBlock = some i
theorem gIt_may (st : Tst) : ∀ k, ∀ l ∈ (gIt ([], st) k).1, may l = true
  | 0, l, h => by cases h
  | k + 1, l, h => by
    simp only [gIt] at h
    rcases List.mem_append.1 h with h | h
    · exact gIt_may st k l h
    · rw [List.mem_singleton.1 h]; exact readI_may
theorem dSaga_fit (b : List UInt8) : Fit (dSaga b) := ⟨(M_of (readI_may)).fits, fun l hl => (M_of (gIt_may _ _ l hl)).fits⟩
/-- what regions hold, as it is read: the row is the call's own, and each list lies apart -/
structure GotI (Av : Nat → Prop) (w : World) (base : Nat) (v : Value) (L : List (List It.Item)) : Prop where
  row : ∃ vs : List Value, vs.length = L.length ∧ w.ownsRow base 22 1 v L.length vs ∧ ∀ k, k < L.length → SlA (fun i => Av i ∨ v.ownBlock = some i) w 2 (vs.getD k (.slice none 0 0)) (L.getD k []).length (itemCells (L.getD k []))
theorem GotI.nil (Av : Nat → Prop) (w : World) (base : Nat) : GotI Av w base (.slice none 0 0) [] := ⟨⟨[], rfl, World.ownsRow_nil _ _ _ _, fun k hk => by simp at hk⟩⟩
theorem GotI.form {Av : Nat → Prop} {w : World} {base : Nat} {v : Value} {L : List (List It.Item)} (h : GotI Av w base v L) : ∃ A c, v = .slice A L.length c := by
  obtain ⟨vs, h1, h2, h3⟩ := h.row
  obtain ⟨A, c, e, -⟩ := (Sl.of_own h2).at_
  exact ⟨A, c, e⟩
/-- a slice that lies apart stays when the row it lies apart from has grown -/
theorem SlA.turn {Av : Nat → Prop} {W2 W3 : World} {v v' y : Value} {n z : Nat} {xs : List Value} (h : SlA (fun i => Av i ∨ v.ownBlock = some i) W2 z y n xs) (hg : W2.grownBy W3 v.ownBlock) (hat : v'.ownBlock = v.ownBlock ∨ v'.ownBlock = some W2.heap.size) :
    SlA (fun i => Av i ∨ v'.ownBlock = some i) W3 z y n xs := by
  have h' : SlA (fun i => Av i ∨ v'.ownBlock = some i) W2 z y n xs := h.more fun i hi hx => by
    rcases hx with hx | hx
    · exact .inl hx
    · rcases hat with e | e
      · rw [e] at hx; exact .inr hx
      · rw [e] at hx; cases hx; omega
  obtain ⟨lo, B, q1, q2, q3⟩ := h'
  obtain ⟨lo', B', r1, r2, r3⟩ := h
  have hz := hg.size
  exact ⟨max lo lo', min B B', by omega, fun i ha hb => q2 i (by omega) (by omega), by
    obtain ⟨A, c, e, a1, a2, a3⟩ := q3.at_
    obtain ⟨A', c', e', b1, b2, b3⟩ := r3.at_
    rw [e] at e'
    cases e'
    have hk := (Kept.of_grown (Fr := fun i => i < W2.heap.size ∧ ¬ (Av i ∨ v.ownBlock = some i)) hg fun i hi => ⟨hi.1, fun e => hi.2 (.inr e.symm)⟩)
    refine ⟨q3.len, A, c, e, a1, a2, fun hn => ?_⟩
    obtain ⟨g, o, ea, g1, g2, g3⟩ := a3 hn
    obtain ⟨g', o', ea', f1, f2, f3⟩ := b3 hn
    rw [ea] at ea'
    cases ea'
    exact ⟨g, o, ea, by omega, by omega, fun j hj => (World.cell?_of_block (hk.block g ⟨by omega, r2 g f1 f2⟩)).trans (g3 j hj)⟩⟩
/-- a list more -/
theorem GotI.snoc {Av : Nat → Prop} {W2 W3 : World} {base : Nat} {v v' x : Value} {L : List (List It.Item)} {l : List It.Item} {vs : List Value} (hl : vs.length = L.length) (hs : ∀ k, k < L.length → SlA (fun i => Av i ∨ v.ownBlock = some i) W2 2 (vs.getD k (.slice none 0 0)) (L.getD k []).length (itemCells (L.getD k [])))
    (hx : SlA (fun i => Av i ∨ v.ownBlock = some i) W2 2 x l.length (itemCells l)) (hr : W3.ownsRow base 22 1 v' (L.length + 1) (vs ++ [x])) (hg : W2.grownBy W3 v.ownBlock) (hat : v'.ownBlock = v.ownBlock ∨ v'.ownBlock = some W2.heap.size) :
    GotI Av W3 base v' (L ++ [l]) := by
  have tr : ∀ {y : Value} {n : Nat} {xs : List Value}, SlA (fun i => Av i ∨ v.ownBlock = some i) W2 2 y n xs → SlA (fun i => Av i ∨ v'.ownBlock = some i) W3 2 y n xs := fun h => h.turn hg hat
  refine ⟨⟨vs ++ [x], by simp [hl], by rw [List.length_append]; exact hr, fun k hk => ?_⟩⟩
  rw [List.length_append, List.length_singleton] at hk
  by_cases h : k < L.length
  · rw [show (vs ++ [x]).getD k (.slice none 0 0) = vs.getD k (.slice none 0 0) by simp [List.getD, List.getElem?_append_left (show k < vs.length by omega)], show (L ++ [l]).getD k [] = L.getD k [] by simp [List.getD, List.getElem?_append_left h]]
    exact tr (hs k h)
  · obtain rfl : k = L.length := by omega
    rw [show (vs ++ [x]).getD L.length (.slice none 0 0) = x by rw [← hl]; simp [List.getD], show (L ++ [l]).getD L.length [] = l by simp [List.getD]]
    exact tr hx
theorem GotI.keep {Av : Nat → Prop} {w w' : World} {base b : Nat} {v : Value} {L : List (List It.Item)} (h : GotI Av w base v L) (hg : w.grownBy w' (some b)) (hb : Av b) (hlt : b < base) : GotI Av w' base v L := by
  obtain ⟨vs, h1, h2, h3⟩ := h.row
  refine ⟨⟨vs, h1, h2.kept hg ?_, fun k hk => (h3 k hk).grow hg (.inl hb)⟩⟩
  cases hv : v.ownBlock with
  | none => exact .inl rfl
  | some g => exact .inr (by have := (h2.lt g hv).1; simp; omega)
theorem GotI.later {Av : Nat → Prop} {w w' : World} {base : Nat} {v : Value} {L : List (List It.Item)} (h : GotI Av w base v L) (hb : Below w.heap.size w w') : GotI Av w' base v L := by
  obtain ⟨vs, h1, h2, h3⟩ := h.row
  exact ⟨⟨vs, h1, row_later h2 hb, fun k hk => (h3 k hk).later hb⟩⟩
theorem GotI.gota {Av : Nat → Prop} {w : World} {base : Nat} {v : Value} {L : List (List It.Item)} (h : GotI Av w base v L) (ha : ∀ i, base ≤ i → ¬ Av i) : GotA Av w v L := by
  obtain ⟨vs, h1, h2, h3⟩ := h.row
  exact ⟨vs, h1, SlA.of (Sl.of_own h2) (Nat.le_refl _) (fun i hi _ => ha i hi), fun k hk => (h3 k hk).more (fun i _ hx => .inl hx)⟩
theorem list_one {Av : Nat → Prop} {w : World} {vs : List Value} {L : List (List It.Item)} (hl : vs.length = L.length) (h : ∀ k, k < L.length → SlA Av w 2 (vs.getD k (.slice none 0 0)) (L.getD k []).length (itemCells (L.getD k []))) : ∀ y ∈ vs, y.oneCell' = true := by
  intro y hy
  obtain ⟨i, hi, rfl⟩ := List.getElem_of_mem hy
  obtain ⟨A, c, e, -⟩ := (h i (by omega)).form
  rw [List.getD, List.getElem?_eq_getElem hi] at e
  rw [show vs[i] = _ from e]
  rfl

set_option maxRecDepth 100000 in
set_option maxHeartbeats 8000000 in
theorem decode_calls (b : List UInt8) (v : Value) (w : World) (hI : BytesAt w 0 w.heap.size v b) (hbl : b.length ≤ 140737488351232) :
    Calls Tryz.prog 18 #[v] w fun e w' => RetD w' e (decS b) ∧ Below w.heap.size w w' := by
  have hmx : Tryz.prog.follows .mixedOrders = true := by kernel_rfl
  obtain ⟨i0, hi0, hz0⟩ := Option.map_eq_some_iff.1 list_info
  simp only [Prod.mk.injEq] at hz0
  obtain ⟨hz0, hz1, hz2⟩ := hz0
  obtain ⟨j0, hj0, hy0⟩ := Option.map_eq_some_iff.1 int_info
  simp only [Prod.mk.injEq] at hy0
  obtain ⟨hy0, hy1, hy2⟩ := hy0
  have HI0 := Lib.hid (And.intro hi0 (And.intro hz0 (And.intro hz1 hz2)))
  have HJ0 := Lib.hid (And.intro hj0 (And.intro hy0 (And.intro hy1 hy2)))
  have hB := (Below.refl w.heap.size w).alloc (Nat.le_refl _) (.cells #[.int .i64 0, .int .i64 0, .int .i64 0, .slice none 0 0, .bool false, .int .i64 0, .int .i64 0, .slice none 0 0, .slice none 0 0, .bool false] 26)
  have oR := Ob.new w 26 #[.int .i64 0, .int .i64 0, .int .i64 0, .slice none 0 0, .bool false, .int .i64 0, .int .i64 0, .slice none 0 0, .slice none 0 0, .bool false]
  have hz : (w.alloc (.cells #[.int .i64 0, .int .i64 0, .int .i64 0, .slice none 0 0, .bool false, .int .i64 0, .int .i64 0, .slice none 0 0, .slice none 0 0, .bool false] 26)).heap.size = w.heap.size + 1 := World.size_alloc _ _
  have hI0 := Sl.mono hI hB hB.size
  obtain ⟨A, c, rfl, -⟩ := hI.form
  clear hI hi0 hz0 hz1 hz2 hj0 hy0 hy1 hy2
  go_enter Tryz.func18, Tryz.ntmps18
  go_upto_region 1 with (fail)
  generalize w.alloc (.cells #[.int .i64 0, .int .i64 0, .int .i64 0, .slice none 0 0, .bool false, .int .i64 0, .int .i64 0, .slice none 0 0, .slice none 0 0, .bool false] 26) = W0 at *
  have cT := Lib.hid (take_calls b _ W0 hI0 hbl)
  clear hI0
  go_wp2_with fail
  refine cT.out.mono ?_
  rintro e W1 ⟨⟨bt, rfl, hbt1, hbt2, hT⟩, hb1⟩
  have oR := oR.same hb1
  have hB := hB.trans (hb1.mono hB.size)
  have hsz1 := hB.size
  clear cT hb1
  have cX := tnum_calls 1 1099511627776 bt bt (some b) W1 hT
  rw [show tNum 1 1099511627776 (some b) = dO b from rfl] at cX
  have cX := Lib.hid cX
  go_wp2_with fail
  refine cX.out.mono ?_
  rintro e W2 ⟨rfl, hT, hg, -⟩
  have oR := oR.kept hg (fun e => by have e2 : w.heap.size = bt := Option.some.inj e; omega)
  have hB := hB.grown hg (by omega) (fun g e => by have e2 : bt = g := Option.some.inj e; omega)
  have hbt2 := Nat.lt_of_lt_of_le hbt2 hg.size
  have hsz1 := Nat.le_trans hsz1 hg.size
  clear cX hg
  have cX := tnum_calls 0 7 bt bt (dO b).2 W2 hT
  rw [show tNum 0 7 (dO b).2 = dF b from rfl] at cX
  have cX := Lib.hid cX
  go_wp2_with fail
  refine cX.out.mono ?_
  rintro e W3 ⟨rfl, hT, hg, -⟩
  have oR := oR.kept hg (fun e => by have e2 : w.heap.size = bt := Option.some.inj e; omega)
  have hB := hB.grown hg (by omega) (fun g e => by have e2 : bt = g := Option.some.inj e; omega)
  have hbt2 := Nat.lt_of_lt_of_le hbt2 hg.size
  have hsz1 := Nat.le_trans hsz1 hg.size
  clear cX hg
  have cX := tnum_calls 1 8 bt bt (dF b).2 W3 hT
  rw [show tNum 1 8 (dF b).2 = dR b from rfl] at cX
  have cX := Lib.hid cX
  go_wp2_with fail
  refine cX.out.mono ?_
  rintro e W4 ⟨rfl, hT, hg, -⟩
  have oR := oR.kept hg (fun e => by have e2 : w.heap.size = bt := Option.some.inj e; omega)
  have hB := hB.grown hg (by omega) (fun g e => by have e2 : bt = g := Option.some.inj e; omega)
  have hbt2 := Nat.lt_of_lt_of_le hbt2 hg.size
  have hsz1 := Nat.le_trans hsz1 hg.size
  clear cX hg
  have hal := (Below.refl W4.heap.size W4).alloc (Nat.le_refl _) (.cells #[.int .i64 (dO b).1, .int .i64 (dF b).1, .int .i64 (dR b).1, .slice none 0 0, .bool false, .int .i64 0, .int .i64 0, .slice none 0 0, .slice none 0 0, .bool false] 26)
  have oS := Ob.new W4 26 #[.int .i64 (dO b).1, .int .i64 (dF b).1, .int .i64 (dR b).1, .slice none 0 0, .bool false, .int .i64 0, .int .i64 0, .slice none 0 0, .slice none 0 0, .bool false]
  have oR := oR.same hal
  have hT := hT.same hal
  have hB := hB.trans (hal.mono (by omega))
  have hsz : W4.heap.size < (W4.alloc (.cells #[.int .i64 (dO b).1, .int .i64 (dF b).1, .int .i64 (dR b).1, .slice none 0 0, .bool false, .int .i64 0, .int .i64 0, .slice none 0 0, .slice none 0 0, .bool false] 26)).heap.size := by rw [World.size_alloc]; exact Nat.lt_succ_self _
  clear hal
  go_upto_region 3 with (fail)
  generalize W4.alloc (.cells #[.int .i64 (dO b).1, .int .i64 (dF b).1, .int .i64 (dR b).1, .slice none 0 0, .bool false, .int .i64 0, .int .i64 0, .slice none 0 0, .slice none 0 0, .bool false] 26) = U at *
  have cX := Lib.hid ((show Calls _ _ _ U (fun e w' => (∃ v, e = .returned v ∧ w'.ownsRow U.heap.size 50 2 v (dW b).1.length (itemCells (dW b).1)) ∧ Tk 122 w' bt bt (dW b).2 ∧ U.grownBy w' (some bt)) from itake_calls bt bt (dR b).2 U hT))
  go_wp2_with fail
  refine cX.out.mono ?_
  rintro e W ⟨⟨vw, rfl, hvw⟩, hT, hg⟩
  have oR := oR.kept hg (fun e => by have e2 : w.heap.size = bt := Option.some.inj e; omega)
  have oS := oS.kept hg (fun e => by have e2 : W4.heap.size = bt := Option.some.inj e; omega)
  have hB := hB.grown hg (by omega) (fun g e => by have e2 : bt = g := Option.some.inj e; omega)
  have hsz := Nat.le_trans hsz hg.size
  clear cX
  have hW := SlA.of (Av := (fun i => (fun i => i = w.heap.size ∨ i = bt ∨ i = W4.heap.size) i ∨ (.slice none 0 0 : Value).ownBlock = some i)) (ItemsAt.of_own hvw) (Nat.le_refl _) (fun i ha _ hx => by rcases hx with (hx | hx | hx) | hx <;> first | omega | cases hx)
  obtain ⟨Aw, cw, rfl, -⟩ := (ItemsAt.of_own hvw).form
  clear hvw hg
  have g : W.cell? ⟨W4.heap.size, 3, none⟩ = some _ := oS.cell rfl
  have f := oS.frozen 3
  have hgs := grownBy_set W W4.heap.size 3 (.slice Aw (dW b).1.length cw)
  have oS : Ob (W.setCell ⟨W4.heap.size, 3, none⟩ (.slice Aw (dW b).1.length cw)) W4.heap.size 26 #[.int .i64 (dO b).1, .int .i64 (dF b).1, .int .i64 (dR b).1, .slice Aw (dW b).1.length cw, .bool false, .int .i64 0, .int .i64 0, .slice none 0 0, .slice none 0 0, .bool false] := oS.set 3 (.slice Aw (dW b).1.length cw)
  have oR := oR.other (show w.heap.size ≠ W4.heap.size by omega) 3 (.slice Aw (dW b).1.length cw)
  have hT := hT.kept hgs (fun e => by have e2 : bt = W4.heap.size := Option.some.inj e; omega) (fun g e => by have e2 : W4.heap.size = g := Option.some.inj e; omega)
  have hB := hB.trans ((below_set W W4.heap.size 3 (.slice Aw (dW b).1.length cw)).mono (show w.heap.size ≤ W4.heap.size by omega))
  have hsz : W4.heap.size < (W.setCell ⟨W4.heap.size, 3, none⟩ (.slice Aw (dW b).1.length cw)).heap.size := by rw [set_size]; exact hsz
  have hW := hW.grow hgs (.inl (.inr (.inr rfl)))
  go_upto_region 4 with (fail)
  clear g f
  generalize W.setCell ⟨W4.heap.size, 3, none⟩ (.slice Aw (dW b).1.length cw) = U at *
  clear hgs
  have cX := Lib.hid ((show Calls _ _ _ U (fun e w' => e = .returned (.bool (dA b).1) ∧ Tk 122 w' bt bt (dA b).2 ∧ U.grownBy w' (some bt)) from tflag_calls bt bt (dW b).2 U hT))
  go_wp2_with fail
  refine cX.out.mono ?_
  rintro e W ⟨rfl, hT, hg⟩
  have oR := oR.kept hg (fun e => by have e2 : w.heap.size = bt := Option.some.inj e; omega)
  have oS := oS.kept hg (fun e => by have e2 : W4.heap.size = bt := Option.some.inj e; omega)
  have hB := hB.grown hg (by omega) (fun g e => by have e2 : bt = g := Option.some.inj e; omega)
  have hsz := Nat.le_trans hsz hg.size
  clear cX
  have hW := hW.grow hg (.inl (.inr (.inl rfl)))
  clear hg
  have g : W.cell? ⟨W4.heap.size, 4, none⟩ = some _ := oS.cell rfl
  have f := oS.frozen 4
  have hgs := grownBy_set W W4.heap.size 4 (.bool (dA b).1)
  have oS : Ob (W.setCell ⟨W4.heap.size, 4, none⟩ (.bool (dA b).1)) W4.heap.size 26 #[.int .i64 (dO b).1, .int .i64 (dF b).1, .int .i64 (dR b).1, .slice Aw (dW b).1.length cw, .bool (dA b).1, .int .i64 0, .int .i64 0, .slice none 0 0, .slice none 0 0, .bool false] := oS.set 4 (.bool (dA b).1)
  have oR := oR.other (show w.heap.size ≠ W4.heap.size by omega) 4 (.bool (dA b).1)
  have hT := hT.kept hgs (fun e => by have e2 : bt = W4.heap.size := Option.some.inj e; omega) (fun g e => by have e2 : W4.heap.size = g := Option.some.inj e; omega)
  have hB := hB.trans ((below_set W W4.heap.size 4 (.bool (dA b).1)).mono (show w.heap.size ≤ W4.heap.size by omega))
  have hsz : W4.heap.size < (W.setCell ⟨W4.heap.size, 4, none⟩ (.bool (dA b).1)).heap.size := by rw [set_size]; exact hsz
  have hW := hW.grow hgs (.inl (.inr (.inr rfl)))
  go_upto_region 5 with (fail)
  clear g f
  generalize W.setCell ⟨W4.heap.size, 4, none⟩ (.bool (dA b).1) = U at *
  clear hgs
  have cX := Lib.hid ((show Calls _ _ _ U (fun e w' => e = .returned (.int .i64 (dS b).1) ∧ Tk 122 w' bt bt (dS b).2 ∧ U.grownBy w' (some bt) ∧ _) from tnum_calls 1 10 bt bt (dA b).2 U hT))
  go_wp2_with fail
  refine cX.out.mono ?_
  rintro e W ⟨rfl, hT, hg, -⟩
  have oR := oR.kept hg (fun e => by have e2 : w.heap.size = bt := Option.some.inj e; omega)
  have oS := oS.kept hg (fun e => by have e2 : W4.heap.size = bt := Option.some.inj e; omega)
  have hB := hB.grown hg (by omega) (fun g e => by have e2 : bt = g := Option.some.inj e; omega)
  have hsz := Nat.le_trans hsz hg.size
  clear cX
  have hW := hW.grow hg (.inl (.inr (.inl rfl)))
  clear hg
  have g : W.cell? ⟨W4.heap.size, 5, none⟩ = some _ := oS.cell rfl
  have f := oS.frozen 5
  have hgs := grownBy_set W W4.heap.size 5 (.int .i64 (dS b).1)
  have oS : Ob (W.setCell ⟨W4.heap.size, 5, none⟩ (.int .i64 (dS b).1)) W4.heap.size 26 #[.int .i64 (dO b).1, .int .i64 (dF b).1, .int .i64 (dR b).1, .slice Aw (dW b).1.length cw, .bool (dA b).1, .int .i64 (dS b).1, .int .i64 0, .slice none 0 0, .slice none 0 0, .bool false] := oS.set 5 (.int .i64 (dS b).1)
  have oR := oR.other (show w.heap.size ≠ W4.heap.size by omega) 5 (.int .i64 (dS b).1)
  have hT := hT.kept hgs (fun e => by have e2 : bt = W4.heap.size := Option.some.inj e; omega) (fun g e => by have e2 : W4.heap.size = g := Option.some.inj e; omega)
  have hB := hB.trans ((below_set W W4.heap.size 5 (.int .i64 (dS b).1)).mono (show w.heap.size ≤ W4.heap.size by omega))
  have hsz : W4.heap.size < (W.setCell ⟨W4.heap.size, 5, none⟩ (.int .i64 (dS b).1)).heap.size := by rw [set_size]; exact hsz
  have hW := hW.grow hgs (.inl (.inr (.inr rfl)))
  go_upto_region 6 with (fail)
  clear g f
  generalize W.setCell ⟨W4.heap.size, 5, none⟩ (.int .i64 (dS b).1) = U at *
  clear hgs
  have cX := Lib.hid ((show Calls _ _ _ U (fun e w' => e = .returned (.int .i64 (dK b).1) ∧ Tk 122 w' bt bt (dK b).2 ∧ U.grownBy w' (some bt) ∧ _) from tnum_calls 1 8 bt bt (dS b).2 U hT))
  go_wp2_with fail
  refine cX.out.mono ?_
  rintro e W ⟨rfl, hT, hg, -⟩
  have oR := oR.kept hg (fun e => by have e2 : w.heap.size = bt := Option.some.inj e; omega)
  have oS := oS.kept hg (fun e => by have e2 : W4.heap.size = bt := Option.some.inj e; omega)
  have hB := hB.grown hg (by omega) (fun g e => by have e2 : bt = g := Option.some.inj e; omega)
  have hsz := Nat.le_trans hsz hg.size
  clear cX
  have hW := hW.grow hg (.inl (.inr (.inl rfl)))
  clear hg
  have g : W.cell? ⟨W4.heap.size, 6, none⟩ = some _ := oS.cell rfl
  have f := oS.frozen 6
  have hgs := grownBy_set W W4.heap.size 6 (.int .i64 (dK b).1)
  have oS : Ob (W.setCell ⟨W4.heap.size, 6, none⟩ (.int .i64 (dK b).1)) W4.heap.size 26 #[.int .i64 (dO b).1, .int .i64 (dF b).1, .int .i64 (dR b).1, .slice Aw (dW b).1.length cw, .bool (dA b).1, .int .i64 (dS b).1, .int .i64 (dK b).1, .slice none 0 0, .slice none 0 0, .bool false] := oS.set 6 (.int .i64 (dK b).1)
  have oR := oR.other (show w.heap.size ≠ W4.heap.size by omega) 6 (.int .i64 (dK b).1)
  have hT := hT.kept hgs (fun e => by have e2 : bt = W4.heap.size := Option.some.inj e; omega) (fun g e => by have e2 : W4.heap.size = g := Option.some.inj e; omega)
  have hB := hB.trans ((below_set W W4.heap.size 6 (.int .i64 (dK b).1)).mono (show w.heap.size ≤ W4.heap.size by omega))
  have hsz : W4.heap.size < (W.setCell ⟨W4.heap.size, 6, none⟩ (.int .i64 (dK b).1)).heap.size := by rw [set_size]; exact hsz
  have hW := hW.grow hgs (.inl (.inr (.inr rfl)))
  go_upto_region 7 with (fail)
  clear g f
  generalize W.setCell ⟨W4.heap.size, 6, none⟩ (.int .i64 (dK b).1) = U at *
  clear hgs
  obtain ⟨hr0, hr1⟩ := tNum_le (st := (dF b).2) (show (0 : Int) ≤ 1 by omega) (show (0 : Int) ≤ 8 by omega)
  rw [show tNum 1 8 (dF b).2 = dR b from rfl] at hr0 hr1
  have g2 : U.cell? ⟨W4.heap.size, 2, none⟩ = some (.int .i64 (dR b).1) := oS.cell rfl
  go_wp2_with fail
  clear g2
  go_loopw [29] (fun i wr => ∃ (k : Nat) (vg : Value), (k : Int) ≤ (dR b).1 ∧ i = .int .i64 k ∧ Tk 122 wr bt bt (gIt ([], (dK b).2) k).2 ∧ Ob wr W4.heap.size 26 #[.int .i64 (dO b).1, .int .i64 (dF b).1, .int .i64 (dR b).1, .slice Aw (dW b).1.length cw, .bool (dA b).1, .int .i64 (dS b).1, .int .i64 (dK b).1, vg, .slice none 0 0, .bool false] ∧ Ob wr w.heap.size 26 #[.int .i64 0, .int .i64 0, .int .i64 0, .slice none 0 0, .bool false, .int .i64 0, .int .i64 0, .slice none 0 0, .slice none 0 0, .bool false] ∧ GotI (fun i => i = w.heap.size ∨ i = bt ∨ i = W4.heap.size) wr (W4.heap.size + 1) vg (gIt ([], (dK b).2) k).1 ∧ SlA (fun i => (fun i => i = w.heap.size ∨ i = bt ∨ i = W4.heap.size) i ∨ (vg : Value).ownBlock = some i) wr 2 (.slice Aw (dW b).1.length cw) (dW b).1.length (itemCells (dW b).1) ∧ Below w.heap.size w wr ∧ W4.heap.size < wr.heap.size) (fun i _ => (dR b).1.toNat - (intOf i).toNat)
  case atStart => exact ⟨0, .slice none 0 0, by omega, rfl, hT, oS, oR, GotI.nil _ _ _, hW, hB, hsz⟩
  case round =>
    clear hT oS oR hW hB hsz
    obtain ⟨k, vg, hk, rfl, hT, oS, oR, hG, hW, hB, hsz⟩ := hrel
    rcases Int.lt_or_le (k : Int) (dR b).1 with hlt | hge
    · have hd : decide ((k : Int) < (dR b).1) = true := by simp; omega
      have HE := Lib.hid (show gIt ([], (dK b).2) (k + 1) = ((gIt ([], (dK b).2) k).1 ++ [(readI (gIt ([], (dK b).2) k).2).1], (readI (gIt ([], (dK b).2) k).2).2) from rfl)
      have hln := show (gIt ([], (dK b).2) k).1.length = k from (gIt_len ([], (dK b).2) k).trans (Nat.zero_add k)
      generalize gIt ([], (dK b).2) k = R at *
      have hkk : k < 8 := by omega
      have HLN := Lib.hid hln
      have hRl : R.1.length < 8 := by omega
      have hd0 := (Below.refl wr.heap.size wr).drew
      have oS := oS.same hd0
      have oR := oR.same hd0
      have hT := hT.same hd0
      have hB := hB.drew
      have hW := hW.later hd0
      have hG := hG.later hd0
      have hsz : W4.heap.size < wr.drew.heap.size := hsz
      go_upto_region 9 with (fail)
      clear hd0 hln
      refine Pt.regionT (.look 0 (.look 1 (.look 2 (.look 6 (.make 3 (.make 4 (.make 5 (.make 7 .nil)))))))) (fun V => Ob V W4.heap.size 26 #[.int .i64 (dO b).1, .int .i64 (dF b).1, .int .i64 (dR b).1, .slice Aw (dW b).1.length cw, .bool (dA b).1, .int .i64 (dS b).1, .int .i64 (dK b).1, vg, .slice none 0 0, .bool false]) hmx (by kernel_rfl) (by kernel_rfl) (by kernel_rfl) oS rfl ?_
      simp only [Pt.named, List.getElem?_toArray, List.getElem?_cons_succ, List.getElem?_cons_zero, Option.map_some]
      iterate 4 (
        apply Pt.WalkT.on (by rfl)
        · intro V hV
          obtain ⟨-, -, -, -, -, -, -, q7, -, -⟩ := ob_ten hV
          go_wp2_with fail
          refine ⟨rfl, ?_, rfl⟩
          try simp only [Act.put, List.setIfInBounds_toArray, List.set_cons_succ, List.set_cons_zero]
          rfl
        simp only [Act.put, List.setIfInBounds_toArray, List.set_cons_succ, List.set_cons_zero])
      generalize wr.drew = W0 at *
      have cX := Lib.hid (itake_calls bt bt R.2 W0 hT)
      refine Pt.WalkT.make (by rfl) ?_
      intro W hWJ
      cases hWJ.symm
      go_wp2_with (go_at_call 54; refine cX.out.mono ?_; rintro e W1 ⟨⟨vx, rfl, hvx⟩, hT1, hg1⟩)
      have hX := SlA.of (Av := (fun i => (fun i => i = w.heap.size ∨ i = bt ∨ i = W4.heap.size) i ∨ (vg : Value).ownBlock = some i)) (ItemsAt.of_own hvx) (Nat.le_refl _) (fun i ha _ hx => by
        have := hB.size
        obtain ⟨vs, hvl, hown, hsl⟩ := hG.row
        rcases hx with (hx | hx | hx) | hx
        · omega
        · omega
        · omega
        · have := (hown.lt i hx).2; omega)
      obtain ⟨Ax, cx, rfl, -⟩ := (ItemsAt.of_own hvx).form
      have oS1 := oS.kept hg1 (fun e => by have e2 : W4.heap.size = bt := Option.some.inj e; omega)
      have oR1 := oR.kept hg1 (fun e => by have e2 : w.heap.size = bt := Option.some.inj e; omega)
      have hB1 := hB.grown hg1 (by omega) (fun g e => by have e2 : bt = g := Option.some.inj e; omega)
      have hW1 := hW.grow hg1 (.inl (.inr (.inl rfl)))
      have hG1 := hG.keep hg1 (.inr (.inl rfl)) (by omega)
      have hsz1 := Nat.lt_of_lt_of_le hsz hg1.size
      clear hvx hg1 cX hT oS oR hB hW hG
      refine ⟨rfl, .slice Ax (readI R.2).1.length cx, _, (fun V => V = W1), ?_, rfl, (fun V h => by rw [h]; exact oS1), (.inr (fun _ h => h)), ?_⟩
      · simp only [Act.put, List.setIfInBounds_toArray, List.set_cons_succ, List.set_cons_zero]
      simp only [Act.put, List.setIfInBounds_toArray, List.set_cons_succ, List.set_cons_zero]
      refine Pt.WalkT.make (by rfl) ?_
      intro W hWJ
      cases hWJ.symm
      have hal := (Below.refl W1.heap.size W1).alloc (Nat.le_refl _) (.cells #[.slice Ax (readI R.2).1.length cx] 22)
      have hl : Sl (W1.alloc (.cells #[.slice Ax (readI R.2).1.length cx] 22)) W1.heap.size (W1.heap.size + 1) 1 (.slice (some ⟨W1.heap.size, 0, none⟩) 1 1) 1 [.slice Ax (readI R.2).1.length cx] := Sl.new W1 #[.slice Ax (readI R.2).1.length cx] 22 (n := 1) rfl (by unfold maxLen; omega)
      have oS2 := oS1.same hal
      have oR2 := oR1.same hal
      have hT2 := hT1.same hal
      have hB2 := hB1.trans (hal.mono (by have := hB1.size; omega))
      have hW2 := hW1.later hal
      have hG2 := hG1.later hal
      have hX2 := hX.later hal
      have hsz2 := Nat.lt_of_lt_of_le hsz1 hal.size
      go_wp2_with fail
      refine ⟨rfl, .slice (some ⟨W1.heap.size, 0, none⟩) 1 1, _, (fun V => V = W1.alloc (.cells #[.slice Ax (readI R.2).1.length cx] 22)), ?_, rfl, (fun V h => by rw [h]; exact oS2), (.inr (fun _ h => h)), ?_⟩
      · simp only [Act.put, List.setIfInBounds_toArray, List.set_cons_succ, List.set_cons_zero]
      simp only [Act.put, List.setIfInBounds_toArray, List.set_cons_succ, List.set_cons_zero]
      generalize W1.alloc (.cells #[.slice Ax (readI R.2).1.length cx] 22) = W2 at *
      clear oS1 oR1 hT1 hB1 hW1 hG1 hX hal
      refine Pt.WalkT.make (by rfl) ?_
      intro W hWJ
      cases hWJ.symm
      obtain ⟨hi0, hz0, hz1, hz2⟩ := HI0.out
      obtain ⟨vs, hvl, hown, hsl⟩ := hG2.row
      refine wpList_append_sl _ rfl (.tmp 32) (.tmp 35) _ rfl (W4.heap.size + 1) 22 i0 _ 1 24 Tryz.underlying23 hi0 hz0 hz1 hz2 rfl (by omega) vg R.1.length vs rfl hown W1.heap.size (W1.heap.size + 1) _ 1 [.slice Ax (readI R.2).1.length cx] rfl hl (by intro y hy; rw [List.mem_singleton.1 hy]; rfl) (by unfold maxLen; omega) (by omega) hsz2 ?_
      clear hi0 hz0 hz1 hz2
      intro v3 w3 hv3 hg3 hat3
      have hgo : ∀ i, (i = w.heap.size ∨ i = bt ∨ i = W4.heap.size) → vg.ownBlock ≠ some i := fun i hi e => by
        have h1 := (hown.lt i e).1
        have h2 := hB2.size
        rcases hi with hi | hi | hi <;> omega
      have oS3 := oS2.kept hg3 (fun e => hgo W4.heap.size (.inr (.inr rfl)) e.symm)
      have oR3 := oR2.kept hg3 (fun e => hgo w.heap.size (.inl rfl) e.symm)
      have hT3 := hT2.kept hg3 (fun e => hgo bt (.inr (.inl rfl)) e.symm) (fun g e => by have := (hown.lt g e).1; omega)
      have hB3 := hB2.grown hg3 hB2.size (fun g e => by have := (hown.lt g e).1; omega)
      have hW3 := hW2.turn hg3 hat3
      have hG3 := GotI.snoc hvl hsl hX2 hv3 hg3 hat3
      have hsz3 := Nat.lt_of_lt_of_le hsz2 hg3.size
      obtain ⟨A5, c5, rfl, -⟩ := (Sl.of_own hv3).at_
      clear hv3 hg3 hat3 hown hsl hvl hX2 oS2 oR2 hT2 hB2 hW2 hG2 hl
      refine ⟨rfl, .slice A5 (R.1.length + 1) c5, _, (fun V => V = w3), rfl, rfl, (fun V h => by rw [h]; exact oS3), (.inr (fun _ h => h)), ?_⟩
      simp only [Act.put, List.setIfInBounds_toArray, List.set_cons_succ, List.set_cons_zero]
      refine Pt.WalkT.make (by rfl) ?_
      intro W hWJ
      cases hWJ.symm
      have g : w3.cell? ⟨W4.heap.size, 7, none⟩ = some vg := oS3.cell rfl
      have f := oS3.frozen 7
      have hgs := grownBy_set w3 W4.heap.size 7 (.slice A5 (R.1.length + 1) c5)
      have oS4 : Ob (w3.setCell ⟨W4.heap.size, 7, none⟩ (.slice A5 (R.1.length + 1) c5)) W4.heap.size 26 #[.int .i64 (dO b).1, .int .i64 (dF b).1, .int .i64 (dR b).1, .slice Aw (dW b).1.length cw, .bool (dA b).1, .int .i64 (dS b).1, .int .i64 (dK b).1, .slice A5 (R.1.length + 1) c5, .slice none 0 0, .bool false] := oS3.set 7 (.slice A5 (R.1.length + 1) c5)
      have oR4 := oR3.other (show w.heap.size ≠ W4.heap.size by omega) 7 (.slice A5 (R.1.length + 1) c5)
      have hT4 := hT3.kept hgs (fun e => by have e2 : bt = W4.heap.size := Option.some.inj e; omega) (fun g e => by have e2 : W4.heap.size = g := Option.some.inj e; omega)
      have hB4 := hB3.trans ((below_set w3 W4.heap.size 7 (.slice A5 (R.1.length + 1) c5)).mono (show w.heap.size ≤ W4.heap.size by omega))
      have hsz4 : W4.heap.size < (w3.setCell ⟨W4.heap.size, 7, none⟩ (.slice A5 (R.1.length + 1) c5)).heap.size := by rw [set_size]; exact hsz3
      have hG4 := hG3.keep hgs (.inr (.inr rfl)) (Nat.lt_succ_self _)
      have hW4 := hW3.grow hgs (.inl (.inr (.inr rfl)))
      go_wp2_with fail
      clear g f oS3 oR3 hT3 hB3 hsz3 hG3 hW3 hgs
      refine ⟨rfl, undef, (fun _ => True), (fun V => V = w3.setCell ⟨W4.heap.size, 7, none⟩ (.slice A5 (R.1.length + 1) c5)), rfl, rfl, (fun _ _ => trivial), (.inl (by kernel_rfl)), Pt.WalkT.nil ?_⟩
      intro V hV
      cases hV.symm
      simp only [Act.put]
      generalize w3.setCell ⟨W4.heap.size, 7, none⟩ (.slice A5 (R.1.length + 1) c5) = W5 at *
      go_wp2
      go_roundw
      case rel =>
        refine ⟨k + 1, .slice A5 (R.1.length + 1) c5, by omega, by go_num, ?_, oS4, oR4, ?_, hW4, hB4, hsz4⟩
        · rw [HE.out]; exact hT4
        · rw [HE.out]; exact hG4
      case measure => simp [intOf]; omega
    · have hkn : (dR b).1.toNat = k := by omega
      have HDG := Lib.hid (show gIt ([], (dK b).2) k = dG b by rw [← hkn]; rfl)
      rw [HDG.out] at hT hG
      have hd : decide ((k : Int) < (dR b).1) = false := by simp; omega
      go_upto_region 11 with (fail)
      clear hd hkn hk hge
      have cX := tnum_calls 0 8 bt bt (dG b).2 wr hT
      rw [show tNum 0 8 (dG b).2 = dN b from rfl] at cX
      have cX := Lib.hid cX
      obtain ⟨hn0, hn1⟩ := tNum_le (st := (dG b).2) (show (0 : Int) ≤ 0 by omega) (show (0 : Int) ≤ 8 by omega)
      rw [show tNum 0 8 (dG b).2 = dN b from rfl] at hn0 hn1
      go_wp2_with fail
      refine cX.out.mono ?_
      rintro e V ⟨rfl, hT, hg, -⟩
      have oR := oR.kept hg (fun e => by have e2 : w.heap.size = bt := Option.some.inj e; omega)
      have oS := oS.kept hg (fun e => by have e2 : W4.heap.size = bt := Option.some.inj e; omega)
      have hB := hB.grown hg (by omega) (fun g e => by have e2 : bt = g := Option.some.inj e; omega)
      have hsz := Nat.le_trans hsz hg.size
      have hW := hW.grow hg (.inl (.inr (.inl rfl)))
      have hG := hG.keep hg (.inr (.inl rfl)) (by omega)
      clear cX hg
      go_wp2_with fail
      go_loopw [41] (fun i wr => ∃ (k : Nat) (vp : Value), (k : Int) ≤ (dN b).1 ∧ i = .int .i64 k ∧ Tk 122 wr bt bt (pIt ([], (dN b).2) k).2 ∧ Ob wr W4.heap.size 26 #[.int .i64 (dO b).1, .int .i64 (dF b).1, .int .i64 (dR b).1, .slice Aw (dW b).1.length cw, .bool (dA b).1, .int .i64 (dS b).1, .int .i64 (dK b).1, vg, vp, .bool false] ∧ Ob wr w.heap.size 26 #[.int .i64 0, .int .i64 0, .int .i64 0, .slice none 0 0, .bool false, .int .i64 0, .int .i64 0, .slice none 0 0, .slice none 0 0, .bool false] ∧ wr.ownsRow V.heap.size 3 1 vp k (ints (pIt ([], (dN b).2) k).1) ∧ Kept (fun i => i < V.heap.size ∧ ¬ (fun i => i = w.heap.size ∨ i = bt ∨ i = W4.heap.size) i) V wr ∧ Below w.heap.size w wr) (fun i _ => (dN b).1.toNat - (intOf i).toNat)
      case atStart => exact ⟨0, .slice none 0 0, by omega, rfl, hT, oS, oR, World.ownsRow_nil _ _ _ _, Kept.refl _ _, hB⟩
      case round =>
        clear hT oS oR hB
        obtain ⟨k, vp, hk, rfl, hT, oS, oR, hown, hK, hB⟩ := hrel
        rcases Int.lt_or_le (k : Int) (dN b).1 with hlt | hge
        · have hd : decide ((k : Int) < (dN b).1) = true := by simp; omega
          have HE := Lib.hid (show pIt ([], (dN b).2) (k + 1) = ((pIt ([], (dN b).2) k).1 ++ [(tNum 0 7 (pIt ([], (dN b).2) k).2).1], (tNum 0 7 (pIt ([], (dN b).2) k).2).2) from rfl)
          generalize pIt ([], (dN b).2) k = R at *
          have hkk : k < 8 := by omega
          have hd0 := (Below.refl wr.heap.size wr).drew
          have oS := oS.same hd0
          have oR := oR.same hd0
          have hT := hT.same hd0
          have hB := hB.drew
          have hown := row_later hown hd0
          have hszr := Nat.lt_of_lt_of_le hsz hK.size
          have hK : Kept (fun i => i < V.heap.size ∧ ¬ (fun i => i = w.heap.size ∨ i = bt ∨ i = W4.heap.size) i) V wr.drew := hK.trans (Kept.of_below hd0 fun i hi => Nat.lt_of_lt_of_le hi.1 hK.size)
          have hszr : W4.heap.size < wr.drew.heap.size := hszr
          go_upto_region 13 with (fail)
          clear hd0
          refine Pt.regionT (.look 0 (.look 1 (.look 2 (.look 6 (.make 3 (.make 4 (.make 5 (.make 7 .nil)))))))) (fun V => Ob V W4.heap.size 26 #[.int .i64 (dO b).1, .int .i64 (dF b).1, .int .i64 (dR b).1, .slice Aw (dW b).1.length cw, .bool (dA b).1, .int .i64 (dS b).1, .int .i64 (dK b).1, vg, vp, .bool false]) hmx (by kernel_rfl) (by kernel_rfl) (by kernel_rfl) oS rfl ?_
          simp only [Pt.named, List.getElem?_toArray, List.getElem?_cons_succ, List.getElem?_cons_zero, Option.map_some]
          iterate 4 (
            apply Pt.WalkT.on (by rfl)
            · intro V hV
              obtain ⟨-, -, -, -, -, -, -, -, q8, -⟩ := ob_ten hV
              go_wp2_with fail
              refine ⟨rfl, ?_, rfl⟩
              try simp only [Act.put, List.setIfInBounds_toArray, List.set_cons_succ, List.set_cons_zero]
              rfl
            simp only [Act.put, List.setIfInBounds_toArray, List.set_cons_succ, List.set_cons_zero])
          generalize wr.drew = W0 at *
          have cX := Lib.hid (tnum_calls 0 7 bt bt R.2 W0 hT)
          refine Pt.WalkT.make (by rfl) ?_
          intro W hWJ
          cases hWJ.symm
          go_wp2_with (go_at_call 53; refine cX.out.mono ?_; rintro e W1 ⟨rfl, hT1, hg1, -⟩)
          have oS1 := oS.kept hg1 (fun e => by have e2 : W4.heap.size = bt := Option.some.inj e; omega)
          have oR1 := oR.kept hg1 (fun e => by have e2 : w.heap.size = bt := Option.some.inj e; omega)
          have hB1 := hB.grown hg1 (by omega) (fun g e => by have e2 : bt = g := Option.some.inj e; omega)
          have hK1 := hK.trans (Kept.of_grown hg1 fun i hi => ⟨Nat.lt_of_lt_of_le hi.1 hK.size, fun e => hi.2 (by cases e; exact .inr (.inl rfl))⟩)
          have hown1 := ownsRow_far hown hg1 (by omega)
          have hsz1 := Nat.lt_of_lt_of_le hszr hg1.size
          clear hg1 cX hT oS oR hB hown hK hszr
          refine ⟨rfl, .int .i64 (tNum 0 7 R.2).1, _, (fun V => V = W1), ?_, rfl, (fun V h => by rw [h]; exact oS1), (.inr (fun _ h => h)), ?_⟩
          · simp only [Act.put, List.setIfInBounds_toArray, List.set_cons_succ, List.set_cons_zero]
          simp only [Act.put, List.setIfInBounds_toArray, List.set_cons_succ, List.set_cons_zero]
          refine Pt.WalkT.make (by rfl) ?_
          intro W hWJ
          cases hWJ.symm
          have hal := (Below.refl W1.heap.size W1).alloc (Nat.le_refl _) (.cells #[.int .i64 (tNum 0 7 R.2).1] 3)
          have hl : Sl (W1.alloc (.cells #[.int .i64 (tNum 0 7 R.2).1] 3)) W1.heap.size (W1.heap.size + 1) 1 (.slice (some ⟨W1.heap.size, 0, none⟩) 1 1) 1 [.int .i64 (tNum 0 7 R.2).1] := Sl.new W1 #[.int .i64 (tNum 0 7 R.2).1] 3 (n := 1) rfl (by unfold maxLen; omega)
          have oS2 := oS1.same hal
          have oR2 := oR1.same hal
          have hT2 := hT1.same hal
          have hB2 := hB1.trans (hal.mono (by have := hB1.size; omega))
          have hown2 := row_later hown1 hal
          have hK2 := hK1.trans (Kept.of_below hal fun i hi => Nat.lt_of_lt_of_le hi.1 hK1.size)
          have hsz2 := Nat.lt_of_lt_of_le hsz1 hal.size
          go_wp2_with fail
          refine ⟨rfl, .slice (some ⟨W1.heap.size, 0, none⟩) 1 1, _, (fun V => V = W1.alloc (.cells #[.int .i64 (tNum 0 7 R.2).1] 3)), ?_, rfl, (fun V h => by rw [h]; exact oS2), (.inr (fun _ h => h)), ?_⟩
          · simp only [Act.put, List.setIfInBounds_toArray, List.set_cons_succ, List.set_cons_zero]
          simp only [Act.put, List.setIfInBounds_toArray, List.set_cons_succ, List.set_cons_zero]
          generalize W1.alloc (.cells #[.int .i64 (tNum 0 7 R.2).1] 3) = W2 at *
          clear oS1 oR1 hT1 hB1 hown1 hK1 hal
          refine Pt.WalkT.make (by rfl) ?_
          intro W hWJ
          cases hWJ.symm
          obtain ⟨hj0, hy0, hy1, hy2⟩ := HJ0.out
          refine wpList_append_sl _ rfl (.tmp 44) (.tmp 47) _ rfl V.heap.size 3 j0 _ 1 8 Tryz.underlying24 hj0 hy0 hy1 hy2 rfl (by omega) vp k (ints R.1) rfl hown2 W1.heap.size (W1.heap.size + 1) _ 1 [.int .i64 (tNum 0 7 R.2).1] rfl hl (by intro y hy; rw [List.mem_singleton.1 hy]; rfl) (by unfold maxLen; omega) (by omega) hK2.size ?_
          clear hj0 hy0 hy1 hy2
          intro v3 w3 hv3 hg3 hat3
          have hgo : ∀ i, i < V.heap.size → vp.ownBlock ≠ some i := fun i hi e => by have h1 := (hown2.lt i e).1; omega
          have oS3 := oS2.kept hg3 (fun e => hgo W4.heap.size hsz e.symm)
          have hnV : w.heap.size < V.heap.size := by omega
          have hbV : bt < V.heap.size := by omega
          have oR3 := oR2.kept hg3 (fun e => hgo w.heap.size hnV e.symm)
          have hT3 := hT2.kept hg3 (fun e => hgo bt hbV e.symm) (fun g e => by have := (hown2.lt g e).1; omega)
          have hB3 := hB2.grown hg3 hB2.size (fun g e => by have := (hown2.lt g e).1; omega)
          have hK3 := hK2.trans (Kept.of_grown hg3 fun i hi => ⟨Nat.lt_of_lt_of_le hi.1 hK2.size, fun e => hgo i hi.1 e.symm⟩)
          have hsz3 := Nat.lt_of_lt_of_le hsz2 hg3.size
          have hv3 : w3.ownsRow V.heap.size 3 1 v3 (k + 1) (ints (R.1 ++ [(tNum 0 7 R.2).1])) := by have h := hv3; unfold ints at h ⊢; rw [List.map_append]; exact h
          obtain ⟨A5, c5, rfl, -⟩ := (Sl.of_own hv3).at_
          clear hg3 hat3 hown2 oS2 oR2 hT2 hB2 hK2 hl
          refine ⟨rfl, .slice A5 (k + 1) c5, _, (fun V => V = w3), rfl, rfl, (fun V h => by rw [h]; exact oS3), (.inr (fun _ h => h)), ?_⟩
          simp only [Act.put, List.setIfInBounds_toArray, List.set_cons_succ, List.set_cons_zero]
          refine Pt.WalkT.make (by rfl) ?_
          intro W hWJ
          cases hWJ.symm
          have g : w3.cell? ⟨W4.heap.size, 8, none⟩ = some vp := oS3.cell rfl
          have f := oS3.frozen 8
          have hgs := grownBy_set w3 W4.heap.size 8 (.slice A5 (k + 1) c5)
          have oS4 : Ob (w3.setCell ⟨W4.heap.size, 8, none⟩ (.slice A5 (k + 1) c5)) W4.heap.size 26 #[.int .i64 (dO b).1, .int .i64 (dF b).1, .int .i64 (dR b).1, .slice Aw (dW b).1.length cw, .bool (dA b).1, .int .i64 (dS b).1, .int .i64 (dK b).1, vg, .slice A5 (k + 1) c5, .bool false] := oS3.set 8 (.slice A5 (k + 1) c5)
          have oR4 := oR3.other (show w.heap.size ≠ W4.heap.size by omega) 8 (.slice A5 (k + 1) c5)
          have hT4 := hT3.kept hgs (fun e => by have e2 : bt = W4.heap.size := Option.some.inj e; omega) (fun g e => by have e2 : W4.heap.size = g := Option.some.inj e; omega)
          have hB4 := hB3.trans ((below_set w3 W4.heap.size 8 (.slice A5 (k + 1) c5)).mono (show w.heap.size ≤ W4.heap.size by omega))
          have hK4 := hK3.trans (Kept.of_grown hgs fun i hi => ⟨Nat.lt_of_lt_of_le hi.1 hK3.size, fun e => hi.2 (by cases e; exact .inr (.inr rfl))⟩)
          have hv4 := ownsRow_far hv3 hgs hsz
          go_wp2_with fail
          clear g f oS3 oR3 hT3 hB3 hsz3 hK3 hgs hv3
          refine ⟨rfl, undef, (fun _ => True), (fun V => V = w3.setCell ⟨W4.heap.size, 8, none⟩ (.slice A5 (k + 1) c5)), rfl, rfl, (fun _ _ => trivial), (.inl (by kernel_rfl)), Pt.WalkT.nil ?_⟩
          intro V' hV
          cases hV.symm
          simp only [Act.put]
          generalize w3.setCell ⟨W4.heap.size, 8, none⟩ (.slice A5 (k + 1) c5) = W5 at *
          go_wp2
          go_roundw
          case rel =>
            refine ⟨k + 1, .slice A5 (k + 1) c5, by omega, by go_num, ?_, oS4, oR4, ?_, hK4, hB4⟩
            · rw [HE.out]; exact hT4
            · rw [HE.out]; exact hv4
          case measure => simp [intOf]; omega
        · have hd : decide ((k : Int) < (dN b).1) = false := by simp; omega
          have hke : (k : Int) = (dN b).1 := by omega
          have hkn : (dN b).1.toNat = k := by omega
          have HDP := Lib.hid (show pIt ([], (dN b).2) k = dP b by rw [← hkn]; rfl)
          rw [HDP.out] at hT hown
          have hlP : (dP b).1.length = k := by rw [← HDP.out]; exact (pIt_len ([], (dN b).2) k).trans (Nat.zero_add k)
          rw [← hlP] at hown
          obtain ⟨Ag, cg, rfl⟩ := hG.form
          have hgA := (hG.gota (fun i hi hx => by rcases hx with hx | hx | hx <;> omega)).keep hK
          have hwA : SlA (fun i => i = w.heap.size ∨ i = bt ∨ i = W4.heap.size) wr 2 (.slice Aw (dW b).1.length cw) (dW b).1.length (itemCells (dW b).1) := (hW.more (fun i _ hx => .inl hx)).keep hK
          have hpA := SlA.of (Av := (fun i => i = w.heap.size ∨ i = bt ∨ i = W4.heap.size)) (Sl.of_own hown) (Nat.le_refl _) (fun i hi _ hx => by rcases hx with hx | hx | hx <;> omega)
          obtain ⟨Ap, cp, rfl, -⟩ := (Sl.of_own hown).at_
          have hPA : PartsA (fun i => i = w.heap.size ∨ i = bt ∨ i = W4.heap.size) wr (dSaga b) (.slice Aw (dW b).1.length cw) (.slice Ag (dG b).1.length cg) (.slice Ap (dP b).1.length cp) := ⟨hwA, hgA, hpA⟩
          have hsz := Nat.lt_of_lt_of_le hsz hK.size
          go_upto_region 15 with (fail)
          clear hd hkn hk hge hke hG hW hK hown hgA hwA hpA hlP
          have cX := Lib.hid (tflag_calls bt bt (dP b).2 wr hT)
          go_wp2_with fail
          refine cX.out.mono ?_
          rintro e W ⟨rfl, hT, hg⟩
          have oR := oR.kept hg (fun e => by have e2 : w.heap.size = bt := Option.some.inj e; omega)
          have oS := oS.kept hg (fun e => by have e2 : W4.heap.size = bt := Option.some.inj e; omega)
          have hB := hB.grown hg (by omega) (fun g e => by have e2 : bt = g := Option.some.inj e; omega)
          have hsz := Nat.lt_of_lt_of_le hsz hg.size
          have hPA := hPA.grow hg (.inr (.inl rfl))
          clear cX hg
          have g : W.cell? ⟨W4.heap.size, 9, none⟩ = some (.bool false) := oS.cell rfl
          have f := oS.frozen 9
          have hgs := grownBy_set W W4.heap.size 9 (.bool (tFlag (dP b).2).1)
          have oS : Ob (W.setCell ⟨W4.heap.size, 9, none⟩ (.bool (tFlag (dP b).2).1)) W4.heap.size 26 #[.int .i64 (dO b).1, .int .i64 (dF b).1, .int .i64 (dR b).1, .slice Aw (dW b).1.length cw, .bool (dA b).1, .int .i64 (dS b).1, .int .i64 (dK b).1, .slice Ag (dG b).1.length cg, .slice Ap (dP b).1.length cp, .bool (dC b).1] := oS.set 9 (.bool (tFlag (dP b).2).1)
          have oR := oR.other (show w.heap.size ≠ W4.heap.size by omega) 9 (.bool (tFlag (dP b).2).1)
          have hT : Tk 122 (W.setCell ⟨W4.heap.size, 9, none⟩ (.bool (tFlag (dP b).2).1)) bt bt (dC b).2 := hT.kept hgs (fun e => by have e2 : bt = W4.heap.size := Option.some.inj e; omega) (fun g e => by have e2 : W4.heap.size = g := Option.some.inj e; omega)
          have hB := hB.trans ((below_set W W4.heap.size 9 (.bool (tFlag (dP b).2).1)).mono (show w.heap.size ≤ W4.heap.size by omega))
          have hPA := hPA.grow hgs (.inr (.inr rfl))
          go_upto_region 16 with (fail)
          clear g f hgs
          generalize W.setCell ⟨W4.heap.size, 9, none⟩ (.bool (tFlag (dP b).2).1) = U at *
          have HDS := Lib.hid (show decS b = if doneOf (dC b).2 = 0 ∧ mayS (dSaga b) = true then some (dSaga b) else none from rfl)
          have cD := Lib.hid (tdone_calls bt bt (dC b).2 U hT)
          have cM := Lib.hid (sagamay_calls (dSaga b) (.slice Aw (dW b).1.length cw) (.slice Ag (dG b).1.length cg) (.slice Ap (dP b).1.length cp) U hPA.parts (dSaga_fit b))
          have HPA := Lib.hid hPA
          have oR := Lib.hid oR
          have hB := Lib.hid hB
          clear hT hPA
          obtain ⟨dz, hdz, hdz2⟩ : ∃ z, doneOf (dC b).2 = z ∧ (z = 0 ∨ z = 10) := ⟨_, rfl, by unfold doneOf; split <;> simp⟩
          rw [hdz] at HDS cD
          clear hdz
          rcases hdz2 with rfl | rfl
          · obtain ⟨m, hm⟩ : ∃ m, mayS (dSaga b) = m := ⟨_, rfl⟩
            rw [hm] at HDS cM
            clear hm
            go_wp2_with fail
            refine cD.out.mono ?_
            rintro e U' ⟨rfl, hU⟩
            cases hU.symm
            cases m
            · go_upto_region 17 with (first | refine wpList_load_obg (by rfl) _ _ rfl rfl _ oS Tryz.underlying26 rfl (by kernel_rfl) ?_ | (go_at_call 13; refine cM.out.mono ?_; rintro e U2 ⟨rfl, hb2⟩))
              have oR := oR.out.same hb2
              have hB := hB.out.trans (hb2.mono hB.out.size)
              go_wp2_with (refine wpList_store_ob (cells := #[.int .i64 0, .int .i64 0, .int .i64 0, .slice none 0 0, .bool false, .int .i64 0, .int .i64 0, .slice none 0 0, .slice none 0 0, .bool false]) rfl 26 (.tmp 2) (.tmp 62) rfl rfl rfl oR rfl (by kernel_rfl) (by simp [Value.oneCell']) ?_; intro W9 ho9 hg9)
              have hB9 := hB.grown hg9 hB.size (fun g e => by have e2 : w.heap.size = g := Option.some.inj e; omega)
              obtain ⟨p0, p1, p2, p3, p4, p5, p6, p7, p8, p9⟩ := ob_ten ho9
              go_wp2
              refine bodyPost_ret (v := .tuple #[.agg #[.int .i64 0, .int .i64 0, .int .i64 0, .slice none 0 0, .bool false, .int .i64 0, .int .i64 0, .slice none 0 0, .slice none 0 0, .bool false], .int .i64 10]) ?_ rfl ⟨by rw [HDS.out, if_neg (by simp)]; rfl, hB9⟩
              simp [results, Tryz.f18, go_sem, p0, p1, p2, p3, p4, p5, p6, p7, p8, p9]
            · go_upto_region 18 with (first | refine wpList_load_obg (by rfl) _ _ rfl rfl _ oS Tryz.underlying26 rfl (by kernel_rfl) ?_ | (go_at_call 13; refine cM.out.mono ?_; rintro e U2 ⟨rfl, hb2⟩))
              have hPA := (HPA.out.later hb2)
              have oS := oS.same hb2
              have oR := oR.out.same hb2
              have hB := hB.out.trans (hb2.mono hB.out.size)
              go_wp2_with (first | refine wpList_load_obg (by rfl) _ _ rfl rfl _ oS Tryz.underlying26 rfl (by kernel_rfl) ?_ | refine wpList_store_ob (cells := #[.int .i64 (dO b).1, .int .i64 (dF b).1, .int .i64 (dR b).1, .slice Aw (dW b).1.length cw, .bool (dA b).1, .int .i64 (dS b).1, .int .i64 (dK b).1, .slice Ag (dG b).1.length cg, .slice Ap (dP b).1.length cp, .bool (dC b).1]) rfl 26 (.tmp 2) (.tmp 63) rfl rfl rfl oR rfl (by kernel_rfl) (by simp [Value.oneCell']) ?_; intro W9 ho9 hg9)
              have hP9 := hPA.grow hg9 (.inl rfl)
              have hB9 := hB.grown hg9 hB.size (fun g e => by have e2 : w.heap.size = g := Option.some.inj e; omega)
              obtain ⟨p0, p1, p2, p3, p4, p5, p6, p7, p8, p9⟩ := ob_ten ho9
              go_wp2
              refine bodyPost_ret (v := .tuple #[.agg #[.int .i64 (dO b).1, .int .i64 (dF b).1, .int .i64 (dR b).1, .slice Aw (dW b).1.length cw, .bool (dA b).1, .int .i64 (dS b).1, .int .i64 (dK b).1, .slice Ag (dG b).1.length cg, .slice Ap (dP b).1.length cp, .bool (dC b).1], .int .i64 0]) ?_ rfl ⟨by rw [HDS.out, if_pos (by simp)]; exact ⟨_, _, _, rfl, hP9.parts.wide (Nat.zero_le _) (Nat.le_refl _)⟩, hB9⟩
              simp [results, Tryz.f18, go_sem, p0, p1, p2, p3, p4, p5, p6, p7, p8, p9]
          · go_wp2_with fail
            refine cD.out.mono ?_
            rintro e U' ⟨rfl, hU⟩
            cases hU.symm
            go_upto_region 17 with fail
            have oR := oR.out
            have hB := hB.out
            go_wp2_with (refine wpList_store_ob (cells := #[.int .i64 0, .int .i64 0, .int .i64 0, .slice none 0 0, .bool false, .int .i64 0, .int .i64 0, .slice none 0 0, .slice none 0 0, .bool false]) rfl 26 (.tmp 2) (.tmp 62) rfl rfl rfl oR rfl (by kernel_rfl) (by simp [Value.oneCell']) ?_; intro W9 ho9 hg9)
            have hB9 := hB.grown hg9 hB.size (fun g e => by have e2 : w.heap.size = g := Option.some.inj e; omega)
            obtain ⟨p0, p1, p2, p3, p4, p5, p6, p7, p8, p9⟩ := ob_ten ho9
            go_wp2
            refine bodyPost_ret (v := .tuple #[.agg #[.int .i64 0, .int .i64 0, .int .i64 0, .slice none 0 0, .bool false, .int .i64 0, .int .i64 0, .slice none 0 0, .slice none 0 0, .bool false], .int .i64 10]) ?_ rfl ⟨by rw [HDS.out, if_neg (by simp)]; rfl, hB9⟩
            simp [results, Tryz.f18, go_sem, p0, p1, p2, p3, p4, p5, p6, p7, p8, p9]
end Sa
end Go.Proofs.YthfpfomifebpbaaGreat

namespace Go.Proofs.YthfpfomifebpbaaGreat
open Go.RowKit Go.Maps
namespace Sa
open It Ce
set_option linter.unusedSimpArgs false

theorem b64_of {s : Saga} (h : mayS s = true) : ∀ x ∈ [s.order, s.first, s.regions, s.state, s.asked] ++ s.pending, -9223372036854775808 ≤ x ∧ x ≤ 9223372036854775807 := by
  obtain ⟨hh, -, -⟩ := mayS_iff.1 h
  have hst := state_in h
  obtain ⟨hp1, hp2⟩ := pend_in h
  have o1 := hh.o1
  have o2 := hh.o2
  have f1 := hh.f1
  have f2 := hh.f2
  have r1 := hh.r1
  have r2 := hh.r2
  have a1 := hh.a1
  have a2 := hh.a2
  intro x hx
  rcases List.mem_append.1 hx with hx | hx
  · simp only [List.mem_cons, List.not_mem_nil, or_false] at hx
    rcases hx with rfl | rfl | rfl | rfl | rfl <;> omega
  · have := hp1 x hx
    have := (mayS_M h).2.2
    omega

theorem encS_len {s : Saga} (h : mayS s = true) : (encS s).length ≤ 20000 := by
  have h1 := encA_len (may_of (mayS_M h).1)
  have h2 := encB_len (may_of (mayS_M h).1)
  have h3 := encG_len (fun l hl => may_of ((mayS_M h).2.1 l hl))
  have h4 := (mayS_M h).2.2
  have h5 := numsC_len s.pending
  have h6 := (pend_in h).2
  have h7 := (numC_len s.pending.length).2
  have h8 := (numC_len (flN s.cancelled)).2
  unfold encS
  simp only [List.length_append]
  omega

set_option maxRecDepth 100000 in
set_option maxHeartbeats 8000000 in
theorem codes_law (s : Saga) (vw vg vp : Value) (w : World) (h : Parts w 0 w.heap.size s vw vg vp) (hF : Fit s) :
    Calls Tryz.prog 4 #[.agg (sagaC s vw vg vp)] w fun e w' => e = .returned (.bool true) ∧ Below w.heap.size w w' := by
  have hmx : Tryz.prog.follows .mixedOrders = true := by kernel_rfl
  obtain ⟨A1, c1, rfl, -⟩ := h.want.form
  obtain ⟨A2, c2, rfl, -⟩ := h.got.form
  obtain ⟨A3, c3, rfl, -⟩ := h.pend.form
  obtain ⟨sc, hsc⟩ : ∃ sc, sc = sagaC s (.slice A1 s.want.length c1) (.slice A2 s.got.length c2) (.slice A3 s.pending.length c3) := ⟨_, rfl⟩
  have cS := Lib.hid (fun W (hb : Below w.heap.size w W) => small_calls s _ _ _ W (h.later hb))
  have cMr := Lib.hid (fun W (hb : Below w.heap.size w W) => refmay15_calls s _ _ _ W (h.later hb) hF)
  have cN := Lib.hid (fun W (hb : Below w.heap.size w W) hm => encode_no s _ _ _ W (h.later hb) hF hm)
  have cY := Lib.hid (fun W (hb : Below w.heap.size w W) hm => encode_yes s _ _ _ W (h.later hb) hF hm (b64_of hm))
  have cE := Lib.hid (fun W (hb : Below w.heap.size w W) hm => refencode_calls s _ _ _ W (h.later hb) hm (b64_of hm))
  have HP := Lib.hid (fun W (hb : Below w.heap.size w W) => h.later hb)
  have cL := Lib.hid (fun W => lives_calls W)
  rw [← hsc] at cS cMr cN cY cE
  rw [← hsc]
  have hB := (Below.refl w.heap.size w).alloc (Nat.le_refl _) (.cells sc 26)
  have o1 := Ob.new w 26 sc
  have hs1 : sc.size = 10 := by rw [hsc]; rfl
  have HSC := Lib.hid hsc
  clear h hsc
  go_enter Tryz.func4, Tryz.ntmps4
  go_wp2_with (refine wpList_load_obg (by rfl) _ _ rfl rfl _ o1 Tryz.underlying26 rfl (by rw [hs1]; kernel_rfl) ?_)
  generalize w.alloc (.cells sc 26) = W0 at *
  have hz0 := o1.lt
  refine (cS.out _ hB).mono ?_
  rintro e W1 ⟨rfl, hb1⟩
  have o1 := o1.same hb1
  have hB := hB.trans (hb1.mono hB.size)
  clear hb1 cS hz0
  generalize hsm : smallS s = sm
  clear hsm
  cases sm with
  | false =>
    go_wp2_with fail
    refine (cL.out _).mono ?_
    rintro e W2 ⟨rfl, hb2⟩
    go_wp2
    go_ret
    exact ⟨rfl, hB.trans (hb2.mono hB.size)⟩
  | true =>
  obtain ⟨m, hm⟩ : ∃ m, mayS s = m := ⟨_, rfl⟩
  rw [hm] at cMr
  cases m with
  | false =>
    have cN := Lib.hid (fun W hb => cN.out W hb hm)
    clear hm cY cE
    go_wp2_with (refine wpList_load_obg (by rfl) _ _ rfl rfl _ o1 Tryz.underlying26 rfl (by rw [hs1]; kernel_rfl) ?_)
    refine (cN.out _ hB).mono ?_
    rintro e W2 ⟨rfl, hb2⟩
    have o1 := o1.same hb2
    have hB := hB.trans (hb2.mono hB.size)
    clear hb2
    go_wp2_with (refine wpList_load_obg (by rfl) _ _ rfl rfl _ o1 Tryz.underlying26 rfl (by rw [hs1]; kernel_rfl) ?_)
    refine (cL.out _).mono ?_
    rintro e W3 ⟨rfl, hb3⟩
    have o1 := o1.same hb3
    have hB := hB.trans (hb3.mono hB.size)
    clear hb3
    go_wp2_with (first | (refine wpList_load_obg (by rfl) _ _ rfl rfl _ o1 Tryz.underlying26 rfl (by rw [hs1]; kernel_rfl) ?_) | (go_at_call 14; refine (cMr.out _ hB).mono ?_; rintro e W4 ⟨rfl, hb4⟩))
    go_ret
    exact ⟨rfl, hB.trans (hb4.mono hB.size)⟩
  | true =>
    have cY := Lib.hid (fun W hb => cY.out W hb hm)
    have cE := Lib.hid (fun W hb => cE.out W hb hm)
    have HEL := Lib.hid (encS_len hm)
    have HDE := Lib.hid (dec_enc hm)
    clear hm cN
    go_wp2_with (refine wpList_load_obg (by rfl) _ _ rfl rfl _ o1 Tryz.underlying26 rfl (by rw [hs1]; kernel_rfl) ?_)
    refine (cY.out _ hB).mono ?_
    rintro e W2 ⟨⟨v, rfl, hv⟩, hb2⟩
    have hI : BytesAt W2 0 W2.heap.size v (encS s) := (Sl.of_own hv).wide (Nat.zero_le _) (Nat.le_refl _)
    clear hv
    obtain ⟨A, c, rfl, -⟩ := hI.form
    have o1 := o1.same hb2
    have hB := hB.trans (hb2.mono hB.size)
    clear hb2
    go_wp2_with (refine wpList_load_obg (by rfl) _ _ rfl rfl _ o1 Tryz.underlying26 rfl (by rw [hs1]; kernel_rfl) ?_)
    refine (cL.out _).mono ?_
    rintro e W3 ⟨rfl, hb3⟩
    have hI := Sl.mono hI hb3 hb3.size
    have o1 := o1.same hb3
    have hB := hB.trans (hb3.mono hB.size)
    clear hb3
    go_wp2_with (first | (refine wpList_load_obg (by rfl) _ _ rfl rfl _ o1 Tryz.underlying26 rfl (by rw [hs1]; kernel_rfl) ?_) | (go_at_call 14; refine (cMr.out _ hB).mono ?_; rintro e W4 ⟨rfl, hb4⟩))
    have o1 := o1.same hb4
    have hB := hB.trans (hb4.mono hB.size)
    have hI := Sl.mono hI hb4 hb4.size
    have cD := decode_calls (encS s) _ W4 hI (by have := HEL.out; omega)
    rw [HDE.out] at cD
    clear hb4
    refine cD.mono ?_
    rintro e W5 ⟨⟨vw, vg, vp, rfl, hPx⟩, hb5⟩
    have o1 := o1.same hb5
    have hB := hB.trans (hb5.mono hB.size)
    have hI := Sl.mono hI hb5 hb5.size
    clear hb5 cD
    obtain ⟨E1, d1, rfl, -⟩ := hPx.want.form
    obtain ⟨E2, d2, rfl, -⟩ := hPx.got.form
    obtain ⟨E3, d3, rfl, -⟩ := hPx.pend.form
    obtain ⟨xc, hxc⟩ : ∃ xc, xc = sagaC s (.slice E1 s.want.length d1) (.slice E2 s.got.length d2) (.slice E3 s.pending.length d3) := ⟨_, rfl⟩
    rw [← hxc]
    have xc1 : xc.size = 10 := by rw [hxc]; rfl
    have xc2 : xc.all (·.oneCell') = true := by rw [hxc]; simp [sagaC, Value.oneCell']
    have HXC := Lib.hid hxc
    clear hxc
    have hoN := Ob.new W5 26 #[.int .i64 0, .int .i64 0, .int .i64 0, .slice none 0 0, .bool false, .int .i64 0, .int .i64 0, .slice none 0 0, .slice none 0 0, .bool false]
    have hal3 := (Below.refl W5.heap.size W5).alloc (Nat.le_refl _) (.cells #[.int .i64 0, .int .i64 0, .int .i64 0, .slice none 0 0, .bool false, .int .i64 0, .int .i64 0, .slice none 0 0, .slice none 0 0, .bool false] 26)
    have z3 : (W5.alloc (.cells #[.int .i64 0, .int .i64 0, .int .i64 0, .slice none 0 0, .bool false, .int .i64 0, .int .i64 0, .slice none 0 0, .slice none 0 0, .bool false] 26)).heap.size = W5.heap.size + 1 := World.size_alloc _ _
    go_wp2_with (refine wpList_store_ob (cells := xc) rfl 26 (.tmp 5) (.tmp 37) rfl rfl rfl hoN xc1 (by rw [xc1]; kernel_rfl) xc2 ?_
                 intro W6 ho6 hg6
                 have hb6 : Below W5.heap.size W5 W6 := hal3.grown hg6 (by omega) (fun g e => by have e2 : W5.heap.size = g := Option.some.inj e; omega)
                 have o1 := o1.same hb6
                 have hB := hB.trans (hb6.mono hB.size)
                 have hI := Sl.mono hI hb6 hb6.size
                 have hPx := hPx.later hb6
                 clear hoN hal3 z3 hg6 hb6)
    have hB := hB.drew
    have hd0 := (Below.refl W6.heap.size W6).drew
    have o1 := o1.same hd0
    have ho6 := ho6.same hd0
    have hI := Sl.mono hI hd0 hd0.size
    have hPx := hPx.later hd0
    clear hd0
    generalize hsb : (⟨(encS s).toArray⟩ : ByteArray) = sb at *
    have HSB := Lib.hid hsb
    clear hsb
    have cZ := Lib.hid (fun V (hb : Below W6.drew.heap.size W6.drew V) => refsame15_calls s s _ _ _ _ _ _ V (hPx.later hb) (HP.out V (hB.trans (hb.mono hB.size))))
    rw [← HXC.out, ← HSC.out, show sameS s s = true from sameS_iff.2 rfl] at cZ
    refine Pu.regionM [(0, false), (1, false), (2, false), (3, true), (4, false), (5, false), (6, false), (7, false), (8, false), (9, false), (10, false), (11, false), (12, false), (13, true), (14, false), (15, false)] (fun V => Below W6.drew.heap.size W6.drew V) hmx (by kernel_rfl) (by kernel_rfl) (by kernel_rfl) (Below.refl _ _) rfl ?_
    simp only [Pu.named, List.filterMap_cons, List.filterMap_nil, List.getElem?_toArray, List.getElem?_cons_succ, List.getElem?_cons_zero, Option.map_some]
    iterate 3 (apply Pu.WalkM.on (by rfl)
               · intro V hV
                 have hcv : (convert 39 9 (.slice A (encS s).length c)).run Tryz.prog V = .ok (.string sb) V := by rw [← HSB.out]; exact run_string_at (P := Tryz.prog) (w := V) (dst := 9) Tryz.underlying39 Tryz.underlying5 Tryz.underlying9 (Sl.below hI hV)
                 go_wp2_with (first | (refine wpList_load_obg (by rfl) _ _ rfl rfl _ (o1.same hV) Tryz.underlying26 rfl (by rw [hs1]; kernel_rfl) ?_) | (refine wpList_load_obg (by rfl) _ _ rfl rfl _ (ho6.same hV) Tryz.underlying26 rfl (by rw [xc1]; kernel_rfl) ?_))
                 refine ⟨rfl, ?_, rfl⟩
                 try simp only [Act.put, List.setIfInBounds_toArray, List.set_cons_succ, List.set_cons_zero]
                 rfl
               simp only [Act.put, List.setIfInBounds_toArray, List.set_cons_succ, List.set_cons_zero])
    refine Pu.WalkM.make (by rfl) ?_
    intro V hV
    rw [hV]
    clear hV V
    go_wp2_with (go_at_call 19; refine (cE.out _ hB).mono ?_; rintro e W7 ⟨⟨v7, rfl, hv7⟩, hb7⟩)
    obtain ⟨A7, c7, rfl, -⟩ := hv7.form
    refine ⟨rfl, .slice A7 (encS s).length c7, (fun V => Below W7.heap.size W7 V), (fun V => V = W7), ?_, rfl, (fun V h => by rw [h]; exact Below.refl _ _), (.inr (fun V h => hb7.trans (h.mono hb7.size))), ?_⟩
    · simp only [Act.put, List.setIfInBounds_toArray, List.set_cons_succ, List.set_cons_zero]
    simp only [Act.put, List.setIfInBounds_toArray, List.set_cons_succ, List.set_cons_zero]
    iterate 9 (apply Pu.WalkM.on (by rfl)
               · intro V hV
                 have hcv : (convert 39 9 (.slice A7 (encS s).length c7)).run Tryz.prog V = .ok (.string sb) V := by rw [← HSB.out]; exact run_string_at (P := Tryz.prog) (w := V) (dst := 9) Tryz.underlying39 Tryz.underlying5 Tryz.underlying9 (Sl.below hv7 hV)
                 go_wp2_with (first | (refine wpList_load_obg (by rfl) _ _ rfl rfl _ (o1.same (hb7.trans (hV.mono hb7.size))) Tryz.underlying26 rfl (by rw [hs1]; kernel_rfl) ?_) | (refine wpList_load_obg (by rfl) _ _ rfl rfl _ (ho6.same (hb7.trans (hV.mono hb7.size))) Tryz.underlying26 rfl (by rw [xc1]; kernel_rfl) ?_))
                 refine ⟨rfl, ?_, rfl⟩
                 try simp only [Act.put, List.setIfInBounds_toArray, List.set_cons_succ, List.set_cons_zero]
                 rfl
               simp only [Act.put, List.setIfInBounds_toArray, List.set_cons_succ, List.set_cons_zero])
    refine Pu.WalkM.make (by rfl) ?_
    intro V hV
    rw [hV]
    clear hV V
    go_wp2_with (go_at_call 11; refine (cZ.out _ hb7).mono ?_; rintro e W8 ⟨rfl, hb8⟩)
    refine ⟨rfl, .bool true, (fun V => Below W8.heap.size W8 V), (fun V => V = W8), ?_, rfl, (fun V h => by rw [h]; exact Below.refl _ _), (.inr (fun V h => hb8.trans (h.mono hb8.size))), ?_⟩
    · simp only [Act.put, List.setIfInBounds_toArray, List.set_cons_succ, List.set_cons_zero]
    simp only [Act.put, List.setIfInBounds_toArray, List.set_cons_succ, List.set_cons_zero]
    iterate 2 (apply Pu.WalkM.on (by rfl)
               · intro V hV
                 go_wp2_with fail
                 refine ⟨rfl, ?_, rfl⟩
                 try simp only [Act.put, List.setIfInBounds_toArray, List.set_cons_succ, List.set_cons_zero]
                 rfl
               simp only [Act.put, List.setIfInBounds_toArray, List.set_cons_succ, List.set_cons_zero])
    refine Pu.WalkM.nil ?_
    intro V hV
    rw [hV]
    clear hV V
    go_wp2
    go_ret
    exact ⟨rfl, hB.trans ((hb7.trans (hb8.mono hb7.size)).mono hB.size)⟩
end Sa
end Go.Proofs.YthfpfomifebpbaaGreat

namespace Go.Proofs.YthfpfomifebpbaaGreat
open Go.ChangeShapes Go.WideShapes Go.ChangeAt Go.RowKit
namespace Sa
set_option maxRecDepth 100000 in
theorem sagaCodes_lifted (os : Os) (started : os.Started) (H : Type) (enc : TypeId × Value → H) :
    ReturnsInHanded {} Tryz.checked os 4 .any (Rows.sagaCodesSpec.pre6 enc Tryz.prog Tryz.f4 Rows.sagaCodesRow.domain false) (Rows.sagaCodesSpec.post enc Tryz.prog Tryz.f4 false true false false) := by
  refine returnsInHanded_of_change (C := Tryz.checked) own started (by kernel_rfl) Tryz.func4
    (ChangeSpec.witness6 (enc := enc) (C := Tryz.checked) false ⟨#[], #[.agg #[.int .i64 0, .int .i64 0, .int .i64 0, .slice none 0 0, .bool false, .int .i64 0, .int .i64 0, .slice none 0 0, .slice none 0 0, .bool false]], []⟩ 8 (by kernel_rfl) (by kernel_rfl) (by kernel_rfl) (by kernel_rfl)) ?_
  intro W base args ds gs before hval0 hW _ _
  have hval : ∀ (j : Nat) t v, Tryz.f4.params[j]? = some t → args[j]? = some v → Value.okWide Tryz.prog W .any base t v := hval0
  obtain ⟨p, q, hA0, hV, hps, hfz, hnd⟩ := id hW
  have hA : DataW.TrodAll enc Tryz.prog W 0 (fun _ => true) true Tryz.f4.params.toList args.toList ds p := hA0
  rw [Tryz.params4] at hA hval
  obtain ⟨v0, vs0, d0, ds0, p0, q0, hargs, rfl, rfl, h0, r0⟩ := trodAll_cons hA
  obtain ⟨rfl, rfl, rfl⟩ := trodAll_nil r0
  obtain rfl : args = #[v0] := by cases args; simp_all
  obtain ⟨rfl, rfl⟩ := trodVars_none hV
  obtain ⟨s, sw, sg, sp, rfl, fs, hs⟩ := Sa.open_saga (hval 0 26 v0 rfl rfl) h0
  refine (codes_law s _ _ _ W hs fs.fit).mono fun e W' ⟨he, hb⟩ => ?_
  subst he
  exact ⟨_, rfl, law_post laidOut (by kernel_rfl) rfl Tryz.underlying4 rfl hW rfl hb⟩

theorem sagaCodes_holds : Rows.SagaCodesSaid :=
  OpenClaim.holds_of_wide 4 Tryz.f4 rfl rfl rfl rfl rfl rfl rfl ⟨rfl, rfl, rfl, rfl, rfl⟩ rfl rfl rfl rfl rfl (by kernel_rfl) Tryz.func4 (by kernel_rfl)
    (of_decide_eq_true (by kernel_rfl)) (by unfold Func.isWrapper; first | (rw [if_pos (by decide +kernel)]; kernel_rfl) | (rw [if_neg (by decide +kernel)]; exact ⟨rfl, rfl⟩))
    (fun os started H enc _ => sagaCodes_lifted os started H enc)

end Sa
end Go.Proofs.YthfpfomifebpbaaGreat
