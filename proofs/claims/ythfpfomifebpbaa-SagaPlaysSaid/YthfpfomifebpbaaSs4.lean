/-
  laws for whole objects that are loaded and stored, and for look-ups with ok, at the walk's lists of operations.
  a whole object loaded by an operation that is bound to a test.
  saga: mayGot, rises.
  saga: rises; Equal and Clone of ints.
  saga: Equal of ints.
  slices.Values of ints: what a range over it does.
  slices.AppendSeq, Collect, Sorted at slices.Values of ints.
  slices.Collect, Sorted at slices.Values of ints.
  saga: May: where its head refuses.
  append onto a row of the call's own from a slice that is known, as one step of a region that draws its order.
  saga: May: where its head holds.
  saga: May; steps, events, a saga that may be written; tell, end.
  saga: end, each, undo.
  saga: Delete of an int, answered.
  saga: a saga whose parts are all its own; answered at it.
  items: what lives says.
-/
import Derived.Test.YthfpfomifebpbaaSs3
import Derived.Test.YthfpfomifebpbaaSs1
import Derived.Test.YthfpfomifebpbaaSs2
import Derived.Test.YthfpfomifebpbaaLayed
import Derived.Shelf.SlIterI.Nil
import Derived.Shelf.SlIterI.Sorted
import Derived.Shelf.SortM.Plain
import Derived.Shelf.SortM.SortNone
import Derived.Deep.RegionLaw
import Derived.Test.YthfpfomifebpbaaDelid
import Derived.Shelf.SlicesG.Delete

set_option linter.unusedVariables false
set_option linter.unusedSimpArgs false
namespace Go.Proofs.Ythfpfomifebpbaa
open Go.RowKit Go.Maps
section
variable {P : Program} {w : World} {ops : Array Oper} {rest : List Oper} {o : Oper} {a : Act} {Q : Exit → Act → World → Prop} {F : Fence} {N : Nat}
theorem store_ob_run {g : Nat} {t ty : TypeId} {cs0 cells : Array Value} (h : Ob w g t cs0) (hs : cells.size = cs0.size) (hi : (P.info? ty).map (·.size) = some cells.size) (h1 : cells.all (·.oneCell') = true) :
    ∃ w', (Instr.storeAt ty (.pointer (some ⟨g, 0, none⟩)) (.agg cells)).run P w = .ok () w' ∧ Ob w' g t cells ∧ w.grownBy w' (some g) :=
  ⟨_, run_storeAt_mid w g 0 ty cells (h.there (by omega)) hi h1, by have := h.all cells.toList (by simpa using hs); simpa using this, grownBy_segs _ _ _⟩
theorem load_ob_run {g : Nat} {t ty : TypeId} {cells : Array Value} {d : TypeDesc} (h : Ob w g t cells) (hu : P.underlying ty = some d) (hd : d.isRow = true) (hi : (P.info? ty).map (·.size) = some cells.size) :
    (Instr.loadAt ty (.pointer (some ⟨g, 0, none⟩))).run P w = .ok (.agg cells) w := by
  have := run_loadAt_mid (P := P) w g 0 ty cells.toList d (h.range (fun j v hv => by simpa using hv)) hu hd (by simpa using hi)
  simpa using this
theorem wpListIn_store_ob (hgd : o.guard = none) (ty : TypeId) (x y : Operand) (hop : o.op = .store ty x y) {g : Nat} {t : TypeId} {cs0 cells : Array Value} (hx : a.eval x = .pointer (some ⟨g, 0, none⟩)) (hy : a.eval y = .agg cells)
    (h : Ob w g t cs0) (hs : cells.size = cs0.size) (hi : (P.info? ty).map (·.size) = some cells.size) (h1 : cells.all (·.oneCell') = true)
    (hK : ∀ w', Ob w' g t cells → w.grownBy w' (some g) → wpListIn F N P ops Q rest (a.put o.dst undef) w') : wpListIn F N P ops Q (o :: rest) a w := by
  refine wpListIn_plain hgd fun K' hK' => ?_
  obtain ⟨w', hrun, r1, r2⟩ := store_ob_run (P := P) h hs hi h1
  unfold Oper.wpIn
  refine ⟨by simp [Oper.about, hop], ?_⟩
  rw [Oper.semAt_eq _ _ _ (by rw [hop]; intro c hc; cases hc)]
  simp [execOp, hop, hx, hy, hrun, Result.andThen]
  exact hK' _ _ (hK w' r1 r2)
theorem wpList_store_ob (hgd : o.guard = none) (ty : TypeId) (x y : Operand) (hop : o.op = .store ty x y) {g : Nat} {t : TypeId} {cs0 cells : Array Value} (hx : a.eval x = .pointer (some ⟨g, 0, none⟩)) (hy : a.eval y = .agg cells)
    (h : Ob w g t cs0) (hs : cells.size = cs0.size) (hi : (P.info? ty).map (·.size) = some cells.size) (h1 : cells.all (·.oneCell') = true)
    (hK : ∀ w', Ob w' g t cells → w.grownBy w' (some g) → wpList P ops Q rest (a.put o.dst undef) w') : wpList P ops Q (o :: rest) a w := by
  refine wpList_plain hgd fun K' hK' => ?_
  obtain ⟨w', hrun, r1, r2⟩ := store_ob_run (P := P) h hs hi h1
  unfold Oper.wp
  simp [execOp, hop, hx, hy, hrun, Result.andThen]
  exact hK' _ _ (hK w' r1 r2)
theorem wpListIn_load_ob (hgd : o.guard = none) (ty : TypeId) (x : Operand) (hop : o.op = .load ty x) {g : Nat} {t : TypeId} {cells : Array Value} (hx : a.eval x = .pointer (some ⟨g, 0, none⟩)) (d : TypeDesc)
    (h : Ob w g t cells) (hu : P.underlying ty = some d) (hd : d.isRow = true) (hi : (P.info? ty).map (·.size) = some cells.size)
    (hK : wpListIn F N P ops Q rest (a.put o.dst (.agg cells)) w) : wpListIn F N P ops Q (o :: rest) a w := by
  refine wpListIn_plain hgd fun K' hK' => ?_
  have hrun := load_ob_run (P := P) h hu hd hi
  unfold Oper.wpIn
  refine ⟨by simp [Oper.about, hop], ?_⟩
  rw [Oper.semAt_eq _ _ _ (by rw [hop]; intro c hc; cases hc)]
  simp [execOp, hop, hx, hrun, Result.andThen]
  exact hK' _ _ hK
theorem wpList_load_ob (hgd : o.guard = none) (ty : TypeId) (x : Operand) (hop : o.op = .load ty x) {g : Nat} {t : TypeId} {cells : Array Value} (hx : a.eval x = .pointer (some ⟨g, 0, none⟩)) (d : TypeDesc)
    (h : Ob w g t cells) (hu : P.underlying ty = some d) (hd : d.isRow = true) (hi : (P.info? ty).map (·.size) = some cells.size)
    (hK : wpList P ops Q rest (a.put o.dst (.agg cells)) w) : wpList P ops Q (o :: rest) a w := by
  refine wpList_plain hgd fun K' hK' => ?_
  have hrun := load_ob_run (P := P) h hu hd hi
  unfold Oper.wp
  simp [execOp, hop, hx, hrun, Result.andThen]
  exact hK' _ _ hK
end
section
variable {κ : Type} [DecidableEq κ] {K : KeyK κ} {P : Program} {w : World} {b : Nat} {m : List (κ × Value)} {ops : Array Oper} {rest : List Oper} {o : Oper} {a : Act} {Q : Exit → Act → World → Prop} {F : Fence} {N : Nat}
theorem wpListIn_look_ok_g (hg : o.guard = none) (x y : Operand) (tm : TypeId) (hop : o.op = Op.lookup tm x y true) (t e : TypeId) (KK : Keyed P t) (ht : P.underlying tm = some (.map t e))
    (hm : a.eval x = .map (some b)) (h : GMap K w P t b m) {z : Value} (hz : (zeroValue e).run P w = .ok z w) (key : Value) (k : κ) (hx : a.eval y = key) (hkey : keyOf P t key = some (K.lit k))
    (r : Value) (bb : Bool) (hr : (mGet m k).getD z = r) (hb : (mGet m k).isSome = bb) (hK : wpListIn F N P ops Q rest (a.put o.dst (.tuple #[r, .bool bb])) w) :
    wpListIn F N P ops Q (o :: rest) a w := by
  refine wpListIn_plain hg fun K' hK' => ?_
  have hrun := h.look_ok KK ht hz hkey
  rw [hr, hb] at hrun
  unfold Oper.wpIn
  refine ⟨by simp [Oper.about, hop], ?_⟩
  rw [Oper.semAt_eq _ _ _ (by rw [hop]; intro c hc; cases hc)]
  simp [execOp, hop, hm, hx, hrun, Result.andThen]
  exact hK' _ _ hK
theorem wpList_look_ok_g (hg : o.guard = none) (x y : Operand) (tm : TypeId) (hop : o.op = Op.lookup tm x y true) (t e : TypeId) (KK : Keyed P t) (ht : P.underlying tm = some (.map t e))
    (hm : a.eval x = .map (some b)) (h : GMap K w P t b m) {z : Value} (hz : (zeroValue e).run P w = .ok z w) (key : Value) (k : κ) (hx : a.eval y = key) (hkey : keyOf P t key = some (K.lit k))
    (r : Value) (bb : Bool) (hr : (mGet m k).getD z = r) (hb : (mGet m k).isSome = bb) (hK : wpList P ops Q rest (a.put o.dst (.tuple #[r, .bool bb])) w) :
    wpList P ops Q (o :: rest) a w := by
  refine wpList_plain hg fun K' hK' => ?_
  have hrun := h.look_ok KK ht hz hkey
  rw [hr, hb] at hrun
  unfold Oper.wp
  simp [execOp, hop, hm, hx, hrun, Result.andThen]
  exact hK' _ _ hK
end
end Go.Proofs.Ythfpfomifebpbaa

namespace Go.Proofs.Ythfpfomifebpbaa
open Go.RowKit
section
variable {P : Program} {w : World} {ops : Array Oper} {rest : List Oper} {o : Oper} {a : Act} {Q : Exit → Act → World → Prop}
theorem wpList_load_obg (hw : Pu.asks ops.toList o a.tmps.toList = true) (ty : TypeId) (x : Operand) (hop : o.op = .load ty x) {g : Nat} {t : TypeId} {cells : Array Value} (hx : a.eval x = .pointer (some ⟨g, 0, none⟩)) (d : TypeDesc)
    (h : Ob w g t cells) (hu : P.underlying ty = some d) (hd : d.isRow = true) (hi : (P.info? ty).map (·.size) = some cells.size)
    (hK : wpList P ops Q rest (a.put o.dst (.agg cells)) w) : wpList P ops Q (o :: rest) a w := by
  have hrun := load_ob_run (P := P) h hu hd hi
  unfold wpList
  rw [if_pos ((Pu.asks_eq _ _ _).trans hw)]
  left
  unfold Oper.wp
  simp [execOp, hop, hx, hrun, Result.andThen]
  exact hK
theorem wpList_load_midg (hw : Pu.asks ops.toList o a.tmps.toList = true) (ty : TypeId) (x : Operand) (hop : o.op = .load ty x) {b off : Nat} (hx : a.eval x = .pointer (some ⟨b, off, none⟩)) (cs : List Value) (d : TypeDesc)
    (hc : w.rangeAt b off cs) (hu : P.underlying ty = some d) (hd : d.isRow = true) (hi : (P.info? ty).map (·.size) = some cs.length)
    (hK : wpList P ops Q rest (a.put o.dst (.agg cs.toArray)) w) : wpList P ops Q (o :: rest) a w := by
  have hrun := run_loadAt_mid (P := P) w b off ty cs d hc hu hd hi
  unfold wpList
  rw [if_pos ((Pu.asks_eq _ _ _).trans hw)]
  left
  unfold Oper.wp
  simp [execOp, hop, hx, hrun, Result.andThen]
  exact hK
end
end Go.Proofs.Ythfpfomifebpbaa

namespace Go.Proofs.Ythfpfomifebpbaa
open Go.RowKit Go.Maps
namespace Sa
open It

theorem ob_ten {w : World} {b : Nat} {t : TypeId} {c0 c1 c2 c3 c4 c5 c6 c7 c8 c9 : Value} (h : Ob w b t #[c0, c1, c2, c3, c4, c5, c6, c7, c8, c9]) :
    w.cell? ⟨b, 0, none⟩ = some c0 ∧ w.cell? ⟨b, 1, none⟩ = some c1 ∧ w.cell? ⟨b, 2, none⟩ = some c2 ∧ w.cell? ⟨b, 3, none⟩ = some c3 ∧ w.cell? ⟨b, 4, none⟩ = some c4 ∧ w.cell? ⟨b, 5, none⟩ = some c5 ∧ w.cell? ⟨b, 6, none⟩ = some c6 ∧ w.cell? ⟨b, 7, none⟩ = some c7 ∧ w.cell? ⟨b, 8, none⟩ = some c8 ∧ w.cell? ⟨b, 9, none⟩ = some c9 :=
  ⟨h.cell rfl, h.cell rfl, h.cell rfl, h.cell rfl, h.cell rfl, h.cell rfl, h.cell rfl, h.cell rfl, h.cell rfl, h.cell rfl⟩

def heldTo (L : List (List It.Item)) (k : Nat) : Int := (L.take k).foldl (fun a l => wrap64 (a + totSum l)) 0
theorem heldTo_succ (L : List (List It.Item)) {k : Nat} (hk : k < L.length) : heldTo L (k + 1) = wrap64 (heldTo L k + totSum (L.getD k [])) := by
  unfold heldTo
  rw [List.take_succ_eq_append_getElem hk, List.foldl_append, getD_get hk]
  rfl
def mayGot (s : Saga) : Bool := s.got.all may && decide (wrap64 (heldTo s.got s.got.length + totSum (missing s.want s.got)) = totSum s.want)

set_option maxRecDepth 100000 in
set_option maxHeartbeats 4000000 in
theorem maygot_calls (s : Saga) (vw vg vp : Value) (w : World) (h : Parts w 0 w.heap.size s vw vg vp) (hF : Fit s) :
    Calls Try.prog 49 #[.agg (sagaC s vw vg vp)] w fun e w' => e = .returned (.bool (mayGot s)) ∧ Below w.heap.size w w' := by
  have hmx : Try.prog.follows .mixedOrders = true := by kernel_rfl
  have cM := Lib.hid (fun W (hb : Below w.heap.size w W) => sagamissing_calls s vw vg vp W (h.later hb) hF)
  have cC := Lib.hid (fun W (hb : Below w.heap.size w W) => containsS_calls s.got vg W (h.later hb).got hF.got)
  have cW := Lib.hid (fun W (hb : Below w.heap.size w W) => total_calls s.want vw W (h.later hb).want)
  have hg0 := Lib.hid h.got
  obtain ⟨A, c, rfl, -⟩ := h.want.form
  obtain ⟨A', c', rfl, hc1, hc2⟩ := h.got.form
  obtain ⟨A2, c2, rfl, -⟩ := h.pend.form
  unfold maxLen at hc2
  clear h hF
  unfold sagaC at cM ⊢
  have hB := (Below.refl _ w).alloc (Nat.le_refl _) (.cells #[.int .i64 s.order, .int .i64 s.first, .int .i64 s.regions, .slice A s.want.length c, .bool s.waits, .int .i64 s.state, .int .i64 s.asked, .slice A' s.got.length c', .slice A2 s.pending.length c2, .bool s.cancelled] 27)
  have hO := Ob.new w 27 #[.int .i64 s.order, .int .i64 s.first, .int .i64 s.regions, .slice A s.want.length c, .bool s.waits, .int .i64 s.state, .int .i64 s.asked, .slice A' s.got.length c', .slice A2 s.pending.length c2, .bool s.cancelled]
  unfold mayGot
  generalize hall : s.got.all may = q at cC ⊢
  have HALL := Lib.hid hall
  clear hall
  go_enter Try.func49, Try.ntmps49
  go_wp2_with fail
  refine (cC.out _ hB).mono ?_
  rintro e w1 ⟨rfl, hb1⟩
  have hO1 := hO.same hb1
  have hB1 := hB.trans (hb1.mono hB.size)
  obtain ⟨g0, g1, g2, g3, g4, g5, g6, g7, g8, g9⟩ := ob_ten hO1
  clear hO hB hb1
  cases q with
  | false =>
    go_wp2
    go_ret
    exact ⟨rfl, hB1⟩
  | true =>
    go_wp2
    go_loopw [3, 12] (fun a i wr => ∃ k : Nat, k ≤ s.got.length ∧ i = .int .i64 k ∧ a = .int .i64 (heldTo s.got k) ∧ Below w1.heap.size w1 wr) (fun _ i _ => s.got.length - (intOf i).toNat)
    case atStart => exact ⟨0, by omega, rfl, rfl, Below.refl _ _⟩
    case round =>
      obtain ⟨k, hk, rfl, rfl, hb⟩ := hrel
      have hBr := hB1.trans (hb.mono hB1.size)
      have hO2 := hO1.same hb
      obtain ⟨g0, g1, g2, g3, g4, g5, g6, g7, g8, g9⟩ := ob_ten hO2
      by_cases hlt : k < s.got.length
      · have hd : decide ((k : Int) < s.got.length) = true := decide_eq_true (by omega)
        obtain ⟨b, o, x, rfl, _, hbB, hck, hx⟩ := (hg0.out.below hBr).cellAt hlt
        have hx := hx.wide (Nat.le_refl _) hBr.size
        have HS := Lib.hid (heldTo_succ s.got hlt)
        generalize s.got.getD k [] = y at hx HS
        generalize heldTo s.got k = acc at HS ⊢
        have cT := Lib.hid (total_calls y x wr hx)
        obtain ⟨A1, c1, rfl, -⟩ := hx.form
        go_wp2_with fail
        refine cT.out.mono ?_
        rintro e w2 ⟨rfl, hb2⟩
        go_wp2
        go_roundw
        case rel => exact ⟨k + 1, by omega, by go_num, by rw [HS.out], hb.trans (hb2.mono hb.size)⟩
        case measure => simp [intOf]; omega
      · obtain rfl : k = s.got.length := by omega
        have HD := Lib.hid hBr.drew
        have hOD : Ob wr.drew w.heap.size 27 _ := hO2
        go_wp2
        refine Pu.regionM [(0, false), (1, false), (5, false), (6, false), (2, true), (3, true), (4, false), (7, true), (8, false), (9, false)] (fun V => Ob V w.heap.size 27 #[.int .i64 s.order, .int .i64 s.first, .int .i64 s.regions, .slice A s.want.length c, .bool s.waits, .int .i64 s.state, .int .i64 s.asked, .slice A' s.got.length c', .slice A2 s.pending.length c2, .bool s.cancelled]) hmx (by kernel_rfl) (by kernel_rfl) (by kernel_rfl) hOD rfl ?_
        simp only [Pu.named, List.filterMap_cons, List.filterMap_nil, List.getElem?_toArray, List.getElem?_cons_succ, List.getElem?_cons_zero, Option.map_some]
        iterate 4 (
          apply Pu.WalkM.on (by rfl)
          · intro V hV
            obtain ⟨g0, g1, g2, g3, g4, g5, g6, g7, g8, g9⟩ := ob_ten hV
            go_wp2_with (refine wpList_load_obg (by rfl) _ _ rfl rfl _ hV Try.underlying27 rfl (by kernel_rfl) ?_)
            refine ⟨rfl, ?_, rfl⟩
            try simp only [Act.put, List.setIfInBounds_toArray, List.set_cons_succ, List.set_cons_zero]
            rfl
          simp only [Act.put, List.setIfInBounds_toArray, List.set_cons_succ, List.set_cons_zero])
        refine Pu.WalkM.make (by rfl) ?_
        rintro W rfl
        go_wp2_with (go_at_call 50; refine (cM.out _ HD.out).mono ?_; rintro e W2 ⟨⟨vl, rfl, hv⟩, hb3⟩)
        have HD2 := Lib.hid (HD.out.trans (hb3.mono HD.out.size))
        have HO2 := Lib.hid (hOD.same hb3)
        obtain ⟨A7, c7, rfl, -⟩ := (ItemsAt.of_own hv).form
        have cL := Lib.hid (total_calls _ _ W2 ((ItemsAt.of_own hv).wide (Nat.zero_le _) (Nat.le_refl _)))
        clear hv hb3
        refine ⟨rfl, (.slice A7 (missing s.want s.got).length c7), _, (fun W => W = W2), ?_, rfl, (fun W h => by rw [h]; exact HO2.out), (.inr (fun _ h => h)), ?_⟩
        · simp only [Act.put, List.setIfInBounds_toArray, List.set_cons_succ, List.set_cons_zero]
        simp only [Act.put, List.setIfInBounds_toArray, List.set_cons_succ, List.set_cons_zero]
        refine Pu.WalkM.make (by rfl) ?_
        rintro W rfl
        go_wp2_with (go_at_call 72; refine cL.out.mono ?_; rintro e W3 ⟨rfl, hb3⟩)
        have HD3 := Lib.hid (HD2.out.trans (hb3.mono HD2.out.size))
        have HO3 := Lib.hid (HO2.out.same hb3)
        clear hb3
        refine ⟨rfl, (.int .i64 (totSum (missing s.want s.got))), _, (fun W => W = W3), ?_, rfl, (fun W h => by rw [h]; exact HO3.out), (.inr (fun _ h => h)), ?_⟩
        · simp only [Act.put, List.setIfInBounds_toArray, List.set_cons_succ, List.set_cons_zero]
        simp only [Act.put, List.setIfInBounds_toArray, List.set_cons_succ, List.set_cons_zero]
        apply Pu.WalkM.on (by rfl)
        · intro V hV
          go_wp2
          refine ⟨rfl, ?_, rfl⟩
          try simp only [Act.put, List.setIfInBounds_toArray, List.set_cons_succ, List.set_cons_zero]
          rfl
        simp only [Act.put, List.setIfInBounds_toArray, List.set_cons_succ, List.set_cons_zero]
        refine Pu.WalkM.make (by rfl) ?_
        rintro W rfl
        go_wp2_with (go_at_call 72; refine (cW.out _ HD3.out).mono ?_; rintro e W4 ⟨rfl, hb3⟩)
        have HD4 := Lib.hid (HD3.out.trans (hb3.mono HD3.out.size))
        have HO4 := Lib.hid (HO3.out.same hb3)
        clear hb3
        refine ⟨rfl, (.int .i64 (totSum s.want)), _, (fun W => W = W4), ?_, rfl, (fun W h => by rw [h]; exact HO4.out), (.inr (fun _ h => h)), ?_⟩
        · simp only [Act.put, List.setIfInBounds_toArray, List.set_cons_succ, List.set_cons_zero]
        simp only [Act.put, List.setIfInBounds_toArray, List.set_cons_succ, List.set_cons_zero]
        iterate 2 (
          apply Pu.WalkM.on (by rfl)
          · intro V hV
            go_wp2
            refine ⟨rfl, ?_, rfl⟩
            try simp only [Act.put, List.setIfInBounds_toArray, List.set_cons_succ, List.set_cons_zero]
            rfl
          simp only [Act.put, List.setIfInBounds_toArray, List.set_cons_succ, List.set_cons_zero])
        refine Pu.WalkM.nil ?_
        rintro V rfl
        go_wp2
        go_ret
        exact ⟨by simp; rfl, HD4.out⟩

/-- regions rise, and are all among others -/
def risesTo (l all : List Int) (k : Nat) : Prop := ∀ j, j < k → ¬ (0 < j ∧ l.getD j 0 ≤ l.getD (j - 1) 0) ∧ Life.inL (l.getD j 0) all = true
instance (l all : List Int) (k : Nat) : Decidable (risesTo l all k) := inferInstanceAs (Decidable (∀ j, j < k → _))
def rises (l all : List Int) : Bool := decide (risesTo l all l.length)
end Sa
end Go.Proofs.Ythfpfomifebpbaa

namespace Go.Proofs.Ythfpfomifebpbaa
open Go.RowKit Go.Maps
namespace Sa
open It

set_option maxRecDepth 100000 in
set_option maxHeartbeats 2000000 in
theorem rises_calls (l all : List Int) (va vb : Value) (lo B lo' B' : Nat) (w : World) (ha : IntsAt w lo B va l) (hb : IntsAt w lo' B' vb all) :
    Calls Try.prog 53 #[va, vb] w fun e w' => e = .returned (.bool (rises l all)) ∧ w = w' := by
  have cI := Lib.hid (fun x => Life.contains_calls all x vb lo' B' w hb)
  have HA := Lib.hid ha
  obtain ⟨A, c, rfl, hc1, hc2, -⟩ := ha.form
  obtain ⟨A', c', rfl, -⟩ := hb.form
  unfold maxLen at hc2
  clear ha hb
  go_enter Try.func53, Try.ntmps53
  go_wp2
  go_loop [9] (fun i => ∃ k : Nat, k ≤ l.length ∧ i = .int .i64 k ∧ risesTo l all k) (fun i => l.length - (intOf i).toNat)
  case atStart => exact ⟨0, by omega, rfl, fun j hj => by omega⟩
  case round =>
    obtain ⟨k, hk, rfl, hN⟩ := hrel
    have HN := Lib.hid hN
    clear hN
    by_cases hlt : k < l.length
    · have hd : decide ((k : Int) < l.length) = true := decide_eq_true (by omega)
      obtain ⟨b, o, rfl, _, _, hck⟩ := HA.out.cellAt hlt
      have hno : ¬ (¬ (0 < k ∧ l.getD k 0 ≤ l.getD (k - 1) 0) ∧ Life.inL (l.getD k 0) all = true) → rises l all = false := fun h => decide_eq_false fun hr => h (hr k hlt)
      have hye : ¬ (0 < k ∧ l.getD k 0 ≤ l.getD (k - 1) 0) ∧ Life.inL (l.getD k 0) all = true → risesTo l all (k + 1) := fun h => allTo_snoc HN.out h
      generalize l.getD k 0 = y at hck hno hye
      have cY := Lib.hid (cI.out y)
      generalize Life.inL y all = q at cY hno hye
      have HNO := Lib.hid hno
      have HYE := Lib.hid hye
      clear hno hye
      rcases Nat.eq_zero_or_pos k with h0 | h0
      · subst h0
        rw [Nat.add_zero] at hck
        cases q with
        | true =>
          go_wp2_with fail
          refine cY.out.mono ?_
          rintro e w1 ⟨rfl, rfl⟩
          go_wp2
          go_round
          case rel => exact ⟨1, by omega, rfl, HYE.out ⟨fun h => by omega, by simp⟩⟩
          case measure => simp [intOf]; omega
        | false =>
          go_wp2_with fail
          refine cY.out.mono ?_
          rintro e w1 ⟨rfl, rfl⟩
          go_wp2
          go_ret
          exact ⟨by rw [HNO.out (fun h => by cases h.2)]; rfl, rfl⟩
      · obtain ⟨m, rfl⟩ : ∃ m, k = m + 1 := ⟨k - 1, by omega⟩
        have d0 : decide (((m + 1 : Nat) : Int) > 0) = true := decide_eq_true (by omega)
        have hm1 : ((m + 1 : Nat) : Int) - 1 = (m : Int) := by omega
        obtain ⟨b', o', e', _, _, hcm⟩ := HA.out.cellAt (j := m) (by omega)
        cases e'
        rw [show m + 1 - 1 = m by omega] at HNO HYE
        generalize l.getD m 0 = z at hcm HNO HYE
        by_cases hzy : y ≤ z
        · have dz : decide (z ≥ y) = true := decide_eq_true hzy
          go_wp2
          go_ret
          exact ⟨by rw [HNO.out (fun h => h.1 ⟨by omega, hzy⟩)]; rfl, rfl⟩
        · have dz : decide (z ≥ y) = false := decide_eq_false hzy
          cases q with
          | true =>
            go_wp2_with fail
            refine cY.out.mono ?_
            rintro e w1 ⟨rfl, rfl⟩
            go_wp2
            go_round
            case rel => exact ⟨m + 2, by omega, by go_num, HYE.out ⟨fun h => by have := h.2; omega, by simp⟩⟩
            case measure => simp [intOf]; omega
          | false =>
            go_wp2_with fail
            refine cY.out.mono ?_
            rintro e w1 ⟨rfl, rfl⟩
            go_wp2
            go_ret
            exact ⟨by rw [HNO.out (fun h => by cases h.2)]; rfl, rfl⟩
    · obtain rfl : k = l.length := by omega
      go_wp2
      go_ret
      exact ⟨by rw [show rises l all = true from decide_eq_true HN.out]; rfl, rfl⟩

set_option maxRecDepth 100000 in
set_option maxHeartbeats 1000000 in
theorem clonen_calls (l : List Int) (v : Value) (w : World) (h : IntsAt w 0 w.heap.size v l) (hl : l.length ≤ 1000000) :
    Calls Try.prog 54 #[v] w fun e w' => (∃ v', e = .returned v' ∧ w'.ownsRow w.heap.size 3 1 v' l.length (ints l)) ∧ Below w.heap.size w w' := by
  obtain ⟨i0, hi0, hz0⟩ := Option.map_eq_some_iff.1 int_info
  simp only [Prod.mk.injEq] at hz0
  obtain ⟨hz0, hz1, hz2⟩ := hz0
  have h0 := h
  obtain ⟨A, c, rfl, hc1, hc2, -⟩ := h.form
  unfold maxLen at hc2
  have heq := Lib.run_eql_slice_nil (P := Try.prog) w 25 3 A l.length c 0 0 Try.underlying25
  rcases A with _ | ad
  · have hl0 : l = [] := by
      rcases l with _ | ⟨x, r⟩
      · rfl
      · obtain ⟨b, o, e, _⟩ := h.cellAt (j := 0) (by simp)
        cases e
    subst hl0
    simp only [List.length_nil] at heq ⊢
    go_enter Try.func54, Try.ntmps54
    go_wp2
    go_ret
    exact ⟨⟨_, rfl, World.ownsRow_nil _ _ _ _⟩, Below.refl _ _⟩
  · go_enter Try.func54, Try.ntmps54
    go_wp2_with (at_builtin
                 refine wpList_append_sl _ rfl (.tmp 5) (.tmp 6) _ rfl w.heap.size 3 i0 _ 1 8 Try.underlying25 hi0 hz0 hz1 hz2 rfl (by omega) (.slice (some ⟨w.heap.size, 0, none⟩) 0 0) 0 [] rfl (World.ownsRow_lit w #[] 0 (Nat.le_refl _) (Nat.zero_le _) rfl) 0 w.heap.size _ l.length (ints l) rfl (Sl.below h0 ((Below.refl _ w).alloc (Nat.le_refl _) _)) (ints_one l) (by unfold maxLen; omega) (by omega) (by simp) ?_
                 intro v1 w1 hv1 hg1 hat1
                 have hB : Below w.heap.size w w1 := ((Below.refl _ w).alloc (Nat.le_refl _) (.cells #[] 3)).grown hg1 (by simp) (fun g hg => by cases hg; exact Nat.le_refl _)
                 clear hg1 hat1)
    have hown : w1.ownsRow w.heap.size 3 1 v1 l.length (ints l) := by simpa using hv1
    obtain ⟨A1, c1, rfl, -⟩ := (IntsAt.of_own hown).form
    clear hv1
    go_wp2
    go_ret
    exact ⟨⟨_, rfl, hown⟩, hB⟩
end Sa
end Go.Proofs.Ythfpfomifebpbaa

namespace Go.Proofs.Ythfpfomifebpbaa
open Go.RowKit Go.Maps
namespace Sa
open It

theorem eq_of_getD {a b : List Int} (hl : a.length = b.length) (h : ∀ j, j < a.length → a.getD j 0 = b.getD j 0) : a = b := by
  apply List.ext_getElem hl
  intro i h1 h2
  have := h i h1
  rwa [getD_get h1, getD_get h2] at this
set_option maxRecDepth 100000 in
set_option maxHeartbeats 2000000 in
theorem equaln_calls (a b : List Int) (va vb : Value) (w : World) (ha : IntsAt w 0 w.heap.size va a) (hb : IntsAt w 0 w.heap.size vb b) :
    Calls Try.prog 32 #[va, vb] w fun e w' => e = .returned (.bool (decide (a = b))) ∧ Below w.heap.size w w' := by
  have hmx : Try.prog.follows .mixedOrders = true := by kernel_rfl
  have HA := Lib.hid ha
  have HB := Lib.hid hb
  obtain ⟨A, c, rfl, hc1, hc2, -⟩ := ha.form
  obtain ⟨A', c', rfl, hc1', hc2', -⟩ := hb.form
  unfold maxLen at hc2 hc2'
  clear ha hb
  by_cases hlen : a.length = b.length
  · have dl : decide ((a.length : Int) = b.length) = true := decide_eq_true (by omega)
    go_enter Try.func32, Try.ntmps32
    go_wp2
    go_loopw [13] (fun i wr => ∃ k : Nat, k ≤ a.length ∧ i = .int .i64 k ∧ (∀ j, j < k → a.getD j 0 = b.getD j 0) ∧ Below w.heap.size w wr) (fun i _ => a.length - (intOf i).toNat)
    case atStart => exact ⟨0, by omega, rfl, (fun j hj => by omega), Below.refl _ _⟩
    case round =>
      obtain ⟨k, hk, rfl, hN, hW⟩ := hrel
      have HN := Lib.hid hN
      clear hN
      by_cases hlt : k < a.length
      · have hd : decide ((k : Int) < a.length) = true := decide_eq_true (by omega)
        obtain ⟨p, o, rfl, _, hp, g1⟩ := (HA.out.mono hW (Nat.le_refl _)).cellAt hlt
        obtain ⟨p', o', rfl, _, hp', g2⟩ := (HB.out.mono hW (Nat.le_refl _)).cellAt (j := k) (by omega)
        have hno : a.getD k 0 ≠ b.getD k 0 → decide (a = b) = false := fun h => decide_eq_false fun e => h (by rw [e])
        have hye : a.getD k 0 = b.getD k 0 → ∀ j, j < k + 1 → a.getD j 0 = b.getD j 0 := fun h => allTo_snoc HN.out h
        generalize a.getD k 0 = x at g1 hno hye
        generalize b.getD k 0 = y at g2 hno hye
        have HNO := Lib.hid hno
        have HYE := Lib.hid hye
        clear hno hye
        have hs := hW.size
        go_wp2
        refine Pu.regionW (fun W' => Below wr.drew.heap.size wr.drew W') hmx (by kernel_rfl) (by kernel_rfl) (Below.refl _ _) rfl ?_
        iterate 9 (first
          | (refine Pu.Walk.off (by rfl) ?_; simp only [Act.put, List.setIfInBounds_toArray, List.set_cons_succ, List.set_cons_zero])
          | (apply Pu.Walk.on (by rfl)
             · intro W1 h1
               have g1a : W1.cell? ⟨p, o + k, none⟩ = some (.int .i64 x) := (Below.cell (p := ⟨p, o + k, none⟩) h1 (by show p < wr.heap.size; omega)).trans g1
               have g2a : W1.cell? ⟨p', o' + k, none⟩ = some (.int .i64 y) := (Below.cell (p := ⟨p', o' + k, none⟩) h1 (by show p' < wr.heap.size; omega)).trans g2
               go_wp2_with fail
               refine ⟨rfl, ?_, h1⟩
               try simp only [Act.put, List.setIfInBounds_toArray, List.set_cons_succ, List.set_cons_zero]
               rfl
             simp only [Act.put, List.setIfInBounds_toArray, List.set_cons_succ, List.set_cons_zero]))
        refine Pu.Walk.nil (fun W1 h1 => ?_)
        have hB1 : Below w.heap.size w W1 := (hW.trans ((Below.refl w.heap.size wr).drew)).trans (h1.mono hW.size)
        clear g1 g2
        by_cases hxy : x = y
        · subst hxy
          go_wp2
          go_roundw
          case rel => exact ⟨k + 1, by omega, by go_num, HYE.out rfl, hB1⟩
          case measure => simp [intOf]; omega
        · have dx : decide (x = y) = false := decide_eq_false hxy
          go_wp2
          go_ret
          exact ⟨by rw [HNO.out hxy]; rfl, hB1⟩
      · obtain rfl : k = a.length := by omega
        go_wp2
        go_ret
        exact ⟨by rw [decide_eq_true (eq_of_getD hlen HN.out)]; rfl, hW⟩
  · have dl : decide ((a.length : Int) = b.length) = false := decide_eq_false (by omega)
    rw [decide_eq_false (fun e : a = b => hlen (by rw [e]))]
    go_enter Try.func32, Try.ntmps32
    go_wp2
    go_ret
    exact ⟨rfl, Below.refl _ _⟩
end Sa
end Go.Proofs.Ythfpfomifebpbaa

namespace Go.Proofs.Ythfpfomifebpbaa
open Go.RowKit Go.Maps
namespace Sa
attribute [local go_sem] Oper.semAt_some
abbrev encI1 (x : Int) : Array Value := #[.int .i64 x]

set_option maxRecDepth 100000 in
set_option maxHeartbeats 2000000 in
theorem values1_in (F : Fence) (n : Nat) (hf : F.fn 76) (hro : F.round = none) (hn : 1 ≤ n) (l Bs n₀ c : Nat) (A : Option Addr) (L : List Int) (hc1 : L.length ≤ c) (hc2 : c ≤ maxLen) (J Jx : List Int → World → Prop)
    (W : World)
    (hY : ∀ pre x W, J pre W → pre.length < L.length → YieldAt F (n - 1) Try.prog l (encI1 x) W fun e W' =>
      (e = .returned (.bool true) ∧ J (pre ++ [x]) W' ∧ Below n₀ W W') ∨ (e = .returned (.bool false) ∧ Jx (pre ++ [x]) W'))
    (hBs : W.cell? ⟨Bs, 0, none⟩ = some (.slice A L.length c)) (hI : IntsAt W 0 n₀ (.slice A L.length c) L) (h0 : J [] W) :
    CallsIn F n Try.prog 76 #[.func (.yield l) #[] #[], .pointer (some ⟨Bs, 0, none⟩)] W fun e W' => (∃ v, e = .returned v) ∧
      ((∃ ys, ys = L ∧ J ys W') ∨ (∃ pre, pre <+: L ∧ Jx pre W')) := by
  unfold maxLen at hc2
  refine callsIn_of_wp Try.func76 rfl hf ?_ hro
  simp only [Try.ntmps76, List.size_toArray, List.length_cons, List.length_nil, Nat.reduceAdd, Nat.reduceSub, Array.replicate_succ, Array.replicate_zero, List.push_toArray, List.append_toArray, List.nil_append, List.cons_append]
  gi_wp2
  gi_loopw [7] (fun i wr => ∃ k : Nat, k ≤ L.length ∧ i = .int .i64 k ∧ J (L.take k) wr ∧ Below n₀ W wr) (fun i _ => L.length - (intOf i).toNat)
  case atStart => exact ⟨0, by omega, rfl, h0, Below.refl _ _⟩
  case round =>
    obtain ⟨k, hk, rfl, hJs, hb⟩ := hrel
    by_cases hlt : k < L.length
    · obtain ⟨b, o, rfl, _, hbn, hi⟩ := (hI.mono hb (Nat.le_refl _)).cellAt hlt
      have hS : L.take k ++ [L.getD k 0] = L.take (k + 1) := by rw [List.take_succ_eq_append_getElem hlt, getD_get hlt]
      obtain ⟨fn, tmps, assign, body, hy, hR⟩ := hY _ (L.getD k 0) _ hJs (by rw [List.length_take]; omega)
      generalize L.getD k 0 = x at hi hS hy hR
      dsimp only [encI1] at hy
      gi_wp2
      refine hR.mono ?_
      rintro e W3 (⟨rfl, hJ3, hk3⟩ | ⟨rfl, hJx3⟩)
      · gi_wp2
        go_roundw
        case rel => exact ⟨k + 1, by omega, by go_num, by rw [← hS]; exact hJ3, hb.trans hk3⟩
        case measure => simp [intOf]; omega
      · gi_wp2
        refine bodyPost_ret (results_none rfl _ _ _) rfl ?_
        exact ⟨⟨_, rfl⟩, .inr ⟨_, by rw [hS]; exact List.take_prefix _ _, hJx3⟩⟩
    · obtain rfl : k = L.length := by omega
      gi_wp2
      go_end0
      exact ⟨⟨_, rfl⟩, .inl ⟨_, rfl, by rw [List.take_length] at hJs; exact hJs⟩⟩

theorem values_calls (A : Option Addr) (n c : Nat) (w : World) :
    Calls Try.prog 52 #[.slice A n c] w fun e w' => e = .returned (.func (.func 76) #[] #[.pointer (some ⟨w.heap.size, 0, none⟩)]) ∧ w.alloc (.cells #[.slice A n c] 25) = w' := by
  go_enter Try.func52, Try.ntmps52
  go_wp2
  go_ret
  exact ⟨rfl, rfl⟩

theorem values_stops (F : Fence) (n : Nat) (hf : F.fn 76) (hro : F.round = none) (hn : 1 ≤ n) (Bs n₀ : Nat) (v : Value) (L : List Int) (w : World) (hBs : Bs < w.heap.size) (hn₀ : n₀ ≤ w.heap.size)
    (hc : w.cell? ⟨Bs, 0, none⟩ = some v) (hI : IntsAt w 0 n₀ v L) :
    SeqStopsK F n Try.prog 76 #[.pointer (some ⟨Bs, 0, none⟩)] encI1 (Below n₀) (fun ys => ys = L) (fun pre => pre <+: L) L.length w := fun l J Jx W hW hJ _ hY h0 => by
  obtain ⟨A, c, rfl, h1, h2, -⟩ := hI.form
  exact values1_in F n hf hro hn l Bs n₀ c A L h1 h2 J Jx W hY ((hW.cell (p := ⟨Bs, 0, none⟩) hBs).trans hc) (hI.mono (hW.mono hn₀) (Nat.le_refl _)) h0

/-- 'for x := range slices.Values(l) { .. }' -/
theorem range_vals {F : Fence} {n : Nat} {g : Operand} {ps : Array Tmp} {assign body : Code} {Q : Exit → Act → World → Prop} {a : Act} {w : World}
    (hro : F.round = none) (hf : F.fn 76) (hn : 2 ≤ n) {Bs n₀ : Nat} {v : Value} {L : List Int} (hg : a.eval g = .func (.func 76) #[] #[.pointer (some ⟨Bs, 0, none⟩)]) (hps : ps.size = 1)
    (hBs : Bs < w.heap.size) (hn₀ : n₀ ≤ w.heap.size) (hc : w.cell? ⟨Bs, 0, none⟩ = some v) (hI : IntsAt w 0 n₀ v L)
    (C : List Int → World → Prop) (Cx : Code → List Int → World → Prop) (hC : OwnFrom w.heap.size C) (hCx : ∀ c, OwnFrom w.heap.size (Cx c)) (h0 : C [] w) (a₁ : Int → Act)
    (hassign : ∀ (l : Nat) (x : Int) (W : World) (K : Act → World → Prop), K (a₁ x) W →
      assign.wpIn (F.inRound l) (n - 1 - 1) Try.prog (Exit.then K (fun _ _ _ => False)) { tmps := (ps.zip (encI1 x)).foldl (fun t (p, v) => t.setIfInBounds p v) a.tmps, defers := [] } W)
    (hbody : ∀ (l : Nat) (pre : List Int) (x : Int) (W : World), C pre W → Below n₀ w W → w.heap.size ≤ W.heap.size → pre.length < L.length → body.wpIn (F.inRound l) (n - 1 - 1) Try.prog (It.rpost w.heap.size n₀ C Cx (pre ++ [x]) W) (a₁ x) W)
    (hdone : ∀ (D : Nat) (W : World), w.heap.size ≤ D → C L W → Below n₀ w W → W.heap[D]? = some (.deferred (some [])) → Q .normal { a with defers := { target := .collected D, args := #[] } :: a.defers } W)
    (hstop : ∀ (D : Nat) (c : Code) (pre : List Int) (W : World), w.heap.size ≤ D → pre <+: L → Cx c pre W → Below n₀ w W → W.heap[D]? = some (.deferred (some [])) → c.wpIn F n Try.prog Q { a with defers := { target := .collected D, args := #[] } :: a.defers } W) :
    (Code.rangeFunc g ps assign body).wpIn F n Try.prog Q a w :=
  wpIn_rangeFunc_ownG hro (by omega) hg hf (enters_of Try.func76 (by kernel_rfl) rfl)
    (values_stops F (n - 1) hf hro (by omega) Bs n₀ v L w hBs hn₀ hc hI) belowK_t (belowK_b hn₀) (Below.refl _ _) (fun _ => hps.symm)
    (fun pre W => C pre W ∧ Below n₀ w W) (fun c pre W => Cx c pre W ∧ Below n₀ w W)
    (OwnFrom.and hC (ownFrom_below hn₀ hn₀)) (fun c => OwnFrom.and (hCx c) (ownFrom_below hn₀ hn₀))
    ⟨h0, Below.refl _ _⟩ a₁ hassign
    (fun l pre x W ⟨hc, hb⟩ hl => wpIn_mono (hbody l pre x W hc hb hb.size hl) (fun e a' W' h => by
      cases e with
      | normal => exact ⟨h.1, h.2.1, h.2.2, hb.trans h.2.1⟩
      | ret => exact ⟨h.1, h.2.2, hb.trans h.2.1⟩
      | exit id => exact ⟨h.1, h.2.2, hb.trans h.2.1⟩
      | goto t => exact ⟨h.1, h.2.2, hb.trans h.2.1⟩
      | panic ch => exact h.elim
      | outgrown => exact h.elim))
    (fun D xs W hD hS ⟨hc, hb⟩ hK => by subst hS; exact hdone D W hD hc hb hK)
    (fun D c pre W hD hp ⟨hc, hb⟩ hK => hstop D c pre W hD hp hc hb hK)
end Sa
end Go.Proofs.Ythfpfomifebpbaa

namespace Go.Proofs.Ythfpfomifebpbaa
open Go.RowKit Go.Maps Go.Sort Go.Shelf
namespace Sa
attribute [local go_sem] Oper.semAt_some
open It

set_option maxRecDepth 100000 in
set_option maxHeartbeats 2000000 in
theorem appendSeq_calls (L : List Int) (Bs : Nat) (v : Value) (w : World) (hBs : Bs < w.heap.size) (hc : w.cell? ⟨Bs, 0, none⟩ = some v) (hI : IntsAt w 0 w.heap.size v L) (hl : L.length ≤ 1000000) :
    Calls Try.prog 90 #[.slice none 0 0, .func (.func 76) #[] #[.pointer (some ⟨Bs, 0, none⟩)]] w fun e w' => (∃ u, e = .returned u ∧ w'.ownsRow w.heap.size 3 1 u L.length (ints L)) ∧ Below w.heap.size w w' := by
  obtain ⟨i0, hi0, hz0⟩ := Option.map_eq_some_iff.1 int_info
  simp only [Prod.mk.injEq] at hz0
  obtain ⟨hz0, hz1, hz2⟩ := hz0
  refine (callsIn_wide (n := 6)).1 ?_
  refine callsIn_of_wp_marks Try.func90 rfl trivial ?_ rfl
  simp only [Try.ntmps90, List.size_toArray, List.length_cons, List.length_nil, Nat.reduceAdd, Nat.reduceSub, Array.replicate_succ, Array.replicate_zero, List.push_toArray, List.append_toArray, List.nil_append, List.cons_append]
  gi_wp2_with fail
  have bx : Boxed (w.alloc (.cells #[.slice none 0 0] 25)) w.heap.size 25 (.slice none 0 0) := Boxed.new w _ _
  have hB1 : Below w.heap.size w (w.alloc (.cells #[.slice none 0 0] 25)) := (Below.refl _ w).alloc (Nat.le_refl _) _
  have hs1 : w.heap.size + 1 = (w.alloc (.cells #[.slice none 0 0] 25)).heap.size := by simp
  generalize w.alloc (.cells #[.slice none 0 0] 25) = w1 at *
  refine range_vals (n := 6) rfl trivial (by omega) (Bs := Bs) (n₀ := w.heap.size) (v := v) (L := L) rfl rfl (by omega) (by omega) ((hB1.cell (p := ⟨Bs, 0, none⟩) hBs).trans hc) (hI.mono hB1 (Nat.le_refl _))
    (fun pre W => ∃ u, Boxed W w.heap.size 25 u ∧ W.ownsRow w.heap.size 3 1 u pre.length (ints pre))
    (fun _ _ _ => False)
    (fun s A B row hs hg hr => by
      obtain ⟨u, h1, h2⟩ := hs
      exact ⟨u, boxed_keep h1 hg (fun r e => (hr r e).2), row_keep h2 hg (fun r e => (hr r e).2)⟩)
    (fun c s A B row hs hg hr => hs)
    ⟨_, bx, World.ownsRow_nil _ _ _ _⟩
    (fun x => { tmps := #[.slice none 0 0, .func (.func 76) #[] #[.pointer (some ⟨Bs, 0, none⟩)], .pointer (some ⟨w.heap.size, 0, none⟩), undef, .slice none 0 0, .int .i64 x, .func (.func 76) #[] #[.pointer (some ⟨Bs, 0, none⟩)], .int .i64 x, undef, undef, undef, undef, undef], defers := [] }) ?assign ?body ?done ?stop
  case assign =>
    intro l x W K hK
    dsimp only [encI1]
    gi_wp2
    exact hK
  case body =>
    rintro l pre x W ⟨u, hbv, hown⟩ hB hsz hlen
    have hcv1 := hbv.cell
    have hfv1 := hbv.frozen
    have hBW : Below w.heap.size w W := hB1.trans hB
    gi_wp2_with (gi_at_builtin
                 refine wpListIn_append_sl _ rfl (.tmp 8) (.tmp 10) _ rfl w.heap.size 3 i0 _ 1 8 Try.underlying25 hi0 hz0 hz1 hz2 rfl (by omega) u pre.length (ints pre) rfl (hown.alloc _) W.heap.size (W.heap.size + 1) _ 1 [.int .i64 x] rfl (Sl.new W #[.int .i64 x] 3 (n := 1) rfl (by unfold maxLen; omega)) (by simp [Value.oneCell']) (by unfold maxLen; omega) (by omega) (by have := hBW.size; simp; omega) ?_
                 intro v1 W2 hv1 hg1 hat1
                 obtain ⟨k1, k2, k3, k4, k5⟩ := hbv.appended (by decide) hown (by have := hBW.size; omega) (by omega) hv1 hg1
                 obtain ⟨g, cap, rfl⟩ := ownsRow_succ hv1
                 have hcv2 := k1.cell
                 have hfv2 := k1.frozen)
    refine ⟨k4.from _, k5, ?_⟩
    dsimp only
    exact ⟨_, k2, by rw [ints_append, List.length_append]; exact k3⟩
  case done =>
    rintro D W hD ⟨u, hbv, hown⟩ hB hK
    have hc0 := hbv.cell
    gi_wp2
    refine ⟨by simp, .inl ⟨_, _, rfl, run_takeDeferred hK, ?_⟩⟩
    refine ⟨_, results_tmp rfl _ _ _, ⟨u, rfl, ?_⟩, below_end (hB1.trans hB) (by omega) hK⟩
    exact row_keep hown (grownBy_putObj' _ D (.deferred none)) (fun r e => by cases e; exact ⟨_, hK, rfl⟩)
  case stop =>
    rintro D c pre W hD hpre h hB hK
    exact h.elim
end Sa
end Go.Proofs.Ythfpfomifebpbaa

namespace Go.Proofs.Ythfpfomifebpbaa
open Go.RowKit Go.Maps Go.Sort Go.Shelf
namespace Sa
open It

theorem collect_calls (L : List Int) (Bs : Nat) (v : Value) (w : World) (hBs : Bs < w.heap.size) (hc : w.cell? ⟨Bs, 0, none⟩ = some v) (hI : IntsAt w 0 w.heap.size v L) (hl : L.length ≤ 1000000) :
    Calls Try.prog 74 #[.func (.func 76) #[] #[.pointer (some ⟨Bs, 0, none⟩)]] w fun e w' => (∃ u, e = .returned u ∧ w'.ownsRow w.heap.size 3 1 u L.length (ints L)) ∧ Below w.heap.size w w' := by
  have cA := Lib.hid (appendSeq_calls L Bs v w hBs hc hI hl)
  clear hc hI
  go_enter Try.func74, Try.ntmps74
  go_wp2_with fail
  refine cA.out.mono ?_
  rintro e w1 ⟨⟨u, rfl, hu⟩, hb⟩
  obtain ⟨A1, c1, rfl, -⟩ := (IntsAt.of_own hu).form
  go_wp2
  go_ret
  exact ⟨⟨_, rfl, hu⟩, hb⟩

def sorted (L : List Int) : List Int := L.mergeSort fun x y => decide (x ≤ y)
theorem sorted_length (L : List Int) : (sorted L).length = L.length := by simp [sorted]
theorem ints_encZ (L : List Int) : ints L = L.map encZ := rfl

set_option maxHeartbeats 1000000 in
theorem sorted_calls (L : List Int) (Bs : Nat) (v : Value) (w : World) (hBs : Bs < w.heap.size) (hc : w.cell? ⟨Bs, 0, none⟩ = some v) (hI : IntsAt w 0 w.heap.size v L) (hl : L.length ≤ 1000000) :
    Calls Try.prog 51 #[.func (.func 76) #[] #[.pointer (some ⟨Bs, 0, none⟩)]] w fun e w' => (∃ u, e = .returned u ∧ w'.ownsRow w.heap.size 3 1 u L.length (ints (sorted L))) ∧ Below w.heap.size w w' := by
  have cC := Lib.hid (collect_calls L Bs v w hBs hc hI hl)
  clear hc hI
  go_enter Try.func51, Try.ntmps51
  go_wp2_with fail
  refine cC.out.mono ?_
  rintro e w1 ⟨⟨u, rfl, hu⟩, hb⟩
  rcases hu.2 with ⟨rfl, hz⟩ | ⟨gb, cap, cur, rfl, hbase, hgb, r1, r2, r3, r4⟩
  · have hss : L = [] := List.eq_nil_of_length_eq_zero hz
    subst hss
    have cS := Lib.hid (AnyM.slices_Sort_int_none Try.sort75 none 0 w1)
    go_wp2_with fail
    refine cS.out.mono ?_
    rintro e w2 ⟨rfl, rfl⟩
    go_wp2
    go_ret
    exact ⟨⟨_, rfl, by simpa [sorted] using hu⟩, hb⟩
  · have hH : Holds encZ w1 gb 0 L.toArray := holds_of_block_i hgb (by rw [← ints_encZ]; simpa using r4)
    have hgl : gb < w1.heap.size := (Array.getElem?_eq_some_iff.1 hgb).1
    have cS := Lib.hid (AnyM.slices_Sort_int Try.sort75 gb 0 cap L w1 hH hgl (by omega))
    go_wp2_with fail
    refine cS.out.mono ?_
    rintro e w2 ⟨rfl, nn, os, rfl⟩
    go_wp2
    go_ret
    refine ⟨⟨_, rfl, ?_⟩, hb.grown (grownBy_sorted_i _) hb.size (fun j hj => by cases hj; exact hbase)⟩
    exact ownsRow_sorted_i (by simp) hbase hgb r1 r2 r3
end Sa
end Go.Proofs.Ythfpfomifebpbaa

namespace Go.Proofs.Ythfpfomifebpbaa
open Go.RowKit Go.Maps
namespace Sa
open It

/-- what May asks of every state -/
def okHead (s : Saga) : Bool :=
  decide (1 ≤ s.order) && decide (s.order ≤ 1099511627776) && decide (0 < (visit s.first s.regions).length) && decide (0 < s.want.length) && may s.want && decide ((s.got.length : Int) = s.regions) && mayGot s && decide (1 ≤ s.asked) && decide (s.asked ≤ s.regions)
def bodyAt (s : Saga) (st : Int) : Bool :=
  if st = 1 then !decide ((missing s.want s.got).length = 0) && decide (s.pending = ((visit s.first s.regions).drop (s.asked - 1).toNat).take 1) && rises (holders s.got) (sorted ((visit s.first s.regions).take (s.asked - 1).toNat))
  else if st = 2 ∨ st = 8 ∨ st = 10 then decide ((missing s.want s.got).length = 0) && decide (s.pending.length = 0) && !s.cancelled
  else if st = 7 ∨ st = 9 then decide ((missing s.want s.got).length = 0) && !decide (s.pending.length = 0) && !s.cancelled && rises s.pending (holders s.got)
  else if st = 4 then !decide (s.pending.length = 0) && decide (s.pending = holders s.got)
  else if st = 3 ∨ st = 5 then decide ((holders s.got).length = 0) && decide (s.pending.length = 0) && !s.cancelled && (s.waits == decide (st = 3))
  else if st = 6 then decide ((holders s.got).length = 0) && decide (s.pending.length = 0) && s.cancelled
  else false
def bodyOk (s : Saga) : Bool := bodyAt s s.state
def mayS (s : Saga) : Bool := okHead s && bodyOk s

set_option maxRecDepth 100000 in
set_option maxHeartbeats 4000000 in
theorem may_bad (s : Saga) (vw vg vp : Value) (w : World) (h : Parts w 0 w.heap.size s vw vg vp) (hF : Fit s) (hbad : okHead s = false) :
    Calls Try.prog 26 #[.agg (sagaC s vw vg vp)] w fun e w' => e = .returned (.bool false) ∧ Below w.heap.size w w' := by
  have cV := Lib.hid (fun W => visit_calls s.first s.regions W)
  have cM := Lib.hid (fun W (hb : Below w.heap.size w W) => may_calls s.want vw W (h.later hb).want hF.want)
  have cG := Lib.hid (fun W (hb : Below w.heap.size w W) => maygot_calls s vw vg vp W (h.later hb) hF)
  obtain ⟨A, c, rfl, -⟩ := h.want.form
  obtain ⟨A', c', rfl, hc1, hc2⟩ := h.got.form
  obtain ⟨A2, c2, rfl, -⟩ := h.pend.form
  unfold maxLen at hc2
  clear h hF
  unfold okHead at hbad
  unfold sagaC at cG ⊢
  have hB := (Below.refl _ w).alloc (Nat.le_refl _) (.cells #[.int .i64 s.order, .int .i64 s.first, .int .i64 s.regions, .slice A s.want.length c, .bool s.waits, .int .i64 s.state, .int .i64 s.asked, .slice A' s.got.length c', .slice A2 s.pending.length c2, .bool s.cancelled] 27)
  have hO := Ob.new w 27 #[.int .i64 s.order, .int .i64 s.first, .int .i64 s.regions, .slice A s.want.length c, .bool s.waits, .int .i64 s.state, .int .i64 s.asked, .slice A' s.got.length c', .slice A2 s.pending.length c2, .bool s.cancelled]
  generalize visit s.first s.regions = vs at cV hbad
  generalize may s.want = mw at cM hbad
  generalize mayGot s = mg at cG hbad
  go_enter Try.func26, Try.ntmps26
  go_wp2_with fail
  refine (cV.out _).mono ?_
  rintro e w1 ⟨⟨v1, rfl, hv1⟩, hb1⟩
  have hO1 := hO.same hb1
  have hB1 := hB.trans (hb1.mono hB.size)
  obtain ⟨A5, c5, rfl, -⟩ := (IntsAt.of_own hv1).form
  obtain ⟨g0, g1, g2, g3, g4, g5, g6, g7, g8, g9⟩ := ob_ten hO1
  clear hO hB hb1 cV
  by_cases h0 : s.order < 1
  · have d0 : decide (s.order < 1) = true := by first | exact decide_eq_true (by omega) | exact decide_eq_false (by omega)
    go_wp2_with fail
    go_ret
    exact ⟨rfl, hB1⟩
  have d0 : decide (s.order < 1) = false := by first | exact decide_eq_true (by omega) | exact decide_eq_false (by omega)
  by_cases h1 : s.order > 1099511627776
  · have d1 : decide (s.order > 1099511627776) = true := by first | exact decide_eq_true (by omega) | exact decide_eq_false (by omega)
    go_wp2_with fail
    go_ret
    exact ⟨rfl, hB1⟩
  have d1 : decide (s.order > 1099511627776) = false := by first | exact decide_eq_true (by omega) | exact decide_eq_false (by omega)
  by_cases h2 : vs.length = 0
  · have d2 : decide ((vs.length : Int) = 0) = true := by first | exact decide_eq_true (by omega) | exact decide_eq_false (by omega)
    go_wp2_with fail
    go_ret
    exact ⟨rfl, hB1⟩
  have d2 : decide ((vs.length : Int) = 0) = false := by first | exact decide_eq_true (by omega) | exact decide_eq_false (by omega)
  by_cases h3 : s.want.length = 0
  · have d3 : decide ((s.want.length : Int) = 0) = true := by first | exact decide_eq_true (by omega) | exact decide_eq_false (by omega)
    go_wp2_with fail
    go_ret
    exact ⟨rfl, hB1⟩
  have d3 : decide ((s.want.length : Int) = 0) = false := by first | exact decide_eq_true (by omega) | exact decide_eq_false (by omega)
  rcases mw with _ | _
  · go_wp2_with fail
    refine (cM.out _ hB1).mono ?_
    rintro e w2 ⟨rfl, hb2⟩
    have hB2 := hB1.trans (hb2.mono hB1.size)
    obtain ⟨g0, g1, g2, g3, g4, g5, g6, g7, g8, g9⟩ := ob_ten (hO1.same hb2)
    have hO2 := hO1.same hb2
    go_wp2_with (refine wpList_load_obg (by rfl) _ _ rfl rfl _ hO2 Try.underlying27 rfl (by kernel_rfl) ?_)
    go_ret
    exact ⟨rfl, hB2⟩
  by_cases h5 : (s.got.length : Int) ≠ s.regions
  · have d5 : decide ((s.got.length : Int) = s.regions) = false := by first | exact decide_eq_true (by omega) | exact decide_eq_false (by omega)
    go_wp2_with fail
    refine (cM.out _ hB1).mono ?_
    rintro e w2 ⟨rfl, hb2⟩
    have hB2 := hB1.trans (hb2.mono hB1.size)
    obtain ⟨g0, g1, g2, g3, g4, g5, g6, g7, g8, g9⟩ := ob_ten (hO1.same hb2)
    have hO2 := hO1.same hb2
    go_wp2_with (refine wpList_load_obg (by rfl) _ _ rfl rfl _ hO2 Try.underlying27 rfl (by kernel_rfl) ?_)
    go_ret
    exact ⟨rfl, hB2⟩
  have d5 : decide ((s.got.length : Int) = s.regions) = true := by first | exact decide_eq_true (by omega) | exact decide_eq_false (by omega)
  rcases mg with _ | _
  · go_wp2_with fail
    refine (cM.out _ hB1).mono ?_
    rintro e w2 ⟨rfl, hb2⟩
    have hB2 := hB1.trans (hb2.mono hB1.size)
    obtain ⟨g0, g1, g2, g3, g4, g5, g6, g7, g8, g9⟩ := ob_ten (hO1.same hb2)
    have hO2 := hO1.same hb2
    go_wp2_with (refine wpList_load_obg (by rfl) _ _ rfl rfl _ hO2 Try.underlying27 rfl (by kernel_rfl) ?_)
    refine (cG.out _ hB2).mono ?_
    rintro e w3 ⟨rfl, hb3⟩
    have hB3 := hB2.trans (hb3.mono hB2.size)
    obtain ⟨g0, g1, g2, g3, g4, g5, g6, g7, g8, g9⟩ := ob_ten (hO2.same hb3)
    go_wp2
    go_ret
    exact ⟨rfl, hB3⟩
  by_cases h7 : s.asked < 1
  · have d7 : decide (s.asked < 1) = true := by first | exact decide_eq_true (by omega) | exact decide_eq_false (by omega)
    go_wp2_with fail
    refine (cM.out _ hB1).mono ?_
    rintro e w2 ⟨rfl, hb2⟩
    have hB2 := hB1.trans (hb2.mono hB1.size)
    obtain ⟨g0, g1, g2, g3, g4, g5, g6, g7, g8, g9⟩ := ob_ten (hO1.same hb2)
    have hO2 := hO1.same hb2
    go_wp2_with (refine wpList_load_obg (by rfl) _ _ rfl rfl _ hO2 Try.underlying27 rfl (by kernel_rfl) ?_)
    refine (cG.out _ hB2).mono ?_
    rintro e w3 ⟨rfl, hb3⟩
    have hB3 := hB2.trans (hb3.mono hB2.size)
    obtain ⟨g0, g1, g2, g3, g4, g5, g6, g7, g8, g9⟩ := ob_ten (hO2.same hb3)
    go_wp2
    go_ret
    exact ⟨rfl, hB3⟩
  have d7 : decide (s.asked < 1) = false := by first | exact decide_eq_true (by omega) | exact decide_eq_false (by omega)
  by_cases h8 : s.asked > s.regions
  · have d8 : decide (s.asked > s.regions) = true := by first | exact decide_eq_true (by omega) | exact decide_eq_false (by omega)
    go_wp2_with fail
    refine (cM.out _ hB1).mono ?_
    rintro e w2 ⟨rfl, hb2⟩
    have hB2 := hB1.trans (hb2.mono hB1.size)
    obtain ⟨g0, g1, g2, g3, g4, g5, g6, g7, g8, g9⟩ := ob_ten (hO1.same hb2)
    have hO2 := hO1.same hb2
    go_wp2_with (refine wpList_load_obg (by rfl) _ _ rfl rfl _ hO2 Try.underlying27 rfl (by kernel_rfl) ?_)
    refine (cG.out _ hB2).mono ?_
    rintro e w3 ⟨rfl, hb3⟩
    have hB3 := hB2.trans (hb3.mono hB2.size)
    obtain ⟨g0, g1, g2, g3, g4, g5, g6, g7, g8, g9⟩ := ob_ten (hO2.same hb3)
    go_wp2
    go_ret
    exact ⟨rfl, hB3⟩
  have d8 : decide (s.asked > s.regions) = false := by first | exact decide_eq_true (by omega) | exact decide_eq_false (by omega)
  exfalso
  revert hbad
  simp only [Bool.and_true, Bool.and_eq_false_iff, decide_eq_false_iff_not]
  omega
end Sa
end Go.Proofs.Ythfpfomifebpbaa

namespace Go.Proofs.Ythfpfomifebpbaa
open Go.RowKit

theorem step_append_sl {P : Program} (w : World) {ops : Array Oper} {o : Oper} {a : Act} {K : Act → World → Prop} {Q : Exit → Act → World → Prop} {E : Prop} (hgd : o.guard = none) (s x : Operand) (t : TypeId)
    (ho : o.op = .call { callee := .builtin .append, args := #[s, x], argTypes := #[t, t] })
    (base : Nat) (e : TypeId) (i : TypeInfo) (z : Value) (size bytes : Nat) (ht : P.underlying t = some (.slice e)) (hi : P.info? e = some i) (hz : i.zero = some z)
    (hsize : i.size = size) (hby : i.bytes = bytes) (hzs : z.cells.size = size) (hsz : 0 < size)
    (v : Value) (n : Nat) (xs : List Value) (hs : a.eval s = v) (hown : w.ownsRow base e size v n xs)
    (lo B : Nat) (u : Value) (m : Nat) (ys : List Value) (hx : a.eval x = u) (hu : Sl w lo B size u m ys) (h1 : ∀ y ∈ ys, y.oneCell' = true)
    (h63 : n + m ≤ maxLen) (hbytes : (n + m) * bytes ≤ 140737488355328) (hbase : base ≤ w.heap.size)
    (h : ∀ v' w', w'.ownsRow base e size v' (n + m) (xs ++ ys) → w.grownBy w' v.ownBlock → (v'.ownBlock = v.ownBlock ∨ v'.ownBlock = some w.heap.size) → K (a.put o.dst v') w') :
    if Region.wanted o (yielded ops a.tmps) = true then Oper.wp P o a w K Q else E := by
  have hw : Region.wanted o (yielded ops a.tmps) = true := by simp [Region.wanted, hgd]
  rw [if_pos hw]
  obtain ⟨v', w', hrun, h2, h3, h4⟩ := run_append_sl (P := P) w base t o.type e i z size bytes ht hi hz hsize hby hzs hsz v n xs hown lo B u m ys hu h1 h63 hbytes hbase
  unfold Oper.wp execOp
  simp only [ho, resolve, invoke, builtin, Sem.run_bind, Sem.run_pure, Result.andThen_ok, List.map_toArray, List.map_cons, List.map_nil, hs, hx, hrun]
  exact h v' w' h2 h3 h4
theorem Sl.zero {w : World} {lo B size c : Nat} {A : Option Addr} (h : c ≤ maxLen) : Sl w lo B size (.slice A 0 c) 0 [] := ⟨by simp, _, _, rfl, Nat.zero_le _, h, fun h => by omega⟩
/-- a slice's first k elements -/
theorem Sl.upTo {w : World} {lo B size n k c : Nat} {A : Option Addr} {xs : List Value} (h : Sl w lo B size (.slice A n c) n xs) (hk : k ≤ n) : Sl w lo B size (.slice A k c) k (xs.take (k * size)) := by
  obtain ⟨A', c', e, h1, h2, h3⟩ := h.at_
  cases e
  have hl := h.len
  have hm : k * size ≤ n * size := Nat.mul_le_mul_right _ hk
  refine ⟨by rw [List.length_take]; omega, _, _, rfl, by omega, h2, fun hn => ?_⟩
  obtain ⟨b, o, e, h4, h5, h6⟩ := h3 (by omega)
  exact ⟨b, o, e, h4, h5, fun j hj => by rw [h6 j (by omega), List.getElem?_take, if_pos hj]⟩
/-- a slice from its element k on: at its very end the address stays -/
theorem Sl.onFrom {w : World} {lo B size n k c : Nat} {b o : Nat} {xs : List Value} (h : Sl w lo B size (.slice (some ⟨b, o, none⟩) n c) n xs) (hk : k ≤ n) :
    Sl w lo B size (.slice (if c = k then some ⟨b, o, none⟩ else some ⟨b, o + k * size, none⟩) (n - k) (c - k)) (n - k) (xs.drop (k * size)) := by
  obtain ⟨A', c', e, h1, h2, h3⟩ := h.at_
  cases e
  have hl := h.len
  have hm : (n - k) * size + k * size = n * size := by rw [← Nat.add_mul]; congr 1; omega
  refine ⟨by rw [List.length_drop]; omega, _, _, rfl, by omega, by omega, fun hn => ?_⟩
  obtain ⟨b', o', e, h4, h5, h6⟩ := h3 (by omega)
  cases e
  rw [if_neg (by omega)]
  exact ⟨_, _, rfl, h4, h5, fun j hj => by rw [Nat.add_assoc, h6 _ (by omega), List.getElem?_drop]⟩
end Go.Proofs.Ythfpfomifebpbaa

namespace Go.Proofs.Ythfpfomifebpbaa
open Go.RowKit Go.Maps
namespace Sa
open It

structure Head (s : Saga) : Prop where
  o1 : 1 ≤ s.order
  o2 : s.order ≤ 1099511627776
  f1 : 0 ≤ s.first
  f2 : s.first < s.regions
  r1 : 1 ≤ s.regions
  r2 : s.regions ≤ 8
  want : 0 < s.want.length
  may : may s.want = true
  got : (s.got.length : Int) = s.regions
  kept : mayGot s = true
  a1 : 1 ≤ s.asked
  a2 : s.asked ≤ s.regions
theorem head_of {s : Saga} (h : okHead s = true) : Head s := by
  unfold okHead at h
  simp only [Bool.and_eq_true, decide_eq_true_eq] at h
  obtain ⟨⟨⟨⟨⟨⟨⟨⟨h1, h2⟩, h3⟩, h4⟩, h5⟩, h6⟩, h7⟩, h8⟩, h9⟩ := h
  have hv : ¬ (s.regions < 1 ∨ 8 < s.regions ∨ s.first < 0 ∨ s.regions ≤ s.first) := fun hb => by rw [visit_none hb] at h3; simp at h3
  exact ⟨h1, h2, by omega, by omega, by omega, by omega, h4, h5, h6, h7, h8, h9⟩
theorem Head.visit {s : Saga} (h : Head s) : ((visit s.first s.regions).length : Int) = s.regions := by
  have := h.f1
  have := h.f2
  have := h.r1
  have := h.r2
  rw [visit_some (by omega)]
  simp
  omega

theorem len0 {α : Type} (l : List α) : ((((l.length : Int) == 0) = true ∧ decide ((l.length : Int) = 0) = true ∧ decide (l.length = 0) = true)) ∨ ((((l.length : Int) == 0) = false ∧ decide ((l.length : Int) = 0) = false ∧ decide (l.length = 0) = false)) := by
  by_cases h : l.length = 0
  · exact .inl ⟨by rw [beq_iff_eq]; omega, decide_eq_true (by omega), decide_eq_true h⟩
  · exact .inr ⟨by rw [beq_eq_false_iff_ne]; omega, decide_eq_false (by omega), decide_eq_false h⟩

theorem take_ints {w : World} {lo B a : Nat} {v : Value} {l : List Int} (h : Sl w lo B 1 v a ((ints l).take (a * 1))) (ha : a ≤ l.length := by omega) : IntsAt w lo B v (l.take a) := by
  unfold IntsAt
  rw [List.length_take, Nat.min_eq_left ha, show ints (l.take a) = (ints l).take (a * 1) by rw [Nat.mul_one]; simp [ints, List.map_take]]
  exact h

set_option maxRecDepth 100000 in
set_option maxHeartbeats 8000000 in
theorem may_good (s : Saga) (vw vg vp : Value) (w : World) (h : Parts w 0 w.heap.size s vw vg vp) (hF : Fit s) (hok : okHead s = true) :
    Calls Try.prog 26 #[.agg (sagaC s vw vg vp)] w fun e w' => e = .returned (.bool (bodyOk s)) ∧ Below w.heap.size w w' := by
  have hmx : Try.prog.follows .mixedOrders = true := by kernel_rfl
  have hh := head_of hok
  have cV := Lib.hid (fun W => visit_calls s.first s.regions W)
  have cM := Lib.hid (fun W (hb : Below w.heap.size w W) => may_calls s.want vw W (h.later hb).want hF.want)
  have cG := Lib.hid (fun W (hb : Below w.heap.size w W) => maygot_calls s vw vg vp W (h.later hb) hF)
  have cH := Lib.hid (fun W (hb : Below w.heap.size w W) => holders_calls s vw vg vp W (h.later hb) (by have := hh.got; have := hh.r2; omega))
  have cL := Lib.hid (fun W (hb : Below w.heap.size w W) => sagamissing_calls s vw vg vp W (h.later hb) hF)
  have HP := Lib.hid (fun W (hb : Below w.heap.size w W) => (h.later hb).pend)
  obtain ⟨A, c, rfl, -⟩ := h.want.form
  obtain ⟨A', c', rfl, hc1, hc2⟩ := h.got.form
  obtain ⟨A2, c2, rfl, hd1, hd2, -⟩ := h.pend.form
  unfold maxLen at hc2 hd2
  clear h hF
  rw [hh.may] at cM
  rw [hh.kept] at cG
  have HH := Lib.hid hh
  have hvl := hh.visit
  have d0 : decide (s.order < 1) = false := decide_eq_false (by have := hh.o1; omega)
  have d1 : decide (s.order > 1099511627776) = false := decide_eq_false (by have := hh.o2; omega)
  have d2 : decide (((visit s.first s.regions).length : Int) = 0) = false := decide_eq_false (by have := hh.r1; omega)
  have d3 : decide ((s.want.length : Int) = 0) = false := decide_eq_false (by have := hh.want; omega)
  have d5 : decide ((s.got.length : Int) = s.regions) = true := decide_eq_true hh.got
  have d7 : decide (s.asked < 1) = false := decide_eq_false (by have := hh.a1; omega)
  have d8 : decide (s.asked > s.regions) = false := decide_eq_false (by have := hh.a2; omega)
  clear hok
  unfold sagaC at cG cH cL ⊢
  have hB := (Below.refl _ w).alloc (Nat.le_refl _) (.cells #[.int .i64 s.order, .int .i64 s.first, .int .i64 s.regions, .slice A s.want.length c, .bool s.waits, .int .i64 s.state, .int .i64 s.asked, .slice A' s.got.length c', .slice A2 s.pending.length c2, .bool s.cancelled] 27)
  have hO := Ob.new w 27 #[.int .i64 s.order, .int .i64 s.first, .int .i64 s.regions, .slice A s.want.length c, .bool s.waits, .int .i64 s.state, .int .i64 s.asked, .slice A' s.got.length c', .slice A2 s.pending.length c2, .bool s.cancelled]
  generalize hvs : visit s.first s.regions = vs at cV d2 hvl
  have HVS := Lib.hid hvs
  have HVL := Lib.hid hvl
  have hn2 : ¬ vs.length = 0 := fun e => by have := hh.r1; omega
  have hn3 : ¬ s.want.length = 0 := fun e => by have := hh.want; omega
  have hn5 : ¬ ((s.got.length : Int) ≠ s.regions) := fun e => e hh.got
  have hn0 : ¬ s.order < 1 := by have := hh.o1; omega
  have hn1 : ¬ s.order > 1099511627776 := by have := hh.o2; omega
  have hn7 : ¬ s.asked < 1 := by have := hh.a1; omega
  have hn8 : ¬ s.asked > s.regions := by have := hh.a2; omega
  have hb2 : ((vs.length : Int) == 0) = false := by rw [beq_eq_false_iff_ne]; omega
  have hb3 : ((s.want.length : Int) == 0) = false := by rw [beq_eq_false_iff_ne]; omega
  clear hvs hvl hh
  go_enter Try.func26, Try.ntmps26
  go_wp2_with fail
  refine (cV.out _).mono ?_
  rintro e w1 ⟨⟨v1, rfl, hv1⟩, hb1⟩
  have hO1 := hO.same hb1
  have hB1 := hB.trans (hb1.mono hB.size)
  obtain ⟨A5, c5, rfl, hv5, hv6, -⟩ := (IntsAt.of_own hv1).form
  unfold maxLen at hv6
  have hv1 := ownsRow_wide hv1 hB.size
  obtain ⟨g0, g1, g2, g3, g4, g5, g6, g7, g8, g9⟩ := ob_ten hO1
  clear hO hB hb1 cV
  go_wp2_with fail
  refine (cM.out _ hB1).mono ?_
  rintro e w2 ⟨rfl, hb2⟩
  have hB2 := hB1.trans (hb2.mono hB1.size)
  have hO2 := hO1.same hb2
  have hv2 := row_later hv1 hb2
  obtain ⟨g0, g1, g2, g3, g4, g5, g6, g7, g8, g9⟩ := ob_ten hO2
  go_wp2_with (refine wpList_load_obg (by rfl) _ _ rfl rfl _ hO2 Try.underlying27 rfl (by kernel_rfl) ?_)
  refine (cG.out _ hB2).mono ?_
  rintro e w3 ⟨rfl, hb3⟩
  have hB3 := hB2.trans (hb3.mono hB2.size)
  have hO3 := hO2.same hb3
  have hv3 := row_later hv2 hb3
  clear hO1 hO2 hv1 hv2 hB1 hB2 hb2 hb3
  obtain ⟨g0, g1, g2, g3, g4, g5, g6, g7, g8, g9⟩ := ob_ten hO3
  have HD := Lib.hid hB3.drew
  have hOD : Ob w3.drew w.heap.size 27 _ := hO3
  have HV3 := Lib.hid (show w3.drew.ownsRow w.heap.size 3 1 _ vs.length (ints vs) from hv3)
  go_wp2
  refine Pu.regionM [(0, false), (2, false), (1, true), (3, true), (4, false), (5, false), (6, false), (7, false)] (fun V => Ob V w.heap.size 27 #[.int .i64 s.order, .int .i64 s.first, .int .i64 s.regions, .slice A s.want.length c, .bool s.waits, .int .i64 s.state, .int .i64 s.asked, .slice A' s.got.length c', .slice A2 s.pending.length c2, .bool s.cancelled]) hmx (by kernel_rfl) (by kernel_rfl) (by kernel_rfl) hOD rfl ?_
  simp only [Pu.named, List.filterMap_cons, List.filterMap_nil, List.getElem?_toArray, List.getElem?_cons_succ, List.getElem?_cons_zero, Option.map_some]
  iterate 2 (
    apply Pu.WalkM.on (by rfl)
    · intro V hV
      go_wp2_with (refine wpList_load_obg (by rfl) _ _ rfl rfl _ hV Try.underlying27 rfl (by kernel_rfl) ?_)
      refine ⟨rfl, ?_, rfl⟩
      try simp only [Act.put, List.setIfInBounds_toArray, List.set_cons_succ, List.set_cons_zero]
      rfl
    simp only [Act.put, List.setIfInBounds_toArray, List.set_cons_succ, List.set_cons_zero])
  refine Pu.WalkM.make (by rfl) ?_
  rintro W rfl
  go_wp2_with (go_at_call 27; refine (cH.out _ HD.out).mono ?_; rintro e W2 ⟨⟨vh, rfl, hvh⟩, hb4⟩)
  have HD2 := Lib.hid (HD.out.trans (hb4.mono HD.out.size))
  have HO4 := Lib.hid (hOD.same hb4)
  have HV4 := Lib.hid (row_later HV3.out hb4)
  have HVH := Lib.hid (ownsRow_wide hvh HD.out.size)
  obtain ⟨A7, c7, rfl, -⟩ := (IntsAt.of_own hvh).form
  clear hvh hb4
  refine ⟨rfl, (.slice A7 (holders s.got).length c7), _, (fun W => W = W2), ?_, rfl, (fun W h => by rw [h]; exact HO4.out), (.inr (fun _ h => h)), ?_⟩
  · simp only [Act.put, List.setIfInBounds_toArray, List.set_cons_succ, List.set_cons_zero]
  simp only [Act.put, List.setIfInBounds_toArray, List.set_cons_succ, List.set_cons_zero]
  refine Pu.WalkM.make (by rfl) ?_
  rintro W rfl
  go_wp2_with (go_at_call 50; refine (cL.out _ HD2.out).mono ?_; rintro e W3 ⟨⟨vm, rfl, hvm⟩, hb5⟩)
  have HD3 := Lib.hid (HD2.out.trans (hb5.mono HD2.out.size))
  have HO5 := Lib.hid (HO4.out.same hb5)
  have HV5 := Lib.hid (row_later HV4.out hb5)
  have HVH5 := Lib.hid (row_later HVH.out hb5)
  obtain ⟨A8, c8, rfl, -⟩ := (ItemsAt.of_own hvm).form
  clear hvm hb5
  refine ⟨rfl, (.slice A8 (missing s.want s.got).length c8), _, (fun W => W = W3), ?_, rfl, (fun W h => by rw [h]; exact HO5.out), (.inr (fun _ h => h)), ?_⟩
  · simp only [Act.put, List.setIfInBounds_toArray, List.set_cons_succ, List.set_cons_zero]
  simp only [Act.put, List.setIfInBounds_toArray, List.set_cons_succ, List.set_cons_zero]
  iterate 4 (
    apply Pu.WalkM.on (by rfl)
    · intro V hV
      go_wp2
      refine ⟨rfl, ?_, rfl⟩
      try simp only [Act.put, List.setIfInBounds_toArray, List.set_cons_succ, List.set_cons_zero]
      rfl
    simp only [Act.put, List.setIfInBounds_toArray, List.set_cons_succ, List.set_cons_zero])
  refine Pu.WalkM.nil ?_
  rintro V rfl
  obtain ⟨k0, k1, k2, k3, k4, k5, k6, k7, k8, k9⟩ := ob_ten HO5.out
  clear g0 g1 g2 g3 g4 g5 g6 g7 g8 g9 hO3 hv3 hOD d0 d1 d2 d3 d5 d7 d8
  have hh := HH.out
  have hh := HH.out
  have hbo : bodyOk s = bodyAt s s.state := rfl
  unfold bodyAt at hbo
  rw [HVS.out] at hbo
  have hvl := HVL.out
  have hq := hh.a2
  have hq8 := hh.r2
  have hpend := HP.out _ HD3.out
  obtain ⟨a, ha⟩ : ∃ a : Nat, s.asked = (a : Int) + 1 := ⟨(s.asked - 1).toNat, by have := hh.a1; omega⟩
  have hav : a < vs.length := by omega
  have hv8 : vs.length ≤ 8 := by omega
  clear cM cG cH cL HP HH HVS HVL hvl hq hq8 hn2 hn3 hn5 hn0 hn1 hn7 hn8 hb2 hb3 hh
  generalize s.asked = q at ha HO5 k6 hbo ⊢
  subst ha
  rw [show ((a : Int) + 1 - 1).toNat = a by omega] at hbo
  generalize s.state = st at HO5 k5 hbo ⊢
  have hml : (((missing s.want s.got).length : Int) == 0) = decide ((missing s.want s.got).length = 0) := by
    by_cases h : (missing s.want s.got).length = 0
    · rw [decide_eq_true h, beq_iff_eq]; omega
    · rw [decide_eq_false h, beq_eq_false_iff_ne]; omega
  rw [hml]
  clear hml
  generalize decide ((missing s.want s.got).length = 0) = M at hbo ⊢
  have hvh := (IntsAt.of_own HVH5.out).wide (Nat.zero_le _) (Nat.le_refl _)
  have hva := (IntsAt.of_own HV5.out).wide (Nat.zero_le _) (Nat.le_refl _)
  obtain ⟨bb, oo, rfl, -, hbb, -⟩ := hva.cellAt (j := a) hav
  have cEq := Lib.hid (equaln_calls s.pending (holders s.got) _ _ V hpend hvh)
  have cRi := Lib.hid (rises_calls s.pending (holders s.got) _ _ 0 _ 0 _ V hpend hvh)
  have HPE := Lib.hid hpend
  have HVHA := Lib.hid hvh
  have HVA := Lib.hid hva
  have HHO := Lib.hid (len0 (holders s.got))
  have HQU := Lib.hid (len0 s.pending)
  clear hpend hvh hva
  generalize holders s.got = H at HVH5 hbo cEq cRi HVHA HHO ⊢
  by_cases e1 : st = 1
  · subst e1
    rw [if_pos rfl] at hbo
    have HBO := Lib.hid hbo
    clear hbo cEq cRi
    have htk := Sl.upTo HVA.out (show a ≤ vs.length by omega)
    have htn := Sl.onFrom HVA.out (show a ≤ vs.length by omega)
    have cV1 := Lib.hid (fun W => values_calls (some ⟨bb, oo, none⟩) a c5 W)
    go_wp2_with fail
    refine (cV1.out _).mono ?_
    rintro e W2 ⟨rfl, rfl⟩
    have hal := (Below.refl V.heap.size V).alloc (Nat.le_refl _) (.cells #[.slice (some ⟨bb, oo, none⟩) a c5] 25)
    have hoS := Ob.new V 25 #[.slice (some ⟨bb, oo, none⟩) a c5]
    have cS := Lib.hid (sorted_calls (vs.take a) V.heap.size _ (V.alloc (.cells #[.slice (some ⟨bb, oo, none⟩) a c5] 25)) (by simp) (hoS.cell rfl) (take_ints (htk.mono hal (by simp))) (by simp; omega))
    go_wp2_with fail
    refine cS.out.mono ?_
    rintro e W3 ⟨⟨vu, rfl, hvu⟩, hb3⟩
    have hca : ¬ c5 = a := by omega
    rw [if_neg hca, Nat.mul_one] at htn
    have ht1 := Sl.upTo htn (show 1 ≤ vs.length - a by omega)
    have hI1 : IntsAt V 0 V.heap.size (.slice (some ⟨bb, oo + a, none⟩) 1 (c5 - a)) ((vs.drop a).take 1) := by
      unfold IntsAt
      rw [List.length_take, List.length_drop, Nat.min_eq_left (by omega), show ints ((vs.drop a).take 1) = ((ints vs).drop a).take (1 * 1) by simp [ints, List.map_take, List.map_drop]]
      exact ht1
    have hbV : Below V.heap.size V W3.drew := (hal.trans (hb3.mono (by simp))).drew
    have hdr : Below W3.heap.size W3 W3.drew := (Below.refl W3.heap.size W3).drew
    obtain ⟨A9, c9, rfl, -⟩ := (IntsAt.of_own hvu).form
    have hvu := (IntsAt.of_own hvu).wide (Nat.zero_le _) (Nat.le_refl _)
    generalize sorted (vs.take a) = SO at hvu HBO ⊢
    have HOD := Lib.hid (show Ob W3.drew w.heap.size 27 _ from HO5.out.same hbV)
    have cE1 := Lib.hid (fun W (h : Below W3.drew.heap.size W3.drew W) => equaln_calls s.pending ((vs.drop a).take 1) _ _ W ((HPE.out.mono hbV hbV.size).mono h h.size) ((hI1.mono hbV hbV.size).mono h h.size))
    have cR1 := Lib.hid (fun W (h : Below W3.drew.heap.size W3.drew W) => rises_calls H SO _ _ 0 _ 0 _ W ((HVHA.out.mono hbV hbV.size).mono h h.size) ((hvu.mono hdr hdr.size).mono h h.size))
    have HBV := Lib.hid (HD3.out.trans (hbV.mono HD3.out.size))
    generalize decide (s.pending = List.take 1 (List.drop a vs)) = p1 at HBO cE1
    generalize rises H SO = p2 at HBO cR1
    clear hdr hI1 ht1 htn htk hvu hbV hal hb3 cS hoS
    go_wp2_with fail
    refine Pu.regionW (fun W' => Below W3.drew.heap.size W3.drew W') hmx (by kernel_rfl) (by kernel_rfl) (Below.refl _ _) rfl ?_
    cases M <;> cases p1 <;> (
      iterate 20 (first
        | (refine Pu.Walk.off (by rfl) ?_; simp only [Act.put, List.setIfInBounds_toArray, List.set_cons_succ, List.set_cons_zero])
        | (apply Pu.Walk.on (by rfl)
           · intro W1 h1
             obtain ⟨j0, j1, j2, j3, j4, j5, j6, j7, j8, j9⟩ := ob_ten (HOD.out.same h1)
             go_wp2_with (first
               | (go_at_call 32; refine (cE1.out _ h1).mono ?_; rintro e W2 ⟨rfl, hb⟩; replace h1 := h1.trans (hb.mono h1.size); clear hb)
               | (go_at_call 53; refine (cR1.out _ h1).mono ?_; rintro e W2 ⟨rfl, rfl⟩))
             refine ⟨rfl, ?_, h1⟩
             try simp only [Act.put, List.setIfInBounds_toArray, List.set_cons_succ, List.set_cons_zero]
             rfl
           simp only [Act.put, List.setIfInBounds_toArray, List.set_cons_succ, List.set_cons_zero]))
      refine Pu.Walk.nil (fun W1 h1 => ?_)
      go_wp2
      go_ret
      exact ⟨by rw [HBO.out]; first | rfl | (cases p2 <;> rfl), HBV.out.trans (h1.mono HBV.out.size)⟩)
  have d1 : decide (st = 1) = false := decide_eq_false e1
  rw [if_neg e1] at hbo
  by_cases e2 : st = 2 ∨ st = 8 ∨ st = 10
  · rw [if_pos e2] at hbo
    have HBO := Lib.hid hbo
    clear hbo cEq cRi
    rcases e2 with rfl | rfl | rfl <;> (cases M with
      | false => go_wp2; go_ret; exact ⟨by rw [HBO.out]; rfl, HD3.out⟩
      | true =>
        rcases HQU.out with ⟨hq1, hq2, hq3⟩ | ⟨hq1, hq2, hq3⟩
        · generalize s.cancelled = ca at HBO k9 HO5 ⊢
          cases ca <;> (go_wp2; go_ret; exact ⟨by rw [HBO.out, hq3]; rfl, HD3.out⟩)
        · go_wp2
          go_ret
          exact ⟨by rw [HBO.out, hq3]; rfl, HD3.out⟩)
  have d2 : decide (st = 2) = false := decide_eq_false (fun e => e2 (.inl e))
  have d8 : decide (st = 8) = false := decide_eq_false (fun e => e2 (.inr (.inl e)))
  have d10 : decide (st = 10) = false := decide_eq_false (fun e => e2 (.inr (.inr e)))
  rw [if_neg e2] at hbo
  by_cases e3 : st = 7 ∨ st = 9
  · rw [if_pos e3] at hbo
    have HBO := Lib.hid hbo
    clear hbo cEq
    rcases e3 with rfl | rfl <;> (cases M with
      | false => go_wp2; go_ret; exact ⟨by rw [HBO.out]; rfl, HD3.out⟩
      | true =>
        rcases HQU.out with ⟨hq1, hq2, hq3⟩ | ⟨hq1, hq2, hq3⟩
        · go_wp2
          go_ret
          exact ⟨by rw [HBO.out, hq3]; rfl, HD3.out⟩
        · generalize s.cancelled = ca at HBO k9 HO5 ⊢
          generalize rises s.pending H = r at HBO cRi
          cases ca with
          | true => go_wp2; go_ret; exact ⟨by rw [HBO.out, hq3]; rfl, HD3.out⟩
          | false =>
            go_wp2_with fail
            refine cRi.out.mono ?_
            rintro e W2 ⟨rfl, rfl⟩
            go_wp2
            go_ret
            exact ⟨by rw [HBO.out, hq3]; cases r <;> rfl, HD3.out⟩)
  have d7 : decide (st = 7) = false := decide_eq_false (fun e => e3 (.inl e))
  have d9 : decide (st = 9) = false := decide_eq_false (fun e => e3 (.inr e))
  rw [if_neg e3] at hbo
  by_cases e4 : st = 4
  · subst e4
    rw [if_pos rfl] at hbo
    have HBO := Lib.hid hbo
    clear hbo cRi
    rcases HQU.out with ⟨hq1, hq2, hq3⟩ | ⟨hq1, hq2, hq3⟩
    · go_wp2
      go_ret
      exact ⟨by rw [HBO.out, hq3]; rfl, HD3.out⟩
    · generalize decide (s.pending = H) = r at HBO cEq
      go_wp2_with fail
      refine cEq.out.mono ?_
      rintro e W2 ⟨rfl, hbW⟩
      go_wp2
      go_ret
      exact ⟨by rw [HBO.out, hq3]; cases r <;> rfl, HD3.out.trans (hbW.mono HD3.out.size)⟩
  have d4 : decide (st = 4) = false := decide_eq_false e4
  rw [if_neg e4] at hbo
  clear cEq cRi
  by_cases e5 : st = 3 ∨ st = 5
  · rw [if_pos e5] at hbo
    have HBO := Lib.hid hbo
    clear hbo
    rcases HHO.out with ⟨hh1, hh2, hh3⟩ | ⟨hh1, hh2, hh3⟩
    · rcases HQU.out with ⟨hq1, hq2, hq3⟩ | ⟨hq1, hq2, hq3⟩
      · generalize s.cancelled = ca at HBO k9 HO5 ⊢
        cases ca with
        | true => rcases e5 with rfl | rfl <;> (go_wp2; go_ret; exact ⟨by rw [HBO.out, hh3, hq3]; rfl, HD3.out⟩)
        | false =>
          generalize s.waits = wa at HBO k4 HO5 ⊢
          rcases e5 with rfl | rfl <;> (cases wa <;> (go_wp2; go_ret; exact ⟨by rw [HBO.out, hh3, hq3]; rfl, HD3.out⟩))
      · rcases e5 with rfl | rfl <;> (go_wp2; go_ret; exact ⟨by rw [HBO.out, hh3, hq3]; rfl, HD3.out⟩)
    · rcases e5 with rfl | rfl <;> (go_wp2; go_ret; exact ⟨by rw [HBO.out, hh3]; rfl, HD3.out⟩)
  have d3 : decide (st = 3) = false := decide_eq_false (fun e => e5 (.inl e))
  have d5 : decide (st = 5) = false := decide_eq_false (fun e => e5 (.inr e))
  rw [if_neg e5] at hbo
  by_cases e6 : st = 6
  · subst e6
    rw [if_pos rfl] at hbo
    have HBO := Lib.hid hbo
    clear hbo
    rcases HHO.out with ⟨hh1, hh2, hh3⟩ | ⟨hh1, hh2, hh3⟩
    · rcases HQU.out with ⟨hq1, hq2, hq3⟩ | ⟨hq1, hq2, hq3⟩
      · generalize s.cancelled = ca at HBO k9 HO5 ⊢
        cases ca <;> (go_wp2; go_ret; exact ⟨by rw [HBO.out, hh3, hq3]; rfl, HD3.out⟩)
      · go_wp2
        go_ret
        exact ⟨by rw [HBO.out, hh3, hq3]; rfl, HD3.out⟩
    · go_wp2
      go_ret
      exact ⟨by rw [HBO.out, hh3]; rfl, HD3.out⟩
  have d6 : decide (st = 6) = false := decide_eq_false e6
  rw [if_neg e6] at hbo
  have HBO := Lib.hid hbo
  clear hbo
  go_wp2
  go_ret
  exact ⟨by rw [HBO.out]; rfl, HD3.out⟩
end Sa
end Go.Proofs.Ythfpfomifebpbaa

namespace Go.Proofs.Ythfpfomifebpbaa
open Go.RowKit Go.Maps
namespace Sa
open It
variable {mlo : Nat}

theorem sagamay_calls (s : Saga) (vw vg vp : Value) (w : World) (h : Parts w 0 w.heap.size s vw vg vp) (hF : Fit s) :
    Calls Try.prog 26 #[.agg (sagaC s vw vg vp)] w fun e w' => e = .returned (.bool (mayS s)) ∧ Below w.heap.size w w' := by
  unfold mayS
  cases hok : okHead s with
  | false => exact may_bad s vw vg vp w h hF hok
  | true => exact may_good s vw vg vp w h hF hok

structure Ev where
  kind : Int
  region : Int
  items : List It.Item
structure Step where
  kind : Int
  region : Int
  items : List It.Item
  state : Int
def step0 : Step := ⟨0, 0, [], 0⟩
def evC (e : Ev) (v : Value) : Array Value := #[.int .i64 e.kind, .int .i64 e.region, v]
def stepL (x : Step) (v : Value) : List Value := [.int .i64 x.kind, .int .i64 x.region, v, .int .i64 x.state]
def stepsC : List Step → List Value → List Value
  | [], _ => []
  | x :: l, vs => stepL x (vs.headD (.slice none 0 0)) ++ stepsC l vs.tail
theorem stepsC_length : ∀ (l : List Step) (vs : List Value), (stepsC l vs).length = l.length * 4
  | [], _ => rfl
  | x :: l, vs => by
    have := stepsC_length l vs.tail
    simp [stepsC, stepL, this]
    omega
theorem stepsC_snoc (x : Step) (v : Value) : ∀ (l : List Step) (vs : List Value), vs.length = l.length → stepsC (l ++ [x]) (vs ++ [v]) = stepsC l vs ++ stepL x v
  | [], [], _ => by simp [stepsC]
  | y :: l, u :: vs, h => by
    have := stepsC_snoc x v l vs (by simpa using h)
    simp [stepsC, this]
  | [], u :: vs, h => by simp at h
  | y :: l, [], h => by simp at h
theorem stepsC_get : ∀ (l : List Step) (vs : List Value) (j : Nat), vs.length = l.length → j < l.length →
    (stepsC l vs)[j * 4]? = some (.int .i64 (l.getD j step0).kind) ∧ (stepsC l vs)[j * 4 + 1]? = some (.int .i64 (l.getD j step0).region) ∧ (stepsC l vs)[j * 4 + 2]? = some (vs.getD j (.slice none 0 0)) ∧ (stepsC l vs)[j * 4 + 3]? = some (.int .i64 (l.getD j step0).state)
  | [], _, j, _, h => by simp at h
  | y :: l, [], _, h, _ => by simp at h
  | y :: l, u :: vs, 0, _, _ => ⟨rfl, rfl, rfl, rfl⟩
  | y :: l, u :: vs, j + 1, h, hj => by
    have := stepsC_get l vs j (by simpa using h) (by simpa using hj)
    rw [show (j + 1) * 4 = j * 4 + 4 by omega]
    exact this
theorem stepL_one {x : Step} {v : Value} (h : v.oneCell' = true) : ∀ y ∈ stepL x v, y.oneCell' = true := by
  intro y hy
  simp only [stepL, List.mem_cons, List.not_mem_nil, or_false] at hy
  rcases hy with rfl | rfl | rfl | rfl
  · rfl
  · rfl
  · exact h
  · rfl

/-- the value v is a slice of steps -/
def StepsAt (w : World) (lo B : Nat) (v : Value) (l : List Step) : Prop :=
  ∃ vs : List Value, vs.length = l.length ∧ Sl w lo B 4 v l.length (stepsC l vs) ∧ ∀ k, k < l.length → ItemsAt w lo B (vs.getD k (.slice none 0 0)) (l.getD k step0).items
theorem StepsAt.mono {w w' : World} {lo B B' : Nat} {v : Value} {l : List Step} (h : StepsAt w lo B v l) (hb : Below B w w') (hB : B ≤ B') : StepsAt w' lo B' v l := by
  obtain ⟨vs, h1, h2, h3⟩ := h
  exact ⟨vs, h1, h2.mono hb hB, fun k hk => (h3 k hk).mono hb hB⟩
theorem StepsAt.wide {w : World} {lo lo' B B' : Nat} {v : Value} {l : List Step} (h : StepsAt w lo B v l) (hl : lo' ≤ lo) (hB : B ≤ B') : StepsAt w lo' B' v l := by
  obtain ⟨vs, h1, h2, h3⟩ := h
  exact ⟨vs, h1, h2.wide hl hB, fun k hk => (h3 k hk).wide hl hB⟩
theorem StepsAt.later {w w' : World} {v : Value} {l : List Step} (h : StepsAt w 0 w.heap.size v l) (hb : Below w.heap.size w w') : StepsAt w' 0 w'.heap.size v l := h.mono hb hb.size
theorem StepsAt.nil (w : World) (lo B : Nat) : StepsAt w lo B (.slice none 0 0) [] := ⟨[], rfl, Sl.nil w lo B 4, fun k hk => by simp at hk⟩
theorem StepsAt.form {w : World} {lo B : Nat} {v : Value} {l : List Step} (h : StepsAt w lo B v l) : ∃ A c, v = .slice A l.length c ∧ l.length ≤ c ∧ c ≤ maxLen := by
  obtain ⟨vs, h1, h2, h3⟩ := h
  obtain ⟨A, c, e, a, b, _⟩ := h2.at_
  exact ⟨A, c, e, a, b⟩
theorem StepsAt.cellAt {w : World} {lo B : Nat} {A : Option Addr} {n c j : Nat} {l : List Step} (h : StepsAt w lo B (.slice A n c) l) (hj : j < l.length) :
    ∃ b o x, A = some ⟨b, o, none⟩ ∧ lo ≤ b ∧ b < B ∧ w.cell? ⟨b, o + j * 4, none⟩ = some (.int .i64 (l.getD j step0).kind) ∧ w.cell? ⟨b, o + j * 4 + 1, none⟩ = some (.int .i64 (l.getD j step0).region) ∧ w.cell? ⟨b, o + j * 4 + 2, none⟩ = some x ∧ w.cell? ⟨b, o + j * 4 + 3, none⟩ = some (.int .i64 (l.getD j step0).state) ∧ ItemsAt w lo B x (l.getD j step0).items := by
  obtain ⟨vs, h1, h2, h3⟩ := h
  obtain ⟨A', c', e, a, b, hc⟩ := h2.at_
  cases e
  obtain ⟨b, o, e1, e2, e3, e4⟩ := hc (by omega)
  obtain ⟨q0, q1, q2, q3⟩ := stepsC_get l vs j h1 hj
  refine ⟨b, o, _, e1, e2, e3, ?_, ?_, ?_, ?_, h3 j hj⟩
  · rw [e4 (j * 4) (by omega)]; exact q0
  · rw [Nat.add_assoc, e4 (j * 4 + 1) (by omega)]; exact q1
  · rw [Nat.add_assoc, e4 (j * 4 + 2) (by omega)]; exact q2
  · rw [Nat.add_assoc, e4 (j * 4 + 3) (by omega)]; exact q3
theorem StepsAt.one {w : World} {lo B : Nat} {x : Step} {v : Value} (h : ItemsAt w lo B v x.items) (hB : B ≤ w.heap.size) :
    StepsAt (w.alloc (.cells #[.int .i64 x.kind, .int .i64 x.region, v, .int .i64 x.state] 52)) 0 (w.alloc (.cells #[.int .i64 x.kind, .int .i64 x.region, v, .int .i64 x.state] 52)).heap.size (.slice (some ⟨w.heap.size, 0, none⟩) 1 1) [x] := by
  rw [World.size_alloc]
  refine ⟨[v], rfl, ?_, fun k hk => ?_⟩
  · have := Sl.new w #[.int .i64 x.kind, .int .i64 x.region, v, .int .i64 x.state] 52 (size := 4) (n := 1) rfl (by unfold maxLen; omega)
    exact this.wide (Nat.zero_le _) (by first | simp | omega)
  · have : k = 0 := by simp at hk; omega
    subst this
    exact (h.mono ((Below.refl _ w).alloc hB _) (by omega)).wide (Nat.zero_le _) (Nat.le_refl _)

theorem StepsAt.one' {w : World} {lo B : Nat} {x : Step} {v : Value} (h : ItemsAt w lo B v x.items) (hB : B ≤ w.heap.size) (hl : lo ≤ w.heap.size) :
    StepsAt (w.alloc (.cells #[.int .i64 x.kind, .int .i64 x.region, v, .int .i64 x.state] 52)) lo (w.heap.size + 1) (.slice (some ⟨w.heap.size, 0, none⟩) 1 1) [x] := by
  refine ⟨[v], rfl, ?_, fun k hk => ?_⟩
  · have := Sl.new w #[.int .i64 x.kind, .int .i64 x.region, v, .int .i64 x.state] 52 (size := 4) (n := 1) rfl (by unfold maxLen; omega)
    exact this.wide hl (Nat.le_refl _)
  · have : k = 0 := by simp at hk; omega
    subst this
    exact h.mono ((Below.refl _ w).alloc hB _) (by omega)

/-- a slice that does not lie in the block b -/
def SlOff (mlo : Nat) (w : World) (b size : Nat) (v : Value) (n : Nat) (xs : List Value) : Prop := ∃ lo B, mlo ≤ lo ∧ (B ≤ b ∨ b < lo) ∧ B ≤ w.heap.size ∧ Sl w lo B size v n xs
section
variable {w w' : World} {b size n : Nat} {v : Value} {xs : List Value}
theorem SlOff.keep (h : SlOff mlo w b size v n xs) (hk : Kept (fun i => i < w.heap.size ∧ i ≠ b) w w') : SlOff mlo w' b size v n xs := by
  obtain ⟨lo, B, h0, h1, h2, h3⟩ := h
  exact ⟨lo, B, h0, h1, Nat.le_trans h2 hk.size, hk.sl h3 fun _ _ _ => ⟨by omega, by omega⟩⟩
theorem SlOff.all (h : SlOff mlo w b size v n xs) : Sl w 0 w.heap.size size v n xs := by
  obtain ⟨lo, B, h0, h1, h2, h3⟩ := h
  exact h3.wide (Nat.zero_le _) h2
theorem SlOff.of_behind {lo : Nat} (h : Sl w lo w.heap.size size v n xs) (hb : b < lo) (hm : mlo ≤ b) : SlOff mlo w b size v n xs := ⟨lo, _, by omega, .inr hb, Nat.le_refl _, h⟩
end
def IOff (mlo : Nat) (w : World) (b : Nat) (v : Value) (l : List It.Item) : Prop := SlOff mlo w b 2 v l.length (itemCells l)
def NOff (mlo : Nat) (w : World) (b : Nat) (v : Value) (l : List Int) : Prop := SlOff mlo w b 1 v l.length (ints l)
def GOff (mlo : Nat) (w : World) (b : Nat) (v : Value) (L : List (List It.Item)) : Prop :=
  ∃ vs : List Value, vs.length = L.length ∧ SlOff mlo w b 1 v L.length vs ∧ ∀ k, k < L.length → IOff mlo w b (vs.getD k (.slice none 0 0)) (L.getD k [])
theorem IOff.items {w : World} {b : Nat} {v : Value} {l : List It.Item} (h : IOff mlo w b v l) : ItemsAt w 0 w.heap.size v l := SlOff.all h
theorem NOff.ints {w : World} {b : Nat} {v : Value} {l : List Int} (h : NOff mlo w b v l) : IntsAt w 0 w.heap.size v l := SlOff.all h
theorem NOff.nil (w : World) (b : Nat) : NOff mlo w b (.slice none 0 0) [] := ⟨mlo, 0, Nat.le_refl _, .inl (Nat.zero_le _), Nat.zero_le _, Sl.nil _ _ _ _⟩
theorem GOff.got {w : World} {b : Nat} {v : Value} {L : List (List It.Item)} (h : GOff mlo w b v L) : GotAt w 0 w.heap.size v L := by
  obtain ⟨vs, h1, h2, h3⟩ := h
  exact ⟨vs, h1, h2.all, fun k hk => (h3 k hk).items⟩

/-- the parts of a saga whose cells may be written: none lies in the block b -/
structure Off (mlo : Nat) (w : World) (b : Nat) (s : Saga) (vw vg vp : Value) : Prop where
  mb : mlo ≤ b
  want : IOff mlo w b vw s.want
  got : GOff mlo w b vg s.got
  pend : NOff mlo w b vp s.pending
theorem Off.keep {w w' : World} {b : Nat} {s : Saga} {vw vg vp : Value} (h : Off mlo w b s vw vg vp) (hk : Kept (fun i => i < w.heap.size ∧ i ≠ b) w w') : Off mlo w' b s vw vg vp := by
  refine ⟨h.mb, SlOff.keep h.want hk, ?_, SlOff.keep h.pend hk⟩
  obtain ⟨vs, h1, h2, h3⟩ := h.got
  exact ⟨vs, h1, h2.keep hk, fun k hk' => SlOff.keep (h3 k hk') hk⟩
theorem Off.later {w w' : World} {b : Nat} {s : Saga} {vw vg vp : Value} (h : Off mlo w b s vw vg vp) (hb : Below w.heap.size w w') : Off mlo w' b s vw vg vp :=
  h.keep (Kept.of_below hb fun i hi => hi.1)
theorem Off.set {w : World} {b : Nat} {s : Saga} {vw vg vp : Value} (h : Off mlo w b s vw vg vp) (j : Nat) (v : Value) : Off mlo (w.setCell ⟨b, j, none⟩ v) b s vw vg vp :=
  h.keep (Kept.of_grown (grownBy_set w b j v) fun i hi => ⟨hi.1, fun e => hi.2 (by cases e; rfl)⟩)
theorem Off.parts {w : World} {b : Nat} {s : Saga} {vw vg vp : Value} (h : Off mlo w b s vw vg vp) : Parts w 0 w.heap.size s vw vg vp := ⟨h.want.items, h.got.got, h.pend.ints⟩
theorem below_set (w : World) (b j : Nat) (v : Value) : Below b w (w.setCell ⟨b, j, none⟩ v) :=
  ⟨rfl, rfl, rfl, (KeepsWalks.setCell w _ v).size, fun k hk => Below.heap_setCell _ _ _ k (fun e => by subst e; exact absurd hk (Nat.lt_irrefl _))⟩
theorem set_size (w : World) (b j : Nat) (v : Value) : (w.setCell ⟨b, j, none⟩ v).heap.size = w.heap.size := by
  show (w.heap.modify b _).size = _
  rw [Array.size_modify]

def told (st : Int) : List Step := [⟨100, 0, [], st⟩]
set_option maxRecDepth 100000 in
set_option maxHeartbeats 1000000 in
theorem tell_calls (s : Saga) (vw vg vp : Value) (b : Nat) (st : Int) (w : World) (ho : Ob w b 27 (sagaC s vw vg vp)) (hf : Off mlo w b s vw vg vp) :
    Calls Try.prog 80 #[.pointer (some ⟨b, 0, none⟩), .int .i64 st] w fun e w' => (∃ vl, e = .returned vl ∧ StepsAt w' mlo w'.heap.size vl (told st)) ∧ Ob w' b 27 (sagaC { s with state := st } vw vg vp) ∧ Off mlo w' b { s with state := st } vw vg vp ∧ Below b w w' := by
  have hlt := ho.lt
  have g5 : w.cell? ⟨b, 5, none⟩ = some (.int .i64 s.state) := ho.cell rfl
  have f5 := ho.frozen 5
  have ho' := ho.set 5 (.int .i64 st)
  have hf' := hf.set 5 (.int .i64 st)
  have hb := below_set w b 5 (.int .i64 st)
  have hsz : (w.setCell ⟨b, 5, none⟩ (.int .i64 st)).heap.size = w.heap.size := set_size w b 5 _
  clear ho hf
  go_enter Try.func80, Try.ntmps80
  go_wp2
  go_ret
  generalize w.setCell ⟨b, 5, none⟩ (.int .i64 st) = W at *
  have hal := (Below.refl W.heap.size W).alloc (Nat.le_refl _) (.cells #[.int .i64 100, .int .i64 0, .slice none 0 0, .int .i64 st] 52)
  refine ⟨⟨_, rfl, ?_⟩, ?_, ?_, ?_⟩
  · have h1 := (StepsAt.one' (w := W) (x := ⟨100, 0, [], st⟩) (ItemsAt.nil W mlo 0) (Nat.zero_le _) (by have := hf'.mb; omega)).wide (Nat.le_refl _) (show W.heap.size + 1 ≤ (W.alloc (.cells #[.int .i64 100, .int .i64 0, .slice none 0 0, .int .i64 st] 52)).heap.size by rw [World.size_alloc]; omega)
    rw [hsz] at h1
    exact h1
  · exact ho'.alloc _
  · exact (hf'.later hal : Off mlo _ b s vw vg vp) |> fun h => ⟨h.mb, h.want, h.got, h.pend⟩
  · exact hb.alloc (by omega) _
end Sa
end Go.Proofs.Ythfpfomifebpbaa

namespace Go.Proofs.Ythfpfomifebpbaa
open Go.RowKit Go.Maps
namespace Sa
open It
variable {mlo : Nat}

def endSt (s : Saga) : Int := if s.cancelled then 6 else if s.waits then 3 else 5
def endS (s : Saga) : Saga := { s with pending := [], state := endSt s }
def eachS (s : Saga) (st : Int) : Saga := { s with state := st, pending := holders s.got }
def eachL (kind : Int) (rs : List Int) : List Step := rs.map fun r => ⟨kind, r, [], 0⟩
def undoS (s : Saga) : Saga × List Step := if (holders s.got).length = 0 then (endS s, told (endSt s)) else (eachS s 4, eachL 5 (holders s.got))
/-- what a call that writes the saga in block b leaves -/
def Does (mlo : Nat) (w w' : World) (b : Nat) (e : Ending) (s' : Saga) (l : List Step) : Prop :=
  (∃ vl, e = .returned vl ∧ StepsAt w' mlo w'.heap.size vl l) ∧ (∃ vw vg vp, Ob w' b 27 (sagaC s' vw vg vp) ∧ Off mlo w' b s' vw vg vp) ∧ Below b w w'

set_option maxRecDepth 100000 in
set_option maxHeartbeats 1000000 in
theorem end_calls (s : Saga) (vw vg vp : Value) (b : Nat) (w : World) (ho : Ob w b 27 (sagaC s vw vg vp)) (hf : Off mlo w b s vw vg vp) :
    Calls Try.prog 82 #[.pointer (some ⟨b, 0, none⟩)] w fun e w' => Does mlo w w' b e (endS s) (told (endSt s)) := by
  have hlt := ho.lt
  have g8 : w.cell? ⟨b, 8, none⟩ = some vp := ho.cell rfl
  have f8 := ho.frozen 8
  have ho' : Ob (w.setCell ⟨b, 8, none⟩ (.slice none 0 0)) b 27 (sagaC { s with pending := [] } vw vg (.slice none 0 0)) := ho.set 8 (.slice none 0 0)
  have hf' : Off mlo (w.setCell ⟨b, 8, none⟩ (.slice none 0 0)) b { s with pending := [] } vw vg (.slice none 0 0) := ⟨hf.mb, (hf.set 8 _).want, (hf.set 8 _).got, NOff.nil _ _⟩
  have hb := below_set w b 8 (.slice none 0 0)
  have cT := Lib.hid (fun st => tell_calls { s with pending := [] } vw vg (.slice none 0 0) b st _ ho' hf')
  obtain ⟨-, -, -, -, j4, -, -, -, -, j9⟩ := ob_ten ho'
  clear ho hf ho' hf'
  cases hc : s.cancelled with
  | true =>
    rw [show ({ s with pending := [] } : Saga).cancelled = true from hc] at j9
    have hst : endSt s = 6 := by simp [endSt, hc]
    unfold endS
    rw [hst]
    go_enter Try.func82, Try.ntmps82
    go_wp2_with fail
    refine (cT.out 6).mono ?_
    rintro e W2 ⟨⟨vl, rfl, hv⟩, ho2, hf2, hb2⟩
    obtain ⟨A, c, rfl, -⟩ := hv.form
    go_wp2
    go_ret
    exact ⟨⟨_, rfl, hv⟩, ⟨_, _, _, ho2, ⟨hf2.mb, hf2.want, hf2.got, hf2.pend⟩⟩, hb.trans hb2⟩
  | false =>
    rw [show ({ s with pending := [] } : Saga).cancelled = false from hc] at j9
    cases hw : s.waits with
    | true =>
      rw [show ({ s with pending := [] } : Saga).waits = true from hw] at j4
      have hst : endSt s = 3 := by simp [endSt, hc, hw]
      unfold endS
      rw [hst]
      go_enter Try.func82, Try.ntmps82
      go_wp2_with fail
      refine (cT.out 3).mono ?_
      rintro e W2 ⟨⟨vl, rfl, hv⟩, ho2, hf2, hb2⟩
      obtain ⟨A, c, rfl, -⟩ := hv.form
      go_wp2
      go_ret
      exact ⟨⟨_, rfl, hv⟩, ⟨_, _, _, ho2, ⟨hf2.mb, hf2.want, hf2.got, hf2.pend⟩⟩, hb.trans hb2⟩
    | false =>
      rw [show ({ s with pending := [] } : Saga).waits = false from hw] at j4
      have hst : endSt s = 5 := by simp [endSt, hc, hw]
      unfold endS
      rw [hst]
      go_enter Try.func82, Try.ntmps82
      go_wp2_with fail
      refine (cT.out 5).mono ?_
      rintro e W2 ⟨⟨vl, rfl, hv⟩, ho2, hf2, hb2⟩
      obtain ⟨A, c, rfl, -⟩ := hv.form
      go_wp2
      go_ret
      exact ⟨⟨_, rfl, hv⟩, ⟨_, _, _, ho2, ⟨hf2.mb, hf2.want, hf2.got, hf2.pend⟩⟩, hb.trans hb2⟩

theorem step_info : (Try.prog.info? 52).map (fun i => (i.zero, i.size, i.bytes)) = some (some (.agg #[.int .i64 0, .int .i64 0, .slice none 0 0, .int .i64 0]), 4, 48) := by kernel_rfl
theorem eachL_snoc (kind : Int) (l : List Int) {k : Nat} (hk : k < l.length) : eachL kind (l.take (k + 1)) = eachL kind (l.take k) ++ [⟨kind, l.getD k 0, [], 0⟩] := by
  rw [List.take_succ_eq_append_getElem hk, getD_get hk]
  unfold eachL
  simp only [List.map_append, List.map_cons, List.map_nil]
theorem eachL_length (kind : Int) (l : List Int) : (eachL kind l).length = l.length := by simp [eachL]
theorem steps_own {w : World} {lo B n : Nat} {v : Value} {kind : Int} {l : List Int} (h : w.ownsRow B 52 4 v n (stepsC (eachL kind l) (List.replicate l.length (.slice none 0 0)))) (hn : n = l.length) (hlo : lo ≤ B) : StepsAt w lo w.heap.size v (eachL kind l) := by
  subst hn
  refine ⟨List.replicate l.length (.slice none 0 0), by simp [eachL], ?_, fun k hk => ?_⟩
  · rw [eachL_length]
    exact (Sl.of_own h).wide hlo (Nat.le_refl _)
  · rw [eachL_length] at hk
    have h1 : (List.replicate l.length (Value.slice none 0 0)).getD k (.slice none 0 0) = .slice none 0 0 := by simp [List.getD, hk]
    have h2 : ((eachL kind l).getD k step0).items = [] := by simp [eachL, List.getD, List.getElem?_eq_getElem hk]
    rw [h1, h2]
    exact ItemsAt.nil _ _ _

set_option maxRecDepth 100000 in
set_option maxHeartbeats 2000000 in
theorem each_calls (s : Saga) (vw vg vp : Value) (b : Nat) (st kind : Int) (w : World) (ho : Ob w b 27 (sagaC s vw vg vp)) (hf : Off mlo w b s vw vg vp) (hL : s.got.length ≤ 1000000) :
    Calls Try.prog 83 #[.pointer (some ⟨b, 0, none⟩), .int .i64 st, .int .i64 kind] w fun e w' => Does mlo w w' b e (eachS s st) (eachL kind (holders s.got)) := by
  obtain ⟨i0, hi0, hz0⟩ := Option.map_eq_some_iff.1 step_info
  simp only [Prod.mk.injEq] at hz0
  obtain ⟨hz0, hz1, hz2⟩ := hz0
  have hlt := ho.lt
  have cH := Lib.hid (holders_calls s vw vg vp w hf.parts hL)
  have hlen : (holders s.got).length ≤ 1000000 := by have := holdersTo_len s.got s.got.length; unfold holders; omega
  unfold eachS
  go_enter Try.func83, Try.ntmps83
  go_wp2_with (refine wpList_load_obg (by rfl) _ _ rfl rfl _ ho Try.underlying27 rfl (by kernel_rfl) ?_)
  refine cH.out.mono ?_
  rintro e w1 ⟨⟨vh, rfl, hvh⟩, hb1⟩
  have ho1 := ho.same hb1
  have hf1 := hf.later hb1
  have hlt1 := ho1.lt
  have hI := (IntsAt.of_own hvh)
  obtain ⟨A, c, rfl, hc1, hc2, -⟩ := hI.form
  unfold maxLen at hc2
  have g5 : w1.cell? ⟨b, 5, none⟩ = some (.int .i64 s.state) := ho1.cell rfl
  have f5 := ho1.frozen 5
  have ho2 := ho1.set 5 (.int .i64 st)
  have hf2 := hf1.set 5 (.int .i64 st)
  have g8 : (w1.setCell ⟨b, 5, none⟩ (.int .i64 st)).cell? ⟨b, 8, none⟩ = some vp := ho2.cell rfl
  have f8 := ho2.frozen 8
  have ho3 : Ob _ b 27 (sagaC { s with state := st, pending := holders s.got } vw vg (.slice A (holders s.got).length c)) := ho2.set 8 (.slice A (holders s.got).length c)
  have hf3 := hf2.set 8 (.slice A (holders s.got).length c)
  have hI1 : NOff mlo w1 b (.slice A (holders s.got).length c) (holders s.got) := SlOff.of_behind hI hlt hf.mb
  have hkk : Kept (fun i => i < w1.heap.size ∧ i ≠ b) w1 ((w1.setCell ⟨b, 5, none⟩ (.int .i64 st)).setCell ⟨b, 8, none⟩ (.slice A (holders s.got).length c)) :=
    (Kept.of_grown (grownBy_set w1 b 5 _) fun i hi => ⟨hi.1, fun e => hi.2 (by cases e; rfl)⟩).trans (Kept.of_grown (grownBy_set _ b 8 _) fun i hi => ⟨by rw [set_size]; exact hi.1, fun e => hi.2 (by cases e; rfl)⟩)
  have hI3 := SlOff.keep hI1 hkk
  have hoff : Off mlo _ b { s with state := st, pending := holders s.got } vw vg (.slice A (holders s.got).length c) := ⟨hf3.mb, hf3.want, hf3.got, hI3⟩
  have hb3 : Below b w ((w1.setCell ⟨b, 5, none⟩ (.int .i64 st)).setCell ⟨b, 8, none⟩ (.slice A (holders s.got).length c)) := ((hb1.mono (by omega)).trans (below_set w1 b 5 _)).trans (below_set _ b 8 _)
  clear ho hf cH hvh hb1 ho1 hf1 ho2 hf2 hf3 hI hI1 hkk
  obtain ⟨-, -, -, -, -, -, -, -, j8, -⟩ := ob_ten ho3
  go_wp2
  generalize (w1.setCell ⟨b, 5, none⟩ (.int .i64 st)).setCell ⟨b, 8, none⟩ (.slice A (holders s.got).length c) = W3 at *
  have HI := Lib.hid hI3
  have HO := Lib.hid ho3
  have HF := Lib.hid hoff
  have HB := Lib.hid hb3
  have hlt3 := ho3.lt
  clear hI3 ho3 hoff hb3 g5 f5 g8 f8 j8
  generalize hH : holders s.got = H at *
  go_loopw [7, 9, 26] (fun v _ i wr => ∃ k : Nat, k ≤ H.length ∧ i = .int .i64 k ∧ wr.ownsRow W3.heap.size 52 4 v k (stepsC (eachL kind (H.take k)) (List.replicate k (.slice none 0 0))) ∧ Below W3.heap.size W3 wr) (fun _ _ i _ => H.length - (intOf i).toNat)
  case atStart => exact ⟨0, by omega, rfl, World.ownsRow_nil _ _ _ _, Below.refl _ _⟩
  case round =>
    obtain ⟨k, hk, rfl, hv, hb⟩ := hrel
    have hlow := fun g e => hv.lt g e
    by_cases hlt : k < H.length
    · have hd : decide ((k : Int) < H.length) = true := decide_eq_true (by omega)
      obtain ⟨p, o, rfl, _, hpB, hck⟩ := (IntsAt.mono (NOff.ints HI.out) hb (Nat.le_refl _)).cellAt hlt
      have HS := Lib.hid (eachL_snoc kind H hlt)
      have HLn := Lib.hid (show (eachL kind (H.take k)).length = k by rw [eachL_length, List.length_take]; omega)
      generalize H.getD k 0 = r at hck HS
      have hal := (Below.refl wr.heap.size wr).alloc (Nat.le_refl _) (.cells #[.int .i64 kind, .int .i64 r, .slice none 0 0, .int .i64 0] 52)
      have hva := row_later hv hal
      have hob := Ob.new wr 52 #[.int .i64 kind, .int .i64 r, .slice none 0 0, .int .i64 0]
      have hba := hb.trans (hal.mono hb.size)
      go_wp2_with (at_builtin; go_must (refine wpList_append_own _ rfl (.tmp 30) (.tmp 34) 28 rfl W3.heap.size 52 i0 _ 4 48 Try.underlying28 hi0 hz0 hz1 hz2 rfl (by omega) _ k _ rfl hva ⟨wr.heap.size, 0, none⟩ 1 1 [.int .i64 kind, .int .i64 r, .slice none 0 0, .int .i64 0] rfl rfl (fun j u hu => by rw [add_mid, Nat.zero_add]; exact hob.cell (by simpa using hu)) (by simp [Value.oneCell']) (by unfold maxLen; omega) (by omega) hba.size ?_; intro v1 w1 hv1 hg1 hat1))
      exact ⟨⟨k + 1, by omega, by go_num, by rw [HS.out, List.replicate_succ', stepsC_snoc _ _ _ _ (by rw [HLn.out, List.length_replicate])]; exact hv1, hba.grown hg1 hba.size (fun g e => (hlow g e).1)⟩, by simp [intOf]; omega⟩
    · obtain rfl : k = H.length := by omega
      rw [List.take_length] at hv
      have hst := steps_own hv rfl (show mlo ≤ W3.heap.size by have := HF.out.mb; omega)
      obtain ⟨A1, c1, rfl, -⟩ := hst.form
      go_wp2
      go_ret
      subst hH
      exact ⟨⟨_, rfl, hst⟩, ⟨_, _, _, HO.out.same hb, HF.out.later hb⟩, HB.out.trans (hb.mono (by omega))⟩

set_option maxRecDepth 100000 in
set_option maxHeartbeats 2000000 in
theorem undo_calls (s : Saga) (vw vg vp : Value) (b : Nat) (w : World) (ho : Ob w b 27 (sagaC s vw vg vp)) (hf : Off mlo w b s vw vg vp) (hL : s.got.length ≤ 1000000) :
    Calls Try.prog 81 #[.pointer (some ⟨b, 0, none⟩)] w fun e w' => Does mlo w w' b e (undoS s).1 (undoS s).2 := by
  have hlt := ho.lt
  have cH := Lib.hid (holders_calls s vw vg vp w hf.parts hL)
  have cE := Lib.hid (fun W (h : Below w.heap.size w W) => end_calls s vw vg vp b W (ho.same h) (hf.later h))
  have cX := Lib.hid (fun W (h : Below w.heap.size w W) => each_calls s vw vg vp b 4 5 W (ho.same h) (hf.later h) hL)
  unfold undoS
  have HO := Lib.hid ho
  clear ho hf
  by_cases h0 : (holders s.got).length = 0
  · rw [if_pos h0]
    have d0 : decide (((holders s.got).length : Int) = 0) = true := decide_eq_true (by omega)
    go_enter Try.func81, Try.ntmps81
    go_wp2_with (refine wpList_load_obg (by rfl) _ _ rfl rfl _ HO.out Try.underlying27 rfl (by kernel_rfl) ?_)
    refine cH.out.mono ?_
    rintro e w1 ⟨⟨vh, rfl, hvh⟩, hb1⟩
    obtain ⟨A, c, rfl, -⟩ := (IntsAt.of_own hvh).form
    clear hvh
    go_wp2_with fail
    refine (cE.out _ hb1).mono ?_
    rintro e w2 ⟨⟨vl, rfl, hv⟩, hD, hb2⟩
    obtain ⟨A1, c1, rfl, -⟩ := hv.form
    go_wp2
    go_ret
    exact ⟨⟨_, rfl, hv⟩, hD, (hb1.mono (by omega)).trans hb2⟩
  · rw [if_neg h0]
    have d0 : decide (((holders s.got).length : Int) = 0) = false := decide_eq_false (by omega)
    go_enter Try.func81, Try.ntmps81
    go_wp2_with (refine wpList_load_obg (by rfl) _ _ rfl rfl _ HO.out Try.underlying27 rfl (by kernel_rfl) ?_)
    refine cH.out.mono ?_
    rintro e w1 ⟨⟨vh, rfl, hvh⟩, hb1⟩
    obtain ⟨A, c, rfl, -⟩ := (IntsAt.of_own hvh).form
    clear hvh
    go_wp2_with fail
    refine (cX.out _ hb1).mono ?_
    rintro e w2 ⟨⟨vl, rfl, hv⟩, hD, hb2⟩
    obtain ⟨A1, c1, rfl, -⟩ := hv.form
    go_wp2
    go_ret
    exact ⟨⟨_, rfl, hv⟩, hD, (hb1.mono (by omega)).trans hb2⟩
end Sa
end Go.Proofs.Ythfpfomifebpbaa

namespace Go.Proofs.Ythfpfomifebpbaa
open Go.RowKit Go.Maps Go.Sort Go.Shelf
namespace Sa
open It

def delAt (l : List Int) (i : Nat) : List Int := l.take i ++ l.drop (i + 1)
theorem delAt_length (l : List Int) {i : Nat} (h : i < l.length) : (delAt l i).length = l.length - 1 := by simp [delAt]; omega
theorem grow_none (w : World) : grow w #[] = w := by simp [grow]
theorem own_take {w : World} {base g cap n m : Nat} {e : TypeId} {xs : List Value} (h : w.ownsRow base e 1 (.slice (some ⟨g, 0, none⟩) n cap) n xs) (hm : m ≤ n) : w.ownsRow base e 1 (.slice (some ⟨g, 0, none⟩) m cap) m (xs.take m) := by
  obtain ⟨h1, h2⟩ := h
  rcases h2 with ⟨h2, -⟩ | ⟨g', cap', cur, h2, h3, h4, h5, h6, h7, h8⟩
  · cases h2
  · cases h2
    refine ⟨by simp; omega, .inr ⟨g, cap, cur, rfl, h3, h4, by omega, h6, h7, ?_⟩⟩
    rw [← h8, List.take_take, Nat.mul_one, Nat.mul_one, Nat.min_eq_left hm]
theorem delete_calls (l : List Int) (i base : Nat) (v : Value) (w : World) (h : w.ownsRow base 3 1 v l.length (ints l)) (hi : i < l.length) :
    Calls Try.prog 93 #[v, .int .i64 i, .int .i64 ((i : Int) + 1)] w fun e w' => ∃ v', e = .returned v' ∧ w'.ownsRow base 3 1 v' (delAt l i).length (ints (delAt l i)) ∧ w.grownBy w' v.ownBlock ∧ v'.ownBlock = v.ownBlock := by
  rcases h.2 with ⟨rfl, hz⟩ | ⟨gb, cap, cur, rfl, hbase, hgb, r1, r2, r3, r4⟩
  · omega
  · have hH : Holds encZ w gb 0 l.toArray := holds_of_block_i hgb (by rw [← ints_encZ]; simpa using r4)
    have hD := AnyG.slices_Delete_int Try.del93 gb 0 cap i (i + 1) l w hH r1 (by unfold maxLen at r2; omega) (by omega) (by omega)
    refine Calls.mono (show Calls Try.prog 93 #[.slice (some ⟨gb, 0, none⟩) l.length cap, .int .i64 i, .int .i64 ((i : Int) + 1)] w _ from by rw [show ((i : Int) + 1) = ((i + 1 : Nat) : Int) by omega]; exact hD) ?_
    rintro e w' ⟨rfl, q, rfl⟩
    have hl : (l.take i ++ l.drop (i + 1) ++ List.replicate (i + 1 - i) 0).length = l.length := by simp; omega
    have ho := ownsRow_sorted_i (n := q) (os := #[]) hl hbase hgb r1 r2 r3
    rw [grow_none] at ho
    have hg : w.grownBy (grow (putRow encZ (Sort.ahead w q) gb 0 (l.take i ++ l.drop (i + 1) ++ List.replicate (i + 1 - i) 0).toArray) #[]) (some gb) := grownBy_sorted_i _
    rw [grow_none] at hg
    have ht := own_take ho (show (delAt l i).length ≤ l.length by rw [delAt_length l hi]; omega)
    refine ⟨_, rfl, ?_, hg, rfl⟩
    rw [show l.length - (i + 1 - i) = (delAt l i).length by rw [delAt_length l hi]; omega]
    have he : ((l.take i ++ l.drop (i + 1) ++ List.replicate (i + 1 - i) 0).map encZ).take (delAt l i).length = ints (delAt l i) := by
      rw [ints_encZ, ← List.map_take]
      congr 1
      exact List.take_left' rfl
    rw [he] at ht
    exact ht

set_option maxRecDepth 100000 in
set_option maxHeartbeats 1000000 in
theorem answered_no (s : Saga) (vw vg vp : Value) (b : Nat) (st r : Int) (w : World) (ho : Ob w b 27 (sagaC s vw vg vp)) (hp : IntsAt w 0 w.heap.size vp s.pending) (h : s.state ≠ st ∨ Life.idxOf r s.pending = -1) :
    Calls Try.prog 77 #[.pointer (some ⟨b, 0, none⟩), .int .i64 st, .int .i64 r] w fun e w' => e = .returned (.bool false) ∧ w = w' := by
  obtain ⟨-, -, -, -, -, k5, -, -, k8, -⟩ := ob_ten ho
  have cI := Lib.hid (Life.index_calls s.pending r vp 0 w.heap.size w hp)
  clear ho hp
  go_enter Try.func77, Try.ntmps77
  go_wp2_with fail
  refine cI.out.mono ?_
  rintro e w1 ⟨rfl, rfl⟩
  by_cases hs : s.state = st
  · have d1 : decide (s.state = st) = true := decide_eq_true hs
    have hi : Life.idxOf r s.pending = -1 := h.resolve_left (fun hn => hn hs)
    rw [hi]
    go_wp2
    go_ret
    exact ⟨rfl, rfl⟩
  · have d1 : decide (s.state = st) = false := decide_eq_false hs
    clear h
    go_wp2
    go_ret
    exact ⟨rfl, rfl⟩

set_option maxRecDepth 100000 in
set_option maxHeartbeats 1000000 in
theorem answered_yes (s : Saga) (vw vg vp : Value) (b base i : Nat) (r : Int) (w : World) (ho : Ob w b 27 (sagaC s vw vg vp)) (hp : w.ownsRow base 3 1 vp s.pending.length (ints s.pending)) (hne : vp.ownBlock ≠ some b)
    (hi : Life.idxOf r s.pending = i) (hil : i < s.pending.length) :
    Calls Try.prog 77 #[.pointer (some ⟨b, 0, none⟩), .int .i64 s.state, .int .i64 r] w fun e w' => e = .returned (.bool true) ∧ ∃ vp', Ob w' b 27 (sagaC { s with pending := delAt s.pending i } vw vg vp') ∧ w'.ownsRow base 3 1 vp' (delAt s.pending i).length (ints (delAt s.pending i)) ∧ vp'.ownBlock = vp.ownBlock ∧ Kept (fun j => j < w.heap.size ∧ j ≠ b ∧ vp.ownBlock ≠ some j) w w' := by
  obtain ⟨-, -, -, -, -, k5, -, -, k8, -⟩ := ob_ten ho
  have cI := Lib.hid (Life.index_calls s.pending r vp 0 w.heap.size w ((IntsAt.of_own hp).wide (Nat.zero_le _) (Nat.le_refl _)))
  rw [hi] at cI
  have cD := Lib.hid (delete_calls s.pending i base vp w hp hil)
  have hlen : s.pending.length ≤ maxLen := by obtain ⟨A, c, -, h1, h2, -⟩ := (IntsAt.of_own hp).form; omega
  unfold maxLen at hlen
  have HO := Lib.hid ho
  have d1 : decide (s.state = s.state) = true := decide_eq_true rfl
  have d2 : decide ((i : Int) < 0) = false := decide_eq_false (by omega)
  obtain ⟨A, c, rfl, -⟩ := (IntsAt.of_own hp).form
  clear ho hp
  go_enter Try.func77, Try.ntmps77
  go_wp2_with fail
  refine cI.out.mono ?_
  rintro e w1 ⟨rfl, rfl⟩
  go_wp2_with fail
  refine cD.out.mono ?_
  rintro e w2 ⟨vp', rfl, hv, hg, hob⟩
  have ho2 := HO.out.kept hg (fun e => hne e.symm)
  have g8 : w2.cell? ⟨b, 8, none⟩ = some _ := ho2.cell rfl
  have f8 := ho2.frozen 8
  have ho3 : Ob _ b 27 (sagaC { s with pending := delAt s.pending i } vw vg vp') := ho2.set 8 vp'
  have hlt := HO.out.lt
  have hk : Kept (fun j => j < w.heap.size ∧ j ≠ b ∧ Value.ownBlock (.slice A s.pending.length c) ≠ some j) w (w2.setCell ⟨b, 8, none⟩ vp') :=
    (Kept.of_grown hg fun j hj => ⟨hj.1, fun e => hj.2.2 e.symm⟩).trans (Kept.of_grown (grownBy_set w2 b 8 vp') fun j hj => ⟨Nat.lt_of_lt_of_le hj.1 hg.size, fun e => hj.2.1 (by cases e; rfl)⟩)
  have hv3 : (w2.setCell ⟨b, 8, none⟩ vp').ownsRow base 3 1 vp' (delAt s.pending i).length (ints (delAt s.pending i)) :=
    hv.kept (grownBy_set w2 b 8 vp') (.inr fun e => hne (by rw [← hob]; exact e))
  obtain ⟨A1, c1, rfl, -⟩ := (IntsAt.of_own hv).form
  go_wp2
  go_ret
  exact ⟨rfl, _, ho3, hv3, hob, hk⟩
end Sa
end Go.Proofs.Ythfpfomifebpbaa

namespace Go.Proofs.Ythfpfomifebpbaa
open Go.RowKit Go.Maps
namespace Sa
open It
variable {mlo : Nat}

theorem sl_narrow {w : World} {lo B B' size n : Nat} {v : Value} {xs : List Value} (h : Sl w lo B size v n xs) (hg : ∀ g, v.ownBlock = some g → g < B') : Sl w lo B' size v n xs := by
  have hl := h.len
  obtain ⟨A, c, rfl, h1, h2, h3⟩ := h.at_
  refine ⟨hl, A, c, rfl, h1, h2, fun hn => ?_⟩
  obtain ⟨b, o, rfl, e1, e2, e3⟩ := h3 hn
  exact ⟨b, o, rfl, e1, hg b rfl, e3⟩
theorem own_kept {w w' : World} {base size n : Nat} {e : TypeId} {v : Value} {xs : List Value} {Fr : Nat → Prop} (h : w.ownsRow base e size v n xs) (hk : Kept Fr w w') (hF : ∀ g, v.ownBlock = some g → Fr g) : w'.ownsRow base e size v n xs := by
  refine ⟨h.1, h.2.elim Or.inl fun hx => .inr ?_⟩
  obtain ⟨g, cap, cur, rfl, hb, hg, hr⟩ := hx
  exact ⟨g, cap, cur, rfl, hb, (hk.block g (hF g rfl)).trans hg, hr⟩
theorem own_sl {w : World} {base B size n : Nat} {e : TypeId} {v : Value} {xs : List Value} (h : w.ownsRow base e size v n xs) (hB : ∀ g, v.ownBlock = some g → g < B) : Sl w base B size v n xs := sl_narrow (Sl.of_own h) hB

/-- a saga in block b, all whose parts are its own: want below P, pending in P .. G, the row of got in G .. L, its lists in L .. b -/
structure Mine (mlo : Nat) (w : World) (P G L b : Nat) (s : Saga) (vw vg vp : Value) : Prop where
  ob : Ob w b 27 (sagaC s vw vg vp)
  mP : mlo ≤ P
  PG : P ≤ G
  GL : G ≤ L
  Lb : L ≤ b
  want : ItemsAt w mlo P vw s.want
  pend : w.ownsRow P 3 1 vp s.pending.length (ints s.pending)
  pendG : ∀ g, vp.ownBlock = some g → g < G
  got : ∃ vs : List Value, vs.length = s.got.length ∧ w.ownsRow G 22 1 vg s.got.length vs ∧ (∀ g, vg.ownBlock = some g → g < L) ∧ ∀ k, k < s.got.length → ItemsAt w L b (vs.getD k (.slice none 0 0)) (s.got.getD k [])
section
variable {w w' : World} {P G L b : Nat} {s : Saga} {vw vg vp : Value}
theorem Mine.off (h : Mine mlo w P G L b s vw vg vp) : Off mlo w b s vw vg vp := by
  have hb := h.ob.lt
  have h0 := h.mP
  have h1 := h.PG
  have h2 := h.GL
  have h3 := h.Lb
  obtain ⟨vs, g1, g2, g3, g4⟩ := h.got
  refine ⟨by omega, ⟨mlo, P, Nat.le_refl _, .inl (by omega), by omega, h.want⟩, ⟨vs, g1, ⟨G, L, by omega, .inl h3, by omega, own_sl g2 g3⟩, fun k hk => ⟨L, b, by omega, .inl (Nat.le_refl _), by omega, g4 k hk⟩⟩, ⟨P, G, by omega, .inl (by omega), by omega, own_sl h.pend h.pendG⟩⟩
theorem Mine.later (h : Mine mlo w P G L b s vw vg vp) (hb : Below w.heap.size w w') : Mine mlo w' P G L b s vw vg vp := by
  have hlt := h.ob.lt
  have h0 := h.mP
  have h1 := h.PG
  have h2 := h.GL
  have h3 := h.Lb
  obtain ⟨vs, g1, g2, g3, g4⟩ := h.got
  exact ⟨h.ob.same hb, h0, h1, h2, h3, h.want.mono (hb.mono (by omega)) (Nat.le_refl _), row_later h.pend hb, h.pendG, vs, g1, row_later g2 hb, g3, fun k hk => (g4 k hk).mono (hb.mono (by omega)) (Nat.le_refl _)⟩
theorem mine_yes (i : Nat) (st r : Int) (h : Mine mlo w P G L b s vw vg vp) (hst : s.state = st) (hi : Life.idxOf r s.pending = i) (hil : i < s.pending.length) :
    Calls Try.prog 77 #[.pointer (some ⟨b, 0, none⟩), .int .i64 st, .int .i64 r] w fun e w' => e = .returned (.bool true) ∧ (∃ vp', Mine mlo w' P G L b { s with pending := delAt s.pending i } vw vg vp') ∧ Kept (fun j => j < w.heap.size ∧ (j < P ∨ b < j)) w w' := by
  have hlt := h.ob.lt
  have h0 := h.mP
  have h1 := h.PG
  have h2 := h.GL
  have h3 := h.Lb
  have hpG := h.pendG
  subst hst
  refine (answered_yes s vw vg vp b P i r w h.ob h.pend (fun e => by have := hpG b e; omega) hi hil).mono ?_
  rintro e w2 ⟨rfl, vp', ho, hp, hob, hk⟩
  obtain ⟨vs, g1, g2, g3, g4⟩ := h.got
  have hlo := fun g e => (h.pend.lt g e).1
  refine ⟨rfl, ⟨vp', ho, h0, h1, h2, h3, hk.sl h.want fun j _ hj => ⟨by omega, by omega, fun e => by have := hlo j e; omega⟩, hp, fun g e => hpG g (hob ▸ e), vs, g1, own_kept g2 hk fun g e => ⟨(g2.lt g e).2, by have := g3 g e; omega, fun e' => by have := hpG g e'; have := (g2.lt g e).1; omega⟩, g3, fun k hk' => hk.sl (g4 k hk') fun j ha hb => ⟨by omega, by omega, fun e => by have := hpG j e; omega⟩⟩, ?_⟩
  exact hk.mono fun j hj => ⟨by omega, by omega, fun e => by have := hlo j e; have := hpG j e; omega⟩
theorem mine_no (st r : Int) (h : Mine mlo w P G L b s vw vg vp) (hn : s.state ≠ st ∨ Life.idxOf r s.pending = -1) :
    Calls Try.prog 77 #[.pointer (some ⟨b, 0, none⟩), .int .i64 st, .int .i64 r] w fun e w' => e = .returned (.bool false) ∧ w = w' :=
  answered_no s vw vg vp b st r w h.ob h.off.pend.ints hn

/-- a region's place in the row of got -/
theorem Mine.place (h : Mine mlo w P G L b s vw vg vp) {r : Nat} (hr : r < s.got.length) :
    ∃ gb cap x, vg = .slice (some ⟨gb, 0, none⟩) s.got.length cap ∧ s.got.length ≤ cap ∧ cap ≤ maxLen ∧ G ≤ gb ∧ gb < L ∧ w.cell? ⟨gb, r, none⟩ = some x ∧ w.frozen? ⟨gb, r, none⟩ = false ∧ ItemsAt w L b x (s.got.getD r []) := by
  obtain ⟨vs, g1, g2, g3, g4⟩ := h.got
  have g2' := g2
  rcases g2.2 with ⟨rfl, hz⟩ | ⟨gb, cap, cur, rfl, q1, q2, q3, q4, q5, q6⟩
  · omega
  · refine ⟨gb, cap, vs.getD r (.slice none 0 0), rfl, q3, q4, q1, g3 gb rfl, ?_, by simp [World.frozen?, q2], g4 r hr⟩
    have hc : vs[r]? = cur[r]? := by
      rw [← q6, Nat.mul_one, List.getElem?_take_of_lt hr, Array.getElem?_toList]
    have hv : vs[r]? = some (vs.getD r (.slice none 0 0)) := by rw [List.getD, List.getElem?_eq_getElem (by omega)]; rfl
    rw [show w.cell? ⟨gb, r, none⟩ = cur[r]? by simp [World.cell?, q2], ← hc, hv]
theorem Mine.put {gb cap r : Nat} {x : Value} {l : List It.Item} (h : Mine mlo w P G L b s (vw) (.slice (some ⟨gb, 0, none⟩) s.got.length cap) vp) (hr : r < s.got.length) (hx : ItemsAt w (b + 1) w.heap.size x l) :
    Ob (w.setCell ⟨gb, r, none⟩ x) b 27 (sagaC { s with got := s.got.set r l } vw (.slice (some ⟨gb, 0, none⟩) s.got.length cap) vp) ∧
    Off mlo (w.setCell ⟨gb, r, none⟩ x) b { s with got := s.got.set r l } vw (.slice (some ⟨gb, 0, none⟩) s.got.length cap) vp := by
  have hlt := h.ob.lt
  have h0 := h.mP
  have h1 := h.PG
  have h2 := h.GL
  have h3 := h.Lb
  obtain ⟨vs, g1, g2, g3, g4⟩ := h.got
  have hgb := g3 gb rfl
  have hgG := (g2.lt gb rfl).1
  have hk : Kept (fun j => j < w.heap.size ∧ j ≠ gb) w (w.setCell ⟨gb, r, none⟩ x) := Kept.of_grown (grownBy_set w gb r x) fun j hj => ⟨hj.1, fun e => hj.2 (by cases e; rfl)⟩
  have hsz := set_size w gb r x
  refine ⟨h.ob.other (by omega) r x, ⟨by omega, ⟨mlo, P, Nat.le_refl _, .inl (by omega), by omega, hk.sl h.want fun j _ hj => ⟨by omega, by omega⟩⟩, ?_, ⟨P, G, by omega, .inl (by omega), by omega, hk.sl (own_sl h.pend h.pendG) fun j _ hj => ⟨by omega, by omega⟩⟩⟩⟩
  refine ⟨vs.set r x, by simp [g1], ?_, fun k hk' => ?_⟩
  · rcases g2.2 with ⟨e, hz⟩ | ⟨gb', cap', cur, e, q1, q2, q3, q4, q5, q6⟩
    · omega
    · cases e
      have hob : Ob w gb 22 cur := q2
      have hob' := hob.set r x
      refine ⟨G, L, by omega, .inl h3, by omega, own_sl (e := 22) ⟨by simp [g1], .inr ⟨gb, cap, _, by simp, q1, hob', by simpa using q3, q4, by simpa using q5, ?_⟩⟩ g3⟩
      have hcr : r < cur.size := by omega
      simp only [List.length_set, Nat.mul_one]
      rw [Nat.mul_one] at q6
      rw [← q6, ← List.take_set]
      congr 1
      simp
  · rw [List.length_set] at hk'
    by_cases e : k = r
    · subst e
      rw [show (vs.set k x).getD k (.slice none 0 0) = x by simp [List.getD, show k < vs.length by omega], show (s.got.set k l).getD k [] = l by simp [List.getD, hk']]
      exact ⟨b + 1, w.heap.size, by omega, .inr (by omega), by omega, hk.sl hx fun j ha hb => ⟨hb, by omega⟩⟩
    · rw [show (vs.set r x).getD k (.slice none 0 0) = vs.getD k (.slice none 0 0) by simp [List.getD, List.getElem?_set_ne (Ne.symm e)], show (s.got.set r l).getD k [] = s.got.getD k [] by simp [List.getD, List.getElem?_set_ne (Ne.symm e)]]
      exact ⟨L, b, by omega, .inl (Nat.le_refl _), by omega, hk.sl (g4 k hk') fun j ha hb => ⟨by omega, by omega⟩⟩
end
end Sa
end Go.Proofs.Ythfpfomifebpbaa

namespace Go.Proofs.Ythfpfomifebpbaa
open Go.RowKit Go.Maps
namespace It

def sa : ByteArray := ⟨#[97]⟩
def sb : ByteArray := ⟨#[98]⟩
def sc : ByteArray := ⟨#[99]⟩
def la : List Item := [(sa, 3), (sb, 2)]
def lb : List Item := [(sa, 1), (sc, 5)]
theorem l_meet : both meetF la lb = [(sa, 1)] := by kernel_rfl
theorem l_rest : both restF la lb = [(sa, 2), (sb, 2)] := by kernel_rfl
theorem l_plus : plusOf la lb = ([(sa, 4), (sb, 2), (sc, 5)], 0) := by kernel_rfl
theorem l_minus : minusOf la lb = ([], 51) := by kernel_rfl
theorem l_covers : covers la [(sa, 1)] = true := by kernel_rfl
theorem l_of : ofSum sb la = 2 := by kernel_rfl
theorem l_may : may la = true := by kernel_rfl
theorem fitsA : Fits la := by
  intro x hx
  simp only [la, List.mem_cons, List.not_mem_nil, or_false] at hx
  rcases hx with rfl | rfl <;> exact ⟨by simp [sa, sb, ByteArray.size, maxLen], by omega, by omega⟩
theorem fitsB : Fits lb := by
  intro x hx
  simp only [lb, List.mem_cons, List.not_mem_nil, or_false] at hx
  rcases hx with rfl | rfl <;> exact ⟨by simp [sa, sc, ByteArray.size, maxLen], by omega, by omega⟩
theorem fitsM : Fits [(sa, 1)] := by
  intro x hx
  simp only [List.mem_cons, List.not_mem_nil, or_false] at hx
  rcases hx with rfl
  exact ⟨by simp [sa, ByteArray.size, maxLen], by omega, by omega⟩

theorem neq_nil (b : Nat) (w : World) : (binOp .neq 95 (.func (.func 87) #[] #[.pointer (some ⟨b, 0, none⟩)]) .nilFunc).run Try.prog w = .ok (.bool true) w := by kernel_rfl

end It
end Go.Proofs.Ythfpfomifebpbaa
