/-
  moves: the document's Come.
-/
import Derived.Test.YtdbkkldgobkjcaaMvQ
import Derived.Laws.OwnMore
import Derived.Deep.AppendLies
import Derived.Deep.DeepMust
namespace Go.Proofs.Ytdbkkldgobkjcaa
open Go.RowKit Go.Maps
namespace Mv
open It

theorem way_info : (Try.prog.info? 42).map (fun i => (i.zero, i.size, i.bytes)) = some (some (.agg #[.int .i64 0, .int .i64 0, .int .i64 0, .slice none 0 0, .bool false]), 5, 56) := by kernel_rfl
theorem docCells_came : ∀ (es : List (Way × Value)) (i : Nat) (h : i < es.length), docCells (es.set i ({ es[i].1 with came := true }, es[i].2)) = (docCells es).set (i * 5 + 4) (.bool true)
  | p :: r, 0, _ => rfl
  | p :: r, i + 1, h => by
    have := docCells_came r i (by simpa using h)
    have e : (i + 1) * 5 + 4 = (i * 5 + 4) + 5 := by omega
    simp only [docCells, List.set_cons_succ, List.flatMap_cons, List.getElem_cons_succ] at this ⊢
    rw [this, e]
    rfl
theorem docCells_one {w : World} {base : Nat} {es : List (Way × Value)} (h : ∀ p ∈ es, ItemsAt w 0 base p.2 p.1.l) : ∀ y ∈ docCells es, y.oneCell' = true := by
  intro y hy
  obtain ⟨p, hp, hy⟩ := List.mem_flatMap.1 hy
  obtain ⟨A, c, e, -⟩ := (h p hp).form
  simp only [wayC, List.mem_cons, List.not_mem_nil, or_false] at hy
  rcases hy with rfl | rfl | rfl | rfl | rfl
  · rfl
  · rfl
  · rfl
  · rw [e]; rfl
  · rfl

set_option maxRecDepth 100000 in
set_option maxHeartbeats 4000000 in
theorem refcome_calls (k : Int) (xb base : Nat) (es : List (Way × Value)) (w : World) (h : DocAt w xb base es) (hs : Sorted (es.map (·.1))) (hB : base ≤ w.heap.size) (hxb : base ≤ xb) :
    Calls Try.prog 15 #[.pointer (some ⟨xb, 0, none⟩), .int .i64 k] w fun e w' => ∃ es' lv, e = .returned (.tuple #[lv, .int .i64 (comeOf (es.map (·.1)) k).2.2]) ∧
      ItemsAt w' 0 base lv (comeOf (es.map (·.1)) k).2.1 ∧ es'.map (·.1) = (comeOf (es.map (·.1)) k).1 ∧ DocAt w' xb base es' ∧ w.grownBy w' (some xb) := by
  have cF := Lib.hid (find_calls k xb base es w h)
  have H := Lib.hid h
  obtain ⟨i0, hi0, hz0⟩ := Option.map_eq_some_iff.1 way_info
  simp only [Prod.mk.injEq] at hz0
  obtain ⟨hz0, hz1, hz2⟩ := hz0
  rcases @idx_find (es.map (·.1)) k with ⟨h1, h2⟩ | ⟨i, hi, h1, h2, hk⟩
  · have hC : comeOf (es.map (·.1)) k = (es.map (·.1), [], 4) := by unfold comeOf; rw [h2]
    rw [hC]
    rw [h1] at cF
    clear hC h h1 h2
    go_enter Try.func15, Try.ntmps15
    go_wp2_with (go_at_call 20; refine cF.out.mono ?_; rintro e W ⟨rfl, rfl⟩)
    go_ret2
    exact ⟨es, _, rfl, ItemsAt.nil _ _ _, rfl, H.out, only_of_below (Below.refl _ _) _⟩
  · rw [h1] at cF
    have hi2 : i < es.length := by simpa using hi
    have hds : (es.map (·.1))[i] = es[i].1 := by simp
    rw [hds] at h2 hk
    obtain ⟨v, hx, hv⟩ := h.ob
    have hlen := h.len
    have hS := Sl.of_own hv
    have hone := docCells_one h.nest
    have hIi := h.nest es[i] (List.getElem_mem hi2)
    obtain ⟨A, c, rfl, hc1, hc2, -⟩ := hS.at_
    unfold maxLen at hc2
    obtain ⟨bo, o, rfl, -, hbo, c0, c1, c2, c3, c4⟩ := docAt_cell hS hi2
    have g0 := hx.cell (j := 0) (v := .slice (some ⟨bo, o, none⟩) es.length c) rfl
    have hgx := hx.frozen 0
    obtain ⟨Al, cl, hlv, -⟩ := hIi.form
    have hdi : decide ((i : Int) < 0) = false := by simp
    have hdl : decide ((i : Int) < (es.length : Int)) = true := by simp; omega
    cases hcm : es[i].1.came with
    | true =>
      have hC : comeOf (es.map (·.1)) k = (es.map (·.1), [], 5) := by unfold comeOf; rw [h2]; show (if es[i].1.came then _ else _) = _; rw [if_pos hcm]
      rw [hC]
      rw [hcm] at c4
      clear hC h1 h2 h hv hS hone hIi hds
      go_enter Try.func15, Try.ntmps15
      go_wp2_with (go_at_call 20; refine cF.out.mono ?_; rintro e W ⟨rfl, rfl⟩)
      go_ret2
      exact ⟨es, _, rfl, ItemsAt.nil _ _ _, rfl, H.out, only_of_below (Below.refl _ _) _⟩
    | false =>
      have hC : comeOf (es.map (·.1)) k = ((es.map (·.1)).set i { es[i].1 with came := true }, es[i].1.l, 0) := by
        unfold comeOf; rw [h2]; show (if es[i].1.came then _ else _) = _; rw [hcm]
        show (putW (es.map (·.1)) { es[i].1 with came := true }, es[i].1.l, (0 : Int)) = _
        rw [put_set hs i hi (by simp)]
      rw [hC]
      rw [hcm] at c4
      have HS := Lib.hid hS
      have HONE := Lib.hid hone
      clear hC h1 h2 h hS hone hds
      go_enter Try.func15, Try.ntmps15
      have hal := (Below.refl w.heap.size w).alloc (Nat.le_refl _) (.cells #[] 42)
      have g0a : (w.alloc (.cells #[] 42)).cell? ⟨xb, 0, none⟩ = some (.slice (some ⟨bo, o, none⟩) es.length c) := (hal.cell (p := ⟨xb, 0, none⟩) hx.lt).trans g0
      go_wp2_with (first
        | (go_at_call 20; refine cF.out.mono ?_; rintro e W ⟨rfl, rfl⟩)
        | (at_builtin; go_must (refine wpList_append_sl _ rfl (.tmp 21) (.tmp 25) _ rfl w.heap.size 42 i0 _ 5 56 Try.underlying26 hi0 hz0 hz1 hz2 rfl (by omega) (.slice (some ⟨w.heap.size, 0, none⟩) 0 0) 0 [] rfl (World.ownsRow_lit w #[] 0 (Nat.le_refl _) (Nat.zero_le _) rfl) base w.heap.size _ es.length (docCells es) rfl (Sl.below HS.out hal) HONE.out (by unfold maxLen; omega) (by omega) (by simp) ?_; intro v1 w1 hv1 hg1 hat1; have hB1 : Below w.heap.size w w1 := hal.grown hg1 (by simp) (fun g hg => by cases hg; exact Nat.le_refl _); have hown : w1.ownsRow w.heap.size 42 5 v1 es.length (docCells es) := (by simpa using hv1); obtain ⟨g, cap, rfl, hgl, hgs⟩ := World.ownsRow.form hown (show 0 < es.length by omega); have e4 : w1.cell? ⟨g, i * 5 + 4, none⟩ = some (.bool false) := (hown.cellAt _ (by omega)).trans ((docCells_get es i 4 hi2 (by omega)).trans (by simp [wayC, hcm])); have e5 := hown.frozenAt (i * 5 + 4); have e6 := (hx.same hB1).cell (j := 0) (v := .slice (some ⟨bo, o, none⟩) es.length c) rfl; have e7 := (hx.same hB1).frozen 0; have e8 : w1.cell? ⟨g, i * 5 + 3, none⟩ = some (.slice Al es[i].1.l.length cl) := (hown.cellAt _ (by omega)).trans ((docCells_get es i 3 hi2 (by omega)).trans (by simp [wayC, hlv])); clear hg1 hat1 hv1)))
      obtain ⟨st1, st2⟩ := hown.stored (i * 5 + 4) (.bool true)
      have hxl := hx.lt
      have hB2 : Below w.heap.size w (w1.setCell ⟨g, i * 5 + 4, none⟩ (.bool true)) := hB1.grown st2 hB1.size (fun k e => by cases e; exact hgl)
      have hx2 := ((hx.same hB1).other (show xb ≠ g by omega) (i * 5 + 4) (.bool true)).set 0 (.slice (some ⟨g, 0, none⟩) es.length cap)
      have hg3 := grownBy_set (w1.setCell ⟨g, i * 5 + 4, none⟩ (.bool true)) xb 0 (.slice (some ⟨g, 0, none⟩) es.length cap)
      have hrow := ownsRow_far st1 hg3 hxl
      have hgw := (only_of_below hB2 (some xb)).trans hg3
      have hBb : Below base w ((w1.setCell ⟨g, i * 5 + 4, none⟩ (.bool true)).setCell ⟨xb, 0, none⟩ (.slice (some ⟨g, 0, none⟩) es.length cap)) := (Below.refl base w).grown hgw hB (fun k e => by cases e; exact hxb)
      rw [← docCells_came es i hi2] at hrow
      have hnest : ∀ p ∈ es.set i ({ es[i].1 with came := true }, es[i].2), ItemsAt ((w1.setCell ⟨g, i * 5 + 4, none⟩ (.bool true)).setCell ⟨xb, 0, none⟩ (.slice (some ⟨g, 0, none⟩) es.length cap)) 0 base p.2 p.1.l := by
        intro p hp
        rcases List.mem_or_eq_of_mem_set hp with hp | rfl
        · exact (H.out.nest p hp).below hBb
        · exact hIi.below hBb
      have hI9 := hIi.below hBb
      rw [hlv] at hI9
      go_ret2
      refine ⟨es.set i ({ es[i].1 with came := true }, es[i].2), _, rfl, hI9, by rw [List.map_set], ⟨⟨_, hx2, ?_⟩, hnest, by simpa using hlen⟩, hgw⟩
      rw [List.length_set]
      exact ownsRow_wide hrow hB
end Mv
end Go.Proofs.Ytdbkkldgobkjcaa
