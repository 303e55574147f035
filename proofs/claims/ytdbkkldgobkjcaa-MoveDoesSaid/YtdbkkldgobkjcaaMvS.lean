/-
  moves: the document's Forget.
-/
import Derived.Test.YtdbkkldgobkjcaaMvR
import Derived.Test.YtdbkkldgobkjcaaPt
namespace Go.Proofs.Ytdbkkldgobkjcaa
open Go.RowKit Go.Maps
namespace Mv
open It

set_option maxRecDepth 100000 in
set_option maxHeartbeats 4000000 in
theorem refforget_calls (k : Int) (xb base : Nat) (es : List (Way × Value)) (w : World) (h : DocAt w xb base es) (hs : Sorted (es.map (·.1))) (hB : base ≤ w.heap.size) (hxb : base ≤ xb) :
    Calls Try.prog 18 #[.pointer (some ⟨xb, 0, none⟩), .int .i64 k] w fun e w' => ∃ es', e = .returned (.int .i64 (forgetOf (es.map (·.1)) k).2) ∧
      es'.map (·.1) = (forgetOf (es.map (·.1)) k).1 ∧ DocAt w' xb base es' ∧ w.grownBy w' (some xb) := by
  have cF := Lib.hid (find_calls k xb base es w h)
  have H := Lib.hid h
  obtain ⟨i0, hi0, hz0⟩ := Option.map_eq_some_iff.1 way_info
  simp only [Prod.mk.injEq] at hz0
  obtain ⟨hz0, hz1, hz2⟩ := hz0
  rcases @idx_find (es.map (·.1)) k with ⟨h1, h2⟩ | ⟨i, hi, h1, h2, hk⟩
  · have hC : forgetOf (es.map (·.1)) k = (es.map (·.1), 4) := by unfold forgetOf; rw [h2]
    rw [hC]
    rw [h1] at cF
    clear hC h h1 h2
    go_enter Try.func18, Try.ntmps18
    go_wp2_with (go_at_call 20; refine cF.out.mono ?_; rintro e W ⟨rfl, rfl⟩)
    go_ret
    exact ⟨es, rfl, rfl, H.out, only_of_below (Below.refl _ _) _⟩
  · rw [h1] at cF
    have hi2 : i < es.length := by simpa using hi
    have hds : (es.map (·.1))[i] = es[i].1 := by simp
    rw [hds] at h2 hk
    obtain ⟨v, hx, hv⟩ := h.ob
    have hlen := h.len
    have hS := Sl.of_own hv
    have hone := docCells_one h.nest
    obtain ⟨A, c, rfl, hc1, hc2, -⟩ := hS.at_
    unfold maxLen at hc2
    obtain ⟨bo, o, rfl, -, hbo, c0, c1, c2, c3, c4⟩ := docAt_cell hS hi2
    have g0 := hx.cell (j := 0) (v := .slice (some ⟨bo, o, none⟩) es.length c) rfl
    have hgx := hx.frozen 0
    have hdi : decide ((i : Int) < 0) = false := by simp
    have hdl : decide ((i : Int) < (es.length : Int)) = true := by simp; omega
    cases hcm : es[i].1.came with
    | false =>
      have hC : forgetOf (es.map (·.1)) k = (es.map (·.1), 80) := by unfold forgetOf; rw [h2]; show (if es[i].1.came then _ else _) = _; rw [hcm]; rfl
      rw [hC]
      rw [hcm] at c4
      clear hC h1 h2 h hv hS hone hds
      go_enter Try.func18, Try.ntmps18
      go_wp2_with (go_at_call 20; refine cF.out.mono ?_; rintro e W ⟨rfl, rfl⟩)
      go_ret
      exact ⟨es, rfl, rfl, H.out, only_of_below (Below.refl _ _) _⟩
    | true =>
      have hC : forgetOf (es.map (·.1)) k = ((es.map (·.1)).take i ++ (es.map (·.1)).drop (i + 1), 0) := by
        unfold forgetOf; rw [h2]; show (if es[i].1.came then _ else _) = _; rw [if_pos hcm]
        have := del_erase hs i hi
        rw [hds, hk] at this
        rw [this]
      rw [hC]
      rw [hcm] at c4
      have HS := Lib.hid hS
      have HONE := Lib.hid hone
      clear hC h1 h2 h hS hone hds hv
      go_enter Try.func18, Try.ntmps18
      go_wp2_with (go_at_call 20; refine cF.out.mono ?_; rintro e W ⟨rfl, rfl⟩)
      have g0d : w.drew.cell? ⟨xb, 0, none⟩ = some (.slice (some ⟨bo, o, none⟩) es.length c) := g0
      clear c0 c1 c2 c3 c4 hs hk hcm hi cF g0 hgx
      refine Pt.regionT (.look 0 (.look 2 (.look 3 (.look 4 (.look 5 (.look 6 (.look 7 (.look 9 (.look 10 (.look 11 (.look 12 (.look 13 (.look 14 (.look 15 (.look 17 (.look 18 (.make 1 (.make 8 (.make 16 (.make 19 .nil)))))))))))))))))))) (fun W => W.cell? ⟨xb, 0, none⟩ = some (.slice (some ⟨bo, o, none⟩) es.length c)) hmx (by kernel_rfl) (by kernel_rfl) (by kernel_rfl) g0d rfl ?_
      simp only [Pt.named, List.getElem?_toArray, List.getElem?_cons_succ, List.getElem?_cons_zero, Option.map_some]
      have l1 : (0 : Int) ≤ (i : Int) := by omega
      have l2 : (i : Int) ≤ (c : Int) := by omega
      iterate 13 (apply Pt.WalkT.on (by rfl)
                  · rintro W gW
                    go_wp2_with fail
                    refine ⟨rfl, ?_, rfl⟩
                    try simp only [Act.put, List.setIfInBounds_toArray, List.set_cons_succ, List.set_cons_zero]
                    rfl
                  simp only [Act.put, List.setIfInBounds_toArray, List.set_cons_succ, List.set_cons_zero])
      have l3 : (i : Int) + 1 ≤ (es.length : Int) := by omega
      have l4 : (0 : Int) ≤ (i : Int) + 1 := by omega
      obtain ⟨A3, hA3⟩ : ∃ A3, (if c = i + 1 then some (⟨bo, o, none⟩ : Addr) else some ⟨bo, o + (i + 1) * 5, none⟩) = A3 := ⟨_, rfl⟩
      have hc4 : i + 1 ≤ c := by omega
      apply Pt.WalkT.on (v := .slice A3 (es.length - (i + 1)) (c - (i + 1))) (by rfl)
      · rintro W gW
        by_cases hce : c = i + 1
        · have hA4 : A3 = some ⟨bo, o, none⟩ := by rw [← hA3, if_pos hce]
          rw [hA4]
          clear hA3 hA4
          go_wp2_with fail
          refine ⟨rfl, ?_, rfl⟩
          simp only [Act.put, List.setIfInBounds_toArray, List.set_cons_succ, List.set_cons_zero, Nat.sub_self]
        · have hA4 : A3 = some ⟨bo, o + (i + 1) * 5, none⟩ := by rw [← hA3, if_neg hce]
          rw [hA4]
          clear hA3 hA4
          go_wp2_with fail
          refine ⟨rfl, ?_, rfl⟩
          simp only [Act.put, List.setIfInBounds_toArray, List.set_cons_succ, List.set_cons_zero]
      simp only [Act.put, List.setIfInBounds_toArray, List.set_cons_succ, List.set_cons_zero]
      iterate 02 (apply Pt.WalkT.on (by rfl)
                  · rintro W gW
                    go_wp2_with fail
                    refine ⟨rfl, ?_, rfl⟩
                    try simp only [Act.put, List.setIfInBounds_toArray, List.set_cons_succ, List.set_cons_zero]
                    rfl
                  simp only [Act.put, List.setIfInBounds_toArray, List.set_cons_succ, List.set_cons_zero])
      have hal0 : Below w.heap.size w w.drew := (Below.refl _ w).drew
      have hx0 : Ob w.drew xb 28 #[.slice (some ⟨bo, o, none⟩) es.length c] := hx
      have HSd := Lib.hid (fun W (hb : Below w.heap.size w W) => Sl.below HS.out hb)
      refine Pt.WalkT.make (by rfl) ?_
      rintro W rfl
      go_wp2_with fail
      have hal := hal0.alloc hal0.size (.cells #[] 42)
      have hown0 := World.ownsRow_lit (e := 42) (size := 5) (base := w.heap.size) w.drew #[] 0 (Nat.le_refl _) (Nat.zero_le _) rfl
      have hx1 := hx0.alloc (.cells #[] 42)
      refine ⟨rfl, .slice (some ⟨w.heap.size, 0, none⟩) 0 0, _, (fun W => W = w.drew.alloc (.cells #[] 42)), ?_, rfl, (fun W h => by rw [h]; exact hx1.cell (j := 0) rfl), (.inr (fun _ h => h)), ?_⟩
      · simp only [Act.put, List.setIfInBounds_toArray, List.set_cons_succ, List.set_cons_zero]
      simp only [Act.put, List.setIfInBounds_toArray, List.set_cons_succ, List.set_cons_zero]
      generalize w.drew.alloc (.cells #[] 42) = W1 at *
      refine Pt.WalkT.make (by rfl) ?_
      rintro W rfl
      refine wpList_append_sl _ rfl (.tmp 21) (.tmp 27) _ rfl w.heap.size 42 i0 _ 5 56 Try.underlying26 hi0 hz0 hz1 hz2 rfl (by omega) (.slice (some ⟨w.heap.size, 0, none⟩) 0 0) 0 [] rfl hown0 base w.heap.size _ i ((docCells es).take (i * 5)) rfl ((Sl.upTo (HSd.out _ hal) (by omega))) (fun y hy => HONE.out y (List.mem_of_mem_take hy)) (by unfold maxLen; omega) (by omega) hal.size ?_
      intro v1 w1 hv1 hg1 hat1
      have hxl := hx.lt
      have hB1 : Below w.heap.size w w1 := hal.grown hg1 hal.size (fun g hg => by cases hg; exact Nat.le_refl _)
      have hown1 : w1.ownsRow w.heap.size 42 5 v1 i ((docCells es).take (i * 5)) := by simpa using hv1
      have hx2 := hx1.kept hg1 (fun e => by cases e; exact absurd hxl (Nat.lt_irrefl _))
      clear hv1 hg1 hat1 hown0 hx1
      refine ⟨rfl, v1, _, (fun W => W = w1), rfl, rfl, (fun W h => by rw [h]; exact hx2.cell (j := 0) rfl), (.inr (fun _ h => h)), ?_⟩
      simp only [Act.put, List.setIfInBounds_toArray, List.set_cons_succ, List.set_cons_zero]
      refine Pt.WalkT.make (by rfl) ?_
      rintro W rfl
      refine wpList_append_sl _ rfl (.tmp 28) (.tmp 35) _ rfl w.heap.size 42 i0 _ 5 56 Try.underlying26 hi0 hz0 hz1 hz2 rfl (by omega) v1 i ((docCells es).take (i * 5)) rfl hown1 base w.heap.size _ (es.length - (i + 1)) ((docCells es).drop ((i + 1) * 5)) rfl (by rw [← hA3]; exact Sl.onFrom (HSd.out _ hB1) (by omega)) (fun y hy => HONE.out y (List.mem_of_mem_drop hy)) (by unfold maxLen; omega) (by omega) hB1.size ?_
      intro v2 w2 hv2 hg2 hat2
      have hB2 : Below w.heap.size w w2 := hB1.grown hg2 hB1.size (fun g hg => (hown1.lt g hg).1)
      have hx3 := hx2.kept hg2 (fun e => by have := (hown1.lt xb e.symm).1; omega)
      have hl2 : i + (es.length - (i + 1)) = (es.take i ++ es.drop (i + 1)).length := by simp; omega
      rw [← docCells_take, ← docCells_drop, ← docCells_append, hl2] at hv2
      obtain ⟨A5, c5, rfl, -⟩ := (Sl.of_own hv2).at_
      have HV2 := Lib.hid hv2
      clear hv2 hg2 hat2 hx2 hown1
      refine ⟨rfl, _, _, (fun W => W = w2), rfl, rfl, (fun W h => by rw [h]; exact hx3.cell (j := 0) rfl), (.inr (fun _ h => h)), ?_⟩
      simp only [Act.put, List.setIfInBounds_toArray, List.set_cons_succ, List.set_cons_zero]
      refine Pt.WalkT.make (by rfl) ?_
      rintro W rfl
      have g3 := hx3.cell (j := 0) (v := .slice (some ⟨bo, o, none⟩) es.length c) rfl
      have f3 := hx3.frozen 0
      generalize hn2 : (es.take i ++ es.drop (i + 1)).length = n2 at *
      have HN2 := Lib.hid hn2
      clear hn2 hl2
      go_wp2_with fail
      have hx4 := hx3.set 0 (.slice A5 n2 c5)
      have hg4 := grownBy_set W xb 0 (.slice A5 n2 c5)
      refine ⟨rfl, undef, (fun _ => True), (fun V => V = W.setCell ⟨xb, 0, none⟩ (.slice A5 n2 c5)), rfl, rfl, (fun _ _ => trivial), (.inl (by kernel_rfl)), Pt.WalkT.nil ?_⟩
      rintro V rfl
      simp only [Act.put]
      have hrow := ownsRow_far HV2.out hg4 hxl
      have hgw := (only_of_below hB2 (some xb)).trans hg4
      have hBb : Below base w (W.setCell ⟨xb, 0, none⟩ (.slice A5 n2 c5)) := (Below.refl base w).grown hgw hB (fun k e => by cases e; exact hxb)
      have hnest : ∀ p ∈ es.take i ++ es.drop (i + 1), ItemsAt (W.setCell ⟨xb, 0, none⟩ (.slice A5 n2 c5)) 0 base p.2 p.1.l := by
        intro p hp
        refine (H.out.nest p ?_).below hBb
        rcases List.mem_append.1 hp with hp | hp
        · exact List.mem_of_mem_take hp
        · exact List.mem_of_mem_drop hp
      clear g3 f3
      go_wp2
      go_ret
      refine ⟨es.take i ++ es.drop (i + 1), rfl, by simp, ⟨⟨_, hx4, ?_⟩, hnest, by rw [List.length_append, List.length_take, List.length_drop]; omega⟩, hgw⟩
      rw [HN2.out]
      exact ownsRow_wide hrow hB
end Mv
end Go.Proofs.Ytdbkkldgobkjcaa
