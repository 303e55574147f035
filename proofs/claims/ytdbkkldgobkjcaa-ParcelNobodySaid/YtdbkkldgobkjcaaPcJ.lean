/-
  parcels: the law Nobody.
-/
import Derived.Test.YtdbkkldgobkjcaaPcI
import Derived.Test.YtdbkkldgobkjcaaOpp
namespace Go.Proofs.Ytdbkkldgobkjcaa
open Go.RowKit Go.Maps
namespace Pc
open It Mv
attribute [local go_sem] Oper.semAt_some

set_option maxRecDepth 100000 in
set_option maxHeartbeats 4000000 in
theorem nobody_law (kd od rg : Int) (A : Option Addr) (n c : Nat) (w : World) :
    Calls Try.prog 9 #[.agg #[.int .i64 kd, .int .i64 od, .int .i64 rg, .slice A n c]] w fun e w' => e = .returned (.bool true) ∧ Below w.heap.size w w' := by
  have hen := eql_nilP
  refine (callsIn_wide (n := 6)).1 ?_
  refine callsIn_of_wp_marks Try.func9 rfl trivial ?_ rfl
  simp only [Try.ntmps9, List.size_toArray, List.length_cons, List.length_nil, Nat.reduceAdd, Nat.reduceSub, Array.replicate_succ, Array.replicate_zero, List.push_toArray, List.append_toArray, List.nil_append, List.cons_append]
  gi_wp2_with (refine ⟨trivial, ?_⟩; gi_at_call 35; refine (callsIn_wide.2 (all_calls _ _)).mono ?_; rintro e w' ⟨rfl, rfl⟩)
  have hB3 : Below w.heap.size w (((w.alloc (.cells #[.int .i64 kd, .int .i64 od, .int .i64 rg, .slice A n c] 64)).alloc (.cells #[.bool false] 4)).alloc (.cells #[.pointer none] 60)) := (((Below.refl _ w).alloc (Nat.le_refl _) _).alloc (by simp) _).alloc (by simp; omega) _
  have o1 := ((Ob.new w 64 #[.int .i64 kd, .int .i64 od, .int .i64 rg, .slice A n c]).alloc (.cells #[.bool false] 4)).alloc (.cells #[.pointer none] 60)
  have o2 := (Ob.new (w.alloc (.cells #[.int .i64 kd, .int .i64 od, .int .i64 rg, .slice A n c] 64)) 4 #[.bool false]).alloc (.cells #[.pointer none] 60)
  have o3 := Ob.new ((w.alloc (.cells #[.int .i64 kd, .int .i64 od, .int .i64 rg, .slice A n c] 64)).alloc (.cells #[.bool false] 4)) 60 #[.pointer none]
  simp only [World.size_alloc] at o2 o3
  have hs3 : w.heap.size + 3 = (((w.alloc (.cells #[.int .i64 kd, .int .i64 od, .int .i64 rg, .slice A n c] 64)).alloc (.cells #[.bool false] 4)).alloc (.cells #[.pointer none] 60)).heap.size := by simp
  generalize (((w.alloc (.cells #[.int .i64 kd, .int .i64 od, .int .i64 rg, .slice A n c] 64)).alloc (.cells #[.bool false] 4)).alloc (.cells #[.pointer none] 60)) = w3 at *
  refine ⟨trivial, (callsIn_wide.2 (lives_calls w3)).mono ?_⟩
  rintro e W ⟨rfl, hb1⟩
  gi_wp2
  replace o1 := o1.same hb1
  replace o2 := o2.same hb1
  replace o3 := o3.same hb1
  have hBW := hB3.trans (hb1.mono hB3.size)
  have hsW := hb1.size
  clear hb1 hB3
  refine Rr.range_reads (n := 6) rfl (by omega) (gf := 55) rfl trivial (enters_of Try.func55 (by kernel_rfl) rfl)
    (all_nil 5 (by omega) (w.heap.size + 1 + 1) W o3) (Below.refl _ _) (fun h k => h.trans k) (fun W l r r' hl h => belowK_b (Nat.le_refl _) W l _ _ hl h rfl rfl) rfl
    (fun _ V => Ob V w.heap.size 64 #[.int .i64 kd, .int .i64 od, .int .i64 rg, .slice A n c] ∧ Below w.heap.size W V ∧ Ob V (w.heap.size + 1) 4 #[.bool false])
    (fun _ _ _ => False)
    (fun s A B row hs hg hr => ⟨ob_keep hs.1 hg (fun r e => (hr r e).2), ownFrom_below (B := W.heap.size) (by omega) (by omega) s A B row hs.2.1 hg hr, ob_keep hs.2.2 hg (fun r e => (hr r e).2)⟩)
    (fun c s A B row hs hg hr => hs.elim)
    ⟨o1, Below.refl _ _, o2⟩ ?round ?done ?stop
  case round => exact fun l pre d v W _ _ h => h.elim
  case stop => exact fun D c pre W _ h => h.elim
  case done =>
    rintro D xs V hD - ⟨p1, hB, p2⟩ hK
    have HP := Lib.hid (show ∀ V V', (Ob V w.heap.size 64 #[.int .i64 kd, .int .i64 od, .int .i64 rg, .slice A n c] ∧ Below w.heap.size W V ∧ Ob V (w.heap.size + 1) 4 #[.bool false] ∧ V.heap[D]? = some (.deferred (some []))) → Below V.heap.size V V' →
      (Ob V' w.heap.size 64 #[.int .i64 kd, .int .i64 od, .int .i64 rg, .slice A n c] ∧ Below w.heap.size W V' ∧ Ob V' (w.heap.size + 1) 4 #[.bool false] ∧ V'.heap[D]? = some (.deferred (some []))) from
      fun V V' h hb => ⟨h.1.same hb, h.2.1.trans (hb.mono (Nat.le_trans (by omega) h.2.1.size)), h.2.2.1.same hb, (hb.block D (Array.getElem?_eq_some_iff.1 h.2.2.2).1).trans h.2.2.2⟩)
    have P0 := Lib.hid (And.intro p1 (And.intro hB (And.intro p2 hK)))
    obtain ⟨d0, d1, d2, d3⟩ := p1.four
    have cO := Lib.hid (fun V => open_nil od (.slice A n c) V)
    have cS := Lib.hid (fun V => ship_nil od rg (.slice A n c) V)
    have cBk := Lib.hid (fun V => back_nil od (.slice A n c) V)
    have cU := Lib.hid (fun V => undo_nil od (.slice A n c) V)
    have cLf := Lib.hid (fun V => left_nil od V)
    have cL := Lib.hid (fun V => len_nil V)
    have cSm := fun V => sameP_calls ⟨0, [], [], []⟩ ⟨0, [], [], []⟩ (.slice none 0 0) (.slice none 0 0) (.slice none 0 0) (.slice none 0 0) (.slice none 0 0) (.slice none 0 0) V (ItemsAt.nil _ _ _) (ItemsAt.nil _ _ _) (ItemsAt.nil _ _ _) (ItemsAt.nil _ _ _) (ItemsAt.nil _ _ _) (ItemsAt.nil _ _ _)
    rw [(sameP_iff _ _).2 rfl] at cSm
    simp only [pclV] at cSm
    have CSm := Lib.hid cSm
    clear p1 hB p2 hK o1 o2 o3 cSm
    gi_wp2
    refine ⟨trivial, (callsIn_wide.2 (parcel_nil od V)).mono ?_⟩
    rintro e V1 ⟨rfl, hb1⟩
    have P1 := Lib.hid (HP.out _ _ P0.out hb1)
    have P2 := Lib.hid (HP.out _ _ P1.out ((Below.refl _ V1).alloc (Nat.le_refl _) (.cells #[.int .i64 0, .slice none 0 0, .slice none 0 0, .slice none 0 0] 70)))
    have hO7 := Ob.new V1 70 #[.int .i64 0, .slice none 0 0, .slice none 0 0, .slice none 0 0]
    have hsz1 : V1.heap.size < (V1.alloc (.cells #[.int .i64 0, .slice none 0 0, .slice none 0 0, .slice none 0 0] 70)).heap.size := by simp
    clear d0 d1 d2 d3 P0 P1 hb1
    simp only [pclV]
    obtain ⟨d0, d1, d2, d3⟩ := P2.out.1.four
    gi_wp2_with (refine ⟨trivial, ?_⟩; gi_at_call 30; refine (callsIn_wide.2 (cO.out _)).mono ?_; rintro e V3 ⟨rfl, rfl⟩)
    generalize V1.alloc (.cells #[.int .i64 0, .slice none 0 0, .slice none 0 0, .slice none 0 0] 70) = V2 at *
    generalize V1.heap.size = k at *
    refine ⟨trivial, (callsIn_wide.2 (cS.out _)).mono ?_⟩
    rintro e V3 ⟨rfl, hb3⟩
    have P3 := Lib.hid (HP.out _ _ P2.out hb3)
    replace hO7 := hO7.same hb3
    clear d0 d1 d2 d3 P2 hb3 hsz1
    obtain ⟨d0, d1, d2, d3⟩ := P3.out.1.four
    gi_wp2
    refine ⟨trivial, (callsIn_wide.2 (cBk.out _)).mono ?_⟩
    rintro e V4 ⟨rfl, hb4⟩
    have P4 := Lib.hid (HP.out _ _ P3.out hb4)
    replace hO7 := hO7.same hb4
    clear d0 d1 d2 d3 P3 hb4
    obtain ⟨d0, d1, d2, d3⟩ := P4.out.1.four
    gi_wp2
    refine ⟨trivial, (callsIn_wide.2 (cU.out _)).mono ?_⟩
    rintro e V5 ⟨rfl, hb5⟩
    have P5 := Lib.hid (HP.out _ _ P4.out hb5)
    replace hO7 := hO7.same hb5
    clear d0 d1 d2 d3 P4 hb5
    obtain ⟨d0, d1, d2, d3⟩ := P5.out.1.four
    obtain ⟨e0, e1, e2, e3⟩ := hO7.four
    gi_wp2
    refine ⟨trivial, (callsIn_wide.2 (CSm.out _)).mono ?_⟩
    rintro e V6 ⟨rfl, hb6⟩
    have P6 := Lib.hid (HP.out _ _ P5.out hb6)
    clear d0 d1 d2 d3 e0 e1 e2 e3 P5 hb6 hO7
    obtain ⟨d0, d1, d2, d3⟩ := P6.out.1.four
    gi_wp2
    refine ⟨trivial, (callsIn_wide.2 (cLf.out _)).mono ?_⟩
    rintro e V7 ⟨⟨lv, rfl, hlv⟩, hb7⟩
    obtain ⟨Al, cl, rfl, -⟩ := (Sl.of_own hlv).at_
    have P7 := Lib.hid (HP.out _ _ P6.out hb7)
    clear d0 d1 d2 d3 P6 hb7 hlv
    have r2 := P7.out.2.2.1.cell (j := 0) (v := .bool false) rfl
    have f2 := P7.out.2.2.1.frozen 0
    gi_wp2
    refine ⟨trivial, (callsIn_wide.2 (cL.out _)).mono ?_⟩
    rintro e V8 ⟨rfl, rfl⟩
    gi_wp2
    obtain ⟨p1, hB, p2, hK⟩ := P7.out
    have hBs := hB.size
    have hBB := hB.grown (grownBy_set V7 (w.heap.size + 1) 0 (.bool true)) (by omega) (fun k e => by cases e; omega)
    have hb22 := p2.set 0 (.bool true)
    have hK2 : (V7.setCell ⟨w.heap.size + 1, 0, none⟩ (.bool true)).heap[D]? = some (.deferred (some [])) := ((grownBy_set V7 (w.heap.size + 1) 0 (.bool true)).block D (Array.getElem?_eq_some_iff.1 hK).1 (fun e => by cases e; omega)).trans hK
    refine ⟨by simp, .inl ⟨_, _, rfl, run_takeDeferred hK2, ?_⟩⟩
    have c4 := (boxed_end hb22 hK2).cell
    refine ⟨.bool true, ?_, rfl, below_end (hBW.trans hBB) (by have := hBW.size; omega) hK2⟩
    simp [results, Try.f9, go_sem, c4]
theorem nobody_op (o : OpV) (lv : Value) (w : World) (h : ItemsAt w 0 w.heap.size lv o.l) :
    Calls Try.prog 9 #[.agg (opC o lv).toArray] w fun e w' => e = .returned (.bool true) ∧ Below w.heap.size w w' := by
  obtain ⟨A, c, rfl, -⟩ := h.form
  exact nobody_law o.kd o.od o.rg A _ c w
end Pc
end Go.Proofs.Ytdbkkldgobkjcaa
