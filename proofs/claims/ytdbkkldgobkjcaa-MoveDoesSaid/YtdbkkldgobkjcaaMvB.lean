/-
  moves: Move, Come, Forget.
-/
import Derived.Test.YtdbkkldgobkjcaaMvA
namespace Go.Proofs.Ytdbkkldgobkjcaa
open Go.RowKit Go.Maps
namespace Mv
open It

theorem _root_.Go.Proofs.Ytdbkkldgobkjcaa.Ob.five {w : World} {b : Nat} {t : TypeId} {x0 x1 x2 x3 x4 : Value} (h : Ob w b t #[x0, x1, x2, x3, x4]) :
    w.cell? ⟨b, 0, none⟩ = some x0 ∧ w.cell? ⟨b, 1, none⟩ = some x1 ∧ w.cell? ⟨b, 2, none⟩ = some x2 ∧ w.cell? ⟨b, 3, none⟩ = some x3 ∧ w.cell? ⟨b, 4, none⟩ = some x4 :=
  ⟨h.cell (j := 0) rfl, h.cell (j := 1) rfl, h.cell (j := 2) rfl, h.cell (j := 3) rfl, h.cell (j := 4) rfl⟩
theorem _root_.Go.Proofs.Ytdbkkldgobkjcaa.Ob.free5 {w : World} {b : Nat} {t : TypeId} {cs : Array Value} (h : Ob w b t cs) :
    w.frozen? ⟨b, 0, none⟩ = false ∧ w.frozen? ⟨b, 1, none⟩ = false ∧ w.frozen? ⟨b, 2, none⟩ = false ∧ w.frozen? ⟨b, 3, none⟩ = false ∧ w.frozen? ⟨b, 4, none⟩ = false :=
  ⟨h.frozen 0, h.frozen 1, h.frozen 2, h.frozen 3, h.frozen 4⟩
theorem _root_.Go.Proofs.Ytdbkkldgobkjcaa.Ob.set5 {w : World} {b : Nat} {t : TypeId} {y0 y1 y2 y3 y4 : Value} (h : Ob w b t #[y0, y1, y2, y3, y4]) (x0 x1 x2 x3 x4 : Value) :
    Ob (((((w.setCell ⟨b, 0, none⟩ x0).setCell ⟨b, 1, none⟩ x1).setCell ⟨b, 2, none⟩ x2).setCell ⟨b, 3, none⟩ x3).setCell ⟨b, 4, none⟩ x4) b t #[x0, x1, x2, x3, x4] :=
  ((((h.set 0 x0).set 1 x1).set 2 x2).set 3 x3).set 4 x4
theorem _root_.Go.Proofs.Ytdbkkldgobkjcaa.grown_set5 (w : World) (b : Nat) (x0 x1 x2 x3 x4 : Value) :
    w.grownBy (((((w.setCell ⟨b, 0, none⟩ x0).setCell ⟨b, 1, none⟩ x1).setCell ⟨b, 2, none⟩ x2).setCell ⟨b, 3, none⟩ x3).setCell ⟨b, 4, none⟩ x4) (some b) :=
  ((((grownBy_set w b 0 x0).trans (grownBy_set _ b 1 x1)).trans (grownBy_set _ b 2 x2)).trans (grownBy_set _ b 3 x3)).trans (grownBy_set _ b 4 x4)
theorem _root_.Go.Proofs.Ytdbkkldgobkjcaa.ownsRow_far {w w' : World} {lo b : Nat} {e : TypeId} {size n : Nat} {v : Value} {xs : List Value} (h : w.ownsRow lo e size v n xs) (hg : w.grownBy w' (some b)) (hb : b < lo) : w'.ownsRow lo e size v n xs := by
  refine h.kept hg ?_
  cases hv : v.ownBlock with
  | none => simp
  | some g => have := (h.lt g hv).1; exact .inr (by simp; omega)
theorem findW_mem {ds : List Way} {k : Int} {d : Way} (h : findW ds k = some d) : d ∈ ds ∧ d.mv = k := by
  unfold findW at h
  exact ⟨List.mem_of_find?_eq_some h, by simpa using List.find?_some h⟩

set_option maxRecDepth 100000 in
set_option maxHeartbeats 4000000 in
theorem move_calls (k : Int) (b mb : Nat) (X : Nat → Prop) (ds : List Way) (w : World) (h : MvAt w b mb X ds) (h0 : -9223372036854775808 ≤ k) (h1 : k ≤ 9223372036854775807) :
    Calls Try.prog 19 #[.pointer (some ⟨b, 0, none⟩), .int .i64 k] w fun e w' =>
      (∃ v, e = .returned (.tuple #[wayV ((findW ds k).getD way0) v, .bool (findW ds k).isSome]) ∧ w'.ownsRow w.heap.size 36 2 v ((findW ds k).getD way0).l.length (itemCells ((findW ds k).getD way0).l)) ∧ Below w.heap.size w w' := by
  obtain ⟨m, hm, hR⟩ := h.map
  have g0 : w.cell? ⟨b, 0, none⟩ = some (.map (some mb)) := h.ob.cell (j := 0) rfl
  have hmb := hm.lt
  have hbl := h.ob.lt
  have hkey := Lib.hid (keyI h0 h1)
  -- the world behind the first variable's block
  have hal := (Below.refl w.heap.size w).alloc (Nat.le_refl _) (.cells #[.int .i64 0, .int .i64 0, .int .i64 0, .slice none 0 0, .bool false] 42)
  have hm1 := Lib.hid (hm.below hal hmb)
  have cM := Lib.hid (made_calls b mb _ ((hal.cell (p := ⟨b, 0, none⟩) hbl).trans g0))
  have hval : ∃ d v, (findW ds k).getD way0 = d ∧ (mGet m k).getD (wayV way0 (.slice none 0 0)) = wayV d v ∧ ItemsAt w 0 w.heap.size v d.l ∧ (mGet m k).isSome = (findW ds k).isSome ∧ d.l.length ≤ 1000000 := by
    cases hf : findW ds k with
    | none => exact ⟨way0, _, rfl, by rw [hR.none hf]; rfl, ItemsAt.nil _ _ _, by rw [hR.none hf]; rfl, by simp [way0]⟩
    | some d =>
      obtain ⟨val, hg, hw⟩ := hR.some hf
      obtain ⟨v, rfl, hI⟩ := hw.items
      have := may_len (h.ok d (findW_mem hf).1).l
      exact ⟨d, v, rfl, by rw [hg]; rfl, hI, by rw [hg]; rfl, by omega⟩
  obtain ⟨d, v, hd, hg, hI, hs, hlen⟩ := hval
  rw [hd]
  obtain ⟨mv, fr, to_, l, came⟩ := d
  dsimp only at hI hlen
  have HG := Lib.hid (show (mGet m k).getD (wayV way0 (.slice none 0 0)) = .agg #[.int .i64 mv, .int .i64 fr, .int .i64 to_, v, .bool came] from hg)
  have HS := Lib.hid hs
  generalize (findW ds k).isSome = kn at *
  clear hd hg hs hm hR h
  obtain ⟨A, c, rfl, -⟩ := hI.form
  go_enter Try.func19, Try.ntmps19
  go_wp2_with (first
    | (go_at_call 39; refine cM.out.mono ?_; rintro e W ⟨rfl, rfl⟩)
    | (at_lookup; refine wpList_look_ok_g rfl (.tmp 16) (.tmp 17) _ rfl 3 _ keyedI Try.underlying79 rfl hm1.out (zeroW _) _ _ rfl hkey.out _ _ HG.out HS.out ?_))
  have hO4 : Ob ((w.alloc (.cells #[.int .i64 0, .int .i64 0, .int .i64 0, .slice none 0 0, .bool false] 42)).alloc (.cells #[.int .i64 mv, .int .i64 fr, .int .i64 to_, .slice A l.length c, .bool came] 42)) w.heap.size 42 #[.int .i64 0, .int .i64 0, .int .i64 0, .slice none 0 0, .bool false] := (Ob.new w _ _).alloc _
  have hO6 : Ob ((w.alloc (.cells #[.int .i64 0, .int .i64 0, .int .i64 0, .slice none 0 0, .bool false] 42)).alloc (.cells #[.int .i64 mv, .int .i64 fr, .int .i64 to_, .slice A l.length c, .bool came] 42)) (w.heap.size + 1) 42 #[.int .i64 mv, .int .i64 fr, .int .i64 to_, .slice A l.length c, .bool came] := by
    have := Ob.new (w.alloc (.cells #[.int .i64 0, .int .i64 0, .int .i64 0, .slice none 0 0, .bool false] 42)) 42 #[.int .i64 mv, .int .i64 fr, .int .i64 to_, .slice A l.length c, .bool came]
    rwa [World.size_alloc] at this
  have hB0 : Below w.heap.size w ((w.alloc (.cells #[.int .i64 0, .int .i64 0, .int .i64 0, .slice none 0 0, .bool false] 42)).alloc (.cells #[.int .i64 mv, .int .i64 fr, .int .i64 to_, .slice A l.length c, .bool came] 42)) := hal.alloc (by simp) _
  generalize (w.alloc (.cells #[.int .i64 0, .int .i64 0, .int .i64 0, .slice none 0 0, .bool false] 42)).alloc (.cells #[.int .i64 mv, .int .i64 fr, .int .i64 to_, .slice A l.length c, .bool came] 42) = W0 at *
  refine (clonei_calls l _ W0 (hI.mono hB0 hB0.size) hlen).mono ?_
  rintro e W1 ⟨⟨cv, rfl, hcv⟩, hb1⟩
  have hO41 := hO4.same hb1
  obtain ⟨c40, c41, c42, c43, c44⟩ := hO41.five
  obtain ⟨f40, f41, f42, f43, f44⟩ := (hO4.same hb1).free5
  obtain ⟨c60, c61, c62, c63, c64⟩ := (hO6.same hb1).five
  obtain ⟨f60, f61, f62, f63, f64⟩ := (hO6.same hb1).free5
  have hs0 := hB0.size
  have hlt6 := hO6.lt
  have HCV := Lib.hid hcv
  obtain ⟨Ac, cc, rfl, -⟩ := (ItemsAt.of_own hcv).form
  have hB1 := hB0.trans (hb1.mono hB0.size)
  clear hcv hO4 hO6 hal hm1 cM HG hI
  go_wp2
  have hg1 := grownBy_set W1 (w.heap.size + 1) 3 (.slice Ac l.length cc)
  have hO5 := (hO41.kept hg1 (fun e => by have := Option.some.inj e; omega)).set5 (.int .i64 mv) (.int .i64 fr) (.int .i64 to_) (.slice Ac l.length cc) (.bool came)
  have hg2 := grown_set5 (W1.setCell ⟨w.heap.size + 1, 3, none⟩ (.slice Ac l.length cc)) w.heap.size (.int .i64 mv) (.int .i64 fr) (.int .i64 to_) (.slice Ac l.length cc) (.bool came)
  generalize (((((W1.setCell ⟨w.heap.size + 1, 3, none⟩ (.slice Ac l.length cc)).setCell ⟨w.heap.size, 0, none⟩ (.int .i64 mv)).setCell ⟨w.heap.size, 1, none⟩ (.int .i64 fr)).setCell ⟨w.heap.size, 2, none⟩ (.int .i64 to_)).setCell ⟨w.heap.size, 3, none⟩ (.slice Ac l.length cc)).setCell ⟨w.heap.size, 4, none⟩ (.bool came) = W2 at *
  obtain ⟨q0, q1, q2, q3, q4⟩ := hO5.five
  have hs1 := hb1.size
  have hB2 : Below w.heap.size w W2 := (hB1.grown hg1 hB1.size (fun g e => by have := Option.some.inj e; omega)).grown hg2 (by have := hg1.size; omega) (fun g e => by have := Option.some.inj e; omega)
  have hown := ownsRow_far (ownsRow_far HCV.out hg1 hlt6) hg2 (by omega)
  refine bodyPost_ret (v := .tuple #[.agg #[.int .i64 mv, .int .i64 fr, .int .i64 to_, .slice Ac l.length cc, .bool came], .bool kn]) ?_ rfl ⟨⟨_, rfl, ownsRow_wide hown hB0.size⟩, hB2⟩
  simp [results, Try.f19, go_sem, q0, q1, q2, q3, q4]
end Mv
end Go.Proofs.Ytdbkkldgobkjcaa
