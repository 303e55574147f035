/-
  items: the walk of sums.
-/
import Derived.Test.YtdbkkldgobkjcaaItI
import Derived.StringKeys
import Derived.Carry
namespace Go.Proofs.Ytdbkkldgobkjcaa
open Go.RowKit Go.Maps
namespace It
attribute [local go_sem] Oper.semAt_some

theorem keyedS : Keyed Try.prog 9 := string_keyed Try.underlying9
theorem zeroI (w : World) : (zeroValue 3).run Try.prog w = .ok (.int .i64 0) w := by kernel_rfl
theorem key_str {s : ByteArray} (h : s.size ≤ maxLen) : keyOf Try.prog 9 (.string s) = some (strK.lit s.data.toList) := WideMaps.keyOf_string_mk Try.underlying9 h

set_option maxRecDepth 100000 in
set_option maxHeartbeats 4000000 in
theorem sums_calls (L : List Item) (v : Value) (w : World) (hI : ItemsAt w 0 w.heap.size v L) (hF : Fits L) :
    Calls Try.prog 74 #[v] w fun e w' => ((sumsCode L = 0 ∧ ∃ b m, e = .returned (.tuple #[.map (some b), .int .i64 0]) ∧ w.heap.size ≤ b ∧ GMap strK w' Try.prog 9 b m ∧ m.length ≤ L.length ∧ Tells m L) ∨
      (sumsCode L ≠ 0 ∧ e = .returned (.tuple #[.map none, .int .i64 (sumsCode L)]))) ∧ Below w.heap.size w w' := by
  obtain ⟨A, c, rfl, hc1, hc2⟩ := hI.form
  unfold maxLen at hc2
  refine (callsIn_wide (n := 6)).1 ?_
  refine callsIn_of_wp_marks Try.func74 rfl trivial ?_ rfl
  simp only [Try.ntmps74, List.size_toArray, List.length_cons, List.length_nil, Nat.reduceAdd, Nat.reduceSub, Array.replicate_succ, Array.replicate_zero, List.push_toArray, List.append_toArray, List.nil_append, List.cons_append]
  have hmm := @run_makeMap Try.prog
  gi_wp2_with (refine ⟨trivial, ?_⟩; gi_at_call 58; refine (callsIn_wide.2 (all_calls A _ c _)).mono ?_; rintro e w' ⟨rfl, rfl⟩)
  have bm : Boxed (((((w.alloc (.cells #[.map none] 115)).alloc (.cells #[.int .i64 0] 33)).alloc (.map #[] 0)).alloc (.cells #[.map (some (w.heap.size + 1 + 1))] 115)).alloc (.cells #[.slice A L.length c] 30)) w.heap.size 115 (.map none) :=
    ((((Boxed.new w _ _).alloc _).alloc _).alloc _).alloc _
  have be : Boxed (((((w.alloc (.cells #[.map none] 115)).alloc (.cells #[.int .i64 0] 33)).alloc (.map #[] 0)).alloc (.cells #[.map (some (w.heap.size + 1 + 1))] 115)).alloc (.cells #[.slice A L.length c] 30)) (w.heap.size + 1) 33 (.int .i64 0) := by
    have := (((Boxed.new (w.alloc (.cells #[.map none] 115)) 33 (.int .i64 0)).alloc (.map #[] 0)).alloc (.cells #[.map (some (w.heap.size + 1 + 1))] 115)).alloc (.cells #[.slice A L.length c] 30)
    simpa only [World.size_alloc] using this
  have gm : GMap strK (((((w.alloc (.cells #[.map none] 115)).alloc (.cells #[.int .i64 0] 33)).alloc (.map #[] 0)).alloc (.cells #[.map (some (w.heap.size + 1 + 1))] 115)).alloc (.cells #[.slice A L.length c] 30)) Try.prog 9 (w.heap.size + 1 + 1) [] := by
    have := ((GMap.made (K := strK) ((w.alloc (.cells #[.map none] 115)).alloc (.cells #[.int .i64 0] 33)) Try.prog 9).kept (World.grownBy_alloc _ (.cells #[.map (some (w.heap.size + 1 + 1))] 115) none) (by simp)).kept (World.grownBy_alloc _ (.cells #[.slice A L.length c] 30) none) (by simp)
    simpa only [World.size_alloc] using this
  have bx : Boxed (((((w.alloc (.cells #[.map none] 115)).alloc (.cells #[.int .i64 0] 33)).alloc (.map #[] 0)).alloc (.cells #[.map (some (w.heap.size + 1 + 1))] 115)).alloc (.cells #[.slice A L.length c] 30)) (w.heap.size + 1 + 1 + 1) 115 (.map (some (w.heap.size + 1 + 1))) := by
    have := (Boxed.new (((w.alloc (.cells #[.map none] 115)).alloc (.cells #[.int .i64 0] 33)).alloc (.map #[] 0)) 115 (.map (some (w.heap.size + 1 + 1)))).alloc (.cells #[.slice A L.length c] 30)
    simpa only [World.size_alloc] using this
  have bl : Boxed (((((w.alloc (.cells #[.map none] 115)).alloc (.cells #[.int .i64 0] 33)).alloc (.map #[] 0)).alloc (.cells #[.map (some (w.heap.size + 1 + 1))] 115)).alloc (.cells #[.slice A L.length c] 30)) (w.heap.size + 1 + 1 + 1 + 1) 30 (.slice A L.length c) := by
    have := Boxed.new ((((w.alloc (.cells #[.map none] 115)).alloc (.cells #[.int .i64 0] 33)).alloc (.map #[] 0)).alloc (.cells #[.map (some (w.heap.size + 1 + 1))] 115)) 30 (.slice A L.length c)
    simpa only [World.size_alloc] using this
  have hB1 : Below w.heap.size w (((((w.alloc (.cells #[.map none] 115)).alloc (.cells #[.int .i64 0] 33)).alloc (.map #[] 0)).alloc (.cells #[.map (some (w.heap.size + 1 + 1))] 115)).alloc (.cells #[.slice A L.length c] 30)) :=
    (((((Below.refl _ w).alloc (Nat.le_refl _) _).alloc (by simp) _).alloc (by simp; omega) _).alloc (by simp; omega) _).alloc (by simp; omega) _
  have hs1 : w.heap.size + 1 + 1 + 1 + 1 + 1 = (((((w.alloc (.cells #[.map none] 115)).alloc (.cells #[.int .i64 0] 33)).alloc (.map #[] 0)).alloc (.cells #[.map (some (w.heap.size + 1 + 1))] 115)).alloc (.cells #[.slice A L.length c] 30)).heap.size := by simp
  generalize (((((w.alloc (.cells #[.map none] 115)).alloc (.cells #[.int .i64 0] 33)).alloc (.map #[] 0)).alloc (.cells #[.map (some (w.heap.size + 1 + 1))] 115)).alloc (.cells #[.slice A L.length c] 30)) = w1 at *
  refine range_all (n := 6) rfl trivial (by omega) (Bs := w.heap.size + 1 + 1 + 1 + 1) (n₀ := w.heap.size) (v := .slice A L.length c) (L := L) rfl rfl (by omega) (by omega) bl.cell (hI.below hB1)
    (fun pre W => (vals pre).all okC = true ∧ Boxed W w.heap.size 115 (.map none) ∧ Boxed W (w.heap.size + 1) 33 (.int .i64 0) ∧ Boxed W (w.heap.size + 1 + 1 + 1) 115 (.map (some (w.heap.size + 1 + 1))) ∧ GMap strK W Try.prog 9 (w.heap.size + 1 + 1) [])
    (fun c pre W => c = .ret ∧ (vals pre).all okC = false ∧ Boxed W w.heap.size 115 (.map none) ∧ Boxed W (w.heap.size + 1) 33 (.int .i64 60))
    (fun s A B row hs hg hr => ⟨hs.1, boxed_keep hs.2.1 hg (fun r e => (hr r e).2), boxed_keep hs.2.2.1 hg (fun r e => (hr r e).2), boxed_keep hs.2.2.2.1 hg (fun r e => (hr r e).2), hs.2.2.2.2.kept hg (fun e => by have := (hr _ e.symm).1; omega)⟩)
    (fun c s A B row hs hg hr => ⟨hs.1, hs.2.1, boxed_keep hs.2.2.1 hg (fun r e => (hr r e).2), boxed_keep hs.2.2.2 hg (fun r e => (hr r e).2)⟩)
    ⟨rfl, bm, be, bx, gm⟩
    (fun x => { tmps := #[.slice A L.length c, undef, .pointer (some ⟨w.heap.size, 0, none⟩), .pointer (some ⟨w.heap.size + 1, 0, none⟩), .pointer (some ⟨w.heap.size + 1 + 1 + 1, 0, none⟩), .string x.1.1, .int .i64 x.1.2, undef, undef, undef, undef, .map (some (w.heap.size + 1 + 1)), .slice A L.length c, .func (.func 73) #[] #[.pointer (some ⟨w.heap.size + 1 + 1 + 1 + 1, 0, none⟩)], .string x.1.1, .int .i64 x.1.2, undef, undef, undef, undef, undef, undef, undef, undef, undef, undef, undef, undef, undef, undef, undef, undef, undef, undef, undef, undef, undef, undef, undef, undef, undef, undef, undef], defers := [] }) ?assign ?body ?done ?stop
  case assign =>
    intro l x W K hK
    dsimp only [enc2]
    gi_wp2
    exact hK
  case body =>
    rintro l pre ⟨⟨xs, xn⟩, hx⟩ W ⟨hm, hbm, hbe, hbx, hgm⟩ hB hsz hlen
    have hfit := hF _ hx
    have hS := Lib.hid (show (vals (pre ++ [⟨(xs, xn), hx⟩])).all okC = (good xs && countOk xn) by rw [vals_snoc, all_snoc, hm]; rfl)
    have HM := Lib.hid hm
    clear hm
    dsimp only at hfit ⊢
    have cG := Lib.hid (fun W => good_calls xs W hfit.1)
    generalize good xs = g at *
    have cN := Lib.hid (fun W => count_calls xn W)
    generalize countOk xn = cn at *
    cases g
    all_goals cases cn
    all_goals gi_wp2_with (first | (refine ⟨trivial, ?_⟩; gi_at_call 59; refine (CallsIn.inRound l (callsIn_wide.2 (cG.out _))).mono ?_; rintro e W1 ⟨rfl, h1⟩; have hbm1 := boxed_below hbm h1; have hbe1 := boxed_below hbe h1; have hcm1 := hbm1.cell; have hfm1 := hbm1.frozen; have hce1 := hbe1.cell; have hfe1 := hbe1.frozen) | (refine ⟨trivial, ?_⟩; gi_at_call 60; refine (CallsIn.inRound l (callsIn_wide.2 (cN.out _))).mono ?_; rintro e W2 ⟨rfl, rfl⟩) | (refine ⟨trivial, ?_⟩))
    all_goals first
      | exact ⟨keeps_set (keeps_set (keeps_below _ h1) _ _) _ _, ((h1.mono (B' := w.heap.size) (by omega)).setCell (p := ⟨w.heap.size, 0, none⟩) (Nat.le_refl _) _).setCell (p := ⟨w.heap.size + 1, 0, none⟩) (by simp) _, rfl, by rw [hS.out]; rfl, (hbm1.set _).other (by omega) _, (hbe1.other (by omega) _).set _⟩
      | exact ⟨keeps_below _ h1, h1.mono (B' := w.heap.size) (by omega), by rw [hS.out]; rfl, hbm1, hbe1, boxed_below hbx h1, hgm.below h1 hgm.lt⟩
  case done =>
    rintro D W hD ⟨hm, hbm, hbe, hbx, hgm⟩ hB hK
    rw [vals_all] at hm
    have HM := Lib.hid hm
    clear hm
    gi_wp2_with (refine ⟨trivial, ?_⟩; gi_at_call 58; refine (callsIn_wide.2 (all_calls A _ c _)).mono ?_; rintro e w' ⟨rfl, rfl⟩)
    have hK2 : (W.alloc (.cells #[.slice A L.length c] 30)).heap[D]? = some (.deferred (some [])) := by
      have hlt := (Array.getElem?_eq_some_iff.1 hK).1
      exact (((World.grownBy_alloc W (.cells #[.slice A L.length c] 30) none).block D hlt (by simp))).trans hK
    have hbm2 := hbm.alloc (.cells #[.slice A L.length c] 30)
    have hbe2 := hbe.alloc (.cells #[.slice A L.length c] 30)
    have hbx2 := hbx.alloc (.cells #[.slice A L.length c] 30)
    have hgm2 := hgm.kept (World.grownBy_alloc W (.cells #[.slice A L.length c] 30) none) (by simp)
    have hbl2 := Boxed.new W 30 (.slice A L.length c)
    have hB2 : Below w.heap.size w (W.alloc (.cells #[.slice A L.length c] 30)) := (hB1.trans hB).alloc (hB1.trans hB).size _
    have hs2 : W.heap.size + 1 = (W.alloc (.cells #[.slice A L.length c] 30)).heap.size := by simp
    have hsW := hB.size
    have hDlt := (Array.getElem?_eq_some_iff.1 hK).1
    have hlx := hbx.lt
    generalize W.alloc (.cells #[.slice A L.length c] 30) = w2 at *
    refine range_all (n := 6) rfl trivial (by omega) (Bs := W.heap.size) (n₀ := w.heap.size) (v := .slice A L.length c) (L := L) rfl rfl (by omega) (by omega) hbl2.cell (hI.below hB2)
      (fun pre X => over (vals pre) = false ∧ Boxed X w.heap.size 115 (.map none) ∧ Boxed X (w.heap.size + 1) 33 (.int .i64 0) ∧ Boxed X (w.heap.size + 1 + 1 + 1) 115 (.map (some (w.heap.size + 1 + 1))) ∧ X.heap[D]? = some (.deferred (some [])) ∧
        ∃ m, GMap strK X Try.prog 9 (w.heap.size + 1 + 1) m ∧ m.length ≤ pre.length ∧ Tells m (vals pre))
      (fun c pre X => c = .ret ∧ over (vals pre) = true ∧ Boxed X w.heap.size 115 (.map none) ∧ Boxed X (w.heap.size + 1) 33 (.int .i64 50) ∧ X.heap[D]? = some (.deferred (some [])))
      (fun s A B row hs hg hr => ⟨hs.1, boxed_keep hs.2.1 hg (fun r e => (hr r e).2), boxed_keep hs.2.2.1 hg (fun r e => (hr r e).2), boxed_keep hs.2.2.2.1 hg (fun r e => (hr r e).2), (hg.block D (Array.getElem?_eq_some_iff.1 hs.2.2.2.2.1).1 (fun e => by have := (hr _ e.symm).1; omega)).trans hs.2.2.2.2.1, by
        obtain ⟨m, h1, h2⟩ := hs.2.2.2.2.2
        exact ⟨m, h1.kept hg (fun e => by have := (hr _ e.symm).1; omega), h2⟩⟩)
      (fun c s A B row hs hg hr => ⟨hs.1, hs.2.1, boxed_keep hs.2.2.1 hg (fun r e => (hr r e).2), boxed_keep hs.2.2.2.1 hg (fun r e => (hr r e).2), (hg.block D (Array.getElem?_eq_some_iff.1 hs.2.2.2.2).1 (fun e => by have := (hr _ e.symm).1; omega)).trans hs.2.2.2.2⟩)
      ⟨rfl, hbm2, hbe2, hbx2, hK2, [], hgm2, by simp, Tells.nil⟩
      (fun x => { tmps := #[.slice A L.length c, undef, .pointer (some ⟨w.heap.size, 0, none⟩), .pointer (some ⟨w.heap.size + 1, 0, none⟩), .pointer (some ⟨w.heap.size + 1 + 1 + 1, 0, none⟩), undef, undef, .string x.1.1, .int .i64 x.1.2, undef, undef, .map (some (w.heap.size + 1 + 1)), .slice A L.length c, .func (.func 73) #[] #[.pointer (some ⟨w.heap.size + 1 + 1 + 1 + 1, 0, none⟩)], undef, undef, undef, undef, undef, undef, undef, undef, undef, undef, .slice A L.length c, .func (.func 73) #[] #[.pointer (some ⟨W.heap.size, 0, none⟩)], .string x.1.1, .int .i64 x.1.2, undef, undef, undef, undef, undef, undef, undef, undef, undef, undef, undef, undef, undef, undef, undef], defers := [] }) ?assign2 ?body2 ?done2 ?stop2
    case assign2 =>
      intro l x W K hK
      dsimp only [enc2]
      gi_wp2
      exact hK
    case body2 =>
      rintro l pre ⟨⟨xs, xn⟩, hx⟩ X ⟨ho, hbm, hbe, hbx, hKD, m, hgm, hml, hT⟩ hB' hsz hlen
      have hfit := hF _ hx
      have hok := okC_le (List.all_eq_true.1 HM.out _ hx)
      have hall : (vals pre).all okC = true := List.all_eq_true.2 fun y hy => by
        obtain ⟨z, _, rfl⟩ := List.mem_map.1 hy
        exact List.all_eq_true.1 HM.out _ z.2
      have ht0 := tot_nonneg (key (xs, xn)) _ hall
      have ht1 := tot_le ho (key (xs, xn))
      have hget := Lib.hid (hT.have_ (key (xs, xn)))
      have hput := Lib.hid (hT.put (xs, xn))
      have hOS := Lib.hid (show over (vals (pre ++ [⟨(xs, xn), hx⟩])) = decide (1099511627776 < tot (key (xs, xn)) (vals pre) + xn) by rw [vals_snoc]; exact over_snoc ho hok.1)
      have hV := Lib.hid (vals_snoc pre ⟨(xs, xn), hx⟩)
      have hkey := Lib.hid (key_str hfit.1)
      have cA := Lib.hid (fun W => add_calls (tot (key (xs, xn)) (vals pre)) xn W)
      have hC := Lib.hid (show addOf (tot (key (xs, xn)) (vals pre)) xn = if tot (key (xs, xn)) (vals pre) + xn ≤ 1099511627776 then (tot (key (xs, xn)) (vals pre) + xn, 0) else (0, 50) by
        unfold addOf
        rw [if_pos (by rw [Bool.and_eq_true]; exact ⟨(countOk_iff _).2 ⟨ht0, ht1⟩, (countOk_iff _).2 hok⟩)])
      clear hT ho hall
      generalize addOf (tot (key (xs, xn)) (vals pre)) xn = AO at *
      generalize tot (key (xs, xn)) (vals pre) = t at *
      dsimp only at hfit hok ⊢
      have hcm := hbm.cell
      have hfm := hbm.frozen
      have hce := hbe.cell
      have hfe := hbe.frozen
      have hcx := hbx.cell
      by_cases hle : t + xn ≤ 1099511627776
      · obtain rfl : AO = (t + xn, 0) := by rw [hC.out, if_pos hle]
        dsimp only at cA
        gi_wp2_with (first
          | (gi_at_lookup; refine wpListIn_look_g rfl (.tmp 29) (.tmp 30) _ rfl 9 _ keyedS Try.underlying115 rfl hgm (zeroI _) _ _ rfl hkey.out _ hget.out ?_)
          | (refine ⟨trivial, ?_⟩; gi_at_call 82; refine (CallsIn.inRound l (callsIn_wide.2 (cA.out _))).mono ?_; rintro e X1 ⟨rfl, h1⟩; have hcx1 := (boxed_below hbx h1).cell; have hgm1 := hgm.below h1 hgm.lt)
          | (gi_at_mapUpdate; refine wpListIn_put_g rfl (.tmp 39) (.tmp 40) (.tmp 41) _ rfl 9 _ keyedS Try.underlying115 rfl hgm1 (by unfold maxLen; omega) _ _ _ rfl rfl hkey.out ?_; intro X2 hgm2 hg2))
        have hsz1 := h1.size
        have hsz2 := hg2.size
        refine ⟨⟨Nat.le_trans hsz1 hsz2, fun k _ hk ho _ => (hg2.block k (Nat.lt_of_lt_of_le (Array.getElem?_eq_some_iff.1 ho).1 hsz1) (fun e => by have := Option.some.inj e; omega)).trans ((h1.block k (Array.getElem?_eq_some_iff.1 ho).1).trans ho)⟩,
          (h1.mono (B' := w.heap.size) (by omega)).grown hg2 (by omega) (fun g hg => by have := Option.some.inj hg; omega), ?_, (boxed_below hbm h1).kept hg2 (fun e => by have := Option.some.inj e; omega), (boxed_below hbe h1).kept hg2 (fun e => by have := Option.some.inj e; omega), (boxed_below hbx h1).kept hg2 (fun e => by have := Option.some.inj e; omega), ?_, _, hgm2, ?_, ?_⟩
        · rw [hOS.out]; exact decide_eq_false (by omega)
        · have hlt := (Array.getElem?_eq_some_iff.1 hKD).1
          exact (hg2.block D (by omega) (fun e => by have := Option.some.inj e; omega)).trans ((h1.block D hlt).trans hKD)
        · rw [List.length_append]
          exact Nat.le_trans (mPut_length_le _ _ _) (by simpa using hml)
        · rw [hV.out]; exact hput.out
      · obtain rfl : AO = (0, 50) := by rw [hC.out, if_neg hle]
        dsimp only at cA
        gi_wp2_with (first
          | (gi_at_lookup; refine wpListIn_look_g rfl (.tmp 29) (.tmp 30) _ rfl 9 _ keyedS Try.underlying115 rfl hgm (zeroI _) _ _ rfl hkey.out _ hget.out ?_)
          | (refine ⟨trivial, ?_⟩; gi_at_call 82; refine (CallsIn.inRound l (callsIn_wide.2 (cA.out _))).mono ?_; rintro e X1 ⟨rfl, h1⟩; have hcm1 := (boxed_below hbm h1).cell; have hfm1 := (boxed_below hbm h1).frozen; have hce1 := (boxed_below hbe h1).cell; have hfe1 := (boxed_below hbe h1).frozen))
        refine ⟨keeps_set (keeps_set (keeps_below _ h1) _ _) _ _, ((h1.mono (B' := w.heap.size) (by omega)).setCell (p := ⟨w.heap.size, 0, none⟩) (Nat.le_refl _) _).setCell (p := ⟨w.heap.size + 1, 0, none⟩) (by simp) _, rfl, ?_, ((boxed_below hbm h1).set _).other (by omega) _, ((boxed_below hbe h1).other (by omega) _).set _, ?_⟩
        · rw [hOS.out]; exact decide_eq_true (by omega)
        · have hlt := (Array.getElem?_eq_some_iff.1 hKD).1
          have hs1 := h1.size
          have e1 := (grownBy_setCell' X1 w.heap.size (.map none)).block D (by omega) (fun e => by have := Option.some.inj e; omega)
          have e2 := (grownBy_setCell' (X1.setCell ⟨w.heap.size, 0, none⟩ (.map none)) (w.heap.size + 1) (.int .i64 50)).block D (by have := (grownBy_setCell' X1 w.heap.size (.map none)).size; omega) (fun e => by have := Option.some.inj e; omega)
          exact e2.trans (e1.trans ((h1.block D hlt).trans hKD))
    case done2 =>
      rintro D2 X hD2 ⟨ho, hbm, hbe, hbx, hKD, m, hgm, hml, hT⟩ hB' hK2
      rw [vals_all] at ho hT
      have hcm := hbm.cell
      have hfm := hbm.frozen
      have hce := hbe.cell
      have hfe := hbe.frozen
      have hcx := hbx.cell
      gi_wp2
      have HC := Lib.hid (show sumsCode L = 0 by unfold sumsCode; rw [HM.out, ho]; rfl)
      have hlt := (Array.getElem?_eq_some_iff.1 hKD).1
      have g1 := grownBy_setCell' X w.heap.size (.map (some (w.heap.size + 1 + 1)))
      have g2 := grownBy_setCell' (X.setCell ⟨w.heap.size, 0, none⟩ (.map (some (w.heap.size + 1 + 1)))) (w.heap.size + 1) (.int .i64 0)
      have hK3 := (g2.block D2 (by have := g1.size; have := (Array.getElem?_eq_some_iff.1 hK2).1; omega) (fun e => by have := Option.some.inj e; omega)).trans ((g1.block D2 (Array.getElem?_eq_some_iff.1 hK2).1 (fun e => by have := Option.some.inj e; omega)).trans hK2)
      have hKD3 := (g2.block D (by have := g1.size; omega) (fun e => by have := Option.some.inj e; omega)).trans ((g1.block D hlt (fun e => by have := Option.some.inj e; omega)).trans hKD)
      have hbm3 := (hbm.set (.map (some (w.heap.size + 1 + 1)))).other (B' := w.heap.size + 1) (by omega) (.int .i64 0)
      have hbe3 := (hbe.other (B' := w.heap.size) (by omega) (.map (some (w.heap.size + 1 + 1)))).set (.int .i64 0)
      have hgm3 := (hgm.kept g1 (fun e => by have := Option.some.inj e; omega)).kept g2 (fun e => by have := Option.some.inj e; omega)
      have hB3 := ((hB2.trans hB').setCell (p := ⟨w.heap.size, 0, none⟩) (Nat.le_refl _) (.map (some (w.heap.size + 1 + 1)))).setCell (p := ⟨w.heap.size + 1, 0, none⟩) (by simp) (.int .i64 0)
      clear hcm hfm hce hfe hcx g1 g2
      generalize (X.setCell ⟨w.heap.size, 0, none⟩ (.map (some (w.heap.size + 1 + 1)))).setCell ⟨w.heap.size + 1, 0, none⟩ (.int .i64 0) = Y at *
      have hKD4 := ((grownBy_putObj' Y D2 (.deferred none)).block D (Array.getElem?_eq_some_iff.1 hKD3).1 (fun e => by have := Option.some.inj e; omega)).trans hKD3
      refine ⟨by simp, .inl ⟨_, _, rfl, run_takeDeferred hK3, ⟨by simp, .inl ⟨_, _, rfl, run_takeDeferred hKD4, ?_⟩⟩⟩⟩
      have hc5 := (boxed_end (boxed_end hbm3 hK3) hKD4).cell
      have hc6 := (boxed_end (boxed_end hbe3 hK3) hKD4).cell
      refine ⟨.tuple #[.map (some (w.heap.size + 1 + 1)), .int .i64 0], ?_, .inl ⟨HC.out, _, _, rfl, by omega, (hgm3.kept (grownBy_putObj' _ D2 (.deferred none)) (fun e => by have := Option.some.inj e; omega)).kept (grownBy_putObj' _ D (.deferred none)) (fun e => by have := Option.some.inj e; omega), by simpa using hml, hT⟩, below_end (below_end hB3 (by omega) hK3) (by omega) hKD4⟩
      simp [results, Try.f74, go_sem, hc5, hc6]
    case stop2 =>
      rintro D2 k pre X hD2 hpre ⟨rfl, ho, hbm, hbe, hKD⟩ hB' hK2
      have HC := Lib.hid (show sumsCode L = 50 by
        unfold sumsCode
        rw [HM.out, over_prefix (vals_prefix hpre) HM.out ho]; rfl)
      clear ho
      gi_wp2
      have hlt := (Array.getElem?_eq_some_iff.1 hKD).1
      have hKD4 := ((grownBy_putObj' X D2 (.deferred none)).block D hlt (fun e => by have := Option.some.inj e; omega)).trans hKD
      refine ⟨by simp, .inl ⟨_, _, rfl, run_takeDeferred hK2, ⟨by simp, .inl ⟨_, _, rfl, run_takeDeferred hKD4, ?_⟩⟩⟩⟩
      have hc5 := (boxed_end (boxed_end hbm hK2) hKD4).cell
      have hc6 := (boxed_end (boxed_end hbe hK2) hKD4).cell
      refine ⟨.tuple #[.map none, .int .i64 50], ?_, .inr ⟨by rw [HC.out]; omega, by rw [HC.out]⟩, below_end (below_end (hB2.trans hB') (by omega) hK2) (by omega) hKD4⟩
      simp [results, Try.f74, go_sem, hc5, hc6]
  case stop =>
    rintro D c pre W hD hpre ⟨rfl, hm, hbm, hbe⟩ hB hK
    have HC := Lib.hid (show sumsCode L = 60 by
      unfold sumsCode
      have : L.all okC = false := by
        cases h : L.all okC with
        | false => rfl
        | true => rw [all_prefix (vals_prefix hpre) h] at hm; cases hm
      rw [this]; rfl)
    clear hm
    gi_wp2
    refine ⟨by simp, .inl ⟨_, _, rfl, run_takeDeferred hK, ?_⟩⟩
    have hc5 := (boxed_end hbm hK).cell
    have hc6 := (boxed_end hbe hK).cell
    refine ⟨.tuple #[.map none, .int .i64 60], ?_, .inr ⟨by rw [HC.out]; omega, by rw [HC.out]⟩, below_end (hB1.trans hB) (by omega) hK⟩
    simp [results, Try.f74, go_sem, hc5, hc6]
end It
end Go.Proofs.Ytdbkkldgobkjcaa
