/-
  moves: the document's Go.
-/
import Derived.Test.YtdbkkldgobkjcaaGreatMz10
import Derived.Test.YtdbkkldgobkjcaaGreatMz6

set_option linter.unusedVariables false
set_option linter.unusedSimpArgs false
namespace Go.Proofs.YtdbkkldgobkjcaaGreat
open Go.RowKit Go.Maps
namespace Mv
open It

theorem region_calls (r : Int) (w : World) :
    Calls Tryz.prog 60 #[.int .i64 r] w fun e w' => e = .returned (.bool (isR r)) ∧ w = w' := by
  have HO := Lib.hid (show isR r = (decide (0 ≤ r) && decide (r < 8)) from rfl)
  have hq : decide (r ≤ 7) = decide (r < 8) := by rw [decide_eq_decide]; omega
  by_cases h1 : 0 ≤ r
  all_goals
    go_enter Tryz.func60, Tryz.ntmps60
    go_wp2
    go_ret
    first
      | exact ⟨ret1 (boo (by rw [HO.out, decide_eq_true h1]; rfl)), rfl⟩
      | exact ⟨ret1 (boo (by rw [HO.out, decide_eq_false (p := 0 ≤ r) (by omega)]; rfl)), rfl⟩
theorem docCells_ins (es : List (Way × Value)) (j : Nat) (p : Way × Value) : docCells (es.take j ++ [p] ++ es.drop j) = (docCells es).take (j * 5) ++ wayC p ++ (docCells es).drop (j * 5) := by
  rw [docCells_append, docCells_append, docCells_take, docCells_drop]
  simp [docCells]

set_option maxRecDepth 100000 in
set_option maxHeartbeats 16000000 in
theorem refgo_calls (mv fr to_ : Int) (l : List It.Item) (lv : Value) (xb base : Nat) (es : List (Way × Value)) (w : World) (h : DocAt w xb base es) (hs : Sorted (es.map (·.1))) (hB : base ≤ w.heap.size) (hxb : base ≤ xb) (hI : ItemsAt w 0 base lv l) (hF : Fits l) :
    Calls Tryz.prog 27 #[.pointer (some ⟨xb, 0, none⟩), .int .i64 mv, .int .i64 fr, .int .i64 to_, lv] w fun e w' => ∃ es', e = .returned (.int .i64 (goOf (es.map (·.1)) mv fr to_ l).2) ∧
      es'.map (·.1) = (goOf (es.map (·.1)) mv fr to_ l).1 ∧ DocAt w' xb base es' ∧ w.grownBy w' (some xb) := by
  have cF := Lib.hid (fun W => region_calls fr W)
  have cT := Lib.hid (fun W => region_calls to_ W)
  have cMay := Lib.hid (refmay_calls l lv w (hI.wide (Nat.le_refl _) hB) hF)
  have cFi := Lib.hid (fun W (hb : Below w.heap.size w W) => find_calls mv xb base es W (h.same hb hB))
  have HG0 := Lib.hid (show goOf (es.map (·.1)) mv fr to_ l = if mv < 1 ∨ 1099511627776 < mv ∨ isR fr = false ∨ isR to_ = false ∨ fr = to_ then (es.map (·.1), 1) else if may l = false ∨ l = [] then (es.map (·.1), 60) else if (findW (es.map (·.1)) mv).isSome then (es.map (·.1), 5) else if 256 ≤ (es.map (·.1)).length then (es.map (·.1), 2) else (putW (es.map (·.1)) ⟨mv, fr, to_, l, false⟩, 0) from rfl)
  have H := Lib.hid h
  have HS := Lib.hid hs
  have hIn := Lib.hid hI
  obtain ⟨Al, cl, rfl, hcl1, hcl2⟩ := hI.form
  unfold maxLen at hcl2
  generalize hml : may l = ml at *
  have HML := Lib.hid hml
  generalize goOf (es.map (·.1)) mv fr to_ l = R at *
  clear h hs hI hml
  have hcs : (decide (mv < 1) = true ∨ (decide (mv < 1) = false ∧ decide (mv > 1099511627776) = true) ∨ (decide (mv < 1) = false ∧ decide (mv > 1099511627776) = false ∧ isR fr = false) ∨ (decide (mv < 1) = false ∧ decide (mv > 1099511627776) = false ∧ isR fr = true ∧ isR to_ = false) ∨
      (decide (mv < 1) = false ∧ decide (mv > 1099511627776) = false ∧ isR fr = true ∧ isR to_ = true ∧ (fr == to_) = true)) ∨ (decide (mv < 1) = false ∧ decide (mv > 1099511627776) = false ∧ isR fr = true ∧ isR to_ = true ∧ (fr == to_) = false) := by
    by_cases e1 : mv < 1 <;> by_cases e2 : mv > 1099511627776 <;> cases isR fr <;> cases isR to_ <;> by_cases e3 : fr = to_ <;> simp [e1, e2, e3] <;> omega
  rcases hcs with hbad | ⟨e1, e2, e3, e4, e5⟩
  · have hR1 : R = (es.map (·.1), 1) := by
      rw [HG0.out, if_pos]
      rcases hbad with e1 | ⟨_, e2⟩ | ⟨_, _, e3⟩ | ⟨_, _, _, e4⟩ | ⟨_, _, _, _, e5⟩
      · exact .inl (by simpa using e1)
      · exact .inr (.inl (by simpa using e2))
      · exact .inr (.inr (.inl e3))
      · exact .inr (.inr (.inr (.inl e4)))
      · exact .inr (.inr (.inr (.inr (by simpa using e5))))
    subst hR1
    rcases hbad with e1 | ⟨e1, e2⟩ | ⟨e1, e2, e3⟩ | ⟨e1, e2, e3, e4⟩ | ⟨e1, e2, e3, e4, e5⟩
    all_goals
      try rw [e3] at cF
      try rw [e4] at cT
      go_enter Tryz.func27, Tryz.ntmps27
      go_wp2_with (go_at_call 60; first | ((with_reducible refine (cF.out _).mono ?_); rintro e W ⟨rfl, rfl⟩) | ((with_reducible refine (cT.out _).mono ?_); rintro e W ⟨rfl, rfl⟩))
      go_ret
      exact ⟨es, rfl, rfl, H.out, only_of_below (Below.refl _ _) _⟩
  · have hmv : ¬ mv < 1 ∧ ¬ 1099511627776 < mv := by simp only [decide_eq_false_iff_not] at e1 e2; exact ⟨e1, e2⟩
    have hne : fr ≠ to_ := by simpa using e5
    have HR1 := Lib.hid (show R = if ml = false ∨ l = [] then (es.map (·.1), 60) else if (findW (es.map (·.1)) mv).isSome then (es.map (·.1), 5) else if 256 ≤ (es.map (·.1)).length then (es.map (·.1), 2) else (putW (es.map (·.1)) ⟨mv, fr, to_, l, false⟩, 0) by
      rw [HG0.out, if_neg]
      rintro (h | h | h | h | h)
      · exact hmv.1 h
      · exact hmv.2 h
      · rw [e3] at h; cases h
      · rw [e4] at h; cases h
      · exact hne h)
    rw [e3] at cF
    rw [e4] at cT
    clear HG0
    cases ml with
    | false =>
      obtain rfl : R = (es.map (·.1), 60) := by rw [HR1.out, if_pos (.inl rfl)]
      go_enter Tryz.func27, Tryz.ntmps27
      go_wp2_with (first
        | (go_at_call 60; first | ((with_reducible refine (cF.out _).mono ?_); rintro e W ⟨rfl, rfl⟩) | ((with_reducible refine (cT.out _).mono ?_); rintro e W ⟨rfl, rfl⟩))
        | (go_at_call 46; refine cMay.out.mono ?_; rintro e W1 ⟨rfl, hb1⟩))
      go_ret
      exact ⟨es, rfl, rfl, H.out.same hb1 hB, only_of_below hb1 _⟩
    | true =>
      by_cases hl0 : l = []
      · obtain rfl : R = (es.map (·.1), 60) := by rw [HR1.out, if_pos (.inr hl0)]
        have hl1 : l.length = 0 := by rw [hl0]; rfl
        rw [hl1] at cMay ⊢
        clear hl0
        go_enter Tryz.func27, Tryz.ntmps27
        go_wp2_with (first
          | (go_at_call 60; first | ((with_reducible refine (cF.out _).mono ?_); rintro e W ⟨rfl, rfl⟩) | ((with_reducible refine (cT.out _).mono ?_); rintro e W ⟨rfl, rfl⟩))
          | (go_at_call 46; refine cMay.out.mono ?_; rintro e W1 ⟨rfl, hb1⟩))
        go_ret
        exact ⟨es, rfl, rfl, H.out.same hb1 hB, only_of_below hb1 _⟩
      · have hl1 : ((l.length : Int) == 0) = false := by
          cases l with
          | nil => exact (hl0 rfl).elim
          | cons x r => simp; omega
        have HL0 := Lib.hid hl0
        have HR2 := Lib.hid (show R = if (findW (es.map (·.1)) mv).isSome then (es.map (·.1), 5) else if 256 ≤ (es.map (·.1)).length then (es.map (·.1), 2) else (putW (es.map (·.1)) ⟨mv, fr, to_, l, false⟩, 0) by
          rw [HR1.out, if_neg]
          rintro (h | h)
          · cases h
          · exact hl0 h)
        clear hl0 HR1
        rcases @idx_find (es.map (·.1)) mv with ⟨h1, h2⟩ | ⟨i, hi, h1, h2, hk⟩
        case inr =>
          rw [h2] at HR2
          rw [h1] at cFi
          obtain rfl : R = (es.map (·.1), 5) := by rw [HR2.out]; rfl
          have hdi : decide ((i : Int) ≥ 0) = true := by simp
          clear h1 h2 hk
          go_enter Tryz.func27, Tryz.ntmps27
          go_wp2_with (first
            | (go_at_call 60; first | ((with_reducible refine (cF.out _).mono ?_); rintro e W ⟨rfl, rfl⟩) | ((with_reducible refine (cT.out _).mono ?_); rintro e W ⟨rfl, rfl⟩))
            | (go_at_call 46; refine cMay.out.mono ?_; rintro e W1 ⟨rfl, hb1⟩; have cFi2 := Lib.hid (cFi.out _ hb1))
            | (go_at_call 61; refine cFi2.out.mono ?_; rintro e W ⟨rfl, rfl⟩))
          go_ret
          exact ⟨es, rfl, rfl, H.out.same hb1 hB, only_of_below hb1 _⟩
        case inl =>
          rw [h2] at HR2
          rw [h1] at cFi
          have HFN := Lib.hid h2
          have HR3 := Lib.hid (show R = if 256 ≤ es.length then (es.map (·.1), 2) else (putW (es.map (·.1)) ⟨mv, fr, to_, l, false⟩, 0) by rw [HR2.out]; simp)
          clear h1 h2 HR2
          go_enter Tryz.func27, Tryz.ntmps27
          go_wp2_with (first
            | (go_at_call 60; first | ((with_reducible refine (cF.out _).mono ?_); rintro e W ⟨rfl, rfl⟩) | ((with_reducible refine (cT.out _).mono ?_); rintro e W ⟨rfl, rfl⟩))
            | (go_at_call 46; refine cMay.out.mono ?_; rintro e W1 ⟨rfl, hb1⟩; have cFi2 := Lib.hid (cFi.out _ hb1)))
          refine cFi2.out.mono ?_
          rintro e W ⟨rfl, rfl⟩
          have HD := Lib.hid (H.out.same hb1 hB)
          have HB1 := Lib.hid hb1
          have HI1 := Lib.hid (hIn.out.below (hb1.mono hB))
          have hB1 := Nat.le_trans hB hb1.size
          obtain ⟨v, hx, hv⟩ := HD.out.ob
          have hlen := HD.out.len
          have HV := Lib.hid hv
          have hone := Lib.hid (docCells_one HD.out.nest)
          obtain ⟨i0, hi0, hz0⟩ := Option.map_eq_some_iff.1 way_info
          simp only [Prod.mk.injEq] at hz0
          obtain ⟨hz0, hz1, hz2⟩ := hz0
          clear cFi cFi2 cMay cF cT hb1 H hIn
          by_cases hfull : 256 ≤ es.length
          · obtain rfl : R = (es.map (·.1), 2) := by rw [HR3.out, if_pos hfull]
            obtain ⟨A, c, rfl, hc1, hc2, -⟩ := (Sl.of_own hv).at_
            have g0 := hx.cell (j := 0) (v := .slice A es.length c) rfl
            have hd2 : decide ((es.length : Int) ≥ 256) = true := by simp; omega
            clear hfull hv HV
            go_wp2
            go_ret
            first
              | exact ⟨es, rfl, rfl, HD.out, only_of_below HB1.out _⟩
              | exact ⟨rfl, es, rfl, HD.out, only_of_below HB1.out _⟩
          · obtain rfl : R = (putW (es.map (·.1)) ⟨mv, fr, to_, l, false⟩, 0) := by rw [HR3.out, if_neg hfull]
            have hd2 : decide ((es.length : Int) ≥ 256) = false := by simp; omega
            have hl255 : es.length ≤ 255 := by omega
            have HFIN := Lib.hid (fun (j : Nat) (hj : j ≤ es.length) (hlt : ∀ i (h : i < es.length), i < j → es[i].1.mv < mv) (hge : ∀ h : j < es.length, mv < es[j].1.mv) => show (es.take j ++ [((⟨mv, fr, to_, l, false⟩ : Way), Value.slice Al l.length cl)] ++ es.drop j).map (·.1) = putW (es.map (·.1)) ⟨mv, fr, to_, l, false⟩ by
              have hdel : delW (es.map (·.1)) mv = es.map (·.1) := by
                unfold delW
                rw [List.filter_eq_self]
                intro x hx
                have := HFN.out
                unfold findW at this
                rw [List.find?_eq_none] at this
                simpa using this x hx
              unfold putW
              rw [show (⟨mv, fr, to_, l, false⟩ : Way).mv = mv from rfl, hdel, ins_at j (by simpa using hj) (fun i hi hij => by simpa using hlt i (by simpa using hi) hij) (fun hh => by simpa using hge (by simpa using hh))]
              simp)
            have HNF := Lib.hid (fun (i : Nat) (h : i < es.length) => show es[i].1.mv ≠ mv by
              have := HFN.out
              unfold findW at this
              rw [List.find?_eq_none] at this
              simpa using this es[i].1 (List.mem_map.2 ⟨es[i], List.getElem_mem h, rfl⟩))
            clear hfull
            rcases hv.2 with ⟨rfl, hn0⟩ | ⟨g, c, cur, rfl, hgb, hgv, hgr⟩
            · have hes : es.length = 0 := by have := hn0; omega
              have g0 := hx.cell (j := 0) (v := .slice none 0 0) rfl
              clear hv hn0
              go_wp2
              go_loopw [11] (fun i wr => i = .int .i64 0 ∧ wr = W1) (fun i _ => 0)
              case atStart => exact ⟨rfl, rfl⟩
              case round =>
                obtain ⟨rfl, rfl⟩ := hrel
                have hd : decide ((0 : Int) < (es.length : Int)) = false := by simp [hes]
                go_wp2_with fail
                obtain ⟨n5, hn5⟩ : ∃ n5, 0 + 1 + 0 = n5 := ⟨_, rfl⟩
                obtain rfl : es = [] := List.length_eq_zero_iff.1 hes
                have S79 := Lib.hid (fun W (hb : Below wr.heap.size wr W) => Sl.nil W base wr.heap.size 5)
                have S93 := Lib.hid (fun W (hb : Below wr.heap.size wr W) => Sl.nil W base wr.heap.size 5)
                have HONE79 := Lib.hid (show ∀ y ∈ ([] : List Value), y.oneCell' = true from fun y hy => by cases hy)
                have HONE93 := Lib.hid (show ∀ y ∈ ([] : List Value), y.oneCell' = true from fun y hy => by cases hy)
                have HN := Lib.hid (show 0 + 1 + 0 = n5 from hn5); clear hn5
                have HLT : Hid (∀ i (h : i < ([] : List (Way × Value)).length), i < 0 → ([] : List (Way × Value))[i].1.mv < mv) := Lib.hid (fun i h => absurd h (by simp))
                have HGE : Hid (∀ h : 0 < ([] : List (Way × Value)).length, mv < ([] : List (Way × Value))[0].1.mv) := Lib.hid (fun h => absurd h (by simp))
                have HCONE := Lib.hid (show ∀ y ∈ ([.int .i64 mv, .int .i64 fr, .int .i64 to_, .slice Al l.length cl, .bool false] : List Value), y.oneCell' = true from fun y hy => by simp only [List.mem_cons, List.not_mem_nil, or_false] at hy; rcases hy with rfl | rfl | rfl | rfl | rfl <;> rfl)
                clear g0 hd hd2
                have hdr := (Below.refl wr.heap.size wr).drew
                have hx0 : Ob wr.drew xb 58 #[.slice none 0 0] := hx
                have g0d : wr.drew.cell? ⟨xb, 0, none⟩ = some (.slice none 0 0) := hx0.cell (j := 0) rfl
                have hxl := hx.lt
                refine Pt.regionT (.look 0 (.look 2 (.look 3 (.look 4 (.look 5 (.look 6 (.look 7 (.look 9 (.look 10 (.look 11 (.look 12 (.look 13 (.look 16 (.look 17 (.look 18 (.look 19 (.look 20 (.look 21 (.look 23 (.look 24 (.fork 1 (.fork 8 (.make 14 (.make 15 (.make 22 (.make 25 .nil)))) 14 (.make 8 (.make 15 (.make 22 (.make 25 .nil))))) 14 (.make 1 (.make 8 (.make 15 (.make 22 (.make 25 .nil)))))))))))))))))))))))))) (fun V => V.cell? ⟨xb, 0, none⟩ = some (.slice none 0 0)) hmx (by kernel_rfl) (by kernel_rfl) (by kernel_rfl) g0d rfl ?_
                simp only [Pt.named, List.getElem?_toArray, List.getElem?_cons_succ, List.getElem?_cons_zero, Option.map_some]
                iterate 06 (apply Pt.WalkT.on (by rfl)
                            · rintro V gV
                              go_wp2_with fail
                              refine ⟨rfl, ?_, rfl⟩
                              try simp only [Act.put, List.setIfInBounds_toArray, List.set_cons_succ, List.set_cons_zero]
                              rfl
                            simp only [Act.put, List.setIfInBounds_toArray, List.set_cons_succ, List.set_cons_zero])
                apply Pt.WalkT.on (v := .slice none 0 0) (by rfl)
                · rintro V gV
                  go_wp2_with fail
                  refine ⟨rfl, ?_, rfl⟩
                  simp only [Act.put, List.setIfInBounds_toArray, List.set_cons_succ, List.set_cons_zero]
                simp only [Act.put, List.setIfInBounds_toArray, List.set_cons_succ, List.set_cons_zero]
                iterate 10 (apply Pt.WalkT.on (by rfl)
                            · rintro V gV
                              go_wp2_with fail
                              refine ⟨rfl, ?_, rfl⟩
                              try simp only [Act.put, List.setIfInBounds_toArray, List.set_cons_succ, List.set_cons_zero]
                              rfl
                            simp only [Act.put, List.setIfInBounds_toArray, List.set_cons_succ, List.set_cons_zero])
                apply Pt.WalkT.on (v := .slice none 0 0) (by rfl)
                · rintro V gV
                  go_wp2_with fail
                  refine ⟨rfl, ?_, rfl⟩
                  simp only [Act.put, List.setIfInBounds_toArray, List.set_cons_succ, List.set_cons_zero]
                simp only [Act.put, List.setIfInBounds_toArray, List.set_cons_succ, List.set_cons_zero]
                iterate 02 (apply Pt.WalkT.on (by rfl)
                            · rintro V gV
                              go_wp2_with fail
                              refine ⟨rfl, ?_, rfl⟩
                              try simp only [Act.put, List.setIfInBounds_toArray, List.set_cons_succ, List.set_cons_zero]
                              rfl
                            simp only [Act.put, List.setIfInBounds_toArray, List.set_cons_succ, List.set_cons_zero])
                clear g0d
                generalize wr.drew = W0 at *
                refine Pt.WalkT.fork (by rfl) (by rfl) ?_ ?_
                · intro V hV
                  rw [hV]
                  clear hV V
                  go_wp2_with fail
                  have hownE := World.ownsRow_lit (e := 108) (size := 5) (base := wr.heap.size) W0 #[] 0 hdr.size (Nat.zero_le _) rfl
                  have hbE := hdr.alloc hdr.size (.cells #[] 108)
                  have hxE := hx0.alloc (.cells #[] 108)
                  have HSZE := Lib.hid (show (W0.alloc (.cells #[] 108)).heap.size = W0.heap.size + 1 by simp)
                  refine ⟨rfl, .slice (some ⟨W0.heap.size, 0, none⟩) 0 0, _, (fun V => V = W0.alloc (.cells #[] 108)), ?_, rfl, (fun V h => by rw [h]; exact hxE.cell (j := 0) rfl), (.inr (fun _ h => h)), ?_⟩
                  · simp only [Act.put, List.setIfInBounds_toArray, List.set_cons_succ, List.set_cons_zero]
                  simp only [Act.put, List.setIfInBounds_toArray, List.set_cons_succ, List.set_cons_zero]
                  generalize W0.alloc (.cells #[] 108) = WE at *
                  refine Pt.WalkT.fork (by rfl) (by rfl) ?_ ?_
                  · intro V hV
                    rw [hV]
                    clear hV V
                    refine wpList_append_sl _ rfl (.tmp 73) (.tmp 79) _ rfl wr.heap.size 108 i0 _ 5 56 Tryz.underlying56 hi0 hz0 hz1 hz2 rfl (by omega) (.slice (some ⟨W0.heap.size, 0, none⟩) 0 0) 0 [] rfl hownE base wr.heap.size _ 0 ([]) rfl (S79.out _ hbE) HONE79.out (by unfold maxLen; omega) (by omega) hbE.size ?_
                    intro v1 w1 hv1 hg1 hat1
                    have hv1' : w1.ownsRow wr.heap.size 108 5 v1 0 ([]) := by simpa using hv1
                    have hb1 := hbE.grown hg1 hbE.size (fun g hg => (hownE.lt g hg).1)
                    have hx1 := hxE.kept hg1 (fun e => by have := (hownE.lt xb e.symm).1; omega)
                    refine ⟨rfl, v1, _, (fun V => V = w1), rfl, rfl, (fun V h => by rw [h]; exact hx1.cell (j := 0) rfl), (.inr (fun _ h => h)), ?_⟩
                    simp only [Act.put, List.setIfInBounds_toArray, List.set_cons_succ, List.set_cons_zero]
                    clear hv1 hg1 hat1
                    refine Pt.WalkT.make (by rfl) ?_
                    intro V hV
                    rw [hV]
                    clear hV V
                    go_wp2_with fail
                    have hlL : Sl (w1.alloc (.cells #[.int .i64 mv, .int .i64 fr, .int .i64 to_, .slice Al l.length cl, .bool false] 108)) w1.heap.size (w1.heap.size + 1) 5 (.slice (some ⟨w1.heap.size, 0, none⟩) 1 1) 1 [.int .i64 mv, .int .i64 fr, .int .i64 to_, .slice Al l.length cl, .bool false] := Sl.new w1 #[.int .i64 mv, .int .i64 fr, .int .i64 to_, .slice Al l.length cl, .bool false] 108 (n := 1) rfl (by unfold maxLen; omega)
                    have hbL := hb1.alloc hb1.size (.cells #[.int .i64 mv, .int .i64 fr, .int .i64 to_, .slice Al l.length cl, .bool false] 108)
                    have hxL := hx1.alloc (.cells #[.int .i64 mv, .int .i64 fr, .int .i64 to_, .slice Al l.length cl, .bool false] 108)
                    have HSZL := Lib.hid (show (w1.alloc (.cells #[.int .i64 mv, .int .i64 fr, .int .i64 to_, .slice Al l.length cl, .bool false] 108)).heap.size = w1.heap.size + 1 by simp)
                    have hoL := hv1'.alloc (.cells #[.int .i64 mv, .int .i64 fr, .int .i64 to_, .slice Al l.length cl, .bool false] 108)
                    refine ⟨rfl, .slice (some ⟨w1.heap.size, 0, none⟩) 1 1, _, (fun V => V = w1.alloc (.cells #[.int .i64 mv, .int .i64 fr, .int .i64 to_, .slice Al l.length cl, .bool false] 108)), ?_, rfl, (fun V h => by rw [h]; exact hxL.cell (j := 0) rfl), (.inr (fun _ h => h)), ?_⟩
                    · simp only [Act.put, List.setIfInBounds_toArray, List.set_cons_succ, List.set_cons_zero]
                    simp only [Act.put, List.setIfInBounds_toArray, List.set_cons_succ, List.set_cons_zero]
                    generalize w1.alloc (.cells #[.int .i64 mv, .int .i64 fr, .int .i64 to_, .slice Al l.length cl, .bool false] 108) = WL at *
                    refine Pt.WalkT.make (by rfl) ?_
                    intro V hV
                    rw [hV]
                    clear hV V
                    refine wpList_append_sl _ rfl (.tmp 80) (.tmp 86) _ rfl wr.heap.size 108 i0 _ 5 56 Tryz.underlying56 hi0 hz0 hz1 hz2 rfl (by omega) v1 0 ([]) rfl hoL w1.heap.size (w1.heap.size + 1) (.slice (some ⟨w1.heap.size, 0, none⟩) 1 1) 1 [.int .i64 mv, .int .i64 fr, .int .i64 to_, .slice Al l.length cl, .bool false] rfl hlL HCONE.out (by unfold maxLen; omega) (by omega) hbL.size ?_
                    intro v2 w2 hv2 hg2 hat2
                    have hb2 := hbL.grown hg2 hbL.size (fun g hg => (hoL.lt g hg).1)
                    have hx2 := hxL.kept hg2 (fun e => by have := (hoL.lt xb e.symm).1; omega)
                    clear hg2 hat2
                    refine ⟨rfl, v2, _, (fun V => V = w2), rfl, rfl, (fun V h => by rw [h]; exact hx2.cell (j := 0) rfl), (.inr (fun _ h => h)), ?_⟩
                    simp only [Act.put, List.setIfInBounds_toArray, List.set_cons_succ, List.set_cons_zero]
                    refine Pt.WalkT.make (by rfl) ?_
                    intro V hV
                    rw [hV]
                    clear hV V
                    refine wpList_append_sl _ rfl (.tmp 87) (.tmp 93) _ rfl wr.heap.size 108 i0 _ 5 56 Tryz.underlying56 hi0 hz0 hz1 hz2 rfl (by omega) v2 (0 + 1) ([] ++ [.int .i64 mv, .int .i64 fr, .int .i64 to_, .slice Al l.length cl, .bool false]) rfl hv2 base wr.heap.size _ (0) ([]) rfl (S93.out _ hb2) HONE93.out (by unfold maxLen; omega) (by omega) hb2.size ?_
                    intro v3 w3 hv3 hg3 hat3
                    have hb3 := hb2.grown hg3 hb2.size (fun g hg => (hv2.lt g hg).1)
                    have hx3 := hx2.kept hg3 (fun e => by have := (hv2.lt xb e.symm).1; omega)
                    clear hg3 hat3 hv2 hx2
                    rw [show ([] : List Value) ++ [.int .i64 mv, .int .i64 fr, .int .i64 to_, .slice Al l.length cl, .bool false] ++ [] = docCells (([] : List (Way × Value)).take 0 ++ [((⟨mv, fr, to_, l, false⟩ : Way), Value.slice Al l.length cl)] ++ ([] : List (Way × Value)).drop 0) from rfl, HN.out] at hv3
                    obtain ⟨A5, c5, rfl, -⟩ := (Sl.of_own hv3).at_
                    have HV3 := Lib.hid hv3
                    clear hv3
                    refine ⟨rfl, _, _, (fun V => V = w3), rfl, rfl, (fun V h => by rw [h]; exact hx3.cell (j := 0) rfl), (.inr (fun _ h => h)), ?_⟩
                    simp only [Act.put, List.setIfInBounds_toArray, List.set_cons_succ, List.set_cons_zero]
                    refine Pt.WalkT.make (by rfl) ?_
                    intro V hV
                    rw [hV]
                    clear hV V
                    have g3 := hx3.cell (j := 0) (v := .slice none 0 0) rfl
                    have f3 := hx3.frozen 0
                    go_wp2_with fail
                    have hx4 := hx3.set 0 (.slice A5 n5 c5)
                    have hg4 := grownBy_set w3 xb 0 (.slice A5 n5 c5)
                    refine ⟨rfl, undef, (fun _ => True), (fun V => V = w3.setCell ⟨xb, 0, none⟩ (.slice A5 n5 c5)), rfl, rfl, (fun _ _ => trivial), (.inl (by kernel_rfl)), Pt.WalkT.nil ?_⟩
                    intro V hV
                    rw [hV]
                    clear hV V
                    simp only [Act.put]
                    have hrow := ownsRow_far HV3.out hg4 hxl
                    have hbw := HB1.out.trans (hb3.mono HB1.out.size)
                    have hgw := (only_of_below hbw (some xb)).trans hg4
                    have hBb : Below base wr (w3.setCell ⟨xb, 0, none⟩ (.slice A5 n5 c5)) := (hb3.mono hB1).grown hg4 (Nat.le_trans hB1 hb3.size) (fun k e => by cases e; exact hxb)
                    have hnest : ∀ p ∈ (([] : List (Way × Value)).take 0 ++ [((⟨mv, fr, to_, l, false⟩ : Way), Value.slice Al l.length cl)] ++ ([] : List (Way × Value)).drop 0), ItemsAt (w3.setCell ⟨xb, 0, none⟩ (.slice A5 n5 c5)) 0 base p.2 p.1.l := by
                      intro p hp
                      rcases List.mem_append.1 hp with hp | hp
                      · rcases List.mem_append.1 hp with hp | hp
                        · exact (HD.out.nest p (List.mem_of_mem_take hp)).below hBb
                        · rw [List.mem_singleton] at hp
                          rw [hp]
                          exact HI1.out.below hBb
                      · exact (HD.out.nest p (List.mem_of_mem_drop hp)).below hBb
                    clear g3 f3
                    go_wp2
                    go_ret
                    have hfin := HFIN.out 0 (by simp) HLT.out HGE.out
                    have hdoc : DocAt (w3.setCell ⟨xb, 0, none⟩ (.slice A5 n5 c5)) xb base (([] : List (Way × Value)).take 0 ++ [((⟨mv, fr, to_, l, false⟩ : Way), Value.slice Al l.length cl)] ++ ([] : List (Way × Value)).drop 0) := ⟨⟨_, hx4, by rw [show (([] : List (Way × Value)).take 0 ++ [((⟨mv, fr, to_, l, false⟩ : Way), Value.slice Al l.length cl)] ++ ([] : List (Way × Value)).drop 0).length = n5 from HN.out]; exact ownsRow_wide hrow hB1⟩, hnest, by rw [show (([] : List (Way × Value)).take 0 ++ [((⟨mv, fr, to_, l, false⟩ : Way), Value.slice Al l.length cl)] ++ ([] : List (Way × Value)).drop 0).length = n5 from HN.out, ← HN.out]; omega⟩
                    first
                      | exact ⟨_, rfl, hfin, hdoc, hgw⟩
                      | exact ⟨rfl, _, hfin, hdoc, hgw⟩
                  · intro V hV
                    rw [hV]
                    clear hV V
                    go_wp2_with fail
                    have hlL : Sl (WE.alloc (.cells #[.int .i64 mv, .int .i64 fr, .int .i64 to_, .slice Al l.length cl, .bool false] 108)) WE.heap.size (WE.heap.size + 1) 5 (.slice (some ⟨WE.heap.size, 0, none⟩) 1 1) 1 [.int .i64 mv, .int .i64 fr, .int .i64 to_, .slice Al l.length cl, .bool false] := Sl.new WE #[.int .i64 mv, .int .i64 fr, .int .i64 to_, .slice Al l.length cl, .bool false] 108 (n := 1) rfl (by unfold maxLen; omega)
                    have hbL := hbE.alloc hbE.size (.cells #[.int .i64 mv, .int .i64 fr, .int .i64 to_, .slice Al l.length cl, .bool false] 108)
                    have hxL := hxE.alloc (.cells #[.int .i64 mv, .int .i64 fr, .int .i64 to_, .slice Al l.length cl, .bool false] 108)
                    have HSZL := Lib.hid (show (WE.alloc (.cells #[.int .i64 mv, .int .i64 fr, .int .i64 to_, .slice Al l.length cl, .bool false] 108)).heap.size = WE.heap.size + 1 by simp)
                    have hoL := hownE.alloc (.cells #[.int .i64 mv, .int .i64 fr, .int .i64 to_, .slice Al l.length cl, .bool false] 108)
                    refine ⟨rfl, .slice (some ⟨WE.heap.size, 0, none⟩) 1 1, _, (fun V => V = WE.alloc (.cells #[.int .i64 mv, .int .i64 fr, .int .i64 to_, .slice Al l.length cl, .bool false] 108)), ?_, rfl, (fun V h => by rw [h]; exact hxL.cell (j := 0) rfl), (.inr (fun _ h => h)), ?_⟩
                    · simp only [Act.put, List.setIfInBounds_toArray, List.set_cons_succ, List.set_cons_zero]
                    simp only [Act.put, List.setIfInBounds_toArray, List.set_cons_succ, List.set_cons_zero]
                    generalize WE.alloc (.cells #[.int .i64 mv, .int .i64 fr, .int .i64 to_, .slice Al l.length cl, .bool false] 108) = WL at *
                    refine Pt.WalkT.make (by rfl) ?_
                    intro V hV
                    rw [hV]
                    clear hV V
                    refine wpList_append_sl _ rfl (.tmp 73) (.tmp 79) _ rfl wr.heap.size 108 i0 _ 5 56 Tryz.underlying56 hi0 hz0 hz1 hz2 rfl (by omega) (.slice (some ⟨W0.heap.size, 0, none⟩) 0 0) 0 [] rfl hoL base wr.heap.size _ 0 ([]) rfl (S79.out _ hbL) HONE79.out (by unfold maxLen; omega) (by omega) hbL.size ?_
                    intro v1 w1 hv1 hg1 hat1
                    have hv1' : w1.ownsRow wr.heap.size 108 5 v1 0 ([]) := by simpa using hv1
                    have hb1 := hbL.grown hg1 hbL.size (fun g hg => (hoL.lt g hg).1)
                    have hx1 := hxL.kept hg1 (fun e => by have := (hoL.lt xb e.symm).1; omega)
                    have hl1 := Sl.grown hlL hg1 (by have := HSZL.out; omega) (fun k e => by have e2 : W0.heap.size = k := Option.some.inj e; have := HSZE.out; left; omega)
                    refine ⟨rfl, v1, _, (fun V => V = w1), rfl, rfl, (fun V h => by rw [h]; exact hx1.cell (j := 0) rfl), (.inr (fun _ h => h)), ?_⟩
                    simp only [Act.put, List.setIfInBounds_toArray, List.set_cons_succ, List.set_cons_zero]
                    clear hv1 hg1 hat1
                    refine Pt.WalkT.make (by rfl) ?_
                    intro V hV
                    rw [hV]
                    clear hV V
                    refine wpList_append_sl _ rfl (.tmp 80) (.tmp 86) _ rfl wr.heap.size 108 i0 _ 5 56 Tryz.underlying56 hi0 hz0 hz1 hz2 rfl (by omega) v1 0 ([]) rfl hv1' WE.heap.size (WE.heap.size + 1) (.slice (some ⟨WE.heap.size, 0, none⟩) 1 1) 1 [.int .i64 mv, .int .i64 fr, .int .i64 to_, .slice Al l.length cl, .bool false] rfl hl1 HCONE.out (by unfold maxLen; omega) (by omega) hb1.size ?_
                    intro v2 w2 hv2 hg2 hat2
                    have hb2 := hb1.grown hg2 hb1.size (fun g hg => (hv1'.lt g hg).1)
                    have hx2 := hx1.kept hg2 (fun e => by have := (hv1'.lt xb e.symm).1; omega)
                    clear hg2 hat2
                    refine ⟨rfl, v2, _, (fun V => V = w2), rfl, rfl, (fun V h => by rw [h]; exact hx2.cell (j := 0) rfl), (.inr (fun _ h => h)), ?_⟩
                    simp only [Act.put, List.setIfInBounds_toArray, List.set_cons_succ, List.set_cons_zero]
                    refine Pt.WalkT.make (by rfl) ?_
                    intro V hV
                    rw [hV]
                    clear hV V
                    refine wpList_append_sl _ rfl (.tmp 87) (.tmp 93) _ rfl wr.heap.size 108 i0 _ 5 56 Tryz.underlying56 hi0 hz0 hz1 hz2 rfl (by omega) v2 (0 + 1) ([] ++ [.int .i64 mv, .int .i64 fr, .int .i64 to_, .slice Al l.length cl, .bool false]) rfl hv2 base wr.heap.size _ (0) ([]) rfl (S93.out _ hb2) HONE93.out (by unfold maxLen; omega) (by omega) hb2.size ?_
                    intro v3 w3 hv3 hg3 hat3
                    have hb3 := hb2.grown hg3 hb2.size (fun g hg => (hv2.lt g hg).1)
                    have hx3 := hx2.kept hg3 (fun e => by have := (hv2.lt xb e.symm).1; omega)
                    clear hg3 hat3 hv2 hx2
                    rw [show ([] : List Value) ++ [.int .i64 mv, .int .i64 fr, .int .i64 to_, .slice Al l.length cl, .bool false] ++ [] = docCells (([] : List (Way × Value)).take 0 ++ [((⟨mv, fr, to_, l, false⟩ : Way), Value.slice Al l.length cl)] ++ ([] : List (Way × Value)).drop 0) from rfl, HN.out] at hv3
                    obtain ⟨A5, c5, rfl, -⟩ := (Sl.of_own hv3).at_
                    have HV3 := Lib.hid hv3
                    clear hv3
                    refine ⟨rfl, _, _, (fun V => V = w3), rfl, rfl, (fun V h => by rw [h]; exact hx3.cell (j := 0) rfl), (.inr (fun _ h => h)), ?_⟩
                    simp only [Act.put, List.setIfInBounds_toArray, List.set_cons_succ, List.set_cons_zero]
                    refine Pt.WalkT.make (by rfl) ?_
                    intro V hV
                    rw [hV]
                    clear hV V
                    have g3 := hx3.cell (j := 0) (v := .slice none 0 0) rfl
                    have f3 := hx3.frozen 0
                    go_wp2_with fail
                    have hx4 := hx3.set 0 (.slice A5 n5 c5)
                    have hg4 := grownBy_set w3 xb 0 (.slice A5 n5 c5)
                    refine ⟨rfl, undef, (fun _ => True), (fun V => V = w3.setCell ⟨xb, 0, none⟩ (.slice A5 n5 c5)), rfl, rfl, (fun _ _ => trivial), (.inl (by kernel_rfl)), Pt.WalkT.nil ?_⟩
                    intro V hV
                    rw [hV]
                    clear hV V
                    simp only [Act.put]
                    have hrow := ownsRow_far HV3.out hg4 hxl
                    have hbw := HB1.out.trans (hb3.mono HB1.out.size)
                    have hgw := (only_of_below hbw (some xb)).trans hg4
                    have hBb : Below base wr (w3.setCell ⟨xb, 0, none⟩ (.slice A5 n5 c5)) := (hb3.mono hB1).grown hg4 (Nat.le_trans hB1 hb3.size) (fun k e => by cases e; exact hxb)
                    have hnest : ∀ p ∈ (([] : List (Way × Value)).take 0 ++ [((⟨mv, fr, to_, l, false⟩ : Way), Value.slice Al l.length cl)] ++ ([] : List (Way × Value)).drop 0), ItemsAt (w3.setCell ⟨xb, 0, none⟩ (.slice A5 n5 c5)) 0 base p.2 p.1.l := by
                      intro p hp
                      rcases List.mem_append.1 hp with hp | hp
                      · rcases List.mem_append.1 hp with hp | hp
                        · exact (HD.out.nest p (List.mem_of_mem_take hp)).below hBb
                        · rw [List.mem_singleton] at hp
                          rw [hp]
                          exact HI1.out.below hBb
                      · exact (HD.out.nest p (List.mem_of_mem_drop hp)).below hBb
                    clear g3 f3
                    go_wp2
                    go_ret
                    have hfin := HFIN.out 0 (by simp) HLT.out HGE.out
                    have hdoc : DocAt (w3.setCell ⟨xb, 0, none⟩ (.slice A5 n5 c5)) xb base (([] : List (Way × Value)).take 0 ++ [((⟨mv, fr, to_, l, false⟩ : Way), Value.slice Al l.length cl)] ++ ([] : List (Way × Value)).drop 0) := ⟨⟨_, hx4, by rw [show (([] : List (Way × Value)).take 0 ++ [((⟨mv, fr, to_, l, false⟩ : Way), Value.slice Al l.length cl)] ++ ([] : List (Way × Value)).drop 0).length = n5 from HN.out]; exact ownsRow_wide hrow hB1⟩, hnest, by rw [show (([] : List (Way × Value)).take 0 ++ [((⟨mv, fr, to_, l, false⟩ : Way), Value.slice Al l.length cl)] ++ ([] : List (Way × Value)).drop 0).length = n5 from HN.out, ← HN.out]; omega⟩
                    first
                      | exact ⟨_, rfl, hfin, hdoc, hgw⟩
                      | exact ⟨rfl, _, hfin, hdoc, hgw⟩
                · intro V hV
                  rw [hV]
                  clear hV V
                  go_wp2_with fail
                  have hlL : Sl (W0.alloc (.cells #[.int .i64 mv, .int .i64 fr, .int .i64 to_, .slice Al l.length cl, .bool false] 108)) W0.heap.size (W0.heap.size + 1) 5 (.slice (some ⟨W0.heap.size, 0, none⟩) 1 1) 1 [.int .i64 mv, .int .i64 fr, .int .i64 to_, .slice Al l.length cl, .bool false] := Sl.new W0 #[.int .i64 mv, .int .i64 fr, .int .i64 to_, .slice Al l.length cl, .bool false] 108 (n := 1) rfl (by unfold maxLen; omega)
                  have hbL := hdr.alloc hdr.size (.cells #[.int .i64 mv, .int .i64 fr, .int .i64 to_, .slice Al l.length cl, .bool false] 108)
                  have hxL := hx0.alloc (.cells #[.int .i64 mv, .int .i64 fr, .int .i64 to_, .slice Al l.length cl, .bool false] 108)
                  have HSZL := Lib.hid (show (W0.alloc (.cells #[.int .i64 mv, .int .i64 fr, .int .i64 to_, .slice Al l.length cl, .bool false] 108)).heap.size = W0.heap.size + 1 by simp)
                  refine ⟨rfl, .slice (some ⟨W0.heap.size, 0, none⟩) 1 1, _, (fun V => V = W0.alloc (.cells #[.int .i64 mv, .int .i64 fr, .int .i64 to_, .slice Al l.length cl, .bool false] 108)), ?_, rfl, (fun V h => by rw [h]; exact hxL.cell (j := 0) rfl), (.inr (fun _ h => h)), ?_⟩
                  · simp only [Act.put, List.setIfInBounds_toArray, List.set_cons_succ, List.set_cons_zero]
                  simp only [Act.put, List.setIfInBounds_toArray, List.set_cons_succ, List.set_cons_zero]
                  generalize W0.alloc (.cells #[.int .i64 mv, .int .i64 fr, .int .i64 to_, .slice Al l.length cl, .bool false] 108) = WL at *
                  refine Pt.WalkT.make (by rfl) ?_
                  intro V hV
                  rw [hV]
                  clear hV V
                  go_wp2_with fail
                  have hownE := World.ownsRow_lit (e := 108) (size := 5) (base := wr.heap.size) WL #[] 0 hbL.size (Nat.zero_le _) rfl
                  have hbE := hbL.alloc hbL.size (.cells #[] 108)
                  have hxE := hxL.alloc (.cells #[] 108)
                  have HSZE := Lib.hid (show (WL.alloc (.cells #[] 108)).heap.size = WL.heap.size + 1 by simp)
                  have hlE := Sl.below hlL ((Below.refl _ WL).alloc (by have := HSZL.out; omega) (.cells #[] 108))
                  refine ⟨rfl, .slice (some ⟨WL.heap.size, 0, none⟩) 0 0, _, (fun V => V = WL.alloc (.cells #[] 108)), ?_, rfl, (fun V h => by rw [h]; exact hxE.cell (j := 0) rfl), (.inr (fun _ h => h)), ?_⟩
                  · simp only [Act.put, List.setIfInBounds_toArray, List.set_cons_succ, List.set_cons_zero]
                  simp only [Act.put, List.setIfInBounds_toArray, List.set_cons_succ, List.set_cons_zero]
                  generalize WL.alloc (.cells #[] 108) = WE at *
                  refine Pt.WalkT.make (by rfl) ?_
                  intro V hV
                  rw [hV]
                  clear hV V
                  refine wpList_append_sl _ rfl (.tmp 73) (.tmp 79) _ rfl wr.heap.size 108 i0 _ 5 56 Tryz.underlying56 hi0 hz0 hz1 hz2 rfl (by omega) (.slice (some ⟨WL.heap.size, 0, none⟩) 0 0) 0 [] rfl hownE base wr.heap.size _ 0 ([]) rfl (S79.out _ hbE) HONE79.out (by unfold maxLen; omega) (by omega) hbE.size ?_
                  intro v1 w1 hv1 hg1 hat1
                  have hv1' : w1.ownsRow wr.heap.size 108 5 v1 0 ([]) := by simpa using hv1
                  have hb1 := hbE.grown hg1 hbE.size (fun g hg => (hownE.lt g hg).1)
                  have hx1 := hxE.kept hg1 (fun e => by have := (hownE.lt xb e.symm).1; omega)
                  have hl1 := Sl.grown hlE hg1 (by have := HSZE.out; have := HSZL.out; omega) (fun k e => by have e2 : WL.heap.size = k := Option.some.inj e; have := HSZL.out; right; omega)
                  refine ⟨rfl, v1, _, (fun V => V = w1), rfl, rfl, (fun V h => by rw [h]; exact hx1.cell (j := 0) rfl), (.inr (fun _ h => h)), ?_⟩
                  simp only [Act.put, List.setIfInBounds_toArray, List.set_cons_succ, List.set_cons_zero]
                  clear hv1 hg1 hat1
                  refine Pt.WalkT.make (by rfl) ?_
                  intro V hV
                  rw [hV]
                  clear hV V
                  refine wpList_append_sl _ rfl (.tmp 80) (.tmp 86) _ rfl wr.heap.size 108 i0 _ 5 56 Tryz.underlying56 hi0 hz0 hz1 hz2 rfl (by omega) v1 0 ([]) rfl hv1' W0.heap.size (W0.heap.size + 1) (.slice (some ⟨W0.heap.size, 0, none⟩) 1 1) 1 [.int .i64 mv, .int .i64 fr, .int .i64 to_, .slice Al l.length cl, .bool false] rfl hl1 HCONE.out (by unfold maxLen; omega) (by omega) hb1.size ?_
                  intro v2 w2 hv2 hg2 hat2
                  have hb2 := hb1.grown hg2 hb1.size (fun g hg => (hv1'.lt g hg).1)
                  have hx2 := hx1.kept hg2 (fun e => by have := (hv1'.lt xb e.symm).1; omega)
                  clear hg2 hat2
                  refine ⟨rfl, v2, _, (fun V => V = w2), rfl, rfl, (fun V h => by rw [h]; exact hx2.cell (j := 0) rfl), (.inr (fun _ h => h)), ?_⟩
                  simp only [Act.put, List.setIfInBounds_toArray, List.set_cons_succ, List.set_cons_zero]
                  refine Pt.WalkT.make (by rfl) ?_
                  intro V hV
                  rw [hV]
                  clear hV V
                  refine wpList_append_sl _ rfl (.tmp 87) (.tmp 93) _ rfl wr.heap.size 108 i0 _ 5 56 Tryz.underlying56 hi0 hz0 hz1 hz2 rfl (by omega) v2 (0 + 1) ([] ++ [.int .i64 mv, .int .i64 fr, .int .i64 to_, .slice Al l.length cl, .bool false]) rfl hv2 base wr.heap.size _ (0) ([]) rfl (S93.out _ hb2) HONE93.out (by unfold maxLen; omega) (by omega) hb2.size ?_
                  intro v3 w3 hv3 hg3 hat3
                  have hb3 := hb2.grown hg3 hb2.size (fun g hg => (hv2.lt g hg).1)
                  have hx3 := hx2.kept hg3 (fun e => by have := (hv2.lt xb e.symm).1; omega)
                  clear hg3 hat3 hv2 hx2
                  rw [show ([] : List Value) ++ [.int .i64 mv, .int .i64 fr, .int .i64 to_, .slice Al l.length cl, .bool false] ++ [] = docCells (([] : List (Way × Value)).take 0 ++ [((⟨mv, fr, to_, l, false⟩ : Way), Value.slice Al l.length cl)] ++ ([] : List (Way × Value)).drop 0) from rfl, HN.out] at hv3
                  obtain ⟨A5, c5, rfl, -⟩ := (Sl.of_own hv3).at_
                  have HV3 := Lib.hid hv3
                  clear hv3
                  refine ⟨rfl, _, _, (fun V => V = w3), rfl, rfl, (fun V h => by rw [h]; exact hx3.cell (j := 0) rfl), (.inr (fun _ h => h)), ?_⟩
                  simp only [Act.put, List.setIfInBounds_toArray, List.set_cons_succ, List.set_cons_zero]
                  refine Pt.WalkT.make (by rfl) ?_
                  intro V hV
                  rw [hV]
                  clear hV V
                  have g3 := hx3.cell (j := 0) (v := .slice none 0 0) rfl
                  have f3 := hx3.frozen 0
                  go_wp2_with fail
                  have hx4 := hx3.set 0 (.slice A5 n5 c5)
                  have hg4 := grownBy_set w3 xb 0 (.slice A5 n5 c5)
                  refine ⟨rfl, undef, (fun _ => True), (fun V => V = w3.setCell ⟨xb, 0, none⟩ (.slice A5 n5 c5)), rfl, rfl, (fun _ _ => trivial), (.inl (by kernel_rfl)), Pt.WalkT.nil ?_⟩
                  intro V hV
                  rw [hV]
                  clear hV V
                  simp only [Act.put]
                  have hrow := ownsRow_far HV3.out hg4 hxl
                  have hbw := HB1.out.trans (hb3.mono HB1.out.size)
                  have hgw := (only_of_below hbw (some xb)).trans hg4
                  have hBb : Below base wr (w3.setCell ⟨xb, 0, none⟩ (.slice A5 n5 c5)) := (hb3.mono hB1).grown hg4 (Nat.le_trans hB1 hb3.size) (fun k e => by cases e; exact hxb)
                  have hnest : ∀ p ∈ (([] : List (Way × Value)).take 0 ++ [((⟨mv, fr, to_, l, false⟩ : Way), Value.slice Al l.length cl)] ++ ([] : List (Way × Value)).drop 0), ItemsAt (w3.setCell ⟨xb, 0, none⟩ (.slice A5 n5 c5)) 0 base p.2 p.1.l := by
                    intro p hp
                    rcases List.mem_append.1 hp with hp | hp
                    · rcases List.mem_append.1 hp with hp | hp
                      · exact (HD.out.nest p (List.mem_of_mem_take hp)).below hBb
                      · rw [List.mem_singleton] at hp
                        rw [hp]
                        exact HI1.out.below hBb
                    · exact (HD.out.nest p (List.mem_of_mem_drop hp)).below hBb
                  clear g3 f3
                  go_wp2
                  go_ret
                  have hfin := HFIN.out 0 (by simp) HLT.out HGE.out
                  have hdoc : DocAt (w3.setCell ⟨xb, 0, none⟩ (.slice A5 n5 c5)) xb base (([] : List (Way × Value)).take 0 ++ [((⟨mv, fr, to_, l, false⟩ : Way), Value.slice Al l.length cl)] ++ ([] : List (Way × Value)).drop 0) := ⟨⟨_, hx4, by rw [show (([] : List (Way × Value)).take 0 ++ [((⟨mv, fr, to_, l, false⟩ : Way), Value.slice Al l.length cl)] ++ ([] : List (Way × Value)).drop 0).length = n5 from HN.out]; exact ownsRow_wide hrow hB1⟩, hnest, by rw [show (([] : List (Way × Value)).take 0 ++ [((⟨mv, fr, to_, l, false⟩ : Way), Value.slice Al l.length cl)] ++ ([] : List (Way × Value)).drop 0).length = n5 from HN.out, ← HN.out]; omega⟩
                  first
                    | exact ⟨_, rfl, hfin, hdoc, hgw⟩
                    | exact ⟨rfl, _, hfin, hdoc, hgw⟩
            · have hcap : es.length ≤ c ∧ c ≤ maxLen := by obtain ⟨A', c', e, h1, h2, -⟩ := (Sl.of_own hv).at_; cases e; exact ⟨h1, h2⟩
              have g0 := hx.cell (j := 0) (v := .slice (some ⟨g, 0, none⟩) es.length c) rfl
              clear hgr
              go_wp2
              go_loopw [11] (fun i wr => ∃ j : Nat, j ≤ es.length ∧ i = .int .i64 j ∧ wr = W1 ∧ ∀ i (h : i < es.length), i < j → es[i].1.mv < mv) (fun i _ => es.length - (intOf i).toNat)
              case atStart => exact ⟨0, by omega, rfl, rfl, fun i h hi => by omega⟩
              case round =>
                obtain ⟨j, hj, rfl, rfl, hlt⟩ := hrel
                have HLT := Lib.hid hlt
                clear hlt
                have hcs : (j = es.length ∧ decide ((j : Int) < (es.length : Int)) = false) ∨ ∃ h : j < es.length, (decide ((j : Int) < (es.length : Int)) = true) ∧ ((decide (es[j].1.mv < mv) = true) ∨ (decide (es[j].1.mv < mv) = false)) := by
                  by_cases hjl : j < es.length
                  · exact .inr ⟨hjl, by simp; omega, by cases decide (es[j].1.mv < mv) <;> simp⟩
                  · exact .inl ⟨by omega, by simp; omega⟩
                rcases hcs with ⟨hje, hd⟩ | ⟨hjl, hd, hq | hq⟩
                · have HGE := Lib.hid (show ∀ h : j < es.length, mv < es[j].1.mv from fun h => by omega)
                  go_wp2_with fail
                  obtain ⟨n5, hn5⟩ : ∃ n5, (es.take j ++ [((⟨mv, fr, to_, l, false⟩ : Way), Value.slice Al l.length cl)] ++ es.drop j).length = n5 := ⟨_, rfl⟩
                  obtain ⟨A3, hA3⟩ : ∃ A3, (if c = j then some (⟨g, 0, none⟩ : Addr) else some ⟨g, 0 + j * 5, none⟩) = A3 := ⟨_, rfl⟩
                  have S79 := Lib.hid (fun W (hb : Below wr.heap.size wr W) => Sl.upTo (Sl.below (Sl.of_own HV.out) hb) hj)
                  have S93 := Lib.hid (fun W (hb : Below wr.heap.size wr W) => (by have := Sl.onFrom (Sl.below (Sl.of_own HV.out) hb) hj; rw [hA3] at this; exact this : Sl W base wr.heap.size 5 (.slice A3 (es.length - j) (c - j)) (es.length - j) ((docCells es).drop (j * 5))))
                  have HONE79 := Lib.hid (show ∀ y ∈ (docCells es).take (j * 5), y.oneCell' = true from fun y hy => hone.out y (List.mem_of_mem_take hy))
                  have HONE93 := Lib.hid (show ∀ y ∈ (docCells es).drop (j * 5), y.oneCell' = true from fun y hy => hone.out y (List.mem_of_mem_drop hy))
                  have HN := Lib.hid (show j + 1 + (es.length - j) = n5 by rw [← hn5]; simp; omega)
                  have hcj := hcap.1
                  have hcm := hcap.2
                  unfold maxLen at hcm
                  have l1 : (0 : Int) ≤ (j : Int) := by omega
                  have l2 : (j : Int) ≤ (c : Int) := by omega
                  have l3 : (j : Int) ≤ (es.length : Int) := by omega
                  have HCONE := Lib.hid (show ∀ y ∈ ([.int .i64 mv, .int .i64 fr, .int .i64 to_, .slice Al l.length cl, .bool false] : List Value), y.oneCell' = true from fun y hy => by simp only [List.mem_cons, List.not_mem_nil, or_false] at hy; rcases hy with rfl | rfl | rfl | rfl | rfl <;> rfl)
                  clear g0 hd hd2 hv hje
                  have hdr := (Below.refl wr.heap.size wr).drew
                  have hx0 : Ob wr.drew xb 58 #[.slice (some ⟨g, 0, none⟩) es.length c] := hx
                  have g0d : wr.drew.cell? ⟨xb, 0, none⟩ = some (.slice (some ⟨g, 0, none⟩) es.length c) := hx0.cell (j := 0) rfl
                  have hxl := hx.lt
                  refine Pt.regionT (.look 0 (.look 2 (.look 3 (.look 4 (.look 5 (.look 6 (.look 7 (.look 9 (.look 10 (.look 11 (.look 12 (.look 13 (.look 16 (.look 17 (.look 18 (.look 19 (.look 20 (.look 21 (.look 23 (.look 24 (.fork 1 (.fork 8 (.make 14 (.make 15 (.make 22 (.make 25 .nil)))) 14 (.make 8 (.make 15 (.make 22 (.make 25 .nil))))) 14 (.make 1 (.make 8 (.make 15 (.make 22 (.make 25 .nil)))))))))))))))))))))))))) (fun V => V.cell? ⟨xb, 0, none⟩ = some (.slice (some ⟨g, 0, none⟩) es.length c)) hmx (by kernel_rfl) (by kernel_rfl) (by kernel_rfl) g0d rfl ?_
                  simp only [Pt.named, List.getElem?_toArray, List.getElem?_cons_succ, List.getElem?_cons_zero, Option.map_some]
                  iterate 06 (apply Pt.WalkT.on (by rfl)
                              · rintro V gV
                                go_wp2_with fail
                                refine ⟨rfl, ?_, rfl⟩
                                try simp only [Act.put, List.setIfInBounds_toArray, List.set_cons_succ, List.set_cons_zero]
                                rfl
                              simp only [Act.put, List.setIfInBounds_toArray, List.set_cons_succ, List.set_cons_zero])
                  apply Pt.WalkT.on (v := .slice (some ⟨g, 0, none⟩) j c) (by rfl)
                  · rintro V gV
                    go_wp2_with fail
                    refine ⟨rfl, ?_, rfl⟩
                    simp only [Act.put, List.setIfInBounds_toArray, List.set_cons_succ, List.set_cons_zero]
                  simp only [Act.put, List.setIfInBounds_toArray, List.set_cons_succ, List.set_cons_zero]
                  iterate 10 (apply Pt.WalkT.on (by rfl)
                              · rintro V gV
                                go_wp2_with fail
                                refine ⟨rfl, ?_, rfl⟩
                                try simp only [Act.put, List.setIfInBounds_toArray, List.set_cons_succ, List.set_cons_zero]
                                rfl
                              simp only [Act.put, List.setIfInBounds_toArray, List.set_cons_succ, List.set_cons_zero])
                  apply Pt.WalkT.on (v := .slice A3 (es.length - j) (c - j)) (by rfl)
                  · rintro V gV
                    by_cases hce : c = j
                    · have hA4 : A3 = some ⟨g, 0, none⟩ := by rw [← hA3, if_pos hce]
                      rw [hA4]
                      clear hA3 hA4
                      go_wp2_with fail
                      refine ⟨rfl, ?_, rfl⟩
                      simp only [Act.put, List.setIfInBounds_toArray, List.set_cons_succ, List.set_cons_zero, Nat.sub_self]
                    · have hA4 : A3 = some ⟨g, j * 5, none⟩ := by rw [← hA3, if_neg hce, Nat.zero_add]
                      rw [hA4]
                      clear hA3 hA4
                      go_wp2_with fail
                      refine ⟨rfl, ?_, rfl⟩
                      simp only [Act.put, List.setIfInBounds_toArray, List.set_cons_succ, List.set_cons_zero]
                  simp only [Act.put, List.setIfInBounds_toArray, List.set_cons_succ, List.set_cons_zero]
                  iterate 02 (apply Pt.WalkT.on (by rfl)
                              · rintro V gV
                                go_wp2_with fail
                                refine ⟨rfl, ?_, rfl⟩
                                try simp only [Act.put, List.setIfInBounds_toArray, List.set_cons_succ, List.set_cons_zero]
                                rfl
                              simp only [Act.put, List.setIfInBounds_toArray, List.set_cons_succ, List.set_cons_zero])
                  clear g0d
                  generalize wr.drew = W0 at *
                  refine Pt.WalkT.fork (by rfl) (by rfl) ?_ ?_
                  · intro V hV
                    rw [hV]
                    clear hV V
                    go_wp2_with fail
                    have hownE := World.ownsRow_lit (e := 108) (size := 5) (base := wr.heap.size) W0 #[] 0 hdr.size (Nat.zero_le _) rfl
                    have hbE := hdr.alloc hdr.size (.cells #[] 108)
                    have hxE := hx0.alloc (.cells #[] 108)
                    have HSZE := Lib.hid (show (W0.alloc (.cells #[] 108)).heap.size = W0.heap.size + 1 by simp)
                    refine ⟨rfl, .slice (some ⟨W0.heap.size, 0, none⟩) 0 0, _, (fun V => V = W0.alloc (.cells #[] 108)), ?_, rfl, (fun V h => by rw [h]; exact hxE.cell (j := 0) rfl), (.inr (fun _ h => h)), ?_⟩
                    · simp only [Act.put, List.setIfInBounds_toArray, List.set_cons_succ, List.set_cons_zero]
                    simp only [Act.put, List.setIfInBounds_toArray, List.set_cons_succ, List.set_cons_zero]
                    generalize W0.alloc (.cells #[] 108) = WE at *
                    refine Pt.WalkT.fork (by rfl) (by rfl) ?_ ?_
                    · intro V hV
                      rw [hV]
                      clear hV V
                      refine wpList_append_sl _ rfl (.tmp 73) (.tmp 79) _ rfl wr.heap.size 108 i0 _ 5 56 Tryz.underlying56 hi0 hz0 hz1 hz2 rfl (by omega) (.slice (some ⟨W0.heap.size, 0, none⟩) 0 0) 0 [] rfl hownE base wr.heap.size _ j ((docCells es).take (j * 5)) rfl (S79.out _ hbE) HONE79.out (by unfold maxLen; omega) (by omega) hbE.size ?_
                      intro v1 w1 hv1 hg1 hat1
                      have hv1' : w1.ownsRow wr.heap.size 108 5 v1 j ((docCells es).take (j * 5)) := by simpa using hv1
                      have hb1 := hbE.grown hg1 hbE.size (fun g hg => (hownE.lt g hg).1)
                      have hx1 := hxE.kept hg1 (fun e => by have := (hownE.lt xb e.symm).1; omega)
                      refine ⟨rfl, v1, _, (fun V => V = w1), rfl, rfl, (fun V h => by rw [h]; exact hx1.cell (j := 0) rfl), (.inr (fun _ h => h)), ?_⟩
                      simp only [Act.put, List.setIfInBounds_toArray, List.set_cons_succ, List.set_cons_zero]
                      clear hv1 hg1 hat1
                      refine Pt.WalkT.make (by rfl) ?_
                      intro V hV
                      rw [hV]
                      clear hV V
                      go_wp2_with fail
                      have hlL : Sl (w1.alloc (.cells #[.int .i64 mv, .int .i64 fr, .int .i64 to_, .slice Al l.length cl, .bool false] 108)) w1.heap.size (w1.heap.size + 1) 5 (.slice (some ⟨w1.heap.size, 0, none⟩) 1 1) 1 [.int .i64 mv, .int .i64 fr, .int .i64 to_, .slice Al l.length cl, .bool false] := Sl.new w1 #[.int .i64 mv, .int .i64 fr, .int .i64 to_, .slice Al l.length cl, .bool false] 108 (n := 1) rfl (by unfold maxLen; omega)
                      have hbL := hb1.alloc hb1.size (.cells #[.int .i64 mv, .int .i64 fr, .int .i64 to_, .slice Al l.length cl, .bool false] 108)
                      have hxL := hx1.alloc (.cells #[.int .i64 mv, .int .i64 fr, .int .i64 to_, .slice Al l.length cl, .bool false] 108)
                      have HSZL := Lib.hid (show (w1.alloc (.cells #[.int .i64 mv, .int .i64 fr, .int .i64 to_, .slice Al l.length cl, .bool false] 108)).heap.size = w1.heap.size + 1 by simp)
                      have hoL := hv1'.alloc (.cells #[.int .i64 mv, .int .i64 fr, .int .i64 to_, .slice Al l.length cl, .bool false] 108)
                      refine ⟨rfl, .slice (some ⟨w1.heap.size, 0, none⟩) 1 1, _, (fun V => V = w1.alloc (.cells #[.int .i64 mv, .int .i64 fr, .int .i64 to_, .slice Al l.length cl, .bool false] 108)), ?_, rfl, (fun V h => by rw [h]; exact hxL.cell (j := 0) rfl), (.inr (fun _ h => h)), ?_⟩
                      · simp only [Act.put, List.setIfInBounds_toArray, List.set_cons_succ, List.set_cons_zero]
                      simp only [Act.put, List.setIfInBounds_toArray, List.set_cons_succ, List.set_cons_zero]
                      generalize w1.alloc (.cells #[.int .i64 mv, .int .i64 fr, .int .i64 to_, .slice Al l.length cl, .bool false] 108) = WL at *
                      refine Pt.WalkT.make (by rfl) ?_
                      intro V hV
                      rw [hV]
                      clear hV V
                      refine wpList_append_sl _ rfl (.tmp 80) (.tmp 86) _ rfl wr.heap.size 108 i0 _ 5 56 Tryz.underlying56 hi0 hz0 hz1 hz2 rfl (by omega) v1 j ((docCells es).take (j * 5)) rfl hoL w1.heap.size (w1.heap.size + 1) (.slice (some ⟨w1.heap.size, 0, none⟩) 1 1) 1 [.int .i64 mv, .int .i64 fr, .int .i64 to_, .slice Al l.length cl, .bool false] rfl hlL HCONE.out (by unfold maxLen; omega) (by omega) hbL.size ?_
                      intro v2 w2 hv2 hg2 hat2
                      have hb2 := hbL.grown hg2 hbL.size (fun g hg => (hoL.lt g hg).1)
                      have hx2 := hxL.kept hg2 (fun e => by have := (hoL.lt xb e.symm).1; omega)
                      clear hg2 hat2
                      refine ⟨rfl, v2, _, (fun V => V = w2), rfl, rfl, (fun V h => by rw [h]; exact hx2.cell (j := 0) rfl), (.inr (fun _ h => h)), ?_⟩
                      simp only [Act.put, List.setIfInBounds_toArray, List.set_cons_succ, List.set_cons_zero]
                      refine Pt.WalkT.make (by rfl) ?_
                      intro V hV
                      rw [hV]
                      clear hV V
                      refine wpList_append_sl _ rfl (.tmp 87) (.tmp 93) _ rfl wr.heap.size 108 i0 _ 5 56 Tryz.underlying56 hi0 hz0 hz1 hz2 rfl (by omega) v2 (j + 1) ((docCells es).take (j * 5) ++ [.int .i64 mv, .int .i64 fr, .int .i64 to_, .slice Al l.length cl, .bool false]) rfl hv2 base wr.heap.size _ (es.length - j) ((docCells es).drop (j * 5)) rfl (S93.out _ hb2) HONE93.out (by unfold maxLen; omega) (by omega) hb2.size ?_
                      intro v3 w3 hv3 hg3 hat3
                      have hb3 := hb2.grown hg3 hb2.size (fun g hg => (hv2.lt g hg).1)
                      have hx3 := hx2.kept hg3 (fun e => by have := (hv2.lt xb e.symm).1; omega)
                      clear hg3 hat3 hv2 hx2
                      rw [show (docCells es).take (j * 5) ++ [.int .i64 mv, .int .i64 fr, .int .i64 to_, .slice Al l.length cl, .bool false] ++ (docCells es).drop (j * 5) = docCells (es.take j ++ [((⟨mv, fr, to_, l, false⟩ : Way), Value.slice Al l.length cl)] ++ es.drop j) from (docCells_ins es j ((⟨mv, fr, to_, l, false⟩ : Way), Value.slice Al l.length cl)).symm, HN.out] at hv3
                      obtain ⟨A5, c5, rfl, -⟩ := (Sl.of_own hv3).at_
                      have HV3 := Lib.hid hv3
                      clear hv3
                      refine ⟨rfl, _, _, (fun V => V = w3), rfl, rfl, (fun V h => by rw [h]; exact hx3.cell (j := 0) rfl), (.inr (fun _ h => h)), ?_⟩
                      simp only [Act.put, List.setIfInBounds_toArray, List.set_cons_succ, List.set_cons_zero]
                      refine Pt.WalkT.make (by rfl) ?_
                      intro V hV
                      rw [hV]
                      clear hV V
                      have g3 := hx3.cell (j := 0) (v := .slice (some ⟨g, 0, none⟩) es.length c) rfl
                      have f3 := hx3.frozen 0
                      go_wp2_with fail
                      have hx4 := hx3.set 0 (.slice A5 n5 c5)
                      have hg4 := grownBy_set w3 xb 0 (.slice A5 n5 c5)
                      refine ⟨rfl, undef, (fun _ => True), (fun V => V = w3.setCell ⟨xb, 0, none⟩ (.slice A5 n5 c5)), rfl, rfl, (fun _ _ => trivial), (.inl (by kernel_rfl)), Pt.WalkT.nil ?_⟩
                      intro V hV
                      rw [hV]
                      clear hV V
                      simp only [Act.put]
                      have hrow := ownsRow_far HV3.out hg4 hxl
                      have hbw := HB1.out.trans (hb3.mono HB1.out.size)
                      have hgw := (only_of_below hbw (some xb)).trans hg4
                      have hBb : Below base wr (w3.setCell ⟨xb, 0, none⟩ (.slice A5 n5 c5)) := (hb3.mono hB1).grown hg4 (Nat.le_trans hB1 hb3.size) (fun k e => by cases e; exact hxb)
                      have hnest : ∀ p ∈ (es.take j ++ [((⟨mv, fr, to_, l, false⟩ : Way), Value.slice Al l.length cl)] ++ es.drop j), ItemsAt (w3.setCell ⟨xb, 0, none⟩ (.slice A5 n5 c5)) 0 base p.2 p.1.l := by
                        intro p hp
                        rcases List.mem_append.1 hp with hp | hp
                        · rcases List.mem_append.1 hp with hp | hp
                          · exact (HD.out.nest p (List.mem_of_mem_take hp)).below hBb
                          · rw [List.mem_singleton] at hp
                            rw [hp]
                            exact HI1.out.below hBb
                        · exact (HD.out.nest p (List.mem_of_mem_drop hp)).below hBb
                      clear g3 f3
                      go_wp2
                      go_ret
                      have hfin := HFIN.out j hj HLT.out HGE.out
                      have hdoc : DocAt (w3.setCell ⟨xb, 0, none⟩ (.slice A5 n5 c5)) xb base (es.take j ++ [((⟨mv, fr, to_, l, false⟩ : Way), Value.slice Al l.length cl)] ++ es.drop j) := ⟨⟨_, hx4, by rw [hn5]; exact ownsRow_wide hrow hB1⟩, hnest, by rw [hn5, ← HN.out]; omega⟩
                      first
                        | exact ⟨_, rfl, hfin, hdoc, hgw⟩
                        | exact ⟨rfl, _, hfin, hdoc, hgw⟩
                    · intro V hV
                      rw [hV]
                      clear hV V
                      go_wp2_with fail
                      have hlL : Sl (WE.alloc (.cells #[.int .i64 mv, .int .i64 fr, .int .i64 to_, .slice Al l.length cl, .bool false] 108)) WE.heap.size (WE.heap.size + 1) 5 (.slice (some ⟨WE.heap.size, 0, none⟩) 1 1) 1 [.int .i64 mv, .int .i64 fr, .int .i64 to_, .slice Al l.length cl, .bool false] := Sl.new WE #[.int .i64 mv, .int .i64 fr, .int .i64 to_, .slice Al l.length cl, .bool false] 108 (n := 1) rfl (by unfold maxLen; omega)
                      have hbL := hbE.alloc hbE.size (.cells #[.int .i64 mv, .int .i64 fr, .int .i64 to_, .slice Al l.length cl, .bool false] 108)
                      have hxL := hxE.alloc (.cells #[.int .i64 mv, .int .i64 fr, .int .i64 to_, .slice Al l.length cl, .bool false] 108)
                      have HSZL := Lib.hid (show (WE.alloc (.cells #[.int .i64 mv, .int .i64 fr, .int .i64 to_, .slice Al l.length cl, .bool false] 108)).heap.size = WE.heap.size + 1 by simp)
                      have hoL := hownE.alloc (.cells #[.int .i64 mv, .int .i64 fr, .int .i64 to_, .slice Al l.length cl, .bool false] 108)
                      refine ⟨rfl, .slice (some ⟨WE.heap.size, 0, none⟩) 1 1, _, (fun V => V = WE.alloc (.cells #[.int .i64 mv, .int .i64 fr, .int .i64 to_, .slice Al l.length cl, .bool false] 108)), ?_, rfl, (fun V h => by rw [h]; exact hxL.cell (j := 0) rfl), (.inr (fun _ h => h)), ?_⟩
                      · simp only [Act.put, List.setIfInBounds_toArray, List.set_cons_succ, List.set_cons_zero]
                      simp only [Act.put, List.setIfInBounds_toArray, List.set_cons_succ, List.set_cons_zero]
                      generalize WE.alloc (.cells #[.int .i64 mv, .int .i64 fr, .int .i64 to_, .slice Al l.length cl, .bool false] 108) = WL at *
                      refine Pt.WalkT.make (by rfl) ?_
                      intro V hV
                      rw [hV]
                      clear hV V
                      refine wpList_append_sl _ rfl (.tmp 73) (.tmp 79) _ rfl wr.heap.size 108 i0 _ 5 56 Tryz.underlying56 hi0 hz0 hz1 hz2 rfl (by omega) (.slice (some ⟨W0.heap.size, 0, none⟩) 0 0) 0 [] rfl hoL base wr.heap.size _ j ((docCells es).take (j * 5)) rfl (S79.out _ hbL) HONE79.out (by unfold maxLen; omega) (by omega) hbL.size ?_
                      intro v1 w1 hv1 hg1 hat1
                      have hv1' : w1.ownsRow wr.heap.size 108 5 v1 j ((docCells es).take (j * 5)) := by simpa using hv1
                      have hb1 := hbL.grown hg1 hbL.size (fun g hg => (hoL.lt g hg).1)
                      have hx1 := hxL.kept hg1 (fun e => by have := (hoL.lt xb e.symm).1; omega)
                      have hl1 := Sl.grown hlL hg1 (by have := HSZL.out; omega) (fun k e => by have e2 : W0.heap.size = k := Option.some.inj e; have := HSZE.out; left; omega)
                      refine ⟨rfl, v1, _, (fun V => V = w1), rfl, rfl, (fun V h => by rw [h]; exact hx1.cell (j := 0) rfl), (.inr (fun _ h => h)), ?_⟩
                      simp only [Act.put, List.setIfInBounds_toArray, List.set_cons_succ, List.set_cons_zero]
                      clear hv1 hg1 hat1
                      refine Pt.WalkT.make (by rfl) ?_
                      intro V hV
                      rw [hV]
                      clear hV V
                      refine wpList_append_sl _ rfl (.tmp 80) (.tmp 86) _ rfl wr.heap.size 108 i0 _ 5 56 Tryz.underlying56 hi0 hz0 hz1 hz2 rfl (by omega) v1 j ((docCells es).take (j * 5)) rfl hv1' WE.heap.size (WE.heap.size + 1) (.slice (some ⟨WE.heap.size, 0, none⟩) 1 1) 1 [.int .i64 mv, .int .i64 fr, .int .i64 to_, .slice Al l.length cl, .bool false] rfl hl1 HCONE.out (by unfold maxLen; omega) (by omega) hb1.size ?_
                      intro v2 w2 hv2 hg2 hat2
                      have hb2 := hb1.grown hg2 hb1.size (fun g hg => (hv1'.lt g hg).1)
                      have hx2 := hx1.kept hg2 (fun e => by have := (hv1'.lt xb e.symm).1; omega)
                      clear hg2 hat2
                      refine ⟨rfl, v2, _, (fun V => V = w2), rfl, rfl, (fun V h => by rw [h]; exact hx2.cell (j := 0) rfl), (.inr (fun _ h => h)), ?_⟩
                      simp only [Act.put, List.setIfInBounds_toArray, List.set_cons_succ, List.set_cons_zero]
                      refine Pt.WalkT.make (by rfl) ?_
                      intro V hV
                      rw [hV]
                      clear hV V
                      refine wpList_append_sl _ rfl (.tmp 87) (.tmp 93) _ rfl wr.heap.size 108 i0 _ 5 56 Tryz.underlying56 hi0 hz0 hz1 hz2 rfl (by omega) v2 (j + 1) ((docCells es).take (j * 5) ++ [.int .i64 mv, .int .i64 fr, .int .i64 to_, .slice Al l.length cl, .bool false]) rfl hv2 base wr.heap.size _ (es.length - j) ((docCells es).drop (j * 5)) rfl (S93.out _ hb2) HONE93.out (by unfold maxLen; omega) (by omega) hb2.size ?_
                      intro v3 w3 hv3 hg3 hat3
                      have hb3 := hb2.grown hg3 hb2.size (fun g hg => (hv2.lt g hg).1)
                      have hx3 := hx2.kept hg3 (fun e => by have := (hv2.lt xb e.symm).1; omega)
                      clear hg3 hat3 hv2 hx2
                      rw [show (docCells es).take (j * 5) ++ [.int .i64 mv, .int .i64 fr, .int .i64 to_, .slice Al l.length cl, .bool false] ++ (docCells es).drop (j * 5) = docCells (es.take j ++ [((⟨mv, fr, to_, l, false⟩ : Way), Value.slice Al l.length cl)] ++ es.drop j) from (docCells_ins es j ((⟨mv, fr, to_, l, false⟩ : Way), Value.slice Al l.length cl)).symm, HN.out] at hv3
                      obtain ⟨A5, c5, rfl, -⟩ := (Sl.of_own hv3).at_
                      have HV3 := Lib.hid hv3
                      clear hv3
                      refine ⟨rfl, _, _, (fun V => V = w3), rfl, rfl, (fun V h => by rw [h]; exact hx3.cell (j := 0) rfl), (.inr (fun _ h => h)), ?_⟩
                      simp only [Act.put, List.setIfInBounds_toArray, List.set_cons_succ, List.set_cons_zero]
                      refine Pt.WalkT.make (by rfl) ?_
                      intro V hV
                      rw [hV]
                      clear hV V
                      have g3 := hx3.cell (j := 0) (v := .slice (some ⟨g, 0, none⟩) es.length c) rfl
                      have f3 := hx3.frozen 0
                      go_wp2_with fail
                      have hx4 := hx3.set 0 (.slice A5 n5 c5)
                      have hg4 := grownBy_set w3 xb 0 (.slice A5 n5 c5)
                      refine ⟨rfl, undef, (fun _ => True), (fun V => V = w3.setCell ⟨xb, 0, none⟩ (.slice A5 n5 c5)), rfl, rfl, (fun _ _ => trivial), (.inl (by kernel_rfl)), Pt.WalkT.nil ?_⟩
                      intro V hV
                      rw [hV]
                      clear hV V
                      simp only [Act.put]
                      have hrow := ownsRow_far HV3.out hg4 hxl
                      have hbw := HB1.out.trans (hb3.mono HB1.out.size)
                      have hgw := (only_of_below hbw (some xb)).trans hg4
                      have hBb : Below base wr (w3.setCell ⟨xb, 0, none⟩ (.slice A5 n5 c5)) := (hb3.mono hB1).grown hg4 (Nat.le_trans hB1 hb3.size) (fun k e => by cases e; exact hxb)
                      have hnest : ∀ p ∈ (es.take j ++ [((⟨mv, fr, to_, l, false⟩ : Way), Value.slice Al l.length cl)] ++ es.drop j), ItemsAt (w3.setCell ⟨xb, 0, none⟩ (.slice A5 n5 c5)) 0 base p.2 p.1.l := by
                        intro p hp
                        rcases List.mem_append.1 hp with hp | hp
                        · rcases List.mem_append.1 hp with hp | hp
                          · exact (HD.out.nest p (List.mem_of_mem_take hp)).below hBb
                          · rw [List.mem_singleton] at hp
                            rw [hp]
                            exact HI1.out.below hBb
                        · exact (HD.out.nest p (List.mem_of_mem_drop hp)).below hBb
                      clear g3 f3
                      go_wp2
                      go_ret
                      have hfin := HFIN.out j hj HLT.out HGE.out
                      have hdoc : DocAt (w3.setCell ⟨xb, 0, none⟩ (.slice A5 n5 c5)) xb base (es.take j ++ [((⟨mv, fr, to_, l, false⟩ : Way), Value.slice Al l.length cl)] ++ es.drop j) := ⟨⟨_, hx4, by rw [hn5]; exact ownsRow_wide hrow hB1⟩, hnest, by rw [hn5, ← HN.out]; omega⟩
                      first
                        | exact ⟨_, rfl, hfin, hdoc, hgw⟩
                        | exact ⟨rfl, _, hfin, hdoc, hgw⟩
                  · intro V hV
                    rw [hV]
                    clear hV V
                    go_wp2_with fail
                    have hlL : Sl (W0.alloc (.cells #[.int .i64 mv, .int .i64 fr, .int .i64 to_, .slice Al l.length cl, .bool false] 108)) W0.heap.size (W0.heap.size + 1) 5 (.slice (some ⟨W0.heap.size, 0, none⟩) 1 1) 1 [.int .i64 mv, .int .i64 fr, .int .i64 to_, .slice Al l.length cl, .bool false] := Sl.new W0 #[.int .i64 mv, .int .i64 fr, .int .i64 to_, .slice Al l.length cl, .bool false] 108 (n := 1) rfl (by unfold maxLen; omega)
                    have hbL := hdr.alloc hdr.size (.cells #[.int .i64 mv, .int .i64 fr, .int .i64 to_, .slice Al l.length cl, .bool false] 108)
                    have hxL := hx0.alloc (.cells #[.int .i64 mv, .int .i64 fr, .int .i64 to_, .slice Al l.length cl, .bool false] 108)
                    have HSZL := Lib.hid (show (W0.alloc (.cells #[.int .i64 mv, .int .i64 fr, .int .i64 to_, .slice Al l.length cl, .bool false] 108)).heap.size = W0.heap.size + 1 by simp)
                    refine ⟨rfl, .slice (some ⟨W0.heap.size, 0, none⟩) 1 1, _, (fun V => V = W0.alloc (.cells #[.int .i64 mv, .int .i64 fr, .int .i64 to_, .slice Al l.length cl, .bool false] 108)), ?_, rfl, (fun V h => by rw [h]; exact hxL.cell (j := 0) rfl), (.inr (fun _ h => h)), ?_⟩
                    · simp only [Act.put, List.setIfInBounds_toArray, List.set_cons_succ, List.set_cons_zero]
                    simp only [Act.put, List.setIfInBounds_toArray, List.set_cons_succ, List.set_cons_zero]
                    generalize W0.alloc (.cells #[.int .i64 mv, .int .i64 fr, .int .i64 to_, .slice Al l.length cl, .bool false] 108) = WL at *
                    refine Pt.WalkT.make (by rfl) ?_
                    intro V hV
                    rw [hV]
                    clear hV V
                    go_wp2_with fail
                    have hownE := World.ownsRow_lit (e := 108) (size := 5) (base := wr.heap.size) WL #[] 0 hbL.size (Nat.zero_le _) rfl
                    have hbE := hbL.alloc hbL.size (.cells #[] 108)
                    have hxE := hxL.alloc (.cells #[] 108)
                    have HSZE := Lib.hid (show (WL.alloc (.cells #[] 108)).heap.size = WL.heap.size + 1 by simp)
                    have hlE := Sl.below hlL ((Below.refl _ WL).alloc (by have := HSZL.out; omega) (.cells #[] 108))
                    refine ⟨rfl, .slice (some ⟨WL.heap.size, 0, none⟩) 0 0, _, (fun V => V = WL.alloc (.cells #[] 108)), ?_, rfl, (fun V h => by rw [h]; exact hxE.cell (j := 0) rfl), (.inr (fun _ h => h)), ?_⟩
                    · simp only [Act.put, List.setIfInBounds_toArray, List.set_cons_succ, List.set_cons_zero]
                    simp only [Act.put, List.setIfInBounds_toArray, List.set_cons_succ, List.set_cons_zero]
                    generalize WL.alloc (.cells #[] 108) = WE at *
                    refine Pt.WalkT.make (by rfl) ?_
                    intro V hV
                    rw [hV]
                    clear hV V
                    refine wpList_append_sl _ rfl (.tmp 73) (.tmp 79) _ rfl wr.heap.size 108 i0 _ 5 56 Tryz.underlying56 hi0 hz0 hz1 hz2 rfl (by omega) (.slice (some ⟨WL.heap.size, 0, none⟩) 0 0) 0 [] rfl hownE base wr.heap.size _ j ((docCells es).take (j * 5)) rfl (S79.out _ hbE) HONE79.out (by unfold maxLen; omega) (by omega) hbE.size ?_
                    intro v1 w1 hv1 hg1 hat1
                    have hv1' : w1.ownsRow wr.heap.size 108 5 v1 j ((docCells es).take (j * 5)) := by simpa using hv1
                    have hb1 := hbE.grown hg1 hbE.size (fun g hg => (hownE.lt g hg).1)
                    have hx1 := hxE.kept hg1 (fun e => by have := (hownE.lt xb e.symm).1; omega)
                    have hl1 := Sl.grown hlE hg1 (by have := HSZE.out; have := HSZL.out; omega) (fun k e => by have e2 : WL.heap.size = k := Option.some.inj e; have := HSZL.out; right; omega)
                    refine ⟨rfl, v1, _, (fun V => V = w1), rfl, rfl, (fun V h => by rw [h]; exact hx1.cell (j := 0) rfl), (.inr (fun _ h => h)), ?_⟩
                    simp only [Act.put, List.setIfInBounds_toArray, List.set_cons_succ, List.set_cons_zero]
                    clear hv1 hg1 hat1
                    refine Pt.WalkT.make (by rfl) ?_
                    intro V hV
                    rw [hV]
                    clear hV V
                    refine wpList_append_sl _ rfl (.tmp 80) (.tmp 86) _ rfl wr.heap.size 108 i0 _ 5 56 Tryz.underlying56 hi0 hz0 hz1 hz2 rfl (by omega) v1 j ((docCells es).take (j * 5)) rfl hv1' W0.heap.size (W0.heap.size + 1) (.slice (some ⟨W0.heap.size, 0, none⟩) 1 1) 1 [.int .i64 mv, .int .i64 fr, .int .i64 to_, .slice Al l.length cl, .bool false] rfl hl1 HCONE.out (by unfold maxLen; omega) (by omega) hb1.size ?_
                    intro v2 w2 hv2 hg2 hat2
                    have hb2 := hb1.grown hg2 hb1.size (fun g hg => (hv1'.lt g hg).1)
                    have hx2 := hx1.kept hg2 (fun e => by have := (hv1'.lt xb e.symm).1; omega)
                    clear hg2 hat2
                    refine ⟨rfl, v2, _, (fun V => V = w2), rfl, rfl, (fun V h => by rw [h]; exact hx2.cell (j := 0) rfl), (.inr (fun _ h => h)), ?_⟩
                    simp only [Act.put, List.setIfInBounds_toArray, List.set_cons_succ, List.set_cons_zero]
                    refine Pt.WalkT.make (by rfl) ?_
                    intro V hV
                    rw [hV]
                    clear hV V
                    refine wpList_append_sl _ rfl (.tmp 87) (.tmp 93) _ rfl wr.heap.size 108 i0 _ 5 56 Tryz.underlying56 hi0 hz0 hz1 hz2 rfl (by omega) v2 (j + 1) ((docCells es).take (j * 5) ++ [.int .i64 mv, .int .i64 fr, .int .i64 to_, .slice Al l.length cl, .bool false]) rfl hv2 base wr.heap.size _ (es.length - j) ((docCells es).drop (j * 5)) rfl (S93.out _ hb2) HONE93.out (by unfold maxLen; omega) (by omega) hb2.size ?_
                    intro v3 w3 hv3 hg3 hat3
                    have hb3 := hb2.grown hg3 hb2.size (fun g hg => (hv2.lt g hg).1)
                    have hx3 := hx2.kept hg3 (fun e => by have := (hv2.lt xb e.symm).1; omega)
                    clear hg3 hat3 hv2 hx2
                    rw [show (docCells es).take (j * 5) ++ [.int .i64 mv, .int .i64 fr, .int .i64 to_, .slice Al l.length cl, .bool false] ++ (docCells es).drop (j * 5) = docCells (es.take j ++ [((⟨mv, fr, to_, l, false⟩ : Way), Value.slice Al l.length cl)] ++ es.drop j) from (docCells_ins es j ((⟨mv, fr, to_, l, false⟩ : Way), Value.slice Al l.length cl)).symm, HN.out] at hv3
                    obtain ⟨A5, c5, rfl, -⟩ := (Sl.of_own hv3).at_
                    have HV3 := Lib.hid hv3
                    clear hv3
                    refine ⟨rfl, _, _, (fun V => V = w3), rfl, rfl, (fun V h => by rw [h]; exact hx3.cell (j := 0) rfl), (.inr (fun _ h => h)), ?_⟩
                    simp only [Act.put, List.setIfInBounds_toArray, List.set_cons_succ, List.set_cons_zero]
                    refine Pt.WalkT.make (by rfl) ?_
                    intro V hV
                    rw [hV]
                    clear hV V
                    have g3 := hx3.cell (j := 0) (v := .slice (some ⟨g, 0, none⟩) es.length c) rfl
                    have f3 := hx3.frozen 0
                    go_wp2_with fail
                    have hx4 := hx3.set 0 (.slice A5 n5 c5)
                    have hg4 := grownBy_set w3 xb 0 (.slice A5 n5 c5)
                    refine ⟨rfl, undef, (fun _ => True), (fun V => V = w3.setCell ⟨xb, 0, none⟩ (.slice A5 n5 c5)), rfl, rfl, (fun _ _ => trivial), (.inl (by kernel_rfl)), Pt.WalkT.nil ?_⟩
                    intro V hV
                    rw [hV]
                    clear hV V
                    simp only [Act.put]
                    have hrow := ownsRow_far HV3.out hg4 hxl
                    have hbw := HB1.out.trans (hb3.mono HB1.out.size)
                    have hgw := (only_of_below hbw (some xb)).trans hg4
                    have hBb : Below base wr (w3.setCell ⟨xb, 0, none⟩ (.slice A5 n5 c5)) := (hb3.mono hB1).grown hg4 (Nat.le_trans hB1 hb3.size) (fun k e => by cases e; exact hxb)
                    have hnest : ∀ p ∈ (es.take j ++ [((⟨mv, fr, to_, l, false⟩ : Way), Value.slice Al l.length cl)] ++ es.drop j), ItemsAt (w3.setCell ⟨xb, 0, none⟩ (.slice A5 n5 c5)) 0 base p.2 p.1.l := by
                      intro p hp
                      rcases List.mem_append.1 hp with hp | hp
                      · rcases List.mem_append.1 hp with hp | hp
                        · exact (HD.out.nest p (List.mem_of_mem_take hp)).below hBb
                        · rw [List.mem_singleton] at hp
                          rw [hp]
                          exact HI1.out.below hBb
                      · exact (HD.out.nest p (List.mem_of_mem_drop hp)).below hBb
                    clear g3 f3
                    go_wp2
                    go_ret
                    have hfin := HFIN.out j hj HLT.out HGE.out
                    have hdoc : DocAt (w3.setCell ⟨xb, 0, none⟩ (.slice A5 n5 c5)) xb base (es.take j ++ [((⟨mv, fr, to_, l, false⟩ : Way), Value.slice Al l.length cl)] ++ es.drop j) := ⟨⟨_, hx4, by rw [hn5]; exact ownsRow_wide hrow hB1⟩, hnest, by rw [hn5, ← HN.out]; omega⟩
                    first
                      | exact ⟨_, rfl, hfin, hdoc, hgw⟩
                      | exact ⟨rfl, _, hfin, hdoc, hgw⟩
                · obtain ⟨b, o, e0, -, -, c0, -⟩ := docAt_cell (Sl.of_own HV.out) hjl
                  cases e0
                  simp only [Nat.zero_add] at c0
                  have hlt2 : es[j].1.mv < mv := by simpa using hq
                  generalize hm : es[j].1.mv = m at *
                  have HM := Lib.hid hm
                  clear hm hlt2
                  go_wp2
                  refine ⟨⟨j + 1, by omega, by go_num, trivial, fun i h hi => ?_⟩, by simp [intOf]; omega⟩
                  by_cases e : i = j
                  · subst e; rw [HM.out]; simpa using hq
                  · exact HLT.out i h (by omega)
                · obtain ⟨b, o, e0, -, -, c0, -⟩ := docAt_cell (Sl.of_own HV.out) hjl
                  cases e0
                  simp only [Nat.zero_add] at c0
                  have HGE := Lib.hid (show ∀ h : j < es.length, mv < es[j].1.mv from fun h => by have h3 := HNF.out j h; have hq2 : ¬ es[j].1.mv < mv := (by simpa using hq); omega)
                  generalize hm : es[j].1.mv = m at c0 hq
                  clear hm
                  go_wp2_with fail
                  obtain ⟨n5, hn5⟩ : ∃ n5, (es.take j ++ [((⟨mv, fr, to_, l, false⟩ : Way), Value.slice Al l.length cl)] ++ es.drop j).length = n5 := ⟨_, rfl⟩
                  obtain ⟨A3, hA3⟩ : ∃ A3, (if c = j then some (⟨g, 0, none⟩ : Addr) else some ⟨g, 0 + j * 5, none⟩) = A3 := ⟨_, rfl⟩
                  have S79 := Lib.hid (fun W (hb : Below wr.heap.size wr W) => Sl.upTo (Sl.below (Sl.of_own HV.out) hb) hj)
                  have S93 := Lib.hid (fun W (hb : Below wr.heap.size wr W) => (by have := Sl.onFrom (Sl.below (Sl.of_own HV.out) hb) hj; rw [hA3] at this; exact this : Sl W base wr.heap.size 5 (.slice A3 (es.length - j) (c - j)) (es.length - j) ((docCells es).drop (j * 5))))
                  have HONE79 := Lib.hid (show ∀ y ∈ (docCells es).take (j * 5), y.oneCell' = true from fun y hy => hone.out y (List.mem_of_mem_take hy))
                  have HONE93 := Lib.hid (show ∀ y ∈ (docCells es).drop (j * 5), y.oneCell' = true from fun y hy => hone.out y (List.mem_of_mem_drop hy))
                  have HN := Lib.hid (show j + 1 + (es.length - j) = n5 by rw [← hn5]; simp; omega)
                  have hcj := hcap.1
                  have hcm := hcap.2
                  unfold maxLen at hcm
                  have l1 : (0 : Int) ≤ (j : Int) := by omega
                  have l2 : (j : Int) ≤ (c : Int) := by omega
                  have l3 : (j : Int) ≤ (es.length : Int) := by omega
                  have HCONE := Lib.hid (show ∀ y ∈ ([.int .i64 mv, .int .i64 fr, .int .i64 to_, .slice Al l.length cl, .bool false] : List Value), y.oneCell' = true from fun y hy => by simp only [List.mem_cons, List.not_mem_nil, or_false] at hy; rcases hy with rfl | rfl | rfl | rfl | rfl <;> rfl)
                  clear g0 hd hd2 hv hq c0 hjl
                  have hdr := (Below.refl wr.heap.size wr).drew
                  have hx0 : Ob wr.drew xb 58 #[.slice (some ⟨g, 0, none⟩) es.length c] := hx
                  have g0d : wr.drew.cell? ⟨xb, 0, none⟩ = some (.slice (some ⟨g, 0, none⟩) es.length c) := hx0.cell (j := 0) rfl
                  have hxl := hx.lt
                  refine Pt.regionT (.look 0 (.look 2 (.look 3 (.look 4 (.look 5 (.look 6 (.look 7 (.look 9 (.look 10 (.look 11 (.look 12 (.look 13 (.look 16 (.look 17 (.look 18 (.look 19 (.look 20 (.look 21 (.look 23 (.look 24 (.fork 1 (.fork 8 (.make 14 (.make 15 (.make 22 (.make 25 .nil)))) 14 (.make 8 (.make 15 (.make 22 (.make 25 .nil))))) 14 (.make 1 (.make 8 (.make 15 (.make 22 (.make 25 .nil)))))))))))))))))))))))))) (fun V => V.cell? ⟨xb, 0, none⟩ = some (.slice (some ⟨g, 0, none⟩) es.length c)) hmx (by kernel_rfl) (by kernel_rfl) (by kernel_rfl) g0d rfl ?_
                  simp only [Pt.named, List.getElem?_toArray, List.getElem?_cons_succ, List.getElem?_cons_zero, Option.map_some]
                  iterate 06 (apply Pt.WalkT.on (by rfl)
                              · rintro V gV
                                go_wp2_with fail
                                refine ⟨rfl, ?_, rfl⟩
                                try simp only [Act.put, List.setIfInBounds_toArray, List.set_cons_succ, List.set_cons_zero]
                                rfl
                              simp only [Act.put, List.setIfInBounds_toArray, List.set_cons_succ, List.set_cons_zero])
                  apply Pt.WalkT.on (v := .slice (some ⟨g, 0, none⟩) j c) (by rfl)
                  · rintro V gV
                    go_wp2_with fail
                    refine ⟨rfl, ?_, rfl⟩
                    simp only [Act.put, List.setIfInBounds_toArray, List.set_cons_succ, List.set_cons_zero]
                  simp only [Act.put, List.setIfInBounds_toArray, List.set_cons_succ, List.set_cons_zero]
                  iterate 10 (apply Pt.WalkT.on (by rfl)
                              · rintro V gV
                                go_wp2_with fail
                                refine ⟨rfl, ?_, rfl⟩
                                try simp only [Act.put, List.setIfInBounds_toArray, List.set_cons_succ, List.set_cons_zero]
                                rfl
                              simp only [Act.put, List.setIfInBounds_toArray, List.set_cons_succ, List.set_cons_zero])
                  apply Pt.WalkT.on (v := .slice A3 (es.length - j) (c - j)) (by rfl)
                  · rintro V gV
                    by_cases hce : c = j
                    · have hA4 : A3 = some ⟨g, 0, none⟩ := by rw [← hA3, if_pos hce]
                      rw [hA4]
                      clear hA3 hA4
                      go_wp2_with fail
                      refine ⟨rfl, ?_, rfl⟩
                      simp only [Act.put, List.setIfInBounds_toArray, List.set_cons_succ, List.set_cons_zero, Nat.sub_self]
                    · have hA4 : A3 = some ⟨g, j * 5, none⟩ := by rw [← hA3, if_neg hce, Nat.zero_add]
                      rw [hA4]
                      clear hA3 hA4
                      go_wp2_with fail
                      refine ⟨rfl, ?_, rfl⟩
                      simp only [Act.put, List.setIfInBounds_toArray, List.set_cons_succ, List.set_cons_zero]
                  simp only [Act.put, List.setIfInBounds_toArray, List.set_cons_succ, List.set_cons_zero]
                  iterate 02 (apply Pt.WalkT.on (by rfl)
                              · rintro V gV
                                go_wp2_with fail
                                refine ⟨rfl, ?_, rfl⟩
                                try simp only [Act.put, List.setIfInBounds_toArray, List.set_cons_succ, List.set_cons_zero]
                                rfl
                              simp only [Act.put, List.setIfInBounds_toArray, List.set_cons_succ, List.set_cons_zero])
                  clear g0d
                  generalize wr.drew = W0 at *
                  refine Pt.WalkT.fork (by rfl) (by rfl) ?_ ?_
                  · intro V hV
                    rw [hV]
                    clear hV V
                    go_wp2_with fail
                    have hownE := World.ownsRow_lit (e := 108) (size := 5) (base := wr.heap.size) W0 #[] 0 hdr.size (Nat.zero_le _) rfl
                    have hbE := hdr.alloc hdr.size (.cells #[] 108)
                    have hxE := hx0.alloc (.cells #[] 108)
                    have HSZE := Lib.hid (show (W0.alloc (.cells #[] 108)).heap.size = W0.heap.size + 1 by simp)
                    refine ⟨rfl, .slice (some ⟨W0.heap.size, 0, none⟩) 0 0, _, (fun V => V = W0.alloc (.cells #[] 108)), ?_, rfl, (fun V h => by rw [h]; exact hxE.cell (j := 0) rfl), (.inr (fun _ h => h)), ?_⟩
                    · simp only [Act.put, List.setIfInBounds_toArray, List.set_cons_succ, List.set_cons_zero]
                    simp only [Act.put, List.setIfInBounds_toArray, List.set_cons_succ, List.set_cons_zero]
                    generalize W0.alloc (.cells #[] 108) = WE at *
                    refine Pt.WalkT.fork (by rfl) (by rfl) ?_ ?_
                    · intro V hV
                      rw [hV]
                      clear hV V
                      refine wpList_append_sl _ rfl (.tmp 73) (.tmp 79) _ rfl wr.heap.size 108 i0 _ 5 56 Tryz.underlying56 hi0 hz0 hz1 hz2 rfl (by omega) (.slice (some ⟨W0.heap.size, 0, none⟩) 0 0) 0 [] rfl hownE base wr.heap.size _ j ((docCells es).take (j * 5)) rfl (S79.out _ hbE) HONE79.out (by unfold maxLen; omega) (by omega) hbE.size ?_
                      intro v1 w1 hv1 hg1 hat1
                      have hv1' : w1.ownsRow wr.heap.size 108 5 v1 j ((docCells es).take (j * 5)) := by simpa using hv1
                      have hb1 := hbE.grown hg1 hbE.size (fun g hg => (hownE.lt g hg).1)
                      have hx1 := hxE.kept hg1 (fun e => by have := (hownE.lt xb e.symm).1; omega)
                      refine ⟨rfl, v1, _, (fun V => V = w1), rfl, rfl, (fun V h => by rw [h]; exact hx1.cell (j := 0) rfl), (.inr (fun _ h => h)), ?_⟩
                      simp only [Act.put, List.setIfInBounds_toArray, List.set_cons_succ, List.set_cons_zero]
                      clear hv1 hg1 hat1
                      refine Pt.WalkT.make (by rfl) ?_
                      intro V hV
                      rw [hV]
                      clear hV V
                      go_wp2_with fail
                      have hlL : Sl (w1.alloc (.cells #[.int .i64 mv, .int .i64 fr, .int .i64 to_, .slice Al l.length cl, .bool false] 108)) w1.heap.size (w1.heap.size + 1) 5 (.slice (some ⟨w1.heap.size, 0, none⟩) 1 1) 1 [.int .i64 mv, .int .i64 fr, .int .i64 to_, .slice Al l.length cl, .bool false] := Sl.new w1 #[.int .i64 mv, .int .i64 fr, .int .i64 to_, .slice Al l.length cl, .bool false] 108 (n := 1) rfl (by unfold maxLen; omega)
                      have hbL := hb1.alloc hb1.size (.cells #[.int .i64 mv, .int .i64 fr, .int .i64 to_, .slice Al l.length cl, .bool false] 108)
                      have hxL := hx1.alloc (.cells #[.int .i64 mv, .int .i64 fr, .int .i64 to_, .slice Al l.length cl, .bool false] 108)
                      have HSZL := Lib.hid (show (w1.alloc (.cells #[.int .i64 mv, .int .i64 fr, .int .i64 to_, .slice Al l.length cl, .bool false] 108)).heap.size = w1.heap.size + 1 by simp)
                      have hoL := hv1'.alloc (.cells #[.int .i64 mv, .int .i64 fr, .int .i64 to_, .slice Al l.length cl, .bool false] 108)
                      refine ⟨rfl, .slice (some ⟨w1.heap.size, 0, none⟩) 1 1, _, (fun V => V = w1.alloc (.cells #[.int .i64 mv, .int .i64 fr, .int .i64 to_, .slice Al l.length cl, .bool false] 108)), ?_, rfl, (fun V h => by rw [h]; exact hxL.cell (j := 0) rfl), (.inr (fun _ h => h)), ?_⟩
                      · simp only [Act.put, List.setIfInBounds_toArray, List.set_cons_succ, List.set_cons_zero]
                      simp only [Act.put, List.setIfInBounds_toArray, List.set_cons_succ, List.set_cons_zero]
                      generalize w1.alloc (.cells #[.int .i64 mv, .int .i64 fr, .int .i64 to_, .slice Al l.length cl, .bool false] 108) = WL at *
                      refine Pt.WalkT.make (by rfl) ?_
                      intro V hV
                      rw [hV]
                      clear hV V
                      refine wpList_append_sl _ rfl (.tmp 80) (.tmp 86) _ rfl wr.heap.size 108 i0 _ 5 56 Tryz.underlying56 hi0 hz0 hz1 hz2 rfl (by omega) v1 j ((docCells es).take (j * 5)) rfl hoL w1.heap.size (w1.heap.size + 1) (.slice (some ⟨w1.heap.size, 0, none⟩) 1 1) 1 [.int .i64 mv, .int .i64 fr, .int .i64 to_, .slice Al l.length cl, .bool false] rfl hlL HCONE.out (by unfold maxLen; omega) (by omega) hbL.size ?_
                      intro v2 w2 hv2 hg2 hat2
                      have hb2 := hbL.grown hg2 hbL.size (fun g hg => (hoL.lt g hg).1)
                      have hx2 := hxL.kept hg2 (fun e => by have := (hoL.lt xb e.symm).1; omega)
                      clear hg2 hat2
                      refine ⟨rfl, v2, _, (fun V => V = w2), rfl, rfl, (fun V h => by rw [h]; exact hx2.cell (j := 0) rfl), (.inr (fun _ h => h)), ?_⟩
                      simp only [Act.put, List.setIfInBounds_toArray, List.set_cons_succ, List.set_cons_zero]
                      refine Pt.WalkT.make (by rfl) ?_
                      intro V hV
                      rw [hV]
                      clear hV V
                      refine wpList_append_sl _ rfl (.tmp 87) (.tmp 93) _ rfl wr.heap.size 108 i0 _ 5 56 Tryz.underlying56 hi0 hz0 hz1 hz2 rfl (by omega) v2 (j + 1) ((docCells es).take (j * 5) ++ [.int .i64 mv, .int .i64 fr, .int .i64 to_, .slice Al l.length cl, .bool false]) rfl hv2 base wr.heap.size _ (es.length - j) ((docCells es).drop (j * 5)) rfl (S93.out _ hb2) HONE93.out (by unfold maxLen; omega) (by omega) hb2.size ?_
                      intro v3 w3 hv3 hg3 hat3
                      have hb3 := hb2.grown hg3 hb2.size (fun g hg => (hv2.lt g hg).1)
                      have hx3 := hx2.kept hg3 (fun e => by have := (hv2.lt xb e.symm).1; omega)
                      clear hg3 hat3 hv2 hx2
                      rw [show (docCells es).take (j * 5) ++ [.int .i64 mv, .int .i64 fr, .int .i64 to_, .slice Al l.length cl, .bool false] ++ (docCells es).drop (j * 5) = docCells (es.take j ++ [((⟨mv, fr, to_, l, false⟩ : Way), Value.slice Al l.length cl)] ++ es.drop j) from (docCells_ins es j ((⟨mv, fr, to_, l, false⟩ : Way), Value.slice Al l.length cl)).symm, HN.out] at hv3
                      obtain ⟨A5, c5, rfl, -⟩ := (Sl.of_own hv3).at_
                      have HV3 := Lib.hid hv3
                      clear hv3
                      refine ⟨rfl, _, _, (fun V => V = w3), rfl, rfl, (fun V h => by rw [h]; exact hx3.cell (j := 0) rfl), (.inr (fun _ h => h)), ?_⟩
                      simp only [Act.put, List.setIfInBounds_toArray, List.set_cons_succ, List.set_cons_zero]
                      refine Pt.WalkT.make (by rfl) ?_
                      intro V hV
                      rw [hV]
                      clear hV V
                      have g3 := hx3.cell (j := 0) (v := .slice (some ⟨g, 0, none⟩) es.length c) rfl
                      have f3 := hx3.frozen 0
                      go_wp2_with fail
                      have hx4 := hx3.set 0 (.slice A5 n5 c5)
                      have hg4 := grownBy_set w3 xb 0 (.slice A5 n5 c5)
                      refine ⟨rfl, undef, (fun _ => True), (fun V => V = w3.setCell ⟨xb, 0, none⟩ (.slice A5 n5 c5)), rfl, rfl, (fun _ _ => trivial), (.inl (by kernel_rfl)), Pt.WalkT.nil ?_⟩
                      intro V hV
                      rw [hV]
                      clear hV V
                      simp only [Act.put]
                      have hrow := ownsRow_far HV3.out hg4 hxl
                      have hbw := HB1.out.trans (hb3.mono HB1.out.size)
                      have hgw := (only_of_below hbw (some xb)).trans hg4
                      have hBb : Below base wr (w3.setCell ⟨xb, 0, none⟩ (.slice A5 n5 c5)) := (hb3.mono hB1).grown hg4 (Nat.le_trans hB1 hb3.size) (fun k e => by cases e; exact hxb)
                      have hnest : ∀ p ∈ (es.take j ++ [((⟨mv, fr, to_, l, false⟩ : Way), Value.slice Al l.length cl)] ++ es.drop j), ItemsAt (w3.setCell ⟨xb, 0, none⟩ (.slice A5 n5 c5)) 0 base p.2 p.1.l := by
                        intro p hp
                        rcases List.mem_append.1 hp with hp | hp
                        · rcases List.mem_append.1 hp with hp | hp
                          · exact (HD.out.nest p (List.mem_of_mem_take hp)).below hBb
                          · rw [List.mem_singleton] at hp
                            rw [hp]
                            exact HI1.out.below hBb
                        · exact (HD.out.nest p (List.mem_of_mem_drop hp)).below hBb
                      clear g3 f3
                      go_wp2
                      go_ret
                      have hfin := HFIN.out j hj HLT.out HGE.out
                      have hdoc : DocAt (w3.setCell ⟨xb, 0, none⟩ (.slice A5 n5 c5)) xb base (es.take j ++ [((⟨mv, fr, to_, l, false⟩ : Way), Value.slice Al l.length cl)] ++ es.drop j) := ⟨⟨_, hx4, by rw [hn5]; exact ownsRow_wide hrow hB1⟩, hnest, by rw [hn5, ← HN.out]; omega⟩
                      first
                        | exact ⟨_, rfl, hfin, hdoc, hgw⟩
                        | exact ⟨rfl, _, hfin, hdoc, hgw⟩
                    · intro V hV
                      rw [hV]
                      clear hV V
                      go_wp2_with fail
                      have hlL : Sl (WE.alloc (.cells #[.int .i64 mv, .int .i64 fr, .int .i64 to_, .slice Al l.length cl, .bool false] 108)) WE.heap.size (WE.heap.size + 1) 5 (.slice (some ⟨WE.heap.size, 0, none⟩) 1 1) 1 [.int .i64 mv, .int .i64 fr, .int .i64 to_, .slice Al l.length cl, .bool false] := Sl.new WE #[.int .i64 mv, .int .i64 fr, .int .i64 to_, .slice Al l.length cl, .bool false] 108 (n := 1) rfl (by unfold maxLen; omega)
                      have hbL := hbE.alloc hbE.size (.cells #[.int .i64 mv, .int .i64 fr, .int .i64 to_, .slice Al l.length cl, .bool false] 108)
                      have hxL := hxE.alloc (.cells #[.int .i64 mv, .int .i64 fr, .int .i64 to_, .slice Al l.length cl, .bool false] 108)
                      have HSZL := Lib.hid (show (WE.alloc (.cells #[.int .i64 mv, .int .i64 fr, .int .i64 to_, .slice Al l.length cl, .bool false] 108)).heap.size = WE.heap.size + 1 by simp)
                      have hoL := hownE.alloc (.cells #[.int .i64 mv, .int .i64 fr, .int .i64 to_, .slice Al l.length cl, .bool false] 108)
                      refine ⟨rfl, .slice (some ⟨WE.heap.size, 0, none⟩) 1 1, _, (fun V => V = WE.alloc (.cells #[.int .i64 mv, .int .i64 fr, .int .i64 to_, .slice Al l.length cl, .bool false] 108)), ?_, rfl, (fun V h => by rw [h]; exact hxL.cell (j := 0) rfl), (.inr (fun _ h => h)), ?_⟩
                      · simp only [Act.put, List.setIfInBounds_toArray, List.set_cons_succ, List.set_cons_zero]
                      simp only [Act.put, List.setIfInBounds_toArray, List.set_cons_succ, List.set_cons_zero]
                      generalize WE.alloc (.cells #[.int .i64 mv, .int .i64 fr, .int .i64 to_, .slice Al l.length cl, .bool false] 108) = WL at *
                      refine Pt.WalkT.make (by rfl) ?_
                      intro V hV
                      rw [hV]
                      clear hV V
                      refine wpList_append_sl _ rfl (.tmp 73) (.tmp 79) _ rfl wr.heap.size 108 i0 _ 5 56 Tryz.underlying56 hi0 hz0 hz1 hz2 rfl (by omega) (.slice (some ⟨W0.heap.size, 0, none⟩) 0 0) 0 [] rfl hoL base wr.heap.size _ j ((docCells es).take (j * 5)) rfl (S79.out _ hbL) HONE79.out (by unfold maxLen; omega) (by omega) hbL.size ?_
                      intro v1 w1 hv1 hg1 hat1
                      have hv1' : w1.ownsRow wr.heap.size 108 5 v1 j ((docCells es).take (j * 5)) := by simpa using hv1
                      have hb1 := hbL.grown hg1 hbL.size (fun g hg => (hoL.lt g hg).1)
                      have hx1 := hxL.kept hg1 (fun e => by have := (hoL.lt xb e.symm).1; omega)
                      have hl1 := Sl.grown hlL hg1 (by have := HSZL.out; omega) (fun k e => by have e2 : W0.heap.size = k := Option.some.inj e; have := HSZE.out; left; omega)
                      refine ⟨rfl, v1, _, (fun V => V = w1), rfl, rfl, (fun V h => by rw [h]; exact hx1.cell (j := 0) rfl), (.inr (fun _ h => h)), ?_⟩
                      simp only [Act.put, List.setIfInBounds_toArray, List.set_cons_succ, List.set_cons_zero]
                      clear hv1 hg1 hat1
                      refine Pt.WalkT.make (by rfl) ?_
                      intro V hV
                      rw [hV]
                      clear hV V
                      refine wpList_append_sl _ rfl (.tmp 80) (.tmp 86) _ rfl wr.heap.size 108 i0 _ 5 56 Tryz.underlying56 hi0 hz0 hz1 hz2 rfl (by omega) v1 j ((docCells es).take (j * 5)) rfl hv1' WE.heap.size (WE.heap.size + 1) (.slice (some ⟨WE.heap.size, 0, none⟩) 1 1) 1 [.int .i64 mv, .int .i64 fr, .int .i64 to_, .slice Al l.length cl, .bool false] rfl hl1 HCONE.out (by unfold maxLen; omega) (by omega) hb1.size ?_
                      intro v2 w2 hv2 hg2 hat2
                      have hb2 := hb1.grown hg2 hb1.size (fun g hg => (hv1'.lt g hg).1)
                      have hx2 := hx1.kept hg2 (fun e => by have := (hv1'.lt xb e.symm).1; omega)
                      clear hg2 hat2
                      refine ⟨rfl, v2, _, (fun V => V = w2), rfl, rfl, (fun V h => by rw [h]; exact hx2.cell (j := 0) rfl), (.inr (fun _ h => h)), ?_⟩
                      simp only [Act.put, List.setIfInBounds_toArray, List.set_cons_succ, List.set_cons_zero]
                      refine Pt.WalkT.make (by rfl) ?_
                      intro V hV
                      rw [hV]
                      clear hV V
                      refine wpList_append_sl _ rfl (.tmp 87) (.tmp 93) _ rfl wr.heap.size 108 i0 _ 5 56 Tryz.underlying56 hi0 hz0 hz1 hz2 rfl (by omega) v2 (j + 1) ((docCells es).take (j * 5) ++ [.int .i64 mv, .int .i64 fr, .int .i64 to_, .slice Al l.length cl, .bool false]) rfl hv2 base wr.heap.size _ (es.length - j) ((docCells es).drop (j * 5)) rfl (S93.out _ hb2) HONE93.out (by unfold maxLen; omega) (by omega) hb2.size ?_
                      intro v3 w3 hv3 hg3 hat3
                      have hb3 := hb2.grown hg3 hb2.size (fun g hg => (hv2.lt g hg).1)
                      have hx3 := hx2.kept hg3 (fun e => by have := (hv2.lt xb e.symm).1; omega)
                      clear hg3 hat3 hv2 hx2
                      rw [show (docCells es).take (j * 5) ++ [.int .i64 mv, .int .i64 fr, .int .i64 to_, .slice Al l.length cl, .bool false] ++ (docCells es).drop (j * 5) = docCells (es.take j ++ [((⟨mv, fr, to_, l, false⟩ : Way), Value.slice Al l.length cl)] ++ es.drop j) from (docCells_ins es j ((⟨mv, fr, to_, l, false⟩ : Way), Value.slice Al l.length cl)).symm, HN.out] at hv3
                      obtain ⟨A5, c5, rfl, -⟩ := (Sl.of_own hv3).at_
                      have HV3 := Lib.hid hv3
                      clear hv3
                      refine ⟨rfl, _, _, (fun V => V = w3), rfl, rfl, (fun V h => by rw [h]; exact hx3.cell (j := 0) rfl), (.inr (fun _ h => h)), ?_⟩
                      simp only [Act.put, List.setIfInBounds_toArray, List.set_cons_succ, List.set_cons_zero]
                      refine Pt.WalkT.make (by rfl) ?_
                      intro V hV
                      rw [hV]
                      clear hV V
                      have g3 := hx3.cell (j := 0) (v := .slice (some ⟨g, 0, none⟩) es.length c) rfl
                      have f3 := hx3.frozen 0
                      go_wp2_with fail
                      have hx4 := hx3.set 0 (.slice A5 n5 c5)
                      have hg4 := grownBy_set w3 xb 0 (.slice A5 n5 c5)
                      refine ⟨rfl, undef, (fun _ => True), (fun V => V = w3.setCell ⟨xb, 0, none⟩ (.slice A5 n5 c5)), rfl, rfl, (fun _ _ => trivial), (.inl (by kernel_rfl)), Pt.WalkT.nil ?_⟩
                      intro V hV
                      rw [hV]
                      clear hV V
                      simp only [Act.put]
                      have hrow := ownsRow_far HV3.out hg4 hxl
                      have hbw := HB1.out.trans (hb3.mono HB1.out.size)
                      have hgw := (only_of_below hbw (some xb)).trans hg4
                      have hBb : Below base wr (w3.setCell ⟨xb, 0, none⟩ (.slice A5 n5 c5)) := (hb3.mono hB1).grown hg4 (Nat.le_trans hB1 hb3.size) (fun k e => by cases e; exact hxb)
                      have hnest : ∀ p ∈ (es.take j ++ [((⟨mv, fr, to_, l, false⟩ : Way), Value.slice Al l.length cl)] ++ es.drop j), ItemsAt (w3.setCell ⟨xb, 0, none⟩ (.slice A5 n5 c5)) 0 base p.2 p.1.l := by
                        intro p hp
                        rcases List.mem_append.1 hp with hp | hp
                        · rcases List.mem_append.1 hp with hp | hp
                          · exact (HD.out.nest p (List.mem_of_mem_take hp)).below hBb
                          · rw [List.mem_singleton] at hp
                            rw [hp]
                            exact HI1.out.below hBb
                        · exact (HD.out.nest p (List.mem_of_mem_drop hp)).below hBb
                      clear g3 f3
                      go_wp2
                      go_ret
                      have hfin := HFIN.out j hj HLT.out HGE.out
                      have hdoc : DocAt (w3.setCell ⟨xb, 0, none⟩ (.slice A5 n5 c5)) xb base (es.take j ++ [((⟨mv, fr, to_, l, false⟩ : Way), Value.slice Al l.length cl)] ++ es.drop j) := ⟨⟨_, hx4, by rw [hn5]; exact ownsRow_wide hrow hB1⟩, hnest, by rw [hn5, ← HN.out]; omega⟩
                      first
                        | exact ⟨_, rfl, hfin, hdoc, hgw⟩
                        | exact ⟨rfl, _, hfin, hdoc, hgw⟩
                  · intro V hV
                    rw [hV]
                    clear hV V
                    go_wp2_with fail
                    have hlL : Sl (W0.alloc (.cells #[.int .i64 mv, .int .i64 fr, .int .i64 to_, .slice Al l.length cl, .bool false] 108)) W0.heap.size (W0.heap.size + 1) 5 (.slice (some ⟨W0.heap.size, 0, none⟩) 1 1) 1 [.int .i64 mv, .int .i64 fr, .int .i64 to_, .slice Al l.length cl, .bool false] := Sl.new W0 #[.int .i64 mv, .int .i64 fr, .int .i64 to_, .slice Al l.length cl, .bool false] 108 (n := 1) rfl (by unfold maxLen; omega)
                    have hbL := hdr.alloc hdr.size (.cells #[.int .i64 mv, .int .i64 fr, .int .i64 to_, .slice Al l.length cl, .bool false] 108)
                    have hxL := hx0.alloc (.cells #[.int .i64 mv, .int .i64 fr, .int .i64 to_, .slice Al l.length cl, .bool false] 108)
                    have HSZL := Lib.hid (show (W0.alloc (.cells #[.int .i64 mv, .int .i64 fr, .int .i64 to_, .slice Al l.length cl, .bool false] 108)).heap.size = W0.heap.size + 1 by simp)
                    refine ⟨rfl, .slice (some ⟨W0.heap.size, 0, none⟩) 1 1, _, (fun V => V = W0.alloc (.cells #[.int .i64 mv, .int .i64 fr, .int .i64 to_, .slice Al l.length cl, .bool false] 108)), ?_, rfl, (fun V h => by rw [h]; exact hxL.cell (j := 0) rfl), (.inr (fun _ h => h)), ?_⟩
                    · simp only [Act.put, List.setIfInBounds_toArray, List.set_cons_succ, List.set_cons_zero]
                    simp only [Act.put, List.setIfInBounds_toArray, List.set_cons_succ, List.set_cons_zero]
                    generalize W0.alloc (.cells #[.int .i64 mv, .int .i64 fr, .int .i64 to_, .slice Al l.length cl, .bool false] 108) = WL at *
                    refine Pt.WalkT.make (by rfl) ?_
                    intro V hV
                    rw [hV]
                    clear hV V
                    go_wp2_with fail
                    have hownE := World.ownsRow_lit (e := 108) (size := 5) (base := wr.heap.size) WL #[] 0 hbL.size (Nat.zero_le _) rfl
                    have hbE := hbL.alloc hbL.size (.cells #[] 108)
                    have hxE := hxL.alloc (.cells #[] 108)
                    have HSZE := Lib.hid (show (WL.alloc (.cells #[] 108)).heap.size = WL.heap.size + 1 by simp)
                    have hlE := Sl.below hlL ((Below.refl _ WL).alloc (by have := HSZL.out; omega) (.cells #[] 108))
                    refine ⟨rfl, .slice (some ⟨WL.heap.size, 0, none⟩) 0 0, _, (fun V => V = WL.alloc (.cells #[] 108)), ?_, rfl, (fun V h => by rw [h]; exact hxE.cell (j := 0) rfl), (.inr (fun _ h => h)), ?_⟩
                    · simp only [Act.put, List.setIfInBounds_toArray, List.set_cons_succ, List.set_cons_zero]
                    simp only [Act.put, List.setIfInBounds_toArray, List.set_cons_succ, List.set_cons_zero]
                    generalize WL.alloc (.cells #[] 108) = WE at *
                    refine Pt.WalkT.make (by rfl) ?_
                    intro V hV
                    rw [hV]
                    clear hV V
                    refine wpList_append_sl _ rfl (.tmp 73) (.tmp 79) _ rfl wr.heap.size 108 i0 _ 5 56 Tryz.underlying56 hi0 hz0 hz1 hz2 rfl (by omega) (.slice (some ⟨WL.heap.size, 0, none⟩) 0 0) 0 [] rfl hownE base wr.heap.size _ j ((docCells es).take (j * 5)) rfl (S79.out _ hbE) HONE79.out (by unfold maxLen; omega) (by omega) hbE.size ?_
                    intro v1 w1 hv1 hg1 hat1
                    have hv1' : w1.ownsRow wr.heap.size 108 5 v1 j ((docCells es).take (j * 5)) := by simpa using hv1
                    have hb1 := hbE.grown hg1 hbE.size (fun g hg => (hownE.lt g hg).1)
                    have hx1 := hxE.kept hg1 (fun e => by have := (hownE.lt xb e.symm).1; omega)
                    have hl1 := Sl.grown hlE hg1 (by have := HSZE.out; have := HSZL.out; omega) (fun k e => by have e2 : WL.heap.size = k := Option.some.inj e; have := HSZL.out; right; omega)
                    refine ⟨rfl, v1, _, (fun V => V = w1), rfl, rfl, (fun V h => by rw [h]; exact hx1.cell (j := 0) rfl), (.inr (fun _ h => h)), ?_⟩
                    simp only [Act.put, List.setIfInBounds_toArray, List.set_cons_succ, List.set_cons_zero]
                    clear hv1 hg1 hat1
                    refine Pt.WalkT.make (by rfl) ?_
                    intro V hV
                    rw [hV]
                    clear hV V
                    refine wpList_append_sl _ rfl (.tmp 80) (.tmp 86) _ rfl wr.heap.size 108 i0 _ 5 56 Tryz.underlying56 hi0 hz0 hz1 hz2 rfl (by omega) v1 j ((docCells es).take (j * 5)) rfl hv1' W0.heap.size (W0.heap.size + 1) (.slice (some ⟨W0.heap.size, 0, none⟩) 1 1) 1 [.int .i64 mv, .int .i64 fr, .int .i64 to_, .slice Al l.length cl, .bool false] rfl hl1 HCONE.out (by unfold maxLen; omega) (by omega) hb1.size ?_
                    intro v2 w2 hv2 hg2 hat2
                    have hb2 := hb1.grown hg2 hb1.size (fun g hg => (hv1'.lt g hg).1)
                    have hx2 := hx1.kept hg2 (fun e => by have := (hv1'.lt xb e.symm).1; omega)
                    clear hg2 hat2
                    refine ⟨rfl, v2, _, (fun V => V = w2), rfl, rfl, (fun V h => by rw [h]; exact hx2.cell (j := 0) rfl), (.inr (fun _ h => h)), ?_⟩
                    simp only [Act.put, List.setIfInBounds_toArray, List.set_cons_succ, List.set_cons_zero]
                    refine Pt.WalkT.make (by rfl) ?_
                    intro V hV
                    rw [hV]
                    clear hV V
                    refine wpList_append_sl _ rfl (.tmp 87) (.tmp 93) _ rfl wr.heap.size 108 i0 _ 5 56 Tryz.underlying56 hi0 hz0 hz1 hz2 rfl (by omega) v2 (j + 1) ((docCells es).take (j * 5) ++ [.int .i64 mv, .int .i64 fr, .int .i64 to_, .slice Al l.length cl, .bool false]) rfl hv2 base wr.heap.size _ (es.length - j) ((docCells es).drop (j * 5)) rfl (S93.out _ hb2) HONE93.out (by unfold maxLen; omega) (by omega) hb2.size ?_
                    intro v3 w3 hv3 hg3 hat3
                    have hb3 := hb2.grown hg3 hb2.size (fun g hg => (hv2.lt g hg).1)
                    have hx3 := hx2.kept hg3 (fun e => by have := (hv2.lt xb e.symm).1; omega)
                    clear hg3 hat3 hv2 hx2
                    rw [show (docCells es).take (j * 5) ++ [.int .i64 mv, .int .i64 fr, .int .i64 to_, .slice Al l.length cl, .bool false] ++ (docCells es).drop (j * 5) = docCells (es.take j ++ [((⟨mv, fr, to_, l, false⟩ : Way), Value.slice Al l.length cl)] ++ es.drop j) from (docCells_ins es j ((⟨mv, fr, to_, l, false⟩ : Way), Value.slice Al l.length cl)).symm, HN.out] at hv3
                    obtain ⟨A5, c5, rfl, -⟩ := (Sl.of_own hv3).at_
                    have HV3 := Lib.hid hv3
                    clear hv3
                    refine ⟨rfl, _, _, (fun V => V = w3), rfl, rfl, (fun V h => by rw [h]; exact hx3.cell (j := 0) rfl), (.inr (fun _ h => h)), ?_⟩
                    simp only [Act.put, List.setIfInBounds_toArray, List.set_cons_succ, List.set_cons_zero]
                    refine Pt.WalkT.make (by rfl) ?_
                    intro V hV
                    rw [hV]
                    clear hV V
                    have g3 := hx3.cell (j := 0) (v := .slice (some ⟨g, 0, none⟩) es.length c) rfl
                    have f3 := hx3.frozen 0
                    go_wp2_with fail
                    have hx4 := hx3.set 0 (.slice A5 n5 c5)
                    have hg4 := grownBy_set w3 xb 0 (.slice A5 n5 c5)
                    refine ⟨rfl, undef, (fun _ => True), (fun V => V = w3.setCell ⟨xb, 0, none⟩ (.slice A5 n5 c5)), rfl, rfl, (fun _ _ => trivial), (.inl (by kernel_rfl)), Pt.WalkT.nil ?_⟩
                    intro V hV
                    rw [hV]
                    clear hV V
                    simp only [Act.put]
                    have hrow := ownsRow_far HV3.out hg4 hxl
                    have hbw := HB1.out.trans (hb3.mono HB1.out.size)
                    have hgw := (only_of_below hbw (some xb)).trans hg4
                    have hBb : Below base wr (w3.setCell ⟨xb, 0, none⟩ (.slice A5 n5 c5)) := (hb3.mono hB1).grown hg4 (Nat.le_trans hB1 hb3.size) (fun k e => by cases e; exact hxb)
                    have hnest : ∀ p ∈ (es.take j ++ [((⟨mv, fr, to_, l, false⟩ : Way), Value.slice Al l.length cl)] ++ es.drop j), ItemsAt (w3.setCell ⟨xb, 0, none⟩ (.slice A5 n5 c5)) 0 base p.2 p.1.l := by
                      intro p hp
                      rcases List.mem_append.1 hp with hp | hp
                      · rcases List.mem_append.1 hp with hp | hp
                        · exact (HD.out.nest p (List.mem_of_mem_take hp)).below hBb
                        · rw [List.mem_singleton] at hp
                          rw [hp]
                          exact HI1.out.below hBb
                      · exact (HD.out.nest p (List.mem_of_mem_drop hp)).below hBb
                    clear g3 f3
                    go_wp2
                    go_ret
                    have hfin := HFIN.out j hj HLT.out HGE.out
                    have hdoc : DocAt (w3.setCell ⟨xb, 0, none⟩ (.slice A5 n5 c5)) xb base (es.take j ++ [((⟨mv, fr, to_, l, false⟩ : Way), Value.slice Al l.length cl)] ++ es.drop j) := ⟨⟨_, hx4, by rw [hn5]; exact ownsRow_wide hrow hB1⟩, hnest, by rw [hn5, ← HN.out]; omega⟩
                    first
                      | exact ⟨_, rfl, hfin, hdoc, hgw⟩
                      | exact ⟨rfl, _, hfin, hdoc, hgw⟩
end Mv
end Go.Proofs.YtdbkkldgobkjcaaGreat
