/-
  parcels: the document's Open.
-/
import Derived.Test.YtdbkkldgobkjcaaGreatMz16
import Derived.Test.YtdbkkldgobkjcaaGreatMz10
import Derived.Test.YtdbkkldgobkjcaaGreatMz6

set_option linter.unusedVariables false
set_option linter.unusedSimpArgs false
namespace Go.Proofs.YtdbkkldgobkjcaaGreat
open Go.RowKit Go.Maps
namespace Pc
open It Mv

theorem rowCs_ins (es : List DR) (j : Nat) (p : DR) : rowCs (es.take j ++ [p] ++ es.drop j) = (rowCs es).take (j * 12) ++ rowC p ++ (rowCs es).drop (j * 12) := by
  rw [rowCs_append, rowCs_append, rowCs_take, rowCs_drop]
  simp [rowCs]

set_option maxRecDepth 100000 in
set_option maxHeartbeats 16000000 in
theorem refopen_calls (od : Int) (l : List It.Item) (lv : Value) (fb xb base : Nat) (Y : Nat → Prop) (es : List DR) (w : World) (h : DocP w xb base Y es) (hs : SortedR (es.map (·.d))) (hB : base ≤ w.heap.size) (hxb : base ≤ xb) (hI : LiAt w (fun i => i ≠ xb ∧ ¬ Y i) lv l) (hF : Fits l) (hlen : es.length ≤ 1099511627776) :
    Calls Tryz.prog 10 #[.pointer (some ⟨xb, 0, none⟩), .int .i64 od, lv] w fun e w' => ∃ es', e = .returned (.int .i64 (openOf (es.map (·.d)) od l fb).2) ∧
      es'.map (·.d) = (openOf (es.map (·.d)) od l fb).1 ∧ DocP w' xb base Y es' ∧ w.grownBy w' (some xb) := by
  have cMay := Lib.hid (refmay_calls l lv w hI.items hF)
  have cFi := Lib.hid (fun W (hb : Below w.heap.size w W) => findP_calls od xb base Y es W (h.same hb))
  have HG0 := Lib.hid (show openOf (es.map (·.d)) od l fb = if od < 1 ∨ 1099511627776 < od then (es.map (·.d), 1) else if may l = false ∨ l = [] then (es.map (·.d), 60) else if (findR (es.map (·.d)) od).isSome then (es.map (·.d), 5) else (putR (es.map (·.d)) ⟨od, l, [], [], [], fb⟩, 0) from rfl)
  have H := Lib.hid h
  have HS := Lib.hid hs
  have HI := Lib.hid hI
  obtain ⟨Al, cl, rfl, hcl1, hcl2⟩ := hI.items.form
  unfold maxLen at hcl2
  generalize hml : may l = ml at *
  have HML := Lib.hid hml
  generalize openOf (es.map (·.d)) od l fb = R at *
  clear h hs hI hml
  have hcs : (decide (od < 1) = true ∨ (decide (od < 1) = false ∧ decide (od > 1099511627776) = true)) ∨ (decide (od < 1) = false ∧ decide (od > 1099511627776) = false) := by
    by_cases e1 : od < 1 <;> by_cases e2 : od > 1099511627776 <;> simp [e1, e2] <;> omega
  rcases hcs with hbad | ⟨e1, e2⟩
  · have hR1 : R = (es.map (·.d), 1) := by
      rw [HG0.out, if_pos]
      rcases hbad with e1 | ⟨_, e2⟩
      · exact .inl (by simpa using e1)
      · exact .inr (by simpa using e2)
    subst hR1
    rcases hbad with e1 | ⟨e1, e2⟩
    all_goals
      go_enter Tryz.func10, Tryz.ntmps10
      go_wp2
      go_ret
      exact ⟨es, rfl, rfl, H.out, only_of_below (Below.refl _ _) _⟩
  · have hmv : ¬ od < 1 ∧ ¬ 1099511627776 < od := by simp only [decide_eq_false_iff_not] at e1 e2; exact ⟨e1, e2⟩
    have HR1 := Lib.hid (show R = if ml = false ∨ l = [] then (es.map (·.d), 60) else if (findR (es.map (·.d)) od).isSome then (es.map (·.d), 5) else (putR (es.map (·.d)) ⟨od, l, [], [], [], fb⟩, 0) by
      rw [HG0.out, if_neg]
      rintro (h | h)
      · exact hmv.1 h
      · exact hmv.2 h)
    clear HG0
    cases ml with
    | false =>
      obtain rfl : R = (es.map (·.d), 60) := by rw [HR1.out, if_pos (.inl rfl)]
      go_enter Tryz.func10, Tryz.ntmps10
      go_wp2_with (go_at_call 46; refine cMay.out.mono ?_; rintro e W1 ⟨rfl, hb1⟩)
      go_ret
      exact ⟨es, rfl, rfl, H.out.same hb1, only_of_below hb1 _⟩
    | true =>
      by_cases hl0 : l = []
      · obtain rfl : R = (es.map (·.d), 60) := by rw [HR1.out, if_pos (.inr hl0)]
        have hl1 : l.length = 0 := by rw [hl0]; rfl
        rw [hl1] at cMay ⊢
        clear hl0
        go_enter Tryz.func10, Tryz.ntmps10
        go_wp2_with (go_at_call 46; refine cMay.out.mono ?_; rintro e W1 ⟨rfl, hb1⟩)
        go_ret
        exact ⟨es, rfl, rfl, H.out.same hb1, only_of_below hb1 _⟩
      · have hl1 : ((l.length : Int) == 0) = false := by
          cases l with
          | nil => exact (hl0 rfl).elim
          | cons x r => simp; omega
        have HL0 := Lib.hid hl0
        have HR2 := Lib.hid (show R = if (findR (es.map (·.d)) od).isSome then (es.map (·.d), 5) else (putR (es.map (·.d)) ⟨od, l, [], [], [], fb⟩, 0) by
          rw [HR1.out, if_neg]
          rintro (h | h)
          · cases h
          · exact hl0 h)
        clear hl0 HR1
        rcases @idx_findR (es.map (·.d)) od with ⟨h1, h2⟩ | ⟨i, hi, h1, h2, hk⟩
        case inr =>
          rw [h2] at HR2
          rw [h1] at cFi
          obtain rfl : R = (es.map (·.d), 5) := by rw [HR2.out]; rfl
          have hdi : decide ((i : Int) ≥ 0) = true := by simp
          clear h1 h2 hk
          go_enter Tryz.func10, Tryz.ntmps10
          go_wp2_with (first
            | (go_at_call 46; refine cMay.out.mono ?_; rintro e W1 ⟨rfl, hb1⟩; have cFi2 := Lib.hid (cFi.out _ hb1))
            | (go_at_call 18; refine cFi2.out.mono ?_; rintro e W ⟨rfl, rfl⟩))
          go_ret
          exact ⟨es, rfl, rfl, H.out.same hb1, only_of_below hb1 _⟩
        case inl =>
          rw [h2] at HR2
          rw [h1] at cFi
          have HFN := Lib.hid h2
          have HR3 := Lib.hid (show R = (putR (es.map (·.d)) ⟨od, l, [], [], [], fb⟩, 0) by rw [HR2.out]; simp)
          clear h1 h2 HR2
          go_enter Tryz.func10, Tryz.ntmps10
          go_wp2_with (first
            | (go_at_call 46; refine cMay.out.mono ?_; rintro e W1 ⟨rfl, hb1⟩; have cFi2 := Lib.hid (cFi.out _ hb1)))
          refine cFi2.out.mono ?_
          rintro e W ⟨rfl, rfl⟩
          have HD := Lib.hid (H.out.same hb1)
          have HB1 := Lib.hid hb1
          have hB1 := Nat.le_trans hB hb1.size
          obtain ⟨v, hx, hv, -⟩ := HD.out.ob
          have HV := Lib.hid hv
          have hone := Lib.hid (HD.out.one)
          obtain ⟨i0, hi0, hz0⟩ := Option.map_eq_some_iff.1 row_info
          simp only [Prod.mk.injEq] at hz0
          obtain ⟨hz0, hz1, hz2⟩ := hz0
          clear cFi cFi2 cMay hb1
          obtain rfl : R = (putR (es.map (·.d)) ⟨od, l, [], [], [], fb⟩, 0) := HR3.out
          have HFIN := Lib.hid (fun (j : Nat) (hj : j ≤ es.length) (hlt : ∀ i (h : i < es.length), i < j → es[i].d.od < od) (hge : ∀ h : j < es.length, od < es[j].d.od) => show (es.take j ++ [(⟨⟨od, l, [], [], [], fb⟩, .slice Al l.length cl, .slice none 0 0, .slice none 0 0⟩ : DR)] ++ es.drop j).map (·.d) = putR (es.map (·.d)) ⟨od, l, [], [], [], fb⟩ by
            have hdel : delR (es.map (·.d)) od = es.map (·.d) := by
              unfold delR
              rw [List.filter_eq_self]
              intro x hx
              have := HFN.out
              unfold findR at this
              rw [List.find?_eq_none] at this
              simpa using this x hx
            unfold putR
            rw [show (⟨od, l, [], [], [], fb⟩ : Row).od = od from rfl, hdel, ins_atR j (by simpa using hj) (fun i hi hij => by simpa using hlt i (by simpa using hi) hij) (fun hh => by simpa using hge (by simpa using hh))]
            simp)
          have HNF := Lib.hid (fun (i : Nat) (h : i < es.length) => show es[i].d.od ≠ od by
            have := HFN.out
            unfold findR at this
            rw [List.find?_eq_none] at this
            simpa using this es[i].d (List.mem_map.2 ⟨es[i], List.getElem_mem h, rfl⟩))
          rcases hv.2 with ⟨rfl, hn0⟩ | ⟨g, c, cur, rfl, hgb, hgv, hgr⟩
          · have hes : es.length = 0 := by have := hn0; omega
            have g0 := hx.cell (j := 0) (v := .slice none 0 0) rfl
            clear hv hn0
            go_wp2
            go_loopw [7] (fun i wr => i = .int .i64 0 ∧ wr = W1) (fun i _ => 0)
            case atStart => exact ⟨rfl, rfl⟩
            case round =>
              obtain ⟨rfl, rfl⟩ := hrel
              have hd : decide ((0 : Int) < (es.length : Int)) = false := by simp [hes]
              go_wp2_with fail
              obtain ⟨n5, hn5⟩ : ∃ n5, 0 + 1 + 0 = n5 := ⟨_, rfl⟩
              obtain rfl : es = [] := List.length_eq_zero_iff.1 hes
              have S79 := Lib.hid (fun W (hb : Below wr.heap.size wr W) => Sl.nil W base wr.heap.size 12)
              have S93 := Lib.hid (fun W (hb : Below wr.heap.size wr W) => Sl.nil W base wr.heap.size 12)
              have HONE79 := Lib.hid (show ∀ y ∈ ([] : List Value), y.oneCell' = true from fun y hy => by cases hy)
              have HONE93 := Lib.hid (show ∀ y ∈ ([] : List Value), y.oneCell' = true from fun y hy => by cases hy)
              have HN := Lib.hid (show 0 + 1 + 0 = n5 from hn5); clear hn5
              have HLT : Hid (∀ i (h : i < ([] : List DR).length), i < 0 → ([] : List DR)[i].d.od < od) := Lib.hid (fun i h => absurd h (by simp))
              have HGE : Hid (∀ h : 0 < ([] : List DR).length, od < ([] : List DR)[0].d.od) := Lib.hid (fun h => absurd h (by simp))
              have HCONE := Lib.hid (show ∀ y ∈ ([.int .i64 od, .slice Al l.length cl, .slice none 0 0, .slice none 0 0, .bool false, .bool false, .bool false, .bool false, .bool false, .bool false, .bool false, .bool false] : List Value), y.oneCell' = true from fun y hy => by simp only [List.mem_cons, List.not_mem_nil, or_false] at hy; rcases hy with rfl | rfl | rfl | rfl | rfl | rfl | rfl | rfl | rfl | rfl | rfl | rfl <;> rfl)
              clear g0 hd
              have hdr := (Below.refl wr.heap.size wr).drew
              have hx0 : Ob wr.drew xb 28 #[.slice none 0 0] := hx
              have g0d : wr.drew.cell? ⟨xb, 0, none⟩ = some (.slice none 0 0) := hx0.cell (j := 0) rfl
              have hxl := hx.lt
              refine Pt.regionT (.look 0 (.look 2 (.look 3 (.look 4 (.look 5 (.look 6 (.look 7 (.look 9 (.look 10 (.look 11 (.look 12 (.look 15 (.look 16 (.look 17 (.look 18 (.look 19 (.look 20 (.look 22 (.look 23 (.fork 1 (.fork 8 (.make 13 (.make 14 (.make 21 (.make 24 .nil)))) 13 (.make 8 (.make 14 (.make 21 (.make 24 .nil))))) 13 (.make 1 (.make 8 (.make 14 (.make 21 (.make 24 .nil))))))))))))))))))))))))) (fun V => V.cell? ⟨xb, 0, none⟩ = some (.slice none 0 0)) hmx (by kernel_rfl) (by kernel_rfl) (by kernel_rfl) g0d rfl ?_
              simp only [Pt.named, List.getElem?_toArray, List.getElem?_cons_succ, List.getElem?_cons_zero, Option.map_some]
              iterate 06 (apply Pt.WalkT.on (by rfl)
                          · rintro V gV
                            go_wp2_with fail
                            refine ⟨rfl, ?_, rfl⟩
                            try simp only [Act.put, List.setIfInBounds_toArray, List.set_cons_succ, List.set_cons_zero]
                            rfl
                          simp only [Act.put, List.setIfInBounds_toArray, List.set_cons_succ, List.set_cons_zero])
              apply Pt.WalkT.on (v := .slice none 0 0) (by rfl)
              · rintro V gV
                go_wp2_with fail
                refine ⟨rfl, ?_, rfl⟩
                simp only [Act.put, List.setIfInBounds_toArray, List.set_cons_succ, List.set_cons_zero]
              simp only [Act.put, List.setIfInBounds_toArray, List.set_cons_succ, List.set_cons_zero]
              iterate 09 (apply Pt.WalkT.on (by rfl)
                          · rintro V gV
                            go_wp2_with fail
                            refine ⟨rfl, ?_, rfl⟩
                            try simp only [Act.put, List.setIfInBounds_toArray, List.set_cons_succ, List.set_cons_zero]
                            rfl
                          simp only [Act.put, List.setIfInBounds_toArray, List.set_cons_succ, List.set_cons_zero])
              apply Pt.WalkT.on (v := .slice none 0 0) (by rfl)
              · rintro V gV
                go_wp2_with fail
                refine ⟨rfl, ?_, rfl⟩
                simp only [Act.put, List.setIfInBounds_toArray, List.set_cons_succ, List.set_cons_zero]
              simp only [Act.put, List.setIfInBounds_toArray, List.set_cons_succ, List.set_cons_zero]
              iterate 02 (apply Pt.WalkT.on (by rfl)
                          · rintro V gV
                            go_wp2_with fail
                            refine ⟨rfl, ?_, rfl⟩
                            try simp only [Act.put, List.setIfInBounds_toArray, List.set_cons_succ, List.set_cons_zero]
                            rfl
                          simp only [Act.put, List.setIfInBounds_toArray, List.set_cons_succ, List.set_cons_zero])
              clear g0d
              generalize wr.drew = W0 at *
              refine Pt.WalkT.fork (by rfl) (by rfl) ?_ ?_
              · intro V hV
                rw [hV]
                clear hV V
                go_wp2_with fail
                have hownE := World.ownsRow_lit (e := 46) (size := 12) (base := wr.heap.size) W0 #[] 0 hdr.size (Nat.zero_le _) rfl
                have hbE := hdr.alloc hdr.size (.cells #[] 46)
                have hxE := hx0.alloc (.cells #[] 46)
                have HSZE := Lib.hid (show (W0.alloc (.cells #[] 46)).heap.size = W0.heap.size + 1 by simp)
                refine ⟨rfl, .slice (some ⟨W0.heap.size, 0, none⟩) 0 0, _, (fun V => V = W0.alloc (.cells #[] 46)), ?_, rfl, (fun V h => by rw [h]; exact hxE.cell (j := 0) rfl), (.inr (fun _ h => h)), ?_⟩
                · simp only [Act.put, List.setIfInBounds_toArray, List.set_cons_succ, List.set_cons_zero]
                simp only [Act.put, List.setIfInBounds_toArray, List.set_cons_succ, List.set_cons_zero]
                generalize W0.alloc (.cells #[] 46) = WE at *
                refine Pt.WalkT.fork (by rfl) (by rfl) ?_ ?_
                · intro V hV
                  rw [hV]
                  clear hV V
                  refine wpList_append_sl _ rfl (.tmp 49) (.tmp 55) _ rfl wr.heap.size 46 i0 _ 12 88 Tryz.underlying26 hi0 hz0 hz1 hz2 rfl (by omega) (.slice (some ⟨W0.heap.size, 0, none⟩) 0 0) 0 [] rfl hownE base wr.heap.size _ 0 ([]) rfl (S79.out _ hbE) HONE79.out (by unfold maxLen; omega) (by omega) hbE.size ?_
                  intro v1 w1 hv1 hg1 hat1
                  have hv1' : w1.ownsRow wr.heap.size 46 12 v1 0 ([]) := by simpa using hv1
                  have hb1 := hbE.grown hg1 hbE.size (fun g hg => (hownE.lt g hg).1)
                  have hx1 := hxE.kept hg1 (fun e => by have := (hownE.lt xb e.symm).1; omega)
                  refine ⟨rfl, v1, _, (fun V => V = w1), rfl, rfl, (fun V h => by rw [h]; exact hx1.cell (j := 0) rfl), (.inr (fun _ h => h)), ?_⟩
                  simp only [Act.put, List.setIfInBounds_toArray, List.set_cons_succ, List.set_cons_zero]
                  clear hv1 hg1 hat1
                  refine Pt.WalkT.make (by rfl) ?_
                  intro V hV
                  rw [hV]
                  clear hV V
                  go_wp2_with fail
                  have hlL : Sl (w1.alloc (.cells #[.int .i64 od, .slice Al l.length cl, .slice none 0 0, .slice none 0 0, .bool false, .bool false, .bool false, .bool false, .bool false, .bool false, .bool false, .bool false] 46)) w1.heap.size (w1.heap.size + 1) 12 (.slice (some ⟨w1.heap.size, 0, none⟩) 1 1) 1 [.int .i64 od, .slice Al l.length cl, .slice none 0 0, .slice none 0 0, .bool false, .bool false, .bool false, .bool false, .bool false, .bool false, .bool false, .bool false] := Sl.new w1 #[.int .i64 od, .slice Al l.length cl, .slice none 0 0, .slice none 0 0, .bool false, .bool false, .bool false, .bool false, .bool false, .bool false, .bool false, .bool false] 46 (n := 1) rfl (by unfold maxLen; omega)
                  have hbL := hb1.alloc hb1.size (.cells #[.int .i64 od, .slice Al l.length cl, .slice none 0 0, .slice none 0 0, .bool false, .bool false, .bool false, .bool false, .bool false, .bool false, .bool false, .bool false] 46)
                  have hxL := hx1.alloc (.cells #[.int .i64 od, .slice Al l.length cl, .slice none 0 0, .slice none 0 0, .bool false, .bool false, .bool false, .bool false, .bool false, .bool false, .bool false, .bool false] 46)
                  have HSZL := Lib.hid (show (w1.alloc (.cells #[.int .i64 od, .slice Al l.length cl, .slice none 0 0, .slice none 0 0, .bool false, .bool false, .bool false, .bool false, .bool false, .bool false, .bool false, .bool false] 46)).heap.size = w1.heap.size + 1 by simp)
                  have hoL := hv1'.alloc (.cells #[.int .i64 od, .slice Al l.length cl, .slice none 0 0, .slice none 0 0, .bool false, .bool false, .bool false, .bool false, .bool false, .bool false, .bool false, .bool false] 46)
                  refine ⟨rfl, .slice (some ⟨w1.heap.size, 0, none⟩) 1 1, _, (fun V => V = w1.alloc (.cells #[.int .i64 od, .slice Al l.length cl, .slice none 0 0, .slice none 0 0, .bool false, .bool false, .bool false, .bool false, .bool false, .bool false, .bool false, .bool false] 46)), ?_, rfl, (fun V h => by rw [h]; exact hxL.cell (j := 0) rfl), (.inr (fun _ h => h)), ?_⟩
                  · simp only [Act.put, List.setIfInBounds_toArray, List.set_cons_succ, List.set_cons_zero]
                  simp only [Act.put, List.setIfInBounds_toArray, List.set_cons_succ, List.set_cons_zero]
                  generalize w1.alloc (.cells #[.int .i64 od, .slice Al l.length cl, .slice none 0 0, .slice none 0 0, .bool false, .bool false, .bool false, .bool false, .bool false, .bool false, .bool false, .bool false] 46) = WL at *
                  refine Pt.WalkT.make (by rfl) ?_
                  intro V hV
                  rw [hV]
                  clear hV V
                  refine wpList_append_sl _ rfl (.tmp 56) (.tmp 61) _ rfl wr.heap.size 46 i0 _ 12 88 Tryz.underlying26 hi0 hz0 hz1 hz2 rfl (by omega) v1 0 ([]) rfl hoL w1.heap.size (w1.heap.size + 1) (.slice (some ⟨w1.heap.size, 0, none⟩) 1 1) 1 [.int .i64 od, .slice Al l.length cl, .slice none 0 0, .slice none 0 0, .bool false, .bool false, .bool false, .bool false, .bool false, .bool false, .bool false, .bool false] rfl hlL HCONE.out (by unfold maxLen; omega) (by omega) hbL.size ?_
                  intro v2 w2 hv2 hg2 hat2
                  have hb2 := hbL.grown hg2 hbL.size (fun g hg => (hoL.lt g hg).1)
                  have hx2 := hxL.kept hg2 (fun e => by have := (hoL.lt xb e.symm).1; omega)
                  clear hg2 hat2
                  refine ⟨rfl, v2, _, (fun V => V = w2), rfl, rfl, (fun V h => by rw [h]; exact hx2.cell (j := 0) rfl), (.inr (fun _ h => h)), ?_⟩
                  simp only [Act.put, List.setIfInBounds_toArray, List.set_cons_succ, List.set_cons_zero]
                  refine Pt.WalkT.make (by rfl) ?_
                  intro V hV
                  rw [hV]
                  clear hV V
                  refine wpList_append_sl _ rfl (.tmp 62) (.tmp 68) _ rfl wr.heap.size 46 i0 _ 12 88 Tryz.underlying26 hi0 hz0 hz1 hz2 rfl (by omega) v2 (0 + 1) ([] ++ [.int .i64 od, .slice Al l.length cl, .slice none 0 0, .slice none 0 0, .bool false, .bool false, .bool false, .bool false, .bool false, .bool false, .bool false, .bool false]) rfl hv2 base wr.heap.size _ (0) ([]) rfl (S93.out _ hb2) HONE93.out (by unfold maxLen; omega) (by omega) hb2.size ?_
                  intro v3 w3 hv3 hg3 hat3
                  have hb3 := hb2.grown hg3 hb2.size (fun g hg => (hv2.lt g hg).1)
                  have hx3 := hx2.kept hg3 (fun e => by have := (hv2.lt xb e.symm).1; omega)
                  clear hg3 hat3 hv2 hx2
                  rw [show ([] : List Value) ++ [.int .i64 od, .slice Al l.length cl, .slice none 0 0, .slice none 0 0, .bool false, .bool false, .bool false, .bool false, .bool false, .bool false, .bool false, .bool false] ++ [] = rowCs (([] : List DR).take 0 ++ [(⟨⟨od, l, [], [], [], fb⟩, .slice Al l.length cl, .slice none 0 0, .slice none 0 0⟩ : DR)] ++ ([] : List DR).drop 0) from rfl, HN.out] at hv3
                  obtain ⟨A5, c5, rfl, -⟩ := (Sl.of_own hv3).at_
                  have HV3 := Lib.hid hv3
                  clear hv3
                  refine ⟨rfl, _, _, (fun V => V = w3), rfl, rfl, (fun V h => by rw [h]; exact hx3.cell (j := 0) rfl), (.inr (fun _ h => h)), ?_⟩
                  simp only [Act.put, List.setIfInBounds_toArray, List.set_cons_succ, List.set_cons_zero]
                  refine Pt.WalkT.make (by rfl) ?_
                  intro V hV
                  rw [hV]
                  clear hV V
                  have g3 := hx3.cell (j := 0) (v := .slice none 0 0) rfl
                  have f3 := hx3.frozen 0
                  go_wp2_with fail
                  have hx4 := hx3.set 0 (.slice A5 n5 c5)
                  have hg4 := grownBy_set w3 xb 0 (.slice A5 n5 c5)
                  refine ⟨rfl, undef, (fun _ => True), (fun V => V = w3.setCell ⟨xb, 0, none⟩ (.slice A5 n5 c5)), rfl, rfl, (fun _ _ => trivial), (.inl (by kernel_rfl)), Pt.WalkT.nil ?_⟩
                  intro V hV
                  rw [hV]
                  clear hV V
                  simp only [Act.put]
                  have hrow := ownsRow_far HV3.out hg4 hxl
                  have hbw := HB1.out.trans (hb3.mono HB1.out.size)
                  have hgw := (only_of_below hbw (some xb)).trans hg4
                  have hk : Kept (fun i => i < w.heap.size ∧ i ≠ xb) w (w3.setCell ⟨xb, 0, none⟩ (.slice A5 n5 c5)) := Kept.of_grown hgw fun i hi => ⟨hi.1, fun e => hi.2 (Option.some.inj e)⟩
                  have hF2 : ∀ i, i < w.heap.size → (i ≠ xb ∧ ¬ Y i) → (i < w.heap.size ∧ i ≠ xb) ∧ (i ≠ xb ∧ ¬ Y i) := fun i hi hh => ⟨⟨hi, hh.1⟩, hh⟩
                  have hnest : ∀ p ∈ (([] : List DR).take 0 ++ [(⟨⟨od, l, [], [], [], fb⟩, .slice Al l.length cl, .slice none 0 0, .slice none 0 0⟩ : DR)] ++ ([] : List DR).drop 0), LiAt (w3.setCell ⟨xb, 0, none⟩ (.slice A5 n5 c5)) (fun i => i ≠ xb ∧ ¬ Y i) p.v1 p.d.wa ∧ LiAt (w3.setCell ⟨xb, 0, none⟩ (.slice A5 n5 c5)) (fun i => i ≠ xb ∧ ¬ Y i) p.v2 p.d.sh ∧ LiAt (w3.setCell ⟨xb, 0, none⟩ (.slice A5 n5 c5)) (fun i => i ≠ xb ∧ ¬ Y i) p.v3 p.d.ba := by
                    intro p hp
                    have hold : ∀ p ∈ ([] : List DR), LiAt (w3.setCell ⟨xb, 0, none⟩ (.slice A5 n5 c5)) (fun i => i ≠ xb ∧ ¬ Y i) p.v1 p.d.wa ∧ LiAt (w3.setCell ⟨xb, 0, none⟩ (.slice A5 n5 c5)) (fun i => i ≠ xb ∧ ¬ Y i) p.v2 p.d.sh ∧ LiAt (w3.setCell ⟨xb, 0, none⟩ (.slice A5 n5 c5)) (fun i => i ≠ xb ∧ ¬ Y i) p.v3 p.d.ba := fun q hq => ⟨(H.out.nest q hq).1.keep hk hF2, (H.out.nest q hq).2.1.keep hk hF2, (H.out.nest q hq).2.2.keep hk hF2⟩
                    rcases List.mem_append.1 hp with hp | hp
                    · rcases List.mem_append.1 hp with hp | hp
                      · exact hold p (List.mem_of_mem_take hp)
                      · rw [List.mem_singleton] at hp
                        rw [hp]
                        exact ⟨HI.out.keep hk hF2, LiAt.nil _ _, LiAt.nil _ _⟩
                    · exact hold p (List.mem_of_mem_drop hp)
                  have hyl : ∀ i, Y i → i < (w3.setCell ⟨xb, 0, none⟩ (.slice A5 n5 c5)).heap.size := fun i hi => Nat.lt_of_lt_of_le (H.out.yl i hi) hgw.size
                  have hyg : ∀ g, (Value.slice A5 n5 c5).ownBlock = some g → ¬ Y g := fun g hg hy => by have h1 := (HV3.out.lt g hg).1; have h2 := H.out.yl g hy; have h3 := HB1.out.size; omega
                  clear g3 f3 hk hF2
                  go_wp2
                  go_ret
                  have hfin := HFIN.out 0 (by simp) HLT.out HGE.out
                  have hdoc : DocP (w3.setCell ⟨xb, 0, none⟩ (.slice A5 n5 c5)) xb base Y (([] : List DR).take 0 ++ [(⟨⟨od, l, [], [], [], fb⟩, .slice Al l.length cl, .slice none 0 0, .slice none 0 0⟩ : DR)] ++ ([] : List DR).drop 0) := ⟨⟨_, hx4, by rw [show (([] : List DR).take 0 ++ [(⟨⟨od, l, [], [], [], fb⟩, .slice Al l.length cl, .slice none 0 0, .slice none 0 0⟩ : DR)] ++ ([] : List DR).drop 0).length = n5 from HN.out]; exact ownsRow_wide hrow hB1, hyg⟩, hnest, H.out.nx, hyl⟩
                  first
                    | exact ⟨_, rfl, hfin, hdoc, hgw⟩
                    | exact ⟨rfl, _, hfin, hdoc, hgw⟩
                · intro V hV
                  rw [hV]
                  clear hV V
                  go_wp2_with fail
                  have hlL : Sl (WE.alloc (.cells #[.int .i64 od, .slice Al l.length cl, .slice none 0 0, .slice none 0 0, .bool false, .bool false, .bool false, .bool false, .bool false, .bool false, .bool false, .bool false] 46)) WE.heap.size (WE.heap.size + 1) 12 (.slice (some ⟨WE.heap.size, 0, none⟩) 1 1) 1 [.int .i64 od, .slice Al l.length cl, .slice none 0 0, .slice none 0 0, .bool false, .bool false, .bool false, .bool false, .bool false, .bool false, .bool false, .bool false] := Sl.new WE #[.int .i64 od, .slice Al l.length cl, .slice none 0 0, .slice none 0 0, .bool false, .bool false, .bool false, .bool false, .bool false, .bool false, .bool false, .bool false] 46 (n := 1) rfl (by unfold maxLen; omega)
                  have hbL := hbE.alloc hbE.size (.cells #[.int .i64 od, .slice Al l.length cl, .slice none 0 0, .slice none 0 0, .bool false, .bool false, .bool false, .bool false, .bool false, .bool false, .bool false, .bool false] 46)
                  have hxL := hxE.alloc (.cells #[.int .i64 od, .slice Al l.length cl, .slice none 0 0, .slice none 0 0, .bool false, .bool false, .bool false, .bool false, .bool false, .bool false, .bool false, .bool false] 46)
                  have HSZL := Lib.hid (show (WE.alloc (.cells #[.int .i64 od, .slice Al l.length cl, .slice none 0 0, .slice none 0 0, .bool false, .bool false, .bool false, .bool false, .bool false, .bool false, .bool false, .bool false] 46)).heap.size = WE.heap.size + 1 by simp)
                  have hoL := hownE.alloc (.cells #[.int .i64 od, .slice Al l.length cl, .slice none 0 0, .slice none 0 0, .bool false, .bool false, .bool false, .bool false, .bool false, .bool false, .bool false, .bool false] 46)
                  refine ⟨rfl, .slice (some ⟨WE.heap.size, 0, none⟩) 1 1, _, (fun V => V = WE.alloc (.cells #[.int .i64 od, .slice Al l.length cl, .slice none 0 0, .slice none 0 0, .bool false, .bool false, .bool false, .bool false, .bool false, .bool false, .bool false, .bool false] 46)), ?_, rfl, (fun V h => by rw [h]; exact hxL.cell (j := 0) rfl), (.inr (fun _ h => h)), ?_⟩
                  · simp only [Act.put, List.setIfInBounds_toArray, List.set_cons_succ, List.set_cons_zero]
                  simp only [Act.put, List.setIfInBounds_toArray, List.set_cons_succ, List.set_cons_zero]
                  generalize WE.alloc (.cells #[.int .i64 od, .slice Al l.length cl, .slice none 0 0, .slice none 0 0, .bool false, .bool false, .bool false, .bool false, .bool false, .bool false, .bool false, .bool false] 46) = WL at *
                  refine Pt.WalkT.make (by rfl) ?_
                  intro V hV
                  rw [hV]
                  clear hV V
                  refine wpList_append_sl _ rfl (.tmp 49) (.tmp 55) _ rfl wr.heap.size 46 i0 _ 12 88 Tryz.underlying26 hi0 hz0 hz1 hz2 rfl (by omega) (.slice (some ⟨W0.heap.size, 0, none⟩) 0 0) 0 [] rfl hoL base wr.heap.size _ 0 ([]) rfl (S79.out _ hbL) HONE79.out (by unfold maxLen; omega) (by omega) hbL.size ?_
                  intro v1 w1 hv1 hg1 hat1
                  have hv1' : w1.ownsRow wr.heap.size 46 12 v1 0 ([]) := by simpa using hv1
                  have hb1 := hbL.grown hg1 hbL.size (fun g hg => (hoL.lt g hg).1)
                  have hx1 := hxL.kept hg1 (fun e => by have := (hoL.lt xb e.symm).1; omega)
                  have hl1 := Sl.grown hlL hg1 (by have := HSZL.out; omega) (fun k e => by have e2 : W0.heap.size = k := Option.some.inj e; have := HSZE.out; left; omega)
                  refine ⟨rfl, v1, _, (fun V => V = w1), rfl, rfl, (fun V h => by rw [h]; exact hx1.cell (j := 0) rfl), (.inr (fun _ h => h)), ?_⟩
                  simp only [Act.put, List.setIfInBounds_toArray, List.set_cons_succ, List.set_cons_zero]
                  clear hv1 hg1 hat1
                  refine Pt.WalkT.make (by rfl) ?_
                  intro V hV
                  rw [hV]
                  clear hV V
                  refine wpList_append_sl _ rfl (.tmp 56) (.tmp 61) _ rfl wr.heap.size 46 i0 _ 12 88 Tryz.underlying26 hi0 hz0 hz1 hz2 rfl (by omega) v1 0 ([]) rfl hv1' WE.heap.size (WE.heap.size + 1) (.slice (some ⟨WE.heap.size, 0, none⟩) 1 1) 1 [.int .i64 od, .slice Al l.length cl, .slice none 0 0, .slice none 0 0, .bool false, .bool false, .bool false, .bool false, .bool false, .bool false, .bool false, .bool false] rfl hl1 HCONE.out (by unfold maxLen; omega) (by omega) hb1.size ?_
                  intro v2 w2 hv2 hg2 hat2
                  have hb2 := hb1.grown hg2 hb1.size (fun g hg => (hv1'.lt g hg).1)
                  have hx2 := hx1.kept hg2 (fun e => by have := (hv1'.lt xb e.symm).1; omega)
                  clear hg2 hat2
                  refine ⟨rfl, v2, _, (fun V => V = w2), rfl, rfl, (fun V h => by rw [h]; exact hx2.cell (j := 0) rfl), (.inr (fun _ h => h)), ?_⟩
                  simp only [Act.put, List.setIfInBounds_toArray, List.set_cons_succ, List.set_cons_zero]
                  refine Pt.WalkT.make (by rfl) ?_
                  intro V hV
                  rw [hV]
                  clear hV V
                  refine wpList_append_sl _ rfl (.tmp 62) (.tmp 68) _ rfl wr.heap.size 46 i0 _ 12 88 Tryz.underlying26 hi0 hz0 hz1 hz2 rfl (by omega) v2 (0 + 1) ([] ++ [.int .i64 od, .slice Al l.length cl, .slice none 0 0, .slice none 0 0, .bool false, .bool false, .bool false, .bool false, .bool false, .bool false, .bool false, .bool false]) rfl hv2 base wr.heap.size _ (0) ([]) rfl (S93.out _ hb2) HONE93.out (by unfold maxLen; omega) (by omega) hb2.size ?_
                  intro v3 w3 hv3 hg3 hat3
                  have hb3 := hb2.grown hg3 hb2.size (fun g hg => (hv2.lt g hg).1)
                  have hx3 := hx2.kept hg3 (fun e => by have := (hv2.lt xb e.symm).1; omega)
                  clear hg3 hat3 hv2 hx2
                  rw [show ([] : List Value) ++ [.int .i64 od, .slice Al l.length cl, .slice none 0 0, .slice none 0 0, .bool false, .bool false, .bool false, .bool false, .bool false, .bool false, .bool false, .bool false] ++ [] = rowCs (([] : List DR).take 0 ++ [(⟨⟨od, l, [], [], [], fb⟩, .slice Al l.length cl, .slice none 0 0, .slice none 0 0⟩ : DR)] ++ ([] : List DR).drop 0) from rfl, HN.out] at hv3
                  obtain ⟨A5, c5, rfl, -⟩ := (Sl.of_own hv3).at_
                  have HV3 := Lib.hid hv3
                  clear hv3
                  refine ⟨rfl, _, _, (fun V => V = w3), rfl, rfl, (fun V h => by rw [h]; exact hx3.cell (j := 0) rfl), (.inr (fun _ h => h)), ?_⟩
                  simp only [Act.put, List.setIfInBounds_toArray, List.set_cons_succ, List.set_cons_zero]
                  refine Pt.WalkT.make (by rfl) ?_
                  intro V hV
                  rw [hV]
                  clear hV V
                  have g3 := hx3.cell (j := 0) (v := .slice none 0 0) rfl
                  have f3 := hx3.frozen 0
                  go_wp2_with fail
                  have hx4 := hx3.set 0 (.slice A5 n5 c5)
                  have hg4 := grownBy_set w3 xb 0 (.slice A5 n5 c5)
                  refine ⟨rfl, undef, (fun _ => True), (fun V => V = w3.setCell ⟨xb, 0, none⟩ (.slice A5 n5 c5)), rfl, rfl, (fun _ _ => trivial), (.inl (by kernel_rfl)), Pt.WalkT.nil ?_⟩
                  intro V hV
                  rw [hV]
                  clear hV V
                  simp only [Act.put]
                  have hrow := ownsRow_far HV3.out hg4 hxl
                  have hbw := HB1.out.trans (hb3.mono HB1.out.size)
                  have hgw := (only_of_below hbw (some xb)).trans hg4
                  have hk : Kept (fun i => i < w.heap.size ∧ i ≠ xb) w (w3.setCell ⟨xb, 0, none⟩ (.slice A5 n5 c5)) := Kept.of_grown hgw fun i hi => ⟨hi.1, fun e => hi.2 (Option.some.inj e)⟩
                  have hF2 : ∀ i, i < w.heap.size → (i ≠ xb ∧ ¬ Y i) → (i < w.heap.size ∧ i ≠ xb) ∧ (i ≠ xb ∧ ¬ Y i) := fun i hi hh => ⟨⟨hi, hh.1⟩, hh⟩
                  have hnest : ∀ p ∈ (([] : List DR).take 0 ++ [(⟨⟨od, l, [], [], [], fb⟩, .slice Al l.length cl, .slice none 0 0, .slice none 0 0⟩ : DR)] ++ ([] : List DR).drop 0), LiAt (w3.setCell ⟨xb, 0, none⟩ (.slice A5 n5 c5)) (fun i => i ≠ xb ∧ ¬ Y i) p.v1 p.d.wa ∧ LiAt (w3.setCell ⟨xb, 0, none⟩ (.slice A5 n5 c5)) (fun i => i ≠ xb ∧ ¬ Y i) p.v2 p.d.sh ∧ LiAt (w3.setCell ⟨xb, 0, none⟩ (.slice A5 n5 c5)) (fun i => i ≠ xb ∧ ¬ Y i) p.v3 p.d.ba := by
                    intro p hp
                    have hold : ∀ p ∈ ([] : List DR), LiAt (w3.setCell ⟨xb, 0, none⟩ (.slice A5 n5 c5)) (fun i => i ≠ xb ∧ ¬ Y i) p.v1 p.d.wa ∧ LiAt (w3.setCell ⟨xb, 0, none⟩ (.slice A5 n5 c5)) (fun i => i ≠ xb ∧ ¬ Y i) p.v2 p.d.sh ∧ LiAt (w3.setCell ⟨xb, 0, none⟩ (.slice A5 n5 c5)) (fun i => i ≠ xb ∧ ¬ Y i) p.v3 p.d.ba := fun q hq => ⟨(H.out.nest q hq).1.keep hk hF2, (H.out.nest q hq).2.1.keep hk hF2, (H.out.nest q hq).2.2.keep hk hF2⟩
                    rcases List.mem_append.1 hp with hp | hp
                    · rcases List.mem_append.1 hp with hp | hp
                      · exact hold p (List.mem_of_mem_take hp)
                      · rw [List.mem_singleton] at hp
                        rw [hp]
                        exact ⟨HI.out.keep hk hF2, LiAt.nil _ _, LiAt.nil _ _⟩
                    · exact hold p (List.mem_of_mem_drop hp)
                  have hyl : ∀ i, Y i → i < (w3.setCell ⟨xb, 0, none⟩ (.slice A5 n5 c5)).heap.size := fun i hi => Nat.lt_of_lt_of_le (H.out.yl i hi) hgw.size
                  have hyg : ∀ g, (Value.slice A5 n5 c5).ownBlock = some g → ¬ Y g := fun g hg hy => by have h1 := (HV3.out.lt g hg).1; have h2 := H.out.yl g hy; have h3 := HB1.out.size; omega
                  clear g3 f3 hk hF2
                  go_wp2
                  go_ret
                  have hfin := HFIN.out 0 (by simp) HLT.out HGE.out
                  have hdoc : DocP (w3.setCell ⟨xb, 0, none⟩ (.slice A5 n5 c5)) xb base Y (([] : List DR).take 0 ++ [(⟨⟨od, l, [], [], [], fb⟩, .slice Al l.length cl, .slice none 0 0, .slice none 0 0⟩ : DR)] ++ ([] : List DR).drop 0) := ⟨⟨_, hx4, by rw [show (([] : List DR).take 0 ++ [(⟨⟨od, l, [], [], [], fb⟩, .slice Al l.length cl, .slice none 0 0, .slice none 0 0⟩ : DR)] ++ ([] : List DR).drop 0).length = n5 from HN.out]; exact ownsRow_wide hrow hB1, hyg⟩, hnest, H.out.nx, hyl⟩
                  first
                    | exact ⟨_, rfl, hfin, hdoc, hgw⟩
                    | exact ⟨rfl, _, hfin, hdoc, hgw⟩
              · intro V hV
                rw [hV]
                clear hV V
                go_wp2_with fail
                have hlL : Sl (W0.alloc (.cells #[.int .i64 od, .slice Al l.length cl, .slice none 0 0, .slice none 0 0, .bool false, .bool false, .bool false, .bool false, .bool false, .bool false, .bool false, .bool false] 46)) W0.heap.size (W0.heap.size + 1) 12 (.slice (some ⟨W0.heap.size, 0, none⟩) 1 1) 1 [.int .i64 od, .slice Al l.length cl, .slice none 0 0, .slice none 0 0, .bool false, .bool false, .bool false, .bool false, .bool false, .bool false, .bool false, .bool false] := Sl.new W0 #[.int .i64 od, .slice Al l.length cl, .slice none 0 0, .slice none 0 0, .bool false, .bool false, .bool false, .bool false, .bool false, .bool false, .bool false, .bool false] 46 (n := 1) rfl (by unfold maxLen; omega)
                have hbL := hdr.alloc hdr.size (.cells #[.int .i64 od, .slice Al l.length cl, .slice none 0 0, .slice none 0 0, .bool false, .bool false, .bool false, .bool false, .bool false, .bool false, .bool false, .bool false] 46)
                have hxL := hx0.alloc (.cells #[.int .i64 od, .slice Al l.length cl, .slice none 0 0, .slice none 0 0, .bool false, .bool false, .bool false, .bool false, .bool false, .bool false, .bool false, .bool false] 46)
                have HSZL := Lib.hid (show (W0.alloc (.cells #[.int .i64 od, .slice Al l.length cl, .slice none 0 0, .slice none 0 0, .bool false, .bool false, .bool false, .bool false, .bool false, .bool false, .bool false, .bool false] 46)).heap.size = W0.heap.size + 1 by simp)
                refine ⟨rfl, .slice (some ⟨W0.heap.size, 0, none⟩) 1 1, _, (fun V => V = W0.alloc (.cells #[.int .i64 od, .slice Al l.length cl, .slice none 0 0, .slice none 0 0, .bool false, .bool false, .bool false, .bool false, .bool false, .bool false, .bool false, .bool false] 46)), ?_, rfl, (fun V h => by rw [h]; exact hxL.cell (j := 0) rfl), (.inr (fun _ h => h)), ?_⟩
                · simp only [Act.put, List.setIfInBounds_toArray, List.set_cons_succ, List.set_cons_zero]
                simp only [Act.put, List.setIfInBounds_toArray, List.set_cons_succ, List.set_cons_zero]
                generalize W0.alloc (.cells #[.int .i64 od, .slice Al l.length cl, .slice none 0 0, .slice none 0 0, .bool false, .bool false, .bool false, .bool false, .bool false, .bool false, .bool false, .bool false] 46) = WL at *
                refine Pt.WalkT.make (by rfl) ?_
                intro V hV
                rw [hV]
                clear hV V
                go_wp2_with fail
                have hownE := World.ownsRow_lit (e := 46) (size := 12) (base := wr.heap.size) WL #[] 0 hbL.size (Nat.zero_le _) rfl
                have hbE := hbL.alloc hbL.size (.cells #[] 46)
                have hxE := hxL.alloc (.cells #[] 46)
                have HSZE := Lib.hid (show (WL.alloc (.cells #[] 46)).heap.size = WL.heap.size + 1 by simp)
                have hlE := Sl.below hlL ((Below.refl _ WL).alloc (by have := HSZL.out; omega) (.cells #[] 46))
                refine ⟨rfl, .slice (some ⟨WL.heap.size, 0, none⟩) 0 0, _, (fun V => V = WL.alloc (.cells #[] 46)), ?_, rfl, (fun V h => by rw [h]; exact hxE.cell (j := 0) rfl), (.inr (fun _ h => h)), ?_⟩
                · simp only [Act.put, List.setIfInBounds_toArray, List.set_cons_succ, List.set_cons_zero]
                simp only [Act.put, List.setIfInBounds_toArray, List.set_cons_succ, List.set_cons_zero]
                generalize WL.alloc (.cells #[] 46) = WE at *
                refine Pt.WalkT.make (by rfl) ?_
                intro V hV
                rw [hV]
                clear hV V
                refine wpList_append_sl _ rfl (.tmp 49) (.tmp 55) _ rfl wr.heap.size 46 i0 _ 12 88 Tryz.underlying26 hi0 hz0 hz1 hz2 rfl (by omega) (.slice (some ⟨WL.heap.size, 0, none⟩) 0 0) 0 [] rfl hownE base wr.heap.size _ 0 ([]) rfl (S79.out _ hbE) HONE79.out (by unfold maxLen; omega) (by omega) hbE.size ?_
                intro v1 w1 hv1 hg1 hat1
                have hv1' : w1.ownsRow wr.heap.size 46 12 v1 0 ([]) := by simpa using hv1
                have hb1 := hbE.grown hg1 hbE.size (fun g hg => (hownE.lt g hg).1)
                have hx1 := hxE.kept hg1 (fun e => by have := (hownE.lt xb e.symm).1; omega)
                have hl1 := Sl.grown hlE hg1 (by have := HSZE.out; have := HSZL.out; omega) (fun k e => by have e2 : WL.heap.size = k := Option.some.inj e; have := HSZL.out; right; omega)
                refine ⟨rfl, v1, _, (fun V => V = w1), rfl, rfl, (fun V h => by rw [h]; exact hx1.cell (j := 0) rfl), (.inr (fun _ h => h)), ?_⟩
                simp only [Act.put, List.setIfInBounds_toArray, List.set_cons_succ, List.set_cons_zero]
                clear hv1 hg1 hat1
                refine Pt.WalkT.make (by rfl) ?_
                intro V hV
                rw [hV]
                clear hV V
                refine wpList_append_sl _ rfl (.tmp 56) (.tmp 61) _ rfl wr.heap.size 46 i0 _ 12 88 Tryz.underlying26 hi0 hz0 hz1 hz2 rfl (by omega) v1 0 ([]) rfl hv1' W0.heap.size (W0.heap.size + 1) (.slice (some ⟨W0.heap.size, 0, none⟩) 1 1) 1 [.int .i64 od, .slice Al l.length cl, .slice none 0 0, .slice none 0 0, .bool false, .bool false, .bool false, .bool false, .bool false, .bool false, .bool false, .bool false] rfl hl1 HCONE.out (by unfold maxLen; omega) (by omega) hb1.size ?_
                intro v2 w2 hv2 hg2 hat2
                have hb2 := hb1.grown hg2 hb1.size (fun g hg => (hv1'.lt g hg).1)
                have hx2 := hx1.kept hg2 (fun e => by have := (hv1'.lt xb e.symm).1; omega)
                clear hg2 hat2
                refine ⟨rfl, v2, _, (fun V => V = w2), rfl, rfl, (fun V h => by rw [h]; exact hx2.cell (j := 0) rfl), (.inr (fun _ h => h)), ?_⟩
                simp only [Act.put, List.setIfInBounds_toArray, List.set_cons_succ, List.set_cons_zero]
                refine Pt.WalkT.make (by rfl) ?_
                intro V hV
                rw [hV]
                clear hV V
                refine wpList_append_sl _ rfl (.tmp 62) (.tmp 68) _ rfl wr.heap.size 46 i0 _ 12 88 Tryz.underlying26 hi0 hz0 hz1 hz2 rfl (by omega) v2 (0 + 1) ([] ++ [.int .i64 od, .slice Al l.length cl, .slice none 0 0, .slice none 0 0, .bool false, .bool false, .bool false, .bool false, .bool false, .bool false, .bool false, .bool false]) rfl hv2 base wr.heap.size _ (0) ([]) rfl (S93.out _ hb2) HONE93.out (by unfold maxLen; omega) (by omega) hb2.size ?_
                intro v3 w3 hv3 hg3 hat3
                have hb3 := hb2.grown hg3 hb2.size (fun g hg => (hv2.lt g hg).1)
                have hx3 := hx2.kept hg3 (fun e => by have := (hv2.lt xb e.symm).1; omega)
                clear hg3 hat3 hv2 hx2
                rw [show ([] : List Value) ++ [.int .i64 od, .slice Al l.length cl, .slice none 0 0, .slice none 0 0, .bool false, .bool false, .bool false, .bool false, .bool false, .bool false, .bool false, .bool false] ++ [] = rowCs (([] : List DR).take 0 ++ [(⟨⟨od, l, [], [], [], fb⟩, .slice Al l.length cl, .slice none 0 0, .slice none 0 0⟩ : DR)] ++ ([] : List DR).drop 0) from rfl, HN.out] at hv3
                obtain ⟨A5, c5, rfl, -⟩ := (Sl.of_own hv3).at_
                have HV3 := Lib.hid hv3
                clear hv3
                refine ⟨rfl, _, _, (fun V => V = w3), rfl, rfl, (fun V h => by rw [h]; exact hx3.cell (j := 0) rfl), (.inr (fun _ h => h)), ?_⟩
                simp only [Act.put, List.setIfInBounds_toArray, List.set_cons_succ, List.set_cons_zero]
                refine Pt.WalkT.make (by rfl) ?_
                intro V hV
                rw [hV]
                clear hV V
                have g3 := hx3.cell (j := 0) (v := .slice none 0 0) rfl
                have f3 := hx3.frozen 0
                go_wp2_with fail
                have hx4 := hx3.set 0 (.slice A5 n5 c5)
                have hg4 := grownBy_set w3 xb 0 (.slice A5 n5 c5)
                refine ⟨rfl, undef, (fun _ => True), (fun V => V = w3.setCell ⟨xb, 0, none⟩ (.slice A5 n5 c5)), rfl, rfl, (fun _ _ => trivial), (.inl (by kernel_rfl)), Pt.WalkT.nil ?_⟩
                intro V hV
                rw [hV]
                clear hV V
                simp only [Act.put]
                have hrow := ownsRow_far HV3.out hg4 hxl
                have hbw := HB1.out.trans (hb3.mono HB1.out.size)
                have hgw := (only_of_below hbw (some xb)).trans hg4
                have hk : Kept (fun i => i < w.heap.size ∧ i ≠ xb) w (w3.setCell ⟨xb, 0, none⟩ (.slice A5 n5 c5)) := Kept.of_grown hgw fun i hi => ⟨hi.1, fun e => hi.2 (Option.some.inj e)⟩
                have hF2 : ∀ i, i < w.heap.size → (i ≠ xb ∧ ¬ Y i) → (i < w.heap.size ∧ i ≠ xb) ∧ (i ≠ xb ∧ ¬ Y i) := fun i hi hh => ⟨⟨hi, hh.1⟩, hh⟩
                have hnest : ∀ p ∈ (([] : List DR).take 0 ++ [(⟨⟨od, l, [], [], [], fb⟩, .slice Al l.length cl, .slice none 0 0, .slice none 0 0⟩ : DR)] ++ ([] : List DR).drop 0), LiAt (w3.setCell ⟨xb, 0, none⟩ (.slice A5 n5 c5)) (fun i => i ≠ xb ∧ ¬ Y i) p.v1 p.d.wa ∧ LiAt (w3.setCell ⟨xb, 0, none⟩ (.slice A5 n5 c5)) (fun i => i ≠ xb ∧ ¬ Y i) p.v2 p.d.sh ∧ LiAt (w3.setCell ⟨xb, 0, none⟩ (.slice A5 n5 c5)) (fun i => i ≠ xb ∧ ¬ Y i) p.v3 p.d.ba := by
                  intro p hp
                  have hold : ∀ p ∈ ([] : List DR), LiAt (w3.setCell ⟨xb, 0, none⟩ (.slice A5 n5 c5)) (fun i => i ≠ xb ∧ ¬ Y i) p.v1 p.d.wa ∧ LiAt (w3.setCell ⟨xb, 0, none⟩ (.slice A5 n5 c5)) (fun i => i ≠ xb ∧ ¬ Y i) p.v2 p.d.sh ∧ LiAt (w3.setCell ⟨xb, 0, none⟩ (.slice A5 n5 c5)) (fun i => i ≠ xb ∧ ¬ Y i) p.v3 p.d.ba := fun q hq => ⟨(H.out.nest q hq).1.keep hk hF2, (H.out.nest q hq).2.1.keep hk hF2, (H.out.nest q hq).2.2.keep hk hF2⟩
                  rcases List.mem_append.1 hp with hp | hp
                  · rcases List.mem_append.1 hp with hp | hp
                    · exact hold p (List.mem_of_mem_take hp)
                    · rw [List.mem_singleton] at hp
                      rw [hp]
                      exact ⟨HI.out.keep hk hF2, LiAt.nil _ _, LiAt.nil _ _⟩
                  · exact hold p (List.mem_of_mem_drop hp)
                have hyl : ∀ i, Y i → i < (w3.setCell ⟨xb, 0, none⟩ (.slice A5 n5 c5)).heap.size := fun i hi => Nat.lt_of_lt_of_le (H.out.yl i hi) hgw.size
                have hyg : ∀ g, (Value.slice A5 n5 c5).ownBlock = some g → ¬ Y g := fun g hg hy => by have h1 := (HV3.out.lt g hg).1; have h2 := H.out.yl g hy; have h3 := HB1.out.size; omega
                clear g3 f3 hk hF2
                go_wp2
                go_ret
                have hfin := HFIN.out 0 (by simp) HLT.out HGE.out
                have hdoc : DocP (w3.setCell ⟨xb, 0, none⟩ (.slice A5 n5 c5)) xb base Y (([] : List DR).take 0 ++ [(⟨⟨od, l, [], [], [], fb⟩, .slice Al l.length cl, .slice none 0 0, .slice none 0 0⟩ : DR)] ++ ([] : List DR).drop 0) := ⟨⟨_, hx4, by rw [show (([] : List DR).take 0 ++ [(⟨⟨od, l, [], [], [], fb⟩, .slice Al l.length cl, .slice none 0 0, .slice none 0 0⟩ : DR)] ++ ([] : List DR).drop 0).length = n5 from HN.out]; exact ownsRow_wide hrow hB1, hyg⟩, hnest, H.out.nx, hyl⟩
                first
                  | exact ⟨_, rfl, hfin, hdoc, hgw⟩
                  | exact ⟨rfl, _, hfin, hdoc, hgw⟩
          · have hcap : es.length ≤ c ∧ c ≤ maxLen := by obtain ⟨A', c', e, h1, h2, -⟩ := (Sl.of_own hv).at_; cases e; exact ⟨h1, h2⟩
            have g0 := hx.cell (j := 0) (v := .slice (some ⟨g, 0, none⟩) es.length c) rfl
            clear hgr
            go_wp2
            go_loopw [7] (fun i wr => ∃ j : Nat, j ≤ es.length ∧ i = .int .i64 j ∧ wr = W1 ∧ ∀ i (h : i < es.length), i < j → es[i].d.od < od) (fun i _ => es.length - (intOf i).toNat)
            case atStart => exact ⟨0, by omega, rfl, rfl, fun i h hi => by omega⟩
            case round =>
              obtain ⟨j, hj, rfl, rfl, hlt⟩ := hrel
              have HLT := Lib.hid hlt
              clear hlt
              have hcs : (j = es.length ∧ decide ((j : Int) < (es.length : Int)) = false) ∨ ∃ h : j < es.length, (decide ((j : Int) < (es.length : Int)) = true) ∧ ((decide (es[j].d.od < od) = true) ∨ (decide (es[j].d.od < od) = false)) := by
                by_cases hjl : j < es.length
                · exact .inr ⟨hjl, by simp; omega, by cases decide (es[j].d.od < od) <;> simp⟩
                · exact .inl ⟨by omega, by simp; omega⟩
              rcases hcs with ⟨hje, hd⟩ | ⟨hjl, hd, hq | hq⟩
              · have HGE := Lib.hid (show ∀ h : j < es.length, od < es[j].d.od from fun h => by omega)
                go_wp2_with fail
                obtain ⟨n5, hn5⟩ : ∃ n5, (es.take j ++ [(⟨⟨od, l, [], [], [], fb⟩, .slice Al l.length cl, .slice none 0 0, .slice none 0 0⟩ : DR)] ++ es.drop j).length = n5 := ⟨_, rfl⟩
                obtain ⟨A3, hA3⟩ : ∃ A3, (if c = j then some (⟨g, 0, none⟩ : Addr) else some ⟨g, 0 + j * 12, none⟩) = A3 := ⟨_, rfl⟩
                have S79 := Lib.hid (fun W (hb : Below wr.heap.size wr W) => Sl.upTo (Sl.below (Sl.of_own HV.out) hb) hj)
                have S93 := Lib.hid (fun W (hb : Below wr.heap.size wr W) => (by have := Sl.onFrom (Sl.below (Sl.of_own HV.out) hb) hj; rw [hA3] at this; exact this : Sl W base wr.heap.size 12 (.slice A3 (es.length - j) (c - j)) (es.length - j) ((rowCs es).drop (j * 12))))
                have HONE79 := Lib.hid (show ∀ y ∈ (rowCs es).take (j * 12), y.oneCell' = true from fun y hy => hone.out y (List.mem_of_mem_take hy))
                have HONE93 := Lib.hid (show ∀ y ∈ (rowCs es).drop (j * 12), y.oneCell' = true from fun y hy => hone.out y (List.mem_of_mem_drop hy))
                have HN := Lib.hid (show j + 1 + (es.length - j) = n5 by rw [← hn5]; simp; omega)
                have hcj := hcap.1
                have hcm := hcap.2
                unfold maxLen at hcm
                have l1 : (0 : Int) ≤ (j : Int) := by omega
                have l2 : (j : Int) ≤ (c : Int) := by omega
                have l3 : (j : Int) ≤ (es.length : Int) := by omega
                have HCONE := Lib.hid (show ∀ y ∈ ([.int .i64 od, .slice Al l.length cl, .slice none 0 0, .slice none 0 0, .bool false, .bool false, .bool false, .bool false, .bool false, .bool false, .bool false, .bool false] : List Value), y.oneCell' = true from fun y hy => by simp only [List.mem_cons, List.not_mem_nil, or_false] at hy; rcases hy with rfl | rfl | rfl | rfl | rfl | rfl | rfl | rfl | rfl | rfl | rfl | rfl <;> rfl)
                clear g0 hd hv hje
                have hdr := (Below.refl wr.heap.size wr).drew
                have hx0 : Ob wr.drew xb 28 #[.slice (some ⟨g, 0, none⟩) es.length c] := hx
                have g0d : wr.drew.cell? ⟨xb, 0, none⟩ = some (.slice (some ⟨g, 0, none⟩) es.length c) := hx0.cell (j := 0) rfl
                have hxl := hx.lt
                refine Pt.regionT (.look 0 (.look 2 (.look 3 (.look 4 (.look 5 (.look 6 (.look 7 (.look 9 (.look 10 (.look 11 (.look 12 (.look 15 (.look 16 (.look 17 (.look 18 (.look 19 (.look 20 (.look 22 (.look 23 (.fork 1 (.fork 8 (.make 13 (.make 14 (.make 21 (.make 24 .nil)))) 13 (.make 8 (.make 14 (.make 21 (.make 24 .nil))))) 13 (.make 1 (.make 8 (.make 14 (.make 21 (.make 24 .nil))))))))))))))))))))))))) (fun V => V.cell? ⟨xb, 0, none⟩ = some (.slice (some ⟨g, 0, none⟩) es.length c)) hmx (by kernel_rfl) (by kernel_rfl) (by kernel_rfl) g0d rfl ?_
                simp only [Pt.named, List.getElem?_toArray, List.getElem?_cons_succ, List.getElem?_cons_zero, Option.map_some]
                iterate 06 (apply Pt.WalkT.on (by rfl)
                            · rintro V gV
                              go_wp2_with fail
                              refine ⟨rfl, ?_, rfl⟩
                              try simp only [Act.put, List.setIfInBounds_toArray, List.set_cons_succ, List.set_cons_zero]
                              rfl
                            simp only [Act.put, List.setIfInBounds_toArray, List.set_cons_succ, List.set_cons_zero])
                apply Pt.WalkT.on (v := .slice (some ⟨g, 0, none⟩) j c) (by rfl)
                · rintro V gV
                  go_wp2_with fail
                  refine ⟨rfl, ?_, rfl⟩
                  simp only [Act.put, List.setIfInBounds_toArray, List.set_cons_succ, List.set_cons_zero]
                simp only [Act.put, List.setIfInBounds_toArray, List.set_cons_succ, List.set_cons_zero]
                iterate 09 (apply Pt.WalkT.on (by rfl)
                            · rintro V gV
                              go_wp2_with fail
                              refine ⟨rfl, ?_, rfl⟩
                              try simp only [Act.put, List.setIfInBounds_toArray, List.set_cons_succ, List.set_cons_zero]
                              rfl
                            simp only [Act.put, List.setIfInBounds_toArray, List.set_cons_succ, List.set_cons_zero])
                apply Pt.WalkT.on (v := .slice A3 (es.length - j) (c - j)) (by rfl)
                · rintro V gV
                  by_cases hce : c = j
                  · have hA4 : A3 = some ⟨g, 0, none⟩ := by rw [← hA3, if_pos hce]
                    rw [hA4]
                    clear hA3 hA4
                    go_wp2_with fail
                    refine ⟨rfl, ?_, rfl⟩
                    simp only [Act.put, List.setIfInBounds_toArray, List.set_cons_succ, List.set_cons_zero, Nat.sub_self]
                  · have hA4 : A3 = some ⟨g, j * 12, none⟩ := by rw [← hA3, if_neg hce, Nat.zero_add]
                    rw [hA4]
                    clear hA3 hA4
                    go_wp2_with fail
                    refine ⟨rfl, ?_, rfl⟩
                    simp only [Act.put, List.setIfInBounds_toArray, List.set_cons_succ, List.set_cons_zero]
                simp only [Act.put, List.setIfInBounds_toArray, List.set_cons_succ, List.set_cons_zero]
                iterate 02 (apply Pt.WalkT.on (by rfl)
                            · rintro V gV
                              go_wp2_with fail
                              refine ⟨rfl, ?_, rfl⟩
                              try simp only [Act.put, List.setIfInBounds_toArray, List.set_cons_succ, List.set_cons_zero]
                              rfl
                            simp only [Act.put, List.setIfInBounds_toArray, List.set_cons_succ, List.set_cons_zero])
                clear g0d
                generalize wr.drew = W0 at *
                refine Pt.WalkT.fork (by rfl) (by rfl) ?_ ?_
                · intro V hV
                  rw [hV]
                  clear hV V
                  go_wp2_with fail
                  have hownE := World.ownsRow_lit (e := 46) (size := 12) (base := wr.heap.size) W0 #[] 0 hdr.size (Nat.zero_le _) rfl
                  have hbE := hdr.alloc hdr.size (.cells #[] 46)
                  have hxE := hx0.alloc (.cells #[] 46)
                  have HSZE := Lib.hid (show (W0.alloc (.cells #[] 46)).heap.size = W0.heap.size + 1 by simp)
                  refine ⟨rfl, .slice (some ⟨W0.heap.size, 0, none⟩) 0 0, _, (fun V => V = W0.alloc (.cells #[] 46)), ?_, rfl, (fun V h => by rw [h]; exact hxE.cell (j := 0) rfl), (.inr (fun _ h => h)), ?_⟩
                  · simp only [Act.put, List.setIfInBounds_toArray, List.set_cons_succ, List.set_cons_zero]
                  simp only [Act.put, List.setIfInBounds_toArray, List.set_cons_succ, List.set_cons_zero]
                  generalize W0.alloc (.cells #[] 46) = WE at *
                  refine Pt.WalkT.fork (by rfl) (by rfl) ?_ ?_
                  · intro V hV
                    rw [hV]
                    clear hV V
                    refine wpList_append_sl _ rfl (.tmp 49) (.tmp 55) _ rfl wr.heap.size 46 i0 _ 12 88 Tryz.underlying26 hi0 hz0 hz1 hz2 rfl (by omega) (.slice (some ⟨W0.heap.size, 0, none⟩) 0 0) 0 [] rfl hownE base wr.heap.size _ j ((rowCs es).take (j * 12)) rfl (S79.out _ hbE) HONE79.out (by unfold maxLen; omega) (by omega) hbE.size ?_
                    intro v1 w1 hv1 hg1 hat1
                    have hv1' : w1.ownsRow wr.heap.size 46 12 v1 j ((rowCs es).take (j * 12)) := by simpa using hv1
                    have hb1 := hbE.grown hg1 hbE.size (fun g hg => (hownE.lt g hg).1)
                    have hx1 := hxE.kept hg1 (fun e => by have := (hownE.lt xb e.symm).1; omega)
                    refine ⟨rfl, v1, _, (fun V => V = w1), rfl, rfl, (fun V h => by rw [h]; exact hx1.cell (j := 0) rfl), (.inr (fun _ h => h)), ?_⟩
                    simp only [Act.put, List.setIfInBounds_toArray, List.set_cons_succ, List.set_cons_zero]
                    clear hv1 hg1 hat1
                    refine Pt.WalkT.make (by rfl) ?_
                    intro V hV
                    rw [hV]
                    clear hV V
                    go_wp2_with fail
                    have hlL : Sl (w1.alloc (.cells #[.int .i64 od, .slice Al l.length cl, .slice none 0 0, .slice none 0 0, .bool false, .bool false, .bool false, .bool false, .bool false, .bool false, .bool false, .bool false] 46)) w1.heap.size (w1.heap.size + 1) 12 (.slice (some ⟨w1.heap.size, 0, none⟩) 1 1) 1 [.int .i64 od, .slice Al l.length cl, .slice none 0 0, .slice none 0 0, .bool false, .bool false, .bool false, .bool false, .bool false, .bool false, .bool false, .bool false] := Sl.new w1 #[.int .i64 od, .slice Al l.length cl, .slice none 0 0, .slice none 0 0, .bool false, .bool false, .bool false, .bool false, .bool false, .bool false, .bool false, .bool false] 46 (n := 1) rfl (by unfold maxLen; omega)
                    have hbL := hb1.alloc hb1.size (.cells #[.int .i64 od, .slice Al l.length cl, .slice none 0 0, .slice none 0 0, .bool false, .bool false, .bool false, .bool false, .bool false, .bool false, .bool false, .bool false] 46)
                    have hxL := hx1.alloc (.cells #[.int .i64 od, .slice Al l.length cl, .slice none 0 0, .slice none 0 0, .bool false, .bool false, .bool false, .bool false, .bool false, .bool false, .bool false, .bool false] 46)
                    have HSZL := Lib.hid (show (w1.alloc (.cells #[.int .i64 od, .slice Al l.length cl, .slice none 0 0, .slice none 0 0, .bool false, .bool false, .bool false, .bool false, .bool false, .bool false, .bool false, .bool false] 46)).heap.size = w1.heap.size + 1 by simp)
                    have hoL := hv1'.alloc (.cells #[.int .i64 od, .slice Al l.length cl, .slice none 0 0, .slice none 0 0, .bool false, .bool false, .bool false, .bool false, .bool false, .bool false, .bool false, .bool false] 46)
                    refine ⟨rfl, .slice (some ⟨w1.heap.size, 0, none⟩) 1 1, _, (fun V => V = w1.alloc (.cells #[.int .i64 od, .slice Al l.length cl, .slice none 0 0, .slice none 0 0, .bool false, .bool false, .bool false, .bool false, .bool false, .bool false, .bool false, .bool false] 46)), ?_, rfl, (fun V h => by rw [h]; exact hxL.cell (j := 0) rfl), (.inr (fun _ h => h)), ?_⟩
                    · simp only [Act.put, List.setIfInBounds_toArray, List.set_cons_succ, List.set_cons_zero]
                    simp only [Act.put, List.setIfInBounds_toArray, List.set_cons_succ, List.set_cons_zero]
                    generalize w1.alloc (.cells #[.int .i64 od, .slice Al l.length cl, .slice none 0 0, .slice none 0 0, .bool false, .bool false, .bool false, .bool false, .bool false, .bool false, .bool false, .bool false] 46) = WL at *
                    refine Pt.WalkT.make (by rfl) ?_
                    intro V hV
                    rw [hV]
                    clear hV V
                    refine wpList_append_sl _ rfl (.tmp 56) (.tmp 61) _ rfl wr.heap.size 46 i0 _ 12 88 Tryz.underlying26 hi0 hz0 hz1 hz2 rfl (by omega) v1 j ((rowCs es).take (j * 12)) rfl hoL w1.heap.size (w1.heap.size + 1) (.slice (some ⟨w1.heap.size, 0, none⟩) 1 1) 1 [.int .i64 od, .slice Al l.length cl, .slice none 0 0, .slice none 0 0, .bool false, .bool false, .bool false, .bool false, .bool false, .bool false, .bool false, .bool false] rfl hlL HCONE.out (by unfold maxLen; omega) (by omega) hbL.size ?_
                    intro v2 w2 hv2 hg2 hat2
                    have hb2 := hbL.grown hg2 hbL.size (fun g hg => (hoL.lt g hg).1)
                    have hx2 := hxL.kept hg2 (fun e => by have := (hoL.lt xb e.symm).1; omega)
                    clear hg2 hat2
                    refine ⟨rfl, v2, _, (fun V => V = w2), rfl, rfl, (fun V h => by rw [h]; exact hx2.cell (j := 0) rfl), (.inr (fun _ h => h)), ?_⟩
                    simp only [Act.put, List.setIfInBounds_toArray, List.set_cons_succ, List.set_cons_zero]
                    refine Pt.WalkT.make (by rfl) ?_
                    intro V hV
                    rw [hV]
                    clear hV V
                    refine wpList_append_sl _ rfl (.tmp 62) (.tmp 68) _ rfl wr.heap.size 46 i0 _ 12 88 Tryz.underlying26 hi0 hz0 hz1 hz2 rfl (by omega) v2 (j + 1) ((rowCs es).take (j * 12) ++ [.int .i64 od, .slice Al l.length cl, .slice none 0 0, .slice none 0 0, .bool false, .bool false, .bool false, .bool false, .bool false, .bool false, .bool false, .bool false]) rfl hv2 base wr.heap.size _ (es.length - j) ((rowCs es).drop (j * 12)) rfl (S93.out _ hb2) HONE93.out (by unfold maxLen; omega) (by omega) hb2.size ?_
                    intro v3 w3 hv3 hg3 hat3
                    have hb3 := hb2.grown hg3 hb2.size (fun g hg => (hv2.lt g hg).1)
                    have hx3 := hx2.kept hg3 (fun e => by have := (hv2.lt xb e.symm).1; omega)
                    clear hg3 hat3 hv2 hx2
                    rw [show (rowCs es).take (j * 12) ++ [.int .i64 od, .slice Al l.length cl, .slice none 0 0, .slice none 0 0, .bool false, .bool false, .bool false, .bool false, .bool false, .bool false, .bool false, .bool false] ++ (rowCs es).drop (j * 12) = rowCs (es.take j ++ [(⟨⟨od, l, [], [], [], fb⟩, .slice Al l.length cl, .slice none 0 0, .slice none 0 0⟩ : DR)] ++ es.drop j) from (rowCs_ins es j (⟨⟨od, l, [], [], [], fb⟩, .slice Al l.length cl, .slice none 0 0, .slice none 0 0⟩ : DR)).symm, HN.out] at hv3
                    obtain ⟨A5, c5, rfl, -⟩ := (Sl.of_own hv3).at_
                    have HV3 := Lib.hid hv3
                    clear hv3
                    refine ⟨rfl, _, _, (fun V => V = w3), rfl, rfl, (fun V h => by rw [h]; exact hx3.cell (j := 0) rfl), (.inr (fun _ h => h)), ?_⟩
                    simp only [Act.put, List.setIfInBounds_toArray, List.set_cons_succ, List.set_cons_zero]
                    refine Pt.WalkT.make (by rfl) ?_
                    intro V hV
                    rw [hV]
                    clear hV V
                    have g3 := hx3.cell (j := 0) (v := .slice (some ⟨g, 0, none⟩) es.length c) rfl
                    have f3 := hx3.frozen 0
                    go_wp2_with fail
                    have hx4 := hx3.set 0 (.slice A5 n5 c5)
                    have hg4 := grownBy_set w3 xb 0 (.slice A5 n5 c5)
                    refine ⟨rfl, undef, (fun _ => True), (fun V => V = w3.setCell ⟨xb, 0, none⟩ (.slice A5 n5 c5)), rfl, rfl, (fun _ _ => trivial), (.inl (by kernel_rfl)), Pt.WalkT.nil ?_⟩
                    intro V hV
                    rw [hV]
                    clear hV V
                    simp only [Act.put]
                    have hrow := ownsRow_far HV3.out hg4 hxl
                    have hbw := HB1.out.trans (hb3.mono HB1.out.size)
                    have hgw := (only_of_below hbw (some xb)).trans hg4
                    have hk : Kept (fun i => i < w.heap.size ∧ i ≠ xb) w (w3.setCell ⟨xb, 0, none⟩ (.slice A5 n5 c5)) := Kept.of_grown hgw fun i hi => ⟨hi.1, fun e => hi.2 (Option.some.inj e)⟩
                    have hF2 : ∀ i, i < w.heap.size → (i ≠ xb ∧ ¬ Y i) → (i < w.heap.size ∧ i ≠ xb) ∧ (i ≠ xb ∧ ¬ Y i) := fun i hi hh => ⟨⟨hi, hh.1⟩, hh⟩
                    have hnest : ∀ p ∈ (es.take j ++ [(⟨⟨od, l, [], [], [], fb⟩, .slice Al l.length cl, .slice none 0 0, .slice none 0 0⟩ : DR)] ++ es.drop j), LiAt (w3.setCell ⟨xb, 0, none⟩ (.slice A5 n5 c5)) (fun i => i ≠ xb ∧ ¬ Y i) p.v1 p.d.wa ∧ LiAt (w3.setCell ⟨xb, 0, none⟩ (.slice A5 n5 c5)) (fun i => i ≠ xb ∧ ¬ Y i) p.v2 p.d.sh ∧ LiAt (w3.setCell ⟨xb, 0, none⟩ (.slice A5 n5 c5)) (fun i => i ≠ xb ∧ ¬ Y i) p.v3 p.d.ba := by
                      intro p hp
                      have hold : ∀ p ∈ es, LiAt (w3.setCell ⟨xb, 0, none⟩ (.slice A5 n5 c5)) (fun i => i ≠ xb ∧ ¬ Y i) p.v1 p.d.wa ∧ LiAt (w3.setCell ⟨xb, 0, none⟩ (.slice A5 n5 c5)) (fun i => i ≠ xb ∧ ¬ Y i) p.v2 p.d.sh ∧ LiAt (w3.setCell ⟨xb, 0, none⟩ (.slice A5 n5 c5)) (fun i => i ≠ xb ∧ ¬ Y i) p.v3 p.d.ba := fun q hq => ⟨(H.out.nest q hq).1.keep hk hF2, (H.out.nest q hq).2.1.keep hk hF2, (H.out.nest q hq).2.2.keep hk hF2⟩
                      rcases List.mem_append.1 hp with hp | hp
                      · rcases List.mem_append.1 hp with hp | hp
                        · exact hold p (List.mem_of_mem_take hp)
                        · rw [List.mem_singleton] at hp
                          rw [hp]
                          exact ⟨HI.out.keep hk hF2, LiAt.nil _ _, LiAt.nil _ _⟩
                      · exact hold p (List.mem_of_mem_drop hp)
                    have hyl : ∀ i, Y i → i < (w3.setCell ⟨xb, 0, none⟩ (.slice A5 n5 c5)).heap.size := fun i hi => Nat.lt_of_lt_of_le (H.out.yl i hi) hgw.size
                    have hyg : ∀ g, (Value.slice A5 n5 c5).ownBlock = some g → ¬ Y g := fun g hg hy => by have h1 := (HV3.out.lt g hg).1; have h2 := H.out.yl g hy; have h3 := HB1.out.size; omega
                    clear g3 f3 hk hF2
                    go_wp2
                    go_ret
                    have hfin := HFIN.out j hj HLT.out HGE.out
                    have hdoc : DocP (w3.setCell ⟨xb, 0, none⟩ (.slice A5 n5 c5)) xb base Y (es.take j ++ [(⟨⟨od, l, [], [], [], fb⟩, .slice Al l.length cl, .slice none 0 0, .slice none 0 0⟩ : DR)] ++ es.drop j) := ⟨⟨_, hx4, by rw [hn5]; exact ownsRow_wide hrow hB1, hyg⟩, hnest, H.out.nx, hyl⟩
                    first
                      | exact ⟨_, rfl, hfin, hdoc, hgw⟩
                      | exact ⟨rfl, _, hfin, hdoc, hgw⟩
                  · intro V hV
                    rw [hV]
                    clear hV V
                    go_wp2_with fail
                    have hlL : Sl (WE.alloc (.cells #[.int .i64 od, .slice Al l.length cl, .slice none 0 0, .slice none 0 0, .bool false, .bool false, .bool false, .bool false, .bool false, .bool false, .bool false, .bool false] 46)) WE.heap.size (WE.heap.size + 1) 12 (.slice (some ⟨WE.heap.size, 0, none⟩) 1 1) 1 [.int .i64 od, .slice Al l.length cl, .slice none 0 0, .slice none 0 0, .bool false, .bool false, .bool false, .bool false, .bool false, .bool false, .bool false, .bool false] := Sl.new WE #[.int .i64 od, .slice Al l.length cl, .slice none 0 0, .slice none 0 0, .bool false, .bool false, .bool false, .bool false, .bool false, .bool false, .bool false, .bool false] 46 (n := 1) rfl (by unfold maxLen; omega)
                    have hbL := hbE.alloc hbE.size (.cells #[.int .i64 od, .slice Al l.length cl, .slice none 0 0, .slice none 0 0, .bool false, .bool false, .bool false, .bool false, .bool false, .bool false, .bool false, .bool false] 46)
                    have hxL := hxE.alloc (.cells #[.int .i64 od, .slice Al l.length cl, .slice none 0 0, .slice none 0 0, .bool false, .bool false, .bool false, .bool false, .bool false, .bool false, .bool false, .bool false] 46)
                    have HSZL := Lib.hid (show (WE.alloc (.cells #[.int .i64 od, .slice Al l.length cl, .slice none 0 0, .slice none 0 0, .bool false, .bool false, .bool false, .bool false, .bool false, .bool false, .bool false, .bool false] 46)).heap.size = WE.heap.size + 1 by simp)
                    have hoL := hownE.alloc (.cells #[.int .i64 od, .slice Al l.length cl, .slice none 0 0, .slice none 0 0, .bool false, .bool false, .bool false, .bool false, .bool false, .bool false, .bool false, .bool false] 46)
                    refine ⟨rfl, .slice (some ⟨WE.heap.size, 0, none⟩) 1 1, _, (fun V => V = WE.alloc (.cells #[.int .i64 od, .slice Al l.length cl, .slice none 0 0, .slice none 0 0, .bool false, .bool false, .bool false, .bool false, .bool false, .bool false, .bool false, .bool false] 46)), ?_, rfl, (fun V h => by rw [h]; exact hxL.cell (j := 0) rfl), (.inr (fun _ h => h)), ?_⟩
                    · simp only [Act.put, List.setIfInBounds_toArray, List.set_cons_succ, List.set_cons_zero]
                    simp only [Act.put, List.setIfInBounds_toArray, List.set_cons_succ, List.set_cons_zero]
                    generalize WE.alloc (.cells #[.int .i64 od, .slice Al l.length cl, .slice none 0 0, .slice none 0 0, .bool false, .bool false, .bool false, .bool false, .bool false, .bool false, .bool false, .bool false] 46) = WL at *
                    refine Pt.WalkT.make (by rfl) ?_
                    intro V hV
                    rw [hV]
                    clear hV V
                    refine wpList_append_sl _ rfl (.tmp 49) (.tmp 55) _ rfl wr.heap.size 46 i0 _ 12 88 Tryz.underlying26 hi0 hz0 hz1 hz2 rfl (by omega) (.slice (some ⟨W0.heap.size, 0, none⟩) 0 0) 0 [] rfl hoL base wr.heap.size _ j ((rowCs es).take (j * 12)) rfl (S79.out _ hbL) HONE79.out (by unfold maxLen; omega) (by omega) hbL.size ?_
                    intro v1 w1 hv1 hg1 hat1
                    have hv1' : w1.ownsRow wr.heap.size 46 12 v1 j ((rowCs es).take (j * 12)) := by simpa using hv1
                    have hb1 := hbL.grown hg1 hbL.size (fun g hg => (hoL.lt g hg).1)
                    have hx1 := hxL.kept hg1 (fun e => by have := (hoL.lt xb e.symm).1; omega)
                    have hl1 := Sl.grown hlL hg1 (by have := HSZL.out; omega) (fun k e => by have e2 : W0.heap.size = k := Option.some.inj e; have := HSZE.out; left; omega)
                    refine ⟨rfl, v1, _, (fun V => V = w1), rfl, rfl, (fun V h => by rw [h]; exact hx1.cell (j := 0) rfl), (.inr (fun _ h => h)), ?_⟩
                    simp only [Act.put, List.setIfInBounds_toArray, List.set_cons_succ, List.set_cons_zero]
                    clear hv1 hg1 hat1
                    refine Pt.WalkT.make (by rfl) ?_
                    intro V hV
                    rw [hV]
                    clear hV V
                    refine wpList_append_sl _ rfl (.tmp 56) (.tmp 61) _ rfl wr.heap.size 46 i0 _ 12 88 Tryz.underlying26 hi0 hz0 hz1 hz2 rfl (by omega) v1 j ((rowCs es).take (j * 12)) rfl hv1' WE.heap.size (WE.heap.size + 1) (.slice (some ⟨WE.heap.size, 0, none⟩) 1 1) 1 [.int .i64 od, .slice Al l.length cl, .slice none 0 0, .slice none 0 0, .bool false, .bool false, .bool false, .bool false, .bool false, .bool false, .bool false, .bool false] rfl hl1 HCONE.out (by unfold maxLen; omega) (by omega) hb1.size ?_
                    intro v2 w2 hv2 hg2 hat2
                    have hb2 := hb1.grown hg2 hb1.size (fun g hg => (hv1'.lt g hg).1)
                    have hx2 := hx1.kept hg2 (fun e => by have := (hv1'.lt xb e.symm).1; omega)
                    clear hg2 hat2
                    refine ⟨rfl, v2, _, (fun V => V = w2), rfl, rfl, (fun V h => by rw [h]; exact hx2.cell (j := 0) rfl), (.inr (fun _ h => h)), ?_⟩
                    simp only [Act.put, List.setIfInBounds_toArray, List.set_cons_succ, List.set_cons_zero]
                    refine Pt.WalkT.make (by rfl) ?_
                    intro V hV
                    rw [hV]
                    clear hV V
                    refine wpList_append_sl _ rfl (.tmp 62) (.tmp 68) _ rfl wr.heap.size 46 i0 _ 12 88 Tryz.underlying26 hi0 hz0 hz1 hz2 rfl (by omega) v2 (j + 1) ((rowCs es).take (j * 12) ++ [.int .i64 od, .slice Al l.length cl, .slice none 0 0, .slice none 0 0, .bool false, .bool false, .bool false, .bool false, .bool false, .bool false, .bool false, .bool false]) rfl hv2 base wr.heap.size _ (es.length - j) ((rowCs es).drop (j * 12)) rfl (S93.out _ hb2) HONE93.out (by unfold maxLen; omega) (by omega) hb2.size ?_
                    intro v3 w3 hv3 hg3 hat3
                    have hb3 := hb2.grown hg3 hb2.size (fun g hg => (hv2.lt g hg).1)
                    have hx3 := hx2.kept hg3 (fun e => by have := (hv2.lt xb e.symm).1; omega)
                    clear hg3 hat3 hv2 hx2
                    rw [show (rowCs es).take (j * 12) ++ [.int .i64 od, .slice Al l.length cl, .slice none 0 0, .slice none 0 0, .bool false, .bool false, .bool false, .bool false, .bool false, .bool false, .bool false, .bool false] ++ (rowCs es).drop (j * 12) = rowCs (es.take j ++ [(⟨⟨od, l, [], [], [], fb⟩, .slice Al l.length cl, .slice none 0 0, .slice none 0 0⟩ : DR)] ++ es.drop j) from (rowCs_ins es j (⟨⟨od, l, [], [], [], fb⟩, .slice Al l.length cl, .slice none 0 0, .slice none 0 0⟩ : DR)).symm, HN.out] at hv3
                    obtain ⟨A5, c5, rfl, -⟩ := (Sl.of_own hv3).at_
                    have HV3 := Lib.hid hv3
                    clear hv3
                    refine ⟨rfl, _, _, (fun V => V = w3), rfl, rfl, (fun V h => by rw [h]; exact hx3.cell (j := 0) rfl), (.inr (fun _ h => h)), ?_⟩
                    simp only [Act.put, List.setIfInBounds_toArray, List.set_cons_succ, List.set_cons_zero]
                    refine Pt.WalkT.make (by rfl) ?_
                    intro V hV
                    rw [hV]
                    clear hV V
                    have g3 := hx3.cell (j := 0) (v := .slice (some ⟨g, 0, none⟩) es.length c) rfl
                    have f3 := hx3.frozen 0
                    go_wp2_with fail
                    have hx4 := hx3.set 0 (.slice A5 n5 c5)
                    have hg4 := grownBy_set w3 xb 0 (.slice A5 n5 c5)
                    refine ⟨rfl, undef, (fun _ => True), (fun V => V = w3.setCell ⟨xb, 0, none⟩ (.slice A5 n5 c5)), rfl, rfl, (fun _ _ => trivial), (.inl (by kernel_rfl)), Pt.WalkT.nil ?_⟩
                    intro V hV
                    rw [hV]
                    clear hV V
                    simp only [Act.put]
                    have hrow := ownsRow_far HV3.out hg4 hxl
                    have hbw := HB1.out.trans (hb3.mono HB1.out.size)
                    have hgw := (only_of_below hbw (some xb)).trans hg4
                    have hk : Kept (fun i => i < w.heap.size ∧ i ≠ xb) w (w3.setCell ⟨xb, 0, none⟩ (.slice A5 n5 c5)) := Kept.of_grown hgw fun i hi => ⟨hi.1, fun e => hi.2 (Option.some.inj e)⟩
                    have hF2 : ∀ i, i < w.heap.size → (i ≠ xb ∧ ¬ Y i) → (i < w.heap.size ∧ i ≠ xb) ∧ (i ≠ xb ∧ ¬ Y i) := fun i hi hh => ⟨⟨hi, hh.1⟩, hh⟩
                    have hnest : ∀ p ∈ (es.take j ++ [(⟨⟨od, l, [], [], [], fb⟩, .slice Al l.length cl, .slice none 0 0, .slice none 0 0⟩ : DR)] ++ es.drop j), LiAt (w3.setCell ⟨xb, 0, none⟩ (.slice A5 n5 c5)) (fun i => i ≠ xb ∧ ¬ Y i) p.v1 p.d.wa ∧ LiAt (w3.setCell ⟨xb, 0, none⟩ (.slice A5 n5 c5)) (fun i => i ≠ xb ∧ ¬ Y i) p.v2 p.d.sh ∧ LiAt (w3.setCell ⟨xb, 0, none⟩ (.slice A5 n5 c5)) (fun i => i ≠ xb ∧ ¬ Y i) p.v3 p.d.ba := by
                      intro p hp
                      have hold : ∀ p ∈ es, LiAt (w3.setCell ⟨xb, 0, none⟩ (.slice A5 n5 c5)) (fun i => i ≠ xb ∧ ¬ Y i) p.v1 p.d.wa ∧ LiAt (w3.setCell ⟨xb, 0, none⟩ (.slice A5 n5 c5)) (fun i => i ≠ xb ∧ ¬ Y i) p.v2 p.d.sh ∧ LiAt (w3.setCell ⟨xb, 0, none⟩ (.slice A5 n5 c5)) (fun i => i ≠ xb ∧ ¬ Y i) p.v3 p.d.ba := fun q hq => ⟨(H.out.nest q hq).1.keep hk hF2, (H.out.nest q hq).2.1.keep hk hF2, (H.out.nest q hq).2.2.keep hk hF2⟩
                      rcases List.mem_append.1 hp with hp | hp
                      · rcases List.mem_append.1 hp with hp | hp
                        · exact hold p (List.mem_of_mem_take hp)
                        · rw [List.mem_singleton] at hp
                          rw [hp]
                          exact ⟨HI.out.keep hk hF2, LiAt.nil _ _, LiAt.nil _ _⟩
                      · exact hold p (List.mem_of_mem_drop hp)
                    have hyl : ∀ i, Y i → i < (w3.setCell ⟨xb, 0, none⟩ (.slice A5 n5 c5)).heap.size := fun i hi => Nat.lt_of_lt_of_le (H.out.yl i hi) hgw.size
                    have hyg : ∀ g, (Value.slice A5 n5 c5).ownBlock = some g → ¬ Y g := fun g hg hy => by have h1 := (HV3.out.lt g hg).1; have h2 := H.out.yl g hy; have h3 := HB1.out.size; omega
                    clear g3 f3 hk hF2
                    go_wp2
                    go_ret
                    have hfin := HFIN.out j hj HLT.out HGE.out
                    have hdoc : DocP (w3.setCell ⟨xb, 0, none⟩ (.slice A5 n5 c5)) xb base Y (es.take j ++ [(⟨⟨od, l, [], [], [], fb⟩, .slice Al l.length cl, .slice none 0 0, .slice none 0 0⟩ : DR)] ++ es.drop j) := ⟨⟨_, hx4, by rw [hn5]; exact ownsRow_wide hrow hB1, hyg⟩, hnest, H.out.nx, hyl⟩
                    first
                      | exact ⟨_, rfl, hfin, hdoc, hgw⟩
                      | exact ⟨rfl, _, hfin, hdoc, hgw⟩
                · intro V hV
                  rw [hV]
                  clear hV V
                  go_wp2_with fail
                  have hlL : Sl (W0.alloc (.cells #[.int .i64 od, .slice Al l.length cl, .slice none 0 0, .slice none 0 0, .bool false, .bool false, .bool false, .bool false, .bool false, .bool false, .bool false, .bool false] 46)) W0.heap.size (W0.heap.size + 1) 12 (.slice (some ⟨W0.heap.size, 0, none⟩) 1 1) 1 [.int .i64 od, .slice Al l.length cl, .slice none 0 0, .slice none 0 0, .bool false, .bool false, .bool false, .bool false, .bool false, .bool false, .bool false, .bool false] := Sl.new W0 #[.int .i64 od, .slice Al l.length cl, .slice none 0 0, .slice none 0 0, .bool false, .bool false, .bool false, .bool false, .bool false, .bool false, .bool false, .bool false] 46 (n := 1) rfl (by unfold maxLen; omega)
                  have hbL := hdr.alloc hdr.size (.cells #[.int .i64 od, .slice Al l.length cl, .slice none 0 0, .slice none 0 0, .bool false, .bool false, .bool false, .bool false, .bool false, .bool false, .bool false, .bool false] 46)
                  have hxL := hx0.alloc (.cells #[.int .i64 od, .slice Al l.length cl, .slice none 0 0, .slice none 0 0, .bool false, .bool false, .bool false, .bool false, .bool false, .bool false, .bool false, .bool false] 46)
                  have HSZL := Lib.hid (show (W0.alloc (.cells #[.int .i64 od, .slice Al l.length cl, .slice none 0 0, .slice none 0 0, .bool false, .bool false, .bool false, .bool false, .bool false, .bool false, .bool false, .bool false] 46)).heap.size = W0.heap.size + 1 by simp)
                  refine ⟨rfl, .slice (some ⟨W0.heap.size, 0, none⟩) 1 1, _, (fun V => V = W0.alloc (.cells #[.int .i64 od, .slice Al l.length cl, .slice none 0 0, .slice none 0 0, .bool false, .bool false, .bool false, .bool false, .bool false, .bool false, .bool false, .bool false] 46)), ?_, rfl, (fun V h => by rw [h]; exact hxL.cell (j := 0) rfl), (.inr (fun _ h => h)), ?_⟩
                  · simp only [Act.put, List.setIfInBounds_toArray, List.set_cons_succ, List.set_cons_zero]
                  simp only [Act.put, List.setIfInBounds_toArray, List.set_cons_succ, List.set_cons_zero]
                  generalize W0.alloc (.cells #[.int .i64 od, .slice Al l.length cl, .slice none 0 0, .slice none 0 0, .bool false, .bool false, .bool false, .bool false, .bool false, .bool false, .bool false, .bool false] 46) = WL at *
                  refine Pt.WalkT.make (by rfl) ?_
                  intro V hV
                  rw [hV]
                  clear hV V
                  go_wp2_with fail
                  have hownE := World.ownsRow_lit (e := 46) (size := 12) (base := wr.heap.size) WL #[] 0 hbL.size (Nat.zero_le _) rfl
                  have hbE := hbL.alloc hbL.size (.cells #[] 46)
                  have hxE := hxL.alloc (.cells #[] 46)
                  have HSZE := Lib.hid (show (WL.alloc (.cells #[] 46)).heap.size = WL.heap.size + 1 by simp)
                  have hlE := Sl.below hlL ((Below.refl _ WL).alloc (by have := HSZL.out; omega) (.cells #[] 46))
                  refine ⟨rfl, .slice (some ⟨WL.heap.size, 0, none⟩) 0 0, _, (fun V => V = WL.alloc (.cells #[] 46)), ?_, rfl, (fun V h => by rw [h]; exact hxE.cell (j := 0) rfl), (.inr (fun _ h => h)), ?_⟩
                  · simp only [Act.put, List.setIfInBounds_toArray, List.set_cons_succ, List.set_cons_zero]
                  simp only [Act.put, List.setIfInBounds_toArray, List.set_cons_succ, List.set_cons_zero]
                  generalize WL.alloc (.cells #[] 46) = WE at *
                  refine Pt.WalkT.make (by rfl) ?_
                  intro V hV
                  rw [hV]
                  clear hV V
                  refine wpList_append_sl _ rfl (.tmp 49) (.tmp 55) _ rfl wr.heap.size 46 i0 _ 12 88 Tryz.underlying26 hi0 hz0 hz1 hz2 rfl (by omega) (.slice (some ⟨WL.heap.size, 0, none⟩) 0 0) 0 [] rfl hownE base wr.heap.size _ j ((rowCs es).take (j * 12)) rfl (S79.out _ hbE) HONE79.out (by unfold maxLen; omega) (by omega) hbE.size ?_
                  intro v1 w1 hv1 hg1 hat1
                  have hv1' : w1.ownsRow wr.heap.size 46 12 v1 j ((rowCs es).take (j * 12)) := by simpa using hv1
                  have hb1 := hbE.grown hg1 hbE.size (fun g hg => (hownE.lt g hg).1)
                  have hx1 := hxE.kept hg1 (fun e => by have := (hownE.lt xb e.symm).1; omega)
                  have hl1 := Sl.grown hlE hg1 (by have := HSZE.out; have := HSZL.out; omega) (fun k e => by have e2 : WL.heap.size = k := Option.some.inj e; have := HSZL.out; right; omega)
                  refine ⟨rfl, v1, _, (fun V => V = w1), rfl, rfl, (fun V h => by rw [h]; exact hx1.cell (j := 0) rfl), (.inr (fun _ h => h)), ?_⟩
                  simp only [Act.put, List.setIfInBounds_toArray, List.set_cons_succ, List.set_cons_zero]
                  clear hv1 hg1 hat1
                  refine Pt.WalkT.make (by rfl) ?_
                  intro V hV
                  rw [hV]
                  clear hV V
                  refine wpList_append_sl _ rfl (.tmp 56) (.tmp 61) _ rfl wr.heap.size 46 i0 _ 12 88 Tryz.underlying26 hi0 hz0 hz1 hz2 rfl (by omega) v1 j ((rowCs es).take (j * 12)) rfl hv1' W0.heap.size (W0.heap.size + 1) (.slice (some ⟨W0.heap.size, 0, none⟩) 1 1) 1 [.int .i64 od, .slice Al l.length cl, .slice none 0 0, .slice none 0 0, .bool false, .bool false, .bool false, .bool false, .bool false, .bool false, .bool false, .bool false] rfl hl1 HCONE.out (by unfold maxLen; omega) (by omega) hb1.size ?_
                  intro v2 w2 hv2 hg2 hat2
                  have hb2 := hb1.grown hg2 hb1.size (fun g hg => (hv1'.lt g hg).1)
                  have hx2 := hx1.kept hg2 (fun e => by have := (hv1'.lt xb e.symm).1; omega)
                  clear hg2 hat2
                  refine ⟨rfl, v2, _, (fun V => V = w2), rfl, rfl, (fun V h => by rw [h]; exact hx2.cell (j := 0) rfl), (.inr (fun _ h => h)), ?_⟩
                  simp only [Act.put, List.setIfInBounds_toArray, List.set_cons_succ, List.set_cons_zero]
                  refine Pt.WalkT.make (by rfl) ?_
                  intro V hV
                  rw [hV]
                  clear hV V
                  refine wpList_append_sl _ rfl (.tmp 62) (.tmp 68) _ rfl wr.heap.size 46 i0 _ 12 88 Tryz.underlying26 hi0 hz0 hz1 hz2 rfl (by omega) v2 (j + 1) ((rowCs es).take (j * 12) ++ [.int .i64 od, .slice Al l.length cl, .slice none 0 0, .slice none 0 0, .bool false, .bool false, .bool false, .bool false, .bool false, .bool false, .bool false, .bool false]) rfl hv2 base wr.heap.size _ (es.length - j) ((rowCs es).drop (j * 12)) rfl (S93.out _ hb2) HONE93.out (by unfold maxLen; omega) (by omega) hb2.size ?_
                  intro v3 w3 hv3 hg3 hat3
                  have hb3 := hb2.grown hg3 hb2.size (fun g hg => (hv2.lt g hg).1)
                  have hx3 := hx2.kept hg3 (fun e => by have := (hv2.lt xb e.symm).1; omega)
                  clear hg3 hat3 hv2 hx2
                  rw [show (rowCs es).take (j * 12) ++ [.int .i64 od, .slice Al l.length cl, .slice none 0 0, .slice none 0 0, .bool false, .bool false, .bool false, .bool false, .bool false, .bool false, .bool false, .bool false] ++ (rowCs es).drop (j * 12) = rowCs (es.take j ++ [(⟨⟨od, l, [], [], [], fb⟩, .slice Al l.length cl, .slice none 0 0, .slice none 0 0⟩ : DR)] ++ es.drop j) from (rowCs_ins es j (⟨⟨od, l, [], [], [], fb⟩, .slice Al l.length cl, .slice none 0 0, .slice none 0 0⟩ : DR)).symm, HN.out] at hv3
                  obtain ⟨A5, c5, rfl, -⟩ := (Sl.of_own hv3).at_
                  have HV3 := Lib.hid hv3
                  clear hv3
                  refine ⟨rfl, _, _, (fun V => V = w3), rfl, rfl, (fun V h => by rw [h]; exact hx3.cell (j := 0) rfl), (.inr (fun _ h => h)), ?_⟩
                  simp only [Act.put, List.setIfInBounds_toArray, List.set_cons_succ, List.set_cons_zero]
                  refine Pt.WalkT.make (by rfl) ?_
                  intro V hV
                  rw [hV]
                  clear hV V
                  have g3 := hx3.cell (j := 0) (v := .slice (some ⟨g, 0, none⟩) es.length c) rfl
                  have f3 := hx3.frozen 0
                  go_wp2_with fail
                  have hx4 := hx3.set 0 (.slice A5 n5 c5)
                  have hg4 := grownBy_set w3 xb 0 (.slice A5 n5 c5)
                  refine ⟨rfl, undef, (fun _ => True), (fun V => V = w3.setCell ⟨xb, 0, none⟩ (.slice A5 n5 c5)), rfl, rfl, (fun _ _ => trivial), (.inl (by kernel_rfl)), Pt.WalkT.nil ?_⟩
                  intro V hV
                  rw [hV]
                  clear hV V
                  simp only [Act.put]
                  have hrow := ownsRow_far HV3.out hg4 hxl
                  have hbw := HB1.out.trans (hb3.mono HB1.out.size)
                  have hgw := (only_of_below hbw (some xb)).trans hg4
                  have hk : Kept (fun i => i < w.heap.size ∧ i ≠ xb) w (w3.setCell ⟨xb, 0, none⟩ (.slice A5 n5 c5)) := Kept.of_grown hgw fun i hi => ⟨hi.1, fun e => hi.2 (Option.some.inj e)⟩
                  have hF2 : ∀ i, i < w.heap.size → (i ≠ xb ∧ ¬ Y i) → (i < w.heap.size ∧ i ≠ xb) ∧ (i ≠ xb ∧ ¬ Y i) := fun i hi hh => ⟨⟨hi, hh.1⟩, hh⟩
                  have hnest : ∀ p ∈ (es.take j ++ [(⟨⟨od, l, [], [], [], fb⟩, .slice Al l.length cl, .slice none 0 0, .slice none 0 0⟩ : DR)] ++ es.drop j), LiAt (w3.setCell ⟨xb, 0, none⟩ (.slice A5 n5 c5)) (fun i => i ≠ xb ∧ ¬ Y i) p.v1 p.d.wa ∧ LiAt (w3.setCell ⟨xb, 0, none⟩ (.slice A5 n5 c5)) (fun i => i ≠ xb ∧ ¬ Y i) p.v2 p.d.sh ∧ LiAt (w3.setCell ⟨xb, 0, none⟩ (.slice A5 n5 c5)) (fun i => i ≠ xb ∧ ¬ Y i) p.v3 p.d.ba := by
                    intro p hp
                    have hold : ∀ p ∈ es, LiAt (w3.setCell ⟨xb, 0, none⟩ (.slice A5 n5 c5)) (fun i => i ≠ xb ∧ ¬ Y i) p.v1 p.d.wa ∧ LiAt (w3.setCell ⟨xb, 0, none⟩ (.slice A5 n5 c5)) (fun i => i ≠ xb ∧ ¬ Y i) p.v2 p.d.sh ∧ LiAt (w3.setCell ⟨xb, 0, none⟩ (.slice A5 n5 c5)) (fun i => i ≠ xb ∧ ¬ Y i) p.v3 p.d.ba := fun q hq => ⟨(H.out.nest q hq).1.keep hk hF2, (H.out.nest q hq).2.1.keep hk hF2, (H.out.nest q hq).2.2.keep hk hF2⟩
                    rcases List.mem_append.1 hp with hp | hp
                    · rcases List.mem_append.1 hp with hp | hp
                      · exact hold p (List.mem_of_mem_take hp)
                      · rw [List.mem_singleton] at hp
                        rw [hp]
                        exact ⟨HI.out.keep hk hF2, LiAt.nil _ _, LiAt.nil _ _⟩
                    · exact hold p (List.mem_of_mem_drop hp)
                  have hyl : ∀ i, Y i → i < (w3.setCell ⟨xb, 0, none⟩ (.slice A5 n5 c5)).heap.size := fun i hi => Nat.lt_of_lt_of_le (H.out.yl i hi) hgw.size
                  have hyg : ∀ g, (Value.slice A5 n5 c5).ownBlock = some g → ¬ Y g := fun g hg hy => by have h1 := (HV3.out.lt g hg).1; have h2 := H.out.yl g hy; have h3 := HB1.out.size; omega
                  clear g3 f3 hk hF2
                  go_wp2
                  go_ret
                  have hfin := HFIN.out j hj HLT.out HGE.out
                  have hdoc : DocP (w3.setCell ⟨xb, 0, none⟩ (.slice A5 n5 c5)) xb base Y (es.take j ++ [(⟨⟨od, l, [], [], [], fb⟩, .slice Al l.length cl, .slice none 0 0, .slice none 0 0⟩ : DR)] ++ es.drop j) := ⟨⟨_, hx4, by rw [hn5]; exact ownsRow_wide hrow hB1, hyg⟩, hnest, H.out.nx, hyl⟩
                  first
                    | exact ⟨_, rfl, hfin, hdoc, hgw⟩
                    | exact ⟨rfl, _, hfin, hdoc, hgw⟩
              · obtain ⟨b, o, e0, -, -, hcs0⟩ := docP_cell (Sl.of_own HV.out) hjl
                cases e0
                have c0 := hcs0 0 _ rfl
                simp only [Nat.add_zero, Nat.zero_add] at c0
                clear hcs0
                have hlt2 : es[j].d.od < od := by simpa using hq
                generalize hm : es[j].d.od = m at *
                have HM := Lib.hid hm
                clear hm hlt2
                go_wp2
                refine ⟨⟨j + 1, by omega, by go_num, trivial, fun i h hi => ?_⟩, by simp [intOf]; omega⟩
                by_cases e : i = j
                · subst e; rw [HM.out]; simpa using hq
                · exact HLT.out i h (by omega)
              · obtain ⟨b, o, e0, -, -, hcs0⟩ := docP_cell (Sl.of_own HV.out) hjl
                cases e0
                have c0 := hcs0 0 _ rfl
                simp only [Nat.add_zero, Nat.zero_add] at c0
                clear hcs0
                have HGE := Lib.hid (show ∀ h : j < es.length, od < es[j].d.od from fun h => by have h3 := HNF.out j h; have hq2 : ¬ es[j].d.od < od := (by simpa using hq); omega)
                generalize hm : es[j].d.od = m at c0 hq
                clear hm
                go_wp2_with fail
                obtain ⟨n5, hn5⟩ : ∃ n5, (es.take j ++ [(⟨⟨od, l, [], [], [], fb⟩, .slice Al l.length cl, .slice none 0 0, .slice none 0 0⟩ : DR)] ++ es.drop j).length = n5 := ⟨_, rfl⟩
                obtain ⟨A3, hA3⟩ : ∃ A3, (if c = j then some (⟨g, 0, none⟩ : Addr) else some ⟨g, 0 + j * 12, none⟩) = A3 := ⟨_, rfl⟩
                have S79 := Lib.hid (fun W (hb : Below wr.heap.size wr W) => Sl.upTo (Sl.below (Sl.of_own HV.out) hb) hj)
                have S93 := Lib.hid (fun W (hb : Below wr.heap.size wr W) => (by have := Sl.onFrom (Sl.below (Sl.of_own HV.out) hb) hj; rw [hA3] at this; exact this : Sl W base wr.heap.size 12 (.slice A3 (es.length - j) (c - j)) (es.length - j) ((rowCs es).drop (j * 12))))
                have HONE79 := Lib.hid (show ∀ y ∈ (rowCs es).take (j * 12), y.oneCell' = true from fun y hy => hone.out y (List.mem_of_mem_take hy))
                have HONE93 := Lib.hid (show ∀ y ∈ (rowCs es).drop (j * 12), y.oneCell' = true from fun y hy => hone.out y (List.mem_of_mem_drop hy))
                have HN := Lib.hid (show j + 1 + (es.length - j) = n5 by rw [← hn5]; simp; omega)
                have hcj := hcap.1
                have hcm := hcap.2
                unfold maxLen at hcm
                have l1 : (0 : Int) ≤ (j : Int) := by omega
                have l2 : (j : Int) ≤ (c : Int) := by omega
                have l3 : (j : Int) ≤ (es.length : Int) := by omega
                have HCONE := Lib.hid (show ∀ y ∈ ([.int .i64 od, .slice Al l.length cl, .slice none 0 0, .slice none 0 0, .bool false, .bool false, .bool false, .bool false, .bool false, .bool false, .bool false, .bool false] : List Value), y.oneCell' = true from fun y hy => by simp only [List.mem_cons, List.not_mem_nil, or_false] at hy; rcases hy with rfl | rfl | rfl | rfl | rfl | rfl | rfl | rfl | rfl | rfl | rfl | rfl <;> rfl)
                clear g0 hd hv hq c0 hjl
                have hdr := (Below.refl wr.heap.size wr).drew
                have hx0 : Ob wr.drew xb 28 #[.slice (some ⟨g, 0, none⟩) es.length c] := hx
                have g0d : wr.drew.cell? ⟨xb, 0, none⟩ = some (.slice (some ⟨g, 0, none⟩) es.length c) := hx0.cell (j := 0) rfl
                have hxl := hx.lt
                refine Pt.regionT (.look 0 (.look 2 (.look 3 (.look 4 (.look 5 (.look 6 (.look 7 (.look 9 (.look 10 (.look 11 (.look 12 (.look 15 (.look 16 (.look 17 (.look 18 (.look 19 (.look 20 (.look 22 (.look 23 (.fork 1 (.fork 8 (.make 13 (.make 14 (.make 21 (.make 24 .nil)))) 13 (.make 8 (.make 14 (.make 21 (.make 24 .nil))))) 13 (.make 1 (.make 8 (.make 14 (.make 21 (.make 24 .nil))))))))))))))))))))))))) (fun V => V.cell? ⟨xb, 0, none⟩ = some (.slice (some ⟨g, 0, none⟩) es.length c)) hmx (by kernel_rfl) (by kernel_rfl) (by kernel_rfl) g0d rfl ?_
                simp only [Pt.named, List.getElem?_toArray, List.getElem?_cons_succ, List.getElem?_cons_zero, Option.map_some]
                iterate 06 (apply Pt.WalkT.on (by rfl)
                            · rintro V gV
                              go_wp2_with fail
                              refine ⟨rfl, ?_, rfl⟩
                              try simp only [Act.put, List.setIfInBounds_toArray, List.set_cons_succ, List.set_cons_zero]
                              rfl
                            simp only [Act.put, List.setIfInBounds_toArray, List.set_cons_succ, List.set_cons_zero])
                apply Pt.WalkT.on (v := .slice (some ⟨g, 0, none⟩) j c) (by rfl)
                · rintro V gV
                  go_wp2_with fail
                  refine ⟨rfl, ?_, rfl⟩
                  simp only [Act.put, List.setIfInBounds_toArray, List.set_cons_succ, List.set_cons_zero]
                simp only [Act.put, List.setIfInBounds_toArray, List.set_cons_succ, List.set_cons_zero]
                iterate 09 (apply Pt.WalkT.on (by rfl)
                            · rintro V gV
                              go_wp2_with fail
                              refine ⟨rfl, ?_, rfl⟩
                              try simp only [Act.put, List.setIfInBounds_toArray, List.set_cons_succ, List.set_cons_zero]
                              rfl
                            simp only [Act.put, List.setIfInBounds_toArray, List.set_cons_succ, List.set_cons_zero])
                apply Pt.WalkT.on (v := .slice A3 (es.length - j) (c - j)) (by rfl)
                · rintro V gV
                  by_cases hce : c = j
                  · have hA4 : A3 = some ⟨g, 0, none⟩ := by rw [← hA3, if_pos hce]
                    rw [hA4]
                    clear hA3 hA4
                    go_wp2_with fail
                    refine ⟨rfl, ?_, rfl⟩
                    simp only [Act.put, List.setIfInBounds_toArray, List.set_cons_succ, List.set_cons_zero, Nat.sub_self]
                  · have hA4 : A3 = some ⟨g, j * 12, none⟩ := by rw [← hA3, if_neg hce, Nat.zero_add]
                    rw [hA4]
                    clear hA3 hA4
                    go_wp2_with fail
                    refine ⟨rfl, ?_, rfl⟩
                    simp only [Act.put, List.setIfInBounds_toArray, List.set_cons_succ, List.set_cons_zero]
                simp only [Act.put, List.setIfInBounds_toArray, List.set_cons_succ, List.set_cons_zero]
                iterate 02 (apply Pt.WalkT.on (by rfl)
                            · rintro V gV
                              go_wp2_with fail
                              refine ⟨rfl, ?_, rfl⟩
                              try simp only [Act.put, List.setIfInBounds_toArray, List.set_cons_succ, List.set_cons_zero]
                              rfl
                            simp only [Act.put, List.setIfInBounds_toArray, List.set_cons_succ, List.set_cons_zero])
                clear g0d
                generalize wr.drew = W0 at *
                refine Pt.WalkT.fork (by rfl) (by rfl) ?_ ?_
                · intro V hV
                  rw [hV]
                  clear hV V
                  go_wp2_with fail
                  have hownE := World.ownsRow_lit (e := 46) (size := 12) (base := wr.heap.size) W0 #[] 0 hdr.size (Nat.zero_le _) rfl
                  have hbE := hdr.alloc hdr.size (.cells #[] 46)
                  have hxE := hx0.alloc (.cells #[] 46)
                  have HSZE := Lib.hid (show (W0.alloc (.cells #[] 46)).heap.size = W0.heap.size + 1 by simp)
                  refine ⟨rfl, .slice (some ⟨W0.heap.size, 0, none⟩) 0 0, _, (fun V => V = W0.alloc (.cells #[] 46)), ?_, rfl, (fun V h => by rw [h]; exact hxE.cell (j := 0) rfl), (.inr (fun _ h => h)), ?_⟩
                  · simp only [Act.put, List.setIfInBounds_toArray, List.set_cons_succ, List.set_cons_zero]
                  simp only [Act.put, List.setIfInBounds_toArray, List.set_cons_succ, List.set_cons_zero]
                  generalize W0.alloc (.cells #[] 46) = WE at *
                  refine Pt.WalkT.fork (by rfl) (by rfl) ?_ ?_
                  · intro V hV
                    rw [hV]
                    clear hV V
                    refine wpList_append_sl _ rfl (.tmp 49) (.tmp 55) _ rfl wr.heap.size 46 i0 _ 12 88 Tryz.underlying26 hi0 hz0 hz1 hz2 rfl (by omega) (.slice (some ⟨W0.heap.size, 0, none⟩) 0 0) 0 [] rfl hownE base wr.heap.size _ j ((rowCs es).take (j * 12)) rfl (S79.out _ hbE) HONE79.out (by unfold maxLen; omega) (by omega) hbE.size ?_
                    intro v1 w1 hv1 hg1 hat1
                    have hv1' : w1.ownsRow wr.heap.size 46 12 v1 j ((rowCs es).take (j * 12)) := by simpa using hv1
                    have hb1 := hbE.grown hg1 hbE.size (fun g hg => (hownE.lt g hg).1)
                    have hx1 := hxE.kept hg1 (fun e => by have := (hownE.lt xb e.symm).1; omega)
                    refine ⟨rfl, v1, _, (fun V => V = w1), rfl, rfl, (fun V h => by rw [h]; exact hx1.cell (j := 0) rfl), (.inr (fun _ h => h)), ?_⟩
                    simp only [Act.put, List.setIfInBounds_toArray, List.set_cons_succ, List.set_cons_zero]
                    clear hv1 hg1 hat1
                    refine Pt.WalkT.make (by rfl) ?_
                    intro V hV
                    rw [hV]
                    clear hV V
                    go_wp2_with fail
                    have hlL : Sl (w1.alloc (.cells #[.int .i64 od, .slice Al l.length cl, .slice none 0 0, .slice none 0 0, .bool false, .bool false, .bool false, .bool false, .bool false, .bool false, .bool false, .bool false] 46)) w1.heap.size (w1.heap.size + 1) 12 (.slice (some ⟨w1.heap.size, 0, none⟩) 1 1) 1 [.int .i64 od, .slice Al l.length cl, .slice none 0 0, .slice none 0 0, .bool false, .bool false, .bool false, .bool false, .bool false, .bool false, .bool false, .bool false] := Sl.new w1 #[.int .i64 od, .slice Al l.length cl, .slice none 0 0, .slice none 0 0, .bool false, .bool false, .bool false, .bool false, .bool false, .bool false, .bool false, .bool false] 46 (n := 1) rfl (by unfold maxLen; omega)
                    have hbL := hb1.alloc hb1.size (.cells #[.int .i64 od, .slice Al l.length cl, .slice none 0 0, .slice none 0 0, .bool false, .bool false, .bool false, .bool false, .bool false, .bool false, .bool false, .bool false] 46)
                    have hxL := hx1.alloc (.cells #[.int .i64 od, .slice Al l.length cl, .slice none 0 0, .slice none 0 0, .bool false, .bool false, .bool false, .bool false, .bool false, .bool false, .bool false, .bool false] 46)
                    have HSZL := Lib.hid (show (w1.alloc (.cells #[.int .i64 od, .slice Al l.length cl, .slice none 0 0, .slice none 0 0, .bool false, .bool false, .bool false, .bool false, .bool false, .bool false, .bool false, .bool false] 46)).heap.size = w1.heap.size + 1 by simp)
                    have hoL := hv1'.alloc (.cells #[.int .i64 od, .slice Al l.length cl, .slice none 0 0, .slice none 0 0, .bool false, .bool false, .bool false, .bool false, .bool false, .bool false, .bool false, .bool false] 46)
                    refine ⟨rfl, .slice (some ⟨w1.heap.size, 0, none⟩) 1 1, _, (fun V => V = w1.alloc (.cells #[.int .i64 od, .slice Al l.length cl, .slice none 0 0, .slice none 0 0, .bool false, .bool false, .bool false, .bool false, .bool false, .bool false, .bool false, .bool false] 46)), ?_, rfl, (fun V h => by rw [h]; exact hxL.cell (j := 0) rfl), (.inr (fun _ h => h)), ?_⟩
                    · simp only [Act.put, List.setIfInBounds_toArray, List.set_cons_succ, List.set_cons_zero]
                    simp only [Act.put, List.setIfInBounds_toArray, List.set_cons_succ, List.set_cons_zero]
                    generalize w1.alloc (.cells #[.int .i64 od, .slice Al l.length cl, .slice none 0 0, .slice none 0 0, .bool false, .bool false, .bool false, .bool false, .bool false, .bool false, .bool false, .bool false] 46) = WL at *
                    refine Pt.WalkT.make (by rfl) ?_
                    intro V hV
                    rw [hV]
                    clear hV V
                    refine wpList_append_sl _ rfl (.tmp 56) (.tmp 61) _ rfl wr.heap.size 46 i0 _ 12 88 Tryz.underlying26 hi0 hz0 hz1 hz2 rfl (by omega) v1 j ((rowCs es).take (j * 12)) rfl hoL w1.heap.size (w1.heap.size + 1) (.slice (some ⟨w1.heap.size, 0, none⟩) 1 1) 1 [.int .i64 od, .slice Al l.length cl, .slice none 0 0, .slice none 0 0, .bool false, .bool false, .bool false, .bool false, .bool false, .bool false, .bool false, .bool false] rfl hlL HCONE.out (by unfold maxLen; omega) (by omega) hbL.size ?_
                    intro v2 w2 hv2 hg2 hat2
                    have hb2 := hbL.grown hg2 hbL.size (fun g hg => (hoL.lt g hg).1)
                    have hx2 := hxL.kept hg2 (fun e => by have := (hoL.lt xb e.symm).1; omega)
                    clear hg2 hat2
                    refine ⟨rfl, v2, _, (fun V => V = w2), rfl, rfl, (fun V h => by rw [h]; exact hx2.cell (j := 0) rfl), (.inr (fun _ h => h)), ?_⟩
                    simp only [Act.put, List.setIfInBounds_toArray, List.set_cons_succ, List.set_cons_zero]
                    refine Pt.WalkT.make (by rfl) ?_
                    intro V hV
                    rw [hV]
                    clear hV V
                    refine wpList_append_sl _ rfl (.tmp 62) (.tmp 68) _ rfl wr.heap.size 46 i0 _ 12 88 Tryz.underlying26 hi0 hz0 hz1 hz2 rfl (by omega) v2 (j + 1) ((rowCs es).take (j * 12) ++ [.int .i64 od, .slice Al l.length cl, .slice none 0 0, .slice none 0 0, .bool false, .bool false, .bool false, .bool false, .bool false, .bool false, .bool false, .bool false]) rfl hv2 base wr.heap.size _ (es.length - j) ((rowCs es).drop (j * 12)) rfl (S93.out _ hb2) HONE93.out (by unfold maxLen; omega) (by omega) hb2.size ?_
                    intro v3 w3 hv3 hg3 hat3
                    have hb3 := hb2.grown hg3 hb2.size (fun g hg => (hv2.lt g hg).1)
                    have hx3 := hx2.kept hg3 (fun e => by have := (hv2.lt xb e.symm).1; omega)
                    clear hg3 hat3 hv2 hx2
                    rw [show (rowCs es).take (j * 12) ++ [.int .i64 od, .slice Al l.length cl, .slice none 0 0, .slice none 0 0, .bool false, .bool false, .bool false, .bool false, .bool false, .bool false, .bool false, .bool false] ++ (rowCs es).drop (j * 12) = rowCs (es.take j ++ [(⟨⟨od, l, [], [], [], fb⟩, .slice Al l.length cl, .slice none 0 0, .slice none 0 0⟩ : DR)] ++ es.drop j) from (rowCs_ins es j (⟨⟨od, l, [], [], [], fb⟩, .slice Al l.length cl, .slice none 0 0, .slice none 0 0⟩ : DR)).symm, HN.out] at hv3
                    obtain ⟨A5, c5, rfl, -⟩ := (Sl.of_own hv3).at_
                    have HV3 := Lib.hid hv3
                    clear hv3
                    refine ⟨rfl, _, _, (fun V => V = w3), rfl, rfl, (fun V h => by rw [h]; exact hx3.cell (j := 0) rfl), (.inr (fun _ h => h)), ?_⟩
                    simp only [Act.put, List.setIfInBounds_toArray, List.set_cons_succ, List.set_cons_zero]
                    refine Pt.WalkT.make (by rfl) ?_
                    intro V hV
                    rw [hV]
                    clear hV V
                    have g3 := hx3.cell (j := 0) (v := .slice (some ⟨g, 0, none⟩) es.length c) rfl
                    have f3 := hx3.frozen 0
                    go_wp2_with fail
                    have hx4 := hx3.set 0 (.slice A5 n5 c5)
                    have hg4 := grownBy_set w3 xb 0 (.slice A5 n5 c5)
                    refine ⟨rfl, undef, (fun _ => True), (fun V => V = w3.setCell ⟨xb, 0, none⟩ (.slice A5 n5 c5)), rfl, rfl, (fun _ _ => trivial), (.inl (by kernel_rfl)), Pt.WalkT.nil ?_⟩
                    intro V hV
                    rw [hV]
                    clear hV V
                    simp only [Act.put]
                    have hrow := ownsRow_far HV3.out hg4 hxl
                    have hbw := HB1.out.trans (hb3.mono HB1.out.size)
                    have hgw := (only_of_below hbw (some xb)).trans hg4
                    have hk : Kept (fun i => i < w.heap.size ∧ i ≠ xb) w (w3.setCell ⟨xb, 0, none⟩ (.slice A5 n5 c5)) := Kept.of_grown hgw fun i hi => ⟨hi.1, fun e => hi.2 (Option.some.inj e)⟩
                    have hF2 : ∀ i, i < w.heap.size → (i ≠ xb ∧ ¬ Y i) → (i < w.heap.size ∧ i ≠ xb) ∧ (i ≠ xb ∧ ¬ Y i) := fun i hi hh => ⟨⟨hi, hh.1⟩, hh⟩
                    have hnest : ∀ p ∈ (es.take j ++ [(⟨⟨od, l, [], [], [], fb⟩, .slice Al l.length cl, .slice none 0 0, .slice none 0 0⟩ : DR)] ++ es.drop j), LiAt (w3.setCell ⟨xb, 0, none⟩ (.slice A5 n5 c5)) (fun i => i ≠ xb ∧ ¬ Y i) p.v1 p.d.wa ∧ LiAt (w3.setCell ⟨xb, 0, none⟩ (.slice A5 n5 c5)) (fun i => i ≠ xb ∧ ¬ Y i) p.v2 p.d.sh ∧ LiAt (w3.setCell ⟨xb, 0, none⟩ (.slice A5 n5 c5)) (fun i => i ≠ xb ∧ ¬ Y i) p.v3 p.d.ba := by
                      intro p hp
                      have hold : ∀ p ∈ es, LiAt (w3.setCell ⟨xb, 0, none⟩ (.slice A5 n5 c5)) (fun i => i ≠ xb ∧ ¬ Y i) p.v1 p.d.wa ∧ LiAt (w3.setCell ⟨xb, 0, none⟩ (.slice A5 n5 c5)) (fun i => i ≠ xb ∧ ¬ Y i) p.v2 p.d.sh ∧ LiAt (w3.setCell ⟨xb, 0, none⟩ (.slice A5 n5 c5)) (fun i => i ≠ xb ∧ ¬ Y i) p.v3 p.d.ba := fun q hq => ⟨(H.out.nest q hq).1.keep hk hF2, (H.out.nest q hq).2.1.keep hk hF2, (H.out.nest q hq).2.2.keep hk hF2⟩
                      rcases List.mem_append.1 hp with hp | hp
                      · rcases List.mem_append.1 hp with hp | hp
                        · exact hold p (List.mem_of_mem_take hp)
                        · rw [List.mem_singleton] at hp
                          rw [hp]
                          exact ⟨HI.out.keep hk hF2, LiAt.nil _ _, LiAt.nil _ _⟩
                      · exact hold p (List.mem_of_mem_drop hp)
                    have hyl : ∀ i, Y i → i < (w3.setCell ⟨xb, 0, none⟩ (.slice A5 n5 c5)).heap.size := fun i hi => Nat.lt_of_lt_of_le (H.out.yl i hi) hgw.size
                    have hyg : ∀ g, (Value.slice A5 n5 c5).ownBlock = some g → ¬ Y g := fun g hg hy => by have h1 := (HV3.out.lt g hg).1; have h2 := H.out.yl g hy; have h3 := HB1.out.size; omega
                    clear g3 f3 hk hF2
                    go_wp2
                    go_ret
                    have hfin := HFIN.out j hj HLT.out HGE.out
                    have hdoc : DocP (w3.setCell ⟨xb, 0, none⟩ (.slice A5 n5 c5)) xb base Y (es.take j ++ [(⟨⟨od, l, [], [], [], fb⟩, .slice Al l.length cl, .slice none 0 0, .slice none 0 0⟩ : DR)] ++ es.drop j) := ⟨⟨_, hx4, by rw [hn5]; exact ownsRow_wide hrow hB1, hyg⟩, hnest, H.out.nx, hyl⟩
                    first
                      | exact ⟨_, rfl, hfin, hdoc, hgw⟩
                      | exact ⟨rfl, _, hfin, hdoc, hgw⟩
                  · intro V hV
                    rw [hV]
                    clear hV V
                    go_wp2_with fail
                    have hlL : Sl (WE.alloc (.cells #[.int .i64 od, .slice Al l.length cl, .slice none 0 0, .slice none 0 0, .bool false, .bool false, .bool false, .bool false, .bool false, .bool false, .bool false, .bool false] 46)) WE.heap.size (WE.heap.size + 1) 12 (.slice (some ⟨WE.heap.size, 0, none⟩) 1 1) 1 [.int .i64 od, .slice Al l.length cl, .slice none 0 0, .slice none 0 0, .bool false, .bool false, .bool false, .bool false, .bool false, .bool false, .bool false, .bool false] := Sl.new WE #[.int .i64 od, .slice Al l.length cl, .slice none 0 0, .slice none 0 0, .bool false, .bool false, .bool false, .bool false, .bool false, .bool false, .bool false, .bool false] 46 (n := 1) rfl (by unfold maxLen; omega)
                    have hbL := hbE.alloc hbE.size (.cells #[.int .i64 od, .slice Al l.length cl, .slice none 0 0, .slice none 0 0, .bool false, .bool false, .bool false, .bool false, .bool false, .bool false, .bool false, .bool false] 46)
                    have hxL := hxE.alloc (.cells #[.int .i64 od, .slice Al l.length cl, .slice none 0 0, .slice none 0 0, .bool false, .bool false, .bool false, .bool false, .bool false, .bool false, .bool false, .bool false] 46)
                    have HSZL := Lib.hid (show (WE.alloc (.cells #[.int .i64 od, .slice Al l.length cl, .slice none 0 0, .slice none 0 0, .bool false, .bool false, .bool false, .bool false, .bool false, .bool false, .bool false, .bool false] 46)).heap.size = WE.heap.size + 1 by simp)
                    have hoL := hownE.alloc (.cells #[.int .i64 od, .slice Al l.length cl, .slice none 0 0, .slice none 0 0, .bool false, .bool false, .bool false, .bool false, .bool false, .bool false, .bool false, .bool false] 46)
                    refine ⟨rfl, .slice (some ⟨WE.heap.size, 0, none⟩) 1 1, _, (fun V => V = WE.alloc (.cells #[.int .i64 od, .slice Al l.length cl, .slice none 0 0, .slice none 0 0, .bool false, .bool false, .bool false, .bool false, .bool false, .bool false, .bool false, .bool false] 46)), ?_, rfl, (fun V h => by rw [h]; exact hxL.cell (j := 0) rfl), (.inr (fun _ h => h)), ?_⟩
                    · simp only [Act.put, List.setIfInBounds_toArray, List.set_cons_succ, List.set_cons_zero]
                    simp only [Act.put, List.setIfInBounds_toArray, List.set_cons_succ, List.set_cons_zero]
                    generalize WE.alloc (.cells #[.int .i64 od, .slice Al l.length cl, .slice none 0 0, .slice none 0 0, .bool false, .bool false, .bool false, .bool false, .bool false, .bool false, .bool false, .bool false] 46) = WL at *
                    refine Pt.WalkT.make (by rfl) ?_
                    intro V hV
                    rw [hV]
                    clear hV V
                    refine wpList_append_sl _ rfl (.tmp 49) (.tmp 55) _ rfl wr.heap.size 46 i0 _ 12 88 Tryz.underlying26 hi0 hz0 hz1 hz2 rfl (by omega) (.slice (some ⟨W0.heap.size, 0, none⟩) 0 0) 0 [] rfl hoL base wr.heap.size _ j ((rowCs es).take (j * 12)) rfl (S79.out _ hbL) HONE79.out (by unfold maxLen; omega) (by omega) hbL.size ?_
                    intro v1 w1 hv1 hg1 hat1
                    have hv1' : w1.ownsRow wr.heap.size 46 12 v1 j ((rowCs es).take (j * 12)) := by simpa using hv1
                    have hb1 := hbL.grown hg1 hbL.size (fun g hg => (hoL.lt g hg).1)
                    have hx1 := hxL.kept hg1 (fun e => by have := (hoL.lt xb e.symm).1; omega)
                    have hl1 := Sl.grown hlL hg1 (by have := HSZL.out; omega) (fun k e => by have e2 : W0.heap.size = k := Option.some.inj e; have := HSZE.out; left; omega)
                    refine ⟨rfl, v1, _, (fun V => V = w1), rfl, rfl, (fun V h => by rw [h]; exact hx1.cell (j := 0) rfl), (.inr (fun _ h => h)), ?_⟩
                    simp only [Act.put, List.setIfInBounds_toArray, List.set_cons_succ, List.set_cons_zero]
                    clear hv1 hg1 hat1
                    refine Pt.WalkT.make (by rfl) ?_
                    intro V hV
                    rw [hV]
                    clear hV V
                    refine wpList_append_sl _ rfl (.tmp 56) (.tmp 61) _ rfl wr.heap.size 46 i0 _ 12 88 Tryz.underlying26 hi0 hz0 hz1 hz2 rfl (by omega) v1 j ((rowCs es).take (j * 12)) rfl hv1' WE.heap.size (WE.heap.size + 1) (.slice (some ⟨WE.heap.size, 0, none⟩) 1 1) 1 [.int .i64 od, .slice Al l.length cl, .slice none 0 0, .slice none 0 0, .bool false, .bool false, .bool false, .bool false, .bool false, .bool false, .bool false, .bool false] rfl hl1 HCONE.out (by unfold maxLen; omega) (by omega) hb1.size ?_
                    intro v2 w2 hv2 hg2 hat2
                    have hb2 := hb1.grown hg2 hb1.size (fun g hg => (hv1'.lt g hg).1)
                    have hx2 := hx1.kept hg2 (fun e => by have := (hv1'.lt xb e.symm).1; omega)
                    clear hg2 hat2
                    refine ⟨rfl, v2, _, (fun V => V = w2), rfl, rfl, (fun V h => by rw [h]; exact hx2.cell (j := 0) rfl), (.inr (fun _ h => h)), ?_⟩
                    simp only [Act.put, List.setIfInBounds_toArray, List.set_cons_succ, List.set_cons_zero]
                    refine Pt.WalkT.make (by rfl) ?_
                    intro V hV
                    rw [hV]
                    clear hV V
                    refine wpList_append_sl _ rfl (.tmp 62) (.tmp 68) _ rfl wr.heap.size 46 i0 _ 12 88 Tryz.underlying26 hi0 hz0 hz1 hz2 rfl (by omega) v2 (j + 1) ((rowCs es).take (j * 12) ++ [.int .i64 od, .slice Al l.length cl, .slice none 0 0, .slice none 0 0, .bool false, .bool false, .bool false, .bool false, .bool false, .bool false, .bool false, .bool false]) rfl hv2 base wr.heap.size _ (es.length - j) ((rowCs es).drop (j * 12)) rfl (S93.out _ hb2) HONE93.out (by unfold maxLen; omega) (by omega) hb2.size ?_
                    intro v3 w3 hv3 hg3 hat3
                    have hb3 := hb2.grown hg3 hb2.size (fun g hg => (hv2.lt g hg).1)
                    have hx3 := hx2.kept hg3 (fun e => by have := (hv2.lt xb e.symm).1; omega)
                    clear hg3 hat3 hv2 hx2
                    rw [show (rowCs es).take (j * 12) ++ [.int .i64 od, .slice Al l.length cl, .slice none 0 0, .slice none 0 0, .bool false, .bool false, .bool false, .bool false, .bool false, .bool false, .bool false, .bool false] ++ (rowCs es).drop (j * 12) = rowCs (es.take j ++ [(⟨⟨od, l, [], [], [], fb⟩, .slice Al l.length cl, .slice none 0 0, .slice none 0 0⟩ : DR)] ++ es.drop j) from (rowCs_ins es j (⟨⟨od, l, [], [], [], fb⟩, .slice Al l.length cl, .slice none 0 0, .slice none 0 0⟩ : DR)).symm, HN.out] at hv3
                    obtain ⟨A5, c5, rfl, -⟩ := (Sl.of_own hv3).at_
                    have HV3 := Lib.hid hv3
                    clear hv3
                    refine ⟨rfl, _, _, (fun V => V = w3), rfl, rfl, (fun V h => by rw [h]; exact hx3.cell (j := 0) rfl), (.inr (fun _ h => h)), ?_⟩
                    simp only [Act.put, List.setIfInBounds_toArray, List.set_cons_succ, List.set_cons_zero]
                    refine Pt.WalkT.make (by rfl) ?_
                    intro V hV
                    rw [hV]
                    clear hV V
                    have g3 := hx3.cell (j := 0) (v := .slice (some ⟨g, 0, none⟩) es.length c) rfl
                    have f3 := hx3.frozen 0
                    go_wp2_with fail
                    have hx4 := hx3.set 0 (.slice A5 n5 c5)
                    have hg4 := grownBy_set w3 xb 0 (.slice A5 n5 c5)
                    refine ⟨rfl, undef, (fun _ => True), (fun V => V = w3.setCell ⟨xb, 0, none⟩ (.slice A5 n5 c5)), rfl, rfl, (fun _ _ => trivial), (.inl (by kernel_rfl)), Pt.WalkT.nil ?_⟩
                    intro V hV
                    rw [hV]
                    clear hV V
                    simp only [Act.put]
                    have hrow := ownsRow_far HV3.out hg4 hxl
                    have hbw := HB1.out.trans (hb3.mono HB1.out.size)
                    have hgw := (only_of_below hbw (some xb)).trans hg4
                    have hk : Kept (fun i => i < w.heap.size ∧ i ≠ xb) w (w3.setCell ⟨xb, 0, none⟩ (.slice A5 n5 c5)) := Kept.of_grown hgw fun i hi => ⟨hi.1, fun e => hi.2 (Option.some.inj e)⟩
                    have hF2 : ∀ i, i < w.heap.size → (i ≠ xb ∧ ¬ Y i) → (i < w.heap.size ∧ i ≠ xb) ∧ (i ≠ xb ∧ ¬ Y i) := fun i hi hh => ⟨⟨hi, hh.1⟩, hh⟩
                    have hnest : ∀ p ∈ (es.take j ++ [(⟨⟨od, l, [], [], [], fb⟩, .slice Al l.length cl, .slice none 0 0, .slice none 0 0⟩ : DR)] ++ es.drop j), LiAt (w3.setCell ⟨xb, 0, none⟩ (.slice A5 n5 c5)) (fun i => i ≠ xb ∧ ¬ Y i) p.v1 p.d.wa ∧ LiAt (w3.setCell ⟨xb, 0, none⟩ (.slice A5 n5 c5)) (fun i => i ≠ xb ∧ ¬ Y i) p.v2 p.d.sh ∧ LiAt (w3.setCell ⟨xb, 0, none⟩ (.slice A5 n5 c5)) (fun i => i ≠ xb ∧ ¬ Y i) p.v3 p.d.ba := by
                      intro p hp
                      have hold : ∀ p ∈ es, LiAt (w3.setCell ⟨xb, 0, none⟩ (.slice A5 n5 c5)) (fun i => i ≠ xb ∧ ¬ Y i) p.v1 p.d.wa ∧ LiAt (w3.setCell ⟨xb, 0, none⟩ (.slice A5 n5 c5)) (fun i => i ≠ xb ∧ ¬ Y i) p.v2 p.d.sh ∧ LiAt (w3.setCell ⟨xb, 0, none⟩ (.slice A5 n5 c5)) (fun i => i ≠ xb ∧ ¬ Y i) p.v3 p.d.ba := fun q hq => ⟨(H.out.nest q hq).1.keep hk hF2, (H.out.nest q hq).2.1.keep hk hF2, (H.out.nest q hq).2.2.keep hk hF2⟩
                      rcases List.mem_append.1 hp with hp | hp
                      · rcases List.mem_append.1 hp with hp | hp
                        · exact hold p (List.mem_of_mem_take hp)
                        · rw [List.mem_singleton] at hp
                          rw [hp]
                          exact ⟨HI.out.keep hk hF2, LiAt.nil _ _, LiAt.nil _ _⟩
                      · exact hold p (List.mem_of_mem_drop hp)
                    have hyl : ∀ i, Y i → i < (w3.setCell ⟨xb, 0, none⟩ (.slice A5 n5 c5)).heap.size := fun i hi => Nat.lt_of_lt_of_le (H.out.yl i hi) hgw.size
                    have hyg : ∀ g, (Value.slice A5 n5 c5).ownBlock = some g → ¬ Y g := fun g hg hy => by have h1 := (HV3.out.lt g hg).1; have h2 := H.out.yl g hy; have h3 := HB1.out.size; omega
                    clear g3 f3 hk hF2
                    go_wp2
                    go_ret
                    have hfin := HFIN.out j hj HLT.out HGE.out
                    have hdoc : DocP (w3.setCell ⟨xb, 0, none⟩ (.slice A5 n5 c5)) xb base Y (es.take j ++ [(⟨⟨od, l, [], [], [], fb⟩, .slice Al l.length cl, .slice none 0 0, .slice none 0 0⟩ : DR)] ++ es.drop j) := ⟨⟨_, hx4, by rw [hn5]; exact ownsRow_wide hrow hB1, hyg⟩, hnest, H.out.nx, hyl⟩
                    first
                      | exact ⟨_, rfl, hfin, hdoc, hgw⟩
                      | exact ⟨rfl, _, hfin, hdoc, hgw⟩
                · intro V hV
                  rw [hV]
                  clear hV V
                  go_wp2_with fail
                  have hlL : Sl (W0.alloc (.cells #[.int .i64 od, .slice Al l.length cl, .slice none 0 0, .slice none 0 0, .bool false, .bool false, .bool false, .bool false, .bool false, .bool false, .bool false, .bool false] 46)) W0.heap.size (W0.heap.size + 1) 12 (.slice (some ⟨W0.heap.size, 0, none⟩) 1 1) 1 [.int .i64 od, .slice Al l.length cl, .slice none 0 0, .slice none 0 0, .bool false, .bool false, .bool false, .bool false, .bool false, .bool false, .bool false, .bool false] := Sl.new W0 #[.int .i64 od, .slice Al l.length cl, .slice none 0 0, .slice none 0 0, .bool false, .bool false, .bool false, .bool false, .bool false, .bool false, .bool false, .bool false] 46 (n := 1) rfl (by unfold maxLen; omega)
                  have hbL := hdr.alloc hdr.size (.cells #[.int .i64 od, .slice Al l.length cl, .slice none 0 0, .slice none 0 0, .bool false, .bool false, .bool false, .bool false, .bool false, .bool false, .bool false, .bool false] 46)
                  have hxL := hx0.alloc (.cells #[.int .i64 od, .slice Al l.length cl, .slice none 0 0, .slice none 0 0, .bool false, .bool false, .bool false, .bool false, .bool false, .bool false, .bool false, .bool false] 46)
                  have HSZL := Lib.hid (show (W0.alloc (.cells #[.int .i64 od, .slice Al l.length cl, .slice none 0 0, .slice none 0 0, .bool false, .bool false, .bool false, .bool false, .bool false, .bool false, .bool false, .bool false] 46)).heap.size = W0.heap.size + 1 by simp)
                  refine ⟨rfl, .slice (some ⟨W0.heap.size, 0, none⟩) 1 1, _, (fun V => V = W0.alloc (.cells #[.int .i64 od, .slice Al l.length cl, .slice none 0 0, .slice none 0 0, .bool false, .bool false, .bool false, .bool false, .bool false, .bool false, .bool false, .bool false] 46)), ?_, rfl, (fun V h => by rw [h]; exact hxL.cell (j := 0) rfl), (.inr (fun _ h => h)), ?_⟩
                  · simp only [Act.put, List.setIfInBounds_toArray, List.set_cons_succ, List.set_cons_zero]
                  simp only [Act.put, List.setIfInBounds_toArray, List.set_cons_succ, List.set_cons_zero]
                  generalize W0.alloc (.cells #[.int .i64 od, .slice Al l.length cl, .slice none 0 0, .slice none 0 0, .bool false, .bool false, .bool false, .bool false, .bool false, .bool false, .bool false, .bool false] 46) = WL at *
                  refine Pt.WalkT.make (by rfl) ?_
                  intro V hV
                  rw [hV]
                  clear hV V
                  go_wp2_with fail
                  have hownE := World.ownsRow_lit (e := 46) (size := 12) (base := wr.heap.size) WL #[] 0 hbL.size (Nat.zero_le _) rfl
                  have hbE := hbL.alloc hbL.size (.cells #[] 46)
                  have hxE := hxL.alloc (.cells #[] 46)
                  have HSZE := Lib.hid (show (WL.alloc (.cells #[] 46)).heap.size = WL.heap.size + 1 by simp)
                  have hlE := Sl.below hlL ((Below.refl _ WL).alloc (by have := HSZL.out; omega) (.cells #[] 46))
                  refine ⟨rfl, .slice (some ⟨WL.heap.size, 0, none⟩) 0 0, _, (fun V => V = WL.alloc (.cells #[] 46)), ?_, rfl, (fun V h => by rw [h]; exact hxE.cell (j := 0) rfl), (.inr (fun _ h => h)), ?_⟩
                  · simp only [Act.put, List.setIfInBounds_toArray, List.set_cons_succ, List.set_cons_zero]
                  simp only [Act.put, List.setIfInBounds_toArray, List.set_cons_succ, List.set_cons_zero]
                  generalize WL.alloc (.cells #[] 46) = WE at *
                  refine Pt.WalkT.make (by rfl) ?_
                  intro V hV
                  rw [hV]
                  clear hV V
                  refine wpList_append_sl _ rfl (.tmp 49) (.tmp 55) _ rfl wr.heap.size 46 i0 _ 12 88 Tryz.underlying26 hi0 hz0 hz1 hz2 rfl (by omega) (.slice (some ⟨WL.heap.size, 0, none⟩) 0 0) 0 [] rfl hownE base wr.heap.size _ j ((rowCs es).take (j * 12)) rfl (S79.out _ hbE) HONE79.out (by unfold maxLen; omega) (by omega) hbE.size ?_
                  intro v1 w1 hv1 hg1 hat1
                  have hv1' : w1.ownsRow wr.heap.size 46 12 v1 j ((rowCs es).take (j * 12)) := by simpa using hv1
                  have hb1 := hbE.grown hg1 hbE.size (fun g hg => (hownE.lt g hg).1)
                  have hx1 := hxE.kept hg1 (fun e => by have := (hownE.lt xb e.symm).1; omega)
                  have hl1 := Sl.grown hlE hg1 (by have := HSZE.out; have := HSZL.out; omega) (fun k e => by have e2 : WL.heap.size = k := Option.some.inj e; have := HSZL.out; right; omega)
                  refine ⟨rfl, v1, _, (fun V => V = w1), rfl, rfl, (fun V h => by rw [h]; exact hx1.cell (j := 0) rfl), (.inr (fun _ h => h)), ?_⟩
                  simp only [Act.put, List.setIfInBounds_toArray, List.set_cons_succ, List.set_cons_zero]
                  clear hv1 hg1 hat1
                  refine Pt.WalkT.make (by rfl) ?_
                  intro V hV
                  rw [hV]
                  clear hV V
                  refine wpList_append_sl _ rfl (.tmp 56) (.tmp 61) _ rfl wr.heap.size 46 i0 _ 12 88 Tryz.underlying26 hi0 hz0 hz1 hz2 rfl (by omega) v1 j ((rowCs es).take (j * 12)) rfl hv1' W0.heap.size (W0.heap.size + 1) (.slice (some ⟨W0.heap.size, 0, none⟩) 1 1) 1 [.int .i64 od, .slice Al l.length cl, .slice none 0 0, .slice none 0 0, .bool false, .bool false, .bool false, .bool false, .bool false, .bool false, .bool false, .bool false] rfl hl1 HCONE.out (by unfold maxLen; omega) (by omega) hb1.size ?_
                  intro v2 w2 hv2 hg2 hat2
                  have hb2 := hb1.grown hg2 hb1.size (fun g hg => (hv1'.lt g hg).1)
                  have hx2 := hx1.kept hg2 (fun e => by have := (hv1'.lt xb e.symm).1; omega)
                  clear hg2 hat2
                  refine ⟨rfl, v2, _, (fun V => V = w2), rfl, rfl, (fun V h => by rw [h]; exact hx2.cell (j := 0) rfl), (.inr (fun _ h => h)), ?_⟩
                  simp only [Act.put, List.setIfInBounds_toArray, List.set_cons_succ, List.set_cons_zero]
                  refine Pt.WalkT.make (by rfl) ?_
                  intro V hV
                  rw [hV]
                  clear hV V
                  refine wpList_append_sl _ rfl (.tmp 62) (.tmp 68) _ rfl wr.heap.size 46 i0 _ 12 88 Tryz.underlying26 hi0 hz0 hz1 hz2 rfl (by omega) v2 (j + 1) ((rowCs es).take (j * 12) ++ [.int .i64 od, .slice Al l.length cl, .slice none 0 0, .slice none 0 0, .bool false, .bool false, .bool false, .bool false, .bool false, .bool false, .bool false, .bool false]) rfl hv2 base wr.heap.size _ (es.length - j) ((rowCs es).drop (j * 12)) rfl (S93.out _ hb2) HONE93.out (by unfold maxLen; omega) (by omega) hb2.size ?_
                  intro v3 w3 hv3 hg3 hat3
                  have hb3 := hb2.grown hg3 hb2.size (fun g hg => (hv2.lt g hg).1)
                  have hx3 := hx2.kept hg3 (fun e => by have := (hv2.lt xb e.symm).1; omega)
                  clear hg3 hat3 hv2 hx2
                  rw [show (rowCs es).take (j * 12) ++ [.int .i64 od, .slice Al l.length cl, .slice none 0 0, .slice none 0 0, .bool false, .bool false, .bool false, .bool false, .bool false, .bool false, .bool false, .bool false] ++ (rowCs es).drop (j * 12) = rowCs (es.take j ++ [(⟨⟨od, l, [], [], [], fb⟩, .slice Al l.length cl, .slice none 0 0, .slice none 0 0⟩ : DR)] ++ es.drop j) from (rowCs_ins es j (⟨⟨od, l, [], [], [], fb⟩, .slice Al l.length cl, .slice none 0 0, .slice none 0 0⟩ : DR)).symm, HN.out] at hv3
                  obtain ⟨A5, c5, rfl, -⟩ := (Sl.of_own hv3).at_
                  have HV3 := Lib.hid hv3
                  clear hv3
                  refine ⟨rfl, _, _, (fun V => V = w3), rfl, rfl, (fun V h => by rw [h]; exact hx3.cell (j := 0) rfl), (.inr (fun _ h => h)), ?_⟩
                  simp only [Act.put, List.setIfInBounds_toArray, List.set_cons_succ, List.set_cons_zero]
                  refine Pt.WalkT.make (by rfl) ?_
                  intro V hV
                  rw [hV]
                  clear hV V
                  have g3 := hx3.cell (j := 0) (v := .slice (some ⟨g, 0, none⟩) es.length c) rfl
                  have f3 := hx3.frozen 0
                  go_wp2_with fail
                  have hx4 := hx3.set 0 (.slice A5 n5 c5)
                  have hg4 := grownBy_set w3 xb 0 (.slice A5 n5 c5)
                  refine ⟨rfl, undef, (fun _ => True), (fun V => V = w3.setCell ⟨xb, 0, none⟩ (.slice A5 n5 c5)), rfl, rfl, (fun _ _ => trivial), (.inl (by kernel_rfl)), Pt.WalkT.nil ?_⟩
                  intro V hV
                  rw [hV]
                  clear hV V
                  simp only [Act.put]
                  have hrow := ownsRow_far HV3.out hg4 hxl
                  have hbw := HB1.out.trans (hb3.mono HB1.out.size)
                  have hgw := (only_of_below hbw (some xb)).trans hg4
                  have hk : Kept (fun i => i < w.heap.size ∧ i ≠ xb) w (w3.setCell ⟨xb, 0, none⟩ (.slice A5 n5 c5)) := Kept.of_grown hgw fun i hi => ⟨hi.1, fun e => hi.2 (Option.some.inj e)⟩
                  have hF2 : ∀ i, i < w.heap.size → (i ≠ xb ∧ ¬ Y i) → (i < w.heap.size ∧ i ≠ xb) ∧ (i ≠ xb ∧ ¬ Y i) := fun i hi hh => ⟨⟨hi, hh.1⟩, hh⟩
                  have hnest : ∀ p ∈ (es.take j ++ [(⟨⟨od, l, [], [], [], fb⟩, .slice Al l.length cl, .slice none 0 0, .slice none 0 0⟩ : DR)] ++ es.drop j), LiAt (w3.setCell ⟨xb, 0, none⟩ (.slice A5 n5 c5)) (fun i => i ≠ xb ∧ ¬ Y i) p.v1 p.d.wa ∧ LiAt (w3.setCell ⟨xb, 0, none⟩ (.slice A5 n5 c5)) (fun i => i ≠ xb ∧ ¬ Y i) p.v2 p.d.sh ∧ LiAt (w3.setCell ⟨xb, 0, none⟩ (.slice A5 n5 c5)) (fun i => i ≠ xb ∧ ¬ Y i) p.v3 p.d.ba := by
                    intro p hp
                    have hold : ∀ p ∈ es, LiAt (w3.setCell ⟨xb, 0, none⟩ (.slice A5 n5 c5)) (fun i => i ≠ xb ∧ ¬ Y i) p.v1 p.d.wa ∧ LiAt (w3.setCell ⟨xb, 0, none⟩ (.slice A5 n5 c5)) (fun i => i ≠ xb ∧ ¬ Y i) p.v2 p.d.sh ∧ LiAt (w3.setCell ⟨xb, 0, none⟩ (.slice A5 n5 c5)) (fun i => i ≠ xb ∧ ¬ Y i) p.v3 p.d.ba := fun q hq => ⟨(H.out.nest q hq).1.keep hk hF2, (H.out.nest q hq).2.1.keep hk hF2, (H.out.nest q hq).2.2.keep hk hF2⟩
                    rcases List.mem_append.1 hp with hp | hp
                    · rcases List.mem_append.1 hp with hp | hp
                      · exact hold p (List.mem_of_mem_take hp)
                      · rw [List.mem_singleton] at hp
                        rw [hp]
                        exact ⟨HI.out.keep hk hF2, LiAt.nil _ _, LiAt.nil _ _⟩
                    · exact hold p (List.mem_of_mem_drop hp)
                  have hyl : ∀ i, Y i → i < (w3.setCell ⟨xb, 0, none⟩ (.slice A5 n5 c5)).heap.size := fun i hi => Nat.lt_of_lt_of_le (H.out.yl i hi) hgw.size
                  have hyg : ∀ g, (Value.slice A5 n5 c5).ownBlock = some g → ¬ Y g := fun g hg hy => by have h1 := (HV3.out.lt g hg).1; have h2 := H.out.yl g hy; have h3 := HB1.out.size; omega
                  clear g3 f3 hk hF2
                  go_wp2
                  go_ret
                  have hfin := HFIN.out j hj HLT.out HGE.out
                  have hdoc : DocP (w3.setCell ⟨xb, 0, none⟩ (.slice A5 n5 c5)) xb base Y (es.take j ++ [(⟨⟨od, l, [], [], [], fb⟩, .slice Al l.length cl, .slice none 0 0, .slice none 0 0⟩ : DR)] ++ es.drop j) := ⟨⟨_, hx4, by rw [hn5]; exact ownsRow_wide hrow hB1, hyg⟩, hnest, H.out.nx, hyl⟩
                  first
                    | exact ⟨_, rfl, hfin, hdoc, hgw⟩
                    | exact ⟨rfl, _, hfin, hdoc, hgw⟩
end Pc
end Go.Proofs.YtdbkkldgobkjcaaGreat
