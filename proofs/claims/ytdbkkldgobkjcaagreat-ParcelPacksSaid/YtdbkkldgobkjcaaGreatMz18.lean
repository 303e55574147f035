/-
  parcels: the document's Back, Undo.
  parcels: the document's Ship.
  slices.Sorted(maps.Keys(m)): the keys of a map with int keys (map[int]parcel.row), sorted, by the library's contracts.
-/
import Derived.Test.YtdbkkldgobkjcaaGreatMz17
import Derived.Test.YtdbkkldgobkjcaaGreatLayed
import Derived.Test.YtdbkkldgobkjcaaGreatMz3
import Derived.Shelf.SlIterI.Nil
import Derived.Shelf.SortM.Plain
import Derived.Shelf.SortM.SortNone

set_option linter.unusedVariables false
set_option linter.unusedSimpArgs false
namespace Go.Proofs.YtdbkkldgobkjcaaGreat
open Go.RowKit Go.Maps
namespace Pc
open It Mv

theorem set_map (es : List DR) (i : Nat) (h : i < es.length) (hs : SortedR (es.map (·.d))) (p : DR) (hk : p.d.od = es[i].d.od) : (es.set i p).map (·.d) = putR (es.map (·.d)) p.d := by
  rw [put_setR hs i (by simpa using h) (by simpa using hk.symm), List.map_set]
theorem refwithin_calls' (all a b : List It.Item) (v va vb : Value) (w : World) (h : ItemsAt w 0 w.heap.size v all) (ha : ItemsAt w 0 w.heap.size va a) (hb : ItemsAt w 0 w.heap.size vb b) (hM : M all) (hMa : M a) (hMb : M b) (c : Bool) (hc : decide ((withinOf all a b).2 = 0) = c) :
    Calls Tryz.prog 49 #[v, va, vb] w fun e w' =>
      (∃ u, e = .returned (.tuple #[u, .bool c]) ∧ w'.ownsRow w.heap.size 37 2 u (withinOf all a b).1.length (itemCells (withinOf all a b).1)) ∧ Below w.heap.size w w' := by
  have := refwithin_calls all a b v va vb w h ha hb hM hMa hMb
  rw [hc] at this
  exact this
theorem rest_doc {a b : List It.Item} (ha : M a) (hb : M b) : minusOf a b = if (eachL restF b a).length = 0 then (eachL restF a b, 0) else ([], 51) := by
  unfold minusOf covers
  rw [(may_iff a).2 ha, (may_iff b).2 hb, both_of hb ha, both_of ha hb]
  simp

set_option maxRecDepth 100000 in
set_option maxHeartbeats 8000000 in
theorem refback_calls (od : Int) (l : List It.Item) (lv : Value) (xb base : Nat) (Y : Nat → Prop) (es : List DR) (w : World) (h : DocP w xb base Y es) (hs : SortedR (es.map (·.d))) (hB : base ≤ w.heap.size) (hI : LiAt w (fun i => i ≠ xb ∧ ¬ Y i) lv l) (hF : Fits l) (hok : ∀ p ∈ es, OkR p.d) (hlen : es.length ≤ 1099511627776) :
    Calls Tryz.prog 14 #[.pointer (some ⟨xb, 0, none⟩), .int .i64 od, lv] w fun e w' => ∃ es', e = .returned (.int .i64 (backOf (es.map (·.d)) od l).2) ∧
      es'.map (·.d) = (backOf (es.map (·.d)) od l).1 ∧ DocP w' xb base Y es' ∧ w.grownBy w' (some xb) := by
  have cF := Lib.hid (findP_calls od xb base Y es w h)
  have cMay := Lib.hid (refmay_calls l lv w hI.items hF)
  have H := Lib.hid h
  have HI := Lib.hid hI
  have HS := Lib.hid hs
  obtain ⟨Al, cl, rfl, hcl1, hcl2⟩ := hI.items.form
  unfold maxLen at hcl2
  rcases @idx_findR (es.map (·.d)) od with ⟨h1, h2⟩ | ⟨i, hi, h1, h2, hk⟩
  · have hC : backOf (es.map (·.d)) od l = (es.map (·.d), 4) := by unfold backOf; rw [h2]
    rw [hC]
    rw [h1] at cF
    clear hC h h1 h2 hI hs hok
    go_enter Tryz.func14, Tryz.ntmps14
    go_wp2_with (go_at_call 18; refine cF.out.mono ?_; rintro e W ⟨rfl, rfl⟩)
    go_ret
    first
      | exact ⟨es, rfl, rfl, H.out, only_of_below (Below.refl _ _) _⟩
      | exact ⟨rfl, es, rfl, H.out, only_of_below (Below.refl _ _) _⟩
  · rw [h1] at cF
    have hi2 : i < es.length := by simpa using hi
    have hds : (es.map (·.d))[i] = es[i].d := by simp
    rw [hds] at h2 hk
    have hC : backOf (es.map (·.d)) od l = if may l = false then (es.map (·.d), 60) else if (withinOf es[i].d.sh es[i].d.ba l).2 = 0 then (putR (es.map (·.d)) { es[i].d with ba := (withinOf es[i].d.sh es[i].d.ba l).1 }, 0) else (es.map (·.d), (withinOf es[i].d.sh es[i].d.ba l).2) := by unfold backOf; rw [h2]
    have hdi : decide ((i : Int) < 0) = false := by simp
    by_cases hm : may l = false
    · rw [hC, if_pos hm]
      rw [hm] at cMay
      clear hC h h1 h2 hI hs hok hds hk
      go_enter Tryz.func14, Tryz.ntmps14
      go_wp2_with (first
        | (go_at_call 18; refine cF.out.mono ?_; rintro e W ⟨rfl, rfl⟩)
        | (go_at_call 46; refine cMay.out.mono ?_; rintro e W1 ⟨rfl, hb1⟩))
      go_ret
      first
        | exact ⟨es, rfl, rfl, H.out.same hb1, only_of_below hb1 _⟩
        | exact ⟨rfl, es, rfl, H.out.same hb1, only_of_below hb1 _⟩
    · have hmt : may l = true := by simpa using hm
      have hM := (may_iff l).1 hmt
      have hd := hok es[i] (List.getElem_mem hi2)
      rw [hmt] at cMay
      rw [if_neg (by simp [hmt])] at hC
      generalize backOf (es.map (·.d)) od l = R at *
      have HC := Lib.hid hC
      have HSET := Lib.hid (fun (p : DR) (hp : p.d.od = es[i].d.od) => set_map es i hi2 hs p hp)
      obtain ⟨n1, n2, n3⟩ := h.nest es[i] (List.getElem_mem hi2)
      obtain ⟨v, hx, hv, -⟩ := h.ob
      have HX := Lib.hid hx
      have HV := Lib.hid hv
      have HXL := Lib.hid hx.lt
      obtain ⟨A, c, rfl, hc1, hc2, -⟩ := (Sl.of_own hv).at_
      unfold maxLen at hc2
      clear hC h h1 h2 hI hs hok hds hk hm hx hv
      go_enter Tryz.func14, Tryz.ntmps14
      go_wp2_with (go_at_call 18; refine cF.out.mono ?_; rintro e W ⟨rfl, rfl⟩)
      refine cMay.out.mono ?_
      rintro e W1 ⟨rfl, hb1⟩
      have gx := (HX.out.same hb1).cell (j := 0) (v := .slice A es.length c) rfl
      obtain ⟨bo, o, rfl, -, hbo, hcs⟩ := docP_cell (Sl.below (Sl.of_own HV.out) hb1) hi2
      generalize hp : es[i] = p at *
      obtain ⟨d, v1, v2, v3⟩ := p
      dsimp only at n1 n2 n3 hd
      have N1 := Lib.hid n1
      have N2 := Lib.hid n2
      have N3 := Lib.hid n3
      obtain ⟨P1, p1, c1, rfl⟩ := n1.form
      obtain ⟨P2, p2, c2, rfl⟩ := n2.form
      obtain ⟨P3, p3, c3, rfl⟩ := n3.form
      have e0 := hcs 0 _ rfl
      have e1 := hcs 1 _ rfl
      have e2 := hcs 2 _ rfl
      have e3 := hcs 3 _ rfl
      have e4 := hcs 4 _ rfl
      have e5 := hcs 5 _ rfl
      have e6 := hcs 6 _ rfl
      have e7 := hcs 7 _ rfl
      have e8 := hcs 8 _ rfl
      have e9 := hcs 9 _ rfl
      have e10 := hcs 10 _ rfl
      have e11 := hcs 11 _ rfl
      simp only [Nat.add_zero] at e0
      have hdl : decide ((i : Int) < (es.length : Int)) = true := by simp; omega
      have HP := Lib.hid hp
      have HIN := Lib.hid (fun (bl : List It.Item) (k : Int) => show isIn { d with ba := bl } k = isIn d k from rfl)
      have HD := Lib.hid hd
      have HM := Lib.hid hM
      have hb2 := hb1.alloc hb1.size (.cells #[.int .i64 d.od, .slice P1 p1 c1, .slice P2 p2 c2, .slice P3 p3 c3, .bool (isIn d 0), .bool (isIn d 1), .bool (isIn d 2), .bool (isIn d 3), .bool (isIn d 4), .bool (isIn d 5), .bool (isIn d 6), .bool (isIn d 7)] 46)
      have hO := Ob.new W1 46 #[.int .i64 d.od, .slice P1 p1 c1, .slice P2 p2 c2, .slice P3 p3 c3, .bool (isIn d 0), .bool (isIn d 1), .bool (isIn d 2), .bool (isIn d 3), .bool (isIn d 4), .bool (isIn d 5), .bool (isIn d 6), .bool (isIn d 7)]
      have HW1 := Lib.hid hb1.size
      have HO := Lib.hid hO
      obtain ⟨q0, q1, q2, q3, q4, q5, q6, q7, q8, q9, q10, q11⟩ := hO.twelve
      clear hcs n1 n2 n3 hp hd hM cF cMay hb1 hO
      by_cases hwc : (withinOf d.sh d.ba l).2 = 0
      · have cW := Lib.hid (fun W (hb : Below w.heap.size w W) => refwithin_calls' d.sh d.ba l _ _ _ W (N2.out.items.mono hb hb.size) (N3.out.items.mono hb hb.size) (HI.out.items.mono hb hb.size) HD.out.sh HD.out.ba HM.out true (by simpa using hwc))
        have hC2 := HC.out
        dsimp only at hC2
        rw [if_pos hwc] at hC2
        generalize (withinOf d.sh d.ba l).1 = sl at *
        subst hC2
        clear HC hwc
        go_wp2_with fail
        refine (cW.out _ hb2).mono ?_
        rintro e W3 ⟨⟨u, rfl, hu⟩, hb3⟩
        have hu2 := ownsRow_wide hu hb2.size
        have HU := Lib.hid hu2
        obtain ⟨Au, cu, rfl, -⟩ := (toAt hu).form
        have HB3 := Lib.hid (hb2.trans (hb3.mono hb2.size))
        have hO3 := HO.out.same hb3
        have f3 := hO3.frozen 3
        have g3 := hO3.cell (j := 3) (v := .slice P3 p3 c3) rfl
        have hO4 := hO3.set 3 (.slice Au sl.length cu)
        obtain ⟨r0, r1, r2, r3, r4, r5, r6, r7, r8, r9, r10, r11⟩ := hO4.twelve
        have hg4 := grownBy_set W3 W1.heap.size 3 (.slice Au sl.length cu)
        have hw1 := HW1.out
        have HB4 := Lib.hid (HB3.out.grown hg4 HB3.out.size (fun g e => by cases e; exact hw1))
        have hxl := HXL.out
        have hk4 : Kept (fun i => i < w.heap.size) w (W3.setCell ⟨W1.heap.size, 3, none⟩ (.slice Au sl.length cu)) := Kept.of_below HB4.out fun _ hi => hi
        have hFF : ∀ i, i < w.heap.size → (i ≠ xb ∧ ¬ Y i) → i < w.heap.size ∧ (i ≠ xb ∧ ¬ Y i) := fun i hi hh => ⟨hi, hh⟩
        have hrow := HU.out.kept hg4 (.inr (fun e => by have := (hu.lt W1.heap.size e).1; rw [World.size_alloc] at this; omega))
        have cS := set_calls i ⟨{ d with ba := sl }, .slice P1 p1 c1, .slice P2 p2 c2, .slice Au sl.length cu⟩ xb base Y es _ (H.out.same HB4.out) (Nat.le_trans hB HB4.out.size) hi2
          ⟨N1.out.keep hk4 hFF, N2.out.keep hk4 hFF, LiAt.of_own hrow (fun i hi _ => ⟨by omega, fun hy => by have := H.out.yl i hy; omega⟩)⟩ hlen
        have hset := HSET.out ⟨{ d with ba := sl }, .slice P1 p1 c1, .slice P2 p2 c2, .slice Au sl.length cu⟩ rfl
        have HSE := Lib.hid hset
        simp only [rowA, HIN.out] at cS
        have CS := Lib.hid cS
        clear hu hu2 hO3 hO4 hg4 hk4 hFF hrow hset cS hb3 hb2 q0 q1 q2 q3 q4 q5 q6 q7 q8 q9 q10 q11 e0 e1 e2 e3 e4 e5 e6 e7 e8 e9 e10 e11
        go_wp2_with fail
        refine CS.out.mono ?_
        rintro e W5 ⟨rfl, hdoc, hg5⟩
        have HDOC := Lib.hid hdoc
        have HG5 := Lib.hid hg5
        clear hdoc hg5
        go_wp2
        go_ret
        first
          | exact ⟨_, rfl, HSE.out, HDOC.out, (only_of_below HB4.out _).trans HG5.out⟩
          | exact ⟨rfl, _, HSE.out, HDOC.out, (only_of_below HB4.out _).trans HG5.out⟩
      · have cW := Lib.hid (fun W (hb : Below w.heap.size w W) => refwithin_calls' d.sh d.ba l _ _ _ W (N2.out.items.mono hb hb.size) (N3.out.items.mono hb hb.size) (HI.out.items.mono hb hb.size) HD.out.sh HD.out.ba HM.out false (by simpa using hwc))
        have hC2 := HC.out
        dsimp only at hC2
        rw [if_neg hwc] at hC2
        have h50 : (withinOf d.sh d.ba l).2 = 50 := by
          unfold withinOf at hwc ⊢
          split
          · rename_i h; rw [if_pos h] at hwc; exact (hwc rfl).elim
          · rfl
        rw [h50] at hC2
        generalize (withinOf d.sh d.ba l).1 = sl at *
        subst hC2
        clear HC hwc h50
        go_wp2_with fail
        refine (cW.out _ hb2).mono ?_
        rintro e W3 ⟨⟨u, rfl, hu⟩, hb3⟩
        obtain ⟨Au, cu, rfl, -⟩ := (toAt hu).form
        have HB3 := Lib.hid (hb2.trans (hb3.mono hb2.size))
        clear hb2 hb3 hu
        go_wp2
        go_ret
        first
          | exact ⟨es, rfl, rfl, H.out.same HB3.out, only_of_below HB3.out _⟩
          | exact ⟨rfl, es, rfl, H.out.same HB3.out, only_of_below HB3.out _⟩

set_option maxRecDepth 100000 in
set_option maxHeartbeats 8000000 in
theorem refundo_calls (od : Int) (l : List It.Item) (lv : Value) (xb base : Nat) (Y : Nat → Prop) (es : List DR) (w : World) (h : DocP w xb base Y es) (hs : SortedR (es.map (·.d))) (hB : base ≤ w.heap.size) (hI : LiAt w (fun i => i ≠ xb ∧ ¬ Y i) lv l) (hF : Fits l) (hok : ∀ p ∈ es, OkR p.d) (hlen : es.length ≤ 1099511627776) :
    Calls Tryz.prog 16 #[.pointer (some ⟨xb, 0, none⟩), .int .i64 od, lv] w fun e w' => ∃ es', e = .returned (.int .i64 (undoOf (es.map (·.d)) od l).2) ∧
      es'.map (·.d) = (undoOf (es.map (·.d)) od l).1 ∧ DocP w' xb base Y es' ∧ w.grownBy w' (some xb) := by
  have cF := Lib.hid (findP_calls od xb base Y es w h)
  have cMay := Lib.hid (refmay_calls l lv w hI.items hF)
  have H := Lib.hid h
  have HI := Lib.hid hI
  have HS := Lib.hid hs
  obtain ⟨Al, cl, rfl, hcl1, hcl2⟩ := hI.items.form
  unfold maxLen at hcl2
  rcases @idx_findR (es.map (·.d)) od with ⟨h1, h2⟩ | ⟨i, hi, h1, h2, hk⟩
  · have hC : undoOf (es.map (·.d)) od l = (es.map (·.d), 4) := by unfold undoOf; rw [h2]
    rw [hC]
    rw [h1] at cF
    clear hC h h1 h2 hI hs hok
    go_enter Tryz.func16, Tryz.ntmps16
    go_wp2_with (go_at_call 18; refine cF.out.mono ?_; rintro e W ⟨rfl, rfl⟩)
    go_ret
    first
      | exact ⟨es, rfl, rfl, H.out, only_of_below (Below.refl _ _) _⟩
      | exact ⟨rfl, es, rfl, H.out, only_of_below (Below.refl _ _) _⟩
  · rw [h1] at cF
    have hi2 : i < es.length := by simpa using hi
    have hds : (es.map (·.d))[i] = es[i].d := by simp
    rw [hds] at h2 hk
    have hC : undoOf (es.map (·.d)) od l = if may l = false then (es.map (·.d), 60) else if (minusOf es[i].d.ba l).2 = 0 then (putR (es.map (·.d)) { es[i].d with ba := (minusOf es[i].d.ba l).1 }, 0) else (es.map (·.d), (minusOf es[i].d.ba l).2) := by unfold undoOf; rw [h2]
    have hdi : decide ((i : Int) < 0) = false := by simp
    by_cases hm : may l = false
    · rw [hC, if_pos hm]
      rw [hm] at cMay
      clear hC h h1 h2 hI hs hok hds hk
      go_enter Tryz.func16, Tryz.ntmps16
      go_wp2_with (first
        | (go_at_call 18; refine cF.out.mono ?_; rintro e W ⟨rfl, rfl⟩)
        | (go_at_call 46; refine cMay.out.mono ?_; rintro e W1 ⟨rfl, hb1⟩))
      go_ret
      first
        | exact ⟨es, rfl, rfl, H.out.same hb1, only_of_below hb1 _⟩
        | exact ⟨rfl, es, rfl, H.out.same hb1, only_of_below hb1 _⟩
    · have hmt : may l = true := by simpa using hm
      have hM := (may_iff l).1 hmt
      have hd := hok es[i] (List.getElem_mem hi2)
      rw [hmt] at cMay
      rw [if_neg (by simp [hmt])] at hC
      generalize undoOf (es.map (·.d)) od l = R at *
      have HC := Lib.hid hC
      have HSET := Lib.hid (fun (p : DR) (hp : p.d.od = es[i].d.od) => set_map es i hi2 hs p hp)
      obtain ⟨n1, n2, n3⟩ := h.nest es[i] (List.getElem_mem hi2)
      obtain ⟨v, hx, hv, -⟩ := h.ob
      have HX := Lib.hid hx
      have HV := Lib.hid hv
      have HXL := Lib.hid hx.lt
      obtain ⟨A, c, rfl, hc1, hc2, -⟩ := (Sl.of_own hv).at_
      unfold maxLen at hc2
      clear hC h h1 h2 hI hs hok hds hk hm hx hv
      go_enter Tryz.func16, Tryz.ntmps16
      go_wp2_with (go_at_call 18; refine cF.out.mono ?_; rintro e W ⟨rfl, rfl⟩)
      refine cMay.out.mono ?_
      rintro e W1 ⟨rfl, hb1⟩
      have gx := (HX.out.same hb1).cell (j := 0) (v := .slice A es.length c) rfl
      obtain ⟨bo, o, rfl, -, hbo, hcs⟩ := docP_cell (Sl.below (Sl.of_own HV.out) hb1) hi2
      generalize hp : es[i] = p at *
      obtain ⟨d, v1, v2, v3⟩ := p
      dsimp only at n1 n2 n3 hd
      have N1 := Lib.hid n1
      have N2 := Lib.hid n2
      have N3 := Lib.hid n3
      obtain ⟨P1, p1, c1, rfl⟩ := n1.form
      obtain ⟨P2, p2, c2, rfl⟩ := n2.form
      obtain ⟨P3, p3, c3, rfl⟩ := n3.form
      have e0 := hcs 0 _ rfl
      have e1 := hcs 1 _ rfl
      have e2 := hcs 2 _ rfl
      have e3 := hcs 3 _ rfl
      have e4 := hcs 4 _ rfl
      have e5 := hcs 5 _ rfl
      have e6 := hcs 6 _ rfl
      have e7 := hcs 7 _ rfl
      have e8 := hcs 8 _ rfl
      have e9 := hcs 9 _ rfl
      have e10 := hcs 10 _ rfl
      have e11 := hcs 11 _ rfl
      simp only [Nat.add_zero] at e0
      have hdl : decide ((i : Int) < (es.length : Int)) = true := by simp; omega
      have HP := Lib.hid hp
      have HIN := Lib.hid (fun (bl : List It.Item) (k : Int) => show isIn { d with ba := bl } k = isIn d k from rfl)
      have HD := Lib.hid hd
      have HM := Lib.hid hM
      have hb2 := hb1.alloc hb1.size (.cells #[.int .i64 d.od, .slice P1 p1 c1, .slice P2 p2 c2, .slice P3 p3 c3, .bool (isIn d 0), .bool (isIn d 1), .bool (isIn d 2), .bool (isIn d 3), .bool (isIn d 4), .bool (isIn d 5), .bool (isIn d 6), .bool (isIn d 7)] 46)
      have hO := Ob.new W1 46 #[.int .i64 d.od, .slice P1 p1 c1, .slice P2 p2 c2, .slice P3 p3 c3, .bool (isIn d 0), .bool (isIn d 1), .bool (isIn d 2), .bool (isIn d 3), .bool (isIn d 4), .bool (isIn d 5), .bool (isIn d 6), .bool (isIn d 7)]
      have HW1 := Lib.hid hb1.size
      have HO := Lib.hid hO
      obtain ⟨q0, q1, q2, q3, q4, q5, q6, q7, q8, q9, q10, q11⟩ := hO.twelve
      clear hcs n1 n2 n3 hp hd hM cF cMay hb1 hO
      have hmd := rest_doc HD.out.ba HM.out
      have hC2 := HC.out
      dsimp only at hC2
      rw [hmd] at hC2
      have cR := Lib.hid (fun W (hb : Below w.heap.size w W) => refrest_calls l d.ba _ _ W (HI.out.items.mono hb hb.size) (N3.out.items.mono hb hb.size) (by have := HM.out.len; omega))
      go_wp2_with fail
      refine (cR.out _ hb2).mono ?_
      rintro e W2 ⟨⟨u, rfl, hu⟩, hbr⟩
      obtain ⟨Au, cu, rfl, -⟩ := (toAt hu).form
      have HBR := Lib.hid (hb2.trans (hbr.mono hb2.size))
      replace HO := Lib.hid (HO.out.same hbr)
      have hlo := hbr.size
      by_cases hz : (eachL restF l d.ba).length = 0
      · rw [if_pos hz, if_pos rfl] at hC2
        rw [hz]
        have cR2 := Lib.hid (fun W (hb : Below w.heap.size w W) => refrest_calls d.ba l _ _ W (N3.out.items.mono hb hb.size) (HI.out.items.mono hb hb.size) (by have := HD.out.ba.len; omega))
        generalize eachL restF d.ba l = sl at *
        subst hC2
        clear hu HC hmd hz hbr cR q0 q1 q2 q3 q4 q5 q6 q7 q8 q9 q10 q11
        obtain ⟨q0, q1, q2, q3, q4, q5, q6, q7, q8, q9, q10, q11⟩ := HO.out.twelve
        go_wp2_with fail
        refine (cR2.out _ HBR.out).mono ?_
        rintro e W3 ⟨⟨u, rfl, hu⟩, hb3⟩
        replace hb2 := HBR.out
        have hu2 := ownsRow_wide hu hb2.size
        have HU := Lib.hid hu2
        obtain ⟨Au, cu, rfl, -⟩ := (toAt hu).form
        have HB3 := Lib.hid (hb2.trans (hb3.mono hb2.size))
        have hO3 := HO.out.same hb3
        have f3 := hO3.frozen 3
        have g3 := hO3.cell (j := 3) (v := .slice P3 p3 c3) rfl
        have hO4 := hO3.set 3 (.slice Au sl.length cu)
        obtain ⟨r0, r1, r2, r3, r4, r5, r6, r7, r8, r9, r10, r11⟩ := hO4.twelve
        have hg4 := grownBy_set W3 W1.heap.size 3 (.slice Au sl.length cu)
        have hw1 := HW1.out
        have HB4 := Lib.hid (HB3.out.grown hg4 HB3.out.size (fun g e => by cases e; exact hw1))
        have hxl := HXL.out
        have hk4 : Kept (fun i => i < w.heap.size) w (W3.setCell ⟨W1.heap.size, 3, none⟩ (.slice Au sl.length cu)) := Kept.of_below HB4.out fun _ hi => hi
        have hFF : ∀ i, i < w.heap.size → (i ≠ xb ∧ ¬ Y i) → i < w.heap.size ∧ (i ≠ xb ∧ ¬ Y i) := fun i hi hh => ⟨hi, hh⟩
        have hrow := HU.out.kept hg4 (.inr (fun e => by have := (hu.lt W1.heap.size e).1; rw [World.size_alloc] at hlo; omega))
        have cS := set_calls i ⟨{ d with ba := sl }, .slice P1 p1 c1, .slice P2 p2 c2, .slice Au sl.length cu⟩ xb base Y es _ (H.out.same HB4.out) (Nat.le_trans hB HB4.out.size) hi2
          ⟨N1.out.keep hk4 hFF, N2.out.keep hk4 hFF, LiAt.of_own hrow (fun i hi _ => ⟨by omega, fun hy => by have := H.out.yl i hy; omega⟩)⟩ hlen
        have hset := HSET.out ⟨{ d with ba := sl }, .slice P1 p1 c1, .slice P2 p2 c2, .slice Au sl.length cu⟩ rfl
        have HSE := Lib.hid hset
        simp only [rowA, HIN.out] at cS
        have CS := Lib.hid cS
        clear hu hu2 hO3 hO4 hg4 hk4 hFF hrow hset cS hb3 hb2 q0 q1 q2 q3 q4 q5 q6 q7 q8 q9 q10 q11 e0 e1 e2 e3 e4 e5 e6 e7 e8 e9 e10 e11
        go_wp2_with fail
        refine CS.out.mono ?_
        rintro e W5 ⟨rfl, hdoc, hg5⟩
        have HDOC := Lib.hid hdoc
        have HG5 := Lib.hid hg5
        clear hdoc hg5
        go_wp2
        go_ret
        first
          | exact ⟨_, rfl, HSE.out, HDOC.out, (only_of_below HB4.out _).trans HG5.out⟩
          | exact ⟨rfl, _, HSE.out, HDOC.out, (only_of_below HB4.out _).trans HG5.out⟩
      · have hne : ¬ ((([] : List It.Item), (51 : Int)).2 = 0) := by simp
        rw [if_neg hz, if_neg hne] at hC2
        subst hC2
        have hl2 : 0 < (eachL restF l d.ba).length := by omega
        have hd : decide (((eachL restF l d.ba).length : Int) > 0) = true := by simp; omega
        generalize (eachL restF l d.ba).length = n at *
        clear hu hz HC hmd hne cR
        go_wp2
        go_ret
        first
          | exact ⟨es, rfl, rfl, H.out.same HBR.out, only_of_below HBR.out _⟩
          | exact ⟨rfl, es, rfl, H.out.same HBR.out, only_of_below HBR.out _⟩
end Pc
end Go.Proofs.YtdbkkldgobkjcaaGreat

namespace Go.Proofs.YtdbkkldgobkjcaaGreat
open Go.RowKit Go.Maps
namespace Pc
open It Mv

theorem isIn_other {d : Row} {sl : List It.Item} {r k : Int} {b : Bool} (hne : k ≠ r) (h : isIn d k = b) : isIn { d with sh := sl, fr := mPut intK d.fr r (.bool true) } k = b := by
  rw [← h]
  unfold isIn
  rw [mGet_put_other _ _ _ _ hne]
theorem isIn_same {d : Row} {sl : List It.Item} {r : Int} : isIn { d with sh := sl, fr := mPut intK d.fr r (.bool true) } r = true := by
  unfold isIn
  rw [mGet_put_same]
  rfl

set_option maxRecDepth 100000 in
set_option maxHeartbeats 16000000 in
theorem refship_calls (od r : Int) (l : List It.Item) (lv : Value) (xb base : Nat) (Y : Nat → Prop) (es : List DR) (w : World) (h : DocP w xb base Y es) (hs : SortedR (es.map (·.d))) (hB : base ≤ w.heap.size) (hI : LiAt w (fun i => i ≠ xb ∧ ¬ Y i) lv l) (hF : Fits l) (hok : ∀ p ∈ es, OkR p.d) (hlen : es.length ≤ 1099511627776) :
    Calls Tryz.prog 12 #[.pointer (some ⟨xb, 0, none⟩), .int .i64 od, .int .i64 r, lv] w fun e w' => ∃ es', e = .returned (.int .i64 (shipOf (es.map (·.d)) od r l).2) ∧
      es'.map (·.d) = (shipOf (es.map (·.d)) od r l).1 ∧ DocP w' xb base Y es' ∧ w.grownBy w' (some xb) := by
  have cF := Lib.hid (findP_calls od xb base Y es w h)
  have cMay := Lib.hid (refmay_calls l lv w hI.items hF)
  have H := Lib.hid h
  have HI := Lib.hid hI
  have HS := Lib.hid hs
  obtain ⟨Al, cl, rfl, hcl1, hcl2⟩ := hI.items.form
  unfold maxLen at hcl2
  have HC0 := Lib.hid (show shipOf (es.map (·.d)) od r l = if r < 0 ∨ 8 ≤ r then (es.map (·.d), 1) else match findR (es.map (·.d)) od with
    | none => (es.map (·.d), 4)
    | some d => if may l = false then (es.map (·.d), 60) else if isIn d r then (es.map (·.d), 5) else if (withinOf d.wa d.sh l).2 = 0 then (putR (es.map (·.d)) { d with sh := (withinOf d.wa d.sh l).1, fr := mPut intK d.fr r (.bool true) }, 0) else (es.map (·.d), (withinOf d.wa d.sh l).2) from rfl)
  generalize shipOf (es.map (·.d)) od r l = R at *
  by_cases hbad : r < 0 ∨ 8 ≤ r
  · obtain rfl : R = (es.map (·.d), 1) := by rw [HC0.out, if_pos hbad]
    have hcs : decide (r < 0) = true ∨ (decide (r < 0) = false ∧ decide (r > 7) = true) := by
      by_cases e : r < 0
      · exact .inl (by simpa using e)
      · exact .inr ⟨by simpa using e, by simp; omega⟩
    clear hbad h hI hs hok cF cMay
    rcases hcs with e1 | ⟨e1, e2⟩
    all_goals
      go_enter Tryz.func12, Tryz.ntmps12
      go_wp2
      go_ret
      exact ⟨es, rfl, rfl, H.out, only_of_below (Below.refl _ _) _⟩
  · have dr1 : decide (r < 0) = false := by simp; omega
    have dr2 : decide (r > 7) = false := by simp; omega
    have hC1 := HC0.out.trans (if_neg hbad)
    clear HC0
    rcases @idx_findR (es.map (·.d)) od with ⟨h1, h2⟩ | ⟨i, hi, h1, h2, hk⟩
    · rw [h2] at hC1
      dsimp only at hC1
      subst hC1
      rw [h1] at cF
      clear h h1 h2 hI hs hok hbad
      go_enter Tryz.func12, Tryz.ntmps12
      go_wp2_with (go_at_call 18; refine cF.out.mono ?_; rintro e W ⟨rfl, rfl⟩)
      go_ret
      exact ⟨es, rfl, rfl, H.out, only_of_below (Below.refl _ _) _⟩
    · rw [h1] at cF
      have hi2 : i < es.length := by simpa using hi
      have hds : (es.map (·.d))[i] = es[i].d := by simp
      rw [hds] at h2 hk
      rw [h2] at hC1
      dsimp only at hC1
      have hdi : decide ((i : Int) < 0) = false := by simp
      by_cases hm : may l = false
      · rw [if_pos hm] at hC1
        subst hC1
        rw [hm] at cMay
        clear h h1 h2 hI hs hok hds hk hbad
        go_enter Tryz.func12, Tryz.ntmps12
        go_wp2_with (first
          | (go_at_call 18; refine cF.out.mono ?_; rintro e W ⟨rfl, rfl⟩)
          | (go_at_call 46; refine cMay.out.mono ?_; rintro e W1 ⟨rfl, hb1⟩))
        go_ret
        exact ⟨es, rfl, rfl, H.out.same hb1, only_of_below hb1 _⟩
      · have hmt : may l = true := by simpa using hm
        have hM := (may_iff l).1 hmt
        have hd := hok es[i] (List.getElem_mem hi2)
        rw [hmt] at cMay
        rw [if_neg (by simp [hmt])] at hC1
        have HC := Lib.hid hC1
        have HSET := Lib.hid (fun (p : DR) (hp : p.d.od = es[i].d.od) => set_map es i hi2 hs p hp)
        obtain ⟨n1, n2, n3⟩ := h.nest es[i] (List.getElem_mem hi2)
        obtain ⟨v, hx, hv, -⟩ := h.ob
        have HX := Lib.hid hx
        have HV := Lib.hid hv
        have HXL := Lib.hid hx.lt
        obtain ⟨A, c, rfl, hc1, hc2, -⟩ := (Sl.of_own hv).at_
        unfold maxLen at hc2
        have hrr : r = 0 ∨ r = 1 ∨ r = 2 ∨ r = 3 ∨ r = 4 ∨ r = 5 ∨ r = 6 ∨ r = 7 := by omega
        clear hC1 h h1 h2 hI hs hok hds hk hm hx hv hbad
        go_enter Tryz.func12, Tryz.ntmps12
        go_wp2_with (go_at_call 18; refine cF.out.mono ?_; rintro e W ⟨rfl, rfl⟩)
        refine cMay.out.mono ?_
        rintro e W1 ⟨rfl, hb1⟩
        have gx := (HX.out.same hb1).cell (j := 0) (v := .slice A es.length c) rfl
        obtain ⟨bo, o, rfl, -, hbo, hcs⟩ := docP_cell (Sl.below (Sl.of_own HV.out) hb1) hi2
        generalize hp : es[i] = p at *
        obtain ⟨d, v1, v2, v3⟩ := p
        dsimp only at n1 n2 n3 hd
        have N1 := Lib.hid n1
        have N2 := Lib.hid n2
        have N3 := Lib.hid n3
        obtain ⟨P1, p1, c1, rfl⟩ := n1.form
        obtain ⟨P2, p2, c2, rfl⟩ := n2.form
        obtain ⟨P3, p3, c3, rfl⟩ := n3.form
        have e0 := hcs 0 _ rfl
        have e1 := hcs 1 _ rfl
        have e2 := hcs 2 _ rfl
        have e3 := hcs 3 _ rfl
        have e4 := hcs 4 _ rfl
        have e5 := hcs 5 _ rfl
        have e6 := hcs 6 _ rfl
        have e7 := hcs 7 _ rfl
        have e8 := hcs 8 _ rfl
        have e9 := hcs 9 _ rfl
        have e10 := hcs 10 _ rfl
        have e11 := hcs 11 _ rfl
        simp only [Nat.add_zero] at e0
        have hdl : decide ((i : Int) < (es.length : Int)) = true := by simp; omega
        have HP := Lib.hid hp
        have HD := Lib.hid hd
        have HM := Lib.hid hM
        generalize hB0 : isIn d 0 = b0 at *
        have HQ0 := Lib.hid hB0
        clear hB0
        generalize hB1 : isIn d 1 = b1 at *
        have HQ1 := Lib.hid hB1
        clear hB1
        generalize hB2 : isIn d 2 = b2 at *
        have HQ2 := Lib.hid hB2
        clear hB2
        generalize hB3 : isIn d 3 = b3 at *
        have HQ3 := Lib.hid hB3
        clear hB3
        generalize hB4 : isIn d 4 = b4 at *
        have HQ4 := Lib.hid hB4
        clear hB4
        generalize hB5 : isIn d 5 = b5 at *
        have HQ5 := Lib.hid hB5
        clear hB5
        generalize hB6 : isIn d 6 = b6 at *
        have HQ6 := Lib.hid hB6
        clear hB6
        generalize hB7 : isIn d 7 = b7 at *
        have HQ7 := Lib.hid hB7
        clear hB7
        have hb2 := hb1.alloc hb1.size (.cells #[.int .i64 d.od, .slice P1 p1 c1, .slice P2 p2 c2, .slice P3 p3 c3, .bool b0, .bool b1, .bool b2, .bool b3, .bool b4, .bool b5, .bool b6, .bool b7] 46)
        have hO := Ob.new W1 46 #[.int .i64 d.od, .slice P1 p1 c1, .slice P2 p2 c2, .slice P3 p3 c3, .bool b0, .bool b1, .bool b2, .bool b3, .bool b4, .bool b5, .bool b6, .bool b7]
        have HW1 := Lib.hid hb1.size
        have HO := Lib.hid hO
        obtain ⟨q0, q1, q2, q3, q4, q5, q6, q7, q8, q9, q10, q11⟩ := hO.twelve
        clear hcs n1 n2 n3 hp hd hM cF cMay hb1 hO dr1 dr2
        rcases hrr with rfl | rfl | rfl | rfl | rfl | rfl | rfl | rfl
        · have hC2 := HC.out
          dsimp only at hC2
          rw [HQ0.out] at hC2
          cases b0 with
          | true =>
            rw [if_pos rfl] at hC2
            subst hC2
            clear HC
            go_wp2
            go_ret
            first
              | exact ⟨es, rfl, rfl, H.out.same hb2, only_of_below hb2 _⟩
              | exact ⟨rfl, es, rfl, H.out.same hb2, only_of_below hb2 _⟩
          | false =>
            rw [if_neg (by simp)] at hC2
            by_cases hwc : (withinOf d.wa d.sh l).2 = 0
            · have cW := Lib.hid (fun W (hb : Below w.heap.size w W) => refwithin_calls' d.wa d.sh l _ _ _ W (N1.out.items.mono hb hb.size) (N2.out.items.mono hb hb.size) (HI.out.items.mono hb hb.size) HD.out.wa HD.out.sh HM.out true (by simpa using hwc))
              rw [if_pos hwc] at hC2
              generalize (withinOf d.wa d.sh l).1 = sl at *
              subst hC2
              clear HC hwc
              go_wp2_with fail
              refine (cW.out _ hb2).mono ?_
              rintro e W3 ⟨⟨u, rfl, hu⟩, hb3⟩
              have hu2 := ownsRow_wide hu hb2.size
              have HU := Lib.hid hu2
              obtain ⟨Au, cu, rfl, -⟩ := (toAt hu).form
              have HB3 := Lib.hid (hb2.trans (hb3.mono hb2.size))
              have hO3 := HO.out.same hb3
              have f3 := hO3.frozen 2
              have g3 := hO3.cell (j := 2) (v := .slice P2 p2 c2) rfl
              have hO4 := hO3.set 2 (.slice Au sl.length cu)
              have f4 := hO4.frozen 4
              have g4 := hO4.cell (j := 4) (v := .bool false) rfl
              have hO5 := hO4.set 4 (.bool true)
              obtain ⟨r0, r1, r2, r3, r4, r5, r6, r7, r8, r9, r10, r11⟩ := hO5.twelve
              have hg4 := grownBy_set W3 W1.heap.size 2 (.slice Au sl.length cu)
              have hg5 := grownBy_set (W3.setCell ⟨W1.heap.size, 2, none⟩ (.slice Au sl.length cu)) W1.heap.size 4 (.bool true)
              have hw1 := HW1.out
              have HB4 := Lib.hid ((HB3.out.grown hg4 HB3.out.size (fun g e => by cases e; exact hw1)).grown hg5 (HB3.out.grown hg4 HB3.out.size (fun g e => by cases e; exact hw1)).size (fun g e => by cases e; exact hw1))
              have hxl := HXL.out
              have hk4 : Kept (fun i => i < w.heap.size) w ((W3.setCell ⟨W1.heap.size, 2, none⟩ (.slice Au sl.length cu)).setCell ⟨W1.heap.size, 4, none⟩ (.bool true)) := Kept.of_below HB4.out fun _ hi => hi
              have hFF : ∀ i, i < w.heap.size → (i ≠ xb ∧ ¬ Y i) → i < w.heap.size ∧ (i ≠ xb ∧ ¬ Y i) := fun i hi hh => ⟨hi, hh⟩
              have hnb : (Value.slice Au sl.length cu).ownBlock ≠ some W1.heap.size := fun e => by have := (hu.lt W1.heap.size e).1; rw [World.size_alloc] at this; omega
              have hrow := (HU.out.kept hg4 (.inr hnb)).kept hg5 (.inr hnb)
              have cS := set_calls i ⟨{ d with sh := sl, fr := mPut intK d.fr 0 (.bool true) }, .slice P1 p1 c1, .slice Au sl.length cu, .slice P3 p3 c3⟩ xb base Y es _ (H.out.same HB4.out) (Nat.le_trans hB HB4.out.size) hi2
                ⟨N1.out.keep hk4 hFF, LiAt.of_own hrow (fun i hi _ => ⟨by omega, fun hy => by have := H.out.yl i hy; omega⟩), N3.out.keep hk4 hFF⟩ hlen
              have hset := HSET.out ⟨{ d with sh := sl, fr := mPut intK d.fr 0 (.bool true) }, .slice P1 p1 c1, .slice Au sl.length cu, .slice P3 p3 c3⟩ rfl
              have HSE := Lib.hid hset
              have j0 : isIn { d with sh := sl, fr := mPut intK d.fr 0 (.bool true) } 0 = true := isIn_same
              have j1 : isIn { d with sh := sl, fr := mPut intK d.fr 0 (.bool true) } 1 = b1 := isIn_other (by decide) HQ1.out
              have j2 : isIn { d with sh := sl, fr := mPut intK d.fr 0 (.bool true) } 2 = b2 := isIn_other (by decide) HQ2.out
              have j3 : isIn { d with sh := sl, fr := mPut intK d.fr 0 (.bool true) } 3 = b3 := isIn_other (by decide) HQ3.out
              have j4 : isIn { d with sh := sl, fr := mPut intK d.fr 0 (.bool true) } 4 = b4 := isIn_other (by decide) HQ4.out
              have j5 : isIn { d with sh := sl, fr := mPut intK d.fr 0 (.bool true) } 5 = b5 := isIn_other (by decide) HQ5.out
              have j6 : isIn { d with sh := sl, fr := mPut intK d.fr 0 (.bool true) } 6 = b6 := isIn_other (by decide) HQ6.out
              have j7 : isIn { d with sh := sl, fr := mPut intK d.fr 0 (.bool true) } 7 = b7 := isIn_other (by decide) HQ7.out
              simp only [rowA, j0, j1, j2, j3, j4, j5, j6, j7] at cS
              have CS := Lib.hid cS
              clear hu hu2 hO3 hO4 hO5 hg4 hg5 hk4 hFF hrow hset cS hb3 hb2 q0 q1 q2 q3 q4 q5 q6 q7 q8 q9 q10 q11 e0 e1 e2 e3 e4 e5 e6 e7 e8 e9 e10 e11 j0 j1 j2 j3 j4 j5 j6 j7 hnb
              go_wp2_with fail
              refine CS.out.mono ?_
              rintro e W5 ⟨rfl, hdoc, hg5⟩
              have HDOC := Lib.hid hdoc
              have HG5 := Lib.hid hg5
              clear hdoc hg5
              go_wp2
              go_ret
              first
                | exact ⟨_, rfl, HSE.out, HDOC.out, (only_of_below HB4.out _).trans HG5.out⟩
                | exact ⟨rfl, _, HSE.out, HDOC.out, (only_of_below HB4.out _).trans HG5.out⟩
            · have cW := Lib.hid (fun W (hb : Below w.heap.size w W) => refwithin_calls' d.wa d.sh l _ _ _ W (N1.out.items.mono hb hb.size) (N2.out.items.mono hb hb.size) (HI.out.items.mono hb hb.size) HD.out.wa HD.out.sh HM.out false (by simpa using hwc))
              rw [if_neg hwc] at hC2
              have h50 : (withinOf d.wa d.sh l).2 = 50 := by
                unfold withinOf at hwc ⊢
                split
                · rename_i h; rw [if_pos h] at hwc; exact (hwc rfl).elim
                · rfl
              rw [h50] at hC2
              generalize (withinOf d.wa d.sh l).1 = sl at *
              subst hC2
              clear HC hwc h50
              go_wp2_with fail
              refine (cW.out _ hb2).mono ?_
              rintro e W3 ⟨⟨u, rfl, hu⟩, hb3⟩
              obtain ⟨Au, cu, rfl, -⟩ := (toAt hu).form
              have HB3 := Lib.hid (hb2.trans (hb3.mono hb2.size))
              clear hb2 hb3 hu
              go_wp2
              go_ret
              first
                | exact ⟨es, rfl, rfl, H.out.same HB3.out, only_of_below HB3.out _⟩
                | exact ⟨rfl, es, rfl, H.out.same HB3.out, only_of_below HB3.out _⟩
        · have hC2 := HC.out
          dsimp only at hC2
          rw [HQ1.out] at hC2
          cases b1 with
          | true =>
            rw [if_pos rfl] at hC2
            subst hC2
            clear HC
            go_wp2
            go_ret
            first
              | exact ⟨es, rfl, rfl, H.out.same hb2, only_of_below hb2 _⟩
              | exact ⟨rfl, es, rfl, H.out.same hb2, only_of_below hb2 _⟩
          | false =>
            rw [if_neg (by simp)] at hC2
            by_cases hwc : (withinOf d.wa d.sh l).2 = 0
            · have cW := Lib.hid (fun W (hb : Below w.heap.size w W) => refwithin_calls' d.wa d.sh l _ _ _ W (N1.out.items.mono hb hb.size) (N2.out.items.mono hb hb.size) (HI.out.items.mono hb hb.size) HD.out.wa HD.out.sh HM.out true (by simpa using hwc))
              rw [if_pos hwc] at hC2
              generalize (withinOf d.wa d.sh l).1 = sl at *
              subst hC2
              clear HC hwc
              go_wp2_with fail
              refine (cW.out _ hb2).mono ?_
              rintro e W3 ⟨⟨u, rfl, hu⟩, hb3⟩
              have hu2 := ownsRow_wide hu hb2.size
              have HU := Lib.hid hu2
              obtain ⟨Au, cu, rfl, -⟩ := (toAt hu).form
              have HB3 := Lib.hid (hb2.trans (hb3.mono hb2.size))
              have hO3 := HO.out.same hb3
              have f3 := hO3.frozen 2
              have g3 := hO3.cell (j := 2) (v := .slice P2 p2 c2) rfl
              have hO4 := hO3.set 2 (.slice Au sl.length cu)
              have f4 := hO4.frozen 5
              have g4 := hO4.cell (j := 5) (v := .bool false) rfl
              have hO5 := hO4.set 5 (.bool true)
              obtain ⟨r0, r1, r2, r3, r4, r5, r6, r7, r8, r9, r10, r11⟩ := hO5.twelve
              have hg4 := grownBy_set W3 W1.heap.size 2 (.slice Au sl.length cu)
              have hg5 := grownBy_set (W3.setCell ⟨W1.heap.size, 2, none⟩ (.slice Au sl.length cu)) W1.heap.size 5 (.bool true)
              have hw1 := HW1.out
              have HB4 := Lib.hid ((HB3.out.grown hg4 HB3.out.size (fun g e => by cases e; exact hw1)).grown hg5 (HB3.out.grown hg4 HB3.out.size (fun g e => by cases e; exact hw1)).size (fun g e => by cases e; exact hw1))
              have hxl := HXL.out
              have hk4 : Kept (fun i => i < w.heap.size) w ((W3.setCell ⟨W1.heap.size, 2, none⟩ (.slice Au sl.length cu)).setCell ⟨W1.heap.size, 5, none⟩ (.bool true)) := Kept.of_below HB4.out fun _ hi => hi
              have hFF : ∀ i, i < w.heap.size → (i ≠ xb ∧ ¬ Y i) → i < w.heap.size ∧ (i ≠ xb ∧ ¬ Y i) := fun i hi hh => ⟨hi, hh⟩
              have hnb : (Value.slice Au sl.length cu).ownBlock ≠ some W1.heap.size := fun e => by have := (hu.lt W1.heap.size e).1; rw [World.size_alloc] at this; omega
              have hrow := (HU.out.kept hg4 (.inr hnb)).kept hg5 (.inr hnb)
              have cS := set_calls i ⟨{ d with sh := sl, fr := mPut intK d.fr 1 (.bool true) }, .slice P1 p1 c1, .slice Au sl.length cu, .slice P3 p3 c3⟩ xb base Y es _ (H.out.same HB4.out) (Nat.le_trans hB HB4.out.size) hi2
                ⟨N1.out.keep hk4 hFF, LiAt.of_own hrow (fun i hi _ => ⟨by omega, fun hy => by have := H.out.yl i hy; omega⟩), N3.out.keep hk4 hFF⟩ hlen
              have hset := HSET.out ⟨{ d with sh := sl, fr := mPut intK d.fr 1 (.bool true) }, .slice P1 p1 c1, .slice Au sl.length cu, .slice P3 p3 c3⟩ rfl
              have HSE := Lib.hid hset
              have j0 : isIn { d with sh := sl, fr := mPut intK d.fr 1 (.bool true) } 0 = b0 := isIn_other (by decide) HQ0.out
              have j1 : isIn { d with sh := sl, fr := mPut intK d.fr 1 (.bool true) } 1 = true := isIn_same
              have j2 : isIn { d with sh := sl, fr := mPut intK d.fr 1 (.bool true) } 2 = b2 := isIn_other (by decide) HQ2.out
              have j3 : isIn { d with sh := sl, fr := mPut intK d.fr 1 (.bool true) } 3 = b3 := isIn_other (by decide) HQ3.out
              have j4 : isIn { d with sh := sl, fr := mPut intK d.fr 1 (.bool true) } 4 = b4 := isIn_other (by decide) HQ4.out
              have j5 : isIn { d with sh := sl, fr := mPut intK d.fr 1 (.bool true) } 5 = b5 := isIn_other (by decide) HQ5.out
              have j6 : isIn { d with sh := sl, fr := mPut intK d.fr 1 (.bool true) } 6 = b6 := isIn_other (by decide) HQ6.out
              have j7 : isIn { d with sh := sl, fr := mPut intK d.fr 1 (.bool true) } 7 = b7 := isIn_other (by decide) HQ7.out
              simp only [rowA, j0, j1, j2, j3, j4, j5, j6, j7] at cS
              have CS := Lib.hid cS
              clear hu hu2 hO3 hO4 hO5 hg4 hg5 hk4 hFF hrow hset cS hb3 hb2 q0 q1 q2 q3 q4 q5 q6 q7 q8 q9 q10 q11 e0 e1 e2 e3 e4 e5 e6 e7 e8 e9 e10 e11 j0 j1 j2 j3 j4 j5 j6 j7 hnb
              go_wp2_with fail
              refine CS.out.mono ?_
              rintro e W5 ⟨rfl, hdoc, hg5⟩
              have HDOC := Lib.hid hdoc
              have HG5 := Lib.hid hg5
              clear hdoc hg5
              go_wp2
              go_ret
              first
                | exact ⟨_, rfl, HSE.out, HDOC.out, (only_of_below HB4.out _).trans HG5.out⟩
                | exact ⟨rfl, _, HSE.out, HDOC.out, (only_of_below HB4.out _).trans HG5.out⟩
            · have cW := Lib.hid (fun W (hb : Below w.heap.size w W) => refwithin_calls' d.wa d.sh l _ _ _ W (N1.out.items.mono hb hb.size) (N2.out.items.mono hb hb.size) (HI.out.items.mono hb hb.size) HD.out.wa HD.out.sh HM.out false (by simpa using hwc))
              rw [if_neg hwc] at hC2
              have h50 : (withinOf d.wa d.sh l).2 = 50 := by
                unfold withinOf at hwc ⊢
                split
                · rename_i h; rw [if_pos h] at hwc; exact (hwc rfl).elim
                · rfl
              rw [h50] at hC2
              generalize (withinOf d.wa d.sh l).1 = sl at *
              subst hC2
              clear HC hwc h50
              go_wp2_with fail
              refine (cW.out _ hb2).mono ?_
              rintro e W3 ⟨⟨u, rfl, hu⟩, hb3⟩
              obtain ⟨Au, cu, rfl, -⟩ := (toAt hu).form
              have HB3 := Lib.hid (hb2.trans (hb3.mono hb2.size))
              clear hb2 hb3 hu
              go_wp2
              go_ret
              first
                | exact ⟨es, rfl, rfl, H.out.same HB3.out, only_of_below HB3.out _⟩
                | exact ⟨rfl, es, rfl, H.out.same HB3.out, only_of_below HB3.out _⟩
        · have hC2 := HC.out
          dsimp only at hC2
          rw [HQ2.out] at hC2
          cases b2 with
          | true =>
            rw [if_pos rfl] at hC2
            subst hC2
            clear HC
            go_wp2
            go_ret
            first
              | exact ⟨es, rfl, rfl, H.out.same hb2, only_of_below hb2 _⟩
              | exact ⟨rfl, es, rfl, H.out.same hb2, only_of_below hb2 _⟩
          | false =>
            rw [if_neg (by simp)] at hC2
            by_cases hwc : (withinOf d.wa d.sh l).2 = 0
            · have cW := Lib.hid (fun W (hb : Below w.heap.size w W) => refwithin_calls' d.wa d.sh l _ _ _ W (N1.out.items.mono hb hb.size) (N2.out.items.mono hb hb.size) (HI.out.items.mono hb hb.size) HD.out.wa HD.out.sh HM.out true (by simpa using hwc))
              rw [if_pos hwc] at hC2
              generalize (withinOf d.wa d.sh l).1 = sl at *
              subst hC2
              clear HC hwc
              go_wp2_with fail
              refine (cW.out _ hb2).mono ?_
              rintro e W3 ⟨⟨u, rfl, hu⟩, hb3⟩
              have hu2 := ownsRow_wide hu hb2.size
              have HU := Lib.hid hu2
              obtain ⟨Au, cu, rfl, -⟩ := (toAt hu).form
              have HB3 := Lib.hid (hb2.trans (hb3.mono hb2.size))
              have hO3 := HO.out.same hb3
              have f3 := hO3.frozen 2
              have g3 := hO3.cell (j := 2) (v := .slice P2 p2 c2) rfl
              have hO4 := hO3.set 2 (.slice Au sl.length cu)
              have f4 := hO4.frozen 6
              have g4 := hO4.cell (j := 6) (v := .bool false) rfl
              have hO5 := hO4.set 6 (.bool true)
              obtain ⟨r0, r1, r2, r3, r4, r5, r6, r7, r8, r9, r10, r11⟩ := hO5.twelve
              have hg4 := grownBy_set W3 W1.heap.size 2 (.slice Au sl.length cu)
              have hg5 := grownBy_set (W3.setCell ⟨W1.heap.size, 2, none⟩ (.slice Au sl.length cu)) W1.heap.size 6 (.bool true)
              have hw1 := HW1.out
              have HB4 := Lib.hid ((HB3.out.grown hg4 HB3.out.size (fun g e => by cases e; exact hw1)).grown hg5 (HB3.out.grown hg4 HB3.out.size (fun g e => by cases e; exact hw1)).size (fun g e => by cases e; exact hw1))
              have hxl := HXL.out
              have hk4 : Kept (fun i => i < w.heap.size) w ((W3.setCell ⟨W1.heap.size, 2, none⟩ (.slice Au sl.length cu)).setCell ⟨W1.heap.size, 6, none⟩ (.bool true)) := Kept.of_below HB4.out fun _ hi => hi
              have hFF : ∀ i, i < w.heap.size → (i ≠ xb ∧ ¬ Y i) → i < w.heap.size ∧ (i ≠ xb ∧ ¬ Y i) := fun i hi hh => ⟨hi, hh⟩
              have hnb : (Value.slice Au sl.length cu).ownBlock ≠ some W1.heap.size := fun e => by have := (hu.lt W1.heap.size e).1; rw [World.size_alloc] at this; omega
              have hrow := (HU.out.kept hg4 (.inr hnb)).kept hg5 (.inr hnb)
              have cS := set_calls i ⟨{ d with sh := sl, fr := mPut intK d.fr 2 (.bool true) }, .slice P1 p1 c1, .slice Au sl.length cu, .slice P3 p3 c3⟩ xb base Y es _ (H.out.same HB4.out) (Nat.le_trans hB HB4.out.size) hi2
                ⟨N1.out.keep hk4 hFF, LiAt.of_own hrow (fun i hi _ => ⟨by omega, fun hy => by have := H.out.yl i hy; omega⟩), N3.out.keep hk4 hFF⟩ hlen
              have hset := HSET.out ⟨{ d with sh := sl, fr := mPut intK d.fr 2 (.bool true) }, .slice P1 p1 c1, .slice Au sl.length cu, .slice P3 p3 c3⟩ rfl
              have HSE := Lib.hid hset
              have j0 : isIn { d with sh := sl, fr := mPut intK d.fr 2 (.bool true) } 0 = b0 := isIn_other (by decide) HQ0.out
              have j1 : isIn { d with sh := sl, fr := mPut intK d.fr 2 (.bool true) } 1 = b1 := isIn_other (by decide) HQ1.out
              have j2 : isIn { d with sh := sl, fr := mPut intK d.fr 2 (.bool true) } 2 = true := isIn_same
              have j3 : isIn { d with sh := sl, fr := mPut intK d.fr 2 (.bool true) } 3 = b3 := isIn_other (by decide) HQ3.out
              have j4 : isIn { d with sh := sl, fr := mPut intK d.fr 2 (.bool true) } 4 = b4 := isIn_other (by decide) HQ4.out
              have j5 : isIn { d with sh := sl, fr := mPut intK d.fr 2 (.bool true) } 5 = b5 := isIn_other (by decide) HQ5.out
              have j6 : isIn { d with sh := sl, fr := mPut intK d.fr 2 (.bool true) } 6 = b6 := isIn_other (by decide) HQ6.out
              have j7 : isIn { d with sh := sl, fr := mPut intK d.fr 2 (.bool true) } 7 = b7 := isIn_other (by decide) HQ7.out
              simp only [rowA, j0, j1, j2, j3, j4, j5, j6, j7] at cS
              have CS := Lib.hid cS
              clear hu hu2 hO3 hO4 hO5 hg4 hg5 hk4 hFF hrow hset cS hb3 hb2 q0 q1 q2 q3 q4 q5 q6 q7 q8 q9 q10 q11 e0 e1 e2 e3 e4 e5 e6 e7 e8 e9 e10 e11 j0 j1 j2 j3 j4 j5 j6 j7 hnb
              go_wp2_with fail
              refine CS.out.mono ?_
              rintro e W5 ⟨rfl, hdoc, hg5⟩
              have HDOC := Lib.hid hdoc
              have HG5 := Lib.hid hg5
              clear hdoc hg5
              go_wp2
              go_ret
              first
                | exact ⟨_, rfl, HSE.out, HDOC.out, (only_of_below HB4.out _).trans HG5.out⟩
                | exact ⟨rfl, _, HSE.out, HDOC.out, (only_of_below HB4.out _).trans HG5.out⟩
            · have cW := Lib.hid (fun W (hb : Below w.heap.size w W) => refwithin_calls' d.wa d.sh l _ _ _ W (N1.out.items.mono hb hb.size) (N2.out.items.mono hb hb.size) (HI.out.items.mono hb hb.size) HD.out.wa HD.out.sh HM.out false (by simpa using hwc))
              rw [if_neg hwc] at hC2
              have h50 : (withinOf d.wa d.sh l).2 = 50 := by
                unfold withinOf at hwc ⊢
                split
                · rename_i h; rw [if_pos h] at hwc; exact (hwc rfl).elim
                · rfl
              rw [h50] at hC2
              generalize (withinOf d.wa d.sh l).1 = sl at *
              subst hC2
              clear HC hwc h50
              go_wp2_with fail
              refine (cW.out _ hb2).mono ?_
              rintro e W3 ⟨⟨u, rfl, hu⟩, hb3⟩
              obtain ⟨Au, cu, rfl, -⟩ := (toAt hu).form
              have HB3 := Lib.hid (hb2.trans (hb3.mono hb2.size))
              clear hb2 hb3 hu
              go_wp2
              go_ret
              first
                | exact ⟨es, rfl, rfl, H.out.same HB3.out, only_of_below HB3.out _⟩
                | exact ⟨rfl, es, rfl, H.out.same HB3.out, only_of_below HB3.out _⟩
        · have hC2 := HC.out
          dsimp only at hC2
          rw [HQ3.out] at hC2
          cases b3 with
          | true =>
            rw [if_pos rfl] at hC2
            subst hC2
            clear HC
            go_wp2
            go_ret
            first
              | exact ⟨es, rfl, rfl, H.out.same hb2, only_of_below hb2 _⟩
              | exact ⟨rfl, es, rfl, H.out.same hb2, only_of_below hb2 _⟩
          | false =>
            rw [if_neg (by simp)] at hC2
            by_cases hwc : (withinOf d.wa d.sh l).2 = 0
            · have cW := Lib.hid (fun W (hb : Below w.heap.size w W) => refwithin_calls' d.wa d.sh l _ _ _ W (N1.out.items.mono hb hb.size) (N2.out.items.mono hb hb.size) (HI.out.items.mono hb hb.size) HD.out.wa HD.out.sh HM.out true (by simpa using hwc))
              rw [if_pos hwc] at hC2
              generalize (withinOf d.wa d.sh l).1 = sl at *
              subst hC2
              clear HC hwc
              go_wp2_with fail
              refine (cW.out _ hb2).mono ?_
              rintro e W3 ⟨⟨u, rfl, hu⟩, hb3⟩
              have hu2 := ownsRow_wide hu hb2.size
              have HU := Lib.hid hu2
              obtain ⟨Au, cu, rfl, -⟩ := (toAt hu).form
              have HB3 := Lib.hid (hb2.trans (hb3.mono hb2.size))
              have hO3 := HO.out.same hb3
              have f3 := hO3.frozen 2
              have g3 := hO3.cell (j := 2) (v := .slice P2 p2 c2) rfl
              have hO4 := hO3.set 2 (.slice Au sl.length cu)
              have f4 := hO4.frozen 7
              have g4 := hO4.cell (j := 7) (v := .bool false) rfl
              have hO5 := hO4.set 7 (.bool true)
              obtain ⟨r0, r1, r2, r3, r4, r5, r6, r7, r8, r9, r10, r11⟩ := hO5.twelve
              have hg4 := grownBy_set W3 W1.heap.size 2 (.slice Au sl.length cu)
              have hg5 := grownBy_set (W3.setCell ⟨W1.heap.size, 2, none⟩ (.slice Au sl.length cu)) W1.heap.size 7 (.bool true)
              have hw1 := HW1.out
              have HB4 := Lib.hid ((HB3.out.grown hg4 HB3.out.size (fun g e => by cases e; exact hw1)).grown hg5 (HB3.out.grown hg4 HB3.out.size (fun g e => by cases e; exact hw1)).size (fun g e => by cases e; exact hw1))
              have hxl := HXL.out
              have hk4 : Kept (fun i => i < w.heap.size) w ((W3.setCell ⟨W1.heap.size, 2, none⟩ (.slice Au sl.length cu)).setCell ⟨W1.heap.size, 7, none⟩ (.bool true)) := Kept.of_below HB4.out fun _ hi => hi
              have hFF : ∀ i, i < w.heap.size → (i ≠ xb ∧ ¬ Y i) → i < w.heap.size ∧ (i ≠ xb ∧ ¬ Y i) := fun i hi hh => ⟨hi, hh⟩
              have hnb : (Value.slice Au sl.length cu).ownBlock ≠ some W1.heap.size := fun e => by have := (hu.lt W1.heap.size e).1; rw [World.size_alloc] at this; omega
              have hrow := (HU.out.kept hg4 (.inr hnb)).kept hg5 (.inr hnb)
              have cS := set_calls i ⟨{ d with sh := sl, fr := mPut intK d.fr 3 (.bool true) }, .slice P1 p1 c1, .slice Au sl.length cu, .slice P3 p3 c3⟩ xb base Y es _ (H.out.same HB4.out) (Nat.le_trans hB HB4.out.size) hi2
                ⟨N1.out.keep hk4 hFF, LiAt.of_own hrow (fun i hi _ => ⟨by omega, fun hy => by have := H.out.yl i hy; omega⟩), N3.out.keep hk4 hFF⟩ hlen
              have hset := HSET.out ⟨{ d with sh := sl, fr := mPut intK d.fr 3 (.bool true) }, .slice P1 p1 c1, .slice Au sl.length cu, .slice P3 p3 c3⟩ rfl
              have HSE := Lib.hid hset
              have j0 : isIn { d with sh := sl, fr := mPut intK d.fr 3 (.bool true) } 0 = b0 := isIn_other (by decide) HQ0.out
              have j1 : isIn { d with sh := sl, fr := mPut intK d.fr 3 (.bool true) } 1 = b1 := isIn_other (by decide) HQ1.out
              have j2 : isIn { d with sh := sl, fr := mPut intK d.fr 3 (.bool true) } 2 = b2 := isIn_other (by decide) HQ2.out
              have j3 : isIn { d with sh := sl, fr := mPut intK d.fr 3 (.bool true) } 3 = true := isIn_same
              have j4 : isIn { d with sh := sl, fr := mPut intK d.fr 3 (.bool true) } 4 = b4 := isIn_other (by decide) HQ4.out
              have j5 : isIn { d with sh := sl, fr := mPut intK d.fr 3 (.bool true) } 5 = b5 := isIn_other (by decide) HQ5.out
              have j6 : isIn { d with sh := sl, fr := mPut intK d.fr 3 (.bool true) } 6 = b6 := isIn_other (by decide) HQ6.out
              have j7 : isIn { d with sh := sl, fr := mPut intK d.fr 3 (.bool true) } 7 = b7 := isIn_other (by decide) HQ7.out
              simp only [rowA, j0, j1, j2, j3, j4, j5, j6, j7] at cS
              have CS := Lib.hid cS
              clear hu hu2 hO3 hO4 hO5 hg4 hg5 hk4 hFF hrow hset cS hb3 hb2 q0 q1 q2 q3 q4 q5 q6 q7 q8 q9 q10 q11 e0 e1 e2 e3 e4 e5 e6 e7 e8 e9 e10 e11 j0 j1 j2 j3 j4 j5 j6 j7 hnb
              go_wp2_with fail
              refine CS.out.mono ?_
              rintro e W5 ⟨rfl, hdoc, hg5⟩
              have HDOC := Lib.hid hdoc
              have HG5 := Lib.hid hg5
              clear hdoc hg5
              go_wp2
              go_ret
              first
                | exact ⟨_, rfl, HSE.out, HDOC.out, (only_of_below HB4.out _).trans HG5.out⟩
                | exact ⟨rfl, _, HSE.out, HDOC.out, (only_of_below HB4.out _).trans HG5.out⟩
            · have cW := Lib.hid (fun W (hb : Below w.heap.size w W) => refwithin_calls' d.wa d.sh l _ _ _ W (N1.out.items.mono hb hb.size) (N2.out.items.mono hb hb.size) (HI.out.items.mono hb hb.size) HD.out.wa HD.out.sh HM.out false (by simpa using hwc))
              rw [if_neg hwc] at hC2
              have h50 : (withinOf d.wa d.sh l).2 = 50 := by
                unfold withinOf at hwc ⊢
                split
                · rename_i h; rw [if_pos h] at hwc; exact (hwc rfl).elim
                · rfl
              rw [h50] at hC2
              generalize (withinOf d.wa d.sh l).1 = sl at *
              subst hC2
              clear HC hwc h50
              go_wp2_with fail
              refine (cW.out _ hb2).mono ?_
              rintro e W3 ⟨⟨u, rfl, hu⟩, hb3⟩
              obtain ⟨Au, cu, rfl, -⟩ := (toAt hu).form
              have HB3 := Lib.hid (hb2.trans (hb3.mono hb2.size))
              clear hb2 hb3 hu
              go_wp2
              go_ret
              first
                | exact ⟨es, rfl, rfl, H.out.same HB3.out, only_of_below HB3.out _⟩
                | exact ⟨rfl, es, rfl, H.out.same HB3.out, only_of_below HB3.out _⟩
        · have hC2 := HC.out
          dsimp only at hC2
          rw [HQ4.out] at hC2
          cases b4 with
          | true =>
            rw [if_pos rfl] at hC2
            subst hC2
            clear HC
            go_wp2
            go_ret
            first
              | exact ⟨es, rfl, rfl, H.out.same hb2, only_of_below hb2 _⟩
              | exact ⟨rfl, es, rfl, H.out.same hb2, only_of_below hb2 _⟩
          | false =>
            rw [if_neg (by simp)] at hC2
            by_cases hwc : (withinOf d.wa d.sh l).2 = 0
            · have cW := Lib.hid (fun W (hb : Below w.heap.size w W) => refwithin_calls' d.wa d.sh l _ _ _ W (N1.out.items.mono hb hb.size) (N2.out.items.mono hb hb.size) (HI.out.items.mono hb hb.size) HD.out.wa HD.out.sh HM.out true (by simpa using hwc))
              rw [if_pos hwc] at hC2
              generalize (withinOf d.wa d.sh l).1 = sl at *
              subst hC2
              clear HC hwc
              go_wp2_with fail
              refine (cW.out _ hb2).mono ?_
              rintro e W3 ⟨⟨u, rfl, hu⟩, hb3⟩
              have hu2 := ownsRow_wide hu hb2.size
              have HU := Lib.hid hu2
              obtain ⟨Au, cu, rfl, -⟩ := (toAt hu).form
              have HB3 := Lib.hid (hb2.trans (hb3.mono hb2.size))
              have hO3 := HO.out.same hb3
              have f3 := hO3.frozen 2
              have g3 := hO3.cell (j := 2) (v := .slice P2 p2 c2) rfl
              have hO4 := hO3.set 2 (.slice Au sl.length cu)
              have f4 := hO4.frozen 8
              have g4 := hO4.cell (j := 8) (v := .bool false) rfl
              have hO5 := hO4.set 8 (.bool true)
              obtain ⟨r0, r1, r2, r3, r4, r5, r6, r7, r8, r9, r10, r11⟩ := hO5.twelve
              have hg4 := grownBy_set W3 W1.heap.size 2 (.slice Au sl.length cu)
              have hg5 := grownBy_set (W3.setCell ⟨W1.heap.size, 2, none⟩ (.slice Au sl.length cu)) W1.heap.size 8 (.bool true)
              have hw1 := HW1.out
              have HB4 := Lib.hid ((HB3.out.grown hg4 HB3.out.size (fun g e => by cases e; exact hw1)).grown hg5 (HB3.out.grown hg4 HB3.out.size (fun g e => by cases e; exact hw1)).size (fun g e => by cases e; exact hw1))
              have hxl := HXL.out
              have hk4 : Kept (fun i => i < w.heap.size) w ((W3.setCell ⟨W1.heap.size, 2, none⟩ (.slice Au sl.length cu)).setCell ⟨W1.heap.size, 8, none⟩ (.bool true)) := Kept.of_below HB4.out fun _ hi => hi
              have hFF : ∀ i, i < w.heap.size → (i ≠ xb ∧ ¬ Y i) → i < w.heap.size ∧ (i ≠ xb ∧ ¬ Y i) := fun i hi hh => ⟨hi, hh⟩
              have hnb : (Value.slice Au sl.length cu).ownBlock ≠ some W1.heap.size := fun e => by have := (hu.lt W1.heap.size e).1; rw [World.size_alloc] at this; omega
              have hrow := (HU.out.kept hg4 (.inr hnb)).kept hg5 (.inr hnb)
              have cS := set_calls i ⟨{ d with sh := sl, fr := mPut intK d.fr 4 (.bool true) }, .slice P1 p1 c1, .slice Au sl.length cu, .slice P3 p3 c3⟩ xb base Y es _ (H.out.same HB4.out) (Nat.le_trans hB HB4.out.size) hi2
                ⟨N1.out.keep hk4 hFF, LiAt.of_own hrow (fun i hi _ => ⟨by omega, fun hy => by have := H.out.yl i hy; omega⟩), N3.out.keep hk4 hFF⟩ hlen
              have hset := HSET.out ⟨{ d with sh := sl, fr := mPut intK d.fr 4 (.bool true) }, .slice P1 p1 c1, .slice Au sl.length cu, .slice P3 p3 c3⟩ rfl
              have HSE := Lib.hid hset
              have j0 : isIn { d with sh := sl, fr := mPut intK d.fr 4 (.bool true) } 0 = b0 := isIn_other (by decide) HQ0.out
              have j1 : isIn { d with sh := sl, fr := mPut intK d.fr 4 (.bool true) } 1 = b1 := isIn_other (by decide) HQ1.out
              have j2 : isIn { d with sh := sl, fr := mPut intK d.fr 4 (.bool true) } 2 = b2 := isIn_other (by decide) HQ2.out
              have j3 : isIn { d with sh := sl, fr := mPut intK d.fr 4 (.bool true) } 3 = b3 := isIn_other (by decide) HQ3.out
              have j4 : isIn { d with sh := sl, fr := mPut intK d.fr 4 (.bool true) } 4 = true := isIn_same
              have j5 : isIn { d with sh := sl, fr := mPut intK d.fr 4 (.bool true) } 5 = b5 := isIn_other (by decide) HQ5.out
              have j6 : isIn { d with sh := sl, fr := mPut intK d.fr 4 (.bool true) } 6 = b6 := isIn_other (by decide) HQ6.out
              have j7 : isIn { d with sh := sl, fr := mPut intK d.fr 4 (.bool true) } 7 = b7 := isIn_other (by decide) HQ7.out
              simp only [rowA, j0, j1, j2, j3, j4, j5, j6, j7] at cS
              have CS := Lib.hid cS
              clear hu hu2 hO3 hO4 hO5 hg4 hg5 hk4 hFF hrow hset cS hb3 hb2 q0 q1 q2 q3 q4 q5 q6 q7 q8 q9 q10 q11 e0 e1 e2 e3 e4 e5 e6 e7 e8 e9 e10 e11 j0 j1 j2 j3 j4 j5 j6 j7 hnb
              go_wp2_with fail
              refine CS.out.mono ?_
              rintro e W5 ⟨rfl, hdoc, hg5⟩
              have HDOC := Lib.hid hdoc
              have HG5 := Lib.hid hg5
              clear hdoc hg5
              go_wp2
              go_ret
              first
                | exact ⟨_, rfl, HSE.out, HDOC.out, (only_of_below HB4.out _).trans HG5.out⟩
                | exact ⟨rfl, _, HSE.out, HDOC.out, (only_of_below HB4.out _).trans HG5.out⟩
            · have cW := Lib.hid (fun W (hb : Below w.heap.size w W) => refwithin_calls' d.wa d.sh l _ _ _ W (N1.out.items.mono hb hb.size) (N2.out.items.mono hb hb.size) (HI.out.items.mono hb hb.size) HD.out.wa HD.out.sh HM.out false (by simpa using hwc))
              rw [if_neg hwc] at hC2
              have h50 : (withinOf d.wa d.sh l).2 = 50 := by
                unfold withinOf at hwc ⊢
                split
                · rename_i h; rw [if_pos h] at hwc; exact (hwc rfl).elim
                · rfl
              rw [h50] at hC2
              generalize (withinOf d.wa d.sh l).1 = sl at *
              subst hC2
              clear HC hwc h50
              go_wp2_with fail
              refine (cW.out _ hb2).mono ?_
              rintro e W3 ⟨⟨u, rfl, hu⟩, hb3⟩
              obtain ⟨Au, cu, rfl, -⟩ := (toAt hu).form
              have HB3 := Lib.hid (hb2.trans (hb3.mono hb2.size))
              clear hb2 hb3 hu
              go_wp2
              go_ret
              first
                | exact ⟨es, rfl, rfl, H.out.same HB3.out, only_of_below HB3.out _⟩
                | exact ⟨rfl, es, rfl, H.out.same HB3.out, only_of_below HB3.out _⟩
        · have hC2 := HC.out
          dsimp only at hC2
          rw [HQ5.out] at hC2
          cases b5 with
          | true =>
            rw [if_pos rfl] at hC2
            subst hC2
            clear HC
            go_wp2
            go_ret
            first
              | exact ⟨es, rfl, rfl, H.out.same hb2, only_of_below hb2 _⟩
              | exact ⟨rfl, es, rfl, H.out.same hb2, only_of_below hb2 _⟩
          | false =>
            rw [if_neg (by simp)] at hC2
            by_cases hwc : (withinOf d.wa d.sh l).2 = 0
            · have cW := Lib.hid (fun W (hb : Below w.heap.size w W) => refwithin_calls' d.wa d.sh l _ _ _ W (N1.out.items.mono hb hb.size) (N2.out.items.mono hb hb.size) (HI.out.items.mono hb hb.size) HD.out.wa HD.out.sh HM.out true (by simpa using hwc))
              rw [if_pos hwc] at hC2
              generalize (withinOf d.wa d.sh l).1 = sl at *
              subst hC2
              clear HC hwc
              go_wp2_with fail
              refine (cW.out _ hb2).mono ?_
              rintro e W3 ⟨⟨u, rfl, hu⟩, hb3⟩
              have hu2 := ownsRow_wide hu hb2.size
              have HU := Lib.hid hu2
              obtain ⟨Au, cu, rfl, -⟩ := (toAt hu).form
              have HB3 := Lib.hid (hb2.trans (hb3.mono hb2.size))
              have hO3 := HO.out.same hb3
              have f3 := hO3.frozen 2
              have g3 := hO3.cell (j := 2) (v := .slice P2 p2 c2) rfl
              have hO4 := hO3.set 2 (.slice Au sl.length cu)
              have f4 := hO4.frozen 9
              have g4 := hO4.cell (j := 9) (v := .bool false) rfl
              have hO5 := hO4.set 9 (.bool true)
              obtain ⟨r0, r1, r2, r3, r4, r5, r6, r7, r8, r9, r10, r11⟩ := hO5.twelve
              have hg4 := grownBy_set W3 W1.heap.size 2 (.slice Au sl.length cu)
              have hg5 := grownBy_set (W3.setCell ⟨W1.heap.size, 2, none⟩ (.slice Au sl.length cu)) W1.heap.size 9 (.bool true)
              have hw1 := HW1.out
              have HB4 := Lib.hid ((HB3.out.grown hg4 HB3.out.size (fun g e => by cases e; exact hw1)).grown hg5 (HB3.out.grown hg4 HB3.out.size (fun g e => by cases e; exact hw1)).size (fun g e => by cases e; exact hw1))
              have hxl := HXL.out
              have hk4 : Kept (fun i => i < w.heap.size) w ((W3.setCell ⟨W1.heap.size, 2, none⟩ (.slice Au sl.length cu)).setCell ⟨W1.heap.size, 9, none⟩ (.bool true)) := Kept.of_below HB4.out fun _ hi => hi
              have hFF : ∀ i, i < w.heap.size → (i ≠ xb ∧ ¬ Y i) → i < w.heap.size ∧ (i ≠ xb ∧ ¬ Y i) := fun i hi hh => ⟨hi, hh⟩
              have hnb : (Value.slice Au sl.length cu).ownBlock ≠ some W1.heap.size := fun e => by have := (hu.lt W1.heap.size e).1; rw [World.size_alloc] at this; omega
              have hrow := (HU.out.kept hg4 (.inr hnb)).kept hg5 (.inr hnb)
              have cS := set_calls i ⟨{ d with sh := sl, fr := mPut intK d.fr 5 (.bool true) }, .slice P1 p1 c1, .slice Au sl.length cu, .slice P3 p3 c3⟩ xb base Y es _ (H.out.same HB4.out) (Nat.le_trans hB HB4.out.size) hi2
                ⟨N1.out.keep hk4 hFF, LiAt.of_own hrow (fun i hi _ => ⟨by omega, fun hy => by have := H.out.yl i hy; omega⟩), N3.out.keep hk4 hFF⟩ hlen
              have hset := HSET.out ⟨{ d with sh := sl, fr := mPut intK d.fr 5 (.bool true) }, .slice P1 p1 c1, .slice Au sl.length cu, .slice P3 p3 c3⟩ rfl
              have HSE := Lib.hid hset
              have j0 : isIn { d with sh := sl, fr := mPut intK d.fr 5 (.bool true) } 0 = b0 := isIn_other (by decide) HQ0.out
              have j1 : isIn { d with sh := sl, fr := mPut intK d.fr 5 (.bool true) } 1 = b1 := isIn_other (by decide) HQ1.out
              have j2 : isIn { d with sh := sl, fr := mPut intK d.fr 5 (.bool true) } 2 = b2 := isIn_other (by decide) HQ2.out
              have j3 : isIn { d with sh := sl, fr := mPut intK d.fr 5 (.bool true) } 3 = b3 := isIn_other (by decide) HQ3.out
              have j4 : isIn { d with sh := sl, fr := mPut intK d.fr 5 (.bool true) } 4 = b4 := isIn_other (by decide) HQ4.out
              have j5 : isIn { d with sh := sl, fr := mPut intK d.fr 5 (.bool true) } 5 = true := isIn_same
              have j6 : isIn { d with sh := sl, fr := mPut intK d.fr 5 (.bool true) } 6 = b6 := isIn_other (by decide) HQ6.out
              have j7 : isIn { d with sh := sl, fr := mPut intK d.fr 5 (.bool true) } 7 = b7 := isIn_other (by decide) HQ7.out
              simp only [rowA, j0, j1, j2, j3, j4, j5, j6, j7] at cS
              have CS := Lib.hid cS
              clear hu hu2 hO3 hO4 hO5 hg4 hg5 hk4 hFF hrow hset cS hb3 hb2 q0 q1 q2 q3 q4 q5 q6 q7 q8 q9 q10 q11 e0 e1 e2 e3 e4 e5 e6 e7 e8 e9 e10 e11 j0 j1 j2 j3 j4 j5 j6 j7 hnb
              go_wp2_with fail
              refine CS.out.mono ?_
              rintro e W5 ⟨rfl, hdoc, hg5⟩
              have HDOC := Lib.hid hdoc
              have HG5 := Lib.hid hg5
              clear hdoc hg5
              go_wp2
              go_ret
              first
                | exact ⟨_, rfl, HSE.out, HDOC.out, (only_of_below HB4.out _).trans HG5.out⟩
                | exact ⟨rfl, _, HSE.out, HDOC.out, (only_of_below HB4.out _).trans HG5.out⟩
            · have cW := Lib.hid (fun W (hb : Below w.heap.size w W) => refwithin_calls' d.wa d.sh l _ _ _ W (N1.out.items.mono hb hb.size) (N2.out.items.mono hb hb.size) (HI.out.items.mono hb hb.size) HD.out.wa HD.out.sh HM.out false (by simpa using hwc))
              rw [if_neg hwc] at hC2
              have h50 : (withinOf d.wa d.sh l).2 = 50 := by
                unfold withinOf at hwc ⊢
                split
                · rename_i h; rw [if_pos h] at hwc; exact (hwc rfl).elim
                · rfl
              rw [h50] at hC2
              generalize (withinOf d.wa d.sh l).1 = sl at *
              subst hC2
              clear HC hwc h50
              go_wp2_with fail
              refine (cW.out _ hb2).mono ?_
              rintro e W3 ⟨⟨u, rfl, hu⟩, hb3⟩
              obtain ⟨Au, cu, rfl, -⟩ := (toAt hu).form
              have HB3 := Lib.hid (hb2.trans (hb3.mono hb2.size))
              clear hb2 hb3 hu
              go_wp2
              go_ret
              first
                | exact ⟨es, rfl, rfl, H.out.same HB3.out, only_of_below HB3.out _⟩
                | exact ⟨rfl, es, rfl, H.out.same HB3.out, only_of_below HB3.out _⟩
        · have hC2 := HC.out
          dsimp only at hC2
          rw [HQ6.out] at hC2
          cases b6 with
          | true =>
            rw [if_pos rfl] at hC2
            subst hC2
            clear HC
            go_wp2
            go_ret
            first
              | exact ⟨es, rfl, rfl, H.out.same hb2, only_of_below hb2 _⟩
              | exact ⟨rfl, es, rfl, H.out.same hb2, only_of_below hb2 _⟩
          | false =>
            rw [if_neg (by simp)] at hC2
            by_cases hwc : (withinOf d.wa d.sh l).2 = 0
            · have cW := Lib.hid (fun W (hb : Below w.heap.size w W) => refwithin_calls' d.wa d.sh l _ _ _ W (N1.out.items.mono hb hb.size) (N2.out.items.mono hb hb.size) (HI.out.items.mono hb hb.size) HD.out.wa HD.out.sh HM.out true (by simpa using hwc))
              rw [if_pos hwc] at hC2
              generalize (withinOf d.wa d.sh l).1 = sl at *
              subst hC2
              clear HC hwc
              go_wp2_with fail
              refine (cW.out _ hb2).mono ?_
              rintro e W3 ⟨⟨u, rfl, hu⟩, hb3⟩
              have hu2 := ownsRow_wide hu hb2.size
              have HU := Lib.hid hu2
              obtain ⟨Au, cu, rfl, -⟩ := (toAt hu).form
              have HB3 := Lib.hid (hb2.trans (hb3.mono hb2.size))
              have hO3 := HO.out.same hb3
              have f3 := hO3.frozen 2
              have g3 := hO3.cell (j := 2) (v := .slice P2 p2 c2) rfl
              have hO4 := hO3.set 2 (.slice Au sl.length cu)
              have f4 := hO4.frozen 10
              have g4 := hO4.cell (j := 10) (v := .bool false) rfl
              have hO5 := hO4.set 10 (.bool true)
              obtain ⟨r0, r1, r2, r3, r4, r5, r6, r7, r8, r9, r10, r11⟩ := hO5.twelve
              have hg4 := grownBy_set W3 W1.heap.size 2 (.slice Au sl.length cu)
              have hg5 := grownBy_set (W3.setCell ⟨W1.heap.size, 2, none⟩ (.slice Au sl.length cu)) W1.heap.size 10 (.bool true)
              have hw1 := HW1.out
              have HB4 := Lib.hid ((HB3.out.grown hg4 HB3.out.size (fun g e => by cases e; exact hw1)).grown hg5 (HB3.out.grown hg4 HB3.out.size (fun g e => by cases e; exact hw1)).size (fun g e => by cases e; exact hw1))
              have hxl := HXL.out
              have hk4 : Kept (fun i => i < w.heap.size) w ((W3.setCell ⟨W1.heap.size, 2, none⟩ (.slice Au sl.length cu)).setCell ⟨W1.heap.size, 10, none⟩ (.bool true)) := Kept.of_below HB4.out fun _ hi => hi
              have hFF : ∀ i, i < w.heap.size → (i ≠ xb ∧ ¬ Y i) → i < w.heap.size ∧ (i ≠ xb ∧ ¬ Y i) := fun i hi hh => ⟨hi, hh⟩
              have hnb : (Value.slice Au sl.length cu).ownBlock ≠ some W1.heap.size := fun e => by have := (hu.lt W1.heap.size e).1; rw [World.size_alloc] at this; omega
              have hrow := (HU.out.kept hg4 (.inr hnb)).kept hg5 (.inr hnb)
              have cS := set_calls i ⟨{ d with sh := sl, fr := mPut intK d.fr 6 (.bool true) }, .slice P1 p1 c1, .slice Au sl.length cu, .slice P3 p3 c3⟩ xb base Y es _ (H.out.same HB4.out) (Nat.le_trans hB HB4.out.size) hi2
                ⟨N1.out.keep hk4 hFF, LiAt.of_own hrow (fun i hi _ => ⟨by omega, fun hy => by have := H.out.yl i hy; omega⟩), N3.out.keep hk4 hFF⟩ hlen
              have hset := HSET.out ⟨{ d with sh := sl, fr := mPut intK d.fr 6 (.bool true) }, .slice P1 p1 c1, .slice Au sl.length cu, .slice P3 p3 c3⟩ rfl
              have HSE := Lib.hid hset
              have j0 : isIn { d with sh := sl, fr := mPut intK d.fr 6 (.bool true) } 0 = b0 := isIn_other (by decide) HQ0.out
              have j1 : isIn { d with sh := sl, fr := mPut intK d.fr 6 (.bool true) } 1 = b1 := isIn_other (by decide) HQ1.out
              have j2 : isIn { d with sh := sl, fr := mPut intK d.fr 6 (.bool true) } 2 = b2 := isIn_other (by decide) HQ2.out
              have j3 : isIn { d with sh := sl, fr := mPut intK d.fr 6 (.bool true) } 3 = b3 := isIn_other (by decide) HQ3.out
              have j4 : isIn { d with sh := sl, fr := mPut intK d.fr 6 (.bool true) } 4 = b4 := isIn_other (by decide) HQ4.out
              have j5 : isIn { d with sh := sl, fr := mPut intK d.fr 6 (.bool true) } 5 = b5 := isIn_other (by decide) HQ5.out
              have j6 : isIn { d with sh := sl, fr := mPut intK d.fr 6 (.bool true) } 6 = true := isIn_same
              have j7 : isIn { d with sh := sl, fr := mPut intK d.fr 6 (.bool true) } 7 = b7 := isIn_other (by decide) HQ7.out
              simp only [rowA, j0, j1, j2, j3, j4, j5, j6, j7] at cS
              have CS := Lib.hid cS
              clear hu hu2 hO3 hO4 hO5 hg4 hg5 hk4 hFF hrow hset cS hb3 hb2 q0 q1 q2 q3 q4 q5 q6 q7 q8 q9 q10 q11 e0 e1 e2 e3 e4 e5 e6 e7 e8 e9 e10 e11 j0 j1 j2 j3 j4 j5 j6 j7 hnb
              go_wp2_with fail
              refine CS.out.mono ?_
              rintro e W5 ⟨rfl, hdoc, hg5⟩
              have HDOC := Lib.hid hdoc
              have HG5 := Lib.hid hg5
              clear hdoc hg5
              go_wp2
              go_ret
              first
                | exact ⟨_, rfl, HSE.out, HDOC.out, (only_of_below HB4.out _).trans HG5.out⟩
                | exact ⟨rfl, _, HSE.out, HDOC.out, (only_of_below HB4.out _).trans HG5.out⟩
            · have cW := Lib.hid (fun W (hb : Below w.heap.size w W) => refwithin_calls' d.wa d.sh l _ _ _ W (N1.out.items.mono hb hb.size) (N2.out.items.mono hb hb.size) (HI.out.items.mono hb hb.size) HD.out.wa HD.out.sh HM.out false (by simpa using hwc))
              rw [if_neg hwc] at hC2
              have h50 : (withinOf d.wa d.sh l).2 = 50 := by
                unfold withinOf at hwc ⊢
                split
                · rename_i h; rw [if_pos h] at hwc; exact (hwc rfl).elim
                · rfl
              rw [h50] at hC2
              generalize (withinOf d.wa d.sh l).1 = sl at *
              subst hC2
              clear HC hwc h50
              go_wp2_with fail
              refine (cW.out _ hb2).mono ?_
              rintro e W3 ⟨⟨u, rfl, hu⟩, hb3⟩
              obtain ⟨Au, cu, rfl, -⟩ := (toAt hu).form
              have HB3 := Lib.hid (hb2.trans (hb3.mono hb2.size))
              clear hb2 hb3 hu
              go_wp2
              go_ret
              first
                | exact ⟨es, rfl, rfl, H.out.same HB3.out, only_of_below HB3.out _⟩
                | exact ⟨rfl, es, rfl, H.out.same HB3.out, only_of_below HB3.out _⟩
        · have hC2 := HC.out
          dsimp only at hC2
          rw [HQ7.out] at hC2
          cases b7 with
          | true =>
            rw [if_pos rfl] at hC2
            subst hC2
            clear HC
            go_wp2
            go_ret
            first
              | exact ⟨es, rfl, rfl, H.out.same hb2, only_of_below hb2 _⟩
              | exact ⟨rfl, es, rfl, H.out.same hb2, only_of_below hb2 _⟩
          | false =>
            rw [if_neg (by simp)] at hC2
            by_cases hwc : (withinOf d.wa d.sh l).2 = 0
            · have cW := Lib.hid (fun W (hb : Below w.heap.size w W) => refwithin_calls' d.wa d.sh l _ _ _ W (N1.out.items.mono hb hb.size) (N2.out.items.mono hb hb.size) (HI.out.items.mono hb hb.size) HD.out.wa HD.out.sh HM.out true (by simpa using hwc))
              rw [if_pos hwc] at hC2
              generalize (withinOf d.wa d.sh l).1 = sl at *
              subst hC2
              clear HC hwc
              go_wp2_with fail
              refine (cW.out _ hb2).mono ?_
              rintro e W3 ⟨⟨u, rfl, hu⟩, hb3⟩
              have hu2 := ownsRow_wide hu hb2.size
              have HU := Lib.hid hu2
              obtain ⟨Au, cu, rfl, -⟩ := (toAt hu).form
              have HB3 := Lib.hid (hb2.trans (hb3.mono hb2.size))
              have hO3 := HO.out.same hb3
              have f3 := hO3.frozen 2
              have g3 := hO3.cell (j := 2) (v := .slice P2 p2 c2) rfl
              have hO4 := hO3.set 2 (.slice Au sl.length cu)
              have f4 := hO4.frozen 11
              have g4 := hO4.cell (j := 11) (v := .bool false) rfl
              have hO5 := hO4.set 11 (.bool true)
              obtain ⟨r0, r1, r2, r3, r4, r5, r6, r7, r8, r9, r10, r11⟩ := hO5.twelve
              have hg4 := grownBy_set W3 W1.heap.size 2 (.slice Au sl.length cu)
              have hg5 := grownBy_set (W3.setCell ⟨W1.heap.size, 2, none⟩ (.slice Au sl.length cu)) W1.heap.size 11 (.bool true)
              have hw1 := HW1.out
              have HB4 := Lib.hid ((HB3.out.grown hg4 HB3.out.size (fun g e => by cases e; exact hw1)).grown hg5 (HB3.out.grown hg4 HB3.out.size (fun g e => by cases e; exact hw1)).size (fun g e => by cases e; exact hw1))
              have hxl := HXL.out
              have hk4 : Kept (fun i => i < w.heap.size) w ((W3.setCell ⟨W1.heap.size, 2, none⟩ (.slice Au sl.length cu)).setCell ⟨W1.heap.size, 11, none⟩ (.bool true)) := Kept.of_below HB4.out fun _ hi => hi
              have hFF : ∀ i, i < w.heap.size → (i ≠ xb ∧ ¬ Y i) → i < w.heap.size ∧ (i ≠ xb ∧ ¬ Y i) := fun i hi hh => ⟨hi, hh⟩
              have hnb : (Value.slice Au sl.length cu).ownBlock ≠ some W1.heap.size := fun e => by have := (hu.lt W1.heap.size e).1; rw [World.size_alloc] at this; omega
              have hrow := (HU.out.kept hg4 (.inr hnb)).kept hg5 (.inr hnb)
              have cS := set_calls i ⟨{ d with sh := sl, fr := mPut intK d.fr 7 (.bool true) }, .slice P1 p1 c1, .slice Au sl.length cu, .slice P3 p3 c3⟩ xb base Y es _ (H.out.same HB4.out) (Nat.le_trans hB HB4.out.size) hi2
                ⟨N1.out.keep hk4 hFF, LiAt.of_own hrow (fun i hi _ => ⟨by omega, fun hy => by have := H.out.yl i hy; omega⟩), N3.out.keep hk4 hFF⟩ hlen
              have hset := HSET.out ⟨{ d with sh := sl, fr := mPut intK d.fr 7 (.bool true) }, .slice P1 p1 c1, .slice Au sl.length cu, .slice P3 p3 c3⟩ rfl
              have HSE := Lib.hid hset
              have j0 : isIn { d with sh := sl, fr := mPut intK d.fr 7 (.bool true) } 0 = b0 := isIn_other (by decide) HQ0.out
              have j1 : isIn { d with sh := sl, fr := mPut intK d.fr 7 (.bool true) } 1 = b1 := isIn_other (by decide) HQ1.out
              have j2 : isIn { d with sh := sl, fr := mPut intK d.fr 7 (.bool true) } 2 = b2 := isIn_other (by decide) HQ2.out
              have j3 : isIn { d with sh := sl, fr := mPut intK d.fr 7 (.bool true) } 3 = b3 := isIn_other (by decide) HQ3.out
              have j4 : isIn { d with sh := sl, fr := mPut intK d.fr 7 (.bool true) } 4 = b4 := isIn_other (by decide) HQ4.out
              have j5 : isIn { d with sh := sl, fr := mPut intK d.fr 7 (.bool true) } 5 = b5 := isIn_other (by decide) HQ5.out
              have j6 : isIn { d with sh := sl, fr := mPut intK d.fr 7 (.bool true) } 6 = b6 := isIn_other (by decide) HQ6.out
              have j7 : isIn { d with sh := sl, fr := mPut intK d.fr 7 (.bool true) } 7 = true := isIn_same
              simp only [rowA, j0, j1, j2, j3, j4, j5, j6, j7] at cS
              have CS := Lib.hid cS
              clear hu hu2 hO3 hO4 hO5 hg4 hg5 hk4 hFF hrow hset cS hb3 hb2 q0 q1 q2 q3 q4 q5 q6 q7 q8 q9 q10 q11 e0 e1 e2 e3 e4 e5 e6 e7 e8 e9 e10 e11 j0 j1 j2 j3 j4 j5 j6 j7 hnb
              go_wp2_with fail
              refine CS.out.mono ?_
              rintro e W5 ⟨rfl, hdoc, hg5⟩
              have HDOC := Lib.hid hdoc
              have HG5 := Lib.hid hg5
              clear hdoc hg5
              go_wp2
              go_ret
              first
                | exact ⟨_, rfl, HSE.out, HDOC.out, (only_of_below HB4.out _).trans HG5.out⟩
                | exact ⟨rfl, _, HSE.out, HDOC.out, (only_of_below HB4.out _).trans HG5.out⟩
            · have cW := Lib.hid (fun W (hb : Below w.heap.size w W) => refwithin_calls' d.wa d.sh l _ _ _ W (N1.out.items.mono hb hb.size) (N2.out.items.mono hb hb.size) (HI.out.items.mono hb hb.size) HD.out.wa HD.out.sh HM.out false (by simpa using hwc))
              rw [if_neg hwc] at hC2
              have h50 : (withinOf d.wa d.sh l).2 = 50 := by
                unfold withinOf at hwc ⊢
                split
                · rename_i h; rw [if_pos h] at hwc; exact (hwc rfl).elim
                · rfl
              rw [h50] at hC2
              generalize (withinOf d.wa d.sh l).1 = sl at *
              subst hC2
              clear HC hwc h50
              go_wp2_with fail
              refine (cW.out _ hb2).mono ?_
              rintro e W3 ⟨⟨u, rfl, hu⟩, hb3⟩
              obtain ⟨Au, cu, rfl, -⟩ := (toAt hu).form
              have HB3 := Lib.hid (hb2.trans (hb3.mono hb2.size))
              clear hb2 hb3 hu
              go_wp2
              go_ret
              first
                | exact ⟨es, rfl, rfl, H.out.same HB3.out, only_of_below HB3.out _⟩
                | exact ⟨rfl, es, rfl, H.out.same HB3.out, only_of_below HB3.out _⟩
end Pc
end Go.Proofs.YtdbkkldgobkjcaaGreat

namespace Go.Proofs.YtdbkkldgobkjcaaGreat
open Go.RowKit Go.Maps Go.Sort Go.Shelf
namespace KsR

theorem sorts (m : Nat) : AnyZI.SortsIn Tryz.prog Tryz.sorted80_ren Fence.wide m :=
  ⟨fun blk off cap ss W hH hblk hsz => callsIn_wide.2 (AnyM.slices_Sort_int Tryz.sort114 blk off cap ss W hH hblk hsz),
   fun p cap W => callsIn_wide.2 (AnyM.slices_Sort_int_none Tryz.sort114 p cap W)⟩
theorem keys_calls (mb : Option Nat) (W : World) : CallsIn Fence.wide 5 Tryz.prog 81 #[.map mb] W fun e w' => e = .returned (.func (.func 115) #[] #[.pointer (some ⟨W.heap.size, 0, none⟩)]) ∧ w' = W.alloc (.cells #[.map mb] 78) :=
  AnyZI.keys_in Tryz.keys81 Fence.wide 5 trivial rfl mb W
theorem intKeys_mEs (m : List (Int × Value)) : intKeys (DataW.map (mEs intK m)) = m.map (·.1) := by
  simp [intKeys, mEs, Function.comp_def, intK]
  exact fun _ _ _ => rfl

set_option maxHeartbeats 1000000 in
theorem sorted_calls (b : Nat) (m : List (Int × Value)) (w : World) (hown : GMap intK w Tryz.prog 3 b m) (KK : Keyed Tryz.prog 3) (hmax : m.length ≤ 1099511627776) :
    CallsIn Fence.wide 5 Tryz.prog 80 #[.func (.func 115) #[] #[.pointer (some ⟨w.heap.size, 0, none⟩)]] (w.alloc (.cells #[.map (some b)] 78)) fun e w' => ∃ v : Value, e = .returned v ∧
      w'.ownsRow (w.alloc (.cells #[.map (some b)] 78)).heap.size 3 1 v (m.map (·.1)).length (ints (m.map (·.1))) ∧ Below (w.alloc (.cells #[.map (some b)] 78)).heap.size (w.alloc (.cells #[.map (some b)] 78)) w' := by
  have hsort := hown.sorted KK
  have hbl := hown.lt
  have hsz : Maps.size (DataW.map (mEs intK m)) = m.length := by simp [Maps.size, mEs]
  have hseq : SeqGives Fence.wide 2 Tryz.prog 115 #[.pointer (some ⟨w.heap.size, 0, none⟩)] encZ (fun ss => ss.Perm (intKeys (DataW.map (mEs intK m)))) (Maps.size (DataW.map (mEs intK m))) (w.alloc (.cells #[.map (some b)] 78)) :=
    AnyZI.keys_gives (ρ := Tryz.keys81_ren) { Tryz.keys81 with } Fence.wide _ trivial rfl (by omega) w.heap.size b m.length (DataW.map (mEs intK m)) _ (by simp) (by simp) (by
      obtain ⟨es, clock, hb, Ft, hs, hD⟩ := hown
      exact ⟨es, clock, (Below.heap_alloc _ _ b hbl).trans hb, Ft, hs, hD⟩)
  have h := AnyZI.sorted_in Tryz.sorted80 Fence.wide 5 trivial trivial trivial trivial rfl (by omega) (sorts _) (enters_of Tryz.func114 (by kernel_rfl) rfl) 115 #[.pointer (some ⟨w.heap.size, 0, none⟩)] trivial (enters_of Tryz.func115 (by kernel_rfl) rfl) _ _ (by rw [hsz]; unfold maxLen; omega) (by rw [hsz]; omega) _ hseq
  refine h.mono ?_
  rintro e w' ⟨v, ss, rfl, hp, hrow, _, hb⟩
  rw [intKeys_mEs] at hp
  have hlt : (m.map (·.1)).Pairwise (· < ·) := by
    rw [List.pairwise_map]
    exact hsort.imp (fun {p q} h => by simpa [intK] using h)
  have he : ss.mergeSort (fun x y => decide (x ≤ y)) = m.map (·.1) := by
    refine ((List.mergeSort_perm ss _).trans hp).eq_of_pairwise (le := fun a b : Int => a ≤ b) (fun a b _ _ h1 h2 => Int.le_antisymm h1 h2) ?_ (hlt.imp (fun h => Int.le_of_lt h))
    have := List.pairwise_mergeSort (le := fun x y : Int => decide (x ≤ y)) (fun a b c h1 h2 => by simp only [decide_eq_true_eq] at *; omega) (fun a b => by simp only [Bool.or_eq_true, decide_eq_true_eq]; omega) ss
    exact this.imp (fun h => by simpa using h)
  have hl : ss.length = (m.map (·.1)).length := hp.length_eq
  rw [he, hl] at hrow
  exact ⟨v, rfl, hrow, hb⟩
end KsR
end Go.Proofs.YtdbkkldgobkjcaaGreat
