/-
  parcels: Ship.
  parcels: Back, Undo.
  parcels: what lives says.
  append onto a row of the call's own from a slice that is known, as one step of a region that draws its order.
  parcels: the document's parcels in memory; Find.
-/
import Derived.Test.YtdbkkldgobkjcaaGreatPd7
import Derived.Test.YtdbkkldgobkjcaaGreatPd1
import Derived.Deep.RegionLaw
import Derived.Deep.AppendLies

set_option linter.unusedVariables false
set_option linter.unusedSimpArgs false
namespace Go.Proofs.YtdbkkldgobkjcaaGreat
open Go.RowKit Go.Maps
namespace Pc
open It Mv

theorem zeroB (w : World) : (zeroValue 4).run Tryz.prog w = .ok (.bool false) w := by kernel_rfl
theorem isIn_val {d : Row} (h : OkR d) (r : Int) : (mGet d.fr r).getD (.bool false) = .bool (isIn d r) := by
  unfold isIn mGet
  cases hf : d.fr.find? (fun p => decide (p.1 = r)) with
  | none => rfl
  | some p =>
    have := (h.fr p (List.mem_of_find?_eq_some hf)).2.2
    simpa using this
theorem plus_fits {a b : List It.Item} (h : (plusOf a b).2 = 0) : Fits (plusOf a b).1 := fits_of (plusOf_M h)
theorem Fo_put {b mb : Nat} {X : Nat → Prop} {ds : List Row} {c d : Row} (hc : c ∈ ds) (e : d.fb = c.fb) {i : Nat} (h : Fo b mb X ds i) : Fo b mb X (putR ds d) i :=
  ⟨h.1, h.2.1, h.2.2.1, fun x hx => by
    rcases putR_mem hx with rfl | ⟨hx, -⟩
    · rw [e]; exact h.2.2.2 c hc
    · exact h.2.2.2 x hx⟩
/-- a row is changed: its new list is fresh, its map may be written -/
theorem set_fin {w W W3 : World} {base b mb : Nat} {X : Nat → Prop} {ds : List Row} {m : List (Int × Value)} {c d : Row} {val : Value} (H : PcAt w base b mb X ds) (hR : Rel w (Fo b mb X ds) m ds) (hc : c ∈ ds) (hod : d.od = c.od) (hfb : d.fb = c.fb) (hu : ∀ x ∈ ds, x.od = c.od → x = c)
    (hk : Kept (fun i => i < w.heap.size ∧ i ≠ c.fb) w W) (hd : OkR d) (hv : RowAt W (fun i => (i < w.heap.size ∧ Fo b mb X ds i) ∨ w.heap.size ≤ i) val d) (hf : GMap intK W Tryz.prog 3 c.fb d.fr)
    (hM3 : GMap intK W3 Tryz.prog 3 mb (mPut intK m d.od val)) (hg3 : W.grownBy W3 (some mb)) :
    PcAt W3 base b mb X (putR ds d) ∧ Other mb ds w W3 := by
  have hlt : ∀ x ∈ ds, x.fb < w.heap.size := fun x hx => GMap.lt (H.frm x hx)
  obtain ⟨m', hm', -⟩ := H.map
  have hmb := hm'.lt
  have hbl := H.ob.lt
  refine put_fin H hR (hk.mono fun i hi => ⟨hi.1, hi.2.2 c hc⟩) hd (hv.keep (Kept.refl (fun _ => True) _) fun i _ hi => ⟨trivial, ?_⟩) (by rw [hfb]; exact hf) (by rw [hfb]; exact H.sep c hc) (fun i _ hi => by rw [hfb]; exact hi.2.2.2 c hc) (fun x hx hne => ?_) (fun x hx hne => ?_) hM3 hg3
  · rcases hi with ⟨-, hi⟩ | hi
    · exact Fo_put hc hfb hi
    · refine ⟨by omega, by omega, fun hx => by have := H.xl i hx; omega, fun x hx => ?_⟩
      rcases putR_mem hx with rfl | ⟨hx, -⟩
      · rw [hfb]; have := hlt c hc; omega
      · have := hlt x hx; omega
  · rw [hfb]
    exact H.apart.mem hx hc (fun e => hne (by rw [e, hod]))
  · have h1 := H.frm x hx
    have h2 := H.apart.mem hx hc (fun e => hne (by rw [e, hod]))
    have h3 := h1.lt
    obtain ⟨es, clock, h4, F, h5, e⟩ := h1
    exact ⟨es, clock, (hk.block x.fb ⟨h3, h2⟩).trans h4, F, h5, e⟩
theorem uniq {ds : List Row} {w : World} {base b mb : Nat} {X : Nat → Prop} (H : PcAt w base b mb X ds) {m : List (Int × Value)} (hm : GMap intK w Tryz.prog 3 mb m) (hR : Rel w (Fo b mb X ds) m ds) : ∀ {c x : Row}, c ∈ ds → x ∈ ds → x.od = c.od → x = c := by
  have hs := hm.sorted keyedI
  have h1 : (m.map (·.1)).Pairwise (· < ·) := by
    rw [List.pairwise_map]
    exact hs.imp (fun {p q} h => by simpa [intK] using h)
  rw [hR.keys, List.pairwise_map] at h1
  clear hR hs H hm
  induction ds with
  | nil => intro c x hc; cases hc
  | cons y r ih =>
    rw [List.pairwise_cons] at h1
    intro c x hc hx e
    rcases List.mem_cons.1 hc with e1 | e1
    · rcases List.mem_cons.1 hx with e2 | e2
      · rw [e1, e2]
      · have := h1.1 x e2; rw [e1] at e; omega
    · rcases List.mem_cons.1 hx with e2 | e2
      · have := h1.1 c e1; rw [e2] at e; omega
      · exact ih h1.2 e1 e2 e

/-- a table at which some order is not known, or the list may not be: what row says -/
theorem rowVal_not {ds : List Row} {od : Int} {l : List It.Item} {m : List (Int × Value)} (h : rowCode ds od l ≠ 0) : rowVal ds od l m = zrow := by unfold rowVal; rw [if_neg h]

theorem mIns_mem {k : Int} {v : Value} {p : Int × Value} : ∀ {m : List (Int × Value)}, p ∈ mIns intK k v m → p = (k, v) ∨ p ∈ m
  | [], h => .inl (by simpa [mIns] using h)
  | c :: r, h => by
    unfold mIns at h
    split at h
    · rcases List.mem_cons.1 h with h | h
      · exact .inl h
      · exact .inr h
    · rcases List.mem_cons.1 h with h | h
      · exact .inr (by rw [h]; simp)
      · rcases mIns_mem h with h | h
        · exact .inl h
        · exact .inr (List.mem_cons_of_mem _ h)
theorem mPut_mem {k : Int} {v : Value} {p : Int × Value} {m : List (Int × Value)} (h : p ∈ mPut intK m k v) : p = (k, v) ∨ p ∈ m := by
  rcases mIns_mem h with h | h
  · exact .inl h
  · exact .inr (List.mem_filter.1 h).1
theorem ship_ok {d : Row} (hd : OkR d) {r : Int} {l : List It.Item} (hM : M l) (hr : 0 ≤ r ∧ r < 8) (h : (withinOf d.wa d.sh l).2 = 0) : OkR { d with sh := (withinOf d.wa d.sh l).1, fr := mPut intK d.fr r (.bool true) } := by
  obtain ⟨h1, h2, -, h4⟩ := within_ok hd.sh hM h
  refine ⟨hd.od, hd.wa, hd.some, h1, hd.ba, h2, (covers_iff h1 hd.ba).2 fun k => ?_, fun p hp => ?_⟩
  · have := (covers_iff hd.sh hd.ba).1 hd.cb k
    have := hM.nonneg k
    rw [h4 k]
    omega
  · rcases mPut_mem hp with rfl | hp
    · exact ⟨hr.1, by omega, rfl⟩
    · exact hd.fr p hp

set_option maxRecDepth 100000 in
set_option maxHeartbeats 8000000 in
theorem ship_calls (od r : Int) (l : List It.Item) (lv : Value) (base b mb : Nat) (X : Nat → Prop) (ds : List Row) (w : World) (h : PcAt w base b mb X ds) (hI : ItemsAt w 0 w.heap.size lv l) (hF : Fits l) (h0 : -9223372036854775808 ≤ od) (h1 : od ≤ 9223372036854775807) :
    Calls Tryz.prog 11 #[.pointer (some ⟨b, 0, none⟩), .int .i64 od, .int .i64 r, lv] w fun e w' => e = .returned (.int .i64 (shipOf ds od r l).2) ∧ PcAt w' base b mb X (shipOf ds od r l).1 ∧ Other mb ds w w' := by
  obtain ⟨m, hm, hR⟩ := h.map
  have g0 : w.cell? ⟨b, 0, none⟩ = some (.map (some mb)) := h.ob.cell (j := 0) rfl
  have hmb := hm.lt
  have hbl := h.ob.lt
  have cMd := Lib.hid (made_calls b mb _ g0)
  obtain ⟨hs, hv⟩ := h.val od hR
  have cR := row_calls od l lv b mb m ds w g0 hbl hm hs hv hI hF h0 h1
  have HM := Lib.hid hm
  have HR := Lib.hid hR
  have H := Lib.hid h
  have HI := Lib.hid hI
  have HS0 := Lib.hid (show shipOf ds od r l = if r < 0 ∨ 8 ≤ r then (ds, 1) else match findR ds od with
    | none => (ds, 4)
    | some d => if may l = false then (ds, 60) else if isIn d r then (ds, 5) else if (withinOf d.wa d.sh l).2 = 0 then (putR ds { d with sh := (withinOf d.wa d.sh l).1, fr := mPut intK d.fr r (.bool true) }, 0) else (ds, (withinOf d.wa d.sh l).2) from rfl)
  obtain ⟨Al, cl, rfl, -⟩ := hI.form
  generalize shipOf ds od r l = R at *
  have CR := Lib.hid cR
  clear hm hR h hI hs hv cR
  by_cases hbad : r < 0 ∨ 8 ≤ r
  · obtain rfl : R = (ds, 1) := by rw [HS0.out, if_pos hbad]
    have hcs : decide (r < 0) = true ∨ (decide (r < 0) = false ∧ decide (r ≥ 8) = true) := by
      by_cases e : r < 0
      · exact .inl (by simpa using e)
      · exact .inr ⟨by simpa using e, by simp; omega⟩
    clear hbad
    rcases hcs with e1 | ⟨e1, e2⟩
    all_goals
      go_enter Tryz.func11, Tryz.ntmps11
      go_wp2_with (go_at_call 43; refine cMd.out.mono ?_; rintro e W ⟨rfl, rfl⟩)
      go_ret
      exact ⟨rfl, H.out, Kept.refl _ _⟩
  · have e1 : decide (r < 0) = false := by simp; omega
    have e2 : decide (r ≥ 8) = false := by simp; omega
    have HS1 := Lib.hid (HS0.out.trans (if_neg hbad))
    clear HS0
    by_cases hrc : rowCode ds od l = 0
    · obtain ⟨d, hf, hml⟩ : ∃ d, findR ds od = some d ∧ may l = true := by
        unfold rowCode at hrc
        cases hf : findR ds od with
        | none => rw [hf] at hrc; simp at hrc
        | some d =>
          rw [hf] at hrc
          cases hml : may l with
          | false => rw [hml] at hrc; simp at hrc
          | true => exact ⟨d, rfl, rfl⟩
      obtain ⟨hmem, hdod⟩ := findR_mem hf
      have hd := H.out.ok d hmem
      obtain ⟨val, hg, v1, v2, v3, ev, i1, i2, i3⟩ := HR.out.some hf
      have e : rowVal ds od l m = rowV d v1 v2 v3 := by unfold rowVal; rw [if_pos hrc, hg, ← ev]; rfl
      have cR := CR.out
      rw [hrc, e] at cR
      have hS1 := HS1.out
      rw [hf] at hS1
      dsimp only at hS1
      rw [hml, if_neg (by simp)] at hS1
      have I1 := Lib.hid i1
      have I2 := Lib.hid i2
      have I3 := Lib.hid i3
      obtain ⟨A1, c1, rfl, -⟩ := i1.items.form
      obtain ⟨A2, c2, rfl, -⟩ := i2.items.form
      obtain ⟨A3, c3, rfl, -⟩ := i3.items.form
      simp only [rowV] at cR
      have CR2 := Lib.hid cR
      have HS2 := Lib.hid hS1
      have HF := Lib.hid (H.out.frm d hmem)
      have HD := Lib.hid hd
      have HIN := Lib.hid (isIn_val hd r)
      have hrr : 0 ≤ r ∧ r < 8 := by omega
      have hkeyR := Lib.hid (keyI (k := r) (by omega) (by omega))
      have HFL := Lib.hid (H.out.frm d hmem).lt
      have HE := Lib.hid (And.intro hf (And.intro hml (And.intro hmem hdod)))
      generalize isIn d r = ii at *
      clear CR HS1 hrc hg ev i1 i2 i3 e cR hS1 hbad hd hf hml hmem hdod
      cases ii with
      | true =>
        obtain rfl : R = (ds, 5) := by rw [HS2.out]; rfl
        go_enter Tryz.func11, Tryz.ntmps11
        go_wp2_with (go_at_call 43; refine cMd.out.mono ?_; rintro e W ⟨rfl, rfl⟩)
        refine CR2.out.mono ?_
        rintro e W ⟨rfl, hb1⟩
        have hb2 := hb1.alloc hb1.size (.cells #[.int .i64 d.od, .slice A1 d.wa.length c1, .slice A2 d.sh.length c2, .slice A3 d.ba.length c3, .map (some d.fb)] 87)
        have hlk := (HF.out.below hb2 HFL.out).look (tm := 85) keyedI Tryz.underlying85 (zeroB _) hkeyR.out
        rw [HIN.out] at hlk
        go_wp2
        go_ret
        exact ⟨rfl, H.out.same hb2, Other.of_below hb2⟩
      | false =>
        have HS3 := Lib.hid (HS2.out.trans (if_neg (by simp)))
        have cW := Lib.hid (fun W (hb : Below w.heap.size w W) => within_calls d.wa d.sh l _ _ _ W (I1.out.items.mono hb hb.size) (I2.out.items.mono hb hb.size) (HI.out.mono hb hb.size) (fits_of HD.out.wa) (fits_of HD.out.sh) hF plus_fits)
        go_enter Tryz.func11, Tryz.ntmps11
        go_wp2_with (go_at_call 43; refine cMd.out.mono ?_; rintro e W ⟨rfl, rfl⟩)
        refine CR2.out.mono ?_
        rintro e W ⟨rfl, hb1⟩
        have hb2 := hb1.alloc hb1.size (.cells #[.int .i64 d.od, .slice A1 d.wa.length c1, .slice A2 d.sh.length c2, .slice A3 d.ba.length c3, .map (some d.fb)] 87)
        have hO := Ob.new W 87 #[.int .i64 d.od, .slice A1 d.wa.length c1, .slice A2 d.sh.length c2, .slice A3 d.ba.length c3, .map (some d.fb)]
        have hlk := (HF.out.below hb2 HFL.out).look (tm := 85) keyedI Tryz.underlying85 (zeroB _) hkeyR.out
        rw [HIN.out] at hlk
        have cW2 := Lib.hid (cW.out _ hb2)
        have HW1 := Lib.hid hb1.size
        clear cW CR2 HS2 cMd
        by_cases hwc : (withinOf d.wa d.sh l).2 = 0
        · obtain rfl : R = (putR ds { d with sh := (withinOf d.wa d.sh l).1, fr := mPut intK d.fr r (.bool true) }, 0) := by rw [HS3.out, if_pos hwc]
          have HOK := Lib.hid (ship_ok (r := r) HD.out ((may_iff l).1 HE.out.2.1) hrr hwc)
          generalize hRW : withinOf d.wa d.sh l = RW at cW2 hwc
          obtain ⟨sl, sc⟩ := RW
          dsimp only at cW2 hwc
          subst hwc
          have HRW := Lib.hid hRW
          clear hRW
          go_wp2_with fail
          refine cW2.out.mono ?_
          rintro e W2 ⟨⟨vs, rfl, hvs⟩, hb3⟩
          have HVS := Lib.hid (LiAt.of_own (F := fun i => W.heap.size + 1 ≤ i) hvs (fun i hi _ => by simpa using hi))
          obtain ⟨As, cs, rfl, -⟩ := (ItemsAt.of_own hvs).form
          have hb4 := hb2.trans (hb3.mono hb2.size)
          have hO2 := hO.same hb3
          have hO3 := hO2.set 2 (.slice As sl.length cs)
          have hg3 := grownBy_set W2 W.heap.size 2 (.slice As sl.length cs)
          have hw1 := HW1.out
          have hb5 := hb4.grown hg3 hb4.size (fun g e => by cases e; exact hw1)
          have hfl := GMap.keys_len HF.out 0 8 (by omega) (fun p hp => by have := HD.out.fr p hp; omega)
          obtain ⟨W4, hput, hF4, hg4⟩ := (HF.out.below hb5 HFL.out).put (tm := 85) keyedI Tryz.underlying85 (by unfold maxLen; omega) hkeyR.out (val := .bool true)
          have HB5 := Lib.hid hb5
          have HG3 := Lib.hid hg3
          have HF4 := Lib.hid hF4
          have HG4 := Lib.hid hg4
          have hfl2 := HFL.out
          have hO4 := hO3.kept hg4 (fun e => by have := Option.some.inj e; omega)
          obtain ⟨q0, q1, q2, q3, q4⟩ := hO2.five
          have f2 := hO2.frozen 2
          clear hvs hb1 hb2 hb3 hb4 hb5 hg3 hF4 hg4 hO hlk hfl
          go_wp2_with fail
          have hdn : W4.grownBy W4.drew none := only_of_below (Below.refl _ W4).drew none
          have gbd : W4.drew.cell? ⟨b, 0, none⟩ = some (.map (some mb)) := HG4.out.cell ((HB5.out.cell (p := ⟨b, 0, none⟩) hbl).trans g0) (fun e => (H.out.sep d HE.out.2.2.1).1 (Option.some.inj e).symm)
          have hOd := hO4.kept hdn (by simp)
          have hMd := Lib.hid ((((HM.out.below HB5.out hmb).kept HG4.out (fun e => (H.out.sep d HE.out.2.2.1).2.1 (Option.some.inj e).symm))).kept hdn (by simp))
          have hm40 := H.out.short HM.out HR.out
          have hkey := Lib.hid (keyI h0 h1)
          clear q0 q1 q2 q3 q4 f2 hput hO2 hO3 hO4
          refine Pu.regionM [(0, false), (1, false), (2, false), (3, false), (4, false), (5, false), (6, true)] (fun V => Ob V W.heap.size 87 #[.int .i64 d.od, .slice A1 d.wa.length c1, .slice As sl.length cs, .slice A3 d.ba.length c3, .map (some d.fb)] ∧ V.cell? ⟨b, 0, none⟩ = some (.map (some mb))) hmx (by kernel_rfl) (by kernel_rfl) (by kernel_rfl) ⟨hOd, gbd⟩ rfl ?_
          simp only [Pu.named, List.filterMap_cons, List.filterMap_nil, List.getElem?_toArray, List.getElem?_cons_succ, List.getElem?_cons_zero, Option.map_some]
          iterate 6 (apply Pu.WalkM.on (by rfl)
                     · rintro V ⟨hOW, gW⟩
                       obtain ⟨q0, q1, q2, q3, q4⟩ := hOW.five
                       go_wp2_with fail
                       refine ⟨rfl, ?_, rfl⟩
                       try simp only [Act.put, List.setIfInBounds_toArray, List.set_cons_succ, List.set_cons_zero]
                       rfl
                     simp only [Act.put, List.setIfInBounds_toArray, List.set_cons_succ, List.set_cons_zero])
          refine Pu.WalkM.make (by rfl) ?_
          rintro V rfl
          refine wpList_put_g rfl (.tmp 58) (.tmp 59) (.tmp 60) _ rfl 3 _ keyedI Tryz.underlying78 rfl hMd.out (by unfold maxLen; omega) _ (.agg #[.int .i64 d.od, .slice A1 d.wa.length c1, .slice As sl.length cs, .slice A3 d.ba.length c3, .map (some d.fb)]) _ rfl rfl hkey.out ?_
          intro W5 hM5 hg5
          refine ⟨rfl, undef, (fun _ => True), (fun V => V = W5), rfl, rfl, (fun _ _ => trivial), (.inl (by kernel_rfl)), Pu.WalkM.nil ?_⟩
          rintro V rfl
          simp only [Act.put]
          have hk4 : Kept (fun i => i < w.heap.size ∧ i ≠ d.fb) w W4.drew := (Kept.of_below HB5.out fun _ hi => hi.1).trans ((Kept.of_grown HG4.out fun i hi => ⟨Nat.lt_of_lt_of_le hi.1 HB5.out.size, fun e => hi.2 (Option.some.inj e)⟩).trans (Kept.of_below (Below.refl W4.heap.size W4).drew fun i hi => Nat.lt_of_lt_of_le hi.1 (Nat.le_trans HB5.out.size HG4.out.size)))
          have hks : Kept (fun i => i < W2.heap.size ∧ W.heap.size + 1 ≤ i) W2 W4.drew := (Kept.of_grown HG3.out fun i hi => ⟨hi.1, fun e => by have := Option.some.inj e; omega⟩).trans ((Kept.of_grown HG4.out fun i hi => ⟨Nat.lt_of_lt_of_le hi.1 HG3.out.size, fun e => by have := Option.some.inj e; omega⟩).trans (Kept.of_below (Below.refl W4.heap.size W4).drew fun i hi => Nat.lt_of_lt_of_le hi.1 (Nat.le_trans HG3.out.size HG4.out.size)))
          rw [show od = d.od from HE.out.2.2.2.symm] at hM5
          obtain ⟨f1, f2⟩ := set_fin (d := { d with sh := sl, fr := mPut intK d.fr r (.bool true) }) H.out HR.out HE.out.2.2.1 rfl rfl (fun x hx e => uniq H.out HM.out HR.out HE.out.2.2.1 hx e) hk4 (by have := HOK.out; rw [HRW.out] at this; exact this)
            ⟨_, _, _, rfl, I1.out.keep hk4 (fun i hi hf => ⟨⟨hi, hf.2.2.2 d HE.out.2.2.1⟩, .inl ⟨hi, hf⟩⟩), HVS.out.keep hks (fun i hi hf => ⟨⟨hi, hf⟩, .inr (by omega)⟩), I3.out.keep hk4 (fun i hi hf => ⟨⟨hi, hf.2.2.2 d HE.out.2.2.1⟩, .inl ⟨hi, hf⟩⟩)⟩ (HF4.out.kept hdn (by simp)) hM5 hg5
          have F1 := Lib.hid f1
          have F2 := Lib.hid f2
          clear f1 f2 hM5 hg5
          go_wp2
          go_ret
          exact ⟨rfl, by rw [HRW.out]; exact F1.out, F2.out⟩
        · have hwb : ((withinOf d.wa d.sh l).2 == 0) = false := by simpa using hwc
          obtain rfl : R = (ds, (withinOf d.wa d.sh l).2) := by rw [HS3.out, if_neg hwc]
          generalize hRW : withinOf d.wa d.sh l = RW at cW2 hwb
          have HRW := Lib.hid hRW
          clear hRW
          go_wp2_with fail
          refine cW2.out.mono ?_
          rintro e W2 ⟨⟨v, rfl, hv⟩, hb3⟩
          have hb4 := hb2.trans (hb3.mono hb2.size)
          go_wp2
          go_ret
          exact ⟨by rw [HRW.out]; rfl, H.out.same hb4, Other.of_below hb4⟩
    · have hRc : R = (ds, rowCode ds od l) := by
        rw [HS1.out]
        unfold rowCode
        cases hf : findR ds od with
        | none => rfl
        | some d =>
          cases hml : may l with
          | false => rfl
          | true => unfold rowCode at hrc; rw [hf, hml] at hrc; simp at hrc
      subst hRc
      have hrb : (rowCode ds od l != 0) = true := by simpa using hrc
      have cR := CR.out
      rw [rowVal_not hrc] at cR
      simp only [zrow] at cR
      have CR2 := Lib.hid cR
      generalize rowCode ds od l = RC at *
      clear cR CR HS1 hrc
      go_enter Tryz.func11, Tryz.ntmps11
      go_wp2_with (go_at_call 43; refine cMd.out.mono ?_; rintro e W ⟨rfl, rfl⟩)
      refine CR2.out.mono ?_
      rintro e W ⟨rfl, hb1⟩
      have hb2 := hb1.alloc hb1.size (.cells #[.int .i64 0, .slice none 0 0, .slice none 0 0, .slice none 0 0, .map none] 87)
      go_wp2
      go_ret
      exact ⟨rfl, H.out.same hb2, Other.of_below hb2⟩
end Pc
end Go.Proofs.YtdbkkldgobkjcaaGreat

namespace Go.Proofs.YtdbkkldgobkjcaaGreat
open Go.RowKit Go.Maps
namespace Pc
open It Mv

theorem back_ok {d : Row} (hd : OkR d) {l : List It.Item} (hM : M l) (h : (withinOf d.sh d.ba l).2 = 0) : OkR { d with ba := (withinOf d.sh d.ba l).1 } := by
  obtain ⟨h1, h2, -, -⟩ := within_ok hd.ba hM h
  exact ⟨hd.od, hd.wa, hd.some, hd.sh, h1, hd.cs, h2, hd.fr⟩
theorem undo_ok {d : Row} (hd : OkR d) {l : List It.Item} (hM : M l) (h : (minusOf d.ba l).2 = 0) : OkR { d with ba := (minusOf d.ba l).1 } := by
  obtain ⟨h1, h2⟩ := minus_ok hd.ba hM h
  exact ⟨hd.od, hd.wa, hd.some, hd.sh, h1, hd.cs, order_trans hd.sh hd.ba h1 hd.cb h2, hd.fr⟩

set_option maxRecDepth 100000 in
set_option maxHeartbeats 8000000 in
theorem back_calls (od : Int) (l : List It.Item) (lv : Value) (base b mb : Nat) (X : Nat → Prop) (ds : List Row) (w : World) (h : PcAt w base b mb X ds) (hI : ItemsAt w 0 w.heap.size lv l) (hF : Fits l) (h0 : -9223372036854775808 ≤ od) (h1 : od ≤ 9223372036854775807) :
    Calls Tryz.prog 13 #[.pointer (some ⟨b, 0, none⟩), .int .i64 od, lv] w fun e w' => e = .returned (.int .i64 (backOf ds od l).2) ∧ PcAt w' base b mb X (backOf ds od l).1 ∧ Other mb ds w w' := by
  obtain ⟨m, hm, hR⟩ := h.map
  have g0 : w.cell? ⟨b, 0, none⟩ = some (.map (some mb)) := h.ob.cell (j := 0) rfl
  have hmb := hm.lt
  have hbl := h.ob.lt
  obtain ⟨hs, hv⟩ := h.val od hR
  have cR := row_calls od l lv b mb m ds w g0 hbl hm hs hv hI hF h0 h1
  have HM := Lib.hid hm
  have HR := Lib.hid hR
  have H := Lib.hid h
  have HI := Lib.hid hI
  have HS1 := Lib.hid (show backOf ds od l = match findR ds od with
    | none => (ds, 4)
    | some d => if may l = false then (ds, 60) else if (withinOf d.sh d.ba l).2 = 0 then (putR ds { d with ba := (withinOf d.sh d.ba l).1 }, 0) else (ds, (withinOf d.sh d.ba l).2) from rfl)
  obtain ⟨Al, cl, rfl, -⟩ := hI.form
  generalize backOf ds od l = R at *
  have CR := Lib.hid cR
  clear hm hR h hI hs hv cR
  by_cases hrc : rowCode ds od l = 0
  · obtain ⟨d, hf, hml⟩ : ∃ d, findR ds od = some d ∧ may l = true := by
      unfold rowCode at hrc
      cases hf : findR ds od with
      | none => rw [hf] at hrc; simp at hrc
      | some d =>
        rw [hf] at hrc
        cases hml : may l with
        | false => rw [hml] at hrc; simp at hrc
        | true => exact ⟨d, rfl, rfl⟩
    obtain ⟨hmem, hdod⟩ := findR_mem hf
    have hd := H.out.ok d hmem
    obtain ⟨val, hg, v1, v2, v3, ev, i1, i2, i3⟩ := HR.out.some hf
    have e : rowVal ds od l m = rowV d v1 v2 v3 := by unfold rowVal; rw [if_pos hrc, hg, ← ev]; rfl
    have cR := CR.out
    rw [hrc, e] at cR
    have hS1 := HS1.out
    rw [hf] at hS1
    dsimp only at hS1
    rw [hml, if_neg (by simp)] at hS1
    have I1 := Lib.hid i1
    have I2 := Lib.hid i2
    have I3 := Lib.hid i3
    obtain ⟨A1, c1, rfl, -⟩ := i1.items.form
    obtain ⟨A2, c2, rfl, -⟩ := i2.items.form
    obtain ⟨A3, c3, rfl, -⟩ := i3.items.form
    simp only [rowV] at cR
    have CR2 := Lib.hid cR
    have HS3 := Lib.hid hS1
    have HF := Lib.hid (H.out.frm d hmem)
    have HD := Lib.hid hd
    have HFL := Lib.hid (H.out.frm d hmem).lt
    have HE := Lib.hid (And.intro hf (And.intro hml (And.intro hmem hdod)))
    clear CR HS1 hrc hg ev i1 i2 i3 e cR hS1 hd hf hml hmem hdod
    have cW := Lib.hid (fun W (hb : Below w.heap.size w W) => within_calls d.sh d.ba l _ _ _ W (I2.out.items.mono hb hb.size) (I3.out.items.mono hb hb.size) (HI.out.mono hb hb.size) (fits_of HD.out.sh) (fits_of HD.out.ba) hF plus_fits)
    go_enter Tryz.func13, Tryz.ntmps13
    go_wp2_with fail
    refine CR2.out.mono ?_
    rintro e W ⟨rfl, hb1⟩
    have hb2 := hb1.alloc hb1.size (.cells #[.int .i64 d.od, .slice A1 d.wa.length c1, .slice A2 d.sh.length c2, .slice A3 d.ba.length c3, .map (some d.fb)] 87)
    have hO := Ob.new W 87 #[.int .i64 d.od, .slice A1 d.wa.length c1, .slice A2 d.sh.length c2, .slice A3 d.ba.length c3, .map (some d.fb)]
    have cW2 := Lib.hid (cW.out _ hb2)
    have HW1 := Lib.hid hb1.size
    clear cW CR2
    by_cases hwc : (withinOf d.sh d.ba l).2 = 0
    · obtain rfl : R = (putR ds { d with ba := (withinOf d.sh d.ba l).1 }, 0) := by rw [HS3.out, if_pos hwc]
      have HOK := Lib.hid (back_ok HD.out ((may_iff l).1 HE.out.2.1) hwc)
      generalize hRW : withinOf d.sh d.ba l = RW at cW2 hwc
      obtain ⟨sl, sc⟩ := RW
      dsimp only at cW2 hwc
      subst hwc
      have HRW := Lib.hid hRW
      clear hRW
      go_wp2_with fail
      refine cW2.out.mono ?_
      rintro e W2 ⟨⟨vs, rfl, hvs⟩, hb3⟩
      have HVS := Lib.hid (LiAt.of_own (F := fun i => W.heap.size + 1 ≤ i) hvs (fun i hi _ => by simpa using hi))
      obtain ⟨As, cs, rfl, -⟩ := (ItemsAt.of_own hvs).form
      have hb4 := hb2.trans (hb3.mono hb2.size)
      have hO2 := hO.same hb3
      have hO3 := hO2.set 3 (.slice As sl.length cs)
      have hg3 := grownBy_set W2 W.heap.size 3 (.slice As sl.length cs)
      have hw1 := HW1.out
      have hb5 := hb4.grown hg3 hb4.size (fun g e => by cases e; exact hw1)
      have HB5 := Lib.hid hb5
      have HG3 := Lib.hid hg3
      have HF4 := Lib.hid (HF.out.below hb5 HFL.out)
      have hfl2 := HFL.out
      obtain ⟨q0, q1, q2, q3, q4⟩ := hO2.five
      have f3 := hO2.frozen 3
      clear hvs hb1 hb2 hb3 hb4 hb5 hg3 hO
      go_wp2_with fail
      generalize hW4 : W2.setCell ⟨W.heap.size, 3, none⟩ (.slice As sl.length cs) = W4 at *
      clear hW4
      have hdn : W4.grownBy W4.drew none := only_of_below (Below.refl _ W4).drew none
      have gbd : W4.drew.cell? ⟨b, 0, none⟩ = some (.map (some mb)) := (HB5.out.cell (p := ⟨b, 0, none⟩) hbl).trans g0
      have hOd := hO3.kept hdn (by simp)
      have hMd := Lib.hid ((HM.out.below HB5.out hmb).kept hdn (by simp))
      have hm40 := H.out.short HM.out HR.out
      have hkey := Lib.hid (keyI h0 h1)
      clear q0 q1 q2 q3 q4 f3 hO2 hO3
      refine Pu.regionM [(0, false), (1, false), (2, false), (3, false), (4, false), (5, false), (6, true)] (fun V => Ob V W.heap.size 87 #[.int .i64 d.od, .slice A1 d.wa.length c1, .slice A2 d.sh.length c2, .slice As sl.length cs, .map (some d.fb)] ∧ V.cell? ⟨b, 0, none⟩ = some (.map (some mb))) hmx (by kernel_rfl) (by kernel_rfl) (by kernel_rfl) ⟨hOd, gbd⟩ rfl ?_
      simp only [Pu.named, List.filterMap_cons, List.filterMap_nil, List.getElem?_toArray, List.getElem?_cons_succ, List.getElem?_cons_zero, Option.map_some]
      iterate 6 (apply Pu.WalkM.on (by rfl)
                 · rintro V ⟨hOW, gW⟩
                   obtain ⟨q0, q1, q2, q3, q4⟩ := hOW.five
                   go_wp2_with fail
                   refine ⟨rfl, ?_, rfl⟩
                   try simp only [Act.put, List.setIfInBounds_toArray, List.set_cons_succ, List.set_cons_zero]
                   rfl
                 simp only [Act.put, List.setIfInBounds_toArray, List.set_cons_succ, List.set_cons_zero])
      refine Pu.WalkM.make (by rfl) ?_
      rintro V rfl
      refine wpList_put_g rfl (.tmp 39) (.tmp 40) (.tmp 41) _ rfl 3 _ keyedI Tryz.underlying78 rfl hMd.out (by unfold maxLen; omega) _ (.agg #[.int .i64 d.od, .slice A1 d.wa.length c1, .slice A2 d.sh.length c2, .slice As sl.length cs, .map (some d.fb)]) _ rfl rfl hkey.out ?_
      intro W5 hM5 hg5
      refine ⟨rfl, undef, (fun _ => True), (fun V => V = W5), rfl, rfl, (fun _ _ => trivial), (.inl (by kernel_rfl)), Pu.WalkM.nil ?_⟩
      rintro V rfl
      simp only [Act.put]
      have hk4 : Kept (fun i => i < w.heap.size ∧ i ≠ d.fb) w W4.drew := (Kept.of_below HB5.out.drew fun _ hi => hi.1)
      have hks : Kept (fun i => i < W2.heap.size ∧ W.heap.size + 1 ≤ i) W2 W4.drew := (Kept.of_grown HG3.out fun i hi => ⟨hi.1, fun e => by have := Option.some.inj e; omega⟩).trans (Kept.of_below (Below.refl W4.heap.size W4).drew fun i hi => Nat.lt_of_lt_of_le hi.1 HG3.out.size)
      rw [show od = d.od from HE.out.2.2.2.symm] at hM5
      obtain ⟨f1, f2⟩ := set_fin (d := { d with ba := sl }) H.out HR.out HE.out.2.2.1 rfl rfl (fun x hx e => uniq H.out HM.out HR.out HE.out.2.2.1 hx e) hk4 (by have := HOK.out; rw [HRW.out] at this; exact this)
        ⟨_, _, _, rfl, I1.out.keep hk4 (fun i hi hf => ⟨⟨hi, hf.2.2.2 d HE.out.2.2.1⟩, .inl ⟨hi, hf⟩⟩), I2.out.keep hk4 (fun i hi hf => ⟨⟨hi, hf.2.2.2 d HE.out.2.2.1⟩, .inl ⟨hi, hf⟩⟩), HVS.out.keep hks (fun i hi hf => ⟨⟨hi, hf⟩, .inr (by omega)⟩)⟩ (HF4.out.kept hdn (by simp)) hM5 hg5
      have F1 := Lib.hid f1
      have F2 := Lib.hid f2
      clear f1 f2 hM5 hg5
      go_wp2
      go_ret
      exact ⟨rfl, by rw [HRW.out]; exact F1.out, F2.out⟩
    · have hwb : ((withinOf d.sh d.ba l).2 == 0) = false := by simpa using hwc
      obtain rfl : R = (ds, (withinOf d.sh d.ba l).2) := by rw [HS3.out, if_neg hwc]
      generalize hRW : withinOf d.sh d.ba l = RW at cW2 hwb
      have HRW := Lib.hid hRW
      clear hRW
      go_wp2_with fail
      refine cW2.out.mono ?_
      rintro e W2 ⟨⟨v, rfl, hv⟩, hb3⟩
      have hb4 := hb2.trans (hb3.mono hb2.size)
      go_wp2
      go_ret
      exact ⟨by rw [HRW.out]; rfl, H.out.same hb4, Other.of_below hb4⟩
  · have hRc : R = (ds, rowCode ds od l) := by
      rw [HS1.out]
      unfold rowCode
      cases hf : findR ds od with
      | none => rfl
      | some d =>
        cases hml : may l with
        | false => rfl
        | true => unfold rowCode at hrc; rw [hf, hml] at hrc; simp at hrc
    subst hRc
    have hrb : (rowCode ds od l != 0) = true := by simpa using hrc
    have cR := CR.out
    rw [rowVal_not hrc] at cR
    simp only [zrow] at cR
    have CR2 := Lib.hid cR
    generalize rowCode ds od l = RC at *
    clear cR CR HS1 hrc
    go_enter Tryz.func13, Tryz.ntmps13
    go_wp2_with fail
    refine CR2.out.mono ?_
    rintro e W ⟨rfl, hb1⟩
    have hb2 := hb1.alloc hb1.size (.cells #[.int .i64 0, .slice none 0 0, .slice none 0 0, .slice none 0 0, .map none] 87)
    go_wp2
    go_ret
    exact ⟨rfl, H.out.same hb2, Other.of_below hb2⟩

set_option maxRecDepth 100000 in
set_option maxHeartbeats 8000000 in
theorem undo_calls (od : Int) (l : List It.Item) (lv : Value) (base b mb : Nat) (X : Nat → Prop) (ds : List Row) (w : World) (h : PcAt w base b mb X ds) (hI : ItemsAt w 0 w.heap.size lv l) (hF : Fits l) (h0 : -9223372036854775808 ≤ od) (h1 : od ≤ 9223372036854775807) :
    Calls Tryz.prog 15 #[.pointer (some ⟨b, 0, none⟩), .int .i64 od, lv] w fun e w' => e = .returned (.int .i64 (undoOf ds od l).2) ∧ PcAt w' base b mb X (undoOf ds od l).1 ∧ Other mb ds w w' := by
  obtain ⟨m, hm, hR⟩ := h.map
  have g0 : w.cell? ⟨b, 0, none⟩ = some (.map (some mb)) := h.ob.cell (j := 0) rfl
  have hmb := hm.lt
  have hbl := h.ob.lt
  obtain ⟨hs, hv⟩ := h.val od hR
  have cR := row_calls od l lv b mb m ds w g0 hbl hm hs hv hI hF h0 h1
  have HM := Lib.hid hm
  have HR := Lib.hid hR
  have H := Lib.hid h
  have HI := Lib.hid hI
  have HS1 := Lib.hid (show undoOf ds od l = match findR ds od with
    | none => (ds, 4)
    | some d => if may l = false then (ds, 60) else if (minusOf d.ba l).2 = 0 then (putR ds { d with ba := (minusOf d.ba l).1 }, 0) else (ds, (minusOf d.ba l).2) from rfl)
  obtain ⟨Al, cl, rfl, -⟩ := hI.form
  generalize undoOf ds od l = R at *
  have CR := Lib.hid cR
  clear hm hR h hI hs hv cR
  by_cases hrc : rowCode ds od l = 0
  · obtain ⟨d, hf, hml⟩ : ∃ d, findR ds od = some d ∧ may l = true := by
      unfold rowCode at hrc
      cases hf : findR ds od with
      | none => rw [hf] at hrc; simp at hrc
      | some d =>
        rw [hf] at hrc
        cases hml : may l with
        | false => rw [hml] at hrc; simp at hrc
        | true => exact ⟨d, rfl, rfl⟩
    obtain ⟨hmem, hdod⟩ := findR_mem hf
    have hd := H.out.ok d hmem
    obtain ⟨val, hg, v1, v2, v3, ev, i1, i2, i3⟩ := HR.out.some hf
    have e : rowVal ds od l m = rowV d v1 v2 v3 := by unfold rowVal; rw [if_pos hrc, hg, ← ev]; rfl
    have cR := CR.out
    rw [hrc, e] at cR
    have hS1 := HS1.out
    rw [hf] at hS1
    dsimp only at hS1
    rw [hml, if_neg (by simp)] at hS1
    have I1 := Lib.hid i1
    have I2 := Lib.hid i2
    have I3 := Lib.hid i3
    obtain ⟨A1, c1, rfl, -⟩ := i1.items.form
    obtain ⟨A2, c2, rfl, -⟩ := i2.items.form
    obtain ⟨A3, c3, rfl, -⟩ := i3.items.form
    simp only [rowV] at cR
    have CR2 := Lib.hid cR
    have HS3 := Lib.hid hS1
    have HF := Lib.hid (H.out.frm d hmem)
    have HD := Lib.hid hd
    have HFL := Lib.hid (H.out.frm d hmem).lt
    have HE := Lib.hid (And.intro hf (And.intro hml (And.intro hmem hdod)))
    clear CR HS1 hrc hg ev i1 i2 i3 e cR hS1 hd hf hml hmem hdod
    have cW := Lib.hid (fun W (hb : Below w.heap.size w W) => minus_calls d.ba l _ _ W (I3.out.items.mono hb hb.size) (HI.out.mono hb hb.size) (fits_of HD.out.ba) hF)
    go_enter Tryz.func15, Tryz.ntmps15
    go_wp2_with fail
    refine CR2.out.mono ?_
    rintro e W ⟨rfl, hb1⟩
    have hb2 := hb1.alloc hb1.size (.cells #[.int .i64 d.od, .slice A1 d.wa.length c1, .slice A2 d.sh.length c2, .slice A3 d.ba.length c3, .map (some d.fb)] 87)
    have hO := Ob.new W 87 #[.int .i64 d.od, .slice A1 d.wa.length c1, .slice A2 d.sh.length c2, .slice A3 d.ba.length c3, .map (some d.fb)]
    have cW2 := Lib.hid (cW.out _ hb2)
    have HW1 := Lib.hid hb1.size
    clear cW CR2
    by_cases hwc : (minusOf d.ba l).2 = 0
    · obtain rfl : R = (putR ds { d with ba := (minusOf d.ba l).1 }, 0) := by rw [HS3.out, if_pos hwc]
      have HOK := Lib.hid (undo_ok HD.out ((may_iff l).1 HE.out.2.1) hwc)
      generalize hRW : minusOf d.ba l = RW at cW2 hwc
      obtain ⟨sl, sc⟩ := RW
      dsimp only at cW2 hwc
      subst hwc
      have HRW := Lib.hid hRW
      clear hRW
      go_wp2_with fail
      refine cW2.out.mono ?_
      rintro e W2 ⟨⟨vs, rfl, hvs⟩, hb3⟩
      have HVS := Lib.hid (LiAt.of_own (F := fun i => W.heap.size + 1 ≤ i) hvs (fun i hi _ => by simpa using hi))
      obtain ⟨As, cs, rfl, -⟩ := (ItemsAt.of_own hvs).form
      have hb4 := hb2.trans (hb3.mono hb2.size)
      have hO2 := hO.same hb3
      have hO3 := hO2.set 3 (.slice As sl.length cs)
      have hg3 := grownBy_set W2 W.heap.size 3 (.slice As sl.length cs)
      have hw1 := HW1.out
      have hb5 := hb4.grown hg3 hb4.size (fun g e => by cases e; exact hw1)
      have HB5 := Lib.hid hb5
      have HG3 := Lib.hid hg3
      have HF4 := Lib.hid (HF.out.below hb5 HFL.out)
      have hfl2 := HFL.out
      obtain ⟨q0, q1, q2, q3, q4⟩ := hO2.five
      have f3 := hO2.frozen 3
      clear hvs hb1 hb2 hb3 hb4 hb5 hg3 hO
      go_wp2_with fail
      generalize hW4 : W2.setCell ⟨W.heap.size, 3, none⟩ (.slice As sl.length cs) = W4 at *
      clear hW4
      have hdn : W4.grownBy W4.drew none := only_of_below (Below.refl _ W4).drew none
      have gbd : W4.drew.cell? ⟨b, 0, none⟩ = some (.map (some mb)) := (HB5.out.cell (p := ⟨b, 0, none⟩) hbl).trans g0
      have hOd := hO3.kept hdn (by simp)
      have hMd := Lib.hid ((HM.out.below HB5.out hmb).kept hdn (by simp))
      have hm40 := H.out.short HM.out HR.out
      have hkey := Lib.hid (keyI h0 h1)
      clear q0 q1 q2 q3 q4 f3 hO2 hO3
      refine Pu.regionM [(0, false), (1, false), (2, false), (3, false), (4, false), (5, false), (6, true)] (fun V => Ob V W.heap.size 87 #[.int .i64 d.od, .slice A1 d.wa.length c1, .slice A2 d.sh.length c2, .slice As sl.length cs, .map (some d.fb)] ∧ V.cell? ⟨b, 0, none⟩ = some (.map (some mb))) hmx (by kernel_rfl) (by kernel_rfl) (by kernel_rfl) ⟨hOd, gbd⟩ rfl ?_
      simp only [Pu.named, List.filterMap_cons, List.filterMap_nil, List.getElem?_toArray, List.getElem?_cons_succ, List.getElem?_cons_zero, Option.map_some]
      iterate 6 (apply Pu.WalkM.on (by rfl)
                 · rintro V ⟨hOW, gW⟩
                   obtain ⟨q0, q1, q2, q3, q4⟩ := hOW.five
                   go_wp2_with fail
                   refine ⟨rfl, ?_, rfl⟩
                   try simp only [Act.put, List.setIfInBounds_toArray, List.set_cons_succ, List.set_cons_zero]
                   rfl
                 simp only [Act.put, List.setIfInBounds_toArray, List.set_cons_succ, List.set_cons_zero])
      refine Pu.WalkM.make (by rfl) ?_
      rintro V rfl
      refine wpList_put_g rfl (.tmp 36) (.tmp 37) (.tmp 38) _ rfl 3 _ keyedI Tryz.underlying78 rfl hMd.out (by unfold maxLen; omega) _ (.agg #[.int .i64 d.od, .slice A1 d.wa.length c1, .slice A2 d.sh.length c2, .slice As sl.length cs, .map (some d.fb)]) _ rfl rfl hkey.out ?_
      intro W5 hM5 hg5
      refine ⟨rfl, undef, (fun _ => True), (fun V => V = W5), rfl, rfl, (fun _ _ => trivial), (.inl (by kernel_rfl)), Pu.WalkM.nil ?_⟩
      rintro V rfl
      simp only [Act.put]
      have hk4 : Kept (fun i => i < w.heap.size ∧ i ≠ d.fb) w W4.drew := (Kept.of_below HB5.out.drew fun _ hi => hi.1)
      have hks : Kept (fun i => i < W2.heap.size ∧ W.heap.size + 1 ≤ i) W2 W4.drew := (Kept.of_grown HG3.out fun i hi => ⟨hi.1, fun e => by have := Option.some.inj e; omega⟩).trans (Kept.of_below (Below.refl W4.heap.size W4).drew fun i hi => Nat.lt_of_lt_of_le hi.1 HG3.out.size)
      rw [show od = d.od from HE.out.2.2.2.symm] at hM5
      obtain ⟨f1, f2⟩ := set_fin (d := { d with ba := sl }) H.out HR.out HE.out.2.2.1 rfl rfl (fun x hx e => uniq H.out HM.out HR.out HE.out.2.2.1 hx e) hk4 (by have := HOK.out; rw [HRW.out] at this; exact this)
        ⟨_, _, _, rfl, I1.out.keep hk4 (fun i hi hf => ⟨⟨hi, hf.2.2.2 d HE.out.2.2.1⟩, .inl ⟨hi, hf⟩⟩), I2.out.keep hk4 (fun i hi hf => ⟨⟨hi, hf.2.2.2 d HE.out.2.2.1⟩, .inl ⟨hi, hf⟩⟩), HVS.out.keep hks (fun i hi hf => ⟨⟨hi, hf⟩, .inr (by omega)⟩)⟩ (HF4.out.kept hdn (by simp)) hM5 hg5
      have F1 := Lib.hid f1
      have F2 := Lib.hid f2
      clear f1 f2 hM5 hg5
      go_wp2
      go_ret
      exact ⟨rfl, by rw [HRW.out]; exact F1.out, F2.out⟩
    · have hwb : ((minusOf d.ba l).2 == 0) = false := by simpa using hwc
      obtain rfl : R = (ds, (minusOf d.ba l).2) := by rw [HS3.out, if_neg hwc]
      generalize hRW : minusOf d.ba l = RW at cW2 hwb
      have HRW := Lib.hid hRW
      clear hRW
      go_wp2_with fail
      refine cW2.out.mono ?_
      rintro e W2 ⟨⟨v, rfl, hv⟩, hb3⟩
      have hb4 := hb2.trans (hb3.mono hb2.size)
      go_wp2
      go_ret
      exact ⟨by rw [HRW.out]; rfl, H.out.same hb4, Other.of_below hb4⟩
  · have hRc : R = (ds, rowCode ds od l) := by
      rw [HS1.out]
      unfold rowCode
      cases hf : findR ds od with
      | none => rfl
      | some d =>
        cases hml : may l with
        | false => rfl
        | true => unfold rowCode at hrc; rw [hf, hml] at hrc; simp at hrc
    subst hRc
    have hrb : (rowCode ds od l != 0) = true := by simpa using hrc
    have cR := CR.out
    rw [rowVal_not hrc] at cR
    simp only [zrow] at cR
    have CR2 := Lib.hid cR
    generalize rowCode ds od l = RC at *
    clear cR CR HS1 hrc
    go_enter Tryz.func15, Tryz.ntmps15
    go_wp2_with fail
    refine CR2.out.mono ?_
    rintro e W ⟨rfl, hb1⟩
    have hb2 := hb1.alloc hb1.size (.cells #[.int .i64 0, .slice none 0 0, .slice none 0 0, .slice none 0 0, .map none] 87)
    go_wp2
    go_ret
    exact ⟨rfl, H.out.same hb2, Other.of_below hb2⟩
end Pc
end Go.Proofs.YtdbkkldgobkjcaaGreat

namespace Go.Proofs.YtdbkkldgobkjcaaGreat
open Go.RowKit Go.Maps
namespace Pc
open It Mv

/-- Parcels.All: the receiver is boxed, the function value captures the box -/
theorem all_calls (p : Option Addr) (w : World) :
    Calls Tryz.prog 41 #[.pointer p] w fun e w' => e = .returned (.func (.func 85) #[] #[.pointer (some ⟨w.heap.size, 0, none⟩)]) ∧ w.alloc (.cells #[.pointer p] 23) = w' := by
  go_enter Tryz.func41, Tryz.ntmps41
  go_wp2
  go_ret
  exact ⟨rfl, rfl⟩
def la3 : List It.Item := [(sa, 3)]
theorem fits3 : Fits la3 := by
  intro x hx
  simp only [la3, List.mem_cons, List.not_mem_nil, or_false] at hx
  subst hx
  exact ⟨by decide, by decide, by decide⟩
def r1 (fb : Nat) : Row := ⟨1, la5, [], [], [], fb⟩
def r2 (fb : Nat) : Row := ⟨1, la5, la3, [], [(0, .bool true)], fb⟩
theorem l_open (fb : Nat) : openOf [] 1 la5 fb = ([r1 fb], 0) := by kernel_rfl
theorem l_ship (fb : Nat) : shipOf [r1 fb] 1 0 la3 = ([r2 fb], 0) := by kernel_rfl
theorem l_ship2 (fb : Nat) : shipOf [r2 fb] 1 1 la3 = ([r2 fb], 50) := by kernel_rfl
theorem l_find (fb : Nat) : findR [r2 fb] 1 = some (r2 fb) := by kernel_rfl
theorem l_left (fb : Nat) : leftOf [r2 fb] 1 = la3 := by kernel_rfl
theorem eql_nilP (b : Nat) (w : World) : (binOp .eql 82 (.func (.func 85) #[] #[.pointer (some ⟨b, 0, none⟩)]) .nilFunc).run Tryz.prog w = .ok (.bool false) w := by kernel_rfl

/-- a literal list of one item -/
theorem lit1 (w : World) (n : Int) (k : Nat) (hk : w.heap.size = k) : ItemsAt (w.alloc (.cells #[.string ⟨#[97]⟩, .int .i64 n] 37)) 0 (w.alloc (.cells #[.string ⟨#[97]⟩, .int .i64 n] 37)).heap.size (.slice (some ⟨k, 0, none⟩) 1 1) [(sa, n)] := by
  subst hk
  have h2 : ItemsAt (w.alloc (.cells #[.string ⟨#[97]⟩, .int .i64 n] 37)) w.heap.size (w.heap.size + 1) (.slice (some ⟨w.heap.size, 0, none⟩) 1 1) [(sa, n)] := Sl.new w #[.string ⟨#[97]⟩, .int .i64 n] 37 (n := 1) rfl (by unfold maxLen; omega)
  exact h2.wide (Nat.zero_le _) (by simp)

set_option maxRecDepth 100000 in
set_option maxHeartbeats 4000000 in
theorem lives_calls (w : World) : Calls Tryz.prog 8 #[] w fun e w' => e = .returned (.bool true) ∧ Below w.heap.size w w' := by
  have hen := eql_nilP
  have cA := Lib.hid (fun b W => all_calls (some ⟨b, 0, none⟩) W)
  go_enter Tryz.func8, Tryz.ntmps8
  go_wp2_with fail
  refine (new_calls w).mono ?_
  rintro e w1 ⟨⟨b, mb, rfl, hM⟩, h1⟩
  replace hM := hM (fun _ => False) (fun _ h => h.elim)
  go_wp2_with fail
  refine (cA.out _ _).mono ?_
  rintro e w2 ⟨rfl, rfl⟩
  have hal := (Below.refl w1.heap.size w1).alloc (Nat.le_refl _) (.cells #[.pointer (some ⟨b, 0, none⟩)] 23)
  have hal2 := hal.alloc hal.size (.cells #[.string ⟨#[97]⟩, .int .i64 5] 37)
  have hM2 := hM.same hal2
  have hB2 := h1.trans (hal2.mono h1.size)
  have hL2 := lit1 (w1.alloc (.cells #[.pointer (some ⟨b, 0, none⟩)] 23)) 5 (w1.heap.size + 1) (by simp)
  go_wp2_with fail
  refine (open_calls 1 la5 _ w.heap.size b mb _ [] _ hM2 hL2 fits5 (by omega) (by omega) hB2.size).mono ?_
  clear hM hal hal2 hL2 h1
  rintro e w3 ⟨⟨fb, rfl, hM3, -⟩, ho3⟩
  rw [l_open] at hM3 ⊢
  have hB3 := ho3.below hM2 (Nat.le_refl _) hB2 (Nat.le_refl _)
  have hal := (Below.refl w3.heap.size w3).alloc (Nat.le_refl _) (.cells #[.string ⟨#[97]⟩, .int .i64 3] 37)
  have hM4 := hM3.same hal
  have hB4 := hB3.trans (hal.mono hB3.size)
  have hL4 := lit1 w3 3 _ rfl
  clear hM2 hB2 ho3
  go_wp2_with fail
  refine (ship_calls 1 0 la3 _ w.heap.size b mb _ _ _ hM4 hL4 fits3 (by omega) (by omega)).mono ?_
  clear hM3 hB3 hal hL4
  rintro e w5 ⟨rfl, hM5, ho5⟩
  rw [l_ship] at hM5 ⊢
  have hB5 := ho5.below hM4 (Nat.le_refl _) hB4 (Nat.le_refl _)
  have hal := (Below.refl w5.heap.size w5).alloc (Nat.le_refl _) (.cells #[.string ⟨#[97]⟩, .int .i64 3] 37)
  have hM6 := hM5.same hal
  have hB6 := hB5.trans (hal.mono hB5.size)
  have hL6 := lit1 w5 3 _ rfl
  clear hM4 hB4 ho5
  go_wp2_with fail
  refine (ship_calls 1 1 la3 _ w.heap.size b mb _ _ _ hM6 hL6 fits3 (by omega) (by omega)).mono ?_
  clear hM5 hB5 hal hL6
  rintro e w7 ⟨rfl, hM7, ho7⟩
  rw [l_ship2] at hM7 ⊢
  have hB7 := ho7.below hM6 (Nat.le_refl _) hB6 (Nat.le_refl _)
  clear hM6 hB6 ho7
  go_wp2_with fail
  have cP := parcel_calls 1 w.heap.size b mb _ _ _ hM7 (by omega) (by omega)
  rw [l_find] at cP
  refine cP.mono ?_
  clear cP
  rintro e w8 ⟨⟨u1, u2, u3, rfl, o1, o2, o3⟩, h8⟩
  have hM8 := hM7.same h8
  have hB8 := hB7.trans (h8.mono hB7.size)
  obtain ⟨B1, d1, rfl, -⟩ := (toAt o1).form
  obtain ⟨B3, d3, rfl, -⟩ := (toAt o3).form
  have I2 : ItemsAt w8 0 w8.heap.size u2 la3 := toAt o2
  obtain ⟨B2, d2, rfl, -⟩ := I2.form
  obtain ⟨p, q, rfl, -, hp, -, hc⟩ := I2.cellAt (j := 0) (by decide)
  have hc1 : w8.cell? ⟨p, q + 1, none⟩ = some (.int .i64 3) := hc
  simp only [Option.getD_some, Option.isSome_some, r2, pclV, List.length_nil]
  rw [show la3.length = 1 from rfl, show la5.length = 1 from rfl]
  have hal := (Below.refl w8.heap.size w8).alloc (Nat.le_refl _) (.cells #[.int .i64 1, .slice B1 1 d1, .slice (some ⟨p, q, none⟩) 1 d2, .slice B3 0 d3] 39)
  have hc2 := (hal.cell (p := ⟨p, q + 1, none⟩) hp).trans hc1
  have hM9 := hM8.same hal
  have hB9 := hB8.trans (hal.mono hB8.size)
  have cL := left_calls 1 w.heap.size b mb _ _ _ hM9 (by omega) (by omega)
  rw [l_left] at cL
  clear hM7 hB7 h8 o1 o2 o3 hM8 hB8 hal hc I2
  go_wp2_with fail
  refine cL.mono ?_
  clear cL
  rintro e w10 ⟨⟨v, rfl, hv⟩, h10⟩
  have hM10 := hM9.same h10
  have hB10 := hB9.trans (h10.mono hB9.size)
  have I10 : ItemsAt w10 0 w10.heap.size v la3 := toAt hv
  obtain ⟨B4, d4, rfl, -⟩ := I10.form
  rw [show la3.length = 1 from rfl]
  clear hM9 hB9 h10 hv I10
  go_wp2_with fail
  refine (len_calls w.heap.size b mb _ _ _ hM10).mono ?_
  rintro e w11 ⟨rfl, rfl⟩
  go_wp2
  go_ret
  exact ⟨rfl, hB10⟩
end Pc
end Go.Proofs.YtdbkkldgobkjcaaGreat

namespace Go.Proofs.YtdbkkldgobkjcaaGreat
open Go.RowKit

theorem step_append_sl {P : Program} (w : World) {ops : Array Oper} {o : Oper} {a : Act} {K : Act → World → Prop} {Q : Exit → Act → World → Prop} {E : Prop} (hgd : o.guard = none) (s x : Operand) (t : TypeId)
    (ho : o.op = .call { callee := .builtin .append, args := #[s, x], argTypes := #[t, t] })
    (base : Nat) (e : TypeId) (i : TypeInfo) (z : Value) (size bytes : Nat) (ht : P.underlying t = some (.slice e)) (hi : P.info? e = some i) (hz : i.zero = some z)
    (hsize : i.size = size) (hby : i.bytes = bytes) (hzs : z.cells.size = size) (hsz : 0 < size)
    (v : Value) (n : Nat) (xs : List Value) (hs : a.eval s = v) (hown : w.ownsRow base e size v n xs)
    (lo B : Nat) (u : Value) (m : Nat) (ys : List Value) (hx : a.eval x = u) (hu : Sl w lo B size u m ys) (h1 : ∀ y ∈ ys, y.oneCell' = true)
    (h63 : n + m ≤ maxLen) (hbytes : (n + m) * bytes ≤ 140737488355328) (hbase : base ≤ w.heap.size)
    (h : ∀ v' w', w'.ownsRow base e size v' (n + m) (xs ++ ys) → w.grownBy w' v.ownBlock → (v'.ownBlock = v.ownBlock ∨ v'.ownBlock = some w.heap.size) → K (a.put o.dst v') w') :
    if Region.wanted o (yielded ops a.tmps) = true then Oper.wp P o a w K Q else E := by
  have hw : Region.wanted o (yielded ops a.tmps) = true := by simp [Region.wanted, hgd]
  rw [if_pos hw]
  obtain ⟨v', w', hrun, h2, h3, h4⟩ := run_append_sl (P := P) w base t o.type e i z size bytes ht hi hz hsize hby hzs hsz v n xs hown lo B u m ys hu h1 h63 hbytes hbase
  unfold Oper.wp execOp
  simp only [ho, resolve, invoke, builtin, Sem.run_bind, Sem.run_pure, Result.andThen_ok, List.map_toArray, List.map_cons, List.map_nil, hs, hx, hrun]
  exact h v' w' h2 h3 h4
theorem Sl.zero {w : World} {lo B size c : Nat} {A : Option Addr} (h : c ≤ maxLen) : Sl w lo B size (.slice A 0 c) 0 [] := ⟨by simp, _, _, rfl, Nat.zero_le _, h, fun h => by omega⟩
/-- a slice's first k elements -/
theorem Sl.upTo {w : World} {lo B size n k c : Nat} {A : Option Addr} {xs : List Value} (h : Sl w lo B size (.slice A n c) n xs) (hk : k ≤ n) : Sl w lo B size (.slice A k c) k (xs.take (k * size)) := by
  obtain ⟨A', c', e, h1, h2, h3⟩ := h.at_
  cases e
  have hl := h.len
  have hm : k * size ≤ n * size := Nat.mul_le_mul_right _ hk
  refine ⟨by rw [List.length_take]; omega, _, _, rfl, by omega, h2, fun hn => ?_⟩
  obtain ⟨b, o, e, h4, h5, h6⟩ := h3 (by omega)
  exact ⟨b, o, e, h4, h5, fun j hj => by rw [h6 j (by omega), List.getElem?_take, if_pos hj]⟩
/-- a slice from its element k on: at its very end the address stays -/
theorem Sl.onFrom {w : World} {lo B size n k c : Nat} {b o : Nat} {xs : List Value} (h : Sl w lo B size (.slice (some ⟨b, o, none⟩) n c) n xs) (hk : k ≤ n) :
    Sl w lo B size (.slice (if c = k then some ⟨b, o, none⟩ else some ⟨b, o + k * size, none⟩) (n - k) (c - k)) (n - k) (xs.drop (k * size)) := by
  obtain ⟨A', c', e, h1, h2, h3⟩ := h.at_
  cases e
  have hl := h.len
  have hm : (n - k) * size + k * size = n * size := by rw [← Nat.add_mul]; congr 1; omega
  refine ⟨by rw [List.length_drop]; omega, _, _, rfl, by omega, by omega, fun hn => ?_⟩
  obtain ⟨b', o', e, h4, h5, h6⟩ := h3 (by omega)
  cases e
  rw [if_neg (by omega)]
  exact ⟨_, _, rfl, h4, h5, fun j hj => by rw [Nat.add_assoc, h6 _ (by omega), List.getElem?_drop]⟩
end Go.Proofs.YtdbkkldgobkjcaaGreat

namespace Go.Proofs.YtdbkkldgobkjcaaGreat
open Go.RowKit Go.Maps
namespace Pc
open It Mv

/-- one of the document's rows: the parcel (its map of regions, told as a list) and the values of its lists -/
structure DR where
  d : Row
  v1 : Value
  v2 : Value
  v3 : Value
def rowC (p : DR) : List Value := [.int .i64 p.d.od, p.v1, p.v2, p.v3, .bool (isIn p.d 0), .bool (isIn p.d 1), .bool (isIn p.d 2), .bool (isIn p.d 3), .bool (isIn p.d 4), .bool (isIn p.d 5), .bool (isIn p.d 6), .bool (isIn p.d 7)]
def rowCs (es : List DR) : List Value := es.flatMap rowC
theorem rowC_length (p : DR) : (rowC p).length = 12 := rfl
theorem rowCs_length : ∀ es : List DR, (rowCs es).length = es.length * 12
  | [] => rfl
  | p :: r => by
    have := rowCs_length r
    simp only [rowCs, List.flatMap_cons, List.length_append, rowC_length, List.length_cons] at this ⊢
    omega
theorem rowCs_append (a b : List DR) : rowCs (a ++ b) = rowCs a ++ rowCs b := by simp [rowCs]
theorem rowCs_get : ∀ (es : List DR) (j i : Nat) (h : j < es.length), i < 12 → (rowCs es)[j * 12 + i]? = (rowC es[j])[i]?
  | p :: r, 0, i, _, hi => by
    simp only [rowCs, List.flatMap_cons, Nat.zero_mul, Nat.zero_add, List.getElem_cons_zero]
    rw [List.getElem?_append_left (by rw [rowC_length]; exact hi)]
  | p :: r, j + 1, i, h, hi => by
    have := rowCs_get r j i (by simpa using h) hi
    simp only [rowCs, List.flatMap_cons, List.getElem_cons_succ] at this ⊢
    rw [List.getElem?_append_right (by rw [rowC_length]; omega), ← this, rowC_length]
    congr 1
    omega
theorem rowCs_take : ∀ (es : List DR) (k : Nat), rowCs (es.take k) = (rowCs es).take (k * 12)
  | [], k => by simp [rowCs]
  | p :: r, 0 => by simp [rowCs]
  | p :: r, k + 1 => by
    have := rowCs_take r k
    have e : (k + 1) * 12 = k * 12 + 12 := by omega
    simp only [rowCs, List.take_succ_cons, List.flatMap_cons] at this ⊢
    have h1 : (rowC p).take (k * 12 + 12) = rowC p := List.take_of_length_le (by rw [rowC_length]; omega)
    rw [this, e, List.take_append, h1, rowC_length, Nat.add_sub_cancel]
theorem rowCs_drop : ∀ (es : List DR) (k : Nat), rowCs (es.drop k) = (rowCs es).drop (k * 12)
  | [], k => by simp [rowCs]
  | p :: r, 0 => by simp [rowCs]
  | p :: r, k + 1 => by
    have := rowCs_drop r k
    have e : (k + 1) * 12 = k * 12 + 12 := by omega
    simp only [rowCs, List.drop_succ_cons, List.flatMap_cons] at this ⊢
    have h1 : (rowC p).drop (k * 12 + 12) = [] := List.drop_eq_nil_of_le (by rw [rowC_length]; omega)
    rw [this, e, List.drop_append, h1, rowC_length, Nat.add_sub_cancel]
    rfl

/-- the document's parcels: block xb, their row from base on; Y: blocks that others may write -/
structure DocP (w : World) (xb base : Nat) (Y : Nat → Prop) (es : List DR) : Prop where
  ob : ∃ v, Ob w xb 28 #[v] ∧ w.ownsRow base 46 12 v es.length (rowCs es) ∧ ∀ g, v.ownBlock = some g → ¬ Y g
  nest : ∀ p ∈ es, LiAt w (fun i => i ≠ xb ∧ ¬ Y i) p.v1 p.d.wa ∧ LiAt w (fun i => i ≠ xb ∧ ¬ Y i) p.v2 p.d.sh ∧ LiAt w (fun i => i ≠ xb ∧ ¬ Y i) p.v3 p.d.ba
  nx : ¬ Y xb
  yl : ∀ i, Y i → i < w.heap.size
theorem DocP.keep {w w' : World} {xb base : Nat} {Y : Nat → Prop} {es : List DR} (h : DocP w xb base Y es) (hk : Kept (fun i => i < w.heap.size ∧ ¬ Y i) w w') : DocP w' xb base Y es := by
  obtain ⟨v, h1, h2, h3⟩ := h.ob
  refine ⟨⟨v, hk.ob h1 ⟨h1.lt, h.nx⟩, ?_, h3⟩, fun p hp => ?_, h.nx, fun i hi => Nat.lt_of_lt_of_le (h.yl i hi) hk.size⟩
  · refine ⟨h2.1, ?_⟩
    rcases h2.2 with h4 | ⟨g, cap, cur, e, hb, hg, hr⟩
    · exact .inl h4
    · refine .inr ⟨g, cap, cur, e, hb, (hk.block g ⟨(Array.getElem?_eq_some_iff.1 hg).1, h3 g (by rw [e]; rfl)⟩).trans hg, hr⟩
  · obtain ⟨n1, n2, n3⟩ := h.nest p hp
    have hF : ∀ i, i < w.heap.size → (i ≠ xb ∧ ¬ Y i) → (i < w.heap.size ∧ ¬ Y i) ∧ (i ≠ xb ∧ ¬ Y i) := fun i hi hh => ⟨⟨hi, hh.2⟩, hh⟩
    exact ⟨n1.keep hk hF, n2.keep hk hF, n3.keep hk hF⟩
theorem DocP.same {w w' : World} {xb base : Nat} {Y : Nat → Prop} {es : List DR} (h : DocP w xb base Y es) (hb : Below w.heap.size w w') : DocP w' xb base Y es := h.keep (Kept.of_below hb fun _ hi => hi.1)
/-- others may write more blocks, if they are new to it -/
theorem DocP.more {w w' : World} {xb base : Nat} {Y Y' : Nat → Prop} {es : List DR} (h : DocP w xb base Y es) (hb : Below w.heap.size w w') (hY : ∀ i, Y' i → (Y i ∨ w.heap.size ≤ i) ∧ i < w'.heap.size) : DocP w' xb base Y' es := by
  have h0 := h.same hb
  obtain ⟨v, h1, h2, h3⟩ := h.ob
  obtain ⟨v', g1, g2, -⟩ := h0.ob
  have hn : ∀ i, i < w.heap.size → ¬ Y i → ¬ Y' i := fun i hi hx hx' => by
    rcases (hY i hx').1 with h | h
    · exact hx h
    · omega
  have e : v' = v := by
    have h4 := h1.same hb
    unfold Ob at h4 g1
    rw [g1] at h4
    simpa using h4
  subst e
  refine ⟨⟨v', g1, g2, fun g hg => hn g (h2.lt g hg).2 (h3 g hg)⟩, fun p hp => ?_, hn xb h1.lt h.nx, fun i hi => (hY i hi).2⟩
  obtain ⟨n1, n2, n3⟩ := h.nest p hp
  have hk : Kept (fun i => i < w.heap.size) w w' := Kept.of_below hb fun _ hi => hi
  have hF : ∀ i, i < w.heap.size → (i ≠ xb ∧ ¬ Y i) → i < w.heap.size ∧ (i ≠ xb ∧ ¬ Y' i) := fun i hi hh => ⟨hi, hh.1, hn i hi hh.2⟩
  exact ⟨n1.keep hk hF, n2.keep hk hF, n3.keep hk hF⟩
theorem DocP.less {w : World} {xb base : Nat} {Y Y' : Nat → Prop} {es : List DR} (h : DocP w xb base Y es) (hY : ∀ i, Y' i → Y i) : DocP w xb base Y' es := by
  obtain ⟨v, h1, h2, h3⟩ := h.ob
  refine ⟨⟨v, h1, h2, fun g hg hy => h3 g hg (hY g hy)⟩, fun p hp => ?_, fun hy => h.nx (hY _ hy), fun i hi => h.yl i (hY i hi)⟩
  obtain ⟨n1, n2, n3⟩ := h.nest p hp
  have hF : ∀ i, i < w.heap.size → (i ≠ xb ∧ ¬ Y i) → True ∧ (i ≠ xb ∧ ¬ Y' i) := fun i _ hh => ⟨trivial, hh.1, fun hy => hh.2 (hY i hy)⟩
  exact ⟨n1.keep (Kept.refl (fun _ => True) w) hF, n2.keep (Kept.refl (fun _ => True) w) hF, n3.keep (Kept.refl (fun _ => True) w) hF⟩

/-- where the document finds an order -/
def idxR (ds : List Row) (k : Int) : Int := match ds.findIdx? (fun d => decide (d.od = k)) with | some i => i | none => -1
theorem docP_cell {w : World} {lo B c j n : Nat} {A : Option Addr} {es : List DR} (h : Sl w lo B 12 (.slice A n c) es.length (rowCs es)) (hj : j < es.length) : ∃ b o, A = some ⟨b, o, none⟩ ∧ lo ≤ b ∧ b < B ∧ ∀ i v, (rowC es[j])[i]? = some v → w.cell? ⟨b, o + j * 12 + i, none⟩ = some v := by
  obtain ⟨A', c', e, h1, h2, h3⟩ := h.at_
  cases e
  obtain ⟨b, o, ea, hl, hb, hc⟩ := h3 (by omega)
  refine ⟨b, o, ea, hl, hb, fun i v hv => ?_⟩
  have hi : i < 12 := by have := (List.getElem?_eq_some_iff.1 hv).1; rwa [rowC_length] at this
  rw [Nat.add_assoc]
  exact (hc (j * 12 + i) (by omega)).trans ((rowCs_get es j i hj hi).trans hv)
theorem idxR_lt (ds : List Row) (k : Int) (j : Nat) (hj : j < ds.length) (hlt : ∀ i (h : i < ds.length), i < j → ds[i].od ≠ k) (he : ds[j].od = k) : idxR ds k = j := by
  unfold idxR
  have : ds.findIdx? (fun d => decide (d.od = k)) = some j := by
    rw [List.findIdx?_eq_some_iff_getElem]
    exact ⟨hj, by simpa using he, fun i hi => by simpa using hlt i (by omega) hi⟩
  rw [this]
theorem idxR_none (ds : List Row) (k : Int) (h : ∀ i (h : i < ds.length), ds[i].od ≠ k) : idxR ds k = -1 := by
  unfold idxR
  have : ds.findIdx? (fun d => decide (d.od = k)) = none := by
    rw [List.findIdx?_eq_none_iff]
    intro d hd
    obtain ⟨i, hi, rfl⟩ := List.getElem_of_mem hd
    simpa using h i hi
  rw [this]

set_option maxRecDepth 100000 in
set_option maxHeartbeats 4000000 in
theorem findP_calls (k : Int) (xb base : Nat) (Y : Nat → Prop) (es : List DR) (w : World) (h : DocP w xb base Y es) :
    Calls Tryz.prog 18 #[.pointer (some ⟨xb, 0, none⟩), .int .i64 k] w fun e w' => e = .returned (.int .i64 (idxR (es.map (·.d)) k)) ∧ w = w' := by
  obtain ⟨v, hx, hv, -⟩ := h.ob
  have hS := Sl.of_own hv
  obtain ⟨A, c, rfl, hc1, hc2, -⟩ := hS.at_
  unfold maxLen at hc2
  have g0 := hx.cell (j := 0) (v := .slice A es.length c) rfl
  have HS := Lib.hid hS
  clear hS hv hx h
  go_enter Tryz.func18, Tryz.ntmps18
  go_wp2
  go_loopw [5] (fun i wr => ∃ j : Nat, j ≤ es.length ∧ i = .int .i64 j ∧ wr = w ∧ ∀ i (h : i < es.length), i < j → es[i].d.od ≠ k) (fun i _ => es.length - (intOf i).toNat)
  case atStart => exact ⟨0, by omega, rfl, rfl, fun i h hi => by omega⟩
  case round =>
    obtain ⟨j, hj, rfl, rfl, hne⟩ := hrel
    have HNE := Lib.hid hne
    clear hne
    by_cases hlt : j < es.length
    · have hd : decide ((j : Int) < (es.length : Int)) = true := by simp; omega
      obtain ⟨b, o, rfl, -, -, hcs0⟩ := docP_cell HS.out hlt
      have c0 := hcs0 0 _ rfl
      simp only [Nat.add_zero] at c0
      clear hcs0
      have hcs : (es[j].d.od == k) = true ∨ (es[j].d.od == k) = false := by cases (es[j].d.od == k) <;> simp
      generalize hm : es[j].d.od = m at *
      have HM := Lib.hid hm
      clear hm
      rcases hcs with hq | hq
      · go_wp2
        go_ret
        have he : m = k := by simpa using hq
        refine ⟨ret1 (congrArg (Value.int .i64) ?_), rfl⟩
        exact (idxR_lt _ _ j (by simpa using hlt) (fun i h hi => by simpa using HNE.out i (by simpa using h) hi) (by simpa using HM.out.trans he)).symm
      · go_wp2
        have hq2 : m ≠ k := by simpa using hq
        refine ⟨⟨j + 1, by omega, by go_num, trivial, fun i h hi => ?_⟩, by simp [intOf]; omega⟩
        by_cases e : i = j
        · subst e; rw [HM.out]; exact hq2
        · exact HNE.out i h (by omega)
    · obtain rfl : j = es.length := by omega
      have hd : decide ((es.length : Int) < (es.length : Int)) = false := by simp
      go_wp2
      go_ret
      refine ⟨ret1 (congrArg (Value.int .i64) ?_), rfl⟩
      exact (idxR_none _ _ (fun i h => by simpa using HNE.out i (by simpa using h) (by simpa using h))).symm
end Pc
end Go.Proofs.YtdbkkldgobkjcaaGreat
