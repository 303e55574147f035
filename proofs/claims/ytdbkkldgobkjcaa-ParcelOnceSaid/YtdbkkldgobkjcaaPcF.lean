/-
  parcels: Ship.
-/
import Derived.Test.YtdbkkldgobkjcaaPcE
namespace Go.Proofs.Ytdbkkldgobkjcaa
open Go.RowKit Go.Maps
namespace Pc
open It Mv

theorem zeroB (w : World) : (zeroValue 4).run Try.prog w = .ok (.bool false) w := by kernel_rfl
theorem isIn_val {d : Row} (h : OkR d) (r : Int) : (mGet d.fr r).getD (.bool false) = .bool (isIn d r) := by
  unfold isIn mGet
  cases hf : d.fr.find? (fun p => decide (p.1 = r)) with
  | none => rfl
  | some p =>
    have := (h.fr p (List.mem_of_find?_eq_some hf)).2.2
    simpa using this
theorem plus_fits {a b : List It.Item} (h : (plusOf a b).2 = 0) : Fits (plusOf a b).1 := fits_of (plusOf_M h)
theorem Fo_put {b mb : Nat} {X : Nat → Prop} {ds : List Row} {c d : Row} (hc : c ∈ ds) (e : d.fb = c.fb) {i : Nat} (h : Fo b mb X ds i) : Fo b mb X (putR ds d) i :=
  ⟨h.1, h.2.1, h.2.2.1, fun x hx => by
    rcases putR_mem hx with rfl | ⟨hx, -⟩
    · rw [e]; exact h.2.2.2 c hc
    · exact h.2.2.2 x hx⟩
/-- a row is changed: its new list is fresh, its map may be written -/
theorem set_fin {w W W3 : World} {base b mb : Nat} {X : Nat → Prop} {ds : List Row} {m : List (Int × Value)} {c d : Row} {val : Value} (H : PcAt w base b mb X ds) (hR : Rel w (Fo b mb X ds) m ds) (hc : c ∈ ds) (hod : d.od = c.od) (hfb : d.fb = c.fb) (hu : ∀ x ∈ ds, x.od = c.od → x = c)
    (hk : Kept (fun i => i < w.heap.size ∧ i ≠ c.fb) w W) (hd : OkR d) (hv : RowAt W (fun i => (i < w.heap.size ∧ Fo b mb X ds i) ∨ w.heap.size ≤ i) val d) (hf : GMap intK W Try.prog 3 c.fb d.fr)
    (hM3 : GMap intK W3 Try.prog 3 mb (mPut intK m d.od val)) (hg3 : W.grownBy W3 (some mb)) :
    PcAt W3 base b mb X (putR ds d) ∧ Other mb ds w W3 := by
  have hlt : ∀ x ∈ ds, x.fb < w.heap.size := fun x hx => GMap.lt (H.frm x hx)
  obtain ⟨m', hm', -⟩ := H.map
  have hmb := hm'.lt
  have hbl := H.ob.lt
  refine put_fin H hR (hk.mono fun i hi => ⟨hi.1, hi.2.2 c hc⟩) hd (hv.keep (Kept.refl (fun _ => True) _) fun i _ hi => ⟨trivial, ?_⟩) (by rw [hfb]; exact hf) (by rw [hfb]; exact H.sep c hc) (fun i _ hi => by rw [hfb]; exact hi.2.2.2 c hc) (fun x hx hne => ?_) (fun x hx hne => ?_) hM3 hg3
  · rcases hi with ⟨-, hi⟩ | hi
    · exact Fo_put hc hfb hi
    · refine ⟨by omega, by omega, fun hx => by have := H.xl i hx; omega, fun x hx => ?_⟩
      rcases putR_mem hx with rfl | ⟨hx, -⟩
      · rw [hfb]; have := hlt c hc; omega
      · have := hlt x hx; omega
  · rw [hfb]
    exact H.apart.mem hx hc (fun e => hne (by rw [e, hod]))
  · have h1 := H.frm x hx
    have h2 := H.apart.mem hx hc (fun e => hne (by rw [e, hod]))
    have h3 := h1.lt
    obtain ⟨es, clock, h4, F, h5, e⟩ := h1
    exact ⟨es, clock, (hk.block x.fb ⟨h3, h2⟩).trans h4, F, h5, e⟩
theorem uniq {ds : List Row} {w : World} {base b mb : Nat} {X : Nat → Prop} (H : PcAt w base b mb X ds) {m : List (Int × Value)} (hm : GMap intK w Try.prog 3 mb m) (hR : Rel w (Fo b mb X ds) m ds) : ∀ {c x : Row}, c ∈ ds → x ∈ ds → x.od = c.od → x = c := by
  have hs := hm.sorted keyedI
  have h1 : (m.map (·.1)).Pairwise (· < ·) := by
    rw [List.pairwise_map]
    exact hs.imp (fun {p q} h => by simpa [intK] using h)
  rw [hR.keys, List.pairwise_map] at h1
  clear hR hs H hm
  induction ds with
  | nil => intro c x hc; cases hc
  | cons y r ih =>
    rw [List.pairwise_cons] at h1
    intro c x hc hx e
    rcases List.mem_cons.1 hc with e1 | e1
    · rcases List.mem_cons.1 hx with e2 | e2
      · rw [e1, e2]
      · have := h1.1 x e2; rw [e1] at e; omega
    · rcases List.mem_cons.1 hx with e2 | e2
      · have := h1.1 c e1; rw [e2] at e; omega
      · exact ih h1.2 e1 e2 e

/-- a table at which some order is not known, or the list may not be: what row says -/
theorem rowVal_not {ds : List Row} {od : Int} {l : List It.Item} {m : List (Int × Value)} (h : rowCode ds od l ≠ 0) : rowVal ds od l m = zrow := by unfold rowVal; rw [if_neg h]

theorem mIns_mem {k : Int} {v : Value} {p : Int × Value} : ∀ {m : List (Int × Value)}, p ∈ mIns intK k v m → p = (k, v) ∨ p ∈ m
  | [], h => .inl (by simpa [mIns] using h)
  | c :: r, h => by
    unfold mIns at h
    split at h
    · rcases List.mem_cons.1 h with h | h
      · exact .inl h
      · exact .inr h
    · rcases List.mem_cons.1 h with h | h
      · exact .inr (by rw [h]; simp)
      · rcases mIns_mem h with h | h
        · exact .inl h
        · exact .inr (List.mem_cons_of_mem _ h)
theorem mPut_mem {k : Int} {v : Value} {p : Int × Value} {m : List (Int × Value)} (h : p ∈ mPut intK m k v) : p = (k, v) ∨ p ∈ m := by
  rcases mIns_mem h with h | h
  · exact .inl h
  · exact .inr (List.mem_filter.1 h).1
theorem ship_ok {d : Row} (hd : OkR d) {r : Int} {l : List It.Item} (hM : M l) (hr : 0 ≤ r ∧ r < 8) (h : (withinOf d.wa d.sh l).2 = 0) : OkR { d with sh := (withinOf d.wa d.sh l).1, fr := mPut intK d.fr r (.bool true) } := by
  obtain ⟨h1, h2, -, h4⟩ := within_ok hd.sh hM h
  refine ⟨hd.od, hd.wa, hd.some, h1, hd.ba, h2, (covers_iff h1 hd.ba).2 fun k => ?_, fun p hp => ?_⟩
  · have := (covers_iff hd.sh hd.ba).1 hd.cb k
    have := hM.nonneg k
    rw [h4 k]
    omega
  · rcases mPut_mem hp with rfl | hp
    · exact ⟨hr.1, by omega, rfl⟩
    · exact hd.fr p hp

set_option maxRecDepth 100000 in
set_option maxHeartbeats 8000000 in
theorem ship_calls (od r : Int) (l : List It.Item) (lv : Value) (base b mb : Nat) (X : Nat → Prop) (ds : List Row) (w : World) (h : PcAt w base b mb X ds) (hI : ItemsAt w 0 w.heap.size lv l) (hF : Fits l) (h0 : -9223372036854775808 ≤ od) (h1 : od ≤ 9223372036854775807) :
    Calls Try.prog 31 #[.pointer (some ⟨b, 0, none⟩), .int .i64 od, .int .i64 r, lv] w fun e w' => e = .returned (.int .i64 (shipOf ds od r l).2) ∧ PcAt w' base b mb X (shipOf ds od r l).1 ∧ Other mb ds w w' := by
  obtain ⟨m, hm, hR⟩ := h.map
  have g0 : w.cell? ⟨b, 0, none⟩ = some (.map (some mb)) := h.ob.cell (j := 0) rfl
  have hmb := hm.lt
  have hbl := h.ob.lt
  have cMd := Lib.hid (made_calls b mb _ g0)
  obtain ⟨hs, hv⟩ := h.val od hR
  have cR := row_calls od l lv b mb m ds w g0 hbl hm hs hv hI hF h0 h1
  have HM := Lib.hid hm
  have HR := Lib.hid hR
  have H := Lib.hid h
  have HI := Lib.hid hI
  have HS0 := Lib.hid (show shipOf ds od r l = if r < 0 ∨ 8 ≤ r then (ds, 1) else match findR ds od with
    | none => (ds, 4)
    | some d => if may l = false then (ds, 60) else if isIn d r then (ds, 5) else if (withinOf d.wa d.sh l).2 = 0 then (putR ds { d with sh := (withinOf d.wa d.sh l).1, fr := mPut intK d.fr r (.bool true) }, 0) else (ds, (withinOf d.wa d.sh l).2) from rfl)
  obtain ⟨Al, cl, rfl, -⟩ := hI.form
  generalize shipOf ds od r l = R at *
  have CR := Lib.hid cR
  clear hm hR h hI hs hv cR
  by_cases hbad : r < 0 ∨ 8 ≤ r
  · obtain rfl : R = (ds, 1) := by rw [HS0.out, if_pos hbad]
    have hcs : decide (r < 0) = true ∨ (decide (r < 0) = false ∧ decide (r ≥ 8) = true) := by
      by_cases e : r < 0
      · exact .inl (by simpa using e)
      · exact .inr ⟨by simpa using e, by simp; omega⟩
    clear hbad
    rcases hcs with e1 | ⟨e1, e2⟩
    all_goals
      go_enter Try.func31, Try.ntmps31
      go_wp2_with (go_at_call 50; refine cMd.out.mono ?_; rintro e W ⟨rfl, rfl⟩)
      go_ret
      exact ⟨rfl, H.out, Kept.refl _ _⟩
  · have e1 : decide (r < 0) = false := by simp; omega
    have e2 : decide (r ≥ 8) = false := by simp; omega
    have HS1 := Lib.hid (HS0.out.trans (if_neg hbad))
    clear HS0
    by_cases hrc : rowCode ds od l = 0
    · obtain ⟨d, hf, hml⟩ : ∃ d, findR ds od = some d ∧ may l = true := by
        unfold rowCode at hrc
        cases hf : findR ds od with
        | none => rw [hf] at hrc; simp at hrc
        | some d =>
          rw [hf] at hrc
          cases hml : may l with
          | false => rw [hml] at hrc; simp at hrc
          | true => exact ⟨d, rfl, rfl⟩
      obtain ⟨hmem, hdod⟩ := findR_mem hf
      have hd := H.out.ok d hmem
      obtain ⟨val, hg, v1, v2, v3, ev, i1, i2, i3⟩ := HR.out.some hf
      have e : rowVal ds od l m = rowV d v1 v2 v3 := by unfold rowVal; rw [if_pos hrc, hg, ← ev]; rfl
      have cR := CR.out
      rw [hrc, e] at cR
      have hS1 := HS1.out
      rw [hf] at hS1
      dsimp only at hS1
      rw [hml, if_neg (by simp)] at hS1
      have I1 := Lib.hid i1
      have I2 := Lib.hid i2
      have I3 := Lib.hid i3
      obtain ⟨A1, c1, rfl, -⟩ := i1.items.form
      obtain ⟨A2, c2, rfl, -⟩ := i2.items.form
      obtain ⟨A3, c3, rfl, -⟩ := i3.items.form
      simp only [rowV] at cR
      have CR2 := Lib.hid cR
      have HS2 := Lib.hid hS1
      have HF := Lib.hid (H.out.frm d hmem)
      have HD := Lib.hid hd
      have HIN := Lib.hid (isIn_val hd r)
      have hrr : 0 ≤ r ∧ r < 8 := by omega
      have hkeyR := Lib.hid (keyI (k := r) (by omega) (by omega))
      have HFL := Lib.hid (H.out.frm d hmem).lt
      have HE := Lib.hid (And.intro hf (And.intro hml (And.intro hmem hdod)))
      generalize isIn d r = ii at *
      clear CR HS1 hrc hg ev i1 i2 i3 e cR hS1 hbad hd hf hml hmem hdod
      cases ii with
      | true =>
        obtain rfl : R = (ds, 5) := by rw [HS2.out]; rfl
        go_enter Try.func31, Try.ntmps31
        go_wp2_with (go_at_call 50; refine cMd.out.mono ?_; rintro e W ⟨rfl, rfl⟩)
        refine CR2.out.mono ?_
        rintro e W ⟨rfl, hb1⟩
        have hb2 := hb1.alloc hb1.size (.cells #[.int .i64 d.od, .slice A1 d.wa.length c1, .slice A2 d.sh.length c2, .slice A3 d.ba.length c3, .map (some d.fb)] 96)
        have hlk := (HF.out.below hb2 HFL.out).look (tm := 51) keyedI Try.underlying51 (zeroB _) hkeyR.out
        rw [HIN.out] at hlk
        go_wp2
        go_ret
        exact ⟨rfl, H.out.same hb2, Other.of_below hb2⟩
      | false =>
        have HS3 := Lib.hid (HS2.out.trans (if_neg (by simp)))
        have cW := Lib.hid (fun W (hb : Below w.heap.size w W) => within_calls d.wa d.sh l _ _ _ W (I1.out.items.mono hb hb.size) (I2.out.items.mono hb hb.size) (HI.out.mono hb hb.size) (fits_of HD.out.wa) (fits_of HD.out.sh) hF plus_fits)
        go_enter Try.func31, Try.ntmps31
        go_wp2_with (go_at_call 50; refine cMd.out.mono ?_; rintro e W ⟨rfl, rfl⟩)
        refine CR2.out.mono ?_
        rintro e W ⟨rfl, hb1⟩
        have hb2 := hb1.alloc hb1.size (.cells #[.int .i64 d.od, .slice A1 d.wa.length c1, .slice A2 d.sh.length c2, .slice A3 d.ba.length c3, .map (some d.fb)] 96)
        have hO := Ob.new W 96 #[.int .i64 d.od, .slice A1 d.wa.length c1, .slice A2 d.sh.length c2, .slice A3 d.ba.length c3, .map (some d.fb)]
        have hlk := (HF.out.below hb2 HFL.out).look (tm := 51) keyedI Try.underlying51 (zeroB _) hkeyR.out
        rw [HIN.out] at hlk
        have cW2 := Lib.hid (cW.out _ hb2)
        have HW1 := Lib.hid hb1.size
        clear cW CR2 HS2 cMd
        by_cases hwc : (withinOf d.wa d.sh l).2 = 0
        · obtain rfl : R = (putR ds { d with sh := (withinOf d.wa d.sh l).1, fr := mPut intK d.fr r (.bool true) }, 0) := by rw [HS3.out, if_pos hwc]
          have HOK := Lib.hid (ship_ok (r := r) HD.out ((may_iff l).1 HE.out.2.1) hrr hwc)
          generalize hRW : withinOf d.wa d.sh l = RW at cW2 hwc
          obtain ⟨sl, sc⟩ := RW
          dsimp only at cW2 hwc
          subst hwc
          have HRW := Lib.hid hRW
          clear hRW
          go_wp2_with fail
          refine cW2.out.mono ?_
          rintro e W2 ⟨⟨vs, rfl, hvs⟩, hb3⟩
          have HVS := Lib.hid (LiAt.of_own (F := fun i => W.heap.size + 1 ≤ i) hvs (fun i hi _ => by simpa using hi))
          obtain ⟨As, cs, rfl, -⟩ := (ItemsAt.of_own hvs).form
          have hb4 := hb2.trans (hb3.mono hb2.size)
          have hO2 := hO.same hb3
          have hO3 := hO2.set 2 (.slice As sl.length cs)
          have hg3 := grownBy_set W2 W.heap.size 2 (.slice As sl.length cs)
          have hw1 := HW1.out
          have hb5 := hb4.grown hg3 hb4.size (fun g e => by cases e; exact hw1)
          have hfl := GMap.keys_len HF.out 0 8 (by omega) (fun p hp => by have := HD.out.fr p hp; omega)
          obtain ⟨W4, hput, hF4, hg4⟩ := (HF.out.below hb5 HFL.out).put (tm := 51) keyedI Try.underlying51 (by unfold maxLen; omega) hkeyR.out (val := .bool true)
          have HB5 := Lib.hid hb5
          have HG3 := Lib.hid hg3
          have HF4 := Lib.hid hF4
          have HG4 := Lib.hid hg4
          have hfl2 := HFL.out
          have hO4 := hO3.kept hg4 (fun e => by have := Option.some.inj e; omega)
          obtain ⟨q0, q1, q2, q3, q4⟩ := hO2.five
          have f2 := hO2.frozen 2
          clear hvs hb1 hb2 hb3 hb4 hb5 hg3 hF4 hg4 hO hlk hfl
          go_wp2_with fail
          have hdn : W4.grownBy W4.drew none := only_of_below (Below.refl _ W4).drew none
          have gbd : W4.drew.cell? ⟨b, 0, none⟩ = some (.map (some mb)) := HG4.out.cell ((HB5.out.cell (p := ⟨b, 0, none⟩) hbl).trans g0) (fun e => (H.out.sep d HE.out.2.2.1).1 (Option.some.inj e).symm)
          have hOd := hO4.kept hdn (by simp)
          have hMd := Lib.hid ((((HM.out.below HB5.out hmb).kept HG4.out (fun e => (H.out.sep d HE.out.2.2.1).2.1 (Option.some.inj e).symm))).kept hdn (by simp))
          have hm40 := H.out.short HM.out HR.out
          have hkey := Lib.hid (keyI h0 h1)
          clear q0 q1 q2 q3 q4 f2 hput hO2 hO3 hO4
          refine Pu.regionM [(0, false), (1, false), (2, false), (3, false), (4, false), (5, false), (6, true)] (fun V => Ob V W.heap.size 96 #[.int .i64 d.od, .slice A1 d.wa.length c1, .slice As sl.length cs, .slice A3 d.ba.length c3, .map (some d.fb)] ∧ V.cell? ⟨b, 0, none⟩ = some (.map (some mb))) hmx (by kernel_rfl) (by kernel_rfl) (by kernel_rfl) ⟨hOd, gbd⟩ rfl ?_
          simp only [Pu.named, List.filterMap_cons, List.filterMap_nil, List.getElem?_toArray, List.getElem?_cons_succ, List.getElem?_cons_zero, Option.map_some]
          iterate 6 (apply Pu.WalkM.on (by rfl)
                     · rintro V ⟨hOW, gW⟩
                       obtain ⟨q0, q1, q2, q3, q4⟩ := hOW.five
                       go_wp2_with fail
                       refine ⟨rfl, ?_, rfl⟩
                       try simp only [Act.put, List.setIfInBounds_toArray, List.set_cons_succ, List.set_cons_zero]
                       rfl
                     simp only [Act.put, List.setIfInBounds_toArray, List.set_cons_succ, List.set_cons_zero])
          refine Pu.WalkM.make (by rfl) ?_
          rintro V rfl
          refine wpList_put_g rfl (.tmp 58) (.tmp 59) (.tmp 60) _ rfl 3 _ keyedI Try.underlying92 rfl hMd.out (by unfold maxLen; omega) _ (.agg #[.int .i64 d.od, .slice A1 d.wa.length c1, .slice As sl.length cs, .slice A3 d.ba.length c3, .map (some d.fb)]) _ rfl rfl hkey.out ?_
          intro W5 hM5 hg5
          refine ⟨rfl, undef, (fun _ => True), (fun V => V = W5), rfl, rfl, (fun _ _ => trivial), (.inl (by kernel_rfl)), Pu.WalkM.nil ?_⟩
          rintro V rfl
          simp only [Act.put]
          have hk4 : Kept (fun i => i < w.heap.size ∧ i ≠ d.fb) w W4.drew := (Kept.of_below HB5.out fun _ hi => hi.1).trans ((Kept.of_grown HG4.out fun i hi => ⟨Nat.lt_of_lt_of_le hi.1 HB5.out.size, fun e => hi.2 (Option.some.inj e)⟩).trans (Kept.of_below (Below.refl W4.heap.size W4).drew fun i hi => Nat.lt_of_lt_of_le hi.1 (Nat.le_trans HB5.out.size HG4.out.size)))
          have hks : Kept (fun i => i < W2.heap.size ∧ W.heap.size + 1 ≤ i) W2 W4.drew := (Kept.of_grown HG3.out fun i hi => ⟨hi.1, fun e => by have := Option.some.inj e; omega⟩).trans ((Kept.of_grown HG4.out fun i hi => ⟨Nat.lt_of_lt_of_le hi.1 HG3.out.size, fun e => by have := Option.some.inj e; omega⟩).trans (Kept.of_below (Below.refl W4.heap.size W4).drew fun i hi => Nat.lt_of_lt_of_le hi.1 (Nat.le_trans HG3.out.size HG4.out.size)))
          rw [show od = d.od from HE.out.2.2.2.symm] at hM5
          obtain ⟨f1, f2⟩ := set_fin (d := { d with sh := sl, fr := mPut intK d.fr r (.bool true) }) H.out HR.out HE.out.2.2.1 rfl rfl (fun x hx e => uniq H.out HM.out HR.out HE.out.2.2.1 hx e) hk4 (by have := HOK.out; rw [HRW.out] at this; exact this)
            ⟨_, _, _, rfl, I1.out.keep hk4 (fun i hi hf => ⟨⟨hi, hf.2.2.2 d HE.out.2.2.1⟩, .inl ⟨hi, hf⟩⟩), HVS.out.keep hks (fun i hi hf => ⟨⟨hi, hf⟩, .inr (by omega)⟩), I3.out.keep hk4 (fun i hi hf => ⟨⟨hi, hf.2.2.2 d HE.out.2.2.1⟩, .inl ⟨hi, hf⟩⟩)⟩ (HF4.out.kept hdn (by simp)) hM5 hg5
          have F1 := Lib.hid f1
          have F2 := Lib.hid f2
          clear f1 f2 hM5 hg5
          go_wp2
          go_ret
          exact ⟨rfl, by rw [HRW.out]; exact F1.out, F2.out⟩
        · have hwb : ((withinOf d.wa d.sh l).2 == 0) = false := by simpa using hwc
          obtain rfl : R = (ds, (withinOf d.wa d.sh l).2) := by rw [HS3.out, if_neg hwc]
          generalize hRW : withinOf d.wa d.sh l = RW at cW2 hwb
          have HRW := Lib.hid hRW
          clear hRW
          go_wp2_with fail
          refine cW2.out.mono ?_
          rintro e W2 ⟨⟨v, rfl, hv⟩, hb3⟩
          have hb4 := hb2.trans (hb3.mono hb2.size)
          go_wp2
          go_ret
          exact ⟨by rw [HRW.out]; rfl, H.out.same hb4, Other.of_below hb4⟩
    · have hRc : R = (ds, rowCode ds od l) := by
        rw [HS1.out]
        unfold rowCode
        cases hf : findR ds od with
        | none => rfl
        | some d =>
          cases hml : may l with
          | false => rfl
          | true => unfold rowCode at hrc; rw [hf, hml] at hrc; simp at hrc
      subst hRc
      have hrb : (rowCode ds od l != 0) = true := by simpa using hrc
      have cR := CR.out
      rw [rowVal_not hrc] at cR
      simp only [zrow] at cR
      have CR2 := Lib.hid cR
      generalize rowCode ds od l = RC at *
      clear cR CR HS1 hrc
      go_enter Try.func31, Try.ntmps31
      go_wp2_with (go_at_call 50; refine cMd.out.mono ?_; rintro e W ⟨rfl, rfl⟩)
      refine CR2.out.mono ?_
      rintro e W ⟨rfl, hb1⟩
      have hb2 := hb1.alloc hb1.size (.cells #[.int .i64 0, .slice none 0 0, .slice none 0 0, .slice none 0 0, .map none] 96)
      go_wp2
      go_ret
      exact ⟨rfl, H.out.same hb2, Other.of_below hb2⟩
end Pc
end Go.Proofs.Ytdbkkldgobkjcaa
