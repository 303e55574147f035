/-
  parcels: Left, Open.
-/
import Derived.Test.YtdbkkldgobkjcaaPcD
import Derived.Deep.RegionHeld3
namespace Go.Proofs.Ytdbkkldgobkjcaa
open Go.RowKit Go.Maps
namespace Pc
open It Mv

def leftOf (ds : List Row) (od : Int) : List It.Item := both restF ((findR ds od).getD pcl0).sh ((findR ds od).getD pcl0).ba
theorem fits_sh {ds : List Row} (h : ∀ d ∈ ds, OkR d) (od : Int) : Fits ((findR ds od).getD pcl0).sh ∧ Fits ((findR ds od).getD pcl0).ba := by
  cases hf : findR ds od with
  | none =>
    have h0 : Fits [] := fun x hx => by cases hx
    exact ⟨h0, h0⟩
  | some d => exact ⟨fits_of (h d (findR_mem hf).1).sh, fits_of (h d (findR_mem hf).1).ba⟩
set_option maxRecDepth 100000 in
theorem left_calls (od : Int) (base b mb : Nat) (X : Nat → Prop) (ds : List Row) (w : World) (h : PcAt w base b mb X ds) (h0 : -9223372036854775808 ≤ od) (h1 : od ≤ 9223372036854775807) :
    Calls Try.prog 37 #[.pointer (some ⟨b, 0, none⟩), .int .i64 od] w fun e w' =>
      (∃ v, e = .returned v ∧ w'.ownsRow w.heap.size 36 2 v (leftOf ds od).length (itemCells (leftOf ds od))) ∧ Below w.heap.size w w' := by
  have cP := Lib.hid (parcel_calls od base b mb X ds w h h0 h1)
  obtain ⟨hF1, hF2⟩ := fits_sh h.ok od
  have HL := Lib.hid (show leftOf ds od = both restF ((findR ds od).getD pcl0).sh ((findR ds od).getD pcl0).ba from rfl)
  generalize leftOf ds od = R at *
  generalize (findR ds od).isSome = kn at *
  generalize (findR ds od).getD pcl0 = d at *
  obtain ⟨od', wa, sh, ba, fr, fb⟩ := d
  dsimp only at cP hF1 hF2 HL
  obtain ⟨rfl⟩ := HL.out
  clear h HL
  go_enter Try.func37, Try.ntmps37
  go_wp2_with fail
  refine cP.out.mono ?_
  rintro e W ⟨⟨u1, u2, u3, rfl, o1, o2, o3⟩, hb1⟩
  obtain ⟨B1, d1, rfl, -⟩ := (toAt o1).form
  have I2 := toAt o2
  have I3 := toAt o3
  obtain ⟨B2, d2, rfl, -⟩ := (toAt o2).form
  obtain ⟨B3, d3, rfl, -⟩ := (toAt o3).form
  have hal := (Below.refl W.heap.size W).alloc (Nat.le_refl _) (.cells #[.int .i64 od', .slice B1 wa.length d1, .slice B2 sh.length d2, .slice B3 ba.length d3] 70)
  have cR := Lib.hid (rest_calls sh ba _ _ _ (I2.mono hal hal.size) (I3.mono hal hal.size) hF1 hF2)
  have hB := hb1.trans (hal.mono hb1.size)
  dsimp only [pclV]
  clear o1 o2 o3 I2 I3 cP
  go_wp2_with fail
  refine cR.out.mono ?_
  rintro e W2 ⟨⟨v, rfl, hv⟩, hb2⟩
  go_wp2
  go_ret
  exact ⟨⟨_, rfl, ownsRow_wide hv hB.size⟩, hB.trans (hb2.mono hB.size)⟩

/-- a row is put into the table -/
theorem put_fin {w W W3 : World} {base b mb : Nat} {X : Nat → Prop} {ds : List Row} {m : List (Int × Value)} {d : Row} {val : Value} (H : PcAt w base b mb X ds) (hR : Rel w (Fo b mb X ds) m ds) (hO : Other mb ds w W) (hd : OkR d)
    (hv : RowAt W (Fo b mb X (putR ds d)) val d) (hf : GMap intK W Try.prog 3 d.fb d.fr) (hs : d.fb ≠ b ∧ d.fb ≠ mb ∧ ¬ X d.fb ∧ base ≤ d.fb) (hfo : ∀ i, i < w.heap.size → Fo b mb X ds i → i ≠ d.fb)
    (hap : ∀ c ∈ ds, c.od ≠ d.od → c.fb ≠ d.fb) (hoth : ∀ c ∈ ds, c.od ≠ d.od → GMap intK W Try.prog 3 c.fb c.fr) (hM3 : GMap intK W3 Try.prog 3 mb (mPut intK m d.od val)) (hg3 : W.grownBy W3 (some mb)) :
    PcAt W3 base b mb X (putR ds d) ∧ Other mb ds w W3 := by
  have hk3 : Kept (fun i => i < W.heap.size ∧ i ≠ mb) W W3 := Kept.of_grown hg3 fun i hi => ⟨hi.1, fun e => hi.2 (Option.some.inj e)⟩
  have hsz := Kept.size hO
  have hO3 : Other mb ds w W3 := Kept.trans hO (hk3.mono fun i hi => ⟨Nat.lt_of_lt_of_le hi.1 hsz, hi.2.1⟩)
  have hgm : ∀ {i : Nat} {t : List (Int × Value)}, GMap intK W Try.prog 3 i t → i ≠ mb → GMap intK W3 Try.prog 3 i t := fun h hne => h.kept hg3 (fun e => hne (Option.some.inj e))
  refine ⟨⟨hk3.ob (hO.ob H.ob H.ne (fun d hd => (H.sep d hd).1.symm)) ⟨Nat.lt_of_lt_of_le H.ob.lt hsz, H.ne⟩, ⟨_, hM3, Rel.put (hv.keep hk3 fun i hi hF => ⟨⟨hi, hF.2.1⟩, hF⟩) (hR.keep hO3 fun i hi hF => ⟨⟨hi, hF.2.1, hF.2.2.2⟩, hF.1, hF.2.1, hF.2.2.1, fun c hc => ?_⟩)⟩, fun c hc => ?_, Apart.put H.apart hap, fun c hc => ?_, H.ne, H.lo, H.nx, fun i hi => Nat.lt_of_lt_of_le (H.xl i hi) (Kept.size hO3), fun c hc => ?_⟩, hO3⟩
  all_goals rcases putR_mem hc with rfl | ⟨hc, hne⟩
  · exact hgm hf hs.2.1
  · exact hgm (hoth c hc hne) (H.sep c hc).2.1
  · exact hs
  · exact H.sep c hc
  · exact hd
  · exact H.ok c hc
  · exact hfo _ ‹_› ‹_›
  · exact (‹Fo b mb X ds _›).2.2.2 c hc
theorem PcAt.short {w : World} {base b mb : Nat} {X : Nat → Prop} {ds : List Row} (h : PcAt w base b mb X ds) {m : List (Int × Value)} (hm : GMap intK w Try.prog 3 mb m) (hR : Rel w (Fo b mb X ds) m ds) : m.length ≤ 1099511627776 := by
  have := GMap.keys_len hm 1 1099511627777 (by omega) fun p hp => by
    have h1 : p.1 ∈ ds.map (·.od) := by rw [← hR.keys]; exact List.mem_map.2 ⟨p, hp, rfl⟩
    obtain ⟨d, hd, e⟩ := List.mem_map.1 h1
    have := (h.ok d hd).od
    omega
  omega
theorem fresh_row {W : World} {F : Nat → Prop} {od : Int} {l : List It.Item} {v : Value} {fb : Nat} (h : LiAt W F v l) : RowAt W F (rowV ⟨od, l, [], [], [], fb⟩ v (.slice none 0 0) (.slice none 0 0)) ⟨od, l, [], [], [], fb⟩ :=
  ⟨_, _, _, rfl, h, LiAt.nil _ _, LiAt.nil _ _⟩

theorem open_fin {w W W3 : World} {base b mb : Nat} {X : Nat → Prop} {ds : List Row} {m : List (Int × Value)} {od : Int} {l : List It.Item} {v : Value} {fb : Nat} (H : PcAt w base b mb X ds) (hR : Rel w (Fo b mb X ds) m ds) (hB : Below w.heap.size w W)
    (hl : LiAt W (fun i => w.heap.size ≤ i ∧ i ≠ fb) v l) (hfb : w.heap.size ≤ fb) (hgm : GMap intK W Try.prog 3 fb []) (hod : 1 ≤ od ∧ od ≤ 1099511627776) (hml : may l = true) (hl0 : l ≠ []) (hkn : (findR ds od).isSome = false) (hbase : base ≤ w.heap.size)
    (hM3 : GMap intK W3 Try.prog 3 mb (mPut intK m od (.agg #[.int .i64 od, v, .slice none 0 0, .slice none 0 0, .map (some fb)]))) (hg3 : W.grownBy W3 (some mb)) :
    PcAt W3 base b mb X (putR ds ⟨od, l, [], [], [], fb⟩) ∧ Other mb ds w W3 := by
  obtain ⟨m', hm', -⟩ := H.map
  have hmb := hm'.lt
  have hbl := H.ob.lt
  have hM0 : M [] := (may_iff []).1 may_nil
  have hne : ∀ c ∈ ds, c.fb < w.heap.size := fun c hc => GMap.lt (H.frm c hc)
  refine put_fin H hR (Other.of_below hB) (d := ⟨od, l, [], [], [], fb⟩) ⟨by dsimp only; omega, (may_iff l).1 hml, hl0, hM0, hM0, covers_nil ((may_iff l).1 hml), covers_nil hM0, fun p hp => by cases hp⟩ (fresh_row (hl.keep (Kept.refl (fun _ => True) _) fun i _ hi => ⟨trivial, ?_⟩)) hgm ⟨by dsimp only; omega, by dsimp only; omega, fun hx => ?_, by dsimp only; omega⟩ (fun i hi _ => by dsimp only; omega) (fun c hc _ => ?_) (fun c hc _ => (H.frm c hc).below hB (hne c hc)) hM3 hg3
  · refine ⟨by omega, by omega, fun hx => ?_, fun c hc => ?_⟩
    · have := H.xl i hx; omega
    · rcases putR_mem hc with rfl | ⟨hc, -⟩
      · exact hi.2
      · have := hne c hc; omega
  · have := H.xl _ hx
    dsimp only at this
    omega
  · have := hne c hc
    dsimp only
    omega

set_option maxRecDepth 100000 in
set_option maxHeartbeats 8000000 in
theorem open_calls (od : Int) (l : List It.Item) (lv : Value) (base b mb : Nat) (X : Nat → Prop) (ds : List Row) (w : World) (h : PcAt w base b mb X ds) (hI : ItemsAt w 0 w.heap.size lv l) (hF : Fits l) (h0 : -9223372036854775808 ≤ od) (h1 : od ≤ 9223372036854775807) (hbase : base ≤ w.heap.size) :
    Calls Try.prog 30 #[.pointer (some ⟨b, 0, none⟩), .int .i64 od, lv] w fun e w' => (∃ fb, e = .returned (.int .i64 (openOf ds od l fb).2) ∧ PcAt w' base b mb X (openOf ds od l fb).1 ∧ w.heap.size ≤ fb) ∧ Other mb ds w w' := by
  obtain ⟨m, hm, hR⟩ := h.map
  have g0 : w.cell? ⟨b, 0, none⟩ = some (.map (some mb)) := h.ob.cell (j := 0) rfl
  have hmb := hm.lt
  have hbl := h.ob.lt
  have hkey := Lib.hid (keyI h0 h1)
  have cMd := Lib.hid (made_calls b mb _ g0)
  have cMay := Lib.hid (fun W hI => may_calls l lv W hI hF)
  have HG0 := Lib.hid (show ∀ fb, openOf ds od l fb = if od < 1 ∨ 1099511627776 < od then (ds, 1) else if may l = false ∨ l = [] then (ds, 60) else if (findR ds od).isSome then (ds, 5) else (putR ds ⟨od, l, [], [], [], fb⟩, 0) from fun _ => rfl)
  obtain ⟨hs, x0, A1, n1, c1, A2, n2, c2, A3, n3, c3, x4, hg⟩ := h.val od hR
  have HG := Lib.hid hg
  have HS := Lib.hid hs
  have HM := Lib.hid hm
  have HR := Lib.hid hR
  have H := Lib.hid h
  have hb := (Below.refl w.heap.size w).alloc (Nat.le_refl _) (.cells #[.int .i64 x0, .slice A1 n1 c1, .slice A2 n2 c2, .slice A3 n3 c3, .map x4] 96)
  have hIn := Lib.hid hI
  obtain ⟨Al, cl, rfl, hc1, hc2⟩ := hI.form
  unfold maxLen at hc2
  generalize hkn : (findR ds od).isSome = kn at *
  generalize hml : may l = ml at *
  have HML := Lib.hid hml
  have HKN := Lib.hid hkn
  have cMy := Lib.hid (cMay.out _ (hIn.out.mono hb hb.size))
  have hmm := @run_makeMap Try.prog
  clear hg hs hm hR h hI hkn hml cMay
  have hcs : (decide (od < 1) = true ∨ (decide (od < 1) = false ∧ decide (od > 1099511627776) = true)) ∨ (decide (od < 1) = false ∧ decide (od > 1099511627776) = false) := by
    by_cases e1 : od < 1 <;> by_cases e2 : od > 1099511627776 <;> simp [e1, e2]
  rcases hcs with hbad | ⟨e1, e2⟩
  · have hR1 : ∀ fb, openOf ds od l fb = (ds, 1) := fun fb => by
      rw [HG0.out, if_pos]
      rcases hbad with e1 | ⟨_, e2⟩
      · exact .inl (by simpa using e1)
      · exact .inr (by simpa using e2)
    simp only [hR1]
    rcases hbad with e1 | ⟨e1, e2⟩
    all_goals
      go_enter Try.func30, Try.ntmps30
      go_wp2_with (first
        | (go_at_call 50; refine cMd.out.mono ?_; rintro e W ⟨rfl, rfl⟩)
        | (at_lookup; refine wpList_look_ok_g rfl (.tmp 16) (.tmp 17) _ rfl 3 _ keyedI Try.underlying92 rfl HM.out (zeroR _) _ _ rfl hkey.out _ _ HG.out HS.out ?_))
      go_ret
      exact ⟨⟨_, rfl, H.out.same hb, Nat.le_refl _⟩, Other.of_below hb⟩
  · have hod : ¬ od < 1 ∧ ¬ 1099511627776 < od := by simp only [decide_eq_false_iff_not] at e1 e2; exact ⟨e1, e2⟩
    have HR1 := Lib.hid (show ∀ fb, openOf ds od l fb = if ml = false ∨ l = [] then (ds, 60) else if kn then (ds, 5) else (putR ds ⟨od, l, [], [], [], fb⟩, 0) from fun fb => by
      rw [HG0.out, if_neg]
      rintro (h | h)
      · exact hod.1 h
      · exact hod.2 h)
    cases ml with
    | false =>
      have hR2 : ∀ fb, openOf ds od l fb = (ds, 60) := fun fb => by rw [HR1.out, if_pos (.inl rfl)]
      simp only [hR2]
      clear hR2
      go_enter Try.func30, Try.ntmps30
      go_wp2_with (first
        | (go_at_call 50; refine cMd.out.mono ?_; rintro e W ⟨rfl, rfl⟩)
        | (at_lookup; refine wpList_look_ok_g rfl (.tmp 16) (.tmp 17) _ rfl 3 _ keyedI Try.underlying92 rfl HM.out (zeroR _) _ _ rfl hkey.out _ _ HG.out HS.out ?_)
        | (go_at_call 41; refine cMy.out.mono ?_; rintro e W1 ⟨rfl, hb1⟩; have hb2 := hb.trans (hb1.mono hb.size)))
      go_ret
      exact ⟨⟨_, rfl, H.out.same hb2, Nat.le_refl _⟩, Other.of_below hb2⟩
    | true =>
      by_cases hl0 : l = []
      · have hR2 : ∀ fb, openOf ds od l fb = (ds, 60) := fun fb => by rw [HR1.out, if_pos (.inr hl0)]
        simp only [hR2]
        have hl1 : l.length = 0 := by rw [hl0]; rfl
        rw [hl1] at cMy ⊢
        clear hl0 hR2
        go_enter Try.func30, Try.ntmps30
        go_wp2_with (first
          | (go_at_call 50; refine cMd.out.mono ?_; rintro e W ⟨rfl, rfl⟩)
          | (at_lookup; refine wpList_look_ok_g rfl (.tmp 16) (.tmp 17) _ rfl 3 _ keyedI Try.underlying92 rfl HM.out (zeroR _) _ _ rfl hkey.out _ _ HG.out HS.out ?_)
          | (go_at_call 41; refine cMy.out.mono ?_; rintro e W1 ⟨rfl, hb1⟩; have hb2 := hb.trans (hb1.mono hb.size)))
        go_ret
        exact ⟨⟨_, rfl, H.out.same hb2, Nat.le_refl _⟩, Other.of_below hb2⟩
      · have hl1 : ((l.length : Int) == 0) = false := by
          cases l with
          | nil => exact (hl0 rfl).elim
          | cons x r => simp; omega
        have HL0 := Lib.hid hl0
        have HR2 := Lib.hid (show ∀ fb, openOf ds od l fb = if kn then (ds, 5) else (putR ds ⟨od, l, [], [], [], fb⟩, 0) from fun fb => by
          rw [HR1.out, if_neg]
          rintro (h | h)
          · cases h
          · exact HL0.out h)
        clear hl0
        cases kn with
        | true =>
          have hR2 : ∀ fb, openOf ds od l fb = (ds, 5) := fun fb => by rw [HR2.out]; rfl
          simp only [hR2]
          clear hR2
          go_enter Try.func30, Try.ntmps30
          go_wp2_with (first
          | (go_at_call 50; refine cMd.out.mono ?_; rintro e W ⟨rfl, rfl⟩)
          | (at_lookup; refine wpList_look_ok_g rfl (.tmp 16) (.tmp 17) _ rfl 3 _ keyedI Try.underlying92 rfl HM.out (zeroR _) _ _ rfl hkey.out _ _ HG.out HS.out ?_)
          | (go_at_call 41; refine cMy.out.mono ?_; rintro e W1 ⟨rfl, hb1⟩; have hb2 := hb.trans (hb1.mono hb.size)))
          go_ret
          exact ⟨⟨_, rfl, H.out.same hb2, Nat.le_refl _⟩, Other.of_below hb2⟩
        | false =>
          have hR2 : ∀ fb, openOf ds od l fb = (putR ds ⟨od, l, [], [], [], fb⟩, 0) := fun fb => by rw [HR2.out]; rfl
          simp only [hR2]
          clear hR2
          have hl16 := may_len HML.out
          go_enter Try.func30, Try.ntmps30
          go_wp2_with (first
          | (go_at_call 50; refine cMd.out.mono ?_; rintro e W ⟨rfl, rfl⟩)
          | (at_lookup; refine wpList_look_ok_g rfl (.tmp 16) (.tmp 17) _ rfl 3 _ keyedI Try.underlying92 rfl HM.out (zeroR _) _ _ rfl hkey.out _ _ HG.out HS.out ?_)
          | (go_at_call 41; refine cMy.out.mono ?_; rintro e W1 ⟨rfl, hb1⟩; have hb2 := hb.trans (hb1.mono hb.size); have gb1 := ((H.out.same hb2).ob.cell (j := 0) rfl : _ = some (Value.map (some mb)))))
          have hbd : Below w.heap.size w W1.drew := hb2.drew
          have hba : Below w.heap.size w (W1.alloc (.map #[] 0)).drew := (hb2.alloc hb2.size _).drew
          have cA := Lib.hid (clonei_calls l _ W1.drew (hIn.out.mono hbd hbd.size) (by omega))
          have cB := Lib.hid (clonei_calls l _ (W1.alloc (.map #[] 0)).drew (hIn.out.mono hba hba.size) (by omega))
          have hm40 := H.out.short HM.out HR.out
          have HPUT := Lib.hid (fun W (hB : Below w.heap.size w W) val => (HM.out.below hB hmb).put (tm := 92) keyedI Try.underlying92 (by unfold maxLen; omega) hkey.out (val := val))
          have HGB := Lib.hid (fun W (hB : Below w.heap.size w W) => (hB.cell (p := ⟨b, 0, none⟩) hbl).trans g0)
          have HGP := Lib.hid (fun (W W' : World) (h : W.cell? ⟨b, 0, none⟩ = some (.map (some mb))) (hg : W.grownBy W' (some mb)) => hg.cell h (fun e => H.out.ne (Option.some.inj e)))
          have HBA := Lib.hid hba
          have HBD := Lib.hid hbd
          have HB2 := Lib.hid hb2
          clear cMd cMy HR2 HR1 hIn hb hba hbd hb2
          go_region_held3 (fun W => W.cell? ⟨b, 0, none⟩ = some (.map (some mb))) (go_keep)
            (first
              | (go_at_call 42; refine cA.out.mono ?_; rintro e W2 ⟨⟨cv, rfl, hcv⟩, hb3⟩; have hB3 := HBD.out.trans (hb3.mono HBD.out.size); have gb2 := HGB.out _ hB3; have hB4 := hB3.alloc hB3.size (.map #[] 0); have gb4 := HGB.out _ hB4; obtain ⟨Ac, cc, rfl, -⟩ := (ItemsAt.of_own hcv).form; have HB4 := Lib.hid hB4; have HCV := Lib.hid ((LiAt.of_own (F := fun i => w.heap.size ≤ i ∧ i ≠ W2.heap.size) hcv (fun i h1 h2 => ⟨Nat.le_trans HBD.out.size h1, Nat.ne_of_lt h2⟩)).keep (Kept.of_below (Fr := fun i => i < W2.heap.size) ((Below.refl W2.heap.size W2).alloc (Nat.le_refl _) (.map #[] 0)) fun _ h => h) (F' := fun i => w.heap.size ≤ i ∧ i ≠ W2.heap.size) fun i h1 h2 => ⟨h1, h2⟩); obtain ⟨W3, hput, hM3, hg3⟩ := HPUT.out _ hB4 (.agg #[.int .i64 od, .slice Ac l.length cc, .slice none 0 0, .slice none 0 0, .map (some W2.heap.size)]); have gb3 := HGP.out _ _ gb4 hg3; have HB3 := Lib.hid hB3; have HM3 := Lib.hid hM3; have HG3 := Lib.hid hg3; clear hcv hb3 hB3 hM3 hg3)
              | (go_at_call 42; refine cB.out.mono ?_; rintro e W2 ⟨⟨cv, rfl, hcv⟩, hb3⟩; have hB3 := HBA.out.trans (hb3.mono HBA.out.size); have gb2 := HGB.out _ hB3; obtain ⟨Ac, cc, rfl, -⟩ := (ItemsAt.of_own hcv).form; have HCV := Lib.hid (LiAt.of_own (F := fun i => w.heap.size ≤ i ∧ i ≠ W1.heap.size) hcv (fun i h1 h2 => ⟨Nat.le_trans HBA.out.size h1, fun e => by simp [World.drew] at h1; omega⟩)); obtain ⟨W3, hput, hM3, hg3⟩ := HPUT.out _ hB3 (.agg #[.int .i64 od, .slice Ac l.length cc, .slice none 0 0, .slice none 0 0, .map (some W1.heap.size)]); have gb3 := HGP.out _ _ gb2 hg3; have hfm := Lib.hid (((GMap.made (K := intK) W1 Try.prog 3).below (Below.refl (W1.alloc (.map #[] 0)).heap.size _).drew (by simp)).below hb3 (by simp [World.drew])); have HB3 := Lib.hid hB3; have HM3 := Lib.hid hM3; have HG3 := Lib.hid hg3; clear hcv hb3 hB3 hM3 hg3))
          all_goals clear g0 gb1
          · go_wp2
            go_ret
            obtain ⟨f1, f2⟩ := open_fin H.out HR.out HB4.out HCV.out HB3.out.size (GMap.made (K := intK) W2 Try.prog 3) hod HML.out HL0.out HKN.out hbase HM3.out HG3.out
            exact ⟨⟨_, rfl, f1, HB3.out.size⟩, f2⟩
          · go_wp2
            go_ret
            obtain ⟨f1, f2⟩ := open_fin H.out HR.out HB3.out HCV.out HB2.out.size hfm.out hod HML.out HL0.out HKN.out hbase HM3.out HG3.out
            exact ⟨⟨_, rfl, f1, HB2.out.size⟩, f2⟩
end Pc
end Go.Proofs.Ytdbkkldgobkjcaa
