/-
  moves: Forget, Go.
-/
import Derived.Test.YtdbkkldgobkjcaaMvC
namespace Go.Proofs.Ytdbkkldgobkjcaa
open Go.RowKit Go.Maps
namespace Mv
open It

def forgetOf (ds : List Way) (k : Int) : List Way × Int := match findW ds k with
  | none => (ds, 4)
  | some d => if d.came then (delW ds k, 0) else (ds, 80)

set_option maxRecDepth 100000 in
set_option maxHeartbeats 4000000 in
theorem forget_calls (k : Int) (b mb : Nat) (X : Nat → Prop) (ds : List Way) (w : World) (h : MvAt w b mb X ds) (h0 : -9223372036854775808 ≤ k) (h1 : k ≤ 9223372036854775807) :
    Calls Try.prog 17 #[.pointer (some ⟨b, 0, none⟩), .int .i64 k] w fun e w' => e = .returned (.int .i64 (forgetOf ds k).2) ∧ MvAt w' b mb X (forgetOf ds k).1 ∧ w.grownBy w' (some mb) := by
  have cV := move_calls k b mb X ds w h h0 h1
  have hkey := Lib.hid (keyI h0 h1)
  have H := Lib.hid h
  cases hf : findW ds k with
  | none =>
    have hC : forgetOf ds k = (ds, 4) := by unfold forgetOf; rw [hf]
    rw [hC]
    rw [hf] at cV
    have CV := Lib.hid cV
    clear hC hf h cV
    go_enter Try.func17, Try.ntmps17
    go_wp2_with fail
    refine CV.out.mono ?_
    rintro e W1 ⟨⟨v, rfl, hv⟩, hb1⟩
    obtain ⟨A, c, rfl, -⟩ := (toAt hv).form
    clear hv
    have hb2 := hb1.alloc hb1.size (.cells #[.int .i64 0, .int .i64 0, .int .i64 0, .slice A 0 c, .bool false] 42)
    have hM2 := H.out.same hb2
    have cM := Lib.hid (made_calls b mb _ (hM2.ob.cell (j := 0) rfl))
    simp only [wayV, way0, Option.getD_none, Option.isSome_none, List.length_nil]
    go_wp2_with fail
    refine cM.out.mono ?_
    rintro e W ⟨rfl, rfl⟩
    go_wp2
    go_ret
    exact ⟨rfl, hM2, only_of_below hb2 _⟩
  | some d =>
    obtain ⟨hmem, hmv⟩ := findW_mem hf
    have hlen2 := Lib.hid (delW_length ds k)
    obtain ⟨mv, fr, to_, l, came⟩ := d
    rw [hf] at cV
    have CV := Lib.hid cV
    cases came with
    | false =>
      have hC : forgetOf ds k = (ds, 80) := by unfold forgetOf; rw [hf]; rfl
      rw [hC]
      clear hC hf h cV hmem hmv
      go_enter Try.func17, Try.ntmps17
      go_wp2_with fail
      refine CV.out.mono ?_
      rintro e W1 ⟨⟨v, rfl, hv⟩, hb1⟩
      obtain ⟨A, c, rfl, -⟩ := (toAt hv).form
      clear hv
      simp only [wayV, Option.getD_some, Option.isSome_some]
      have hb2 := hb1.alloc hb1.size (.cells #[.int .i64 mv, .int .i64 fr, .int .i64 to_, .slice A l.length c, .bool false] 42)
      have hM2 := H.out.same hb2
      have cM := Lib.hid (made_calls b mb _ (hM2.ob.cell (j := 0) rfl))
      go_wp2_with fail
      refine cM.out.mono ?_
      rintro e W ⟨rfl, rfl⟩
      go_wp2
      go_ret
      exact ⟨rfl, hM2, only_of_below hb2 _⟩
    | true =>
      have hC : forgetOf ds k = (delW ds k, 0) := by unfold forgetOf; rw [hf]; rfl
      rw [hC]
      clear hC hf h cV hmem hmv
      go_enter Try.func17, Try.ntmps17
      go_wp2_with fail
      refine CV.out.mono ?_
      rintro e W1 ⟨⟨v, rfl, hv⟩, hb1⟩
      obtain ⟨A, c, rfl, -⟩ := (toAt hv).form
      clear hv
      simp only [wayV, Option.getD_some, Option.isSome_some]
      have hb2 := hb1.alloc hb1.size (.cells #[.int .i64 mv, .int .i64 fr, .int .i64 to_, .slice A l.length c, .bool true] 42)
      have hM2 := H.out.same hb2
      have g2 : _ = some (Value.map (some mb)) := hM2.ob.cell (j := 0) rfl
      have cM := Lib.hid (made_calls b mb _ g2)
      obtain ⟨m, hm, hR⟩ := hM2.map
      have HM := Lib.hid hm
      have HR := Lib.hid hR
      have HM2 := Lib.hid hM2
      clear hm hR hM2
      go_wp2_with (first
        | (go_at_call 39; refine cM.out.mono ?_; rintro e W ⟨rfl, rfl⟩)
        | (at_delete; refine wpList_del_g rfl (.tmp 27) (.tmp 28) _ 3 rfl _ keyedI Try.underlying79 rfl HM.out _ _ rfl hkey.out ?_; intro W3 hM3 hg3))
      go_ret
      have hgw := (only_of_below hb2 (some mb)).trans hg3
      have hR3 := Rel.del k (HR.out.kept hg3 (F' := fun i => i ≠ b ∧ i ≠ mb ∧ ¬ X i) (fun g e => .inl (fun q => q.2.1 (Option.some.inj e).symm)) (fun _ _ h => h))
      exact ⟨rfl, ⟨HM2.out.ob.kept hg3 (fun e => H.out.ne (Option.some.inj e)), ⟨_, hM3, hR3⟩, H.out.ne, H.out.nx, fun i hi => Nat.lt_of_lt_of_le (H.out.xl i hi) hgw.size, fun x hx => H.out.ok x (List.mem_filter.1 hx).1, Nat.le_trans hlen2.out H.out.len⟩, hgw⟩

def goOf (ds : List Way) (mv fr to_ : Int) (l : List It.Item) : List Way × Int :=
  if mv < 1 ∨ 1099511627776 < mv ∨ isR fr = false ∨ isR to_ = false ∨ fr = to_ then (ds, 1)
  else if may l = false ∨ l = [] then (ds, 60)
  else if (findW ds mv).isSome then (ds, 5)
  else if 256 ≤ ds.length then (ds, 2)
  else (putW ds ⟨mv, fr, to_, l, false⟩, 0)
theorem isR_iff (r : Int) : isR r = true ↔ 0 ≤ r ∧ r ≤ 7 := by
  unfold isR
  simp only [Bool.and_eq_true, decide_eq_true_eq]
  omega

set_option maxRecDepth 100000 in
set_option maxHeartbeats 8000000 in
theorem go_calls (mv fr to_ : Int) (l : List It.Item) (lv : Value) (b mb : Nat) (X : Nat → Prop) (ds : List Way) (w : World) (h : MvAt w b mb X ds) (hI : ItemsAt w 0 w.heap.size lv l) (hF : Fits l) (h0 : -9223372036854775808 ≤ mv) (h1 : mv ≤ 9223372036854775807) :
    Calls Try.prog 12 #[.pointer (some ⟨b, 0, none⟩), .int .i64 mv, .int .i64 fr, .int .i64 to_, lv] w fun e w' => e = .returned (.int .i64 (goOf ds mv fr to_ l).2) ∧ MvAt w' b mb X (goOf ds mv fr to_ l).1 ∧ w.grownBy w' (some mb) := by
  obtain ⟨m, hm, hR⟩ := h.map
  have g0 : w.cell? ⟨b, 0, none⟩ = some (.map (some mb)) := h.ob.cell (j := 0) rfl
  have hmb := hm.lt
  have hbl := h.ob.lt
  have hkey := Lib.hid (keyI h0 h1)
  have cMd := Lib.hid (made_calls b mb _ g0)
  have cF := Lib.hid (fun W => is_calls fr W)
  have cT := Lib.hid (fun W => is_calls to_ W)
  have cMay := Lib.hid (fun W hI => may_calls l lv W hI hF)
  have HG0 := Lib.hid (show goOf ds mv fr to_ l = if mv < 1 ∨ 1099511627776 < mv ∨ isR fr = false ∨ isR to_ = false ∨ fr = to_ then (ds, 1) else if may l = false ∨ l = [] then (ds, 60) else if (findW ds mv).isSome then (ds, 5) else if 256 ≤ ds.length then (ds, 2) else (putW ds ⟨mv, fr, to_, l, false⟩, 0) from rfl)
  have hval : ∃ x0 x1 x2 A n c x4, (mGet m mv).getD (wayV way0 (.slice none 0 0)) = .agg #[.int .i64 x0, .int .i64 x1, .int .i64 x2, .slice A n c, .bool x4] ∧ (mGet m mv).isSome = (findW ds mv).isSome := by
    cases hf : findW ds mv with
    | none => exact ⟨0, 0, 0, none, 0, 0, false, by rw [hR.none hf]; rfl, by rw [hR.none hf]; rfl⟩
    | some d =>
      obtain ⟨val, hg, hw⟩ := hR.some hf
      obtain ⟨v, rfl, hI⟩ := hw.items
      obtain ⟨A, c, rfl, -⟩ := hI.form
      exact ⟨_, _, _, _, _, _, _, by rw [hg]; rfl, by rw [hg]; rfl⟩
  obtain ⟨x0, x1, x2, A5, n5, c5, x4, hg, hs⟩ := hval
  have HG := Lib.hid hg
  have HS := Lib.hid hs
  have HM := Lib.hid hm
  have HR := Lib.hid hR
  have H := Lib.hid h
  have hb := (Below.refl w.heap.size w).alloc (Nat.le_refl _) (.cells #[.int .i64 x0, .int .i64 x1, .int .i64 x2, .slice A5 n5 c5, .bool x4] 42)
  have hIn := Lib.hid hI
  obtain ⟨Al, cl, rfl, hc1, hc2⟩ := hI.form
  unfold maxLen at hc2
  generalize hkn : (findW ds mv).isSome = kn at *
  generalize hml : may l = ml at *
  have HML := Lib.hid hml
  clear hml
  have HKN := Lib.hid hkn
  generalize goOf ds mv fr to_ l = R at *
  clear hg hs hm hR h hI hkn
  have hcs : (decide (mv < 1) = true ∨ (decide (mv < 1) = false ∧ decide (mv > 1099511627776) = true) ∨ (decide (mv < 1) = false ∧ decide (mv > 1099511627776) = false ∧ isR fr = false) ∨ (decide (mv < 1) = false ∧ decide (mv > 1099511627776) = false ∧ isR fr = true ∧ isR to_ = false) ∨
      (decide (mv < 1) = false ∧ decide (mv > 1099511627776) = false ∧ isR fr = true ∧ isR to_ = true ∧ (fr == to_) = true)) ∨ (decide (mv < 1) = false ∧ decide (mv > 1099511627776) = false ∧ isR fr = true ∧ isR to_ = true ∧ (fr == to_) = false) := by
    by_cases e1 : mv < 1 <;> by_cases e2 : mv > 1099511627776 <;> cases isR fr <;> cases isR to_ <;> by_cases e3 : fr = to_ <;> simp [e1, e2, e3] <;> omega
  rcases hcs with hbad | ⟨e1, e2, e3, e4, e5⟩
  · have hR1 : R = (ds, 1) := by
      rw [HG0.out, if_pos]
      rcases hbad with e1 | ⟨_, e2⟩ | ⟨_, _, e3⟩ | ⟨_, _, _, e4⟩ | ⟨_, _, _, _, e5⟩
      · exact .inl (by simpa using e1)
      · exact .inr (.inl (by simpa using e2))
      · exact .inr (.inr (.inl e3))
      · exact .inr (.inr (.inr (.inl e4)))
      · exact .inr (.inr (.inr (.inr (by simpa using e5))))
    subst hR1
    rcases hbad with e1 | ⟨e1, e2⟩ | ⟨e1, e2, e3⟩ | ⟨e1, e2, e3, e4⟩ | ⟨e1, e2, e3, e4, e5⟩
    case inl | inr.inl =>
      go_enter Try.func12, Try.ntmps12
      go_wp2_with (first
        | (go_at_call 39; refine cMd.out.mono ?_; rintro e W ⟨rfl, rfl⟩)
        | (at_lookup; refine wpList_look_ok_g rfl (.tmp 20) (.tmp 21) _ rfl 3 _ keyedI Try.underlying79 rfl HM.out (zeroW _) _ _ rfl hkey.out _ _ HG.out HS.out ?_))
      go_ret
      exact ⟨rfl, H.out.same hb, only_of_below hb _⟩
    all_goals
      try rw [e3] at cF
      try rw [e4] at cT
      go_enter Try.func12, Try.ntmps12
      go_wp2_with (first
        | (go_at_call 39; refine cMd.out.mono ?_; rintro e W ⟨rfl, rfl⟩)
        | (at_lookup; refine wpList_look_ok_g rfl (.tmp 20) (.tmp 21) _ rfl 3 _ keyedI Try.underlying79 rfl HM.out (zeroW _) _ _ rfl hkey.out _ _ HG.out HS.out ?_)
        | (go_at_call 40; first | ((with_reducible refine (cF.out _).mono ?_); rintro e W ⟨rfl, rfl⟩) | ((with_reducible refine (cT.out _).mono ?_); rintro e W ⟨rfl, rfl⟩)))
      go_ret
      exact ⟨rfl, H.out.same hb, only_of_below hb _⟩
  · have hmv : ¬ mv < 1 ∧ ¬ 1099511627776 < mv := by simp only [decide_eq_false_iff_not] at e1 e2; exact ⟨e1, e2⟩
    have hne : fr ≠ to_ := by simpa using e5
    have hR1 : R = if ml = false ∨ l = [] then (ds, 60) else if kn then (ds, 5) else if 256 ≤ ds.length then (ds, 2) else (putW ds ⟨mv, fr, to_, l, false⟩, 0) := by
      rw [HG0.out, if_neg]
      rintro (h | h | h | h | h)
      · exact hmv.1 h
      · exact hmv.2 h
      · rw [e3] at h; cases h
      · rw [e4] at h; cases h
      · exact hne h
    have HR1 := Lib.hid hR1
    have hfr := (isR_iff fr).1 e3
    have hto := (isR_iff to_).1 e4
    rw [e3] at cF
    rw [e4] at cT
    have cMy := Lib.hid (cMay.out _ (hIn.out.mono hb hb.size))
    clear hR1 cMay
    cases ml with
    | false =>
      obtain rfl : R = (ds, 60) := by rw [HR1.out, if_pos (.inl rfl)]
      go_enter Try.func12, Try.ntmps12
      go_wp2_with (first
          | (go_at_call 39; refine cMd.out.mono ?_; rintro e W ⟨rfl, rfl⟩)
          | (at_lookup; refine wpList_look_ok_g rfl (.tmp 20) (.tmp 21) _ rfl 3 _ keyedI Try.underlying79 rfl HM.out (zeroW _) _ _ rfl hkey.out _ _ HG.out HS.out ?_)
          | (go_at_call 40; first | ((with_reducible refine (cF.out _).mono ?_); rintro e W ⟨rfl, rfl⟩) | ((with_reducible refine (cT.out _).mono ?_); rintro e W ⟨rfl, rfl⟩))
          | (go_at_call 41; refine cMy.out.mono ?_; rintro e W1 ⟨rfl, hb1⟩; have hb2 := hb.trans (hb1.mono hb.size)))
      go_ret
      exact ⟨rfl, H.out.same hb2, only_of_below hb2 _⟩
    | true =>
      by_cases hl0 : l = []
      · obtain rfl : R = (ds, 60) := by rw [HR1.out, if_pos (.inr hl0)]
        have hl1 : l.length = 0 := by rw [hl0]; rfl
        rw [hl1] at cMy ⊢
        clear hl0
        go_enter Try.func12, Try.ntmps12
        go_wp2_with (first
          | (go_at_call 39; refine cMd.out.mono ?_; rintro e W ⟨rfl, rfl⟩)
          | (at_lookup; refine wpList_look_ok_g rfl (.tmp 20) (.tmp 21) _ rfl 3 _ keyedI Try.underlying79 rfl HM.out (zeroW _) _ _ rfl hkey.out _ _ HG.out HS.out ?_)
          | (go_at_call 40; first | ((with_reducible refine (cF.out _).mono ?_); rintro e W ⟨rfl, rfl⟩) | ((with_reducible refine (cT.out _).mono ?_); rintro e W ⟨rfl, rfl⟩))
          | (go_at_call 41; refine cMy.out.mono ?_; rintro e W1 ⟨rfl, hb1⟩; have hb2 := hb.trans (hb1.mono hb.size)))
        go_ret
        exact ⟨rfl, H.out.same hb2, only_of_below hb2 _⟩
      · have hl1 : ((l.length : Int) == 0) = false := by
          cases l with
          | nil => exact (hl0 rfl).elim
          | cons x r => simp; omega
        have HL0 := Lib.hid hl0
        have hR2 : R = if kn then (ds, 5) else if 256 ≤ ds.length then (ds, 2) else (putW ds ⟨mv, fr, to_, l, false⟩, 0) := by
          rw [HR1.out, if_neg]
          rintro (h | h)
          · cases h
          · exact hl0 h
        have HR2 := Lib.hid hR2
        clear hl0 hR2
        cases kn with
        | true =>
          obtain rfl : R = (ds, 5) := by rw [HR2.out]; rfl
          go_enter Try.func12, Try.ntmps12
          go_wp2_with (first
          | (go_at_call 39; refine cMd.out.mono ?_; rintro e W ⟨rfl, rfl⟩)
          | (at_lookup; refine wpList_look_ok_g rfl (.tmp 20) (.tmp 21) _ rfl 3 _ keyedI Try.underlying79 rfl HM.out (zeroW _) _ _ rfl hkey.out _ _ HG.out HS.out ?_)
          | (go_at_call 40; first | ((with_reducible refine (cF.out _).mono ?_); rintro e W ⟨rfl, rfl⟩) | ((with_reducible refine (cT.out _).mono ?_); rintro e W ⟨rfl, rfl⟩))
          | (go_at_call 41; refine cMy.out.mono ?_; rintro e W1 ⟨rfl, hb1⟩; have hb2 := hb.trans (hb1.mono hb.size)))
          go_ret
          exact ⟨rfl, H.out.same hb2, only_of_below hb2 _⟩
        | false =>
          have h256 := H.out.len
          by_cases hfull : 256 ≤ ds.length
          · obtain rfl : R = (ds, 2) := by rw [HR2.out]; exact if_pos hfull
            have hd : decide (256 ≤ ds.length) = true := by simpa using hfull
            have hd2 : decide ((ds.length : Int) ≥ 256) = true := by simp; omega
            clear hfull
            go_enter Try.func12, Try.ntmps12
            go_wp2_with (first
          | (go_at_call 39; refine cMd.out.mono ?_; rintro e W ⟨rfl, rfl⟩)
          | (at_lookup; refine wpList_look_ok_g rfl (.tmp 20) (.tmp 21) _ rfl 3 _ keyedI Try.underlying79 rfl HM.out (zeroW _) _ _ rfl hkey.out _ _ HG.out HS.out ?_)
          | (go_at_call 40; first | ((with_reducible refine (cF.out _).mono ?_); rintro e W ⟨rfl, rfl⟩) | ((with_reducible refine (cT.out _).mono ?_); rintro e W ⟨rfl, rfl⟩))
          | (go_at_call 41; refine cMy.out.mono ?_; rintro e W1 ⟨rfl, hb1⟩; have hb2 := hb.trans (hb1.mono hb.size); have hM1 := H.out.same hb2; have gb1 := (hM1.ob.cell (j := 0) rfl : _ = some (Value.map (some mb))); have hl1 := fun ty => (HM.out.below hb2 hmb).len (tm := 79) Try.underlying79 ty; (rw [HR.out.length] at hl1)))
            go_ret
            exact ⟨rfl, H.out.same hb2, only_of_below hb2 _⟩
          · obtain rfl : R = (putW ds ⟨mv, fr, to_, l, false⟩, 0) := by rw [HR2.out]; exact if_neg hfull
            have hd : decide (256 ≤ ds.length) = false := by simpa using hfull
            have hd2 : decide ((ds.length : Int) ≥ 256) = false := by simp; omega
            have hl16 := may_len HML.out
            go_enter Try.func12, Try.ntmps12
            go_wp2_with (first
          | (go_at_call 39; refine cMd.out.mono ?_; rintro e W ⟨rfl, rfl⟩)
          | (at_lookup; refine wpList_look_ok_g rfl (.tmp 20) (.tmp 21) _ rfl 3 _ keyedI Try.underlying79 rfl HM.out (zeroW _) _ _ rfl hkey.out _ _ HG.out HS.out ?_)
          | (go_at_call 40; first | ((with_reducible refine (cF.out _).mono ?_); rintro e W ⟨rfl, rfl⟩) | ((with_reducible refine (cT.out _).mono ?_); rintro e W ⟨rfl, rfl⟩))
          | (go_at_call 41; refine cMy.out.mono ?_; rintro e W1 ⟨rfl, hb1⟩; have hb2 := hb.trans (hb1.mono hb.size); have hM1 := H.out.same hb2; have gb1 := (hM1.ob.cell (j := 0) rfl : _ = some (Value.map (some mb))); have hl1 := fun ty => (HM.out.below hb2 hmb).len (tm := 79) Try.underlying79 ty; (rw [HR.out.length] at hl1)))
            have hbd : Below w.heap.size w W1.drew := hb2.drew
            have hdn : W1.grownBy W1.drew none := only_of_below (Below.refl _ W1).drew none
            have gbd : W1.drew.cell? ⟨b, 0, none⟩ = some (.map (some mb)) := gb1
            have HMd := Lib.hid (HM.out.below hbd hmb)
            have cC := Lib.hid (clonei_calls l _ W1.drew (hIn.out.mono hbd hbd.size) (by omega))
            have hm256 : m.length < 256 := by rw [HR.out.length]; omega
            clear hl1
            refine Pu.regionM [(0, false), (1, false), (2, false), (3, false), (4, false), (5, false), (6, false), (7, false), (8, false), (9, true), (10, false), (11, true)] (fun W => W.cell? ⟨b, 0, none⟩ = some (.map (some mb))) hmx (by kernel_rfl) (by kernel_rfl) (by kernel_rfl) gbd rfl ?_
            simp only [Pu.named, List.filterMap_cons, List.filterMap_nil, List.getElem?_toArray, List.getElem?_cons_succ, List.getElem?_cons_zero, Option.map_some]
            iterate 9 (apply Pu.WalkM.on (by rfl)
                       · rintro W gW
                         go_wp2_with fail
                         refine ⟨rfl, ?_, rfl⟩
                         try simp only [Act.put, List.setIfInBounds_toArray, List.set_cons_succ, List.set_cons_zero]
                         rfl
                       simp only [Act.put, List.setIfInBounds_toArray, List.set_cons_succ, List.set_cons_zero])
            refine Pu.WalkM.make (by rfl) ?_
            rintro W rfl
            go_wp2_with (go_at_call 42; refine cC.out.mono ?_; rintro e W2 ⟨⟨cv, rfl, hcv⟩, hb3⟩)
            have gb2 : W2.cell? ⟨b, 0, none⟩ = some (.map (some mb)) := (hb3.cell (p := ⟨b, 0, none⟩) (Nat.lt_of_lt_of_le hbl hbd.size)).trans gbd
            have HCV := Lib.hid hcv
            obtain ⟨Ac, cc, rfl, -⟩ := (ItemsAt.of_own hcv).form
            clear hcv
            refine ⟨rfl, .slice Ac l.length cc, _, (fun W => W = W2), ?_, rfl, (fun W h => by rw [h]; exact gb2), (.inr (fun _ h => h)), ?_⟩
            · simp only [Act.put, List.setIfInBounds_toArray, List.set_cons_succ, List.set_cons_zero]
            simp only [Act.put, List.setIfInBounds_toArray, List.set_cons_succ, List.set_cons_zero]
            apply Pu.WalkM.on (by rfl)
            · rintro W gW
              go_wp2_with fail
              refine ⟨rfl, ?_, rfl⟩
              try simp only [Act.put, List.setIfInBounds_toArray, List.set_cons_succ, List.set_cons_zero]
              rfl
            simp only [Act.put, List.setIfInBounds_toArray, List.set_cons_succ, List.set_cons_zero]
            refine Pu.WalkM.make (by rfl) ?_
            rintro W rfl
            have hb5 : Below w.heap.size w W := hbd.trans (hb3.mono hbd.size)
            refine wpList_put_g rfl (.tmp 68) (.tmp 69) (.tmp 75) _ rfl 3 _ keyedI Try.underlying79 rfl (HM.out.below hb5 hmb) (by unfold maxLen; omega) _ (.agg #[.int .i64 mv, .int .i64 fr, .int .i64 to_, .slice Ac l.length cc, .bool false]) _ rfl rfl hkey.out ?_
            intro W3 hM3 hg3
            have gb3 : W3.cell? ⟨b, 0, none⟩ = some (.map (some mb)) := hg3.cell gb2 (fun e => H.out.ne (Option.some.inj e))
            refine ⟨rfl, undef, _, (fun W => W = W3), rfl, rfl, (fun W h => by rw [h]; exact gb3), (.inr (fun _ h => h)), Pu.WalkM.nil ?_⟩
            rintro W' rfl
            simp only [Act.put]
            have hgw := (only_of_below hb5 (some mb)).trans hg3
            have hnw : ∀ g, some mb = some g → ¬ (g ≠ b ∧ g ≠ mb ∧ ¬ X g) := fun g e k => k.2.1 (Option.some.inj e).symm
            have hwa : WayAt W (fun i => i ≠ b ∧ i ≠ mb ∧ ¬ X i) (wayV ⟨mv, fr, to_, l, false⟩ (.slice Ac l.length cc)) ⟨mv, fr, to_, l, false⟩ :=
              ⟨_, W1.drew.heap.size, W.heap.size, rfl, ItemsAt.of_own HCV.out, Nat.le_refl _, fun i hi1 hi2 => ⟨by have := hbd.size; omega, by have := hbd.size; omega, fun hx => by have := H.out.xl i hx; have := hbd.size; omega⟩⟩
            have hRw := Rel.put (hwa.kept hg3 (F' := fun i => i ≠ b ∧ i ≠ mb ∧ ¬ X i) (fun g e => .inl (hnw g e)) (fun _ _ h => h)) (HR.out.kept hgw (F' := fun i => i ≠ b ∧ i ≠ mb ∧ ¬ X i) (fun g e => .inl (hnw g e)) (fun _ _ h => h))
            have hMv : MvAt W' b mb X (putW ds ⟨mv, fr, to_, l, false⟩) := by
              refine ⟨H.out.ob.kept hgw (fun e => H.out.ne (Option.some.inj e)), ⟨_, hM3, hRw⟩, H.out.ne, H.out.nx, fun i hi => Nat.lt_of_lt_of_le (H.out.xl i hi) hgw.size, fun x hx => ?_, ?_⟩
              · rcases putW_mem hx with rfl | hx
                · exact ⟨hmv, hfr, hto, hne, HML.out, HL0.out⟩
                · exact H.out.ok x hx
              · have := putW_length ds ⟨mv, fr, to_, l, false⟩
                omega
            clear hM3 hRw
            go_wp2
            go_ret
            exact ⟨rfl, hMv, hgw⟩
end Mv
end Go.Proofs.Ytdbkkldgobkjcaa
