/-
  items: what the law Both says is true.
-/
import Derived.Test.YtloabanhoeaidaaItW
namespace Go.Proofs.Ytloabanhoeaidaa
open Go.RowKit Go.Maps
namespace It

set_option maxRecDepth 100000 in
set_option maxHeartbeats 8000000 in
theorem both_law (a b : List Item) (va vb : Value) (w : World) (ha : ItemsAt w 0 w.heap.size va a) (hb : ItemsAt w 0 w.heap.size vb b) (hFa : Fits a) (hFb : Fits b) :
    Calls Try.prog 3 #[va, vb] w fun e w' => e = .returned (.bool true) ∧ Below w.heap.size w w' := by
  have HA := Lib.hid (fun W (h : Below w.heap.size w W) => ha.mono h h.size)
  have HB := Lib.hid (fun W (h : Below w.heap.size w W) => hb.mono h h.size)
  have cMa := Lib.hid (fun W h => refmay_calls a va W (HA.out W h) hFa)
  have cMb := Lib.hid (fun W h => refmay_calls b vb W (HB.out W h) hFb)
  have cM := Lib.hid (fun W h => meet_calls a b va vb W (HA.out W h) (HB.out W h) hFa hFb)
  have cR := Lib.hid (fun W h => rest_calls a b va vb W (HA.out W h) (HB.out W h) hFa hFb)
  have cP := Lib.hid (fun W h => plus_calls a b va vb W (HA.out W h) (HB.out W h) hFa hFb)
  have cI := Lib.hid (fun W h => minus_calls a b va vb W (HA.out W h) (HB.out W h) hFa hFb)
  have cC := Lib.hid (fun W h => covers_calls a b va vb W (HA.out W h) (HB.out W h) hFa hFb)
  have cL := Lib.hid lives_calls
  have hB : Below w.heap.size w w := Below.refl _ _
  obtain ⟨A1, c1, rfl, hc1, hc1'⟩ := ha.form
  obtain ⟨A2, c2, rfl, hc2, hc2'⟩ := hb.form
  unfold maxLen at hc1' hc2'
  by_cases hbig : 100 < a.length ∨ 100 < b.length
  · have hcs : decide ((a.length : Int) > 100) = true ∨ (decide ((a.length : Int) > 100) = false ∧ decide ((b.length : Int) > 100) = true) := by
      by_cases h : 100 < a.length
      · exact .inl (by simp; omega)
      · exact .inr ⟨by simp; omega, by simp; omega⟩
    clear hbig
    rcases hcs with h1 | ⟨h1, h2⟩
    all_goals
      go_enter Try.func3, Try.ntmps3
      go_wp2_with fail
      refine (cL.out _).mono ?_
      rintro e W ⟨rfl, hb1⟩
      have hB := hB.trans (hb1.mono hB.size)
      clear hb1
      go_wp2
      go_ret
      exact ⟨rfl, hB⟩
  have hla : a.length ≤ 100 := by omega
  have hlb : b.length ≤ 100 := by omega
  have hda : decide ((a.length : Int) > 100) = false := by simp; omega
  have hdb : decide ((b.length : Int) > 100) = false := by simp; omega
  clear hbig
  by_cases hall : may a = true ∧ may b = true
  case neg =>
    have e1 : plusOf a b = ([], 60) := by unfold plusOf; rw [if_neg (by simpa using hall)]
    have e2 : minusOf a b = ([], 60) := by unfold minusOf; rw [if_neg (by simpa using hall)]
    have e3 : ∀ f, both f a b = [] := fun f => by unfold both; rw [if_neg (by simpa using hall)]
    have e4 : covers a b = false := by
      unfold covers
      cases h1 : may a <;> cases h2 : may b <;> simp [h1, h2] at hall ⊢
    rw [e1] at cP
    rw [e2] at cI
    rw [e3] at cM cR
    rw [e4] at cC
    clear e1 e2 e3 e4
    generalize may a = ma at *
    generalize may b = mb at *
    have hcs : ma = false ∨ (ma = true ∧ mb = false) := by revert hall; cases ma <;> cases mb <;> simp
    clear hall
    rcases hcs with rfl | ⟨rfl, rfl⟩
    all_goals
      go_enter Try.func3, Try.ntmps3
      go_wp2_with (first
        | (go_at_call 17; first | (with_reducible refine (cMa.out _ hB).mono ?_) | (with_reducible refine (cMb.out _ hB).mono ?_)
           rintro e W ⟨rfl, hb1⟩
           have hB := hB.trans (hb1.mono hB.size)
           clear hb1)
        | (go_at_call 12; with_reducible refine (cP.out _ hB).mono ?_
           rintro e W ⟨⟨v, rfl, hv⟩, hb1⟩
           have hB := hB.trans (hb1.mono hB.size)
           obtain ⟨A5, c5, rfl, -⟩ := (toAt hv).form
           clear hb1 hv)
        | (go_at_call 13; with_reducible refine (cI.out _ hB).mono ?_
           rintro e W ⟨⟨v, rfl, hv⟩, hb1⟩
           have hB := hB.trans (hb1.mono hB.size)
           obtain ⟨A6, c6, rfl, -⟩ := (toAt hv).form
           clear hb1 hv)
        | (go_at_call 14; with_reducible refine (cM.out _ hB).mono ?_
           rintro e W ⟨⟨v, rfl, hv⟩, hb1⟩
           have hB := hB.trans (hb1.mono hB.size)
           obtain ⟨A7, c7, rfl, -⟩ := (toAt hv).form
           clear hb1 hv)
        | (go_at_call 15; with_reducible refine (cR.out _ hB).mono ?_
           rintro e W ⟨⟨v, rfl, hv⟩, hb1⟩
           have hB := hB.trans (hb1.mono hB.size)
           obtain ⟨A8, c8, rfl, -⟩ := (toAt hv).form
           clear hb1 hv)
        | (go_at_call 16; with_reducible refine (cC.out _ hB).mono ?_
           rintro e W ⟨rfl, hb1⟩
           have hB := hB.trans (hb1.mono hB.size)
           clear hb1)
        | (go_at_call 11; with_reducible refine (cL.out _).mono ?_
           rintro e W ⟨rfl, hb1⟩
           have hB := hB.trans (hb1.mono hB.size)
           clear hb1))
      go_ret
      exact ⟨rfl, hB⟩
  case pos =>
    have ma := (may_iff a).1 hall.1
    have mb := (may_iff b).1 hall.2
    have e1 : plusOf a b = normRes (a ++ b) := by unfold plusOf; rw [hall.1, hall.2]; rfl
    have e2 : minusOf a b = if covers a b then (eachL restF a b, 0) else ([], 51) := by unfold minusOf; rw [hall.1, hall.2, both_of ma mb]; rfl
    have e3 : (((eachL restF b a).length : Int) == 0) = covers a b := by
      rw [Bool.eq_iff_iff, covers_iff ma mb, ← rest_nil ma mb]
      simp [Int.natCast_eq_zero]
    rw [hall.1] at cMa
    rw [hall.2] at cMb
    rw [e1] at cP
    rw [e2] at cI
    rw [both_of ma mb] at cM cR
    have hab : (a ++ b).length ≤ 1000000 := by simp; omega
    have cN := Lib.hid (fun v W h => refnorm_calls (a ++ b) v W h (hFa.append hFb) hab)
    have crM := Lib.hid (fun W h => refmeet_calls a b (.slice A1 a.length c1) (.slice A2 b.length c2) W (HA.out W h) (HB.out W h) (by omega))
    have crR := Lib.hid (fun W h => refrest_calls a b (.slice A1 a.length c1) (.slice A2 b.length c2) W (HA.out W h) (HB.out W h) (by omega))
    have crRb := Lib.hid (fun W h => refrest_calls b a (.slice A2 b.length c2) (.slice A1 a.length c1) W (HB.out W h) (HA.out W h) (by omega))
    obtain ⟨i0, hi0, hz0⟩ := Option.map_eq_some_iff.1 item_info
    simp only [Prod.mk.injEq] at hz0
    obtain ⟨hz0, hz1, hz2⟩ := hz0
    clear e1 e2 hall
    have HE3 := Lib.hid e3
    clear e3
    generalize normRes (a ++ b) = P at *
    generalize eachL meetF a b = X at *
    generalize eachL restF a b = Y at *
    generalize eachL restF b a = Z at *
    generalize covers a b = C at *
    obtain ⟨p, pe⟩ := P
    dsimp only at cP cN
    cases C
    all_goals
      simp only [if_true, if_false, Bool.false_eq_true] at cI
      go_enter Try.func3, Try.ntmps3
      go_wp2_with fail
      refine (cP.out _ hB).mono ?_
      rintro e W1 ⟨⟨v5, rfl, hv⟩, hb1⟩
      have hB := hB.trans (hb1.mono hB.size)
      have hx5 := toAt hv
      obtain ⟨A5, c5, rfl, -⟩ := hx5.form
      clear hb1 hv
      go_wp2_with fail
      refine (cI.out _ hB).mono ?_
      rintro e W2 ⟨⟨v6, rfl, hv⟩, hb1⟩
      have hB := hB.trans (hb1.mono hB.size)
      have hx5 := hx5.mono hb1 hb1.size
      have hx6 := toAt hv
      obtain ⟨A6, c6, rfl, -⟩ := hx6.form
      clear hb1 hv
      go_wp2_with fail
      refine (cM.out _ hB).mono ?_
      rintro e W3 ⟨⟨v7, rfl, hv⟩, hb1⟩
      have hB := hB.trans (hb1.mono hB.size)
      have hx5 := hx5.mono hb1 hb1.size
      have hx6 := hx6.mono hb1 hb1.size
      have hx7 := toAt hv
      obtain ⟨A7, c7, rfl, -⟩ := hx7.form
      clear hb1 hv
      go_wp2_with fail
      refine (cR.out _ hB).mono ?_
      rintro e W4 ⟨⟨v8, rfl, hv⟩, hb1⟩
      have hB := hB.trans (hb1.mono hB.size)
      have hx5 := hx5.mono hb1 hb1.size
      have hx6 := hx6.mono hb1 hb1.size
      have hx7 := hx7.mono hb1 hb1.size
      have hx8 := toAt hv
      obtain ⟨A8, c8, rfl, -⟩ := hx8.form
      clear hb1 hv
      have H5 := Lib.hid (fun W (h : Below W4.heap.size W4 W) => hx5.mono h h.size)
      have H6 := Lib.hid (fun W (h : Below W4.heap.size W4 W) => hx6.mono h h.size)
      have H7 := Lib.hid (fun W (h : Below W4.heap.size W4 W) => hx7.mono h h.size)
      have H8 := Lib.hid (fun W (h : Below W4.heap.size W4 W) => hx8.mono h h.size)
      clear hx5 hx6 hx7 hx8
      have hC : Below W4.heap.size W4 W4 := Below.refl _ _
      go_wp2_with (first
        | (go_at_call 16; with_reducible refine (cC.out _ hB).mono ?_
           rintro e W ⟨rfl, hb1⟩
           have hB := hB.trans (hb1.mono hB.size)
           have hC := hC.trans (hb1.mono hC.size)
           clear hb1)
        | (go_at_call 11; with_reducible refine (cL.out _).mono ?_
           rintro e W ⟨rfl, hb1⟩
           have hB := hB.trans (hb1.mono hB.size)
           have hC := hC.trans (hb1.mono hC.size)
           clear hb1)
        | (go_at_call 17; first | (with_reducible refine (cMa.out _ hB).mono ?_) | (with_reducible refine (cMb.out _ hB).mono ?_)
           rintro e W ⟨rfl, hb1⟩
           have hB := hB.trans (hb1.mono hB.size)
           have hC := hC.trans (hb1.mono hC.size)
           clear hb1)
        | (at_builtin
           refine wpList_append_sl _ rfl (.tmp 80) (.tmp 81) _ rfl W.heap.size 36 i0 _ 2 24 Try.underlying22 hi0 hz0 hz1 hz2 rfl (by omega) (.slice (some ⟨W.heap.size, 0, none⟩) 0 0) 0 [] rfl (World.ownsRow_lit W #[] 0 (Nat.le_refl _) (Nat.zero_le _) rfl) 0 W.heap.size _ a.length (itemCells a) rfl (Sl.below (HA.out _ hB) ((Below.refl _ W).alloc (Nat.le_refl _) _)) (itemCells_one a) (by unfold maxLen; omega) (by omega) (by simp) ?_
           intro v1 w1 hv1 hg1 hat1
           have hb1 : Below W.heap.size W w1 := ((Below.refl _ W).alloc (Nat.le_refl _) (.cells #[] 36)).grown hg1 (by simp) (fun g hg => by cases hg; exact Nat.le_refl _)
           clear hg1 hat1)
        | (at_builtin
           refine wpList_append_sl _ rfl (.tmp 82) (.tmp 83) _ rfl W.heap.size 36 i0 _ 2 24 Try.underlying22 hi0 hz0 hz1 hz2 rfl (by omega) v1 (0 + a.length) ([] ++ itemCells a) rfl hv1 0 W.heap.size _ b.length (itemCells b) rfl (Sl.below (HB.out _ hB) hb1) (itemCells_one b) (by unfold maxLen; omega) (by omega) hb1.size ?_
           intro v2 w2 hv2 hg2 hat2
           have hb2 : Below W.heap.size W w2 := hb1.grown hg2 hb1.size (fun g hg => (hv1.lt g hg).1)
           have hB := hB.trans (hb2.mono hB.size)
           have hC := hC.trans (hb2.mono hC.size)
           have hown : w2.ownsRow W.heap.size 36 2 v2 (a ++ b).length (itemCells (a ++ b)) := by
             rw [itemCells_append, List.length_append]
             simpa using hv2
           have hab2 := toAt hown
           clear hg2 hat2 hv1 hv2 hb1 hb2 hown))
    all_goals
      refine (cN.out _ _ hab2).mono ?_
      rintro e W5 ⟨⟨v12, rfl, hv⟩, hb1⟩
      have hB := hB.trans (hb1.mono hB.size)
      have hC := hC.trans (hb1.mono hC.size)
      have hx12 := toAt hv
      obtain ⟨A12, c12, rfl, -⟩ := hx12.form
      clear hb1 hv hab2
      go_wp2_with fail
      refine (crRb.out _ hB).mono ?_
      rintro e W6 ⟨⟨v14, rfl, hv⟩, hb1⟩
      have hB := hB.trans (hb1.mono hB.size)
      have hC := hC.trans (hb1.mono hC.size)
      have hx12 := hx12.mono hb1 hb1.size
      obtain ⟨A14, c14, rfl, -⟩ := (toAt hv).form
      clear hb1 hv
      have he3 := HE3.out
      have cS := refsame_calls p p _ _ _ (H5.out _ hC) hx12
      rw [same_true] at cS
      have CS := Lib.hid cS
      clear cS
      go_wp2_with fail
      refine CS.out.mono ?_
      rintro e W7 ⟨rfl, hb1⟩
      have hB := hB.trans (hb1.mono hB.size)
      have hC := hC.trans (hb1.mono hC.size)
      clear hb1 hx12 CS
      go_wp2_with fail
      refine (crM.out _ hB).mono ?_
      rintro e W8 ⟨⟨v16, rfl, hv⟩, hb1⟩
      have hB := hB.trans (hb1.mono hB.size)
      have hC := hC.trans (hb1.mono hC.size)
      have hx16 := toAt hv
      obtain ⟨A16, c16, rfl, -⟩ := hx16.form
      clear hb1 hv
      have cS := refsame_calls X X _ _ _ (H7.out _ hC) hx16
      rw [same_true] at cS
      have CS := Lib.hid cS
      clear cS hx16
      go_wp2_with fail
      refine CS.out.mono ?_
      rintro e W9 ⟨rfl, hb1⟩
      have hB := hB.trans (hb1.mono hB.size)
      have hC := hC.trans (hb1.mono hC.size)
      clear hb1 CS
      go_wp2_with fail
      refine (crR.out _ hB).mono ?_
      rintro e W10 ⟨⟨v17, rfl, hv⟩, hb1⟩
      have hB := hB.trans (hb1.mono hB.size)
      have hC := hC.trans (hb1.mono hC.size)
      have hx17 := toAt hv
      obtain ⟨A17, c17, rfl, -⟩ := hx17.form
      clear hb1 hv
      have cS := refsame_calls Y Y _ _ _ (H8.out _ hC) hx17
      rw [same_true] at cS
      have CS := Lib.hid cS
      clear cS hx17
      go_wp2_with fail
      refine CS.out.mono ?_
      rintro e W11 ⟨rfl, hb1⟩
      have hB := hB.trans (hb1.mono hB.size)
      have hC := hC.trans (hb1.mono hC.size)
      clear hb1 CS
    · go_wp2
      go_ret
      exact ⟨rfl, hB⟩
    · go_wp2_with fail
      refine (crR.out _ hB).mono ?_
      rintro e W12 ⟨⟨v18, rfl, hv⟩, hb1⟩
      have hB := hB.trans (hb1.mono hB.size)
      have hC := hC.trans (hb1.mono hC.size)
      have hx18 := toAt hv
      obtain ⟨A18, c18, rfl, -⟩ := hx18.form
      clear hb1 hv
      have cS := refsame_calls Y Y _ _ _ (H6.out _ hC) hx18
      rw [same_true] at cS
      have CS := Lib.hid cS
      clear cS hx18
      go_wp2_with fail
      refine CS.out.mono ?_
      rintro e W13 ⟨rfl, hb1⟩
      have hB := hB.trans (hb1.mono hB.size)
      clear hb1 CS
      go_wp2
      go_ret
      exact ⟨rfl, hB⟩
end It
end Go.Proofs.Ytloabanhoeaidaa
