/-
  items: what the laws Parts and Both say is true.
-/
import Derived.Test.YtloabanhoeaidaaItU
namespace Go.Proofs.Ytloabanhoeaidaa
open Go.RowKit Go.Maps
namespace It

theorem toAt {w : World} {lo : Nat} {v : Value} {l : List Item} (h : w.ownsRow lo 36 2 v l.length (itemCells l)) : ItemsAt w 0 w.heap.size v l := (ItemsAt.of_own h).wide (Nat.zero_le _) (Nat.le_refl _)
theorem same_true {l : List Item} : decide (l = l) = true := by simp

set_option maxRecDepth 100000 in
set_option maxHeartbeats 8000000 in
theorem parts_law (a b : List Item) (va vb : Value) (w : World) (ha : ItemsAt w 0 w.heap.size va a) (hb : ItemsAt w 0 w.heap.size vb b) (hFa : Fits a) (hFb : Fits b) :
    Calls Try.prog 7 #[va, vb] w fun e w' => e = .returned (.bool true) ∧ Below w.heap.size w w' := by
  have HA := Lib.hid (fun W (h : Below w.heap.size w W) => ha.mono h h.size)
  have HB := Lib.hid (fun W (h : Below w.heap.size w W) => hb.mono h h.size)
  have cMa := Lib.hid (fun W h => refmay_calls a va W (HA.out W h) hFa)
  have cMb := Lib.hid (fun W h => refmay_calls b vb W (HB.out W h) hFb)
  have cM := Lib.hid (fun W h => meet_calls a b va vb W (HA.out W h) (HB.out W h) hFa hFb)
  have cR := Lib.hid (fun W h => rest_calls a b va vb W (HA.out W h) (HB.out W h) hFa hFb)
  have cP := Lib.hid (fun W h => plus_calls a b va vb W (HA.out W h) (HB.out W h) hFa hFb)
  have cTa := Lib.hid (fun W h => total_calls a va W (HA.out W h))
  have cTb := Lib.hid (fun W h => total_calls b vb W (HB.out W h))
  have cL := Lib.hid lives_calls
  have hB : Below w.heap.size w w := Below.refl _ _
  have PA := Lib.hid (fun h => (may_iff a).1 h)
  have PB := Lib.hid (fun h => (may_iff b).1 h)
  obtain ⟨A1, c1, rfl, -⟩ := ha.form
  obtain ⟨A2, c2, rfl, -⟩ := hb.form
  generalize may a = ma at *
  generalize may b = mb at *
  by_cases hall : ma = true ∧ mb = true
  case neg =>
    have hcs : ma = false ∨ (ma = true ∧ mb = false) := by revert hall; cases ma <;> cases mb <;> simp
    clear hall
    rcases hcs with rfl | ⟨rfl, rfl⟩
    all_goals
      go_enter Try.func7, Try.ntmps7
      go_wp2_with (first
        | (go_at_call 17; first | (with_reducible refine (cMa.out _ hB).mono ?_) | (with_reducible refine (cMb.out _ hB).mono ?_)
           rintro e W ⟨rfl, hb1⟩
           have hB := hB.trans (hb1.mono hB.size)
           clear hb1)
        | (go_at_call 11; with_reducible refine (cL.out _).mono ?_
           rintro e W ⟨rfl, hb1⟩
           have hB := hB.trans (hb1.mono hB.size)
           clear hb1))
      go_ret
      exact ⟨rfl, hB⟩
  case pos =>
    obtain ⟨rfl, rfl⟩ := hall
    have ma := PA.out rfl
    have mb := PB.out rfl
    have hMM : M (both meetF a b) := by rw [both_of ma mb]; exact meet_M ma mb
    have hRR : M (both restF a b) := by rw [both_of ma mb]; exact rest_M ma mb
    have cPP := Lib.hid (fun u v W h1 h2 => plus_calls (both meetF a b) (both restF a b) u v W h1 h2 hMM.fits hRR.fits)
    rw [parts_plus ma mb] at cPP
    have HM := Lib.hid (fun h => parts_minus ma mb h)
    have HPM := Lib.hid (fun h => (plus_cases ma mb h).1)
    clear hMM hRR
    generalize both meetF a b = MM at *
    generalize both restF a b = RR at *
    go_enter Try.func7, Try.ntmps7
    go_wp2_with fail
    refine (cMa.out _ hB).mono ?_
    rintro e W1 ⟨rfl, hb1⟩
    have hB := hB.trans (hb1.mono hB.size)
    clear hb1
    go_wp2_with fail
    refine (cMb.out _ hB).mono ?_
    rintro e W2 ⟨rfl, hb1⟩
    have hB := hB.trans (hb1.mono hB.size)
    clear hb1
    go_wp2_with fail
    refine (cM.out _ hB).mono ?_
    rintro e W3 ⟨⟨v3, rfl, hv⟩, hb1⟩
    have hB := hB.trans (hb1.mono hB.size)
    have hx3 := toAt hv
    obtain ⟨A3, c3, rfl, -⟩ := hx3.form
    clear hb1 hv
    go_wp2_with fail
    refine (cR.out _ hB).mono ?_
    rintro e W4 ⟨⟨v4, rfl, hv⟩, hb1⟩
    have hB := hB.trans (hb1.mono hB.size)
    have hx3 := hx3.mono hb1 hb1.size
    have hx4 := toAt hv
    obtain ⟨A4, c4, rfl, -⟩ := hx4.form
    clear hb1 hv
    go_wp2_with fail
    refine (cPP.out _ _ _ hx3 hx4).mono ?_
    rintro e W5 ⟨⟨v5, rfl, hv⟩, hb1⟩
    have hB := hB.trans (hb1.mono hB.size)
    have hx5 := toAt hv
    obtain ⟨A5, c5, rfl, -⟩ := hx5.form
    clear hb1 hv hx3 hx4
    go_wp2_with fail
    refine (cL.out _).mono ?_
    rintro e W6 ⟨rfl, hb1⟩
    have hB := hB.trans (hb1.mono hB.size)
    have hx5 := hx5.mono hb1 hb1.size
    clear hb1
    go_wp2_with fail
    have cS := refsame_calls a a _ _ _ hx5 (HA.out _ hB)
    rw [same_true] at cS
    refine cS.mono ?_
    rintro e W7 ⟨rfl, hb1⟩
    have hB := hB.trans (hb1.mono hB.size)
    clear hb1 hx5 cS
    go_wp2_with fail
    refine (cP.out _ hB).mono ?_
    rintro e W8 ⟨⟨v8, rfl, hv⟩, hb1⟩
    have hB := hB.trans (hb1.mono hB.size)
    have hx8 := toAt hv
    obtain ⟨A8, c8, rfl, -⟩ := hx8.form
    clear hb1 hv
    by_cases hok : (plusOf a b).2 = 0
    · have ⟨h1, h2, h3, h4⟩ := HM.out hok
      have hp := HPM.out hok
      rw [hok]
      clear HM HPM
      generalize (plusOf a b).1 = p at *
      clear hok
      have cMi := Lib.hid (fun W h h' => minus_calls p b (.slice A8 p.length c8) (.slice A2 b.length c2) W h (HB.out W h') hp.fits hFb)
      have cCa := Lib.hid (fun W h h' => covers_calls p a (.slice A8 p.length c8) (.slice A1 a.length c1) W h (HA.out W h') hp.fits hFa)
      have cCb := Lib.hid (fun W h h' => covers_calls p b (.slice A8 p.length c8) (.slice A2 b.length c2) W h (HB.out W h') hp.fits hFb)
      have cTp := Lib.hid (fun W h => total_calls p (.slice A8 p.length c8) W h)
      rw [h1] at cMi
      rw [h2] at cCa
      rw [h3] at cCb
      have hfin : (totSum p == wrap64 (totSum a + totSum b)) = true := by rw [h4]; simp
      clear h1 h2 h3 h4 hp
      generalize totSum p = tp at *
      generalize totSum a = ta at *
      generalize totSum b = tb at *
      have HFIN := Lib.hid hfin
      clear hfin
      go_wp2_with fail
      refine (cMi.out _ hx8 hB).mono ?_
      rintro e W9 ⟨⟨v9, rfl, hv⟩, hb1⟩
      have hB := hB.trans (hb1.mono hB.size)
      have hx8 := hx8.mono hb1 hb1.size
      have hx9 := toAt hv
      obtain ⟨A9, c9, rfl, -⟩ := hx9.form
      clear hb1 hv
      have cS := refsame_calls a a _ _ _ hx9 (HA.out _ hB)
      rw [same_true] at cS
      go_wp2_with fail
      refine cS.mono ?_
      rintro e W10 ⟨rfl, hb1⟩
      have hB := hB.trans (hb1.mono hB.size)
      have hx8 := hx8.mono hb1 hb1.size
      clear hb1 hx9 cS
      go_wp2_with fail
      refine (cCa.out _ hx8 hB).mono ?_
      rintro e W11 ⟨rfl, hb1⟩
      have hB := hB.trans (hb1.mono hB.size)
      have hx8 := hx8.mono hb1 hb1.size
      clear hb1
      go_wp2_with fail
      refine (cCb.out _ hx8 hB).mono ?_
      rintro e W12 ⟨rfl, hb1⟩
      have hB := hB.trans (hb1.mono hB.size)
      have hx8 := hx8.mono hb1 hb1.size
      clear hb1
      go_wp2_with fail
      refine (cTp.out _ hx8).mono ?_
      rintro e W13 ⟨rfl, hb1⟩
      have hB := hB.trans (hb1.mono hB.size)
      clear hb1
      go_wp2_with fail
      refine (cTa.out _ hB).mono ?_
      rintro e W14 ⟨rfl, hb1⟩
      have hB := hB.trans (hb1.mono hB.size)
      clear hb1
      go_wp2_with fail
      refine (cTb.out _ hB).mono ?_
      rintro e W15 ⟨rfl, hb1⟩
      have hB := hB.trans (hb1.mono hB.size)
      clear hb1
      have hfin := HFIN.out
      go_wp2
      go_ret
      exact ⟨rfl, hB⟩
    · have hokb : ((plusOf a b).2 != 0) = true := by simpa using hok
      clear hok HM HPM
      generalize (plusOf a b).2 = q at *
      go_wp2
      go_ret
      exact ⟨rfl, hB⟩
end It
end Go.Proofs.Ytloabanhoeaidaa
