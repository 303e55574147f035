/-
  items: what the laws Order, Parts and Walks say is true.
-/
import Derived.Test.YtloabanhoeaidaaItS
import Derived.Test.YtloabanhoeaidaaItT
namespace Go.Proofs.Ytloabanhoeaidaa
open Go.RowKit Go.Maps
namespace It

set_option maxHeartbeats 400000 in
theorem refmeet_calls (a b : List Item) (va vb : Value) (w : World) (ha : ItemsAt w 0 w.heap.size va a) (hb : ItemsAt w 0 w.heap.size vb b) (hla : a.length ≤ 1000000) :
    Calls Try.prog 21 #[va, vb] w fun e w' =>
      (∃ v, e = .returned v ∧ w'.ownsRow w.heap.size 36 2 v (eachL meetF a b).length (itemCells (eachL meetF a b))) ∧ Below w.heap.size w w' := by
  have cE := Lib.hid (refboth_calls 1 meetF (.inl ⟨rfl, rfl⟩) a b va vb w ha hb hla)
  obtain ⟨A, c, rfl, -⟩ := ha.form
  obtain ⟨A', c', rfl, -⟩ := hb.form
  generalize eachL meetF a b = R at *
  go_enter Try.func21, Try.ntmps21
  go_wp2_with fail
  refine cE.out.mono ?_
  rintro e w1 ⟨⟨v, rfl, h1⟩, h2⟩
  obtain ⟨A1, c1, rfl, -⟩ := (ItemsAt.of_own h1).form
  go_wp2
  go_ret
  exact ⟨⟨_, rfl, h1⟩, h2⟩
set_option maxHeartbeats 400000 in
theorem refrest_calls (a b : List Item) (va vb : Value) (w : World) (ha : ItemsAt w 0 w.heap.size va a) (hb : ItemsAt w 0 w.heap.size vb b) (hla : a.length ≤ 1000000) :
    Calls Try.prog 19 #[va, vb] w fun e w' =>
      (∃ v, e = .returned v ∧ w'.ownsRow w.heap.size 36 2 v (eachL restF a b).length (itemCells (eachL restF a b))) ∧ Below w.heap.size w w' := by
  have cE := Lib.hid (refboth_calls 2 restF (.inr ⟨rfl, rfl⟩) a b va vb w ha hb hla)
  obtain ⟨A, c, rfl, -⟩ := ha.form
  obtain ⟨A', c', rfl, -⟩ := hb.form
  generalize eachL restF a b = R at *
  go_enter Try.func19, Try.ntmps19
  go_wp2_with fail
  refine cE.out.mono ?_
  rintro e w1 ⟨⟨v, rfl, h1⟩, h2⟩
  obtain ⟨A1, c1, rfl, -⟩ := (ItemsAt.of_own h1).form
  go_wp2
  go_ret
  exact ⟨⟨_, rfl, h1⟩, h2⟩

theorem M.fits {l : List Item} (h : M l) : Fits l := fun x hx => by
  have h1 := h.ok x hx
  have h2 := h1.1
  unfold good at h2
  simp only [Bool.and_eq_true, decide_eq_true_eq] at h2
  refine ⟨Nat.le_trans h2.2 (by unfold maxLen; omega), by omega, by omega⟩

set_option maxRecDepth 100000 in
set_option maxHeartbeats 8000000 in
theorem order_law (a b c : List Item) (va vb vc : Value) (w : World) (ha : ItemsAt w 0 w.heap.size va a) (hb : ItemsAt w 0 w.heap.size vb b) (hc : ItemsAt w 0 w.heap.size vc c) (hFa : Fits a) (hFb : Fits b) (hFc : Fits c) :
    Calls Try.prog 4 #[va, vb, vc] w fun e w' => e = .returned (.bool true) ∧ Below w.heap.size w w' := by
  have HA := Lib.hid (fun W (h : Below w.heap.size w W) => ha.mono h h.size)
  have HB := Lib.hid (fun W (h : Below w.heap.size w W) => hb.mono h h.size)
  have HC := Lib.hid (fun W (h : Below w.heap.size w W) => hc.mono h h.size)
  have cMa := Lib.hid (fun W h => refmay_calls a va W (HA.out W h) hFa)
  have cMb := Lib.hid (fun W h => refmay_calls b vb W (HB.out W h) hFb)
  have cMc := Lib.hid (fun W h => refmay_calls c vc W (HC.out W h) hFc)
  have cab := Lib.hid (fun W h => covers_calls a b va vb W (HA.out W h) (HB.out W h) hFa hFb)
  have cbc := Lib.hid (fun W h => covers_calls b c vb vc W (HB.out W h) (HC.out W h) hFb hFc)
  have cac := Lib.hid (fun W h => covers_calls a c va vc W (HA.out W h) (HC.out W h) hFa hFc)
  have caa := Lib.hid (fun W h => covers_calls a a va va W (HA.out W h) (HA.out W h) hFa hFa)
  have cba := Lib.hid (fun W h => covers_calls b a vb va W (HB.out W h) (HA.out W h) hFb hFa)
  have cS := Lib.hid (fun W h => refsame_calls a b va vb W (HA.out W h) (HB.out W h))
  have cM := Lib.hid (fun W h => meet_calls a b va vb W (HA.out W h) (HB.out W h) hFa hFb)
  have cL := Lib.hid lives_calls
  have hB : Below w.heap.size w w := Below.refl _ _
  have PA := Lib.hid (fun h => (may_iff a).1 h)
  have PB := Lib.hid (fun h => (may_iff b).1 h)
  have PC := Lib.hid (fun h => (may_iff c).1 h)
  obtain ⟨A1, c1, rfl, -⟩ := ha.form
  obtain ⟨A2, c2, rfl, -⟩ := hb.form
  obtain ⟨A3, c3, rfl, -⟩ := hc.form
  generalize may a = ma at *
  generalize may b = mb at *
  generalize may c = mc at *
  by_cases hall : ma = true ∧ mb = true ∧ mc = true
  case neg =>
    have hcs : ma = false ∨ (ma = true ∧ mb = false) ∨ (ma = true ∧ mb = true ∧ mc = false) := by revert hall; cases ma <;> cases mb <;> cases mc <;> simp
    clear hall
    rcases hcs with rfl | ⟨rfl, rfl⟩ | ⟨rfl, rfl, rfl⟩
    all_goals
      go_enter Try.func4, Try.ntmps4
      go_wp2_with (first
        | (go_at_call 17; first | (with_reducible refine (cMa.out _ hB).mono ?_) | (with_reducible refine (cMb.out _ hB).mono ?_) | (with_reducible refine (cMc.out _ hB).mono ?_)
           rintro e W ⟨rfl, hb1⟩
           have hB := hB.trans (hb1.mono hB.size)
           clear hb1)
        | (go_at_call 11; with_reducible refine (cL.out _).mono ?_
           rintro e W ⟨rfl, hb1⟩
           have hB := hB.trans (hb1.mono hB.size)
           clear hb1))
      go_ret
      exact ⟨rfl, hB⟩
  case pos =>
    obtain ⟨rfl, rfl, rfl⟩ := hall
    have ma := PA.out rfl
    have mb := PB.out rfl
    have mc := PC.out rfl
    have hMM : M (both meetF a b) := by rw [both_of ma mb]; exact meet_M ma mb
    have cam := Lib.hid (fun v W h hv => covers_calls a (both meetF a b) (.slice A1 a.length c1) v W (HA.out W h) hv hFa hMM.fits)
    have cbm := Lib.hid (fun v W h hv => covers_calls b (both meetF a b) (.slice A2 b.length c2) v W (HB.out W h) hv hFb hMM.fits)
    rw [(order_meet ma mb).1] at cam
    rw [(order_meet ma mb).2] at cbm
    rw [order_refl ma] at caa
    have H1 := Lib.hid (fun h h' => order_trans ma mb mc h h')
    have H2 := Lib.hid (show decide (a = b) = (covers a b && covers b a) by
      rw [Bool.eq_iff_iff, decide_eq_true_eq, Bool.and_eq_true]
      exact ⟨fun h => by subst h; exact ⟨order_refl ma, order_refl ma⟩, fun h => order_anti ma mb h.1 h.2⟩)
    generalize decide (a = b) = sm at *
    clear hMM
    generalize both meetF a b = MM at *
    generalize covers a b = ab at *
    generalize covers b c = bc at *
    generalize covers a c = ac at *
    generalize covers b a = ba at *
    have hcs : (ab = false ∧ sm = false) ∨ (ab = true ∧ bc = false ∧ ba = false ∧ sm = false) ∨ (ab = true ∧ bc = false ∧ ba = true ∧ sm = true) ∨ (ab = true ∧ bc = true ∧ ac = true ∧ ba = false ∧ sm = false) ∨ (ab = true ∧ bc = true ∧ ac = true ∧ ba = true ∧ sm = true) := by
      rw [H2.out]
      cases ab
      · exact .inl ⟨rfl, rfl⟩
      · cases bc
        · cases ba <;> simp
        · rw [H1.out rfl rfl]
          cases ba <;> simp
    clear H1 H2
    rcases hcs with ⟨rfl, rfl⟩ | ⟨rfl, rfl, rfl, rfl⟩ | ⟨rfl, rfl, rfl, rfl⟩ | ⟨rfl, rfl, rfl, rfl, rfl⟩ | ⟨rfl, rfl, rfl, rfl, rfl⟩
    all_goals
      go_enter Try.func4, Try.ntmps4
      go_wp2_with (first
        | (go_at_call 17; first | (with_reducible refine (cMa.out _ hB).mono ?_) | (with_reducible refine (cMb.out _ hB).mono ?_) | (with_reducible refine (cMc.out _ hB).mono ?_)
           rintro e W ⟨rfl, hb1⟩
           have hB := hB.trans (hb1.mono hB.size)
           clear hb1)
        | (go_at_call 16; first | (with_reducible refine (cab.out _ hB).mono ?_) | (with_reducible refine (cbc.out _ hB).mono ?_) | (with_reducible refine (cac.out _ hB).mono ?_) | (with_reducible refine (caa.out _ hB).mono ?_) | (with_reducible refine (cba.out _ hB).mono ?_) | (with_reducible refine (cam.out _ _ hB hvm).mono ?_) | (with_reducible refine (cbm.out _ _ hB hvm).mono ?_)
           rintro e W ⟨rfl, hb1⟩
           have hB := hB.trans (hb1.mono hB.size)
           clear hb1)
        | (go_at_call 14; with_reducible refine (cM.out _ hB).mono ?_
           rintro e W ⟨⟨v, rfl, hv⟩, hb1⟩
           have hB := hB.trans (hb1.mono hB.size)
           have hvm := (ItemsAt.of_own hv).wide (lo' := 0) (Nat.zero_le _) (Nat.le_refl _)
           obtain ⟨Am, cm, rfl, -⟩ := hvm.form
           clear hb1 hv)
        | (go_at_call 20; with_reducible refine (cS.out _ hB).mono ?_
           rintro e W ⟨rfl, hb1⟩
           have hB := hB.trans (hb1.mono hB.size)
           clear hb1)
        | (go_at_call 11; with_reducible refine (cL.out _).mono ?_
           rintro e W ⟨rfl, hb1⟩
           have hB := hB.trans (hb1.mono hB.size)
           clear hb1))
      go_ret
      exact ⟨rfl, hB⟩

set_option maxRecDepth 100000 in
set_option maxHeartbeats 8000000 in
theorem walks_law (L : List Item) (stop : Int) (v : Value) (w : World) (hI : ItemsAt w 0 w.heap.size v L) (hLn : L.length * 24 ≤ 140737488355328) :
    Calls Try.prog 5 #[v, .int .i64 stop] w fun e w' => e = .returned (.bool true) ∧ Below w.heap.size w w' := by
  have HI := Lib.hid (fun W (h : Below w.heap.size w W) => hI.mono h h.size)
  have cW := Lib.hid (fun most W h => walk_calls L most v W (HI.out W h) hLn)
  have cL := Lib.hid lives_calls
  have hU1 : upTo (-1) L = L := by unfold upTo; rw [if_neg (by omega)]
  have hU : upTo stop L = L ∨ ((upTo stop L).length : Int) = stop ∧ upTo stop L = L.take (upTo stop L).length ∧ (upTo stop L).length ≤ L.length := by
    unfold upTo
    by_cases h : 1 ≤ stop ∧ stop ≤ L.length
    · rw [if_pos h]
      have : (L.take stop.toNat).length = stop.toNat := by rw [List.length_take]; omega
      exact .inr ⟨by rw [this]; omega, by rw [this], by rw [this]; omega⟩
    · rw [if_neg h]; exact .inl rfl
  have hB : Below w.heap.size w w := Below.refl _ _
  have cW1 := Lib.hid (fun W h => cW.out (-1) W h)
  rw [hU1] at cW1
  have cW2 := Lib.hid (fun W h => cW.out stop W h)
  obtain ⟨A, c, rfl, hc1, hc2⟩ := hI.form
  unfold maxLen at hc2
  clear hU1 cW
  generalize upTo stop L = S at *
  go_enter Try.func5, Try.ntmps5
  go_wp2_with fail
  refine (cW1.out _ hB).mono ?_
  rintro e W1 ⟨⟨u1, rfl, hv1⟩, hb1⟩
  have hB1 := hB.trans (hb1.mono hB.size)
  have hx1 := (ItemsAt.of_own hv1).wide (lo' := 0) (Nat.zero_le _) (Nat.le_refl _)
  obtain ⟨A1, c1, rfl, -⟩ := hx1.form
  clear hv1 hb1
  go_wp2_with fail
  refine (cW2.out _ hB1).mono ?_
  rintro e W2 ⟨⟨u2, rfl, hv2⟩, hb2⟩
  have hB2 := hB1.trans (hb2.mono hB1.size)
  have hx2 := (ItemsAt.of_own hv2).wide (lo' := 0) (Nat.zero_le _) (Nat.le_refl _)
  have hx1 := hx1.mono hb2 hb2.size
  obtain ⟨A2, c2, rfl, hs1, hs2⟩ := hx2.form
  clear hv2 hb2
  go_wp2_with fail
  refine (cL.out _).mono ?_
  rintro e W3 ⟨rfl, hb3⟩
  have hB3 := hB2.trans (hb3.mono hB2.size)
  have hx1 := hx1.mono hb3 hb3.size
  have hx2 := hx2.mono hb3 hb3.size
  clear hb3
  have cS := Lib.hid (refsame_calls L L _ _ _ hx1 (HI.out _ hB3))
  go_wp2_with fail
  refine cS.out.mono ?_
  rintro e W4 ⟨he, hb4⟩
  obtain rfl : e = .returned (.bool true) := by rw [he]; simp
  have hB4 := hB3.trans (hb4.mono hB3.size)
  have hx2 := hx2.mono hb4 hb4.size
  clear hb4 he cS
  have hI4 := HI.out _ hB4
  have hSl : S.length ≤ L.length := by
    rcases hU with h | ⟨_, _, h⟩
    · rw [h]; exact Nat.le_refl _
    · exact h
  have hP : ItemsAt W4 0 W4.heap.size (.slice A S.length c) S := by
    have h1 : Sl W4 0 W4.heap.size 2 (.slice A S.length c) S.length ((itemCells L).take (S.length * 2)) := Sl.upTo hI4 hSl
    have h2 : S = L.take S.length := by
      rcases hU with h | ⟨_, h, _⟩
      · conv => rhs; rw [h, List.take_length]
        exact h
      · exact h
    unfold ItemsAt
    rw [show itemCells S = (itemCells L).take (S.length * 2) by rw [← itemCells_take, ← h2]]
    exact h1
  have cS := Lib.hid (refsame_calls S S _ _ _ hx2 hP)
  have hdle : decide ((L.length : Int) < (S.length : Int)) = false := by simp; omega
  have k1 : (0 : Int) ≤ (S.length : Int) := by omega
  have k2 : ((S.length : Int) ≤ (c : Int)) := by omega
  have HU := Lib.hid hU
  have hcs : (((S.length : Int) == (L.length : Int)) = true) ∨ (((S.length : Int) == (L.length : Int)) = false ∧ ((S.length : Int) == stop) = true) := by
    by_cases h : S.length = L.length
    · left; simp [h]
    · right
      rcases hU with h1 | ⟨h1, _⟩
      · exact absurd (by rw [h1]) h
      · exact ⟨by simp; omega, by simpa using h1⟩
  clear hU
  rcases hcs with h1 | ⟨h1, h2⟩
  all_goals
    go_wp2_with fail
    refine cS.out.mono ?_
    rintro e W5 ⟨he, hb5⟩
    obtain rfl : e = .returned (.bool true) := by rw [he]; simp
    have hB5 := hB4.trans (hb5.mono hB4.size)
    clear hb5 he
    go_wp2
    go_ret
    exact ⟨rfl, hB5⟩
end It
end Go.Proofs.Ytloabanhoeaidaa
