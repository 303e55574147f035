/-
  cells: the taker's Text, Left, Done.
-/
import Derived.Test.YtloabanhoeaidaaCeG
namespace Go.Proofs.Ytloabanhoeaidaa
open Go.RowKit
namespace Ce

set_option maxRecDepth 100000 in
set_option maxHeartbeats 2000000 in
theorem ttext_calls (most : Int) (bt B : Nat) (st : Tst) (w : World) (h : Tk 76 w bt B st) :
    Calls Try.prog 53 #[.pointer (some ⟨bt, 0, none⟩), .int .i64 most] w fun e w' => e = .returned (.string (bs (tText most st).1)) ∧ Tk 76 w' bt B (tText most st).2 ∧ w.grownBy w' (some bt) := by
  have cN := Lib.hid (tnum_calls 0 most bt B st w h)
  clear h
  cases hn : tNum 0 most st with
  | mk n st2 =>
    rw [hn] at cN
    cases st2 with
    | none =>
      rw [tText_bad (by rw [hn])]
      clear hn
      go_enter Try.func53, Try.ntmps53
      go_wp2_with fail
      refine cN.out.mono ?_
      rintro e W ⟨rfl, hT, hg, -⟩
      obtain ⟨v, hO⟩ := hT.none_form
      have HT := Lib.hid hT
      clear hT
      have g1 := hO.cell (j := 1) rfl
      have cM := Lib.hid (tmay_calls bt true W g1)
      go_wp2_with fail
      refine cM.out.mono ?_
      rintro e W1 ⟨rfl, rfl⟩
      go_wp2
      go_ret
      exact ⟨rfl, HT.out, hg⟩
    | some l =>
      have h0 : 0 ≤ n := by obtain ⟨_, _, _, h3, _⟩ := tNum_some hn; exact h3
      obtain ⟨m, rfl⟩ := Int.eq_ofNat_of_zero_le h0
      clear h0
      by_cases hlong : (l.length : Int) < (m : Int)
      · rw [tText_long hn hlong]
        have hd : decide (l.length < m) = true := by simpa using hlong
        clear hn hlong
        go_enter Try.func53, Try.ntmps53
        go_wp2_with fail
        refine cN.out.mono ?_
        rintro e W ⟨rfl, hT, hg, -⟩
        have hBw := hT.1
        obtain ⟨v, lo, hO, hb, hne⟩ := hT.some_form
        have HNE := Lib.hid hne
        have HB := Lib.hid hb
        obtain ⟨A, c, rfl, -⟩ := hb.form
        clear hT hne hb
        have g1 := hO.cell (j := 1) rfl
        have g0 := hO.cell (j := 0) rfl
        have f1 := hO.frozen 1
        have cM := Lib.hid (tmay_calls bt false W g1)
        have cFa := Lib.hid (fault_calls bt _ W g1 f1)
        go_wp2_with fail
        refine cM.out.mono ?_
        rintro e W1 ⟨rfl, rfl⟩
        go_wp2_with fail
        refine cFa.out.mono ?_
        rintro e W2 ⟨rfl, rfl⟩
        go_wp2
        go_ret
        have hg2 := grownBy_set W bt 1 (.bool true)
        exact ⟨rfl, Tk.ofBad (hO.set 1 (.bool true)) HB.out hBw HNE.out hg2, hg.trans hg2⟩
      · rw [tText_ok hn hlong]
        have hd : decide (l.length < m) = false := by simpa using hlong
        have hml : m ≤ l.length := by omega
        have q1 : (0 : Int) ≤ (m : Int) := by omega
        have q2 : (m : Int) ≤ (l.length : Int) := by omega
        clear hn hlong
        go_enter Try.func53, Try.ntmps53
        go_wp2_with fail
        refine cN.out.mono ?_
        rintro e W ⟨rfl, hT, hg, hS⟩
        obtain ⟨b, o, n', c, hS⟩ := hS rfl
        have hBw := hT.1
        obtain ⟨v, lo, hO, hb, hne⟩ := hT.some_form
        have g0 := hO.cell (j := 0) rfl
        obtain rfl : v = .slice (some ⟨b, o, none⟩) n' c := by rw [hS] at g0; simpa using g0.symm
        have HNE := Lib.hid hne
        have HB := Lib.hid hb
        obtain ⟨A, c', e, hc1, hc2⟩ := hb.form
        have e2 : c = c' := by cases e; rfl
        have e3 : n' = l.length := by cases e; rfl
        clear e
        subst e2 e3
        clear hT hne hb hS
        have q3 : (l.length : Int) ≤ (c : Int) := by omega
        have q4 : (m : Int) ≤ (c : Int) := by omega
        have g1 := hO.cell (j := 1) rfl
        have f0 := hO.frozen 0
        have cM := Lib.hid (tmay_calls bt false W g1)
        have hcv := run_string_at (P := Try.prog) (dst := 9) Try.underlying41 Try.underlying5 Try.underlying9 (BytesAt.upTo HB.out hml)
        have hs1 := BytesAt.onFrom HB.out hml
        have hon := hO.set 0 (.slice (if c = m then some ⟨b, o, none⟩ else some ⟨b, o + m, none⟩) (l.length - m) (c - m))
        by_cases hck : c = m
        · subst hck
          have e1 : l.length = c := by omega
          simp only [if_true] at hs1 hon
          have e2 : l.length - c = 0 := by omega
          rw [e2, Nat.sub_self] at hs1 hon
          clear e1 e2
          have HS1 := Lib.hid hs1
          clear hs1
          go_wp2_with fail
          refine cM.out.mono ?_
          rintro e W1 ⟨rfl, rfl⟩
          go_wp2
          go_ret
          have hg2 := grownBy_set W bt 0 (.slice (some ⟨b, o, none⟩) 0 0)
          exact ⟨rfl, Tk.ofOk hon HS1.out hBw HNE.out hg2, hg.trans hg2⟩
        · rw [if_neg hck] at hs1 hon
          have HS1 := Lib.hid hs1
          clear hs1
          go_wp2_with fail
          refine cM.out.mono ?_
          rintro e W1 ⟨rfl, rfl⟩
          go_wp2
          go_ret
          have hg2 := grownBy_set W bt 0 (.slice (some ⟨b, o + m, none⟩) (l.length - m) (c - m))
          exact ⟨rfl, Tk.ofOk hon HS1.out hBw HNE.out hg2, hg.trans hg2⟩

def leftOf : Tst → Int | none => 0 | some l => l.length
theorem tleft_calls (bt B : Nat) (st : Tst) (w : World) (h : Tk 76 w bt B st) :
    Calls Try.prog 33 #[.pointer (some ⟨bt, 0, none⟩)] w fun e w' => e = .returned (.int .i64 (leftOf st)) ∧ w = w' := by
  cases st with
  | none =>
    obtain ⟨v, hO⟩ := h.none_form
    have g1 := hO.cell (j := 1) rfl
    have cM := Lib.hid (tmay_calls bt true w g1)
    clear h
    go_enter Try.func33, Try.ntmps33
    go_wp2_with fail
    refine cM.out.mono ?_
    rintro e W1 ⟨rfl, rfl⟩
    go_wp2
    go_ret
    exact ⟨rfl, rfl⟩
  | some l =>
    obtain ⟨v, lo, hO, hb, hne⟩ := h.some_form
    obtain ⟨A, c, rfl, -⟩ := hb.form
    have g1 := hO.cell (j := 1) rfl
    have g0 := hO.cell (j := 0) rfl
    have cM := Lib.hid (tmay_calls bt false w g1)
    clear h hne hb
    go_enter Try.func33, Try.ntmps33
    go_wp2_with fail
    refine cM.out.mono ?_
    rintro e W1 ⟨rfl, rfl⟩
    go_wp2
    go_ret
    exact ⟨rfl, rfl⟩
/-- all was taken, or not -/
def doneOf : Tst → Int | some [] => 0 | _ => 10
theorem tdone_calls (bt B : Nat) (st : Tst) (w : World) (h : Tk 76 w bt B st) :
    Calls Try.prog 34 #[.pointer (some ⟨bt, 0, none⟩)] w fun e w' => e = .returned (.int .i64 (doneOf st)) ∧ w = w' := by
  cases st with
  | none =>
    obtain ⟨v, hO⟩ := h.none_form
    have g1 := hO.cell (j := 1) rfl
    clear h
    go_enter Try.func34, Try.ntmps34
    go_wp2
    go_ret
    exact ⟨rfl, rfl⟩
  | some l =>
    obtain ⟨v, lo, hO, hb, hne⟩ := h.some_form
    obtain ⟨A, c, rfl, -⟩ := hb.form
    have g1 := hO.cell (j := 1) rfl
    have g0 := hO.cell (j := 0) rfl
    clear h hne hb
    cases l with
    | nil =>
      simp only [List.length_nil] at g0 g1
      go_enter Try.func34, Try.ntmps34
      go_wp2
      go_ret
      exact ⟨rfl, rfl⟩
    | cons x r =>
      have hd : decide (0 < (x :: r).length) = true := by simp
      generalize hk : (x :: r).length = k at *
      go_enter Try.func34, Try.ntmps34
      go_wp2
      go_ret
      exact ⟨rfl, rfl⟩
end Ce
end Go.Proofs.Ytloabanhoeaidaa
