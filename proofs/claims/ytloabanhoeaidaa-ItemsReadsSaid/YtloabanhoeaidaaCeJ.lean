/-
  cells: the document's taker (Num, Text) and maker (put, Num, Text).
-/
import Derived.Test.YtloabanhoeaidaaCeH
import Derived.Test.YtloabanhoeaidaaCeI
namespace Go.Proofs.Ytloabanhoeaidaa
open Go.RowKit
namespace Ce

set_option maxRecDepth 100000 in
set_option maxHeartbeats 2000000 in
theorem rnum_calls (least most : Int) (bt B : Nat) (st : Tst) (w : World) (h : Tk 46 w bt B st) :
    Calls Try.prog 55 #[.pointer (some ⟨bt, 0, none⟩), .int .i64 least, .int .i64 most] w fun e w' => e = .returned (.int .i64 (tNum least most st).1) ∧ Tk 46 w' bt B (tNum least most st).2 ∧ w.grownBy w' (some bt) ∧ ((tNum least most st).2.isSome = true → Sure w' bt) := by
  have hBw := h.1
  cases st with
  | none =>
    have HT := Lib.hid h
    obtain ⟨v, hO⟩ := h.none_form
    have g1 := hO.cell (j := 1) rfl
    clear h
    go_enter Try.func55, Try.ntmps55
    go_wp2
    go_ret
    exact ⟨rfl, HT.out, World.grownBy.refl _ _, fun h => by cases h⟩
  | some l =>
    obtain ⟨v, lo, hO, hb, hne⟩ := h.some_form
    have g1 := hO.cell (j := 1) rfl
    have g0 := hO.cell (j := 0) rfl
    have hlt := hO.lt
    have cF := Lib.hid (reffirst_calls l v w (hb.wide (Nat.zero_le _) hBw))
    have HNE := Lib.hid hne
    have HB := Lib.hid hb
    clear h hne
    obtain ⟨A, c, rfl, hc1, hc2⟩ := hb.form
    unfold maxLen at hc2
    cases hf : firstC l with
    | none =>
      have HR := Lib.hid (show refR l = (0, 0) by unfold refR; rw [hf])
      rw [tNum_bad hf]
      rw [HR.out] at cF
      clear hf hb
      go_enter Try.func55, Try.ntmps55
      go_wp2_with fail
      refine cF.out.mono ?_
      rintro e W1 ⟨rfl, hB⟩
      have hO1 := hO.same hB
      have g11 := hO1.cell (j := 1) rfl
      have f11 := hO1.frozen 1
      go_wp2
      go_ret
      have hg := grownBy_set W1 bt 1 (.bool true)
      exact ⟨rfl, Tk.ofBad (hO1.set 1 (.bool true)) (Sl.below HB.out (hB.mono hBw)) (Nat.le_trans hBw hB.size) HNE.out hg, (only_of_below hB (some bt)).trans hg, fun h => by cases h⟩
    | some x =>
      obtain ⟨n, k⟩ := x
      have hfs := firstC_some hf
      have HR := Lib.hid (show refR l = (n, (k : Int)) by unfold refR; rw [hf])
      rw [HR.out] at cF
      have hk0 : ((k : Int) == 0) = false := by simp; omega
      by_cases hout : n < least ∨ most < n
      · rw [tNum_out hf hout]
        have hcs : decide (n < least) = true ∨ (decide (n < least) = false ∧ decide (n > most) = true) := by
          by_cases h1 : n < least
          · exact .inl (by simpa using h1)
          · exact .inr ⟨by simpa using h1, by simp; omega⟩
        clear hf hb hfs hout
        rcases hcs with hd | ⟨hd, hd2⟩
        all_goals
          go_enter Try.func55, Try.ntmps55
          go_wp2_with fail
          refine cF.out.mono ?_
          rintro e W1 ⟨rfl, hB⟩
          have hO1 := hO.same hB
          have g11 := hO1.cell (j := 1) rfl
          have f11 := hO1.frozen 1
          go_wp2
          go_ret
          have hg := grownBy_set W1 bt 1 (.bool true)
          exact ⟨rfl, Tk.ofBad (hO1.set 1 (.bool true)) (Sl.below HB.out (hB.mono hBw)) (Nat.le_trans hBw hB.size) HNE.out hg, (only_of_below hB (some bt)).trans hg, fun h => by cases h⟩
      · have hd1 : decide (n < least) = false := by simp; omega
        have hd2 : decide (n > most) = false := by simp; omega
        rw [tNum_in hf hout]
        obtain ⟨b, o, rfl, -⟩ := hb.cellAt (j := 0) (by omega)
        have hk1 : k ≤ l.length := hfs.2.2.1
        have q1 : (0 : Int) ≤ (k : Int) := by omega
        have q2 : (k : Int) ≤ (l.length : Int) := by omega
        have q3 : (l.length : Int) ≤ (c : Int) := by omega
        have hslice := Lib.hid (fun W (hW : Below w.heap.size w W) => BytesAt.onFrom (k := k) (Sl.below HB.out (hW.mono hBw)) hk1)
        clear hf hb hfs hout
        by_cases hck : c = k
        · subst hck
          simp only [if_true] at hslice
          have hlc : l.length = c := by omega
          have e1 : l.length - c = 0 := by omega
          rw [e1, Nat.sub_self] at hslice
          clear e1 hlc
          go_enter Try.func55, Try.ntmps55
          go_wp2_with fail
          refine cF.out.mono ?_
          rintro e W1 ⟨rfl, hB⟩
          have hO1 := hO.same hB
          have g11 := hO1.cell (j := 1) rfl
          have g10 := hO1.cell (j := 0) rfl
          have f10 := hO1.frozen 0
          have hs1 := hslice.out W1 hB
          go_wp2
          go_ret
          have hg := grownBy_set W1 bt 0 (.slice (some ⟨b, o, none⟩) 0 0)
          exact ⟨rfl, Tk.ofOk (hO1.set 0 _) hs1 (Nat.le_trans hBw hB.size) HNE.out hg, (only_of_below hB (some bt)).trans hg, fun _ => ⟨_, _, _, _, (hO1.set 0 _).cell (j := 0) rfl⟩⟩
        · rw [if_neg hck] at hslice
          go_enter Try.func55, Try.ntmps55
          go_wp2_with fail
          refine cF.out.mono ?_
          rintro e W1 ⟨rfl, hB⟩
          have hO1 := hO.same hB
          have g11 := hO1.cell (j := 1) rfl
          have g10 := hO1.cell (j := 0) rfl
          have f10 := hO1.frozen 0
          have hs1 := hslice.out W1 hB
          go_wp2
          go_ret
          have hg := grownBy_set W1 bt 0 (.slice (some ⟨b, o + k, none⟩) (l.length - k) (c - k))
          exact ⟨rfl, Tk.ofOk (hO1.set 0 _) hs1 (Nat.le_trans hBw hB.size) HNE.out hg, (only_of_below hB (some bt)).trans hg, fun _ => ⟨_, _, _, _, (hO1.set 0 _).cell (j := 0) rfl⟩⟩

/-- behind the document's Num: the text -/
def rTextOf (m : Int × Tst) : List UInt8 × Tst := match m with
  | (n, some r) => if (r.length : Int) < n then ([], none) else (r.take n.toNat, some (r.drop n.toNat))
  | (_, none) => ([], none)

set_option maxRecDepth 100000 in
set_option maxHeartbeats 4000000 in
theorem rtext_calls (most : Int) (bt B : Nat) (st : Tst) (w : World) (h : Tk 46 w bt B st) (hmost : 0 ≤ most) :
    Calls Try.prog 56 #[.pointer (some ⟨bt, 0, none⟩), .int .i64 most] w fun e w' => e = .returned (.string (bs (tText most st).1)) ∧ Tk 46 w' bt B (tText most st).2 ∧ w.grownBy w' (some bt) := by
  obtain ⟨hBw, v, l, lo, bad, hO, hb, hne, hst⟩ := id h
  obtain ⟨A, c, rfl, -⟩ := hb.form
  have g0 := hO.cell (j := 0) rfl
  obtain ⟨mm, hmm⟩ : ∃ mm : Int, mm = if most > (l.length : Int) then (l.length : Int) else most := ⟨_, rfl⟩
  have cN := Lib.hid (rnum_calls 0 mm bt B st w h)
  have hTT : tText most st = rTextOf (tNum 0 mm st) := by
    subst hst
    cases bad with
    | true => rfl
    | false =>
      rw [hmm]
      exact (tText_min hmost).symm
  rw [hTT]
  clear hTT h hb hne hst
  have hcs : (decide (most > (l.length : Int)) = true ∧ (l.length : Int) = mm) ∨ (decide (most > (l.length : Int)) = false ∧ most = mm) := by
    by_cases hq : most > (l.length : Int)
    · exact .inl ⟨by simpa using hq, by rw [hmm, if_pos hq]⟩
    · exact .inr ⟨by simpa using hq, by rw [hmm, if_neg hq]⟩
  clear hmm
  obtain ⟨nst, hnst⟩ : ∃ x, x = tNum 0 mm st := ⟨_, rfl⟩
  rw [← hnst] at cN ⊢
  obtain ⟨n, st2⟩ := nst
  cases st2 with
  | none =>
    clear hnst
    rcases hcs with ⟨hd, hmq⟩ | ⟨hd, hmq⟩
    all_goals
      rw [← hmq] at cN
      clear hmq
      go_enter Try.func56, Try.ntmps56
      go_wp2_with fail
      refine cN.out.mono ?_
      rintro e W ⟨rfl, hT, hg, -⟩
      obtain ⟨v, hO2⟩ := hT.none_form
      have HT := Lib.hid hT
      clear hT
      have g1 := hO2.cell (j := 1) rfl
      have f1 := hO2.frozen 1
      have hO3 := hO2.set 1 (.bool true)
      go_wp2
      go_ret
      have hg2 := grownBy_set W bt 1 (.bool true)
      refine ⟨rfl, ?_, hg.trans hg2⟩
      obtain ⟨z0, z1, z2, z3, z4, z5, z6, z7, z8⟩ := HT.out
      have := hO2.symm.trans z5
      have e1 : v = z1 := by simp at this; exact this.1
      subst e1
      exact Tk.ofBad hO3 z6 z0 z7 hg2
  | some l2 =>
    have h0 : 0 ≤ n := by obtain ⟨_, _, _, h3, _⟩ := tNum_some hnst.symm; exact h3
    obtain ⟨m, rfl⟩ := Int.eq_ofNat_of_zero_le h0
    clear h0 hnst
    by_cases hlong : (l2.length : Int) < (m : Int)
    · have HTT := Lib.hid (show rTextOf ((m : Int), some l2) = ([], none) from if_pos hlong)
      have hd2 : decide (l2.length < m) = true := by simpa using hlong
      rw [HTT.out]
      clear hlong HTT
      rcases hcs with ⟨hd, hmq⟩ | ⟨hd, hmq⟩
      all_goals
        rw [← hmq] at cN
        clear hmq
        go_enter Try.func56, Try.ntmps56
        go_wp2_with fail
        refine cN.out.mono ?_
        rintro e W ⟨rfl, hT, hg, -⟩
        have hBw := hT.1
        obtain ⟨v, lo2, hO2, hb, hne⟩ := hT.some_form
        have HNE := Lib.hid hne
        have HB := Lib.hid hb
        obtain ⟨A2, c2, rfl, -⟩ := hb.form
        clear hT hne hb
        have g1 := hO2.cell (j := 1) rfl
        have g0' := hO2.cell (j := 0) rfl
        have f1 := hO2.frozen 1
        go_wp2
        go_ret
        have hg2 := grownBy_set W bt 1 (.bool true)
        exact ⟨rfl, Tk.ofBad (hO2.set 1 (.bool true)) HB.out hBw HNE.out hg2, hg.trans hg2⟩
    · have HTT := Lib.hid (show rTextOf ((m : Int), some l2) = (l2.take m, some (l2.drop m)) from if_neg hlong)
      have hd2 : decide (l2.length < m) = false := by simpa using hlong
      have hml : m ≤ l2.length := by omega
      have q1 : (0 : Int) ≤ (m : Int) := by omega
      have q2 : (m : Int) ≤ (l2.length : Int) := by omega
      rw [HTT.out]
      clear hlong HTT
      rcases hcs with ⟨hd, hmq⟩ | ⟨hd, hmq⟩
      all_goals
        rw [← hmq] at cN
        clear hmq
        go_enter Try.func56, Try.ntmps56
        go_wp2_with fail
        refine cN.out.mono ?_
        rintro e W ⟨rfl, hT, hg, hS⟩
        obtain ⟨b, o, n', c2, hS⟩ := hS rfl
        have hBw := hT.1
        obtain ⟨v, lo2, hO2, hb, hne⟩ := hT.some_form
        have g0' := hO2.cell (j := 0) rfl
        obtain rfl : v = .slice (some ⟨b, o, none⟩) n' c2 := by rw [hS] at g0'; simpa using g0'.symm
        have HNE := Lib.hid hne
        have HB := Lib.hid hb
        obtain ⟨A2, c', e, hc1, hc2⟩ := hb.form
        have e2 : c2 = c' := by cases e; rfl
        have e3 : n' = l2.length := by cases e; rfl
        clear e
        subst e2 e3
        clear hT hne hb hS
        have q3 : (l2.length : Int) ≤ (c2 : Int) := by omega
        have q4 : (m : Int) ≤ (c2 : Int) := by omega
        have g1 := hO2.cell (j := 1) rfl
        have f0 := hO2.frozen 0
        have hcv := run_string_at (P := Try.prog) (dst := 9) Try.underlying41 Try.underlying5 Try.underlying9 (BytesAt.upTo HB.out hml)
        have hs1 := BytesAt.onFrom HB.out hml
        have hon := hO2.set 0 (.slice (if c2 = m then some ⟨b, o, none⟩ else some ⟨b, o + m, none⟩) (l2.length - m) (c2 - m))
        by_cases hck : c2 = m
        · subst hck
          have e1 : l2.length = c2 := by omega
          simp only [if_true] at hs1 hon
          have e2 : l2.length - c2 = 0 := by omega
          rw [e2, Nat.sub_self] at hs1 hon
          clear e1 e2
          have HS1 := Lib.hid hs1
          clear hs1
          go_wp2
          go_ret
          have hg2 := grownBy_set W bt 0 (.slice (some ⟨b, o, none⟩) 0 0)
          exact ⟨rfl, Tk.ofOk hon HS1.out hBw HNE.out hg2, hg.trans hg2⟩
        · rw [if_neg hck] at hs1 hon
          have HS1 := Lib.hid hs1
          clear hs1
          go_wp2
          go_ret
          have hg2 := grownBy_set W bt 0 (.slice (some ⟨b, o + m, none⟩) (l2.length - m) (c2 - m))
          exact ⟨rfl, Tk.ofOk hon HS1.out hBw HNE.out hg2, hg.trans hg2⟩
end Ce
end Go.Proofs.Ytloabanhoeaidaa
