/-
  cells: the document's maker (put, Num, Text).
-/
import Derived.Test.YtloabanhoeaidaaCeJ
import Derived.Lib.AppendStr
namespace Go.Proofs.Ytloabanhoeaidaa
open Go.RowKit
namespace Ce

/-- a maker of the document's -/
def Rm (w : World) (bm : Nat) (s : List UInt8 × Bool) : Prop :=
  s.1.length ≤ 262144 ∧ ∃ v, Ob w bm 85 #[v, .bool s.2] ∧ BytesAt w (bm + 1) w.heap.size v s.1
theorem Rm.same {w w' : World} {bm : Nat} {s : List UInt8 × Bool} (h : Rm w bm s) (hb : Below w.heap.size w w') : Rm w' bm s := by
  obtain ⟨h1, v, hO, hB⟩ := h
  exact ⟨h1, v, hO.same hb, hB.mono hb hb.size⟩
theorem Rm.new (w : World) : Rm (w.alloc (.cells #[.slice none 0 0, .bool false] 85)) w.heap.size ([], false) := ⟨by simp, _, Ob.new _ _ _, BytesAt.nil _ _ _⟩

set_option maxRecDepth 100000 in
set_option maxHeartbeats 2000000 in
theorem refput_calls (x : List UInt8) (xv : Value) (bm : Nat) (s : List UInt8 × Bool) (w : World) (hM : Rm w bm s) (hx : BytesAt w 0 w.heap.size xv x) (_hxl : x.length ≤ 1000000) :
    Calls Try.prog 84 #[.pointer (some ⟨bm, 0, none⟩), xv] w fun e w' => e = .returned (.tuple #[]) ∧ Rm w' bm (mPut s x) ∧ w.grownBy w' (some bm) := by
  obtain ⟨i0, hi0, hz0⟩ := Option.map_eq_some_iff.1 byte_info
  simp only [Prod.mk.injEq] at hz0
  obtain ⟨hz0, hz1, hz2⟩ := hz0
  obtain ⟨S, long⟩ := s
  obtain ⟨hM1, v, hO, hR⟩ := hM
  dsimp only at hM1 hO hR
  obtain ⟨A, c, rfl, hc1, hc2⟩ := hR.form
  obtain ⟨Ax, cx, rfl, hcx1, hcx2⟩ := hx.form
  have g0 := hO.cell (j := 0) rfl
  have g1 := hO.cell (j := 1) rfl
  have f1 := hO.frozen 1
  have f0 := hO.frozen 0
  have hlt := hO.lt
  unfold maxLen at hc2 hcx2
  cases long with
  | true =>
    have HS := Lib.hid (show mPut (S, true) x = (S, true) from rfl)
    have hO2 := hO.set 1 (.bool true)
    have hg2 := grownBy_set w bm 1 (.bool true)
    go_enter Try.func84, Try.ntmps84
    go_wp2
    refine bodyPost_ret (results_none rfl _ _ _) rfl ?_
    refine ⟨rfl, ?_, hg2⟩
    rw [HS.out]
    exact ⟨hM1, _, hO2, (Sl.grown hR hg2 (Nat.le_refl _) (fun k e => .inl (by cases e; omega))).wide (Nat.le_refl _) hg2.size⟩
  | false =>
    by_cases hbig : 262144 < S.length + x.length
    · have HS := Lib.hid (show mPut (S, false) x = (S, true) by unfold mPut; rw [if_neg (by simp)]; exact if_pos hbig)
      have hd : decide ((x.length : Int) > 262144 - (S.length : Int)) = true := by simp; omega
      have hO2 := hO.set 1 (.bool true)
      have hg2 := grownBy_set w bm 1 (.bool true)
      clear hbig
      go_enter Try.func84, Try.ntmps84
      go_wp2
      refine bodyPost_ret (results_none rfl _ _ _) rfl ?_
      refine ⟨rfl, ?_, hg2⟩
      rw [HS.out]
      exact ⟨hM1, _, hO2, (Sl.grown hR hg2 (Nat.le_refl _) (fun k e => .inl (by cases e; omega))).wide (Nat.le_refl _) hg2.size⟩
    · have HS := Lib.hid (show mPut (S, false) x = (S ++ x, false) by unfold mPut; rw [if_neg (by simp)]; exact if_neg hbig)
      have hd : decide ((x.length : Int) > 262144 - (S.length : Int)) = false := by simp; omega
      have hR1 := Lib.hid (Sl.mono hR ((Below.refl _ w).alloc (Nat.le_refl _) (.cells #[] 5)) (B' := (w.alloc (.cells #[] 5)).heap.size) (by simp))
      have hx1 := Lib.hid (Sl.mono hx ((Below.refl _ w).alloc (Nat.le_refl _) (.cells #[] 5)) (B' := (w.alloc (.cells #[] 5)).heap.size) (by simp))
      have hxx := Lib.hid hx
      clear hR hx
      go_enter Try.func84, Try.ntmps84
      have tok1 : True := trivial
      go_wp2_with (first
        | (at_builtin
           have _t := tok1
           refine wpList_append_sl _ rfl (.tmp 23) (.tmp 27) _ rfl w.heap.size 5 i0 _ 1 1 Try.underlying41 hi0 hz0 hz1 hz2 rfl (by omega) (.slice (some ⟨w.heap.size, 0, none⟩) 0 0) 0 [] rfl (World.ownsRow_lit w #[] 0 (Nat.le_refl _) (Nat.zero_le _) rfl) (bm + 1) _ (.slice A S.length c) S.length (bytesV S) rfl hR1.out (bytesV_one S) (by unfold maxLen; omega) (by omega) (by simp) ?_
           intro v1 w1 hv1 hg1 hat1
           have hB1 : Below w.heap.size w w1 := ((Below.refl _ w).alloc (Nat.le_refl _) (.cells #[] 5)).grown hg1 (by simp) (fun g hg => by cases hg; exact Nat.le_refl _)
           have hx2 := Sl.below hxx.out hB1
           have hown : w1.ownsRow w.heap.size 5 1 v1 S.length (bytesV S) := by simpa using hv1
           clear tok1 hg1 hat1 hv1)
        | (at_builtin
           refine wpList_append_sl _ rfl (.tmp 28) (.tmp 29) _ rfl w.heap.size 5 i0 _ 1 1 Try.underlying41 hi0 hz0 hz1 hz2 rfl (by omega) v1 S.length (bytesV S) rfl hown 0 w.heap.size (.slice Ax x.length cx) x.length (bytesV x) rfl hx2 (bytesV_one x) (by unfold maxLen; omega) (by omega) hB1.size ?_
           intro v5 w5 hv5 hg5 hat5
           have hB5 : Below w.heap.size w w5 := hB1.grown hg5 hB1.size (fun g hg => (hown.lt g hg).1)
           obtain ⟨A5, c5, rfl, -⟩ := (Sl.of_own hv5).at_
           have hO5 := hO.same hB5
           have g5 := hO5.cell (j := 0) rfl
           have f5 := hO5.frozen 0
           clear hg5 hat5))
      have hO6 := hO5.set 0 (.slice A5 (S.length + x.length) c5)
      have hg6 := grownBy_set w5 bm 0 (.slice A5 (S.length + x.length) c5)
      have hb5 : BytesAt w5 (bm + 1) w5.heap.size (.slice A5 (S.length + x.length) c5) (S ++ x) := by
        have e1 : S.length + x.length = (S ++ x).length := by simp
        rw [← bytesV_append, e1] at hv5
        rw [e1]
        exact (BytesAt.of_own hv5).wide hlt (Nat.le_refl _)
      go_wp2
      go_end0
      refine ⟨rfl, ?_, (only_of_below hB5 _).trans hg6⟩
      rw [HS.out]
      exact ⟨by simp; omega, _, hO6, (Sl.grown hb5 hg6 (Nat.le_refl _) (fun k e => .inl (by cases e; omega))).wide (Nat.le_refl _) hg6.size⟩

set_option maxRecDepth 100000 in
set_option maxHeartbeats 1000000 in
theorem refmnum_calls (n : Int) (bm : Nat) (s : List UInt8 × Bool) (w : World) (hM : Rm w bm s) (h0 : -9223372036854775808 ≤ n) (h1 : n ≤ 9223372036854775807) :
    Calls Try.prog 74 #[.pointer (some ⟨bm, 0, none⟩), .int .i64 n] w fun e w' => e = .returned (.tuple #[]) ∧ Rm w' bm (mPut s (numC n)) ∧ w.grownBy w' (some bm) := by
  have cN := Lib.hid (fun W => refnum_calls n W h0 h1)
  have hl := (numC_len n).2
  have HM := Lib.hid hM
  clear hM
  generalize numC n = x at *
  go_enter Try.func74, Try.ntmps74
  go_wp2_with fail
  refine (cN.out _).mono ?_
  rintro e W1 ⟨⟨v, rfl, hv⟩, hB⟩
  obtain ⟨A, c, rfl, -⟩ := hv.form
  have cP := Lib.hid (refput_calls x _ bm s W1 (HM.out.same hB) (hv.wide (Nat.zero_le _) (Nat.le_refl _)) (by omega))
  clear hv
  go_wp2_with fail
  refine cP.out.mono ?_
  rintro e W2 ⟨rfl, hM2, hK2⟩
  go_wp2
  go_end0
  exact ⟨rfl, hM2, (only_of_below hB _).trans hK2⟩

set_option maxRecDepth 100000 in
set_option maxHeartbeats 1000000 in
theorem refmtext_calls (t : ByteArray) (bm : Nat) (s : List UInt8 × Bool) (w : World) (hM : Rm w bm s) (ht : t.size ≤ 900000) :
    Calls Try.prog 75 #[.pointer (some ⟨bm, 0, none⟩), .string t] w fun e w' => e = .returned (.tuple #[]) ∧ Rm w' bm (mPut s (numC t.size ++ t.data.toList)) ∧ w.grownBy w' (some bm) := by
  obtain ⟨i0, hi0, hz0⟩ := Option.map_eq_some_iff.1 byte_info
  simp only [Prod.mk.injEq] at hz0
  obtain ⟨hz0, hz1, hz2⟩ := hz0
  have cN := Lib.hid (fun W => refnum_own t.size W (by omega) (by omega))
  have hl := (numC_len t.size).2
  have HM := Lib.hid hM
  clear hM
  have HTL := Lib.hid (show t.data.toList.length = t.size from Array.length_toList)
  generalize hx : numC t.size = x at *
  clear hx
  go_enter Try.func75, Try.ntmps75
  go_wp2_with fail
  refine (cN.out _).mono ?_
  rintro e W1 ⟨⟨v, rfl, hv⟩, hB⟩
  have HV := Lib.hid hv
  obtain ⟨A, c, rfl, -⟩ := (BytesAt.of_own hv).form
  clear hv
  go_wp2_with (at_builtin
               refine Lib.wpList_append_own_string _ rfl (.tmp 7) (.tmp 8) _ _ rfl w.heap.size 5 i0 Try.underlying41 Try.underlying9 hi0 hz0 hz1 hz2 (.slice A x.length c) x.length (bytesV x) rfl HV.out t rfl (by unfold maxLen; omega) (by omega) hB.size ?_
               intro v1 w1 hv1 hg1 hnil1
               have hB1 : Below w.heap.size w w1 := hB.grown hg1 hB.size (fun g hg => (HV.out.lt g hg).1)
               clear hg1 hnil1)
  have hv2 : BytesAt w1 w.heap.size w1.heap.size v1 (x ++ t.data.toList) := by
    have e1 : x.length + t.size = (x ++ t.data.toList).length := by rw [List.length_append, HTL.out]
    have e2 : bytesV x ++ Lib.strCells t = bytesV (x ++ t.data.toList) := by rw [bytesV_append]; rfl
    rw [e1, e2] at hv1
    exact BytesAt.of_own hv1
  have hl2 : (x ++ t.data.toList).length ≤ 1000000 := by rw [List.length_append, HTL.out]; omega
  obtain ⟨A1, c1, rfl, -⟩ := hv2.form
  have cP := Lib.hid (refput_calls (x ++ t.data.toList) _ bm s w1 (HM.out.same hB1) (hv2.wide (Nat.zero_le _) (Nat.le_refl _)) hl2)
  clear hv1 hv2 hl2
  go_wp2_with fail
  refine cP.out.mono ?_
  rintro e W2 ⟨rfl, hM2, hK2⟩
  go_wp2
  go_end0
  exact ⟨rfl, hM2, (only_of_below hB1 _).trans hK2⟩
end Ce
end Go.Proofs.Ytloabanhoeaidaa
