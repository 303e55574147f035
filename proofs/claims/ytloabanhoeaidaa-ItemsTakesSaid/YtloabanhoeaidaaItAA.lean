/-
  items: what is taken of a code: fault, Take, Decode; the document's Read and Decode.
-/
import Derived.Test.YtloabanhoeaidaaCeK
import Derived.Test.YtloabanhoeaidaaItW
namespace Go.Proofs.Ytloabanhoeaidaa
open Go.RowKit
namespace It
open Ce

theorem tNum_never (st : Tst) : tNum 1 0 st = (0, none) := by
  cases st with
  | none => rfl
  | some l =>
    cases hf : firstC l with
    | none => exact tNum_bad hf
    | some x => exact tNum_out (n := x.1) (k := x.2) hf (by omega)
theorem ifault_calls (bt B : Nat) (st : Tst) (w : World) (h : Tk 76 w bt B st) :
    Calls Try.prog 54 #[.pointer (some ⟨bt, 0, none⟩)] w fun e w' => e = .returned (.slice none 0 0) ∧ Tk 76 w' bt B none ∧ w.grownBy w' (some bt) := by
  have cN := Lib.hid (tnum_calls 1 0 bt B st w h)
  rw [tNum_never] at cN
  clear h
  go_enter Try.func54, Try.ntmps54
  go_wp2_with fail
  refine cN.out.mono ?_
  rintro e W ⟨rfl, hT, hg, -⟩
  go_wp2
  go_ret
  exact ⟨rfl, hT, hg⟩

theorem ownsRow_far {w w' : World} {lo b : Nat} {e : TypeId} {size n : Nat} {v : Value} {xs : List Value} (h : w.ownsRow lo e size v n xs) (hg : w.grownBy w' (some b)) (hb : b < lo) : w'.ownsRow lo e size v n xs := by
  refine h.kept hg ?_
  cases hv : v.ownBlock with
  | none => simp
  | some g => have := (h.lt g hv).1; exact .inr (by simp; omega)
theorem itemCells_snoc (l : List Item) (s : ByteArray) (n : Int) : itemCells (l ++ [(s, n)]) = itemCells l ++ [.string s, .int .i64 n] := by simp [itemCells]
theorem rIt_succ (s : Rst) (k : Nat) : rIt s (k + 1) = ((rIt s k).1 ++ [(bs (tText 16 (rIt s k).2).1, (tNum 1 1099511627776 (tText 16 (rIt s k).2).2).1)], (tNum 1 1099511627776 (tText 16 (rIt s k).2).2).2) := rfl

set_option maxRecDepth 100000 in
set_option maxHeartbeats 4000000 in
theorem itake_calls (bt B : Nat) (st : Tst) (w : World) (h : Tk 76 w bt B st) :
    Calls Try.prog 31 #[.pointer (some ⟨bt, 0, none⟩)] w fun e w' => (∃ v, e = .returned v ∧ w'.ownsRow w.heap.size 36 2 v (readI st).1.length (itemCells (readI st).1)) ∧ Tk 76 w' bt B (readI st).2 ∧ w.grownBy w' (some bt) := by
  obtain ⟨i0, hi0, hz0⟩ := Option.map_eq_some_iff.1 item_info
  simp only [Prod.mk.injEq] at hz0
  obtain ⟨hz0, hz1, hz2⟩ := hz0
  have hbt : bt < w.heap.size := by obtain ⟨_, v, l, lo, bad, h1, _⟩ := h; exact h1.lt
  have hBw := h.1
  have cN := Lib.hid (tnum_calls 0 16 bt B st w h)
  have hr := tNum_range (least := 0) (most := 16) (s := st) (by omega) (by omega)
  have HR := Lib.hid (show readI st = if may (rIt ([], (tNum 0 16 st).2) (tNum 0 16 st).1.toNat).1 then rIt ([], (tNum 0 16 st).2) (tNum 0 16 st).1.toNat else ([], none) from rfl)
  have HFit := Lib.hid (rIt_fits ([], (tNum 0 16 st).2) (fun x hx => by cases hx))
  have HLen := Lib.hid (rIt_len ([], (tNum 0 16 st).2))
  clear h
  generalize readI st = RR at *
  generalize hnn : tNum 0 16 st = nn at *
  clear hnn
  obtain ⟨ni, st0⟩ := nn
  dsimp only at hr cN HR HFit HLen
  obtain ⟨n, rfl⟩ := Int.eq_ofNat_of_zero_le hr.1
  have hn16 : n ≤ 16 := by omega
  rw [Int.toNat_natCast] at HR
  clear hr
  have HS := Lib.hid (rIt_succ ([], st0))
  generalize hS0 : (([], st0) : Rst) = S0 at *
  have HS0 := Lib.hid hS0
  clear hS0
  go_enter Try.func31, Try.ntmps31
  go_wp2_with fail
  refine cN.out.mono ?_
  rintro e W0 ⟨rfl, hT0, hg0, -⟩
  go_wp2
  go_loopw [3, 4, 7] (fun o _ i wr => ∃ k : Nat, k ≤ n ∧ i = .int .i64 k ∧ wr.ownsRow w.heap.size 36 2 o k (itemCells (rIt S0 k).1) ∧ Tk 76 wr bt B (rIt S0 k).2 ∧ w.grownBy wr (some bt)) (fun _ _ i _ => n - (intOf i).toNat)
  case atStart =>
    refine ⟨0, by omega, rfl, ?_, ?_, hg0⟩
    · rw [← HS0.out]; exact World.ownsRow_nil _ _ _ _
    · rw [← HS0.out]; exact hT0
  case round =>
    obtain ⟨k, hk, rfl, hown, hT, hg⟩ := hrel
    clear hT0
    by_cases hlt : k < n
    · have hd : decide (k < n) = true := by simpa using hlt
      have cT := Lib.hid (fun W h => ttext_calls 16 bt B (rIt S0 k).2 W h)
      have cM := Lib.hid (fun W h => tnum_calls 1 1099511627776 bt B (tText 16 (rIt S0 k).2).2 W h)
      have HSk := Lib.hid (HS.out k)
      have HO := Lib.hid hown
      have HT := Lib.hid hT
      clear hown hT
      generalize rIt S0 k = rk at *
      generalize tText 16 rk.2 = tx at *
      generalize tNum 1 1099511627776 tx.2 = ty at *
      go_wp2_with fail
      refine (cT.out _ HT.out).mono ?_
      rintro e W1 ⟨rfl, hT1, hg1⟩
      have HO1 := Lib.hid (ownsRow_far HO.out hg1 hbt)
      have HT1 := Lib.hid hT1
      clear hT1
      go_wp2_with fail
      refine (cM.out _ HT1.out).mono ?_
      rintro e W2 ⟨rfl, hT2, hg2, -⟩
      have HO2 := ownsRow_far HO1.out hg2 hbt
      have hgg := (hg.trans hg1).trans hg2
      have HT2 := Lib.hid hT2
      have hsz : w.heap.size ≤ W2.heap.size := hgg.size
      clear hT2 hg1 hg2
      generalize bs tx.1 = tb at *
      generalize ty.1 = tn at *
      go_wp2_with (at_builtin
                   refine wpList_append_sl _ rfl (.tmp 11) (.tmp 16) _ rfl w.heap.size 36 i0 _ 2 24 Try.underlying22 hi0 hz0 hz1 hz2 rfl (by omega) u3 k _ rfl (HO2.alloc _) W2.heap.size (W2.heap.size + 1) _ 1 [.string tb, .int .i64 tn] rfl (Sl.new W2 #[.string tb, .int .i64 tn] 36 (n := 1) (size := 2) rfl (by unfold maxLen; omega)) (by simp [Value.oneCell']) (by unfold maxLen; omega) (by omega) (by simp; omega) ?_
                   intro v1 w5 hv1 hg1 hat1)
      have hga : W2.grownBy (W2.alloc (.cells #[.string tb, .int .i64 tn] 36)) (some bt) := World.grownBy_alloc W2 _ _
      have hg5 : w.grownBy w5 (some bt) := (hgg.trans hga).andThen hg1 fun j hj => .inl (HO2.lt j hj).1
      have hT5 := (HT2.out.kept (World.grownBy_alloc W2 (.cells #[.string tb, .int .i64 tn] 36) none) (by simp) (by simp)).kept hg1 (fun e => by have := (HO2.lt bt e.symm).1; omega) (fun g e => by have := (HO2.lt g e).1; omega)
      clear hg1 hat1 hga hgg HO2
      go_roundw
      case rel =>
        refine ⟨k + 1, by omega, by go_num, ?_, ?_, hg5⟩
        · rw [HSk.out, itemCells_snoc]; exact hv1
        · rw [HSk.out]; exact hT5
      case measure => simp [intOf]; omega
    · obtain rfl : k = n := by omega
      have hd : decide (k < k) = false := by simp
      have hl : (rIt S0 k).1.length = k := by rw [HLen.out]; simp
      have hF := Lib.hid (HFit.out k)
      generalize rIt S0 k = rk at *
      obtain ⟨L, stk⟩ := rk
      dsimp only at hl hown hT hF HR
      subst hl
      have HO := Lib.hid hown
      have HT := Lib.hid hT
      have hI := toAt hown
      obtain ⟨A, c, rfl, -⟩ := hI.form
      have cMay := Lib.hid (may_calls L _ wr hI hF.out)
      clear hown hT hI
      generalize may L = ml at *
      cases ml with
      | true =>
        obtain rfl : RR = (L, stk) := by rw [HR.out]; rfl
        go_wp2_with fail
        refine cMay.out.mono ?_
        rintro e W1 ⟨rfl, hB⟩
        go_wp2
        go_ret
        exact ⟨⟨_, rfl, ownsRow_below HO.out hB⟩, HT.out.same hB, hg.trans (only_of_below hB _)⟩
      | false =>
        obtain rfl : RR = ([], none) := by rw [HR.out]; rfl
        go_wp2_with fail
        refine cMay.out.mono ?_
        rintro e W1 ⟨rfl, hB⟩
        have cF := Lib.hid (ifault_calls bt B stk W1 (HT.out.same hB))
        go_wp2_with fail
        refine cF.out.mono ?_
        rintro e W2 ⟨rfl, hT2, hg2⟩
        go_wp2
        go_ret
        exact ⟨⟨_, rfl, World.ownsRow_nil _ _ _ _⟩, hT2, (hg.trans (only_of_below hB _)).trans hg2⟩

/-- the list of a code, and why not -/
def decI (b : List UInt8) : List Item × Int := if (readI (some b)).2 = some [] then ((readI (some b)).1, 0) else ([], 10)

set_option maxRecDepth 100000 in
set_option maxHeartbeats 4000000 in
theorem decode_calls (b : List UInt8) (v : Value) (w : World) (hI : BytesAt w 0 w.heap.size v b) (hbl : b.length ≤ 140737488351232) :
    Calls Try.prog 36 #[v] w fun e w' => (∃ u, e = .returned (.tuple #[u, .int .i64 (decI b).2]) ∧ w'.ownsRow w.heap.size 36 2 u (decI b).1.length (itemCells (decI b).1)) ∧ Below w.heap.size w w' := by
  obtain ⟨i0, hi0, hz0⟩ := Option.map_eq_some_iff.1 item_info
  simp only [Prod.mk.injEq] at hz0
  obtain ⟨hz0, hz1, hz2⟩ := hz0
  have cTk := Lib.hid (take_calls b v w hI hbl)
  obtain ⟨A, c, rfl, -⟩ := hI.form
  have cN := Lib.hid (fun bt B W h => tnum_calls 0 16 bt B (some b) W h)
  have hr := tNum_range (least := 0) (most := 16) (s := some b) (by omega) (by omega)
  have HR := Lib.hid (show decI b = if (readI (some b)).2 = some [] then ((readI (some b)).1, 0) else ([], 10) from rfl)
  have HRR := Lib.hid (show readI (some b) = if may (rIt ([], (tNum 0 16 (some b)).2) (tNum 0 16 (some b)).1.toNat).1 then rIt ([], (tNum 0 16 (some b)).2) (tNum 0 16 (some b)).1.toNat else ([], none) from rfl)
  have HFit := Lib.hid (rIt_fits ([], (tNum 0 16 (some b)).2) (fun x hx => by cases hx))
  have HLen := Lib.hid (rIt_len ([], (tNum 0 16 (some b)).2))
  clear hI hbl
  generalize decI b = D at *
  generalize readI (some b) = RR at *
  generalize hnn : tNum 0 16 (some b) = nn at *
  clear hnn
  obtain ⟨ni, st0⟩ := nn
  dsimp only at hr cN HRR HFit HLen
  obtain ⟨n, rfl⟩ := Int.eq_ofNat_of_zero_le hr.1
  have hn16 : n ≤ 16 := by omega
  rw [Int.toNat_natCast] at HRR
  clear hr
  have HS := Lib.hid (rIt_succ ([], st0))
  generalize hS0 : (([], st0) : Rst) = S0 at *
  have HS0 := Lib.hid hS0
  clear hS0
  go_enter Try.func36, Try.ntmps36
  go_wp2_with fail
  refine cTk.out.mono ?_
  rintro e Wt ⟨⟨bt, rfl, hbt0, hbt, hTt⟩, hBt⟩
  have cN0 := Lib.hid (cN.out bt bt Wt hTt)
  clear hTt
  go_wp2_with fail
  refine cN0.out.mono ?_
  rintro e W0 ⟨rfl, hT0, hg0, -⟩
  go_wp2
  go_loopw [5, 6, 11] (fun o _ i wr => ∃ k : Nat, k ≤ n ∧ i = .int .i64 k ∧ wr.ownsRow Wt.heap.size 36 2 o k (itemCells (rIt S0 k).1) ∧ Tk 76 wr bt bt (rIt S0 k).2 ∧ Wt.grownBy wr (some bt)) (fun _ _ i _ => n - (intOf i).toNat)
  case atStart =>
    refine ⟨0, by omega, rfl, ?_, ?_, hg0⟩
    · rw [← HS0.out]; exact World.ownsRow_nil _ _ _ _
    · rw [← HS0.out]; exact hT0
  case round =>
    obtain ⟨k, hk, rfl, hown, hT, hg⟩ := hrel
    clear hT0
    by_cases hlt : k < n
    · have hd : decide (k < n) = true := by simpa using hlt
      have cT := Lib.hid (fun W h => ttext_calls 16 bt bt (rIt S0 k).2 W h)
      have cM := Lib.hid (fun W h => tnum_calls 1 1099511627776 bt bt (tText 16 (rIt S0 k).2).2 W h)
      have HSk := Lib.hid (HS.out k)
      have HO := Lib.hid hown
      have HT := Lib.hid hT
      clear hown hT
      generalize rIt S0 k = rk at *
      generalize tText 16 rk.2 = tx at *
      generalize tNum 1 1099511627776 tx.2 = ty at *
      go_wp2_with fail
      refine (cT.out _ HT.out).mono ?_
      rintro e W1 ⟨rfl, hT1, hg1⟩
      have HO1 := Lib.hid (ownsRow_far HO.out hg1 hbt)
      have HT1 := Lib.hid hT1
      clear hT1
      go_wp2_with fail
      refine (cM.out _ HT1.out).mono ?_
      rintro e W2 ⟨rfl, hT2, hg2, -⟩
      have HO2 := ownsRow_far HO1.out hg2 hbt
      have hgg := (hg.trans hg1).trans hg2
      have HT2 := Lib.hid hT2
      have hsz : Wt.heap.size ≤ W2.heap.size := hgg.size
      clear hT2 hg1 hg2
      generalize bs tx.1 = tb at *
      generalize ty.1 = tn at *
      go_wp2_with (at_builtin
                   refine wpList_append_sl _ rfl (.tmp 15) (.tmp 20) _ rfl Wt.heap.size 36 i0 _ 2 24 Try.underlying22 hi0 hz0 hz1 hz2 rfl (by omega) u5 k _ rfl (HO2.alloc _) W2.heap.size (W2.heap.size + 1) _ 1 [.string tb, .int .i64 tn] rfl (Sl.new W2 #[.string tb, .int .i64 tn] 36 (n := 1) (size := 2) rfl (by unfold maxLen; omega)) (by simp [Value.oneCell']) (by unfold maxLen; omega) (by omega) (by simp; omega) ?_
                   intro v1 w5 hv1 hg1 hat1)
      have hga : W2.grownBy (W2.alloc (.cells #[.string tb, .int .i64 tn] 36)) (some bt) := World.grownBy_alloc W2 _ _
      have hg5 : Wt.grownBy w5 (some bt) := (hgg.trans hga).andThen hg1 fun j hj => .inl (HO2.lt j hj).1
      have hT5 := (HT2.out.kept (World.grownBy_alloc W2 (.cells #[.string tb, .int .i64 tn] 36) none) (by simp) (by simp)).kept hg1 (fun e => by have := (HO2.lt bt e.symm).1; omega) (fun g e => by have := (HO2.lt g e).1; omega)
      clear hg1 hat1 hga hgg HO2
      go_roundw
      case rel =>
        refine ⟨k + 1, by omega, by go_num, ?_, ?_, hg5⟩
        · rw [HSk.out, itemCells_snoc]; exact hv1
        · rw [HSk.out]; exact hT5
      case measure => simp [intOf]; omega
    · obtain rfl : k = n := by omega
      have hd : decide (k < k) = false := by simp
      have hl : (rIt S0 k).1.length = k := by rw [HLen.out]; simp
      have hF := Lib.hid (HFit.out k)
      generalize rIt S0 k = rk at *
      obtain ⟨L, stk⟩ := rk
      dsimp only at hl hown hT hF HRR
      subst hl
      have HO := Lib.hid hown
      have hBwr : Below w.heap.size w wr := hBt.grown hg hBt.size (fun g e => by cases e; exact hbt0)
      have hI := toAt hown
      obtain ⟨A, c, rfl, -⟩ := hI.form
      have cMay := Lib.hid (may_calls L _ wr hI hF.out)
      have cD := Lib.hid (tdone_calls bt bt stk wr hT)
      clear hown hT hI
      generalize may L = ml at *
      rcases stk with _ | (_ | ⟨x0, x1⟩)
      · obtain rfl : D = ([], 10) := by rw [HR.out, HRR.out]; cases ml <;> rfl
        have hdn : doneOf none = 10 := rfl
        rw [hdn] at cD
        clear hdn
        go_wp2_with fail
        refine cD.out.mono ?_
        rintro e W1 ⟨rfl, rfl⟩
        go_wp2
        go_ret2
        exact ⟨⟨_, rfl, World.ownsRow_nil _ _ _ _⟩, hBwr⟩
      · have hdn : doneOf (some []) = 0 := rfl
        rw [hdn] at cD
        clear hdn
        cases ml with
        | true =>
          obtain rfl : D = (L, 0) := by rw [HR.out, HRR.out]; rfl
          go_wp2_with fail
          refine cD.out.mono ?_
          rintro e W1 ⟨rfl, rfl⟩
          go_wp2_with fail
          refine cMay.out.mono ?_
          rintro e W1 ⟨rfl, hB⟩
          go_wp2
          go_ret2
          exact ⟨⟨_, rfl, ownsRow_wide (ownsRow_below HO.out hB) hBt.size⟩, hBwr.trans (hB.mono hBwr.size)⟩
        | false =>
          obtain rfl : D = ([], 10) := by rw [HR.out, HRR.out]; rfl
          go_wp2_with fail
          refine cD.out.mono ?_
          rintro e W1 ⟨rfl, rfl⟩
          go_wp2_with fail
          refine cMay.out.mono ?_
          rintro e W1 ⟨rfl, hB⟩
          go_wp2
          go_ret2
          exact ⟨⟨_, rfl, World.ownsRow_nil _ _ _ _⟩, hBwr.trans (hB.mono hBwr.size)⟩
      · obtain rfl : D = ([], 10) := by rw [HR.out, HRR.out]; cases ml <;> rfl
        have hdn : doneOf (some (x0 :: x1)) = 10 := rfl
        rw [hdn] at cD
        clear hdn
        go_wp2_with fail
        refine cD.out.mono ?_
        rintro e W1 ⟨rfl, rfl⟩
        go_wp2
        go_ret2
        exact ⟨⟨_, rfl, World.ownsRow_nil _ _ _ _⟩, hBwr⟩
end It
end Go.Proofs.Ytloabanhoeaidaa
