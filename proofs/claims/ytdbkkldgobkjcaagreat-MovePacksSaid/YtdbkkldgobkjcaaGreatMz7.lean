/-
  items: codes, as the document has them: Put, Encode, Read, Decode.
  cells: flags, put and taken, by the program and by the document.
  moves: their codes in plain words: what is put, what is taken.
  items: a range over All whose rounds may write what is older, but not the list; Put.
  items: the code of a list.
  items: Put.
  moves: Move, Come, Forget.
  moves: Come, Forget.
  moves: Forget, Go.
-/
import Derived.Test.YtdbkkldgobkjcaaGreatMz6
import Derived.Test.YtdbkkldgobkjcaaGreatMz4
import Derived.Test.YtdbkkldgobkjcaaGreatMz2

set_option linter.unusedVariables false
set_option linter.unusedSimpArgs false
namespace Go.Proofs.YtdbkkldgobkjcaaGreat
open Go.RowKit
namespace It
open Ce

/-- cells put one behind the other -/
def mPuts (s : List UInt8 × Bool) : List Item → List UInt8 × Bool
  | [] => s
  | x :: r => mPuts (Ce.mPut (Ce.mPut s (numC x.1.size ++ x.1.data.toList)) (numC x.2)) r
theorem mPuts_snoc (s : List UInt8 × Bool) (l : List Item) (x : Item) : mPuts s (l ++ [x]) = Ce.mPut (Ce.mPut (mPuts s l) (numC x.1.size ++ x.1.data.toList)) (numC x.2) := by
  induction l generalizing s with
  | nil => rfl
  | cons y r ih => simp only [List.cons_append, mPuts]; exact ih _
def mPutI (s : List UInt8 × Bool) (l : List Item) : List UInt8 × Bool := mPuts (Ce.mPut s (numC l.length)) l
theorem mPut_short {s c : List UInt8} (h : s.length + c.length ≤ 262144) : Ce.mPut (s, false) c = (s ++ c, false) := by
  unfold Ce.mPut
  rw [if_neg (by simp), if_neg (by simp; omega)]
theorem mPuts_short (l : List Item) : ∀ (s : List UInt8), s.length + (cellsI l).length ≤ 262144 → mPuts (s, false) l = (s ++ cellsI l, false) := by
  induction l with
  | nil => intro s _; simp [mPuts, cellsI]
  | cons x r ih =>
    intro s h
    rw [cellsI_cons] at h ⊢
    simp only [List.length_append] at h
    simp only [mPuts]
    rw [mPut_short (by simp only [List.length_append]; omega), mPut_short (by simp only [List.length_append]; omega), ih _ (by simp only [List.length_append]; omega)]
    simp only [List.append_assoc]
theorem mPutI_short {s : List UInt8} {l : List Item} (h : s.length + (Ce.encI l).length ≤ 262144) : mPutI (s, false) l = (s ++ Ce.encI l, false) := by
  unfold Ce.encI at h ⊢
  rw [List.length_append] at h
  unfold mPutI
  rw [mPut_short (by omega), mPuts_short _ _ (by simp; omega)]
  simp [List.append_assoc]

set_option maxRecDepth 100000 in
set_option maxHeartbeats 4000000 in
theorem refputi_calls (L : List Item) (v : Value) (bm : Nat) (s : List UInt8 × Bool) (w : World) (hM : Rm w bm s) (hI : ∀ W, w.grownBy W (some bm) → ItemsAt W 0 W.heap.size v L) (hF : Fits L) (hS : ∀ x ∈ L, x.1.size ≤ 900000) :
    Calls Tryz.prog 74 #[.pointer (some ⟨bm, 0, none⟩), v] w fun e w' => e = .returned (.tuple #[]) ∧ Rm w' bm (mPutI s L) ∧ w.grownBy w' (some bm) := by
  obtain ⟨A, c, rfl, hc1, hc2⟩ := (hI w (World.grownBy.refl _ _)).form
  unfold maxLen at hc2
  have HI := Lib.hid hI
  have cN := Lib.hid (fun n s W hM h0 h1 => refmnum_calls n bm s W hM h0 h1)
  have cT := Lib.hid (fun t s W hM ht => refmtext_calls t bm s W hM ht)
  have HE := Lib.hid (show mPutI s L = mPuts (Ce.mPut s (numC L.length)) (L.take L.length) by rw [List.take_length]; rfl)
  have HS := Lib.hid (fun s (k : Nat) (h : k < L.length) => show mPuts s (L.take (k + 1)) = Ce.mPut (Ce.mPut (mPuts s (L.take k)) (numC L[k].1.size ++ L[k].1.data.toList)) (numC L[k].2) by rw [List.take_succ_eq_append_getElem h, mPuts_snoc])
  clear hI
  generalize mPutI s L = E at *
  go_enter Tryz.func74, Tryz.ntmps74
  go_wp2_with fail
  refine (cN.out L.length s w hM (by omega) (by omega)).mono ?_
  rintro e W0 ⟨rfl, hM0, hg0⟩
  clear hM
  generalize Ce.mPut s (numC L.length) = s1 at *
  go_wp2
  go_loopw [4] (fun i wr => ∃ k : Nat, k ≤ L.length ∧ i = .int .i64 k ∧ Rm wr bm (mPuts s1 (L.take k)) ∧ w.grownBy wr (some bm)) (fun i _ => L.length - (intOf i).toNat)
  case atStart => exact ⟨0, by omega, rfl, hM0, hg0⟩
  case round =>
    obtain ⟨k, hk, rfl, hM1, hg1⟩ := hrel
    clear hM0
    by_cases hlt : k < L.length
    · obtain ⟨b, o, rfl, -, hb, q1, q2⟩ := (HI.out wr hg1).cellAt hlt
      have hd : decide (k < L.length) = true := by simpa using hlt
      have hfit := hF _ (List.getElem_mem hlt)
      have hsz := hS _ (List.getElem_mem hlt)
      have HSk := Lib.hid (HS.out s1 k hlt)
      have HIk := Lib.hid (fun W (h : w.grownBy W (some bm)) => (HI.out W h).cellAt hlt)
      generalize L[k] = x at *
      obtain ⟨xs, xn⟩ := x
      dsimp only at q1 q2 hfit hsz HSk HIk
      have HM1 := Lib.hid hM1
      clear hM1
      generalize mPuts s1 (L.take k) = sk at *
      have cTk := Lib.hid (cT.out xs sk wr HM1.out hsz)
      go_wp2_with fail
      refine cTk.out.mono ?_
      rintro e W1 ⟨rfl, hM2, hg2⟩
      have hg12 := hg1.trans hg2
      obtain ⟨b', o', e, -, hb', q3, q4⟩ := HIk.out W1 hg12
      cases e
      have cNk := Lib.hid (cN.out xn _ W1 hM2 hfit.2.1 hfit.2.2)
      clear hM2
      go_wp2_with fail
      refine cNk.out.mono ?_
      rintro e W2 ⟨rfl, hM3, hg3⟩
      go_wp2
      go_roundw
      case rel => exact ⟨k + 1, by omega, by go_num, by rw [HSk.out]; exact hM3, hg12.trans hg3⟩
      case measure => simp [intOf]; omega
    · obtain rfl : k = L.length := by omega
      have hd : decide (L.length < L.length) = false := by simp
      go_wp2
      go_end0
      exact ⟨rfl, by rw [HE.out]; exact hM1, hg1⟩

theorem may_short {L : List Item} (h : may L = true) : ∀ x ∈ L, x.1.size ≤ 900000 := fun x hx => by
  have := (good_size ((may_iff L).1 h |>.ok x hx).1).2
  omega
set_option maxRecDepth 100000 in
set_option maxHeartbeats 4000000 in
theorem refread_calls (bt B : Nat) (st : Tst) (w : World) (h : Tk 133 w bt B st) :
    Calls Tryz.prog 78 #[.pointer (some ⟨bt, 0, none⟩)] w fun e w' => (∃ v l, e = .returned (.tuple #[v, .bool (readI st).2.isSome]) ∧ w'.ownsRow w.heap.size 37 2 v l.length (itemCells l) ∧ ((readI st).2.isSome = true → l = (readI st).1) ∧ Fits l) ∧
      (∃ st', Tk 133 w' bt B st' ∧ ((readI st).2.isSome = true → st' = (readI st).2)) ∧ w.grownBy w' (some bt) := by
  obtain ⟨i0, hi0, hz0⟩ := Option.map_eq_some_iff.1 item_info
  simp only [Prod.mk.injEq] at hz0
  obtain ⟨hz0, hz1, hz2⟩ := hz0
  have hbt : bt < w.heap.size := by obtain ⟨_, v, l, lo, bad, h1, _⟩ := h; exact h1.lt
  have hBw := h.1
  have cN := Lib.hid (rnum_calls 0 16 bt B st w h)
  have hr := tNum_range (least := 0) (most := 16) (s := st) (by omega) (by omega)
  have HR := Lib.hid (fun j h1 h2 => readI_stop (s := st) (j := j) h1 h2)
  have HFit := Lib.hid (rIt_fits ([], (tNum 0 16 st).2) (fun x hx => by cases hx))
  have HLen := Lib.hid (rIt_len ([], (tNum 0 16 st).2))
  clear h
  generalize readI st = RR at *
  generalize hnn : tNum 0 16 st = nn at *
  clear hnn
  obtain ⟨ni, st0⟩ := nn
  dsimp only at hr cN HR HFit HLen
  obtain ⟨n, rfl⟩ := Int.eq_ofNat_of_zero_le hr.1
  have hn16 : n ≤ 16 := by omega
  clear hr
  have HS := Lib.hid (rIt_succ ([], st0))
  generalize hS0 : (([], st0) : Rst) = S0 at *
  have HS0 := Lib.hid hS0
  clear hS0
  go_enter Tryz.func78, Tryz.ntmps78
  go_wp2_with fail
  refine cN.out.mono ?_
  rintro e W0 ⟨rfl, hT0, hg0, -⟩
  go_wp2
  go_loopw [5, 6, 7] (fun o i _ wr => ∃ k : Nat, k ≤ n ∧ i = .int .i64 k ∧ wr.ownsRow w.heap.size 37 2 o k (itemCells (rIt S0 k).1) ∧ Tk 133 wr bt B (rIt S0 k).2 ∧ w.grownBy wr (some bt)) (fun _ i _ _ => n - (intOf i).toNat)
  case atStart =>
    refine ⟨0, by omega, rfl, ?_, ?_, hg0⟩
    · rw [← HS0.out]; exact World.ownsRow_nil _ _ _ _
    · rw [← HS0.out]; exact hT0
  case round =>
    obtain ⟨k, hk, rfl, hown, hT, hg⟩ := hrel
    clear hT0
    have hstop : ((k : Int) = (n : Int) ∨ (rIt S0 k).2 = none) ∨ (k < n ∧ ∃ r, (rIt S0 k).2 = some r) := by
      rcases Nat.lt_or_ge k n with h1 | h1
      · cases hq : (rIt S0 k).2 with
        | none => exact .inl (.inr rfl)
        | some r => exact .inr ⟨h1, r, rfl⟩
      · exact .inl (.inl (by omega))
    rcases hstop with hstop | ⟨hlt, r, hr⟩
    · have HRk := Lib.hid (HR.out k (by omega) hstop)
      have hl : (rIt S0 k).1.length = k := by rw [HLen.out]; simp
      have hF := Lib.hid (HFit.out k)
      generalize rIt S0 k = rk at *
      obtain ⟨L, stk⟩ := rk
      dsimp only at hl hown hT hF HRk hstop
      subst hl
      have HO := Lib.hid hown
      have HT := Lib.hid hT
      have hI : ItemsAt wr 0 wr.heap.size u5 L := toAt hown
      obtain ⟨A, c, rfl, -⟩ := hI.form
      have cMay := Lib.hid (refmay_calls L _ wr hI hF.out)
      clear hown hI
      generalize hml : may L = ml at *
      clear hml
      cases stk with
      | none =>
        obtain ⟨v, hO⟩ := hT.none_form
        have q := hO.cell (j := 1) rfl
        clear hT
        have HB := Lib.hid (show RR.2.isSome = false from HRk.out.1.symm)
        have hcs : decide (L.length < n) = true ∨ decide (L.length < n) = false := by
          by_cases hq : L.length < n
          · exact .inl (by simpa using hq)
          · exact .inr (by simpa using hq)
        clear hstop
        rcases hcs with hd | hd
        all_goals
          go_wp2
          go_ret2
          rw [HB.out]
          exact ⟨⟨_, L, rfl, HO.out, fun h => (by cases h), hF.out⟩, ⟨none, HT.out, fun h => by cases h⟩, hg⟩
      | some rr =>
        obtain ⟨v, lo, hO, -⟩ := hT.some_form
        have q := hO.cell (j := 1) rfl
        clear hT
        have hnk : L.length = n := by
          rcases hstop with h | h
          · omega
          · cases h
        clear hstop
        have hd : decide (L.length < n) = false := by simp [hnk]
        clear hnk
        cases ml with
        | true =>
          have HB := Lib.hid (show RR = (L, some rr) from HRk.out.2.1 rfl)
          go_wp2_with fail
          refine cMay.out.mono ?_
          rintro e W1 ⟨rfl, hB⟩
          go_wp2
          go_ret2
          rw [HB.out]
          exact ⟨⟨_, L, rfl, ownsRow_below HO.out hB, fun _ => rfl, hF.out⟩, ⟨_, HT.out.same hB, fun _ => rfl⟩, hg.trans (only_of_below hB _)⟩
        | false =>
          have HB := Lib.hid (show RR.2.isSome = false from HRk.out.1.symm)
          go_wp2_with fail
          refine cMay.out.mono ?_
          rintro e W1 ⟨rfl, hB⟩
          go_wp2
          go_ret2
          rw [HB.out]
          exact ⟨⟨_, L, rfl, ownsRow_below HO.out hB, fun h => (by cases h), hF.out⟩, ⟨_, HT.out.same hB, fun h => by cases h⟩, hg.trans (only_of_below hB _)⟩
    · have hd : decide (k < n) = true := by simpa using hlt
      have cT := Lib.hid (fun W h => rtext_calls 16 bt B (rIt S0 k).2 W h (by omega))
      have cM := Lib.hid (fun W h => rnum_calls 1 1099511627776 bt B (tText 16 (rIt S0 k).2).2 W h)
      have HSk := Lib.hid (HS.out k)
      have HO := Lib.hid hown
      have HT := Lib.hid hT
      rw [hr] at hT
      obtain ⟨tv, lo, hO, -⟩ := hT.some_form
      have q := hO.cell (j := 1) rfl
      clear hown hT hr
      generalize rIt S0 k = rk at *
      generalize tText 16 rk.2 = tx at *
      generalize tNum 1 1099511627776 tx.2 = ty at *
      have HTa := Lib.hid (HT.out.kept (World.grownBy_alloc wr (.cells #[.string ⟨#[]⟩, .int .i64 0] 37) none) (by simp) (by simp))
      have HOa := Lib.hid (HO.out.alloc (.cells #[.string ⟨#[]⟩, .int .i64 0] 37))
      have hgb := HO.out.lt
      have hsw : w.heap.size ≤ wr.heap.size := hg.size
      have hb0 := Ob.new wr 37 #[.string ⟨#[]⟩, .int .i64 0]
      have hga0 : w.grownBy (wr.alloc (.cells #[.string ⟨#[]⟩, .int .i64 0] 37)) (some bt) := hg.trans (World.grownBy_alloc wr _ _)
      generalize hbx : wr.heap.size = bx at hb0 hgb hsw
      have HBX := Lib.hid hbx
      clear hbx
      go_wp2_with fail
      rw [HBX.out]
      generalize wr.alloc (.cells #[.string ⟨#[]⟩, .int .i64 0] 37) = Wa at *
      refine (cT.out _ HTa.out).mono ?_
      rintro e W1 ⟨rfl, hT1, hg1⟩
      generalize bs tx.1 = tb at *
      generalize ty.1 = tn at *
      have hneb : some bx ≠ some bt := fun e => by have := Option.some.inj e; omega
      have hb1 := hb0.kept hg1 hneb
      have HO1 := Lib.hid (ownsRow_far HOa.out hg1 hbt)
      have hgs1 := grownBy_set W1 bx 0 (.string tb)
      have HT1 := Lib.hid (hT1.kept hgs1 (fun e => hneb e.symm) (fun g e => by have := Option.some.inj e; omega))
      have HO2 := Lib.hid (HO1.out.kept hgs1 (by cases hv : u5.ownBlock with | none => exact .inl rfl | some g => exact .inr (fun e => by have := (hgb g hv).2; have := Option.some.inj e; omega)))
      have hb2 := hb1.set 0 (.string tb)
      have q10 := hb1.cell (j := 0) rfl
      have q11 := hb1.cell (j := 1) rfl
      have f10 := hb1.frozen 0
      have hgg1 := (hga0.trans hg1).andThen hgs1 (fun j e => .inl (by have := Option.some.inj e; omega))
      clear hT1
      go_wp2_with fail
      refine (cM.out _ HT1.out).mono ?_
      rintro e W2 ⟨rfl, hT2, hg2, -⟩
      have hb3 := hb2.kept hg2 hneb
      have HO3 := Lib.hid (ownsRow_far HO2.out hg2 hbt)
      have hgs2 := grownBy_set W2 bx 1 (.int .i64 tn)
      have HT2 := Lib.hid (hT2.kept hgs2 (fun e => hneb e.symm) (fun g e => by have := Option.some.inj e; omega))
      have HO4 := HO3.out.kept hgs2 (by cases hv : u5.ownBlock with | none => exact .inl rfl | some g => exact .inr (fun e => by have := (hgb g hv).2; have := Option.some.inj e; omega))
      have q30 : W2.cell? ⟨bx, 0, none⟩ = some (.string tb) := hb3.cell (j := 0) rfl
      have q31 : W2.cell? ⟨bx, 1, none⟩ = some (.int .i64 0) := hb3.cell (j := 1) rfl
      have f31 := hb3.frozen 1
      have hgg := (hgg1.trans hg2).andThen hgs2 (fun j e => .inl (by have := Option.some.inj e; omega))
      have hsz : w.heap.size ≤ (W2.setCell ⟨bx, 1, none⟩ (.int .i64 tn)).heap.size := hgg.size
      have hsz2 : w.heap.size ≤ W2.heap.size := (hgg1.trans hg2).size
      have HSL := Lib.hid (show Sl ((W2.setCell ⟨bx, 1, none⟩ (.int .i64 tn)).alloc (.cells #[.string tb, .int .i64 tn] 37)) W2.heap.size (W2.heap.size + 1) 2 (.slice (some ⟨W2.heap.size, 0, none⟩) 1 1) 1 [.string tb, .int .i64 tn] by
        have := Sl.new (W2.setCell ⟨bx, 1, none⟩ (.int .i64 tn)) #[.string tb, .int .i64 tn] 37 (n := 1) (size := 2) rfl (by unfold maxLen; omega)
        rwa [show (W2.setCell ⟨bx, 1, none⟩ (.int .i64 tn)).heap.size = W2.heap.size by simp [World.setCell]] at this)
      clear hT2 q10 q11 f10 hgs1 hgs2 hg1 hg2 hgg1 hga0 hb0 hb1 hb2 hb3
      go_wp2_with (at_builtin
                   refine wpList_append_sl _ rfl (.tmp 29) (.tmp 31) _ rfl w.heap.size 37 i0 _ 2 24 Tryz.underlying30 hi0 hz0 hz1 hz2 rfl (by omega) u5 k _ rfl (HO4.alloc _) W2.heap.size (W2.heap.size + 1) _ 1 [.string tb, .int .i64 tn] rfl HSL.out (by simp [Value.oneCell']) (by unfold maxLen; omega) (by omega) (by simp; omega) ?_
                   intro v1 w5 hv1 hg1 hat1)
      generalize W2.setCell ⟨bx, 1, none⟩ (.int .i64 tn) = W3 at *
      have hga : W3.grownBy (W3.alloc (.cells #[.string tb, .int .i64 tn] 37)) (some bt) := World.grownBy_alloc W3 _ _
      have hg5 : w.grownBy w5 (some bt) := (hgg.trans hga).andThen hg1 fun j hj => .inl (HO4.lt j hj).1
      have hT5 := (HT2.out.kept (World.grownBy_alloc W3 (.cells #[.string tb, .int .i64 tn] 37) none) (by simp) (by simp)).kept hg1 (fun e => by have := (HO4.lt bt e.symm).1; omega) (fun g e => by have := (HO4.lt g e).1; omega)
      clear hg1 hat1 hga hgg HO4 hsz
      go_roundw
      case rel =>
        refine ⟨k + 1, by omega, by go_num, ?_, ?_, hg5⟩
        · rw [HSk.out, itemCells_snoc]; exact hv1
        · rw [HSk.out]; exact hT5
      case measure => simp [intOf]; omega

end It
end Go.Proofs.YtdbkkldgobkjcaaGreat

namespace Go.Proofs.YtdbkkldgobkjcaaGreat
open Go.RowKit
namespace Ce

/-- a flag's number -/
def flN (b : Bool) : Int := if b then 1 else 0

theorem mflag_calls (f : Bool) (bm : Nat) (Fr : Nat → Prop) (s : List UInt8 × Bool) (w : World) (hM : Mk w bm Fr s) :
    Calls Tryz.prog 66 #[.pointer (some ⟨bm, 0, none⟩), .bool f] w fun e w' => e = .returned (.pointer (some ⟨bm, 0, none⟩)) ∧ Mk w' bm Fr (mPut s (numC (flN f))) ∧ Kept Fr w w' := by
  cases f
  · have cN := Lib.hid (mnum_calls 0 bm Fr s w hM (by omega) (by omega))
    have HE := Lib.hid (show flN false = 0 from rfl)
    clear hM
    go_enter Tryz.func66, Tryz.ntmps66
    go_wp2_with fail
    refine cN.out.mono ?_
    rintro e W1 ⟨rfl, hM1, hK1⟩
    go_wp2
    go_ret
    exact ⟨rfl, by rw [HE.out]; exact hM1, hK1⟩
  · have cN := Lib.hid (mnum_calls 1 bm Fr s w hM (by omega) (by omega))
    have HE := Lib.hid (show flN true = 1 from rfl)
    clear hM
    go_enter Tryz.func66, Tryz.ntmps66
    go_wp2_with fail
    refine cN.out.mono ?_
    rintro e W1 ⟨rfl, hM1, hK1⟩
    go_wp2
    go_ret
    exact ⟨rfl, by rw [HE.out]; exact hM1, hK1⟩
theorem refmflag_calls (f : Bool) (bm : Nat) (s : List UInt8 × Bool) (w : World) (hM : Rm w bm s) :
    Calls Tryz.prog 75 #[.pointer (some ⟨bm, 0, none⟩), .bool f] w fun e w' => e = .returned (.tuple #[]) ∧ Rm w' bm (mPut s (numC (flN f))) ∧ w.grownBy w' (some bm) := by
  cases f
  · have cN := Lib.hid (refmnum_calls 0 bm s w hM (by omega) (by omega))
    have HE := Lib.hid (show flN false = 0 from rfl)
    clear hM
    go_enter Tryz.func75, Tryz.ntmps75
    go_wp2_with fail
    refine cN.out.mono ?_
    rintro e W1 ⟨rfl, hM1, hK1⟩
    go_wp2
    go_end0
    exact ⟨rfl, by rw [HE.out]; exact hM1, hK1⟩
  · have cN := Lib.hid (refmnum_calls 1 bm s w hM (by omega) (by omega))
    have HE := Lib.hid (show flN true = 1 from rfl)
    clear hM
    go_enter Tryz.func75, Tryz.ntmps75
    go_wp2_with fail
    refine cN.out.mono ?_
    rintro e W1 ⟨rfl, hM1, hK1⟩
    go_wp2
    go_end0
    exact ⟨rfl, by rw [HE.out]; exact hM1, hK1⟩
/-- a flag that is taken -/
def tFlag (st : Tst) : Bool × Tst := ((tNum 0 1 st).1 == 1, (tNum 0 1 st).2)
theorem tflag_calls (bt B : Nat) (st : Tst) (w : World) (h : Tk 160 w bt B st) :
    Calls Tryz.prog 71 #[.pointer (some ⟨bt, 0, none⟩)] w fun e w' => e = .returned (.bool (tFlag st).1) ∧ Tk 160 w' bt B (tFlag st).2 ∧ w.grownBy w' (some bt) := by
  have cN := Lib.hid (tnum_calls 0 1 bt B st w h)
  have HE := Lib.hid (show tFlag st = ((tNum 0 1 st).1 == 1, (tNum 0 1 st).2) from rfl)
  clear h
  generalize tFlag st = R at *
  generalize tNum 0 1 st = N at *
  go_enter Tryz.func71, Tryz.ntmps71
  go_wp2_with fail
  refine cN.out.mono ?_
  rintro e W1 ⟨rfl, hT1, hg1, -⟩
  go_wp2
  go_ret
  exact ⟨by rw [HE.out]; rfl, by rw [HE.out]; exact hT1, hg1⟩
theorem rflag_calls (bt B : Nat) (st : Tst) (w : World) (h : Tk 133 w bt B st) :
    Calls Tryz.prog 79 #[.pointer (some ⟨bt, 0, none⟩)] w fun e w' => e = .returned (.bool (tFlag st).1) ∧ Tk 133 w' bt B (tFlag st).2 ∧ w.grownBy w' (some bt) := by
  have cN := Lib.hid (rnum_calls 0 1 bt B st w h)
  have HE := Lib.hid (show tFlag st = ((tNum 0 1 st).1 == 1, (tNum 0 1 st).2) from rfl)
  clear h
  generalize tFlag st = R at *
  generalize tNum 0 1 st = N at *
  go_enter Tryz.func79, Tryz.ntmps79
  go_wp2_with fail
  refine cN.out.mono ?_
  rintro e W1 ⟨rfl, hT1, hg1, -⟩
  go_wp2
  go_ret
  exact ⟨by rw [HE.out]; rfl, by rw [HE.out]; exact hT1, hg1⟩
end Ce
end Go.Proofs.YtdbkkldgobkjcaaGreat

namespace Go.Proofs.YtdbkkldgobkjcaaGreat
open Go.RowKit Go.Maps
namespace Mv
open It Ce

def encW (d : Way) : List UInt8 := numC d.mv ++ (numC d.fr ++ (numC d.to_ ++ (Ce.encI d.l ++ numC (flN d.came))))
def cellsW (ds : List Way) : List UInt8 := ds.flatMap encW
def packW (ds : List Way) : List UInt8 := numC ds.length ++ cellsW ds
theorem cellsW_snoc (ds : List Way) (d : Way) : cellsW (ds ++ [d]) = cellsW ds ++ encW d := by simp [cellsW]
theorem cellsW_cons (ds : List Way) (d : Way) : cellsW (d :: ds) = encW d ++ cellsW ds := by simp [cellsW]
theorem encW_len {d : Way} (h : may d.l = true) : (encW d).length ≤ 640 := by
  have h1 := encI_len h
  have h2 := (numC_len d.mv).2
  have h3 := (numC_len d.fr).2
  have h4 := (numC_len d.to_).2
  have h5 := (numC_len (flN d.came)).2
  unfold encW
  simp only [List.length_append]
  omega
theorem cellsW_len {ds : List Way} (h : ∀ d ∈ ds, may d.l = true) : (cellsW ds).length ≤ ds.length * 640 := by
  induction ds with
  | nil => simp [cellsW]
  | cons d r ih =>
    rw [cellsW_cons, List.length_append, List.length_cons]
    have h1 := ih fun e he => h e (List.mem_cons_of_mem _ he)
    have h2 := encW_len (h d (List.mem_cons_self ..))
    omega
theorem packW_len {ds : List Way} (h : ∀ d ∈ ds, may d.l = true) : (packW ds).length ≤ ds.length * 640 + 9 := by
  have h1 := cellsW_len h
  have h2 := (numC_len ds.length).2
  unfold packW
  rw [List.length_append]
  omega
/-- a move put behind others -/
def mPutW (s : List UInt8 × Bool) (d : Way) : List UInt8 × Bool :=
  Ce.mPut (mPutI (Ce.mPut (Ce.mPut (Ce.mPut s (numC d.mv)) (numC d.fr)) (numC d.to_)) d.l) (numC (flN d.came))
theorem mPutW_short {s : List UInt8} {d : Way} (h : s.length + (encW d).length ≤ 262144) : mPutW (s, false) d = (s ++ encW d, false) := by
  unfold encW at h ⊢
  simp only [List.length_append] at h
  unfold mPutW
  rw [mPut_short (by omega), mPut_short (by simp only [List.length_append]; omega), mPut_short (by simp only [List.length_append]; omega), mPutI_short (by simp only [List.length_append]; omega), mPut_short (by simp only [List.length_append]; omega)]
  simp only [List.append_assoc]

/-- one move that is taken -/
def rdWay (st : Tst) : Way × Tst :=
  (⟨(tNum 1 1099511627776 st).1, (tNum 0 7 (tNum 1 1099511627776 st).2).1, (tNum 0 7 (tNum 0 7 (tNum 1 1099511627776 st).2).2).1, (readI (tNum 0 7 (tNum 0 7 (tNum 1 1099511627776 st).2).2).2).1, (tFlag (readI (tNum 0 7 (tNum 0 7 (tNum 1 1099511627776 st).2).2).2).2).1⟩,
    (tFlag (readI (tNum 0 7 (tNum 0 7 (tNum 1 1099511627776 st).2).2).2).2).2)
def badW (last : Int) (d : Way) : Bool := decide (d.mv ≤ last) || decide (d.fr = d.to_) || decide (d.l.length = 0)
def parseW : Nat → Int → List Way → Tst → Option (List Way)
  | 0, _, acc, st => if st = some [] then some acc else none
  | k + 1, last, acc, st => if badW last (rdWay st).1 then none else parseW k (rdWay st).1.mv (acc ++ [(rdWay st).1]) (rdWay st).2
def unpackW (b : List UInt8) : Option (List Way) := parseW (tNum 0 256 (some b)).1.toNat 0 [] (tNum 0 256 (some b)).2
theorem tFlag_none : tFlag none = (false, none) := rfl
theorem readI_nil : readI none = ([], none) := rfl
theorem rdWay_none : rdWay none = (⟨0, 0, 0, [], false⟩, none) := rfl
theorem parseW_none (k : Nat) (last : Int) (acc : List Way) (h : 0 ≤ last) : parseW k last acc none = none := by
  have _ := h
  cases k with
  | zero => rfl
  | succ k =>
    unfold parseW
    rw [rdWay_none, if_pos (by simp [badW])]
theorem flN_tFlag {st : Tst} {r : List UInt8} (h : (tFlag st).2 = some r) : st = some (numC (flN (tFlag st).1) ++ r) := by
  unfold tFlag at h ⊢
  cases hn : tNum 0 1 st with
  | mk n o =>
    rw [hn] at h
    dsimp only at h
    subst h
    obtain ⟨l, rfl, rfl, h3, h4⟩ := tNum_some hn
    have : flN (n == 1) = n := by
      unfold flN
      rcases (by omega : n = 0 ∨ n = 1) with rfl | rfl <;> rfl
    rw [this]
theorem tFlag_put (b : Bool) (r : List UInt8) : tFlag (some (numC (flN b) ++ r)) = (b, some r) := by
  unfold tFlag
  cases b
  · rw [show flN false = 0 from rfl, tNum_put r (by omega) (by omega) (by omega) (by omega)]; rfl
  · rw [show flN true = 1 from rfl, tNum_put r (by omega) (by omega) (by omega) (by omega)]; rfl
theorem rdWay_put {d : Way} (h : OkW d) (r : List UInt8) : rdWay (some (encW d ++ r)) = (d, some r) := by
  have e1 : tNum 1 1099511627776 (some (encW d ++ r)) = (d.mv, some (numC d.fr ++ (numC d.to_ ++ (Ce.encI d.l ++ (numC (flN d.came) ++ r))))) := by
    unfold encW
    simp only [List.append_assoc]
    have := h.mv
    exact tNum_put _ (by omega) (by omega) (by omega) (by omega)
  have e2 := tNum_put (least := 0) (most := 7) (n := d.fr) (numC d.to_ ++ (Ce.encI d.l ++ (numC (flN d.came) ++ r))) (by have := h.fr; omega) (by have := h.fr; omega) (by have := h.fr; omega) (by have := h.fr; omega)
  have e3 := tNum_put (least := 0) (most := 7) (n := d.to_) (Ce.encI d.l ++ (numC (flN d.came) ++ r)) (by have := h.to_; omega) (by have := h.to_; omega) (by have := h.to_; omega) (by have := h.to_; omega)
  unfold rdWay
  rw [e1]
  dsimp only
  rw [e2]
  dsimp only
  rw [e3]
  dsimp only
  rw [readI_put h.l]
  dsimp only
  rw [tFlag_put]
/-- what was not refused, and is not at fault behind it -/
theorem rdWay_ok {st : Tst} {last : Int} (h0 : 0 ≤ last) (h : badW last (rdWay st).1 = false) : OkW (rdWay st).1 := by
  unfold badW at h
  simp only [Bool.or_eq_false_iff, decide_eq_false_iff_not] at h
  obtain ⟨⟨h1, h2⟩, h3⟩ := h
  refine ⟨?_, ?_, ?_, h2, readI_may, fun e => h3 (by rw [e]; rfl)⟩
  · unfold rdWay at h1 ⊢
    dsimp only at h1 ⊢
    cases hn : tNum 1 1099511627776 st with
    | mk n o =>
      rw [hn] at h1
      dsimp only at h1 ⊢
      cases o with
      | none =>
        have := tNum_zero (least := 1) (most := 1099511627776) (s := st) (by rw [hn])
        rw [hn] at this
        dsimp only at this
        omega
      | some r => obtain ⟨_, _, _, h5, h6⟩ := tNum_some hn; exact ⟨h5, h6⟩
  · exact tNum_range (by omega) (by omega)
  · exact tNum_range (by omega) (by omega)
theorem tNum_some1 {least most : Int} {st : Tst} {r : List UInt8} (h : (tNum least most st).2 = some r) : st = some (numC (tNum least most st).1 ++ r) := by
  cases hn : tNum least most st with
  | mk n o =>
    rw [hn] at h
    dsimp only at h
    subst h
    obtain ⟨l, e1, e2, -⟩ := tNum_some hn
    rw [e1, e2]
theorem readI_took1 {st : Tst} {r : List UInt8} (h : (readI st).2 = some r) : st = some (Ce.encI (readI st).1 ++ r) := by
  cases st with
  | none => rw [readI_nil] at h; cases h
  | some b => exact congrArg some (readI_took h)
theorem rdWay_took {st : Tst} {r : List UInt8} (h : (rdWay st).2 = some r) : st = some (encW (rdWay st).1 ++ r) := by
  refine (tNum_some1 (tNum_some1 (tNum_some1 (readI_took1 (flN_tFlag h))))).trans ?_
  unfold encW rdWay
  simp only [List.append_assoc]
theorem parseW_put : ∀ (ds acc : List Way) (last : Int), (∀ d ∈ ds, OkW d) → ds.Pairwise (fun c d => c.mv < d.mv) → (∀ d ∈ ds, last < d.mv) → parseW ds.length last acc (some (cellsW ds)) = some (acc ++ ds)
  | [], acc, last, _, _, _ => by simp [parseW, cellsW]
  | d :: r, acc, last, h1, h2, h3 => by
    rw [List.pairwise_cons] at h2
    have hd := h1 d (List.mem_cons_self ..)
    rw [List.length_cons, cellsW_cons]
    unfold parseW
    rw [rdWay_put hd]
    dsimp only
    have hb : badW last d = false := by
      unfold badW
      have := h3 d (List.mem_cons_self ..)
      have hl : d.l.length ≠ 0 := fun e => hd.some (List.eq_nil_of_length_eq_zero e)
      have hne := hd.ne
      simp only [Bool.or_eq_false_iff, decide_eq_false_iff_not]
      exact ⟨⟨by omega, hne⟩, hl⟩
    rw [hb, if_neg (by simp), parseW_put r _ _ (fun e he => h1 e (List.mem_cons_of_mem _ he)) h2.2 (fun e he => h2.1 e he)]
    simp
theorem unpack_pack {ds : List Way} (h1 : ∀ d ∈ ds, OkW d) (h2 : ds.Pairwise (fun c d => c.mv < d.mv)) (h3 : ds.length ≤ 256) : unpackW (packW ds) = some ds := by
  unfold unpackW packW
  rw [tNum_put (cellsW ds) (by omega) (by omega) (by omega) (by omega)]
  dsimp only
  rw [Int.toNat_natCast, parseW_put ds [] 0 h1 h2 (fun d hd => by have := (h1 d hd).mv; omega)]
  rfl
theorem parseW_took : ∀ (k : Nat) (last : Int) (acc : List Way) (st : Tst) (ds : List Way), 0 ≤ last → parseW k last acc st = some ds → ∃ es, ds = acc ++ es ∧ es.length = k ∧ st = some (cellsW es)
  | 0, last, acc, st, ds, _, h => by
    unfold parseW at h
    split at h
    · rename_i hs
      cases h
      exact ⟨[], by simp, rfl, hs⟩
    · cases h
  | k + 1, last, acc, st, ds, h0, h => by
    unfold parseW at h
    cases hb : badW last (rdWay st).1 with
    | true => rw [hb, if_pos rfl] at h; cases h
    | false =>
      rw [hb, if_neg (by simp)] at h
      have hok := rdWay_ok h0 hb
      obtain ⟨es, e1, e2, e3⟩ := parseW_took k _ _ _ _ (by have := hok.mv; omega) h
      refine ⟨(rdWay st).1 :: es, by rw [e1]; simp, by simp [e2], ?_⟩
      rw [cellsW_cons]
      exact rdWay_took e3
theorem unpack_took {b : List UInt8} {ds : List Way} (h : unpackW b = some ds) : packW ds = b := by
  unfold unpackW at h
  obtain ⟨es, e1, e2, e3⟩ := parseW_took _ _ _ _ _ (by omega) h
  rw [List.nil_append] at e1
  subst e1
  have h1 := tNum_some1 e3
  have hr := tNum_range (least := 0) (most := 256) (s := some b) (by omega) (by omega)
  unfold packW
  rw [e2, Int.toNat_of_nonneg hr.1]
  exact (Option.some.inj h1).symm
end Mv
end Go.Proofs.YtdbkkldgobkjcaaGreat

namespace Go.Proofs.YtdbkkldgobkjcaaGreat
open Go.RowKit
namespace It
attribute [local go_sem] Oper.semAt_some

/-- the cells of Fr's blocks stay -/
structure KeepC (Fr : Nat → Prop) (A B : World) : Prop where
  size : A.heap.size ≤ B.heap.size
  same : ∀ b o, Fr b → A.heap[b]? = some o → o.isCells = true → B.heap[b]? = some o
section
variable {Fr : Nat → Prop} {A B C : World}
theorem KeepC.refl (Fr : Nat → Prop) (A : World) : KeepC Fr A A := ⟨Nat.le_refl _, fun _ _ _ h _ => h⟩
theorem KeepC.trans (h : KeepC Fr A B) (k : KeepC Fr B C) : KeepC Fr A C := ⟨Nat.le_trans h.size k.size, fun b o h1 h2 h3 => k.same b o h1 (h.same b o h1 h2 h3) h3⟩
theorem KeepC.putObj {W : World} {l : Nat} {o o' : Obj} (h : W.heap[l]? = some o) (hc : o.isCells = false) : KeepC Fr W (W.putObj l o') := by
  refine ⟨by simp, fun b u _ hb hu => ?_⟩
  by_cases e : b = l
  · subst e
    rw [h] at hb
    cases hb
    rw [hc] at hu
    cases hu
  · exact (World.putObj_heap_other e).trans hb
theorem KeepC.of_below {n : Nat} (h : Below n A B) (hF : ∀ i, Fr i → i < n) : KeepC Fr A B := ⟨h.size, fun b _ h1 h2 _ => (h.block b (hF b h1)).trans h2⟩
theorem KeepC.of_kept (h : Kept Fr A B) : KeepC Fr A B := ⟨h.size, fun b _ h1 h2 _ => (h.block b h1).trans h2⟩
theorem KeepC.of_grown {row : Option Nat} (h : A.grownBy B row) (hr : ∀ g, row = some g → ¬ Fr g) : KeepC Fr A B :=
  ⟨h.size, fun b _ h1 h2 _ => (h.block b (Array.getElem?_eq_some_iff.1 h2).1 (fun e => hr b e.symm h1)).trans h2⟩
theorem KeepC.cell {b j : Nat} {v : Value} (h : KeepC Fr A B) (hF : Fr b) (hc : A.cell? ⟨b, j, none⟩ = some v) : B.cell? ⟨b, j, none⟩ = some v := by
  have h2 := hc
  unfold World.cell? at h2
  split at h2
  · rename_i c t _ hb
    have := h.same b _ hF hb rfl
    exact (World.cell?_of_block (w := A) (w' := B) (a := ⟨b, j, none⟩) (this.trans hb.symm)).trans hc
  · cases h2
theorem KeepC.sl {lo hi size n : Nat} {v : Value} {xs : List Value} (h : KeepC Fr A B) (hs : Sl A lo hi size v n xs) (hx : ∀ i, lo ≤ i → i < hi → Fr i) : Sl B lo hi size v n xs := by
  refine ⟨hs.len, ?_⟩
  obtain ⟨A', c, e, h1, h2, h3⟩ := hs.at_
  refine ⟨A', c, e, h1, h2, fun hn => ?_⟩
  obtain ⟨b, o, ea, hl, hb, hc⟩ := h3 hn
  refine ⟨b, o, ea, hl, hb, fun j hj => ?_⟩
  have hj2 : j < xs.length := by rw [hs.len]; exact hj
  have e2 : xs[j]? = some xs[j] := List.getElem?_eq_getElem hj2
  rw [e2]
  exact h.cell (hx b hl hb) ((hc j hj).trans e2)
end

set_option maxRecDepth 100000 in
set_option maxHeartbeats 2000000 in
theorem all1_inK (F : Fence) (n : Nat) (hf : F.fn 117) (hro : F.round = none) (hn : 1 ≤ n) (l Bs lo hi c : Nat) (A : Option Addr) (L : List Item) (hc1 : L.length ≤ c) (hc2 : c ≤ maxLen) (J Jx : List (Of L) → World → Prop)
    (W : World) (Fr : Nat → Prop) (hFl : ∀ i, Fr i → i < W.heap.size) (hF : ∀ i, lo ≤ i → i < hi → Fr i) (hJ : AbidesFrom W.heap.size J)
    (hY : ∀ pre x W, J pre W → pre.length < L.length → YieldAt F (n - 1) Tryz.prog l (enc2 x) W fun e W' =>
      (e = .returned (.bool true) ∧ J (pre ++ [x]) W' ∧ KeepC Fr W W') ∨ (e = .returned (.bool false) ∧ Jx (pre ++ [x]) W'))
    (hBs : W.cell? ⟨Bs, 0, none⟩ = some (.slice A L.length c)) (hI : ItemsAt W lo hi (.slice A L.length c) L) (h0 : J [] W) :
    CallsIn F n Tryz.prog 117 #[.func (.yield l) #[] #[], .pointer (some ⟨Bs, 0, none⟩)] W fun e W' => (∃ v, e = .returned v) ∧
      ((∃ ys, ys = L.attach ∧ J ys W') ∨ (∃ pre, pre <+: L.attach ∧ Jx pre W')) := by
  unfold maxLen at hc2
  refine callsIn_of_wp Tryz.func117 rfl hf ?_ hro
  simp only [Tryz.ntmps117, List.size_toArray, List.length_cons, List.length_nil, Nat.reduceAdd, Nat.reduceSub, Array.replicate_succ, Array.replicate_zero, List.push_toArray, List.append_toArray, List.nil_append, List.cons_append]
  gi_wp2
  gi_loopw [4, 7] (fun _ i wr => ∃ k : Nat, k ≤ L.length ∧ i = .int .i64 k ∧ J (firsts L k) wr ∧ KeepC Fr W wr) (fun _ i _ => L.length - (intOf i).toNat)
  case atStart => exact ⟨0, by omega, rfl, h0, KeepC.refl _ _⟩
  case round =>
    obtain ⟨k, hk, rfl, hJs, hb⟩ := hrel
    by_cases hlt : k < L.length
    · obtain ⟨b, o, rfl, _, hbn, hs, hi⟩ := ItemsAt.cellAt (hb.sl hI hF) hlt
      have hsz := hb.size
      have hJ' : J (firsts L k) (wr.alloc (.cells #[.string L[k].1, .int .i64 L[k].2] 37)) := hJ _ _ _ none hJs (World.grownBy_alloc _ _ none) (fun r e => by cases e)
      have ha : KeepC Fr wr (wr.alloc (.cells #[.string L[k].1, .int .i64 L[k].2] 37)) := KeepC.of_below (n := wr.heap.size) ((Below.refl _ _).alloc (Nat.le_refl _) _) (fun i hi => by have := hFl i hi; omega)
      have HKA := Lib.hid (hb.trans ha)
      clear ha hb
      obtain ⟨fn, tmps, assign, body, hy, hR⟩ := hY _ ⟨L[k], List.getElem_mem hlt⟩ _ hJ' (by rw [firsts_length _ _ hk]; exact hlt)
      dsimp only [enc2] at hy
      gi_wp2
      refine hR.mono ?_
      rintro e W3 (⟨rfl, hJ3, hk3⟩ | ⟨rfl, hJx3⟩)
      · gi_wp2
        go_roundw
        case rel => exact ⟨k + 1, by omega, by go_num, by rw [firsts_succ L k hlt]; exact hJ3, HKA.out.trans hk3⟩
        case measure => simp [intOf]; omega
      · gi_wp2
        refine bodyPost_ret (results_none rfl _ _ _) rfl ?_
        exact ⟨⟨_, rfl⟩, .inr ⟨_, by rw [← firsts_succ L k hlt]; exact List.take_prefix _ _, hJx3⟩⟩
    · obtain rfl : k = L.length := by omega
      gi_wp2
      go_end0
      exact ⟨⟨_, rfl⟩, .inl ⟨_, rfl, by rw [← firsts_all]; exact hJs⟩⟩

/-- how the body of a round may be left -/
def rpostK {α : Type} (B : Nat) (Fr : Nat → Prop) (C : List α → World → Prop) (Cx : Code → List α → World → Prop) (xs : List α) (W : World) : Exit → Act → World → Prop
  | .normal, _, W' => KeepsFrom B W W' ∧ KeepC Fr W W' ∧ C xs W'
  | .ret, _, W' => KeepsFrom B W W' ∧ Cx .ret xs W'
  | .exit id, _, W' => KeepsFrom B W W' ∧ Cx (.exit id) xs W'
  | .goto t, _, W' => KeepsFrom B W W' ∧ Cx (.goto t) xs W'
  | .panic _, _, _ => False
  | .outgrown, _, _ => False

/-- 'for good, n := range items.All(l) { .. }': the cells of the list stay -/
theorem range_allK {F : Fence} {n : Nat} {g : Operand} {ps : Array Tmp} {assign body : Code} {Q : Exit → Act → World → Prop} {a : Act} {w : World}
    (hro : F.round = none) (hf : F.fn 117) (hn : 2 ≤ n) {Bs lo hi : Nat} {v : Value} {L : List Item} (hg : a.eval g = .func (.func 117) #[] #[.pointer (some ⟨Bs, 0, none⟩)]) (hps : ps.size = 2)
    (Fr : Nat → Prop) (hFl : ∀ i, Fr i → i < w.heap.size) (hF : ∀ i, lo ≤ i → i < hi → Fr i) (hBs : Bs < w.heap.size) (hc : w.cell? ⟨Bs, 0, none⟩ = some v) (hI : ItemsAt w lo hi v L) (hhi : hi ≤ w.heap.size)
    (C : List (Of L) → World → Prop) (Cx : Code → List (Of L) → World → Prop) (hC : OwnFrom w.heap.size C) (hCx : ∀ c, OwnFrom w.heap.size (Cx c)) (h0 : C [] w) (a₁ : Of L → Act)
    (hassign : ∀ (l : Nat) (x : Of L) (W : World) (K : Act → World → Prop), K (a₁ x) W →
      assign.wpIn (F.inRound l) (n - 1 - 1) Tryz.prog (Exit.then K (fun _ _ _ => False)) { tmps := (ps.zip (enc2 x)).foldl (fun t (p, v) => t.setIfInBounds p v) a.tmps, defers := [] } W)
    (hbody : ∀ (l : Nat) (pre : List (Of L)) (x : Of L) (W : World), C pre W → pre.length < L.length → body.wpIn (F.inRound l) (n - 1 - 1) Tryz.prog (rpostK w.heap.size Fr C Cx (pre ++ [x]) W) (a₁ x) W)
    (hdone : ∀ (D : Nat) (W : World), w.heap.size ≤ D → C L.attach W → W.heap[D]? = some (.deferred (some [])) → Q .normal { a with defers := { target := .collected D, args := #[] } :: a.defers } W)
    (hstop : ∀ (D : Nat) (c : Code) (pre : List (Of L)) (W : World), w.heap.size ≤ D → pre <+: L.attach → Cx c pre W → W.heap[D]? = some (.deferred (some [])) → c.wpIn F n Tryz.prog Q { a with defers := { target := .collected D, args := #[] } :: a.defers } W) :
    (Code.rangeFunc g ps assign body).wpIn F n Tryz.prog Q a w := by
  have hst : SeqStopsK F (n - 1) Tryz.prog 117 #[.pointer (some ⟨Bs, 0, none⟩)] (enc2 (l := L)) (KeepC Fr) (fun ys => ys = L.attach) (fun pre => pre <+: L.attach) L.length w := fun l J Jx W hW hJ _ hY h0 => by
    obtain ⟨A, c, rfl, h1, h2⟩ := hI.form
    exact all1_inK F (n - 1) hf hro (by omega) l Bs lo hi c A L h1 h2 J Jx W Fr (fun i hi => Nat.lt_of_lt_of_le (hFl i hi) hW.size) hF hJ hY ((hW.cell (p := ⟨Bs, 0, none⟩) hBs).trans hc) (hI.keep fun b _ _ hb => World.cell?_of_block (hW.block b (by omega))) h0
  exact wpIn_rangeFunc_ownG hro (by omega) hg hf (enters_of Tryz.func117 (by kernel_rfl) rfl)
    hst (fun h k => h.trans k) (fun W l o o' _ h hcl _ => KeepC.putObj h hcl) (Below.refl _ _) (fun _ => hps.symm)
    C Cx hC hCx h0 a₁ hassign
    (fun l pre x W hc hl => wpIn_mono (hbody l pre x W hc hl) (fun e a' W' h => by
      cases e with
      | normal => exact h
      | ret => exact h
      | exit id => exact h
      | goto t => exact h
      | panic ch => exact h.elim
      | outgrown => exact h.elim))
    (fun D xs W hD hS hc hK => by subst hS; exact hdone D W hD hc hK)
    (fun D c pre W hD hp hc hK => hstop D c pre W hD hp hc hK)
end It
end Go.Proofs.YtdbkkldgobkjcaaGreat

namespace Go.Proofs.YtdbkkldgobkjcaaGreat
open Go.RowKit
namespace It
open Ce
attribute [local go_sem] Oper.semAt_some

theorem _root_.Go.Proofs.YtdbkkldgobkjcaaGreat.Ce.Mk.wide {w : World} {bm : Nat} {Fr : Nat → Prop} {s : List UInt8 × Bool} (h : Mk w bm Fr s) :
    ∃ Fr', (∀ i, Fr i → Fr' i) ∧ (∀ i o, w.heap[i]? = some o → o.isCells = false → Fr' i) ∧ Mk w bm Fr' s := by
  obtain ⟨h1, h2, h3, v, hO, hR, hG⟩ := h
  refine ⟨fun i => i < w.heap.size ∧ i ≠ bm ∧ v.ownBlock ≠ some i, fun i hi => ⟨h3 i hi, fun e => h2 (e ▸ hi), fun e => hG i e hi⟩, fun i o ho hc => ⟨(Array.getElem?_eq_some_iff.1 ho).1, fun e => ?_, fun e => ?_⟩, h1, fun h => h.2.1 rfl, fun i hi => hi.1, v, hO, hR, fun g hg h => h.2.2 hg⟩
  · subst e
    rw [show w.heap[i]? = _ from hO] at ho
    cases ho
    cases hc
  · rcases hR.2 with ⟨rfl, _⟩ | ⟨g, cap, cur, rfl, _, hgb, _⟩
    · cases e
    · obtain rfl : g = i := by simpa [Value.ownBlock] using e
      rw [hgb] at ho
      cases ho
      cases hc
theorem _root_.Go.Proofs.YtdbkkldgobkjcaaGreat.Ce.Mk.narrow {w : World} {bm : Nat} {Fr Fr' : Nat → Prop} {s : List UInt8 × Bool} (h : Mk w bm Fr s) (hF : ∀ i, Fr' i → Fr i) : Mk w bm Fr' s := by
  obtain ⟨h1, h2, h3, v, hO, hR, hG⟩ := h
  exact ⟨h1, fun h => h2 (hF _ h), fun i hi => h3 i (hF i hi), v, hO, hR, fun g hg h => hG g hg (hF _ h)⟩
theorem _root_.Go.Proofs.YtdbkkldgobkjcaaGreat.Ce.Mk.keep {A B : World} {row : Option Nat} {bm : Nat} {Fr : Nat → Prop} {s : List UInt8 × Bool} (h : Mk A bm Fr s) (hg : A.grownBy B row) (hr : ∀ r, row = some r → ∃ o : Obj, A.heap[r]? = some o ∧ o.isCells = false) : Mk B bm Fr s := by
  obtain ⟨h1, h2, h3, v, hO, hR, hG⟩ := h
  refine ⟨h1, h2, fun i hi => Nat.lt_of_lt_of_le (h3 i hi) hg.size, v, hO.kept hg (fun e => ?_), row_keep hR hg hr, hG⟩
  obtain ⟨o, ho, hc⟩ := hr bm e.symm
  rw [show A.heap[bm]? = _ from hO] at ho
  cases ho
  cases hc
theorem keeps_kept {A B : World} {n : Nat} {Fr : Nat → Prop} (h : Kept Fr A B) (hF : ∀ i o, A.heap[i]? = some o → o.isCells = false → Fr i) : KeepsFrom n A B :=
  ⟨h.size, fun k o _ hk hc => (h.block k (hF k o hk hc)).trans hk⟩
theorem kept_boxed {A B : World} {Fr : Nat → Prop} {b : Nat} {t : TypeId} {v : Value} (h : Kept Fr A B) (hb : Boxed A b t v) (hF : Fr b) : Boxed B b t v := (h.block b hF).trans hb

def codeI (L : List Item) : List UInt8 := if may L then Ce.encI L else []
/-- the cells so far -/
def encTo {L : List Item} (pre : List (Of L)) : List UInt8 := numC L.length ++ cellsI (vals pre)

end It
end Go.Proofs.YtdbkkldgobkjcaaGreat

namespace Go.Proofs.YtdbkkldgobkjcaaGreat
open Go.RowKit
namespace It
open Ce
attribute [local go_sem] Oper.semAt_some

theorem _root_.Go.Proofs.YtdbkkldgobkjcaaGreat.Ce.Mk.wrote {w w' : World} {bm b : Nat} {Fr : Nat → Prop} {s : List UInt8 × Bool} (h : Mk w bm Fr s) (hg : w.grownBy w' (some b)) (hb : Fr b) : Mk w' bm Fr s := by
  obtain ⟨h1, h2, h3, v, hO, hR, hG⟩ := h
  exact ⟨h1, h2, fun i hi => Nat.lt_of_lt_of_le (h3 i hi) hg.size, v, hO.kept hg (fun e => h2 (by cases e; exact hb)), hR.kept hg (.inr fun e => hG b e hb), hG⟩
theorem ob_keepC {A B : World} {row : Option Nat} {b : Nat} {t : TypeId} {cs : Array Value} (h : Ob A b t cs) (hg : A.grownBy B row) (hr : ∀ r, row = some r → ∃ o : Obj, A.heap[r]? = some o ∧ o.isCells = false) : Ob B b t cs :=
  h.kept hg fun e => by
    obtain ⟨o, h1, h2⟩ := hr b e.symm
    rw [show A.heap[b]? = _ from h] at h1
    cases h1
    cases h2

set_option maxRecDepth 100000 in
set_option maxHeartbeats 4000000 in
theorem iput_calls (L : List Item) (v : Value) (bm lo hi : Nat) (Fr : Nat → Prop) (s : List UInt8 × Bool) (w : World) (hM : Mk w bm Fr s) (hI : ItemsAt w lo hi v L) (hhi : hi ≤ w.heap.size) (hFI : ∀ i, lo ≤ i → i < hi → Fr i) (hF : Fits L) (hm : may L = true) :
    Calls Tryz.prog 65 #[.pointer (some ⟨bm, 0, none⟩), v] w fun e w' => e = .returned (.pointer (some ⟨bm, 0, none⟩)) ∧ Mk w' bm Fr (mPutI s L) ∧ Kept Fr w w' := by
  obtain ⟨A, c, rfl, hc1, hc2⟩ := hI.form
  unfold maxLen at hc2
  have HFl := Lib.hid hM.2.2.1
  have h16 := may_len hm
  have HSm := Lib.hid (fun x (hx : x ∈ L) => (good_size ((may_iff L).1 hm |>.ok x hx).1).2)
  refine (callsIn_wide (n := 6)).1 ?_
  refine callsIn_of_wp_marks Tryz.func65 rfl trivial ?_ rfl
  simp only [Tryz.ntmps65, List.size_toArray, List.length_cons, List.length_nil, Nat.reduceAdd, Nat.reduceSub, Array.replicate_succ, Array.replicate_zero, List.push_toArray, List.append_toArray, List.nil_append, List.cons_append]
  have hb1 := (Below.refl w.heap.size w).alloc (Nat.le_refl _) (.cells #[.pointer (some ⟨bm, 0, none⟩)] 112)
  have hO1 := Ob.new w 112 #[.pointer (some ⟨bm, 0, none⟩)]
  have hM1 : Mk (w.alloc (.cells #[.pointer (some ⟨bm, 0, none⟩)] 112)) bm (fun i => Fr i ∨ i = w.heap.size) s := hM.later hb1 fun i hi => ⟨hi.elim .inl (fun e => .inr (by omega)), by rw [World.size_alloc]; rcases hi with h | h; exact Nat.lt_succ_of_lt (hM.2.2.1 i h); omega⟩
  have hI1 := hI.keep fun b _ _ hb => World.cell?_of_block (hb1.block b (by omega))
  have cN := Lib.hid (mnum_calls L.length bm _ s _ hM1 (by omega) (by omega))
  generalize hs1 : Ce.mPut s (numC L.length) = s1 at *
  have HE := Lib.hid (show mPutI s L = mPuts s1 L by rw [← hs1]; rfl)
  clear hs1 hM hI hb1
  have hsz1 : (w.alloc (.cells #[.pointer (some ⟨bm, 0, none⟩)] 112)).heap.size = w.heap.size + 1 := by simp
  have q0 := hO1.cell (j := 0) rfl
  gi_wp2_with (first
    | (refine ⟨trivial, ?_⟩; gi_at_call 64; refine (callsIn_wide.2 cN.out).mono ?_; rintro e W2 ⟨rfl, hM2, hK2⟩; have hO2 := hK2.ob hO1 (.inr rfl); have q2 := hO2.frozen 0; have q3 := hO2.cell (j := 0) (v := .pointer (some ⟨bm, 0, none⟩)) rfl)
    | (refine ⟨trivial, ?_⟩; gi_at_call 86; refine (callsIn_wide.2 (all_calls A _ c _)).mono ?_; rintro e w' ⟨rfl, rfl⟩))
  clear cN hM1
  have hM3 := hM2.wrote (grownBy_set W2 w.heap.size 0 (.pointer (some ⟨bm, 0, none⟩))) (.inr rfl)
  have hO3 := hO2.set 0 (.pointer (some ⟨bm, 0, none⟩))
  have hg3 := grownBy_set W2 w.heap.size 0 (.pointer (some ⟨bm, 0, none⟩))
  have hw1 := hK2.size
  rw [hsz1] at hw1
  have hz3 : (W2.setCell ⟨w.heap.size, 0, none⟩ (.pointer (some ⟨bm, 0, none⟩))).heap.size = W2.heap.size := by simp
  have hz4 : ((W2.setCell ⟨w.heap.size, 0, none⟩ (.pointer (some ⟨bm, 0, none⟩))).alloc (.cells #[.slice A L.length c] 30)).heap.size = W2.heap.size + 1 := by simp
  have hM4 := hM3.alloc (.cells #[.slice A L.length c] 30)
  have hO4 : Ob ((W2.setCell ⟨w.heap.size, 0, none⟩ (.pointer (some ⟨bm, 0, none⟩))).alloc (.cells #[.slice A L.length c] 30)) w.heap.size 112 #[.pointer (some ⟨bm, 0, none⟩)] := hO3.alloc (.cells #[.slice A L.length c] 30)
  have hc4 : ((W2.setCell ⟨w.heap.size, 0, none⟩ (.pointer (some ⟨bm, 0, none⟩))).alloc (.cells #[.slice A L.length c] 30)).cell? ⟨W2.heap.size, 0, none⟩ = some (.slice A L.length c) := by
    have := (Ob.new (W2.setCell ⟨w.heap.size, 0, none⟩ (.pointer (some ⟨bm, 0, none⟩))) 30 #[.slice A L.length c]).cell (j := 0) rfl
    rwa [hz3] at this
  have hI4 : ItemsAt ((W2.setCell ⟨w.heap.size, 0, none⟩ (.pointer (some ⟨bm, 0, none⟩))).alloc (.cells #[.slice A L.length c] 30)) lo hi (.slice A L.length c) L :=
    Sl.grown (Sl.grown (hK2.sl hI1 (fun i a b => .inl (hFI i a b))) hg3 (by omega) (fun k e => .inr (by cases e; exact hhi))) (World.grownBy_alloc _ _ none) (by omega) (by simp)
  have hK4 : Kept Fr w ((W2.setCell ⟨w.heap.size, 0, none⟩ (.pointer (some ⟨bm, 0, none⟩))).alloc (.cells #[.slice A L.length c] 30)) :=
    (((Kept.of_grown (World.grownBy_alloc w _ none) (fun i hi => ⟨HFl.out i hi, by simp⟩)).trans (hK2.mono fun i hi => .inl hi)).trans (Kept.of_grown hg3 (fun i hi => ⟨by have := HFl.out i hi; omega, fun e => by have := HFl.out i hi; cases e; omega⟩))).trans (Kept.of_grown (World.grownBy_alloc _ _ none) (fun i hi => ⟨by have := HFl.out i hi; omega, by simp⟩))
  clear hM2 hK2 hO2 q2 q3 hM3 hO3 hg3 hI1 hO1 q0 hsz1 hz3
  generalize ((W2.setCell ⟨w.heap.size, 0, none⟩ (.pointer (some ⟨bm, 0, none⟩))).alloc (.cells #[.slice A L.length c] 30)) = W4 at *
  refine range_allK (n := 6) rfl trivial (by omega) (Bs := W2.heap.size) (lo := lo) (hi := hi) (v := .slice A L.length c) (L := L) rfl rfl Fr (fun i hi => by have := HFl.out i hi; omega) hFI (by omega) hc4 hI4 (by omega)
    (fun pre W => Ob W w.heap.size 112 #[.pointer (some ⟨bm, 0, none⟩)] ∧ Mk W bm (fun i => Fr i ∨ i = w.heap.size) (mPuts s1 (vals pre)) ∧ Kept Fr w W)
    (fun _ _ _ => False)
    (fun s A B row hs hg hr => ⟨ob_keepC hs.1 hg (fun r e => (hr r e).2), hs.2.1.keep hg (fun r e => (hr r e).2), hs.2.2.trans (Kept.of_grown hg (fun i hi => ⟨by have := HFl.out i hi; have := hs.2.2.size; omega, fun e => by have := (hr i e.symm).1; have := HFl.out i hi; omega⟩))⟩)
    (fun c s A B row hs hg hr => hs.elim)
    ⟨hO4, hM4, hK4⟩
    (fun x => { tmps := #[.pointer (some ⟨bm, 0, none⟩), .slice A L.length c, .pointer (some ⟨w.heap.size, 0, none⟩), undef, .pointer none, .string x.1.1, .int .i64 x.1.2, .pointer (some ⟨bm, 0, none⟩), .slice A L.length c, .int .i64 L.length, .pointer (some ⟨bm, 0, none⟩), .slice A L.length c, .func (.func 117) #[] #[.pointer (some ⟨W2.heap.size, 0, none⟩)], .string x.1.1, .int .i64 x.1.2, undef, undef, undef, undef, undef, undef], defers := [] }) ?assign ?body ?done ?stop
  case assign =>
    intro l x W K hK
    dsimp only [enc2]
    gi_wp2
    exact hK
  case body =>
    rintro l pre ⟨⟨xs, xn⟩, hx⟩ W ⟨hO, hM, hK⟩ hlen
    have hfit := hF _ hx
    have hxs := HSm.out _ hx
    obtain ⟨Fr', hF1, hF2, hMw⟩ := hM.wide
    have hc0 := hO.cell (j := 0) (v := .pointer (some ⟨bm, 0, none⟩)) rfl
    dsimp only at hfit hxs ⊢
    have HP := Lib.hid (show mPuts s1 (vals (pre ++ [⟨(xs, xn), hx⟩])) = Ce.mPut (Ce.mPut (mPuts s1 (vals pre)) (numC xs.size ++ xs.data.toList)) (numC xn) by rw [vals_snoc, mPuts_snoc])
    generalize mPuts s1 (vals pre) = sp at *
    have cT := Lib.hid (mtext_calls xs bm Fr' sp W hMw (by omega))
    have cN2 := Lib.hid (fun W5 h => mnum_calls xn bm Fr' (Ce.mPut sp (numC xs.size ++ xs.data.toList)) W5 h hfit.2.1 hfit.2.2)
    have HO := Lib.hid hO
    have HK := Lib.hid hK
    clear hM hMw hO hK
    generalize Ce.mPut sp (numC xs.size ++ xs.data.toList) = sq at *
    gi_wp2_with (first
      | (refine ⟨trivial, ?_⟩; gi_at_call 101; refine (CallsIn.inRound l (callsIn_wide.2 cT.out)).mono ?_; rintro e W5 ⟨rfl, hM5, hK5⟩)
      | (refine ⟨trivial, ?_⟩; gi_at_call 64; refine (CallsIn.inRound l (callsIn_wide.2 (cN2.out W5 hM5))).mono ?_; rintro e W6 ⟨rfl, hM6, hK6⟩; have q6 := ((hK5.trans hK6).ob HO.out (hF1 _ (.inr rfl))).frozen 0; have q7 := ((hK5.trans hK6).ob HO.out (hF1 _ (.inr rfl))).cell (j := 0) (v := .pointer (some ⟨bm, 0, none⟩)) rfl))
    have hKK := hK5.trans hK6
    have hg6 := grownBy_set W6 w.heap.size 0 (.pointer (some ⟨bm, 0, none⟩))
    have hsz : w.heap.size ≤ W.heap.size := HK.out.size
    have hw6 := hKK.size
    refine ⟨keeps_set (keeps_kept hKK hF2) _ _, (KeepC.of_kept (hKK.mono fun i hi => hF1 i (.inl hi))).trans (KeepC.of_grown hg6 (fun g e hg => by cases e; have := HFl.out _ hg; omega)), (hKK.ob HO.out (hF1 _ (.inr rfl))).set 0 _, ?_, ?_⟩
    · rw [HP.out]; exact (hM6.narrow hF1).wrote hg6 (.inr rfl)
    · exact (HK.out.trans (hKK.mono fun i hi => hF1 i (.inl hi))).trans (Kept.of_grown hg6 (fun i hi => ⟨by have := HFl.out i hi; omega, fun e => by have := HFl.out i hi; cases e; omega⟩))
  case done =>
    rintro D W hD ⟨hO, hM, hK⟩ hKD
    have hE : mPuts s1 (vals L.attach) = mPutI s L := by rw [vals_all, HE.out]
    rw [hE] at hM
    clear hE
    have hc0 := hO.cell (j := 0) (v := .pointer (some ⟨bm, 0, none⟩)) rfl
    gi_wp2
    refine ⟨by simp, .inl ⟨_, _, rfl, run_takeDeferred hKD, ?_⟩⟩
    have hgD := grownBy_putObj' W D (.deferred none)
    refine ⟨.pointer (some ⟨bm, 0, none⟩), ?_, rfl, (hM.keep hgD (fun r e => by cases e; exact ⟨_, hKD, rfl⟩)).narrow (fun i hi => .inl hi), hK.trans (Kept.of_grown hgD (fun i hi => ⟨by have := HFl.out i hi; have := hK.size; omega, fun e => by have := HFl.out i hi; cases e; omega⟩))⟩
    simp [results, Tryz.f65, go_sem]
  case stop =>
    rintro D c pre W hD hpre h
    exact h.elim
end It
end Go.Proofs.YtdbkkldgobkjcaaGreat

namespace Go.Proofs.YtdbkkldgobkjcaaGreat
open Go.RowKit Go.Maps
namespace Mv
open It

theorem _root_.Go.Proofs.YtdbkkldgobkjcaaGreat.Ob.five {w : World} {b : Nat} {t : TypeId} {x0 x1 x2 x3 x4 : Value} (h : Ob w b t #[x0, x1, x2, x3, x4]) :
    w.cell? ⟨b, 0, none⟩ = some x0 ∧ w.cell? ⟨b, 1, none⟩ = some x1 ∧ w.cell? ⟨b, 2, none⟩ = some x2 ∧ w.cell? ⟨b, 3, none⟩ = some x3 ∧ w.cell? ⟨b, 4, none⟩ = some x4 :=
  ⟨h.cell (j := 0) rfl, h.cell (j := 1) rfl, h.cell (j := 2) rfl, h.cell (j := 3) rfl, h.cell (j := 4) rfl⟩
theorem _root_.Go.Proofs.YtdbkkldgobkjcaaGreat.Ob.free5 {w : World} {b : Nat} {t : TypeId} {cs : Array Value} (h : Ob w b t cs) :
    w.frozen? ⟨b, 0, none⟩ = false ∧ w.frozen? ⟨b, 1, none⟩ = false ∧ w.frozen? ⟨b, 2, none⟩ = false ∧ w.frozen? ⟨b, 3, none⟩ = false ∧ w.frozen? ⟨b, 4, none⟩ = false :=
  ⟨h.frozen 0, h.frozen 1, h.frozen 2, h.frozen 3, h.frozen 4⟩
theorem _root_.Go.Proofs.YtdbkkldgobkjcaaGreat.Ob.set5 {w : World} {b : Nat} {t : TypeId} {y0 y1 y2 y3 y4 : Value} (h : Ob w b t #[y0, y1, y2, y3, y4]) (x0 x1 x2 x3 x4 : Value) :
    Ob (((((w.setCell ⟨b, 0, none⟩ x0).setCell ⟨b, 1, none⟩ x1).setCell ⟨b, 2, none⟩ x2).setCell ⟨b, 3, none⟩ x3).setCell ⟨b, 4, none⟩ x4) b t #[x0, x1, x2, x3, x4] :=
  ((((h.set 0 x0).set 1 x1).set 2 x2).set 3 x3).set 4 x4
theorem _root_.Go.Proofs.YtdbkkldgobkjcaaGreat.grown_set5 (w : World) (b : Nat) (x0 x1 x2 x3 x4 : Value) :
    w.grownBy (((((w.setCell ⟨b, 0, none⟩ x0).setCell ⟨b, 1, none⟩ x1).setCell ⟨b, 2, none⟩ x2).setCell ⟨b, 3, none⟩ x3).setCell ⟨b, 4, none⟩ x4) (some b) :=
  ((((grownBy_set w b 0 x0).trans (grownBy_set _ b 1 x1)).trans (grownBy_set _ b 2 x2)).trans (grownBy_set _ b 3 x3)).trans (grownBy_set _ b 4 x4)
theorem _root_.Go.Proofs.YtdbkkldgobkjcaaGreat.ownsRow_far {w w' : World} {lo b : Nat} {e : TypeId} {size n : Nat} {v : Value} {xs : List Value} (h : w.ownsRow lo e size v n xs) (hg : w.grownBy w' (some b)) (hb : b < lo) : w'.ownsRow lo e size v n xs := by
  refine h.kept hg ?_
  cases hv : v.ownBlock with
  | none => simp
  | some g => have := (h.lt g hv).1; exact .inr (by simp; omega)
theorem findW_mem {ds : List Way} {k : Int} {d : Way} (h : findW ds k = some d) : d ∈ ds ∧ d.mv = k := by
  unfold findW at h
  exact ⟨List.mem_of_find?_eq_some h, by simpa using List.find?_some h⟩

set_option maxRecDepth 100000 in
set_option maxHeartbeats 4000000 in
theorem move_calls (k : Int) (b mb : Nat) (X : Nat → Prop) (ds : List Way) (w : World) (h : MvAt w b mb X ds) (h0 : -9223372036854775808 ≤ k) (h1 : k ≤ 9223372036854775807) :
    Calls Tryz.prog 62 #[.pointer (some ⟨b, 0, none⟩), .int .i64 k] w fun e w' =>
      (∃ v, e = .returned (.tuple #[wayV ((findW ds k).getD way0) v, .bool (findW ds k).isSome]) ∧ w'.ownsRow w.heap.size 37 2 v ((findW ds k).getD way0).l.length (itemCells ((findW ds k).getD way0).l)) ∧ Below w.heap.size w w' := by
  obtain ⟨m, hm, hR⟩ := h.map
  have g0 : w.cell? ⟨b, 0, none⟩ = some (.map (some mb)) := h.ob.cell (j := 0) rfl
  have hmb := hm.lt
  have hbl := h.ob.lt
  have hkey := Lib.hid (keyI h0 h1)
  -- the world behind the first variable's block
  have hal := (Below.refl w.heap.size w).alloc (Nat.le_refl _) (.cells #[.int .i64 0, .int .i64 0, .int .i64 0, .slice none 0 0, .bool false] 108)
  have hm1 := Lib.hid (hm.below hal hmb)
  have cM := Lib.hid (made_calls b mb _ ((hal.cell (p := ⟨b, 0, none⟩) hbl).trans g0))
  have hval : ∃ d v, (findW ds k).getD way0 = d ∧ (mGet m k).getD (wayV way0 (.slice none 0 0)) = wayV d v ∧ ItemsAt w 0 w.heap.size v d.l ∧ (mGet m k).isSome = (findW ds k).isSome ∧ d.l.length ≤ 1000000 := by
    cases hf : findW ds k with
    | none => exact ⟨way0, _, rfl, by rw [hR.none hf]; rfl, ItemsAt.nil _ _ _, by rw [hR.none hf]; rfl, by simp [way0]⟩
    | some d =>
      obtain ⟨val, hg, hw⟩ := hR.some hf
      obtain ⟨v, rfl, hI⟩ := hw.items
      have := may_len (h.ok d (findW_mem hf).1).l
      exact ⟨d, v, rfl, by rw [hg]; rfl, hI, by rw [hg]; rfl, by omega⟩
  obtain ⟨d, v, hd, hg, hI, hs, hlen⟩ := hval
  rw [hd]
  obtain ⟨mv, fr, to_, l, came⟩ := d
  dsimp only at hI hlen
  have HG := Lib.hid (show (mGet m k).getD (wayV way0 (.slice none 0 0)) = .agg #[.int .i64 mv, .int .i64 fr, .int .i64 to_, v, .bool came] from hg)
  have HS := Lib.hid hs
  generalize (findW ds k).isSome = kn at *
  clear hd hg hs hm hR h
  obtain ⟨A, c, rfl, -⟩ := hI.form
  go_enter Tryz.func62, Tryz.ntmps62
  go_wp2_with (first
    | (go_at_call 58; refine cM.out.mono ?_; rintro e W ⟨rfl, rfl⟩)
    | (at_lookup; refine wpList_look_ok_g rfl (.tmp 16) (.tmp 17) _ rfl 3 _ keyedI Tryz.underlying100 rfl hm1.out (zeroW _) _ _ rfl hkey.out _ _ HG.out HS.out ?_))
  have hO4 : Ob ((w.alloc (.cells #[.int .i64 0, .int .i64 0, .int .i64 0, .slice none 0 0, .bool false] 108)).alloc (.cells #[.int .i64 mv, .int .i64 fr, .int .i64 to_, .slice A l.length c, .bool came] 108)) w.heap.size 108 #[.int .i64 0, .int .i64 0, .int .i64 0, .slice none 0 0, .bool false] := (Ob.new w _ _).alloc _
  have hO6 : Ob ((w.alloc (.cells #[.int .i64 0, .int .i64 0, .int .i64 0, .slice none 0 0, .bool false] 108)).alloc (.cells #[.int .i64 mv, .int .i64 fr, .int .i64 to_, .slice A l.length c, .bool came] 108)) (w.heap.size + 1) 108 #[.int .i64 mv, .int .i64 fr, .int .i64 to_, .slice A l.length c, .bool came] := by
    have := Ob.new (w.alloc (.cells #[.int .i64 0, .int .i64 0, .int .i64 0, .slice none 0 0, .bool false] 108)) 108 #[.int .i64 mv, .int .i64 fr, .int .i64 to_, .slice A l.length c, .bool came]
    rwa [World.size_alloc] at this
  have hB0 : Below w.heap.size w ((w.alloc (.cells #[.int .i64 0, .int .i64 0, .int .i64 0, .slice none 0 0, .bool false] 108)).alloc (.cells #[.int .i64 mv, .int .i64 fr, .int .i64 to_, .slice A l.length c, .bool came] 108)) := hal.alloc (by simp) _
  generalize (w.alloc (.cells #[.int .i64 0, .int .i64 0, .int .i64 0, .slice none 0 0, .bool false] 108)).alloc (.cells #[.int .i64 mv, .int .i64 fr, .int .i64 to_, .slice A l.length c, .bool came] 108) = W0 at *
  refine (clonei_calls l _ W0 (hI.mono hB0 hB0.size) hlen).mono ?_
  rintro e W1 ⟨⟨cv, rfl, hcv⟩, hb1⟩
  have hO41 := hO4.same hb1
  obtain ⟨c40, c41, c42, c43, c44⟩ := hO41.five
  obtain ⟨f40, f41, f42, f43, f44⟩ := (hO4.same hb1).free5
  obtain ⟨c60, c61, c62, c63, c64⟩ := (hO6.same hb1).five
  obtain ⟨f60, f61, f62, f63, f64⟩ := (hO6.same hb1).free5
  have hs0 := hB0.size
  have hlt6 := hO6.lt
  have HCV := Lib.hid hcv
  obtain ⟨Ac, cc, rfl, -⟩ := (ItemsAt.of_own hcv).form
  have hB1 := hB0.trans (hb1.mono hB0.size)
  clear hcv hO4 hO6 hal hm1 cM HG hI
  go_wp2
  have hg1 := grownBy_set W1 (w.heap.size + 1) 3 (.slice Ac l.length cc)
  have hO5 := (hO41.kept hg1 (fun e => by have := Option.some.inj e; omega)).set5 (.int .i64 mv) (.int .i64 fr) (.int .i64 to_) (.slice Ac l.length cc) (.bool came)
  have hg2 := grown_set5 (W1.setCell ⟨w.heap.size + 1, 3, none⟩ (.slice Ac l.length cc)) w.heap.size (.int .i64 mv) (.int .i64 fr) (.int .i64 to_) (.slice Ac l.length cc) (.bool came)
  generalize (((((W1.setCell ⟨w.heap.size + 1, 3, none⟩ (.slice Ac l.length cc)).setCell ⟨w.heap.size, 0, none⟩ (.int .i64 mv)).setCell ⟨w.heap.size, 1, none⟩ (.int .i64 fr)).setCell ⟨w.heap.size, 2, none⟩ (.int .i64 to_)).setCell ⟨w.heap.size, 3, none⟩ (.slice Ac l.length cc)).setCell ⟨w.heap.size, 4, none⟩ (.bool came) = W2 at *
  obtain ⟨q0, q1, q2, q3, q4⟩ := hO5.five
  have hs1 := hb1.size
  have hB2 : Below w.heap.size w W2 := (hB1.grown hg1 hB1.size (fun g e => by have := Option.some.inj e; omega)).grown hg2 (by have := hg1.size; omega) (fun g e => by have := Option.some.inj e; omega)
  have hown := ownsRow_far (ownsRow_far HCV.out hg1 hlt6) hg2 (by omega)
  refine bodyPost_ret (v := .tuple #[.agg #[.int .i64 mv, .int .i64 fr, .int .i64 to_, .slice Ac l.length cc, .bool came], .bool kn]) ?_ rfl ⟨⟨_, rfl, ownsRow_wide hown hB0.size⟩, hB2⟩
  simp [results, Tryz.f62, go_sem, q0, q1, q2, q3, q4]
end Mv
end Go.Proofs.YtdbkkldgobkjcaaGreat

namespace Go.Proofs.YtdbkkldgobkjcaaGreat
open Go.RowKit Go.Maps
namespace Mv
open It

theorem hmx : Tryz.prog.follows .mixedOrders = true := by kernel_rfl
def comeOf (ds : List Way) (k : Int) : List Way × List It.Item × Int := match findW ds k with
  | none => (ds, [], 4)
  | some d => if d.came then (ds, [], 5) else (putW ds { d with came := true }, d.l, 0)

theorem insW_mem {d x : Way} {ds : List Way} (h : x ∈ insW d ds) : x = d ∨ x ∈ ds := by
  induction ds with
  | nil => left; simpa [insW] using h
  | cons c r ih =>
    unfold insW at h
    split at h
    · rcases List.mem_cons.1 h with h | h
      · exact .inl h
      · exact .inr h
    · rcases List.mem_cons.1 h with h | h
      · exact .inr (by rw [h]; simp)
      · rcases ih h with h | h
        · exact .inl h
        · exact .inr (List.mem_cons_of_mem _ h)
theorem insW_length (d : Way) (ds : List Way) : (insW d ds).length = ds.length + 1 := by
  induction ds with
  | nil => rfl
  | cons c r ih => unfold insW; split <;> simp [ih]
theorem putW_mem {d x : Way} {ds : List Way} (h : x ∈ putW ds d) : x = d ∨ x ∈ ds := by
  rcases insW_mem h with h | h
  · exact .inl h
  · exact .inr (List.mem_filter.1 h).1
theorem delW_length (ds : List Way) (k : Int) : (delW ds k).length ≤ ds.length := List.length_filter_le _ _
theorem delW_length_lt {ds : List Way} {k : Int} {d : Way} (h : findW ds k = some d) : (delW ds k).length < ds.length := by
  unfold delW
  obtain ⟨h1, h2⟩ := findW_mem h
  refine Nat.lt_of_le_of_ne (List.length_filter_le _ _) fun e => ?_
  have := List.length_filter_eq_length_iff.1 e d h1
  simp [h2] at this
theorem putW_length_known {ds : List Way} {d c : Way} (h : findW ds d.mv = some c) : (putW ds d).length ≤ ds.length := by
  unfold putW
  rw [insW_length]
  have := delW_length_lt h
  omega
theorem putW_length (ds : List Way) (d : Way) : (putW ds d).length ≤ ds.length + 1 := by
  unfold putW
  rw [insW_length]
  have := delW_length ds d.mv
  omega

theorem WayAt.arrive {w : World} {F : Nat → Prop} {d : Way} {v : Value} (h : WayAt w F (wayV d v) d) : WayAt w F (wayV { d with came := true } v) { d with came := true } := by
  obtain ⟨v', lo, B, e, h1, h2, h3⟩ := h
  have e2 : v = v' := by simpa [wayV] using e
  subst e2
  exact ⟨v, lo, B, rfl, h1, h2, h3⟩

set_option maxRecDepth 100000 in
set_option maxHeartbeats 4000000 in
theorem come_calls (k : Int) (b mb : Nat) (X : Nat → Prop) (ds : List Way) (w : World) (h : MvAt w b mb X ds) (h0 : -9223372036854775808 ≤ k) (h1 : k ≤ 9223372036854775807) :
    Calls Tryz.prog 28 #[.pointer (some ⟨b, 0, none⟩), .int .i64 k] w fun e w' =>
      (∃ v, e = .returned (.tuple #[v, .int .i64 (comeOf ds k).2.2]) ∧ w'.ownsRow w.heap.size 37 2 v (comeOf ds k).2.1.length (itemCells (comeOf ds k).2.1)) ∧ MvAt w' b mb X (comeOf ds k).1 ∧ w.grownBy w' (some mb) := by
  obtain ⟨m, hm, hR⟩ := h.map
  have g0 : w.cell? ⟨b, 0, none⟩ = some (.map (some mb)) := h.ob.cell (j := 0) rfl
  have hmb := hm.lt
  have hbl := h.ob.lt
  have hkey := Lib.hid (keyI h0 h1)
  have cM := Lib.hid (made_calls b mb _ g0)
  have HM := Lib.hid hm
  cases hf : findW ds k with
  | none =>
    have hC : comeOf ds k = (ds, [], 4) := by unfold comeOf; rw [hf]
    rw [hC]
    have HG := Lib.hid (show (mGet m k).getD (wayV way0 (.slice none 0 0)) = .agg #[.int .i64 0, .int .i64 0, .int .i64 0, .slice none 0 0, .bool false] by rw [hR.none hf]; rfl)
    have HS := Lib.hid (show (mGet m k).isSome = false by rw [hR.none hf]; rfl)
    have H := Lib.hid h
    clear hC hf hR hm h
    go_enter Tryz.func28, Tryz.ntmps28
    go_wp2_with (first
      | (go_at_call 58; refine cM.out.mono ?_; rintro e W ⟨rfl, rfl⟩)
      | (at_lookup; refine wpList_look_ok_g rfl (.tmp 15) (.tmp 16) _ rfl 3 _ keyedI Tryz.underlying100 rfl HM.out (zeroW _) _ _ rfl hkey.out _ _ HG.out HS.out ?_))
    go_ret2
    have hb := (Below.refl w.heap.size w).alloc (Nat.le_refl _) (.cells #[.int .i64 0, .int .i64 0, .int .i64 0, .slice none 0 0, .bool false] 108)
    exact ⟨⟨_, rfl, World.ownsRow_nil _ _ _ _⟩, H.out.same hb, only_of_below hb _⟩
  | some d =>
    obtain ⟨val, hg, hw⟩ := hR.some hf
    obtain ⟨hmem, hmv⟩ := findW_mem hf
    have hok := h.ok d hmem
    obtain ⟨mv, fr, to_, l, came⟩ := d
    dsimp only at hmv
    subst hmv
    have hl16 := may_len hok.l
    have hput := Lib.hid (fun w' val' (hR' : WayAt w' (fun i => i ≠ b ∧ i ≠ mb ∧ ¬ X i) val' ⟨mv, fr, to_, l, true⟩) (hr : Rel w' (fun i => i ≠ b ∧ i ≠ mb ∧ ¬ X i) m ds) => Rel.put (d := ⟨mv, fr, to_, l, true⟩) hR' hr)
    have hlen2 := Lib.hid (putW_length_known (ds := ds) (d := ⟨mv, fr, to_, l, true⟩) hf)
    have hwa := Lib.hid hw
    obtain ⟨v, rfl, hI⟩ := hw.items
    obtain ⟨A, c, rfl, -⟩ := hI.form
    have HG := Lib.hid (show (mGet m mv).getD (wayV way0 (.slice none 0 0)) = .agg #[.int .i64 mv, .int .i64 fr, .int .i64 to_, .slice A l.length c, .bool came] by rw [hg]; rfl)
    have HS := Lib.hid (show (mGet m mv).isSome = true by rw [hg]; rfl)
    have H := Lib.hid h
    have HR := Lib.hid hR
    dsimp only at hI hl16
    cases came with
    | true =>
      have hC : comeOf ds mv = (ds, [], 5) := by unfold comeOf; rw [hf]; rfl
      rw [hC]
      clear hC hf hR hm h hg hwa hw
      go_enter Tryz.func28, Tryz.ntmps28
      go_wp2_with (first
        | (go_at_call 58; refine cM.out.mono ?_; rintro e W ⟨rfl, rfl⟩)
        | (at_lookup; refine wpList_look_ok_g rfl (.tmp 15) (.tmp 16) _ rfl 3 _ keyedI Tryz.underlying100 rfl HM.out (zeroW _) _ _ rfl hkey.out _ _ HG.out HS.out ?_))
      go_ret2
      have hb := (Below.refl w.heap.size w).alloc (Nat.le_refl _) (.cells #[.int .i64 mv, .int .i64 fr, .int .i64 to_, .slice A l.length c, .bool true] 108)
      exact ⟨⟨_, rfl, World.ownsRow_nil _ _ _ _⟩, H.out.same hb, only_of_below hb _⟩
    | false =>
      have hC : comeOf ds mv = (putW ds ⟨mv, fr, to_, l, true⟩, l, 0) := by unfold comeOf; rw [hf]; rfl
      rw [hC]
      clear hC hf hR hm h hg hw
      go_enter Tryz.func28, Tryz.ntmps28
      go_wp2_with (first
        | (go_at_call 58; refine cM.out.mono ?_; rintro e W ⟨rfl, rfl⟩)
        | (at_lookup; refine wpList_look_ok_g rfl (.tmp 15) (.tmp 16) _ rfl 3 _ keyedI Tryz.underlying100 rfl HM.out (zeroW _) _ _ rfl hkey.out _ _ HG.out HS.out ?_))
      have hb0 := (Below.refl w.heap.size w).alloc (Nat.le_refl _) (.cells #[.int .i64 mv, .int .i64 fr, .int .i64 to_, .slice A l.length c, .bool true] 108)
      have hO := Ob.new w 108 #[.int .i64 mv, .int .i64 fr, .int .i64 to_, .slice A l.length c, .bool true]
      have hgd : (w.alloc (.cells #[.int .i64 mv, .int .i64 fr, .int .i64 to_, .slice A l.length c, .bool true] 108)).grownBy (w.alloc (.cells #[.int .i64 mv, .int .i64 fr, .int .i64 to_, .slice A l.length c, .bool true] 108)).drew none := only_of_below (Below.refl _ _).drew none
      have hgw : w.grownBy (w.alloc (.cells #[.int .i64 mv, .int .i64 fr, .int .i64 to_, .slice A l.length c, .bool true] 108)).drew none := only_of_below hb0.drew none
      generalize hW0 : (w.alloc (.cells #[.int .i64 mv, .int .i64 fr, .int .i64 to_, .slice A l.length c, .bool true] 108)) = W0 at *
      have HW0 := Lib.hid hW0
      clear hW0
      have hOd := hO.kept hgd (by simp)
      have gbd : W0.drew.cell? ⟨b, 0, none⟩ = some (.map (some mb)) := (hgw.cell g0 (by simp))
      have hMd := HM.out.kept hgw (by simp)
      have hm256 : m.length ≤ 256 := by rw [HR.out.length]; exact H.out.len
      refine Pu.regionM [(0, false), (1, false), (2, false), (3, false), (4, false), (5, false), (6, true)] (fun W => Ob W w.heap.size 108 #[.int .i64 mv, .int .i64 fr, .int .i64 to_, .slice A l.length c, .bool true] ∧ W.cell? ⟨b, 0, none⟩ = some (.map (some mb))) hmx (by kernel_rfl) (by kernel_rfl) (by kernel_rfl) ⟨hOd, gbd⟩ rfl ?_
      simp only [Pu.named, List.filterMap_cons, List.filterMap_nil, List.getElem?_toArray, List.getElem?_cons_succ, List.getElem?_cons_zero, Option.map_some]
      iterate 6 (apply Pu.WalkM.on (by rfl)
                 · rintro W ⟨hOW, gW⟩
                   obtain ⟨q0, q1, q2, q3, q4⟩ := hOW.five
                   go_wp2_with fail
                   refine ⟨rfl, ?_, rfl⟩
                   try simp only [Act.put, List.setIfInBounds_toArray, List.set_cons_succ, List.set_cons_zero]
                   rfl
                 simp only [Act.put, List.setIfInBounds_toArray, List.set_cons_succ, List.set_cons_zero])
      refine Pu.WalkM.make (by rfl) ?_
      rintro W rfl
      refine wpList_put_g rfl (.tmp 30) (.tmp 31) (.tmp 32) _ rfl 3 _ keyedI Tryz.underlying100 rfl hMd (by unfold maxLen; omega) _ (.agg #[.int .i64 mv, .int .i64 fr, .int .i64 to_, .slice A l.length c, .bool true]) _ rfl rfl hkey.out ?_
      intro W2 hM2 hg2
      have hne : some w.heap.size ≠ some mb := fun e => by have := Option.some.inj e; omega
      have hO2 := hOd.kept hg2 hne
      have gb2 : W2.cell? ⟨b, 0, none⟩ = some (.map (some mb)) := hg2.cell gbd (fun e => H.out.ne (Option.some.inj e))
      refine ⟨rfl, undef, _, (fun W => W = W2), rfl, rfl, (fun W h => by rw [h]; exact ⟨hO2, gb2⟩), (.inr (fun _ h => h)), Pu.WalkM.nil ?_⟩
      rintro W rfl
      simp only [Act.put]
      have hgwm := (hgw.but (some mb)).trans hg2
      have hR2 := hput.out W _ (hwa.out.arrive.kept hgwm (fun g e => .inl (fun k => k.2.1 (Option.some.inj e).symm)) (fun _ _ h => h)) (HR.out.kept hgwm (fun g e => .inl (fun k => k.2.1 (Option.some.inj e).symm)) (fun _ _ h => h))
      have hMv : MvAt W b mb X (putW ds ⟨mv, fr, to_, l, true⟩) := by
        refine ⟨H.out.ob.kept hgwm (fun e => H.out.ne (Option.some.inj e)), ⟨_, hM2, hR2⟩, H.out.ne, H.out.nx, fun i hi => Nat.lt_of_lt_of_le (H.out.xl i hi) hgwm.size, fun x hx => ?_, Nat.le_trans hlen2.out H.out.len⟩
        rcases putW_mem hx with rfl | hx
        · exact ⟨hok.mv, hok.fr, hok.to_, hok.ne, hok.l, hok.some⟩
        · exact H.out.ok x hx
      obtain ⟨v', lo, B, e, hIv, hBv, hFv⟩ := hwa.out
      have e2 : v' = .slice A l.length c := by simpa [wayV] using e.symm
      subst e2
      have hI2 : ItemsAt W 0 W.heap.size (.slice A l.length c) l := by
        obtain ⟨v2, lo2, B2, e3, h5, h6, h7⟩ := hwa.out.kept hgwm (F' := fun _ => True) (fun g e => .inl (fun k => k.2.1 (Option.some.inj e).symm)) (fun _ _ _ => trivial)
        have e4 : v2 = .slice A l.length c := by simpa [wayV] using e3.symm
        subst e4
        exact h5.wide (Nat.zero_le _) h6
      obtain ⟨q0, q1, q2, q3, q4⟩ := hO2.five
      have cC := Lib.hid (clonei_calls l _ W hI2 (by omega))
      have HMv := Lib.hid hMv
      clear hI2 hMv hR2 hIv hM2
      go_wp2_with fail
      refine cC.out.mono ?_
      rintro e W3 ⟨⟨cv, rfl, hcv⟩, hb3⟩
      obtain ⟨Ac, cc, rfl, -⟩ := (ItemsAt.of_own hcv).form
      go_wp2
      go_ret2
      exact ⟨⟨_, rfl, ownsRow_wide hcv hgwm.size⟩, HMv.out.same hb3, hgwm.trans (only_of_below hb3 _)⟩
end Mv
end Go.Proofs.YtdbkkldgobkjcaaGreat

namespace Go.Proofs.YtdbkkldgobkjcaaGreat
open Go.RowKit Go.Maps
namespace Mv
open It

def forgetOf (ds : List Way) (k : Int) : List Way × Int := match findW ds k with
  | none => (ds, 4)
  | some d => if d.came then (delW ds k, 0) else (ds, 80)

set_option maxRecDepth 100000 in
set_option maxHeartbeats 4000000 in
theorem forget_calls (k : Int) (b mb : Nat) (X : Nat → Prop) (ds : List Way) (w : World) (h : MvAt w b mb X ds) (h0 : -9223372036854775808 ≤ k) (h1 : k ≤ 9223372036854775807) :
    Calls Tryz.prog 30 #[.pointer (some ⟨b, 0, none⟩), .int .i64 k] w fun e w' => e = .returned (.int .i64 (forgetOf ds k).2) ∧ MvAt w' b mb X (forgetOf ds k).1 ∧ w.grownBy w' (some mb) := by
  have cV := move_calls k b mb X ds w h h0 h1
  have hkey := Lib.hid (keyI h0 h1)
  have H := Lib.hid h
  cases hf : findW ds k with
  | none =>
    have hC : forgetOf ds k = (ds, 4) := by unfold forgetOf; rw [hf]
    rw [hC]
    rw [hf] at cV
    have CV := Lib.hid cV
    clear hC hf h cV
    go_enter Tryz.func30, Tryz.ntmps30
    go_wp2_with fail
    refine CV.out.mono ?_
    rintro e W1 ⟨⟨v, rfl, hv⟩, hb1⟩
    obtain ⟨A, c, rfl, -⟩ := (toAt hv).form
    clear hv
    have hb2 := hb1.alloc hb1.size (.cells #[.int .i64 0, .int .i64 0, .int .i64 0, .slice A 0 c, .bool false] 108)
    have hM2 := H.out.same hb2
    have cM := Lib.hid (made_calls b mb _ (hM2.ob.cell (j := 0) rfl))
    simp only [wayV, way0, Option.getD_none, Option.isSome_none, List.length_nil]
    go_wp2_with fail
    refine cM.out.mono ?_
    rintro e W ⟨rfl, rfl⟩
    go_wp2
    go_ret
    exact ⟨rfl, hM2, only_of_below hb2 _⟩
  | some d =>
    obtain ⟨hmem, hmv⟩ := findW_mem hf
    have hlen2 := Lib.hid (delW_length ds k)
    obtain ⟨mv, fr, to_, l, came⟩ := d
    rw [hf] at cV
    have CV := Lib.hid cV
    cases came with
    | false =>
      have hC : forgetOf ds k = (ds, 80) := by unfold forgetOf; rw [hf]; rfl
      rw [hC]
      clear hC hf h cV hmem hmv
      go_enter Tryz.func30, Tryz.ntmps30
      go_wp2_with fail
      refine CV.out.mono ?_
      rintro e W1 ⟨⟨v, rfl, hv⟩, hb1⟩
      obtain ⟨A, c, rfl, -⟩ := (toAt hv).form
      clear hv
      simp only [wayV, Option.getD_some, Option.isSome_some]
      have hb2 := hb1.alloc hb1.size (.cells #[.int .i64 mv, .int .i64 fr, .int .i64 to_, .slice A l.length c, .bool false] 108)
      have hM2 := H.out.same hb2
      have cM := Lib.hid (made_calls b mb _ (hM2.ob.cell (j := 0) rfl))
      go_wp2_with fail
      refine cM.out.mono ?_
      rintro e W ⟨rfl, rfl⟩
      go_wp2
      go_ret
      exact ⟨rfl, hM2, only_of_below hb2 _⟩
    | true =>
      have hC : forgetOf ds k = (delW ds k, 0) := by unfold forgetOf; rw [hf]; rfl
      rw [hC]
      clear hC hf h cV hmem hmv
      go_enter Tryz.func30, Tryz.ntmps30
      go_wp2_with fail
      refine CV.out.mono ?_
      rintro e W1 ⟨⟨v, rfl, hv⟩, hb1⟩
      obtain ⟨A, c, rfl, -⟩ := (toAt hv).form
      clear hv
      simp only [wayV, Option.getD_some, Option.isSome_some]
      have hb2 := hb1.alloc hb1.size (.cells #[.int .i64 mv, .int .i64 fr, .int .i64 to_, .slice A l.length c, .bool true] 108)
      have hM2 := H.out.same hb2
      have g2 : _ = some (Value.map (some mb)) := hM2.ob.cell (j := 0) rfl
      have cM := Lib.hid (made_calls b mb _ g2)
      obtain ⟨m, hm, hR⟩ := hM2.map
      have HM := Lib.hid hm
      have HR := Lib.hid hR
      have HM2 := Lib.hid hM2
      clear hm hR hM2
      go_wp2_with (first
        | (go_at_call 58; refine cM.out.mono ?_; rintro e W ⟨rfl, rfl⟩)
        | (at_delete; refine wpList_del_g rfl (.tmp 27) (.tmp 28) _ 3 rfl _ keyedI Tryz.underlying100 rfl HM.out _ _ rfl hkey.out ?_; intro W3 hM3 hg3))
      go_ret
      have hgw := (only_of_below hb2 (some mb)).trans hg3
      have hR3 := Rel.del k (HR.out.kept hg3 (F' := fun i => i ≠ b ∧ i ≠ mb ∧ ¬ X i) (fun g e => .inl (fun q => q.2.1 (Option.some.inj e).symm)) (fun _ _ h => h))
      exact ⟨rfl, ⟨HM2.out.ob.kept hg3 (fun e => H.out.ne (Option.some.inj e)), ⟨_, hM3, hR3⟩, H.out.ne, H.out.nx, fun i hi => Nat.lt_of_lt_of_le (H.out.xl i hi) hgw.size, fun x hx => H.out.ok x (List.mem_filter.1 hx).1, Nat.le_trans hlen2.out H.out.len⟩, hgw⟩

def goOf (ds : List Way) (mv fr to_ : Int) (l : List It.Item) : List Way × Int :=
  if mv < 1 ∨ 1099511627776 < mv ∨ isR fr = false ∨ isR to_ = false ∨ fr = to_ then (ds, 1)
  else if may l = false ∨ l = [] then (ds, 60)
  else if (findW ds mv).isSome then (ds, 5)
  else if 256 ≤ ds.length then (ds, 2)
  else (putW ds ⟨mv, fr, to_, l, false⟩, 0)
theorem isR_iff (r : Int) : isR r = true ↔ 0 ≤ r ∧ r ≤ 7 := by
  unfold isR
  simp only [Bool.and_eq_true, decide_eq_true_eq]
  omega

set_option maxRecDepth 100000 in
set_option maxHeartbeats 8000000 in
theorem go_calls (mv fr to_ : Int) (l : List It.Item) (lv : Value) (b mb : Nat) (X : Nat → Prop) (ds : List Way) (w : World) (h : MvAt w b mb X ds) (hI : ItemsAt w 0 w.heap.size lv l) (hF : Fits l) (h0 : -9223372036854775808 ≤ mv) (h1 : mv ≤ 9223372036854775807) :
    Calls Tryz.prog 26 #[.pointer (some ⟨b, 0, none⟩), .int .i64 mv, .int .i64 fr, .int .i64 to_, lv] w fun e w' => e = .returned (.int .i64 (goOf ds mv fr to_ l).2) ∧ MvAt w' b mb X (goOf ds mv fr to_ l).1 ∧ w.grownBy w' (some mb) := by
  obtain ⟨m, hm, hR⟩ := h.map
  have g0 : w.cell? ⟨b, 0, none⟩ = some (.map (some mb)) := h.ob.cell (j := 0) rfl
  have hmb := hm.lt
  have hbl := h.ob.lt
  have hkey := Lib.hid (keyI h0 h1)
  have cMd := Lib.hid (made_calls b mb _ g0)
  have cF := Lib.hid (fun W => is_calls fr W)
  have cT := Lib.hid (fun W => is_calls to_ W)
  have cMay := Lib.hid (fun W hI => may_calls l lv W hI hF)
  have HG0 := Lib.hid (show goOf ds mv fr to_ l = if mv < 1 ∨ 1099511627776 < mv ∨ isR fr = false ∨ isR to_ = false ∨ fr = to_ then (ds, 1) else if may l = false ∨ l = [] then (ds, 60) else if (findW ds mv).isSome then (ds, 5) else if 256 ≤ ds.length then (ds, 2) else (putW ds ⟨mv, fr, to_, l, false⟩, 0) from rfl)
  have hval : ∃ x0 x1 x2 A n c x4, (mGet m mv).getD (wayV way0 (.slice none 0 0)) = .agg #[.int .i64 x0, .int .i64 x1, .int .i64 x2, .slice A n c, .bool x4] ∧ (mGet m mv).isSome = (findW ds mv).isSome := by
    cases hf : findW ds mv with
    | none => exact ⟨0, 0, 0, none, 0, 0, false, by rw [hR.none hf]; rfl, by rw [hR.none hf]; rfl⟩
    | some d =>
      obtain ⟨val, hg, hw⟩ := hR.some hf
      obtain ⟨v, rfl, hI⟩ := hw.items
      obtain ⟨A, c, rfl, -⟩ := hI.form
      exact ⟨_, _, _, _, _, _, _, by rw [hg]; rfl, by rw [hg]; rfl⟩
  obtain ⟨x0, x1, x2, A5, n5, c5, x4, hg, hs⟩ := hval
  have HG := Lib.hid hg
  have HS := Lib.hid hs
  have HM := Lib.hid hm
  have HR := Lib.hid hR
  have H := Lib.hid h
  have hb := (Below.refl w.heap.size w).alloc (Nat.le_refl _) (.cells #[.int .i64 x0, .int .i64 x1, .int .i64 x2, .slice A5 n5 c5, .bool x4] 108)
  have hIn := Lib.hid hI
  obtain ⟨Al, cl, rfl, hc1, hc2⟩ := hI.form
  unfold maxLen at hc2
  generalize hkn : (findW ds mv).isSome = kn at *
  generalize hml : may l = ml at *
  have HML := Lib.hid hml
  clear hml
  have HKN := Lib.hid hkn
  generalize goOf ds mv fr to_ l = R at *
  clear hg hs hm hR h hI hkn
  have hcs : (decide (mv < 1) = true ∨ (decide (mv < 1) = false ∧ decide (mv > 1099511627776) = true) ∨ (decide (mv < 1) = false ∧ decide (mv > 1099511627776) = false ∧ isR fr = false) ∨ (decide (mv < 1) = false ∧ decide (mv > 1099511627776) = false ∧ isR fr = true ∧ isR to_ = false) ∨
      (decide (mv < 1) = false ∧ decide (mv > 1099511627776) = false ∧ isR fr = true ∧ isR to_ = true ∧ (fr == to_) = true)) ∨ (decide (mv < 1) = false ∧ decide (mv > 1099511627776) = false ∧ isR fr = true ∧ isR to_ = true ∧ (fr == to_) = false) := by
    by_cases e1 : mv < 1 <;> by_cases e2 : mv > 1099511627776 <;> cases isR fr <;> cases isR to_ <;> by_cases e3 : fr = to_ <;> simp [e1, e2, e3] <;> omega
  rcases hcs with hbad | ⟨e1, e2, e3, e4, e5⟩
  · have hR1 : R = (ds, 1) := by
      rw [HG0.out, if_pos]
      rcases hbad with e1 | ⟨_, e2⟩ | ⟨_, _, e3⟩ | ⟨_, _, _, e4⟩ | ⟨_, _, _, _, e5⟩
      · exact .inl (by simpa using e1)
      · exact .inr (.inl (by simpa using e2))
      · exact .inr (.inr (.inl e3))
      · exact .inr (.inr (.inr (.inl e4)))
      · exact .inr (.inr (.inr (.inr (by simpa using e5))))
    subst hR1
    rcases hbad with e1 | ⟨e1, e2⟩ | ⟨e1, e2, e3⟩ | ⟨e1, e2, e3, e4⟩ | ⟨e1, e2, e3, e4, e5⟩
    case inl | inr.inl =>
      go_enter Tryz.func26, Tryz.ntmps26
      go_wp2_with (first
        | (go_at_call 58; refine cMd.out.mono ?_; rintro e W ⟨rfl, rfl⟩)
        | (at_lookup; refine wpList_look_ok_g rfl (.tmp 20) (.tmp 21) _ rfl 3 _ keyedI Tryz.underlying100 rfl HM.out (zeroW _) _ _ rfl hkey.out _ _ HG.out HS.out ?_))
      go_ret
      exact ⟨rfl, H.out.same hb, only_of_below hb _⟩
    all_goals
      try rw [e3] at cF
      try rw [e4] at cT
      go_enter Tryz.func26, Tryz.ntmps26
      go_wp2_with (first
        | (go_at_call 58; refine cMd.out.mono ?_; rintro e W ⟨rfl, rfl⟩)
        | (at_lookup; refine wpList_look_ok_g rfl (.tmp 20) (.tmp 21) _ rfl 3 _ keyedI Tryz.underlying100 rfl HM.out (zeroW _) _ _ rfl hkey.out _ _ HG.out HS.out ?_)
        | (go_at_call 59; first | ((with_reducible refine (cF.out _).mono ?_); rintro e W ⟨rfl, rfl⟩) | ((with_reducible refine (cT.out _).mono ?_); rintro e W ⟨rfl, rfl⟩)))
      go_ret
      exact ⟨rfl, H.out.same hb, only_of_below hb _⟩
  · have hmv : ¬ mv < 1 ∧ ¬ 1099511627776 < mv := by simp only [decide_eq_false_iff_not] at e1 e2; exact ⟨e1, e2⟩
    have hne : fr ≠ to_ := by simpa using e5
    have hR1 : R = if ml = false ∨ l = [] then (ds, 60) else if kn then (ds, 5) else if 256 ≤ ds.length then (ds, 2) else (putW ds ⟨mv, fr, to_, l, false⟩, 0) := by
      rw [HG0.out, if_neg]
      rintro (h | h | h | h | h)
      · exact hmv.1 h
      · exact hmv.2 h
      · rw [e3] at h; cases h
      · rw [e4] at h; cases h
      · exact hne h
    have HR1 := Lib.hid hR1
    have hfr := (isR_iff fr).1 e3
    have hto := (isR_iff to_).1 e4
    rw [e3] at cF
    rw [e4] at cT
    have cMy := Lib.hid (cMay.out _ (hIn.out.mono hb hb.size))
    clear hR1 cMay
    cases ml with
    | false =>
      obtain rfl : R = (ds, 60) := by rw [HR1.out, if_pos (.inl rfl)]
      go_enter Tryz.func26, Tryz.ntmps26
      go_wp2_with (first
          | (go_at_call 58; refine cMd.out.mono ?_; rintro e W ⟨rfl, rfl⟩)
          | (at_lookup; refine wpList_look_ok_g rfl (.tmp 20) (.tmp 21) _ rfl 3 _ keyedI Tryz.underlying100 rfl HM.out (zeroW _) _ _ rfl hkey.out _ _ HG.out HS.out ?_)
          | (go_at_call 59; first | ((with_reducible refine (cF.out _).mono ?_); rintro e W ⟨rfl, rfl⟩) | ((with_reducible refine (cT.out _).mono ?_); rintro e W ⟨rfl, rfl⟩))
          | (go_at_call 44; refine cMy.out.mono ?_; rintro e W1 ⟨rfl, hb1⟩; have hb2 := hb.trans (hb1.mono hb.size)))
      go_ret
      exact ⟨rfl, H.out.same hb2, only_of_below hb2 _⟩
    | true =>
      by_cases hl0 : l = []
      · obtain rfl : R = (ds, 60) := by rw [HR1.out, if_pos (.inr hl0)]
        have hl1 : l.length = 0 := by rw [hl0]; rfl
        rw [hl1] at cMy ⊢
        clear hl0
        go_enter Tryz.func26, Tryz.ntmps26
        go_wp2_with (first
          | (go_at_call 58; refine cMd.out.mono ?_; rintro e W ⟨rfl, rfl⟩)
          | (at_lookup; refine wpList_look_ok_g rfl (.tmp 20) (.tmp 21) _ rfl 3 _ keyedI Tryz.underlying100 rfl HM.out (zeroW _) _ _ rfl hkey.out _ _ HG.out HS.out ?_)
          | (go_at_call 59; first | ((with_reducible refine (cF.out _).mono ?_); rintro e W ⟨rfl, rfl⟩) | ((with_reducible refine (cT.out _).mono ?_); rintro e W ⟨rfl, rfl⟩))
          | (go_at_call 44; refine cMy.out.mono ?_; rintro e W1 ⟨rfl, hb1⟩; have hb2 := hb.trans (hb1.mono hb.size)))
        go_ret
        exact ⟨rfl, H.out.same hb2, only_of_below hb2 _⟩
      · have hl1 : ((l.length : Int) == 0) = false := by
          cases l with
          | nil => exact (hl0 rfl).elim
          | cons x r => simp; omega
        have HL0 := Lib.hid hl0
        have hR2 : R = if kn then (ds, 5) else if 256 ≤ ds.length then (ds, 2) else (putW ds ⟨mv, fr, to_, l, false⟩, 0) := by
          rw [HR1.out, if_neg]
          rintro (h | h)
          · cases h
          · exact hl0 h
        have HR2 := Lib.hid hR2
        clear hl0 hR2
        cases kn with
        | true =>
          obtain rfl : R = (ds, 5) := by rw [HR2.out]; rfl
          go_enter Tryz.func26, Tryz.ntmps26
          go_wp2_with (first
          | (go_at_call 58; refine cMd.out.mono ?_; rintro e W ⟨rfl, rfl⟩)
          | (at_lookup; refine wpList_look_ok_g rfl (.tmp 20) (.tmp 21) _ rfl 3 _ keyedI Tryz.underlying100 rfl HM.out (zeroW _) _ _ rfl hkey.out _ _ HG.out HS.out ?_)
          | (go_at_call 59; first | ((with_reducible refine (cF.out _).mono ?_); rintro e W ⟨rfl, rfl⟩) | ((with_reducible refine (cT.out _).mono ?_); rintro e W ⟨rfl, rfl⟩))
          | (go_at_call 44; refine cMy.out.mono ?_; rintro e W1 ⟨rfl, hb1⟩; have hb2 := hb.trans (hb1.mono hb.size)))
          go_ret
          exact ⟨rfl, H.out.same hb2, only_of_below hb2 _⟩
        | false =>
          have h256 := H.out.len
          by_cases hfull : 256 ≤ ds.length
          · obtain rfl : R = (ds, 2) := by rw [HR2.out]; exact if_pos hfull
            have hd : decide (256 ≤ ds.length) = true := by simpa using hfull
            have hd2 : decide ((ds.length : Int) ≥ 256) = true := by simp; omega
            clear hfull
            go_enter Tryz.func26, Tryz.ntmps26
            go_wp2_with (first
          | (go_at_call 58; refine cMd.out.mono ?_; rintro e W ⟨rfl, rfl⟩)
          | (at_lookup; refine wpList_look_ok_g rfl (.tmp 20) (.tmp 21) _ rfl 3 _ keyedI Tryz.underlying100 rfl HM.out (zeroW _) _ _ rfl hkey.out _ _ HG.out HS.out ?_)
          | (go_at_call 59; first | ((with_reducible refine (cF.out _).mono ?_); rintro e W ⟨rfl, rfl⟩) | ((with_reducible refine (cT.out _).mono ?_); rintro e W ⟨rfl, rfl⟩))
          | (go_at_call 44; refine cMy.out.mono ?_; rintro e W1 ⟨rfl, hb1⟩; have hb2 := hb.trans (hb1.mono hb.size); have hM1 := H.out.same hb2; have gb1 := (hM1.ob.cell (j := 0) rfl : _ = some (Value.map (some mb))); have hl1 := fun ty => (HM.out.below hb2 hmb).len (tm := 100) Tryz.underlying100 ty; (rw [HR.out.length] at hl1)))
            go_ret
            exact ⟨rfl, H.out.same hb2, only_of_below hb2 _⟩
          · obtain rfl : R = (putW ds ⟨mv, fr, to_, l, false⟩, 0) := by rw [HR2.out]; exact if_neg hfull
            have hd : decide (256 ≤ ds.length) = false := by simpa using hfull
            have hd2 : decide ((ds.length : Int) ≥ 256) = false := by simp; omega
            have hl16 := may_len HML.out
            go_enter Tryz.func26, Tryz.ntmps26
            go_wp2_with (first
          | (go_at_call 58; refine cMd.out.mono ?_; rintro e W ⟨rfl, rfl⟩)
          | (at_lookup; refine wpList_look_ok_g rfl (.tmp 20) (.tmp 21) _ rfl 3 _ keyedI Tryz.underlying100 rfl HM.out (zeroW _) _ _ rfl hkey.out _ _ HG.out HS.out ?_)
          | (go_at_call 59; first | ((with_reducible refine (cF.out _).mono ?_); rintro e W ⟨rfl, rfl⟩) | ((with_reducible refine (cT.out _).mono ?_); rintro e W ⟨rfl, rfl⟩))
          | (go_at_call 44; refine cMy.out.mono ?_; rintro e W1 ⟨rfl, hb1⟩; have hb2 := hb.trans (hb1.mono hb.size); have hM1 := H.out.same hb2; have gb1 := (hM1.ob.cell (j := 0) rfl : _ = some (Value.map (some mb))); have hl1 := fun ty => (HM.out.below hb2 hmb).len (tm := 100) Tryz.underlying100 ty; (rw [HR.out.length] at hl1)))
            have hbd : Below w.heap.size w W1.drew := hb2.drew
            have hdn : W1.grownBy W1.drew none := only_of_below (Below.refl _ W1).drew none
            have gbd : W1.drew.cell? ⟨b, 0, none⟩ = some (.map (some mb)) := gb1
            have HMd := Lib.hid (HM.out.below hbd hmb)
            have cC := Lib.hid (clonei_calls l _ W1.drew (hIn.out.mono hbd hbd.size) (by omega))
            have hm256 : m.length < 256 := by rw [HR.out.length]; omega
            clear hl1
            refine Pu.regionM [(0, false), (1, false), (2, false), (3, false), (4, false), (5, false), (6, false), (7, false), (8, false), (9, true), (10, false), (11, true)] (fun W => W.cell? ⟨b, 0, none⟩ = some (.map (some mb))) hmx (by kernel_rfl) (by kernel_rfl) (by kernel_rfl) gbd rfl ?_
            simp only [Pu.named, List.filterMap_cons, List.filterMap_nil, List.getElem?_toArray, List.getElem?_cons_succ, List.getElem?_cons_zero, Option.map_some]
            iterate 9 (apply Pu.WalkM.on (by rfl)
                       · rintro W gW
                         go_wp2_with fail
                         refine ⟨rfl, ?_, rfl⟩
                         try simp only [Act.put, List.setIfInBounds_toArray, List.set_cons_succ, List.set_cons_zero]
                         rfl
                       simp only [Act.put, List.setIfInBounds_toArray, List.set_cons_succ, List.set_cons_zero])
            refine Pu.WalkM.make (by rfl) ?_
            rintro W rfl
            go_wp2_with (go_at_call 45; refine cC.out.mono ?_; rintro e W2 ⟨⟨cv, rfl, hcv⟩, hb3⟩)
            have gb2 : W2.cell? ⟨b, 0, none⟩ = some (.map (some mb)) := (hb3.cell (p := ⟨b, 0, none⟩) (Nat.lt_of_lt_of_le hbl hbd.size)).trans gbd
            have HCV := Lib.hid hcv
            obtain ⟨Ac, cc, rfl, -⟩ := (ItemsAt.of_own hcv).form
            clear hcv
            refine ⟨rfl, .slice Ac l.length cc, _, (fun W => W = W2), ?_, rfl, (fun W h => by rw [h]; exact gb2), (.inr (fun _ h => h)), ?_⟩
            · simp only [Act.put, List.setIfInBounds_toArray, List.set_cons_succ, List.set_cons_zero]
            simp only [Act.put, List.setIfInBounds_toArray, List.set_cons_succ, List.set_cons_zero]
            apply Pu.WalkM.on (by rfl)
            · rintro W gW
              go_wp2_with fail
              refine ⟨rfl, ?_, rfl⟩
              try simp only [Act.put, List.setIfInBounds_toArray, List.set_cons_succ, List.set_cons_zero]
              rfl
            simp only [Act.put, List.setIfInBounds_toArray, List.set_cons_succ, List.set_cons_zero]
            refine Pu.WalkM.make (by rfl) ?_
            rintro W rfl
            have hb5 : Below w.heap.size w W := hbd.trans (hb3.mono hbd.size)
            refine wpList_put_g rfl (.tmp 68) (.tmp 69) (.tmp 75) _ rfl 3 _ keyedI Tryz.underlying100 rfl (HM.out.below hb5 hmb) (by unfold maxLen; omega) _ (.agg #[.int .i64 mv, .int .i64 fr, .int .i64 to_, .slice Ac l.length cc, .bool false]) _ rfl rfl hkey.out ?_
            intro W3 hM3 hg3
            have gb3 : W3.cell? ⟨b, 0, none⟩ = some (.map (some mb)) := hg3.cell gb2 (fun e => H.out.ne (Option.some.inj e))
            refine ⟨rfl, undef, _, (fun W => W = W3), rfl, rfl, (fun W h => by rw [h]; exact gb3), (.inr (fun _ h => h)), Pu.WalkM.nil ?_⟩
            rintro W' rfl
            simp only [Act.put]
            have hgw := (only_of_below hb5 (some mb)).trans hg3
            have hnw : ∀ g, some mb = some g → ¬ (g ≠ b ∧ g ≠ mb ∧ ¬ X g) := fun g e k => k.2.1 (Option.some.inj e).symm
            have hwa : WayAt W (fun i => i ≠ b ∧ i ≠ mb ∧ ¬ X i) (wayV ⟨mv, fr, to_, l, false⟩ (.slice Ac l.length cc)) ⟨mv, fr, to_, l, false⟩ :=
              ⟨_, W1.drew.heap.size, W.heap.size, rfl, ItemsAt.of_own HCV.out, Nat.le_refl _, fun i hi1 hi2 => ⟨by have := hbd.size; omega, by have := hbd.size; omega, fun hx => by have := H.out.xl i hx; have := hbd.size; omega⟩⟩
            have hRw := Rel.put (hwa.kept hg3 (F' := fun i => i ≠ b ∧ i ≠ mb ∧ ¬ X i) (fun g e => .inl (hnw g e)) (fun _ _ h => h)) (HR.out.kept hgw (F' := fun i => i ≠ b ∧ i ≠ mb ∧ ¬ X i) (fun g e => .inl (hnw g e)) (fun _ _ h => h))
            have hMv : MvAt W' b mb X (putW ds ⟨mv, fr, to_, l, false⟩) := by
              refine ⟨H.out.ob.kept hgw (fun e => H.out.ne (Option.some.inj e)), ⟨_, hM3, hRw⟩, H.out.ne, H.out.nx, fun i hi => Nat.lt_of_lt_of_le (H.out.xl i hi) hgw.size, fun x hx => ?_, ?_⟩
              · rcases putW_mem hx with rfl | hx
                · exact ⟨hmv, hfr, hto, hne, HML.out, HL0.out⟩
                · exact H.out.ok x hx
              · have := putW_length ds ⟨mv, fr, to_, l, false⟩
                omega
            clear hM3 hRw
            go_wp2
            go_ret
            exact ⟨rfl, hMv, hgw⟩
end Mv
end Go.Proofs.YtdbkkldgobkjcaaGreat
