/-
  items: codes, as the document has them: Put, Encode, Read, Decode.
  items: the code of a list.
  cells: flags, put and taken, by the program and by the document.
  items: Put.
  saga: codes, in plain words; what a maker makes.
  saga: Encode.
  saga: the document's Encode.
  saga: what bytes are as a saga, in plain words.
-/
import Derived.Test.YthfpfomifebpbaaGreatNx3
import Derived.Test.YthfpfomifebpbaaGreatNx2
import Derived.Test.YthfpfomifebpbaaGreatNz9
import Derived.Test.YthfpfomifebpbaaGreatNz4

set_option linter.unusedVariables false
set_option linter.unusedSimpArgs false
namespace Go.Proofs.YthfpfomifebpbaaGreat
open Go.RowKit
namespace It
open Ce

/-- cells put one behind the other -/
def mPuts (s : List UInt8 × Bool) : List Item → List UInt8 × Bool
  | [] => s
  | x :: r => mPuts (Ce.mPut (Ce.mPut s (numC x.1.size ++ x.1.data.toList)) (numC x.2)) r
theorem mPuts_snoc (s : List UInt8 × Bool) (l : List Item) (x : Item) : mPuts s (l ++ [x]) = Ce.mPut (Ce.mPut (mPuts s l) (numC x.1.size ++ x.1.data.toList)) (numC x.2) := by
  induction l generalizing s with
  | nil => rfl
  | cons y r ih => simp only [List.cons_append, mPuts]; exact ih _
def mPutI (s : List UInt8 × Bool) (l : List Item) : List UInt8 × Bool := mPuts (Ce.mPut s (numC l.length)) l
theorem mPut_short {s c : List UInt8} (h : s.length + c.length ≤ 262144) : Ce.mPut (s, false) c = (s ++ c, false) := by
  unfold Ce.mPut
  rw [if_neg (by simp), if_neg (by simp; omega)]
theorem mPuts_short (l : List Item) : ∀ (s : List UInt8), s.length + (cellsI l).length ≤ 262144 → mPuts (s, false) l = (s ++ cellsI l, false) := by
  induction l with
  | nil => intro s _; simp [mPuts, cellsI]
  | cons x r ih =>
    intro s h
    rw [cellsI_cons] at h ⊢
    simp only [List.length_append] at h
    simp only [mPuts]
    rw [mPut_short (by simp only [List.length_append]; omega), mPut_short (by simp only [List.length_append]; omega), ih _ (by simp only [List.length_append]; omega)]
    simp only [List.append_assoc]
theorem mPutI_short {s : List UInt8} {l : List Item} (h : s.length + (Ce.encI l).length ≤ 262144) : mPutI (s, false) l = (s ++ Ce.encI l, false) := by
  unfold Ce.encI at h ⊢
  rw [List.length_append] at h
  unfold mPutI
  rw [mPut_short (by omega), mPuts_short _ _ (by simp; omega)]
  simp [List.append_assoc]

set_option maxRecDepth 100000 in
set_option maxHeartbeats 4000000 in
theorem refputi_calls (L : List Item) (v : Value) (bm : Nat) (s : List UInt8 × Bool) (w : World) (hM : Rm w bm s) (hI : ∀ W, w.grownBy W (some bm) → ItemsAt W 0 W.heap.size v L) (hF : Fits L) (hS : ∀ x ∈ L, x.1.size ≤ 900000) :
    Calls Tryz.prog 58 #[.pointer (some ⟨bm, 0, none⟩), v] w fun e w' => e = .returned (.tuple #[]) ∧ Rm w' bm (mPutI s L) ∧ w.grownBy w' (some bm) := by
  obtain ⟨A, c, rfl, hc1, hc2⟩ := (hI w (World.grownBy.refl _ _)).form
  unfold maxLen at hc2
  have HI := Lib.hid hI
  have cN := Lib.hid (fun n s W hM h0 h1 => refmnum_calls n bm s W hM h0 h1)
  have cT := Lib.hid (fun t s W hM ht => refmtext_calls t bm s W hM ht)
  have HE := Lib.hid (show mPutI s L = mPuts (Ce.mPut s (numC L.length)) (L.take L.length) by rw [List.take_length]; rfl)
  have HS := Lib.hid (fun s (k : Nat) (h : k < L.length) => show mPuts s (L.take (k + 1)) = Ce.mPut (Ce.mPut (mPuts s (L.take k)) (numC L[k].1.size ++ L[k].1.data.toList)) (numC L[k].2) by rw [List.take_succ_eq_append_getElem h, mPuts_snoc])
  clear hI
  generalize mPutI s L = E at *
  go_enter Tryz.func58, Tryz.ntmps58
  go_wp2_with fail
  refine (cN.out L.length s w hM (by omega) (by omega)).mono ?_
  rintro e W0 ⟨rfl, hM0, hg0⟩
  clear hM
  generalize Ce.mPut s (numC L.length) = s1 at *
  go_wp2
  go_loopw [4] (fun i wr => ∃ k : Nat, k ≤ L.length ∧ i = .int .i64 k ∧ Rm wr bm (mPuts s1 (L.take k)) ∧ w.grownBy wr (some bm)) (fun i _ => L.length - (intOf i).toNat)
  case atStart => exact ⟨0, by omega, rfl, hM0, hg0⟩
  case round =>
    obtain ⟨k, hk, rfl, hM1, hg1⟩ := hrel
    clear hM0
    by_cases hlt : k < L.length
    · obtain ⟨b, o, rfl, -, hb, q1, q2⟩ := (HI.out wr hg1).cellAt hlt
      have hd : decide (k < L.length) = true := by simpa using hlt
      have hfit := hF _ (List.getElem_mem hlt)
      have hsz := hS _ (List.getElem_mem hlt)
      have HSk := Lib.hid (HS.out s1 k hlt)
      have HIk := Lib.hid (fun W (h : w.grownBy W (some bm)) => (HI.out W h).cellAt hlt)
      generalize L[k] = x at *
      obtain ⟨xs, xn⟩ := x
      dsimp only at q1 q2 hfit hsz HSk HIk
      have HM1 := Lib.hid hM1
      clear hM1
      generalize mPuts s1 (L.take k) = sk at *
      have cTk := Lib.hid (cT.out xs sk wr HM1.out hsz)
      go_wp2_with fail
      refine cTk.out.mono ?_
      rintro e W1 ⟨rfl, hM2, hg2⟩
      have hg12 := hg1.trans hg2
      obtain ⟨b', o', e, -, hb', q3, q4⟩ := HIk.out W1 hg12
      cases e
      have cNk := Lib.hid (cN.out xn _ W1 hM2 hfit.2.1 hfit.2.2)
      clear hM2
      go_wp2_with fail
      refine cNk.out.mono ?_
      rintro e W2 ⟨rfl, hM3, hg3⟩
      go_wp2
      go_roundw
      case rel => exact ⟨k + 1, by omega, by go_num, by rw [HSk.out]; exact hM3, hg12.trans hg3⟩
      case measure => simp [intOf]; omega
    · obtain rfl : k = L.length := by omega
      have hd : decide (L.length < L.length) = false := by simp
      go_wp2
      go_end0
      exact ⟨rfl, by rw [HE.out]; exact hM1, hg1⟩

theorem may_short {L : List Item} (h : may L = true) : ∀ x ∈ L, x.1.size ≤ 900000 := fun x hx => by
  have := (good_size ((may_iff L).1 h |>.ok x hx).1).2
  omega
set_option maxRecDepth 100000 in
set_option maxHeartbeats 4000000 in
theorem refread_calls (bt B : Nat) (st : Tst) (w : World) (h : Tk 94 w bt B st) :
    Calls Tryz.prog 61 #[.pointer (some ⟨bt, 0, none⟩)] w fun e w' => (∃ v l, e = .returned (.tuple #[v, .bool (readI st).2.isSome]) ∧ w'.ownsRow w.heap.size 50 2 v l.length (itemCells l) ∧ ((readI st).2.isSome = true → l = (readI st).1) ∧ Fits l) ∧
      (∃ st', Tk 94 w' bt B st' ∧ ((readI st).2.isSome = true → st' = (readI st).2)) ∧ w.grownBy w' (some bt) := by
  obtain ⟨i0, hi0, hz0⟩ := Option.map_eq_some_iff.1 item_info
  simp only [Prod.mk.injEq] at hz0
  obtain ⟨hz0, hz1, hz2⟩ := hz0
  have hbt : bt < w.heap.size := by obtain ⟨_, v, l, lo, bad, h1, _⟩ := h; exact h1.lt
  have hBw := h.1
  have cN := Lib.hid (rnum_calls 0 16 bt B st w h)
  have hr := tNum_range (least := 0) (most := 16) (s := st) (by omega) (by omega)
  have HR := Lib.hid (fun j h1 h2 => readI_stop (s := st) (j := j) h1 h2)
  have HFit := Lib.hid (rIt_fits ([], (tNum 0 16 st).2) (fun x hx => by cases hx))
  have HLen := Lib.hid (rIt_len ([], (tNum 0 16 st).2))
  clear h
  generalize readI st = RR at *
  generalize hnn : tNum 0 16 st = nn at *
  clear hnn
  obtain ⟨ni, st0⟩ := nn
  dsimp only at hr cN HR HFit HLen
  obtain ⟨n, rfl⟩ := Int.eq_ofNat_of_zero_le hr.1
  have hn16 : n ≤ 16 := by omega
  clear hr
  have HS := Lib.hid (rIt_succ ([], st0))
  generalize hS0 : (([], st0) : Rst) = S0 at *
  have HS0 := Lib.hid hS0
  clear hS0
  go_enter Tryz.func61, Tryz.ntmps61
  go_wp2_with fail
  refine cN.out.mono ?_
  rintro e W0 ⟨rfl, hT0, hg0, -⟩
  go_wp2
  go_loopw [5, 6, 7] (fun o i _ wr => ∃ k : Nat, k ≤ n ∧ i = .int .i64 k ∧ wr.ownsRow w.heap.size 50 2 o k (itemCells (rIt S0 k).1) ∧ Tk 94 wr bt B (rIt S0 k).2 ∧ w.grownBy wr (some bt)) (fun _ i _ _ => n - (intOf i).toNat)
  case atStart =>
    refine ⟨0, by omega, rfl, ?_, ?_, hg0⟩
    · rw [← HS0.out]; exact World.ownsRow_nil _ _ _ _
    · rw [← HS0.out]; exact hT0
  case round =>
    obtain ⟨k, hk, rfl, hown, hT, hg⟩ := hrel
    clear hT0
    have hstop : ((k : Int) = (n : Int) ∨ (rIt S0 k).2 = none) ∨ (k < n ∧ ∃ r, (rIt S0 k).2 = some r) := by
      rcases Nat.lt_or_ge k n with h1 | h1
      · cases hq : (rIt S0 k).2 with
        | none => exact .inl (.inr rfl)
        | some r => exact .inr ⟨h1, r, rfl⟩
      · exact .inl (.inl (by omega))
    rcases hstop with hstop | ⟨hlt, r, hr⟩
    · have HRk := Lib.hid (HR.out k (by omega) hstop)
      have hl : (rIt S0 k).1.length = k := by rw [HLen.out]; simp
      have hF := Lib.hid (HFit.out k)
      generalize rIt S0 k = rk at *
      obtain ⟨L, stk⟩ := rk
      dsimp only at hl hown hT hF HRk hstop
      subst hl
      have HO := Lib.hid hown
      have HT := Lib.hid hT
      have hI : ItemsAt wr 0 wr.heap.size u5 L := toAt hown
      obtain ⟨A, c, rfl, -⟩ := hI.form
      have cMay := Lib.hid (refmay_calls L _ wr hI hF.out)
      clear hown hI
      generalize hml : may L = ml at *
      clear hml
      cases stk with
      | none =>
        obtain ⟨v, hO⟩ := hT.none_form
        have q := hO.cell (j := 1) rfl
        clear hT
        have HB := Lib.hid (show RR.2.isSome = false from HRk.out.1.symm)
        have hcs : decide (L.length < n) = true ∨ decide (L.length < n) = false := by
          by_cases hq : L.length < n
          · exact .inl (by simpa using hq)
          · exact .inr (by simpa using hq)
        clear hstop
        rcases hcs with hd | hd
        all_goals
          go_wp2
          go_ret2
          rw [HB.out]
          exact ⟨⟨_, L, rfl, HO.out, fun h => (by cases h), hF.out⟩, ⟨none, HT.out, fun h => by cases h⟩, hg⟩
      | some rr =>
        obtain ⟨v, lo, hO, -⟩ := hT.some_form
        have q := hO.cell (j := 1) rfl
        clear hT
        have hnk : L.length = n := by
          rcases hstop with h | h
          · omega
          · cases h
        clear hstop
        have hd : decide (L.length < n) = false := by simp [hnk]
        clear hnk
        cases ml with
        | true =>
          have HB := Lib.hid (show RR = (L, some rr) from HRk.out.2.1 rfl)
          go_wp2_with fail
          refine cMay.out.mono ?_
          rintro e W1 ⟨rfl, hB⟩
          go_wp2
          go_ret2
          rw [HB.out]
          exact ⟨⟨_, L, rfl, ownsRow_below HO.out hB, fun _ => rfl, hF.out⟩, ⟨_, HT.out.same hB, fun _ => rfl⟩, hg.trans (only_of_below hB _)⟩
        | false =>
          have HB := Lib.hid (show RR.2.isSome = false from HRk.out.1.symm)
          go_wp2_with fail
          refine cMay.out.mono ?_
          rintro e W1 ⟨rfl, hB⟩
          go_wp2
          go_ret2
          rw [HB.out]
          exact ⟨⟨_, L, rfl, ownsRow_below HO.out hB, fun h => (by cases h), hF.out⟩, ⟨_, HT.out.same hB, fun h => by cases h⟩, hg.trans (only_of_below hB _)⟩
    · have hd : decide (k < n) = true := by simpa using hlt
      have cT := Lib.hid (fun W h => rtext_calls 16 bt B (rIt S0 k).2 W h (by omega))
      have cM := Lib.hid (fun W h => rnum_calls 1 1099511627776 bt B (tText 16 (rIt S0 k).2).2 W h)
      have HSk := Lib.hid (HS.out k)
      have HO := Lib.hid hown
      have HT := Lib.hid hT
      rw [hr] at hT
      obtain ⟨tv, lo, hO, -⟩ := hT.some_form
      have q := hO.cell (j := 1) rfl
      clear hown hT hr
      generalize rIt S0 k = rk at *
      generalize tText 16 rk.2 = tx at *
      generalize tNum 1 1099511627776 tx.2 = ty at *
      have HTa := Lib.hid (HT.out.kept (World.grownBy_alloc wr (.cells #[.string ⟨#[]⟩, .int .i64 0] 50) none) (by simp) (by simp))
      have HOa := Lib.hid (HO.out.alloc (.cells #[.string ⟨#[]⟩, .int .i64 0] 50))
      have hgb := HO.out.lt
      have hsw : w.heap.size ≤ wr.heap.size := hg.size
      have hb0 := Ob.new wr 50 #[.string ⟨#[]⟩, .int .i64 0]
      have hga0 : w.grownBy (wr.alloc (.cells #[.string ⟨#[]⟩, .int .i64 0] 50)) (some bt) := hg.trans (World.grownBy_alloc wr _ _)
      generalize hbx : wr.heap.size = bx at hb0 hgb hsw
      have HBX := Lib.hid hbx
      clear hbx
      go_wp2_with fail
      rw [HBX.out]
      generalize wr.alloc (.cells #[.string ⟨#[]⟩, .int .i64 0] 50) = Wa at *
      refine (cT.out _ HTa.out).mono ?_
      rintro e W1 ⟨rfl, hT1, hg1⟩
      generalize bs tx.1 = tb at *
      generalize ty.1 = tn at *
      have hneb : some bx ≠ some bt := fun e => by have := Option.some.inj e; omega
      have hb1 := hb0.kept hg1 hneb
      have HO1 := Lib.hid (ownsRow_far HOa.out hg1 hbt)
      have hgs1 := grownBy_set W1 bx 0 (.string tb)
      have HT1 := Lib.hid (hT1.kept hgs1 (fun e => hneb e.symm) (fun g e => by have := Option.some.inj e; omega))
      have HO2 := Lib.hid (HO1.out.kept hgs1 (by cases hv : u5.ownBlock with | none => exact .inl rfl | some g => exact .inr (fun e => by have := (hgb g hv).2; have := Option.some.inj e; omega)))
      have hb2 := hb1.set 0 (.string tb)
      have q10 := hb1.cell (j := 0) rfl
      have q11 := hb1.cell (j := 1) rfl
      have f10 := hb1.frozen 0
      have hgg1 := (hga0.trans hg1).andThen hgs1 (fun j e => .inl (by have := Option.some.inj e; omega))
      clear hT1
      go_wp2_with fail
      refine (cM.out _ HT1.out).mono ?_
      rintro e W2 ⟨rfl, hT2, hg2, -⟩
      have hb3 := hb2.kept hg2 hneb
      have HO3 := Lib.hid (ownsRow_far HO2.out hg2 hbt)
      have hgs2 := grownBy_set W2 bx 1 (.int .i64 tn)
      have HT2 := Lib.hid (hT2.kept hgs2 (fun e => hneb e.symm) (fun g e => by have := Option.some.inj e; omega))
      have HO4 := HO3.out.kept hgs2 (by cases hv : u5.ownBlock with | none => exact .inl rfl | some g => exact .inr (fun e => by have := (hgb g hv).2; have := Option.some.inj e; omega))
      have q30 : W2.cell? ⟨bx, 0, none⟩ = some (.string tb) := hb3.cell (j := 0) rfl
      have q31 : W2.cell? ⟨bx, 1, none⟩ = some (.int .i64 0) := hb3.cell (j := 1) rfl
      have f31 := hb3.frozen 1
      have hgg := (hgg1.trans hg2).andThen hgs2 (fun j e => .inl (by have := Option.some.inj e; omega))
      have hsz : w.heap.size ≤ (W2.setCell ⟨bx, 1, none⟩ (.int .i64 tn)).heap.size := hgg.size
      have hsz2 : w.heap.size ≤ W2.heap.size := (hgg1.trans hg2).size
      have HSL := Lib.hid (show Sl ((W2.setCell ⟨bx, 1, none⟩ (.int .i64 tn)).alloc (.cells #[.string tb, .int .i64 tn] 50)) W2.heap.size (W2.heap.size + 1) 2 (.slice (some ⟨W2.heap.size, 0, none⟩) 1 1) 1 [.string tb, .int .i64 tn] by
        have := Sl.new (W2.setCell ⟨bx, 1, none⟩ (.int .i64 tn)) #[.string tb, .int .i64 tn] 50 (n := 1) (size := 2) rfl (by unfold maxLen; omega)
        rwa [show (W2.setCell ⟨bx, 1, none⟩ (.int .i64 tn)).heap.size = W2.heap.size by simp [World.setCell]] at this)
      clear hT2 q10 q11 f10 hgs1 hgs2 hg1 hg2 hgg1 hga0 hb0 hb1 hb2 hb3
      go_wp2_with (at_builtin
                   refine wpList_append_sl _ rfl (.tmp 29) (.tmp 31) _ rfl w.heap.size 50 i0 _ 2 24 Tryz.underlying22 hi0 hz0 hz1 hz2 rfl (by omega) u5 k _ rfl (HO4.alloc _) W2.heap.size (W2.heap.size + 1) _ 1 [.string tb, .int .i64 tn] rfl HSL.out (by simp [Value.oneCell']) (by unfold maxLen; omega) (by omega) (by simp; omega) ?_
                   intro v1 w5 hv1 hg1 hat1)
      generalize W2.setCell ⟨bx, 1, none⟩ (.int .i64 tn) = W3 at *
      have hga : W3.grownBy (W3.alloc (.cells #[.string tb, .int .i64 tn] 50)) (some bt) := World.grownBy_alloc W3 _ _
      have hg5 : w.grownBy w5 (some bt) := (hgg.trans hga).andThen hg1 fun j hj => .inl (HO4.lt j hj).1
      have hT5 := (HT2.out.kept (World.grownBy_alloc W3 (.cells #[.string tb, .int .i64 tn] 50) none) (by simp) (by simp)).kept hg1 (fun e => by have := (HO4.lt bt e.symm).1; omega) (fun g e => by have := (HO4.lt g e).1; omega)
      clear hg1 hat1 hga hgg HO4 hsz
      go_roundw
      case rel =>
        refine ⟨k + 1, by omega, by go_num, ?_, ?_, hg5⟩
        · rw [HSk.out, itemCells_snoc]; exact hv1
        · rw [HSk.out]; exact hT5
      case measure => simp [intOf]; omega

end It
end Go.Proofs.YthfpfomifebpbaaGreat

namespace Go.Proofs.YthfpfomifebpbaaGreat
open Go.RowKit
namespace It
open Ce
attribute [local go_sem] Oper.semAt_some

theorem _root_.Go.Proofs.YthfpfomifebpbaaGreat.Ce.Mk.wide {w : World} {bm : Nat} {Fr : Nat → Prop} {s : List UInt8 × Bool} (h : Mk w bm Fr s) :
    ∃ Fr', (∀ i, Fr i → Fr' i) ∧ (∀ i o, w.heap[i]? = some o → o.isCells = false → Fr' i) ∧ Mk w bm Fr' s := by
  obtain ⟨h1, h2, h3, v, hO, hR, hG⟩ := h
  refine ⟨fun i => i < w.heap.size ∧ i ≠ bm ∧ v.ownBlock ≠ some i, fun i hi => ⟨h3 i hi, fun e => h2 (e ▸ hi), fun e => hG i e hi⟩, fun i o ho hc => ⟨(Array.getElem?_eq_some_iff.1 ho).1, fun e => ?_, fun e => ?_⟩, h1, fun h => h.2.1 rfl, fun i hi => hi.1, v, hO, hR, fun g hg h => h.2.2 hg⟩
  · subst e
    rw [show w.heap[i]? = _ from hO] at ho
    cases ho
    cases hc
  · rcases hR.2 with ⟨rfl, _⟩ | ⟨g, cap, cur, rfl, _, hgb, _⟩
    · cases e
    · obtain rfl : g = i := by simpa [Value.ownBlock] using e
      rw [hgb] at ho
      cases ho
      cases hc
theorem _root_.Go.Proofs.YthfpfomifebpbaaGreat.Ce.Mk.narrow {w : World} {bm : Nat} {Fr Fr' : Nat → Prop} {s : List UInt8 × Bool} (h : Mk w bm Fr s) (hF : ∀ i, Fr' i → Fr i) : Mk w bm Fr' s := by
  obtain ⟨h1, h2, h3, v, hO, hR, hG⟩ := h
  exact ⟨h1, fun h => h2 (hF _ h), fun i hi => h3 i (hF i hi), v, hO, hR, fun g hg h => hG g hg (hF _ h)⟩
theorem _root_.Go.Proofs.YthfpfomifebpbaaGreat.Ce.Mk.keep {A B : World} {row : Option Nat} {bm : Nat} {Fr : Nat → Prop} {s : List UInt8 × Bool} (h : Mk A bm Fr s) (hg : A.grownBy B row) (hr : ∀ r, row = some r → ∃ o : Obj, A.heap[r]? = some o ∧ o.isCells = false) : Mk B bm Fr s := by
  obtain ⟨h1, h2, h3, v, hO, hR, hG⟩ := h
  refine ⟨h1, h2, fun i hi => Nat.lt_of_lt_of_le (h3 i hi) hg.size, v, hO.kept hg (fun e => ?_), row_keep hR hg hr, hG⟩
  obtain ⟨o, ho, hc⟩ := hr bm e.symm
  rw [show A.heap[bm]? = _ from hO] at ho
  cases ho
  cases hc
theorem keeps_kept {A B : World} {n : Nat} {Fr : Nat → Prop} (h : Kept Fr A B) (hF : ∀ i o, A.heap[i]? = some o → o.isCells = false → Fr i) : KeepsFrom n A B :=
  ⟨h.size, fun k o _ hk hc => (h.block k (hF k o hk hc)).trans hk⟩
theorem kept_boxed {A B : World} {Fr : Nat → Prop} {b : Nat} {t : TypeId} {v : Value} (h : Kept Fr A B) (hb : Boxed A b t v) (hF : Fr b) : Boxed B b t v := (h.block b hF).trans hb

def codeI (L : List Item) : List UInt8 := if may L then Ce.encI L else []
/-- the cells so far -/
def encTo {L : List Item} (pre : List (Of L)) : List UInt8 := numC L.length ++ cellsI (vals pre)

end It
end Go.Proofs.YthfpfomifebpbaaGreat

namespace Go.Proofs.YthfpfomifebpbaaGreat
open Go.RowKit
namespace Ce

/-- a flag's number -/
def flN (b : Bool) : Int := if b then 1 else 0

theorem mflag_calls (f : Bool) (bm : Nat) (Fr : Nat → Prop) (s : List UInt8 × Bool) (w : World) (hM : Mk w bm Fr s) :
    Calls Tryz.prog 50 #[.pointer (some ⟨bm, 0, none⟩), .bool f] w fun e w' => e = .returned (.pointer (some ⟨bm, 0, none⟩)) ∧ Mk w' bm Fr (mPut s (numC (flN f))) ∧ Kept Fr w w' := by
  cases f
  · have cN := Lib.hid (mnum_calls 0 bm Fr s w hM (by omega) (by omega))
    have HE := Lib.hid (show flN false = 0 from rfl)
    clear hM
    go_enter Tryz.func50, Tryz.ntmps50
    go_wp2_with fail
    refine cN.out.mono ?_
    rintro e W1 ⟨rfl, hM1, hK1⟩
    go_wp2
    go_ret
    exact ⟨rfl, by rw [HE.out]; exact hM1, hK1⟩
  · have cN := Lib.hid (mnum_calls 1 bm Fr s w hM (by omega) (by omega))
    have HE := Lib.hid (show flN true = 1 from rfl)
    clear hM
    go_enter Tryz.func50, Tryz.ntmps50
    go_wp2_with fail
    refine cN.out.mono ?_
    rintro e W1 ⟨rfl, hM1, hK1⟩
    go_wp2
    go_ret
    exact ⟨rfl, by rw [HE.out]; exact hM1, hK1⟩
theorem refmflag_calls (f : Bool) (bm : Nat) (s : List UInt8 × Bool) (w : World) (hM : Rm w bm s) :
    Calls Tryz.prog 59 #[.pointer (some ⟨bm, 0, none⟩), .bool f] w fun e w' => e = .returned (.tuple #[]) ∧ Rm w' bm (mPut s (numC (flN f))) ∧ w.grownBy w' (some bm) := by
  cases f
  · have cN := Lib.hid (refmnum_calls 0 bm s w hM (by omega) (by omega))
    have HE := Lib.hid (show flN false = 0 from rfl)
    clear hM
    go_enter Tryz.func59, Tryz.ntmps59
    go_wp2_with fail
    refine cN.out.mono ?_
    rintro e W1 ⟨rfl, hM1, hK1⟩
    go_wp2
    go_end0
    exact ⟨rfl, by rw [HE.out]; exact hM1, hK1⟩
  · have cN := Lib.hid (refmnum_calls 1 bm s w hM (by omega) (by omega))
    have HE := Lib.hid (show flN true = 1 from rfl)
    clear hM
    go_enter Tryz.func59, Tryz.ntmps59
    go_wp2_with fail
    refine cN.out.mono ?_
    rintro e W1 ⟨rfl, hM1, hK1⟩
    go_wp2
    go_end0
    exact ⟨rfl, by rw [HE.out]; exact hM1, hK1⟩
/-- a flag that is taken -/
def tFlag (st : Tst) : Bool × Tst := ((tNum 0 1 st).1 == 1, (tNum 0 1 st).2)
theorem tflag_calls (bt B : Nat) (st : Tst) (w : World) (h : Tk 122 w bt B st) :
    Calls Tryz.prog 55 #[.pointer (some ⟨bt, 0, none⟩)] w fun e w' => e = .returned (.bool (tFlag st).1) ∧ Tk 122 w' bt B (tFlag st).2 ∧ w.grownBy w' (some bt) := by
  have cN := Lib.hid (tnum_calls 0 1 bt B st w h)
  have HE := Lib.hid (show tFlag st = ((tNum 0 1 st).1 == 1, (tNum 0 1 st).2) from rfl)
  clear h
  generalize tFlag st = R at *
  generalize tNum 0 1 st = N at *
  go_enter Tryz.func55, Tryz.ntmps55
  go_wp2_with fail
  refine cN.out.mono ?_
  rintro e W1 ⟨rfl, hT1, hg1, -⟩
  go_wp2
  go_ret
  exact ⟨by rw [HE.out]; rfl, by rw [HE.out]; exact hT1, hg1⟩
theorem rflag_calls (bt B : Nat) (st : Tst) (w : World) (h : Tk 94 w bt B st) :
    Calls Tryz.prog 62 #[.pointer (some ⟨bt, 0, none⟩)] w fun e w' => e = .returned (.bool (tFlag st).1) ∧ Tk 94 w' bt B (tFlag st).2 ∧ w.grownBy w' (some bt) := by
  have cN := Lib.hid (rnum_calls 0 1 bt B st w h)
  have HE := Lib.hid (show tFlag st = ((tNum 0 1 st).1 == 1, (tNum 0 1 st).2) from rfl)
  clear h
  generalize tFlag st = R at *
  generalize tNum 0 1 st = N at *
  go_enter Tryz.func62, Tryz.ntmps62
  go_wp2_with fail
  refine cN.out.mono ?_
  rintro e W1 ⟨rfl, hT1, hg1, -⟩
  go_wp2
  go_ret
  exact ⟨by rw [HE.out]; rfl, by rw [HE.out]; exact hT1, hg1⟩
end Ce
end Go.Proofs.YthfpfomifebpbaaGreat

namespace Go.Proofs.YthfpfomifebpbaaGreat
open Go.RowKit
namespace It
open Ce
attribute [local go_sem] Oper.semAt_some

theorem _root_.Go.Proofs.YthfpfomifebpbaaGreat.Ce.Mk.wrote {w w' : World} {bm b : Nat} {Fr : Nat → Prop} {s : List UInt8 × Bool} (h : Mk w bm Fr s) (hg : w.grownBy w' (some b)) (hb : Fr b) : Mk w' bm Fr s := by
  obtain ⟨h1, h2, h3, v, hO, hR, hG⟩ := h
  exact ⟨h1, h2, fun i hi => Nat.lt_of_lt_of_le (h3 i hi) hg.size, v, hO.kept hg (fun e => h2 (by cases e; exact hb)), hR.kept hg (.inr fun e => hG b e hb), hG⟩
theorem ob_keepC {A B : World} {row : Option Nat} {b : Nat} {t : TypeId} {cs : Array Value} (h : Ob A b t cs) (hg : A.grownBy B row) (hr : ∀ r, row = some r → ∃ o : Obj, A.heap[r]? = some o ∧ o.isCells = false) : Ob B b t cs :=
  h.kept hg fun e => by
    obtain ⟨o, h1, h2⟩ := hr b e.symm
    rw [show A.heap[b]? = _ from h] at h1
    cases h1
    cases h2

set_option maxRecDepth 100000 in
set_option maxHeartbeats 4000000 in
theorem iput_calls (L : List Item) (v : Value) (bm lo hi : Nat) (Fr : Nat → Prop) (s : List UInt8 × Bool) (w : World) (hM : Mk w bm Fr s) (hI : ItemsAt w lo hi v L) (hhi : hi ≤ w.heap.size) (hFI : ∀ i, lo ≤ i → i < hi → Fr i) (hF : Fits L) (hm : may L = true) :
    Calls Tryz.prog 47 #[.pointer (some ⟨bm, 0, none⟩), v] w fun e w' => e = .returned (.pointer (some ⟨bm, 0, none⟩)) ∧ Mk w' bm Fr (mPutI s L) ∧ Kept Fr w w' := by
  obtain ⟨A, c, rfl, hc1, hc2⟩ := hI.form
  unfold maxLen at hc2
  have HFl := Lib.hid hM.2.2.1
  have h16 := may_len hm
  have HSm := Lib.hid (fun x (hx : x ∈ L) => (good_size ((may_iff L).1 hm |>.ok x hx).1).2)
  refine (callsIn_wide (n := 6)).1 ?_
  refine callsIn_of_wp_marks Tryz.func47 rfl trivial ?_ rfl
  simp only [Tryz.ntmps47, List.size_toArray, List.length_cons, List.length_nil, Nat.reduceAdd, Nat.reduceSub, Array.replicate_succ, Array.replicate_zero, List.push_toArray, List.append_toArray, List.nil_append, List.cons_append]
  have hb1 := (Below.refl w.heap.size w).alloc (Nat.le_refl _) (.cells #[.pointer (some ⟨bm, 0, none⟩)] 75)
  have hO1 := Ob.new w 75 #[.pointer (some ⟨bm, 0, none⟩)]
  have hM1 : Mk (w.alloc (.cells #[.pointer (some ⟨bm, 0, none⟩)] 75)) bm (fun i => Fr i ∨ i = w.heap.size) s := hM.later hb1 fun i hi => ⟨hi.elim .inl (fun e => .inr (by omega)), by rw [World.size_alloc]; rcases hi with h | h; exact Nat.lt_succ_of_lt (hM.2.2.1 i h); omega⟩
  have hI1 := hI.keep fun b _ _ hb => World.cell?_of_block (hb1.block b (by omega))
  have cN := Lib.hid (mnum_calls L.length bm _ s _ hM1 (by omega) (by omega))
  generalize hs1 : Ce.mPut s (numC L.length) = s1 at *
  have HE := Lib.hid (show mPutI s L = mPuts s1 L by rw [← hs1]; rfl)
  clear hs1 hM hI hb1
  have hsz1 : (w.alloc (.cells #[.pointer (some ⟨bm, 0, none⟩)] 75)).heap.size = w.heap.size + 1 := by simp
  have q0 := hO1.cell (j := 0) rfl
  gi_wp2_with (first
    | (refine ⟨trivial, ?_⟩; gi_at_call 49; refine (callsIn_wide.2 cN.out).mono ?_; rintro e W2 ⟨rfl, hM2, hK2⟩; have hO2 := hK2.ob hO1 (.inr rfl); have q2 := hO2.frozen 0; have q3 := hO2.cell (j := 0) (v := .pointer (some ⟨bm, 0, none⟩)) rfl)
    | (refine ⟨trivial, ?_⟩; gi_at_call 76; refine (callsIn_wide.2 (all_calls A _ c _)).mono ?_; rintro e w' ⟨rfl, rfl⟩))
  clear cN hM1
  have hM3 := hM2.wrote (grownBy_set W2 w.heap.size 0 (.pointer (some ⟨bm, 0, none⟩))) (.inr rfl)
  have hO3 := hO2.set 0 (.pointer (some ⟨bm, 0, none⟩))
  have hg3 := grownBy_set W2 w.heap.size 0 (.pointer (some ⟨bm, 0, none⟩))
  have hw1 := hK2.size
  rw [hsz1] at hw1
  have hz3 : (W2.setCell ⟨w.heap.size, 0, none⟩ (.pointer (some ⟨bm, 0, none⟩))).heap.size = W2.heap.size := by simp
  have hz4 : ((W2.setCell ⟨w.heap.size, 0, none⟩ (.pointer (some ⟨bm, 0, none⟩))).alloc (.cells #[.slice A L.length c] 22)).heap.size = W2.heap.size + 1 := by simp
  have hM4 := hM3.alloc (.cells #[.slice A L.length c] 22)
  have hO4 : Ob ((W2.setCell ⟨w.heap.size, 0, none⟩ (.pointer (some ⟨bm, 0, none⟩))).alloc (.cells #[.slice A L.length c] 22)) w.heap.size 75 #[.pointer (some ⟨bm, 0, none⟩)] := hO3.alloc (.cells #[.slice A L.length c] 22)
  have hc4 : ((W2.setCell ⟨w.heap.size, 0, none⟩ (.pointer (some ⟨bm, 0, none⟩))).alloc (.cells #[.slice A L.length c] 22)).cell? ⟨W2.heap.size, 0, none⟩ = some (.slice A L.length c) := by
    have := (Ob.new (W2.setCell ⟨w.heap.size, 0, none⟩ (.pointer (some ⟨bm, 0, none⟩))) 22 #[.slice A L.length c]).cell (j := 0) rfl
    rwa [hz3] at this
  have hI4 : ItemsAt ((W2.setCell ⟨w.heap.size, 0, none⟩ (.pointer (some ⟨bm, 0, none⟩))).alloc (.cells #[.slice A L.length c] 22)) lo hi (.slice A L.length c) L :=
    Sl.grown (Sl.grown (hK2.sl hI1 (fun i a b => .inl (hFI i a b))) hg3 (by omega) (fun k e => .inr (by cases e; exact hhi))) (World.grownBy_alloc _ _ none) (by omega) (by simp)
  have hK4 : Kept Fr w ((W2.setCell ⟨w.heap.size, 0, none⟩ (.pointer (some ⟨bm, 0, none⟩))).alloc (.cells #[.slice A L.length c] 22)) :=
    (((Kept.of_grown (World.grownBy_alloc w _ none) (fun i hi => ⟨HFl.out i hi, by simp⟩)).trans (hK2.mono fun i hi => .inl hi)).trans (Kept.of_grown hg3 (fun i hi => ⟨by have := HFl.out i hi; omega, fun e => by have := HFl.out i hi; cases e; omega⟩))).trans (Kept.of_grown (World.grownBy_alloc _ _ none) (fun i hi => ⟨by have := HFl.out i hi; omega, by simp⟩))
  clear hM2 hK2 hO2 q2 q3 hM3 hO3 hg3 hI1 hO1 q0 hsz1 hz3
  generalize ((W2.setCell ⟨w.heap.size, 0, none⟩ (.pointer (some ⟨bm, 0, none⟩))).alloc (.cells #[.slice A L.length c] 22)) = W4 at *
  refine range_allK (n := 6) rfl trivial (by omega) (Bs := W2.heap.size) (lo := lo) (hi := hi) (v := .slice A L.length c) (L := L) rfl rfl Fr (fun i hi => by have := HFl.out i hi; omega) hFI (by omega) hc4 hI4 (by omega)
    (fun pre W => Ob W w.heap.size 75 #[.pointer (some ⟨bm, 0, none⟩)] ∧ Mk W bm (fun i => Fr i ∨ i = w.heap.size) (mPuts s1 (vals pre)) ∧ Kept Fr w W)
    (fun _ _ _ => False)
    (fun s A B row hs hg hr => ⟨ob_keepC hs.1 hg (fun r e => (hr r e).2), hs.2.1.keep hg (fun r e => (hr r e).2), hs.2.2.trans (Kept.of_grown hg (fun i hi => ⟨by have := HFl.out i hi; have := hs.2.2.size; omega, fun e => by have := (hr i e.symm).1; have := HFl.out i hi; omega⟩))⟩)
    (fun c s A B row hs hg hr => hs.elim)
    ⟨hO4, hM4, hK4⟩
    (fun x => { tmps := #[.pointer (some ⟨bm, 0, none⟩), .slice A L.length c, .pointer (some ⟨w.heap.size, 0, none⟩), undef, .pointer none, .string x.1.1, .int .i64 x.1.2, .pointer (some ⟨bm, 0, none⟩), .slice A L.length c, .int .i64 L.length, .pointer (some ⟨bm, 0, none⟩), .slice A L.length c, .func (.func 112) #[] #[.pointer (some ⟨W2.heap.size, 0, none⟩)], .string x.1.1, .int .i64 x.1.2, undef, undef, undef, undef, undef, undef], defers := [] }) ?assign ?body ?done ?stop
  case assign =>
    intro l x W K hK
    dsimp only [enc2]
    gi_wp2
    exact hK
  case body =>
    rintro l pre ⟨⟨xs, xn⟩, hx⟩ W ⟨hO, hM, hK⟩ hlen
    have hfit := hF _ hx
    have hxs := HSm.out _ hx
    obtain ⟨Fr', hF1, hF2, hMw⟩ := hM.wide
    have hc0 := hO.cell (j := 0) (v := .pointer (some ⟨bm, 0, none⟩)) rfl
    dsimp only at hfit hxs ⊢
    have HP := Lib.hid (show mPuts s1 (vals (pre ++ [⟨(xs, xn), hx⟩])) = Ce.mPut (Ce.mPut (mPuts s1 (vals pre)) (numC xs.size ++ xs.data.toList)) (numC xn) by rw [vals_snoc, mPuts_snoc])
    generalize mPuts s1 (vals pre) = sp at *
    have cT := Lib.hid (mtext_calls xs bm Fr' sp W hMw (by omega))
    have cN2 := Lib.hid (fun W5 h => mnum_calls xn bm Fr' (Ce.mPut sp (numC xs.size ++ xs.data.toList)) W5 h hfit.2.1 hfit.2.2)
    have HO := Lib.hid hO
    have HK := Lib.hid hK
    clear hM hMw hO hK
    generalize Ce.mPut sp (numC xs.size ++ xs.data.toList) = sq at *
    gi_wp2_with (first
      | (refine ⟨trivial, ?_⟩; gi_at_call 88; refine (CallsIn.inRound l (callsIn_wide.2 cT.out)).mono ?_; rintro e W5 ⟨rfl, hM5, hK5⟩)
      | (refine ⟨trivial, ?_⟩; gi_at_call 49; refine (CallsIn.inRound l (callsIn_wide.2 (cN2.out W5 hM5))).mono ?_; rintro e W6 ⟨rfl, hM6, hK6⟩; have q6 := ((hK5.trans hK6).ob HO.out (hF1 _ (.inr rfl))).frozen 0; have q7 := ((hK5.trans hK6).ob HO.out (hF1 _ (.inr rfl))).cell (j := 0) (v := .pointer (some ⟨bm, 0, none⟩)) rfl))
    have hKK := hK5.trans hK6
    have hg6 := grownBy_set W6 w.heap.size 0 (.pointer (some ⟨bm, 0, none⟩))
    have hsz : w.heap.size ≤ W.heap.size := HK.out.size
    have hw6 := hKK.size
    refine ⟨keeps_set (keeps_kept hKK hF2) _ _, (KeepC.of_kept (hKK.mono fun i hi => hF1 i (.inl hi))).trans (KeepC.of_grown hg6 (fun g e hg => by cases e; have := HFl.out _ hg; omega)), (hKK.ob HO.out (hF1 _ (.inr rfl))).set 0 _, ?_, ?_⟩
    · rw [HP.out]; exact (hM6.narrow hF1).wrote hg6 (.inr rfl)
    · exact (HK.out.trans (hKK.mono fun i hi => hF1 i (.inl hi))).trans (Kept.of_grown hg6 (fun i hi => ⟨by have := HFl.out i hi; omega, fun e => by have := HFl.out i hi; cases e; omega⟩))
  case done =>
    rintro D W hD ⟨hO, hM, hK⟩ hKD
    have hE : mPuts s1 (vals L.attach) = mPutI s L := by rw [vals_all, HE.out]
    rw [hE] at hM
    clear hE
    have hc0 := hO.cell (j := 0) (v := .pointer (some ⟨bm, 0, none⟩)) rfl
    gi_wp2
    refine ⟨by simp, .inl ⟨_, _, rfl, run_takeDeferred hKD, ?_⟩⟩
    have hgD := grownBy_putObj' W D (.deferred none)
    refine ⟨.pointer (some ⟨bm, 0, none⟩), ?_, rfl, (hM.keep hgD (fun r e => by cases e; exact ⟨_, hKD, rfl⟩)).narrow (fun i hi => .inl hi), hK.trans (Kept.of_grown hgD (fun i hi => ⟨by have := HFl.out i hi; have := hK.size; omega, fun e => by have := HFl.out i hi; cases e; omega⟩))⟩
    simp [results, Tryz.f47, go_sem]
  case stop =>
    rintro D c pre W hD hpre h
    exact h.elim
end It
end Go.Proofs.YthfpfomifebpbaaGreat

namespace Go.Proofs.YthfpfomifebpbaaGreat
open Go.RowKit Go.Maps
namespace Sa
open It Ce

theorem ob_drewn {w : World} {b : Nat} {t : TypeId} {cs : Array Value} (h : Ob w b t cs) : Ob w.drew b t cs := h
def encG (L : List (List It.Item)) : List UInt8 := L.flatMap Ce.encI
def numsC (l : List Int) : List UInt8 := l.flatMap numC
theorem encG_succ (L : List (List It.Item)) {k : Nat} (hk : k < L.length) : encG (L.take (k + 1)) = encG (L.take k) ++ Ce.encI (L.getD k []) := by
  unfold encG
  rw [List.take_succ_eq_append_getElem hk, List.flatMap_append, getD_get hk]
  simp
theorem numsC_succ (l : List Int) {k : Nat} (hk : k < l.length) : numsC (l.take (k + 1)) = numsC (l.take k) ++ numC (l.getD k 0) := by
  unfold numsC
  rw [List.take_succ_eq_append_getElem hk, List.flatMap_append, getD_get hk]
  simp
theorem encG_len : ∀ {L : List (List It.Item)}, (∀ l ∈ L, may l = true) → (encG L).length ≤ L.length * 600
  | [], _ => by simp [encG]
  | l :: L, h => by
    have h1 := Ce.encI_len (h l (by simp))
    have h2 := encG_len (L := L) fun x hx => h x (List.mem_cons_of_mem _ hx)
    show (Ce.encI l ++ encG L).length ≤ _
    rw [List.length_append, List.length_cons]
    omega
theorem numsC_len : ∀ l : List Int, (numsC l).length ≤ l.length * 9
  | [] => by simp [numsC]
  | x :: l => by
    have h1 := (numC_len x).2
    have h2 := numsC_len l
    show (numC x ++ numsC l).length ≤ _
    rw [List.length_append, List.length_cons]
    omega
/-- the code up to what regions hold -/
def encA (s : Saga) : List UInt8 := numC s.order ++ numC s.first ++ numC s.regions ++ Ce.encI s.want
def encB (s : Saga) : List UInt8 := encA s ++ numC (flN s.waits) ++ numC s.state ++ numC s.asked
def encS (s : Saga) : List UInt8 := encB s ++ encG s.got ++ numC s.pending.length ++ numsC s.pending ++ numC (flN s.cancelled)
theorem encA_len {s : Saga} (h : may s.want = true) : (encA s).length ≤ 700 := by
  unfold encA
  have h1 := (numC_len s.order).2
  have h2 := (numC_len s.first).2
  have h3 := (numC_len s.regions).2
  have h4 := Ce.encI_len h
  simp only [List.length_append]
  omega
theorem encB_len {s : Saga} (h : may s.want = true) : (encB s).length ≤ 800 := by
  unfold encB
  have h1 := (numC_len (flN s.waits)).2
  have h2 := (numC_len s.state).2
  have h3 := (numC_len s.asked).2
  have h4 := encA_len h
  simp only [List.length_append]
  omega

-- a maker that is not too long
theorem mnumS (n : Int) (bm : Nat) (Fr : Nat → Prop) (acc : List UInt8) (w : World) (hM : Mk w bm Fr (acc, false)) (ha : acc.length ≤ 200000) (h0 : -9223372036854775808 ≤ n) (h1 : n ≤ 9223372036854775807) :
    Calls Tryz.prog 49 #[.pointer (some ⟨bm, 0, none⟩), .int .i64 n] w fun e w' => e = .returned (.pointer (some ⟨bm, 0, none⟩)) ∧ Mk w' bm Fr (acc ++ numC n, false) ∧ Kept Fr w w' := by
  have := mnum_calls n bm Fr (acc, false) w hM h0 h1
  rwa [mPut_short (by have := (numC_len n).2; omega)] at this
theorem mflagS (f : Bool) (bm : Nat) (Fr : Nat → Prop) (acc : List UInt8) (w : World) (hM : Mk w bm Fr (acc, false)) (ha : acc.length ≤ 200000) :
    Calls Tryz.prog 50 #[.pointer (some ⟨bm, 0, none⟩), .bool f] w fun e w' => e = .returned (.pointer (some ⟨bm, 0, none⟩)) ∧ Mk w' bm Fr (acc ++ numC (flN f), false) ∧ Kept Fr w w' := by
  have := mflag_calls f bm Fr (acc, false) w hM
  rwa [mPut_short (by have := (numC_len (flN f)).2; omega)] at this
theorem iputS (L : List It.Item) (v : Value) (bm lo hi : Nat) (Fr : Nat → Prop) (acc : List UInt8) (w : World) (hM : Mk w bm Fr (acc, false)) (ha : acc.length ≤ 200000) (hI : ItemsAt w lo hi v L) (hhi : hi ≤ w.heap.size) (hFI : ∀ i, lo ≤ i → i < hi → Fr i) (hF : Fits L) (hm : may L = true) :
    Calls Tryz.prog 47 #[.pointer (some ⟨bm, 0, none⟩), v] w fun e w' => e = .returned (.pointer (some ⟨bm, 0, none⟩)) ∧ Mk w' bm Fr (acc ++ Ce.encI L, false) ∧ Kept Fr w w' := by
  have := iput_calls L v bm lo hi Fr (acc, false) w hM hI hhi hFI hF hm
  rwa [mPutI_short (by have := Ce.encI_len hm; omega)] at this
theorem rnumS (n : Int) (bm : Nat) (acc : List UInt8) (w : World) (hM : Rm w bm (acc, false)) (ha : acc.length ≤ 200000) (h0 : -9223372036854775808 ≤ n) (h1 : n ≤ 9223372036854775807) :
    Calls Tryz.prog 57 #[.pointer (some ⟨bm, 0, none⟩), .int .i64 n] w fun e w' => e = .returned (.tuple #[]) ∧ Rm w' bm (acc ++ numC n, false) ∧ w.grownBy w' (some bm) := by
  have := refmnum_calls n bm (acc, false) w hM h0 h1
  rwa [mPut_short (by have := (numC_len n).2; omega)] at this
theorem rflagS (f : Bool) (bm : Nat) (acc : List UInt8) (w : World) (hM : Rm w bm (acc, false)) (ha : acc.length ≤ 200000) :
    Calls Tryz.prog 59 #[.pointer (some ⟨bm, 0, none⟩), .bool f] w fun e w' => e = .returned (.tuple #[]) ∧ Rm w' bm (acc ++ numC (flN f), false) ∧ w.grownBy w' (some bm) := by
  have := refmflag_calls f bm (acc, false) w hM
  rwa [mPut_short (by have := (numC_len (flN f)).2; omega)] at this
theorem rputS (L : List It.Item) (v : Value) (bm : Nat) (acc : List UInt8) (w : World) (hM : Rm w bm (acc, false)) (ha : acc.length ≤ 200000) (hI : ∀ W, w.grownBy W (some bm) → ItemsAt W 0 W.heap.size v L) (hm : may L = true) :
    Calls Tryz.prog 58 #[.pointer (some ⟨bm, 0, none⟩), v] w fun e w' => e = .returned (.tuple #[]) ∧ Rm w' bm (acc ++ Ce.encI L, false) ∧ w.grownBy w' (some bm) := by
  have hM' := M_of hm
  have := refputi_calls L v bm (acc, false) w hM hI hM'.fits (fun x hx => by have := (good_size (hM'.ok x hx).1).2; omega)
  rwa [mPutI_short (by have := Ce.encI_len hm; omega)] at this
end Sa
end Go.Proofs.YthfpfomifebpbaaGreat

namespace Go.Proofs.YthfpfomifebpbaaGreat
open Go.RowKit Go.Maps
namespace Sa
open It Ce
set_option linter.unusedSimpArgs false

set_option maxRecDepth 100000 in
set_option maxHeartbeats 4000000 in
theorem encode_no (s : Saga) (vw vg vp : Value) (w : World) (h : Parts w 0 w.heap.size s vw vg vp) (hF : Fit s) (hm : mayS s = false) :
    Calls Tryz.prog 17 #[.agg (sagaC s vw vg vp)] w fun e w' => e = .returned (.tuple #[.slice none 0 0, .int .i64 1]) ∧ Below w.heap.size w w' := by
  have hmx : Tryz.prog.follows .mixedOrders = true := by kernel_rfl
  have cM := Lib.hid (fun V (hb : Below w.heap.size w V) => sagamay_calls s _ _ _ V (h.later hb) hF)
  rw [hm] at cM
  obtain ⟨A1, c1, rfl, -⟩ := h.want.form
  obtain ⟨A2, c2, rfl, hg1, hg2⟩ := h.got.form
  obtain ⟨A3, c3, rfl, hp1, hp2, -⟩ := h.pend.form
  unfold maxLen at hg2 hp2
  have HP := Lib.hid h
  have hB := (Below.refl w.heap.size w).alloc (Nat.le_refl _) (.cells #[.int .i64 s.order, .int .i64 s.first, .int .i64 s.regions, .slice A1 s.want.length c1, .bool s.waits, .int .i64 s.state, .int .i64 s.asked, .slice A2 s.got.length c2, .slice A3 s.pending.length c3, .bool s.cancelled] 26)
  have o1 := Ob.new w 26 #[.int .i64 s.order, .int .i64 s.first, .int .i64 s.regions, .slice A1 s.want.length c1, .bool s.waits, .int .i64 s.state, .int .i64 s.asked, .slice A2 s.got.length c2, .slice A3 s.pending.length c3, .bool s.cancelled]
  have hz0 : (w.alloc (.cells #[.int .i64 s.order, .int .i64 s.first, .int .i64 s.regions, .slice A1 s.want.length c1, .bool s.waits, .int .i64 s.state, .int .i64 s.asked, .slice A2 s.got.length c2, .slice A3 s.pending.length c3, .bool s.cancelled] 26)).heap.size = w.heap.size + 1 := World.size_alloc _ _
  clear h
  unfold sagaC
  unfold sagaC at cM
  go_enter Tryz.func17, Tryz.ntmps17
  go_upto_region 1 with (fail)
  generalize w.alloc (.cells #[.int .i64 s.order, .int .i64 s.first, .int .i64 s.regions, .slice A1 s.want.length c1, .bool s.waits, .int .i64 s.state, .int .i64 s.asked, .slice A2 s.got.length c2, .slice A3 s.pending.length c3, .bool s.cancelled] 26) = W0 at *
  go_wp2_with (refine wpList_load_obg (by rfl) _ _ rfl rfl _ o1 Tryz.underlying26 rfl (by kernel_rfl) ?_)
  refine (cM.out _ hB).mono ?_
  rintro e W1 ⟨rfl, hb1⟩
  have hB1 := hB.trans (hb1.mono hB.size)
  have hz1 := hb1.size
  have x1 := o1.same hb1
  clear o1 cM
  go_wp2
  go_ret2
  exact ⟨rfl, hB1⟩

set_option maxRecDepth 100000 in
set_option maxHeartbeats 8000000 in
theorem encode_yes (s : Saga) (vw vg vp : Value) (w : World) (h : Parts w 0 w.heap.size s vw vg vp) (hF : Fit s) (hm : mayS s = true) (hb64 : ∀ x ∈ [s.order, s.first, s.regions, s.state, s.asked] ++ s.pending, -9223372036854775808 ≤ x ∧ x ≤ 9223372036854775807) :
    Calls Tryz.prog 17 #[.agg (sagaC s vw vg vp)] w fun e w' => (∃ v, e = .returned (.tuple #[v, .int .i64 0]) ∧ w'.ownsRow w.heap.size 5 1 v (encS s).length (bytesV (encS s))) ∧ Below w.heap.size w w' := by
  have h64 := Lib.hid hb64
  have hmw := Lib.hid (may_of (mayS_M hm).1)
  have hmg := Lib.hid (fun l hl => may_of ((mayS_M hm).2.1 l hl))
  have hg8 := (mayS_M hm).2.2
  have hp8 := (pend_in hm).2
  have hlA := encA_len hmw.out
  have hlB := encB_len hmw.out
  clear hb64
  have hmx : Tryz.prog.follows .mixedOrders = true := by kernel_rfl
  have cM := Lib.hid (fun V (hb : Below w.heap.size w V) => sagamay_calls s _ _ _ V (h.later hb) hF)
  rw [hm] at cM
  obtain ⟨A1, c1, rfl, -⟩ := h.want.form
  obtain ⟨A2, c2, rfl, hg1, hg2⟩ := h.got.form
  obtain ⟨A3, c3, rfl, hp1, hp2, -⟩ := h.pend.form
  unfold maxLen at hg2 hp2
  have HP := Lib.hid h
  have hB := (Below.refl w.heap.size w).alloc (Nat.le_refl _) (.cells #[.int .i64 s.order, .int .i64 s.first, .int .i64 s.regions, .slice A1 s.want.length c1, .bool s.waits, .int .i64 s.state, .int .i64 s.asked, .slice A2 s.got.length c2, .slice A3 s.pending.length c3, .bool s.cancelled] 26)
  have o1 := Ob.new w 26 #[.int .i64 s.order, .int .i64 s.first, .int .i64 s.regions, .slice A1 s.want.length c1, .bool s.waits, .int .i64 s.state, .int .i64 s.asked, .slice A2 s.got.length c2, .slice A3 s.pending.length c3, .bool s.cancelled]
  have hz0 : (w.alloc (.cells #[.int .i64 s.order, .int .i64 s.first, .int .i64 s.regions, .slice A1 s.want.length c1, .bool s.waits, .int .i64 s.state, .int .i64 s.asked, .slice A2 s.got.length c2, .slice A3 s.pending.length c3, .bool s.cancelled] 26)).heap.size = w.heap.size + 1 := World.size_alloc _ _
  clear h
  unfold sagaC
  unfold sagaC at cM
  go_enter Tryz.func17, Tryz.ntmps17
  go_upto_region 1 with (fail)
  generalize w.alloc (.cells #[.int .i64 s.order, .int .i64 s.first, .int .i64 s.regions, .slice A1 s.want.length c1, .bool s.waits, .int .i64 s.state, .int .i64 s.asked, .slice A2 s.got.length c2, .slice A3 s.pending.length c3, .bool s.cancelled] 26) = W0 at *
  go_wp2_with (refine wpList_load_obg (by rfl) _ _ rfl rfl _ o1 Tryz.underlying26 rfl (by kernel_rfl) ?_)
  refine (cM.out _ hB).mono ?_
  rintro e W1 ⟨rfl, hb1⟩
  have hB1 := hB.trans (hb1.mono hB.size)
  have hz1 := hb1.size
  have x1 := o1.same hb1
  clear o1 cM
  obtain ⟨Fr, hFr⟩ : ∃ Fr : Nat → Prop, Fr = fun i => i < w.heap.size + 1 := ⟨_, rfl⟩
  have hFp : Fr w.heap.size := by rw [hFr]; exact Nat.lt_succ_self _
  have hFl : ∀ i, Fr i → i < w.heap.size + 1 := fun i hi => by rw [hFr] at hi; exact hi
  have hFw : ∀ i, i < w.heap.size → Fr i := fun i hi => by rw [hFr]; exact Nat.lt_succ_of_lt hi
  clear hFr
  have od := ob_drewn x1
  have hBd := hB1.drew
  have hzd : w.heap.size + 1 ≤ W1.drew.heap.size := by have : W1.drew.heap.size = W1.heap.size := rfl; omega
  go_wp2
  refine Pu.regionM [(1, false), (2, false), (4, false), (5, false), (7, false), (8, false), (10, false), (11, false), (0, true), (3, true), (6, true), (9, true), (12, true), (13, false)] (fun V => Ob V w.heap.size 26 #[.int .i64 s.order, .int .i64 s.first, .int .i64 s.regions, .slice A1 s.want.length c1, .bool s.waits, .int .i64 s.state, .int .i64 s.asked, .slice A2 s.got.length c2, .slice A3 s.pending.length c3, .bool s.cancelled]) hmx (by kernel_rfl) (by kernel_rfl) (by kernel_rfl) od rfl ?_
  simp only [Pu.named, List.filterMap_cons, List.filterMap_nil, List.getElem?_toArray, List.getElem?_cons_succ, List.getElem?_cons_zero, Option.map_some]
  iterate 8 (
    apply Pu.WalkM.on (by rfl)
    · intro V hV
      obtain ⟨k0, k1, k2, k3, k4, k5, k6, k7, k8, k9⟩ := ob_ten hV
      go_wp2_with fail
      refine ⟨rfl, ?_, rfl⟩
      try simp only [Act.put, List.setIfInBounds_toArray, List.set_cons_succ, List.set_cons_zero]
      rfl
    simp only [Act.put, List.setIfInBounds_toArray, List.set_cons_succ, List.set_cons_zero])
  generalize W1.drew = Wd at *
  have hM0 := Mk.new Wd Fr (fun i hi => by have := hFl i hi; omega)
  have hal := (Below.refl Wd.heap.size Wd).alloc (Nat.le_refl _) (.cells #[.slice none 0 0, .bool false] 117)
  have hkn : Kept Fr Wd (Wd.alloc (.cells #[.slice none 0 0, .bool false] 117)) := Kept.of_below hal fun i hi => by have := hFl i hi; omega
  have hIw : ∀ V, Kept Fr Wd V → ItemsAt V 0 w.heap.size (.slice A1 s.want.length c1) s.want := fun V hk => hk.sl (Sl.below HP.out.want hBd) fun i _ hi => hFw i hi
  refine Pu.WalkM.make (by rfl) ?_
  intro V hV
  rw [hV]
  clear hV V
  go_wp2_with (go_at_call 48; refine (new_calls _).mono ?_; rintro e V ⟨rfl, rfl⟩)
  refine ⟨rfl, .pointer (some ⟨Wd.heap.size, 0, none⟩), _, (fun V => V = Wd.alloc (.cells #[.slice none 0 0, .bool false] 117)), ?_, rfl, (fun V h => by rw [h]; exact hkn.ob od hFp), (.inr (fun _ h => h)), ?_⟩
  · simp only [Act.put, List.setIfInBounds_toArray, List.set_cons_succ, List.set_cons_zero]
  simp only [Act.put, List.setIfInBounds_toArray, List.set_cons_succ, List.set_cons_zero]
  have C1 := Lib.hid (mnumS s.order Wd.heap.size Fr [] _ hM0 (by simp) (h64.out _ (by simp)).1 (h64.out _ (by simp)).2)
  rw [List.nil_append] at C1
  have C2 := Lib.hid (fun V hV => mnumS s.first Wd.heap.size Fr (numC s.order) V hV (by have := (numC_len s.order).2; omega) (h64.out _ (by simp)).1 (h64.out _ (by simp)).2)
  have C3 := Lib.hid (fun V hV => mnumS s.regions Wd.heap.size Fr (numC s.order ++ numC s.first) V hV (by have := (numC_len s.order).2; have := (numC_len s.first).2; rw [List.length_append]; omega) (h64.out _ (by simp)).1 (h64.out _ (by simp)).2)
  have C4 := Lib.hid (fun V hV (hk : Kept Fr Wd V) => iputS s.want (.slice A1 s.want.length c1) Wd.heap.size 0 w.heap.size Fr (numC s.order ++ numC s.first ++ numC s.regions) V hV (by have := (numC_len s.order).2; have := (numC_len s.first).2; have := (numC_len s.regions).2; rw [List.length_append, List.length_append]; omega) (hIw V hk) (by have := hk.size; omega) (fun i _ hi => hFw i hi) hF.want hmw.out)
  refine Pu.WalkM.make (by rfl) ?_
  intro V hV
  rw [hV]
  clear hV V
  go_wp2_with (go_at_call 49; refine (C1.out).mono ?_; rintro e V1 ⟨rfl, hm1, hk1⟩)
  have hk1 := hkn.trans hk1
  refine ⟨rfl, .pointer (some ⟨Wd.heap.size, 0, none⟩), _, (fun V => V = V1), ?_, rfl, (fun V h => by rw [h]; exact hk1.ob od hFp), (.inr (fun _ h => h)), ?_⟩
  · simp only [Act.put, List.setIfInBounds_toArray, List.set_cons_succ, List.set_cons_zero]
  simp only [Act.put, List.setIfInBounds_toArray, List.set_cons_succ, List.set_cons_zero]
  refine Pu.WalkM.make (by rfl) ?_
  intro V hV
  rw [hV]
  clear hV V
  go_wp2_with (go_at_call 49; refine (C2.out V1 hm1).mono ?_; rintro e V2 ⟨rfl, hm2, hk2⟩)
  have hk2 := hk1.trans hk2
  refine ⟨rfl, .pointer (some ⟨Wd.heap.size, 0, none⟩), _, (fun V => V = V2), ?_, rfl, (fun V h => by rw [h]; exact hk2.ob od hFp), (.inr (fun _ h => h)), ?_⟩
  · simp only [Act.put, List.setIfInBounds_toArray, List.set_cons_succ, List.set_cons_zero]
  simp only [Act.put, List.setIfInBounds_toArray, List.set_cons_succ, List.set_cons_zero]
  refine Pu.WalkM.make (by rfl) ?_
  intro V hV
  rw [hV]
  clear hV V
  go_wp2_with (go_at_call 49; refine (C3.out V2 hm2).mono ?_; rintro e V3 ⟨rfl, hm3, hk3⟩)
  have hk3 := hk2.trans hk3
  refine ⟨rfl, .pointer (some ⟨Wd.heap.size, 0, none⟩), _, (fun V => V = V3), ?_, rfl, (fun V h => by rw [h]; exact hk3.ob od hFp), (.inr (fun _ h => h)), ?_⟩
  · simp only [Act.put, List.setIfInBounds_toArray, List.set_cons_succ, List.set_cons_zero]
  simp only [Act.put, List.setIfInBounds_toArray, List.set_cons_succ, List.set_cons_zero]
  refine Pu.WalkM.make (by rfl) ?_
  intro V hV
  rw [hV]
  clear hV V
  go_wp2_with (go_at_call 47; refine (C4.out V3 hm3 hk3).mono ?_; rintro e V4 ⟨rfl, hm4, hk4⟩)
  have hk4 := hk3.trans hk4
  refine ⟨rfl, .pointer (some ⟨Wd.heap.size, 0, none⟩), _, (fun V => V = V4), ?_, rfl, (fun V h => by rw [h]; exact hk4.ob od hFp), (.inr (fun _ h => h)), ?_⟩
  · simp only [Act.put, List.setIfInBounds_toArray, List.set_cons_succ, List.set_cons_zero]
  simp only [Act.put, List.setIfInBounds_toArray, List.set_cons_succ, List.set_cons_zero]
  iterate 1 (
    apply Pu.WalkM.on (by rfl)
    · intro V hV
      obtain ⟨k0, k1, k2, k3, k4, k5, k6, k7, k8, k9⟩ := ob_ten hV
      go_wp2_with fail
      refine ⟨rfl, ?_, rfl⟩
      try simp only [Act.put, List.setIfInBounds_toArray, List.set_cons_succ, List.set_cons_zero]
      rfl
    simp only [Act.put, List.setIfInBounds_toArray, List.set_cons_succ, List.set_cons_zero])
  refine Pu.WalkM.nil ?_
  intro V hV
  rw [hV]
  clear hV V
  have hm4 : Mk V4 Wd.heap.size Fr (encA s, false) := hm4
  have hm4d : Mk V4.drew Wd.heap.size Fr (encA s, false) := hm4
  have o4 := ob_drewn (hk4.ob od hFp)
  have hk4d : Kept Fr Wd V4.drew := ⟨hk4.os, hk4.tape, hk4.output, hk4.size, hk4.block⟩
  clear hm1 hm2 hm3 hm4 hk1 hk2 hk3 C1 C2 C3 C4 hM0 hal hkn hk4
  have C5 := Lib.hid (mflagS s.waits Wd.heap.size Fr (encA s) V4.drew hm4d (by omega))
  have C6 := Lib.hid (fun V hV => mnumS s.state Wd.heap.size Fr (encA s ++ numC (flN s.waits)) V hV (by have := (numC_len (flN s.waits)).2; rw [List.length_append]; omega) (h64.out _ (by simp)).1 (h64.out _ (by simp)).2)
  have C7 := Lib.hid (fun V hV => mnumS s.asked Wd.heap.size Fr (encA s ++ numC (flN s.waits) ++ numC s.state) V hV (by have := (numC_len (flN s.waits)).2; have := (numC_len s.state).2; rw [List.length_append, List.length_append]; omega) (h64.out _ (by simp)).1 (h64.out _ (by simp)).2)
  go_wp2
  refine Pu.regionM [(0, false), (1, false), (2, false), (4, false), (5, false), (7, false), (8, false), (3, true), (6, true), (9, true)] (fun V => Ob V w.heap.size 26 #[.int .i64 s.order, .int .i64 s.first, .int .i64 s.regions, .slice A1 s.want.length c1, .bool s.waits, .int .i64 s.state, .int .i64 s.asked, .slice A2 s.got.length c2, .slice A3 s.pending.length c3, .bool s.cancelled]) hmx (by kernel_rfl) (by kernel_rfl) (by kernel_rfl) o4 rfl ?_
  simp only [Pu.named, List.filterMap_cons, List.filterMap_nil, List.getElem?_toArray, List.getElem?_cons_succ, List.getElem?_cons_zero, Option.map_some]
  iterate 7 (
    apply Pu.WalkM.on (by rfl)
    · intro V hV
      obtain ⟨k0, k1, k2, k3, k4, k5, k6, k7, k8, k9⟩ := ob_ten hV
      go_wp2_with fail
      refine ⟨rfl, ?_, rfl⟩
      try simp only [Act.put, List.setIfInBounds_toArray, List.set_cons_succ, List.set_cons_zero]
      rfl
    simp only [Act.put, List.setIfInBounds_toArray, List.set_cons_succ, List.set_cons_zero])
  refine Pu.WalkM.make (by rfl) ?_
  intro V hV
  rw [hV]
  clear hV V
  go_wp2_with (go_at_call 50; refine (C5.out).mono ?_; rintro e V5 ⟨rfl, hm5, hk5⟩)
  have hk5 := hk4d.trans hk5
  refine ⟨rfl, .pointer (some ⟨Wd.heap.size, 0, none⟩), _, (fun V => V = V5), ?_, rfl, (fun V h => by rw [h]; exact hk5.ob od hFp), (.inr (fun _ h => h)), ?_⟩
  · simp only [Act.put, List.setIfInBounds_toArray, List.set_cons_succ, List.set_cons_zero]
  simp only [Act.put, List.setIfInBounds_toArray, List.set_cons_succ, List.set_cons_zero]
  refine Pu.WalkM.make (by rfl) ?_
  intro V hV
  rw [hV]
  clear hV V
  go_wp2_with (go_at_call 49; refine (C6.out V5 hm5).mono ?_; rintro e V6 ⟨rfl, hm6, hk6⟩)
  have hk6 := hk5.trans hk6
  refine ⟨rfl, .pointer (some ⟨Wd.heap.size, 0, none⟩), _, (fun V => V = V6), ?_, rfl, (fun V h => by rw [h]; exact hk6.ob od hFp), (.inr (fun _ h => h)), ?_⟩
  · simp only [Act.put, List.setIfInBounds_toArray, List.set_cons_succ, List.set_cons_zero]
  simp only [Act.put, List.setIfInBounds_toArray, List.set_cons_succ, List.set_cons_zero]
  refine Pu.WalkM.make (by rfl) ?_
  intro V hV
  rw [hV]
  clear hV V
  go_wp2_with (go_at_call 49; refine (C7.out V6 hm6).mono ?_; rintro e V7 ⟨rfl, hm7, hk7⟩)
  have hk7 := hk6.trans hk7
  refine ⟨rfl, .pointer (some ⟨Wd.heap.size, 0, none⟩), _, (fun V => V = V7), ?_, rfl, (fun V h => by rw [h]; exact hk7.ob od hFp), (.inr (fun _ h => h)), ?_⟩
  · simp only [Act.put, List.setIfInBounds_toArray, List.set_cons_succ, List.set_cons_zero]
  simp only [Act.put, List.setIfInBounds_toArray, List.set_cons_succ, List.set_cons_zero]
  refine Pu.WalkM.nil ?_
  intro V hV
  rw [hV]
  clear hV V
  have hm7 : Mk V7 Wd.heap.size Fr (encB s, false) := hm7
  clear hm5 hm6 hk5 hk6 C5 C6 C7 hm4d o4 hk4d
  have o7 := hk7.ob od hFp
  have hgA : ∀ V, Kept Fr Wd V → GotAt V 0 w.heap.size (.slice A2 s.got.length c2) s.got := fun V hk => GotAt.kept (HP.out.got.below hBd) hk fun i _ hi => hFw i hi
  have hpA : ∀ V, Kept Fr Wd V → IntsAt V 0 w.heap.size (.slice A3 s.pending.length c3) s.pending := fun V hk => hk.sl (Sl.below HP.out.pend hBd) fun i _ hi => hFw i hi
  have HGA := Lib.hid hgA
  have HPA := Lib.hid hpA
  have HK7 := Lib.hid hk7
  have HM7 := Lib.hid hm7
  obtain ⟨-, -, -, -, -, -, -, k7, -, -⟩ := ob_ten o7
  clear hgA hpA hIw hk7 hm7
  go_wp2
  go_loopw [6, 38] (fun _ i wr => ∃ k : Nat, k ≤ s.got.length ∧ i = .int .i64 k ∧ Mk wr Wd.heap.size Fr (encB s ++ encG (s.got.take k), false) ∧ Kept Fr Wd wr) (fun _ i _ => s.got.length - (intOf i).toNat)
  case atStart => exact ⟨0, by omega, rfl, by rw [List.take_zero, show encG [] = [] from rfl, List.append_nil]; exact HM7.out, HK7.out⟩
  case round =>
    obtain ⟨k, hk, rfl, hMr, hKr⟩ := hrel
    have hGl := encG_len (L := s.got.take k) fun l hl => hmg.out l (List.mem_of_mem_take hl)
    have hGt : (s.got.take k).length ≤ 8 := by rw [List.length_take]; omega
    by_cases hlt : k < s.got.length
    · have hd : decide ((k : Int) < s.got.length) = true := decide_eq_true (by omega)
      obtain ⟨q, o, x, rfl, -, hq, g1, hx⟩ := (HGA.out wr hKr).cellAt hlt
      have hml := hmg.out _ (List.getElem_mem hlt)
      have hfl := hF.got.get hlt
      rw [← getD_get hlt] at hml
      have hes := encG_succ s.got hlt
      have hwr := hKr.size
      generalize s.got.getD k [] = l at hx hml hfl hes
      have cP := Lib.hid (iputS l x Wd.heap.size 0 w.heap.size Fr _ wr hMr (by rw [List.length_append]; omega) hx (by omega) (fun i _ hi => hFw i hi) hfl hml)
      rw [List.append_assoc, ← hes] at cP
      obtain ⟨A7, c7, rfl, -⟩ := hx.form
      have HK := Lib.hid hKr
      clear hx hes hMr hKr hml hfl hGl hGt
      go_wp2_with fail
      refine cP.out.mono ?_
      rintro e W8 ⟨rfl, hm8, hk8⟩
      have hk8 := HK.out.trans hk8
      go_wp2
      go_roundw
      case rel => exact ⟨k + 1, by omega, by go_num, hm8, hk8⟩
      case measure => simp [intOf]; omega
    · obtain rfl : k = s.got.length := by omega
      have hd : decide ((s.got.length : Int) < s.got.length) = false := decide_eq_false (by omega)
      rw [List.take_length] at hMr hGl hGt
      have orr := hKr.ob od hFp
      obtain ⟨-, -, -, -, -, -, -, -, k8, -⟩ := ob_ten orr
      have cN := Lib.hid (mnumS s.pending.length Wd.heap.size Fr _ wr hMr (by rw [List.length_append]; omega) (by omega) (by omega))
      have hG8 : (encG s.got).length ≤ 4800 := by omega
      have HKR := Lib.hid hKr
      clear hMr hGl hGt hKr k7
      go_wp2_with fail
      refine cN.out.mono ?_
      rintro e W8 ⟨rfl, hm8, hk8⟩
      have hk8 := HKR.out.trans hk8
      have o8 := hk8.ob od hFp
      obtain ⟨-, -, -, -, -, -, -, -, k8, -⟩ := ob_ten o8
      have HM8 := Lib.hid hm8
      have HK8 := Lib.hid hk8
      have hNl := (numC_len (s.pending.length : Int)).2
      clear hm8 hk8 cN
      go_wp2
      go_loopw [8, 54] (fun _ i wr => ∃ k : Nat, k ≤ s.pending.length ∧ i = .int .i64 k ∧ Mk wr Wd.heap.size Fr (encB s ++ encG s.got ++ numC s.pending.length ++ numsC (s.pending.take k), false) ∧ Kept Fr Wd wr) (fun _ i _ => s.pending.length - (intOf i).toNat)
      case atStart => exact ⟨0, by omega, rfl, by rw [List.take_zero, show numsC [] = [] from rfl, List.append_nil]; exact HM8.out, HK8.out⟩
      case round =>
        obtain ⟨j, hj, rfl, hMr, hKr⟩ := hrel
        have hGl := numsC_len (s.pending.take j)
        have hGt : (s.pending.take j).length ≤ 8 := by rw [List.length_take]; omega
        by_cases hlt : j < s.pending.length
        · have hd : decide ((j : Int) < s.pending.length) = true := decide_eq_true (by omega)
          obtain ⟨q, o, rfl, -, hq, g1⟩ := (HPA.out wr hKr).cellAt hlt
          have hes := numsC_succ s.pending hlt
          have hbd := h64.out (s.pending.getD j 0) (by rw [getD_get hlt]; simp)
          have hwr := hKr.size
          generalize s.pending.getD j 0 = y at g1 hes hbd
          have cP := Lib.hid (mnumS y Wd.heap.size Fr _ wr hMr (by simp only [List.length_append]; omega) hbd.1 hbd.2)
          rw [List.append_assoc, ← hes] at cP
          have HK := Lib.hid hKr
          clear hes hMr hKr hGl hGt hbd
          go_wp2_with fail
          refine cP.out.mono ?_
          rintro e W9 ⟨rfl, hm9, hk9⟩
          have hk9 := HK.out.trans hk9
          go_wp2
          go_roundw
          case rel => exact ⟨j + 1, by omega, by go_num, hm9, hk9⟩
          case measure => simp [intOf]; omega
        · obtain rfl : j = s.pending.length := by omega
          have hd : decide ((s.pending.length : Int) < s.pending.length) = false := decide_eq_false (by omega)
          rw [List.take_length] at hMr hGl hGt
          have orr := hKr.ob od hFp
          obtain ⟨-, -, -, -, -, -, -, -, -, k9⟩ := ob_ten orr
          have cF := Lib.hid (mflagS s.cancelled Wd.heap.size Fr _ wr hMr (by simp only [List.length_append]; omega))
          have HKR := Lib.hid hKr
          clear hMr hGl hGt hKr
          go_wp2_with fail
          refine cF.out.mono ?_
          rintro e W9 ⟨rfl, hm9, hk9⟩
          have hk9 := HKR.out.trans hk9
          have hm9 : Mk W9 Wd.heap.size Fr (encS s, false) := hm9
          have cD := Lib.hid (mdone_calls Wd.heap.size Fr (encS s, false) W9 hm9 rfl)
          clear hm9
          have HK9 := Lib.hid hk9
          go_wp2_with fail
          refine cD.out.mono ?_
          rintro e W10 ⟨⟨v, rfl, hv⟩, hb10⟩
          obtain ⟨A9, c9, rfl, -⟩ := (BytesAt.of_own hv).form
          go_wp2
          go_ret2
          have hk9 := HK9.out
          have hb9 : Below w.heap.size w W9 := hBd.trans (hk9.below fun i hi => hFw i hi)
          exact ⟨⟨_, rfl, ownsRow_wide hv (by have := hk9.size; omega)⟩, hb9.trans (hb10.mono hb9.size)⟩
end Sa
end Go.Proofs.YthfpfomifebpbaaGreat

namespace Go.Proofs.YthfpfomifebpbaaGreat
open Go.RowKit Go.Maps
namespace Sa
open It Ce
set_option linter.unusedSimpArgs false

set_option maxRecDepth 100000 in
set_option maxHeartbeats 8000000 in
theorem refencode_calls (s : Saga) (vw vg vp : Value) (w : World) (h : Parts w 0 w.heap.size s vw vg vp) (hm : mayS s = true) (hb64 : ∀ x ∈ [s.order, s.first, s.regions, s.state, s.asked] ++ s.pending, -9223372036854775808 ≤ x ∧ x ≤ 9223372036854775807) :
    Calls Tryz.prog 19 #[.agg (sagaC s vw vg vp)] w fun e w' => (∃ v, e = .returned v ∧ BytesAt w' 0 w'.heap.size v (encS s)) ∧ Below w.heap.size w w' := by
  have h64 := Lib.hid hb64
  have hmw := Lib.hid (may_of (mayS_M hm).1)
  have hmg := Lib.hid (fun l hl => may_of ((mayS_M hm).2.1 l hl))
  have hg8 := (mayS_M hm).2.2
  have hp8 := (pend_in hm).2
  have hlA := encA_len hmw.out
  have hlB := encB_len hmw.out
  obtain ⟨A1, c1, rfl, -⟩ := h.want.form
  obtain ⟨A2, c2, rfl, hg1, hg2⟩ := h.got.form
  obtain ⟨A3, c3, rfl, hp1, hp2, -⟩ := h.pend.form
  unfold maxLen at hg2 hp2
  have HP := Lib.hid h
  have hB := (Below.refl w.heap.size w).alloc (Nat.le_refl _) (.cells #[.int .i64 s.order, .int .i64 s.first, .int .i64 s.regions, .slice A1 s.want.length c1, .bool s.waits, .int .i64 s.state, .int .i64 s.asked, .slice A2 s.got.length c2, .slice A3 s.pending.length c3, .bool s.cancelled] 26)
  have o1 := Ob.new w 26 #[.int .i64 s.order, .int .i64 s.first, .int .i64 s.regions, .slice A1 s.want.length c1, .bool s.waits, .int .i64 s.state, .int .i64 s.asked, .slice A2 s.got.length c2, .slice A3 s.pending.length c3, .bool s.cancelled]
  have hz0 : (w.alloc (.cells #[.int .i64 s.order, .int .i64 s.first, .int .i64 s.regions, .slice A1 s.want.length c1, .bool s.waits, .int .i64 s.state, .int .i64 s.asked, .slice A2 s.got.length c2, .slice A3 s.pending.length c3, .bool s.cancelled] 26)).heap.size = w.heap.size + 1 := World.size_alloc _ _
  have hWI : ∀ V, Below w.heap.size w V → ItemsAt V 0 V.heap.size (.slice A1 s.want.length c1) s.want := fun V hb => (HP.out.later hb).want
  have HWI := Lib.hid hWI
  clear h hb64 hm hWI
  unfold sagaC
  go_enter Tryz.func19, Tryz.ntmps19
  go_upto_region 1 with (fail)
  generalize w.alloc (.cells #[.int .i64 s.order, .int .i64 s.first, .int .i64 s.regions, .slice A1 s.want.length c1, .bool s.waits, .int .i64 s.state, .int .i64 s.asked, .slice A2 s.got.length c2, .slice A3 s.pending.length c3, .bool s.cancelled] 26) = W0 at *
  have hm0 := Rm.new W0
  have o0 := o1.alloc (.cells #[.slice none 0 0, .bool false] 88)
  have hB0 := hB.alloc hB.size (.cells #[.slice none 0 0, .bool false] 88)
  go_upto_region 2 with (fail)
  generalize W0.alloc (.cells #[.slice none 0 0, .bool false] 88) = V0 at *
  rw [hz0] at hm0
  clear hz0 hB o1
  have cX := Lib.hid ((show Calls _ _ _ V0 _ from (by have := rnumS s.order (w.heap.size + 1) [] V0 hm0 (by simp) (h64.out _ (by simp)).1 (h64.out _ (by simp)).2; rw [List.nil_append] at this; exact this)))
  obtain ⟨k0, k1, k2, k3, k4, k5, k6, k7, k8, k9⟩ := ob_ten o0
  go_wp2_with fail
  refine cX.out.mono ?_
  rintro e V1 ⟨rfl, hm1, hg1⟩
  have o1 := o0.kept hg1 (fun e => by have e2 : w.heap.size = (w.heap.size + 1) := Option.some.inj e; omega)
  have hB1 := hB0.grown hg1 (by have := hB0.size; omega) (fun g e => by have e2 : (w.heap.size + 1) = g := Option.some.inj e; omega)
  clear cX k0 k1 k2 k3 k4 k5 k6 k7 k8 k9 hm0 o0 hB0 hg1
  have cX := Lib.hid (rnumS s.first (w.heap.size + 1) _ V1 hm1 (by have := (numC_len s.order).2; omega) (h64.out _ (by simp)).1 (h64.out _ (by simp)).2)
  obtain ⟨k0, k1, k2, k3, k4, k5, k6, k7, k8, k9⟩ := ob_ten o1
  go_wp2_with fail
  refine cX.out.mono ?_
  rintro e V2 ⟨rfl, hm2, hg2⟩
  have o2 := o1.kept hg2 (fun e => by have e2 : w.heap.size = (w.heap.size + 1) := Option.some.inj e; omega)
  have hB2 := hB1.grown hg2 (by have := hB1.size; omega) (fun g e => by have e2 : (w.heap.size + 1) = g := Option.some.inj e; omega)
  clear cX k0 k1 k2 k3 k4 k5 k6 k7 k8 k9 hm1 o1 hB1 hg2
  have cX := Lib.hid (rnumS s.regions (w.heap.size + 1) _ V2 hm2 (by have := (numC_len s.order).2; have := (numC_len s.first).2; simp only [List.length_append]; omega) (h64.out _ (by simp)).1 (h64.out _ (by simp)).2)
  obtain ⟨k0, k1, k2, k3, k4, k5, k6, k7, k8, k9⟩ := ob_ten o2
  go_wp2_with fail
  refine cX.out.mono ?_
  rintro e V3 ⟨rfl, hm3, hg3⟩
  have o3 := o2.kept hg3 (fun e => by have e2 : w.heap.size = (w.heap.size + 1) := Option.some.inj e; omega)
  have hB3 := hB2.grown hg3 (by have := hB2.size; omega) (fun g e => by have e2 : (w.heap.size + 1) = g := Option.some.inj e; omega)
  clear cX k0 k1 k2 k3 k4 k5 k6 k7 k8 k9 hm2 o2 hB2 hg3
  have cX := Lib.hid (rputS s.want (.slice A1 s.want.length c1) (w.heap.size + 1) _ V3 hm3 (by have := (numC_len s.order).2; have := (numC_len s.first).2; have := (numC_len s.regions).2; simp only [List.length_append]; omega) (fun W hg => HWI.out W (hB3.grown hg (by have := hB3.size; omega) (fun g e => by have e2 : (w.heap.size + 1) = g := Option.some.inj e; omega))) hmw.out)
  obtain ⟨k0, k1, k2, k3, k4, k5, k6, k7, k8, k9⟩ := ob_ten o3
  go_wp2_with fail
  refine cX.out.mono ?_
  rintro e V4 ⟨rfl, hm4, hg4⟩
  have o4 := o3.kept hg4 (fun e => by have e2 : w.heap.size = (w.heap.size + 1) := Option.some.inj e; omega)
  have hB4 := hB3.grown hg4 (by have := hB3.size; omega) (fun g e => by have e2 : (w.heap.size + 1) = g := Option.some.inj e; omega)
  clear cX k0 k1 k2 k3 k4 k5 k6 k7 k8 k9 hm3 o3 hB3 hg4
  have hm4 : Rm V4 (w.heap.size + 1) (encA s, false) := hm4
  have cX := Lib.hid (rflagS s.waits (w.heap.size + 1) _ V4 hm4 (by omega))
  obtain ⟨k0, k1, k2, k3, k4, k5, k6, k7, k8, k9⟩ := ob_ten o4
  go_wp2_with fail
  refine cX.out.mono ?_
  rintro e V5 ⟨rfl, hm5, hg5⟩
  have o5 := o4.kept hg5 (fun e => by have e2 : w.heap.size = (w.heap.size + 1) := Option.some.inj e; omega)
  have hB5 := hB4.grown hg5 (by have := hB4.size; omega) (fun g e => by have e2 : (w.heap.size + 1) = g := Option.some.inj e; omega)
  clear cX k0 k1 k2 k3 k4 k5 k6 k7 k8 k9 hm4 o4 hB4 hg5
  have cX := Lib.hid (rnumS s.state (w.heap.size + 1) _ V5 hm5 (by have := (numC_len (flN s.waits)).2; simp only [List.length_append]; omega) (h64.out _ (by simp)).1 (h64.out _ (by simp)).2)
  obtain ⟨k0, k1, k2, k3, k4, k5, k6, k7, k8, k9⟩ := ob_ten o5
  go_wp2_with fail
  refine cX.out.mono ?_
  rintro e V6 ⟨rfl, hm6, hg6⟩
  have o6 := o5.kept hg6 (fun e => by have e2 : w.heap.size = (w.heap.size + 1) := Option.some.inj e; omega)
  have hB6 := hB5.grown hg6 (by have := hB5.size; omega) (fun g e => by have e2 : (w.heap.size + 1) = g := Option.some.inj e; omega)
  clear cX k0 k1 k2 k3 k4 k5 k6 k7 k8 k9 hm5 o5 hB5 hg6
  have cX := Lib.hid (rnumS s.asked (w.heap.size + 1) _ V6 hm6 (by have := (numC_len (flN s.waits)).2; have := (numC_len s.state).2; simp only [List.length_append]; omega) (h64.out _ (by simp)).1 (h64.out _ (by simp)).2)
  obtain ⟨k0, k1, k2, k3, k4, k5, k6, k7, k8, k9⟩ := ob_ten o6
  go_wp2_with fail
  refine cX.out.mono ?_
  rintro e V7 ⟨rfl, hm7, hg7⟩
  have o7 := o6.kept hg7 (fun e => by have e2 : w.heap.size = (w.heap.size + 1) := Option.some.inj e; omega)
  have hB7 := hB6.grown hg7 (by have := hB6.size; omega) (fun g e => by have e2 : (w.heap.size + 1) = g := Option.some.inj e; omega)
  clear cX k0 k1 k2 k3 k4 k5 k6 k7 k8 k9 hm6 o6 hB6 hg7
  have hm7 : Rm V7 (w.heap.size + 1) (encB s, false) := hm7
  have HM7 := Lib.hid hm7
  have HO7 := Lib.hid o7
  have HB7 := Lib.hid hB7
  clear hm7 o7 hB7
  go_wp2
  go_loopw [4] (fun i wr => ∃ k : Nat, k ≤ s.got.length ∧ i = .int .i64 k ∧ Rm wr (w.heap.size + 1) (encB s ++ encG (s.got.take k), false) ∧ Ob wr w.heap.size 26 #[.int .i64 s.order, .int .i64 s.first, .int .i64 s.regions, .slice A1 s.want.length c1, .bool s.waits, .int .i64 s.state, .int .i64 s.asked, .slice A2 s.got.length c2, .slice A3 s.pending.length c3, .bool s.cancelled] ∧ Below w.heap.size w wr) (fun i _ => s.got.length - (intOf i).toNat)
  case atStart => exact ⟨0, by omega, rfl, by rw [List.take_zero, show encG [] = [] from rfl, List.append_nil]; exact HM7.out, HO7.out, HB7.out⟩
  case round =>
    obtain ⟨k, hk, rfl, hMr, oR, hBr⟩ := hrel
    have hGl := encG_len (L := s.got.take k) fun l hl => hmg.out l (List.mem_of_mem_take hl)
    have hGt : (s.got.take k).length ≤ 8 := by rw [List.length_take]; omega
    obtain ⟨-, -, -, -, -, -, -, k7, -, -⟩ := ob_ten oR
    by_cases hlt : k < s.got.length
    · have hd : decide ((k : Int) < s.got.length) = true := decide_eq_true (by omega)
      have hgA := HP.out.got.mono hBr (Nat.le_refl _)
      obtain ⟨q, o, x, rfl, -, hq, g1, hx⟩ := hgA.cellAt hlt
      have hml := hmg.out _ (List.getElem_mem hlt)
      rw [← getD_get hlt] at hml
      have hes := encG_succ s.got hlt
      have hwr := hBr.size
      generalize s.got.getD k [] = l at hx hml hes
      have cP := Lib.hid (rputS l x (w.heap.size + 1) _ wr hMr (by rw [List.length_append]; omega) (fun W hg => by
        have hb := (Below.refl w.heap.size wr).grown hg hwr (fun g e => by have e2 : (w.heap.size + 1) = g := Option.some.inj e; omega)
        exact hx.mono hb (Nat.le_trans hwr hb.size)) hml)
      rw [List.append_assoc, ← hes] at cP
      obtain ⟨A7, c7, rfl, -⟩ := hx.form
      clear hx hes hMr hml hGl hGt hgA
      go_wp2_with fail
      refine cP.out.mono ?_
      rintro e W8 ⟨rfl, hm8, hg8'⟩
      have o8 := oR.kept hg8' (fun e => by have e2 : w.heap.size = (w.heap.size + 1) := Option.some.inj e; omega)
      have hB8 := hBr.grown hg8' hwr (fun g e => by have e2 : (w.heap.size + 1) = g := Option.some.inj e; omega)
      clear hg8'
      go_wp2
      go_roundw
      case rel => exact ⟨k + 1, by omega, by go_num, hm8, o8, hB8⟩
      case measure => simp [intOf]; omega
    · obtain rfl : k = s.got.length := by omega
      have hd : decide ((s.got.length : Int) < s.got.length) = false := decide_eq_false (by omega)
      rw [List.take_length] at hMr hGl hGt
      obtain ⟨-, -, -, -, -, -, -, -, k8, -⟩ := ob_ten oR
      have cN := Lib.hid (rnumS s.pending.length (w.heap.size + 1) _ wr hMr (by rw [List.length_append]; omega) (by omega) (by omega))
      have hG8 : (encG s.got).length ≤ 4800 := by omega
      have hwr := hBr.size
      clear hMr hGl hGt
      go_wp2_with fail
      refine cN.out.mono ?_
      rintro e W8 ⟨rfl, hm8, hg8'⟩
      have o8 := oR.kept hg8' (fun e => by have e2 : w.heap.size = (w.heap.size + 1) := Option.some.inj e; omega)
      have hB8 := hBr.grown hg8' hwr (fun g e => by have e2 : (w.heap.size + 1) = g := Option.some.inj e; omega)
      have HM8 := Lib.hid hm8
      have HO8 := Lib.hid o8
      have HB8 := Lib.hid hB8
      have hNl := (numC_len (s.pending.length : Int)).2
      clear hm8 o8 hB8 cN hg8' k8 k7 oR hBr
      go_wp2
      go_loopw [5] (fun i wr => ∃ k : Nat, k ≤ s.pending.length ∧ i = .int .i64 k ∧ Rm wr (w.heap.size + 1) (encB s ++ encG s.got ++ numC s.pending.length ++ numsC (s.pending.take k), false) ∧ Ob wr w.heap.size 26 #[.int .i64 s.order, .int .i64 s.first, .int .i64 s.regions, .slice A1 s.want.length c1, .bool s.waits, .int .i64 s.state, .int .i64 s.asked, .slice A2 s.got.length c2, .slice A3 s.pending.length c3, .bool s.cancelled] ∧ Below w.heap.size w wr) (fun i _ => s.pending.length - (intOf i).toNat)
      case atStart => exact ⟨0, by omega, rfl, by rw [List.take_zero, show numsC [] = [] from rfl, List.append_nil]; exact HM8.out, HO8.out, HB8.out⟩
      case round =>
        obtain ⟨j, hj, rfl, hMr, oR, hBr⟩ := hrel
        have hGl := numsC_len (s.pending.take j)
        have hGt : (s.pending.take j).length ≤ 8 := by rw [List.length_take]; omega
        obtain ⟨-, -, -, -, -, -, -, -, k8, -⟩ := ob_ten oR
        have hwr := hBr.size
        by_cases hlt : j < s.pending.length
        · have hd : decide ((j : Int) < s.pending.length) = true := decide_eq_true (by omega)
          obtain ⟨q, o, rfl, -, hq, g1⟩ := (IntsAt.mono HP.out.pend hBr (Nat.le_refl _)).cellAt hlt
          have hes := numsC_succ s.pending hlt
          have hbd := h64.out (s.pending.getD j 0) (by rw [getD_get hlt]; simp)
          generalize s.pending.getD j 0 = y at g1 hes hbd
          have cP := Lib.hid (rnumS y (w.heap.size + 1) _ wr hMr (by simp only [List.length_append]; omega) hbd.1 hbd.2)
          rw [List.append_assoc, ← hes] at cP
          clear hes hMr hGl hGt hbd
          go_wp2_with fail
          refine cP.out.mono ?_
          rintro e W9 ⟨rfl, hm9, hg9⟩
          have o9 := oR.kept hg9 (fun e => by have e2 : w.heap.size = (w.heap.size + 1) := Option.some.inj e; omega)
          have hB9 := hBr.grown hg9 hwr (fun g e => by have e2 : (w.heap.size + 1) = g := Option.some.inj e; omega)
          clear hg9
          go_wp2
          go_roundw
          case rel => exact ⟨j + 1, by omega, by go_num, hm9, o9, hB9⟩
          case measure => simp [intOf]; omega
        · obtain rfl : j = s.pending.length := by omega
          have hd : decide ((s.pending.length : Int) < s.pending.length) = false := decide_eq_false (by omega)
          rw [List.take_length] at hMr hGl hGt
          obtain ⟨-, -, -, -, -, -, -, -, -, k9⟩ := ob_ten oR
          have cF := Lib.hid (rflagS s.cancelled (w.heap.size + 1) _ wr hMr (by simp only [List.length_append]; omega))
          clear hMr hGl hGt
          go_wp2_with fail
          refine cF.out.mono ?_
          rintro e W9 ⟨rfl, hm9, hg9⟩
          have hB9 := hBr.grown hg9 hwr (fun g e => by have e2 : (w.heap.size + 1) = g := Option.some.inj e; omega)
          obtain ⟨-, v, hov, hv⟩ := hm9
          obtain ⟨A9, c9, rfl, -⟩ := hv.form
          have g0 : W9.cell? ⟨(w.heap.size + 1), 0, none⟩ = some (.slice A9 (encS s).length c9) := hov.cell rfl
          have hv : BytesAt W9 ((w.heap.size + 1) + 1) W9.heap.size (.slice A9 (encS s).length c9) (encS s) := hv
          go_wp2
          go_ret
          exact ⟨⟨_, rfl, hv.wide (Nat.zero_le _) (Nat.le_refl _)⟩, hB9⟩
end Sa
end Go.Proofs.YthfpfomifebpbaaGreat

namespace Go.Proofs.YthfpfomifebpbaaGreat
open Go.RowKit Go.Maps
namespace Sa
open It Ce

theorem tFlag_no : tFlag none = (false, none) := rfl
theorem tFlag_enc (b : Bool) (r : List UInt8) : tFlag (some (numC (flN b) ++ r)) = (b, some r) := by
  unfold tFlag
  cases b
  · rw [show flN false = 0 from rfl, tNum_put r (by omega) (by omega) (by omega) (by omega)]
    rfl
  · rw [show flN true = 1 from rfl, tNum_put r (by omega) (by omega) (by omega) (by omega)]
    rfl
theorem tFlag_took {b r : List UInt8} (h : (tFlag (some b)).2 = some r) : b = numC (flN (tFlag (some b)).1) ++ r := by
  unfold tFlag at h ⊢
  dsimp only at h ⊢
  cases hn : tNum 0 1 (some b) with
  | mk n o =>
    rw [hn] at h
    dsimp only at h ⊢
    subst h
    obtain ⟨l, h1, h2, h3, h4⟩ := tNum_some hn
    cases h1
    have : n = 0 ∨ n = 1 := by omega
    rcases this with rfl | rfl
    · exact h2
    · exact h2
theorem tNum_took {least most : Int} {b r : List UInt8} (h : (tNum least most (some b)).2 = some r) : b = numC (tNum least most (some b)).1 ++ r := by
  cases hn : tNum least most (some b) with
  | mk n o =>
    rw [hn] at h
    dsimp only at h ⊢
    subst h
    obtain ⟨l, h1, h2, -⟩ := tNum_some hn
    cases h1
    exact h2
def gIt (s : List (List It.Item) × Tst) : Nat → List (List It.Item) × Tst
  | 0 => s
  | k + 1 => ((gIt s k).1 ++ [(readI (gIt s k).2).1], (readI (gIt s k).2).2)
def pIt (s : List Int × Tst) : Nat → List Int × Tst
  | 0 => s
  | k + 1 => ((pIt s k).1 ++ [(tNum 0 7 (pIt s k).2).1], (tNum 0 7 (pIt s k).2).2)
theorem readI_no : (readI none).2 = none := by
  unfold readI
  rw [tNum_none]
  split
  · rfl
  · rfl
theorem gIt_no (s : List (List It.Item)) (k : Nat) : (gIt (s, none) k).2 = none := by
  induction k with
  | zero => rfl
  | succ k ih => simp only [gIt]; rw [ih]; exact readI_no
theorem pIt_no (s : List Int) (k : Nat) : (pIt (s, none) k).2 = none := by
  induction k with
  | zero => rfl
  | succ k ih => simp only [pIt]; rw [ih]; rfl
theorem gIt_len (s : List (List It.Item) × Tst) (k : Nat) : (gIt s k).1.length = s.1.length + k := by
  induction k with
  | zero => rfl
  | succ k ih => simp only [gIt, List.length_append, ih, List.length_cons, List.length_nil]; omega
theorem pIt_len (s : List Int × Tst) (k : Nat) : (pIt s k).1.length = s.1.length + k := by
  induction k with
  | zero => rfl
  | succ k ih => simp only [pIt, List.length_append, ih, List.length_cons, List.length_nil]; omega
theorem gIt_put {L : List (List It.Item)} (h : ∀ l ∈ L, may l = true) (r : List UInt8) : ∀ k, k ≤ L.length → gIt ([], some (encG L ++ r)) k = (L.take k, some (encG (L.drop k) ++ r))
  | 0, _ => rfl
  | k + 1, hk => by
    have hk' : k < L.length := by omega
    simp only [gIt]
    rw [gIt_put h r k (by omega), List.drop_eq_getElem_cons hk']
    rw [show encG (L[k] :: L.drop (k + 1)) ++ r = Ce.encI L[k] ++ (encG (L.drop (k + 1)) ++ r) by rw [← List.append_assoc]; rfl]
    rw [readI_put (h _ (List.getElem_mem hk')), List.take_succ_eq_append_getElem hk']
theorem pIt_put {l : List Int} (h : ∀ x ∈ l, 0 ≤ x ∧ x ≤ 7) (r : List UInt8) : ∀ k, k ≤ l.length → pIt ([], some (numsC l ++ r)) k = (l.take k, some (numsC (l.drop k) ++ r))
  | 0, _ => rfl
  | k + 1, hk => by
    have hk' : k < l.length := by omega
    have hx := h _ (List.getElem_mem hk')
    simp only [pIt]
    rw [pIt_put h r k (by omega), List.drop_eq_getElem_cons hk']
    rw [show numsC (l[k] :: l.drop (k + 1)) ++ r = numC l[k] ++ (numsC (l.drop (k + 1)) ++ r) by rw [← List.append_assoc]; rfl]
    rw [tNum_put _ (by omega) (by omega) hx.1 hx.2, List.take_succ_eq_append_getElem hk']
theorem gIt_took {b : List UInt8} : ∀ (k : Nat) (r : List UInt8), (gIt ([], some b) k).2 = some r → b = encG (gIt ([], some b) k).1 ++ r
  | 0, r, h => by cases h; rfl
  | k + 1, r, h => by
    simp only [gIt] at h ⊢
    cases hs : (gIt ([], some b) k).2 with
    | none => rw [hs, readI_no] at h; cases h
    | some c =>
      rw [hs] at h
      have h1 := gIt_took k c hs
      have h2 := readI_took h
      rw [h2] at h1
      unfold encG at h1 ⊢
      rw [List.flatMap_append, List.append_assoc]
      simp only [List.flatMap_cons, List.flatMap_nil, List.append_nil]
      exact h1
theorem pIt_took {b : List UInt8} : ∀ (k : Nat) (r : List UInt8), (pIt ([], some b) k).2 = some r → b = numsC (pIt ([], some b) k).1 ++ r
  | 0, r, h => by cases h; rfl
  | k + 1, r, h => by
    simp only [pIt] at h ⊢
    cases hs : (pIt ([], some b) k).2 with
    | none => rw [hs] at h; cases h
    | some c =>
      rw [hs] at h
      have h1 := pIt_took k c hs
      have h2 := tNum_took h
      rw [h2] at h1
      unfold numsC at h1 ⊢
      rw [List.flatMap_append, List.append_assoc]
      simp only [List.flatMap_cons, List.flatMap_nil, List.append_nil]
      exact h1
-- what is read one behind the other
def dO (b : List UInt8) := tNum 1 1099511627776 (some b)
def dF (b : List UInt8) := tNum 0 7 (dO b).2
def dR (b : List UInt8) := tNum 1 8 (dF b).2
def dW (b : List UInt8) := readI (dR b).2
def dA (b : List UInt8) := tFlag (dW b).2
def dS (b : List UInt8) := tNum 1 10 (dA b).2
def dK (b : List UInt8) := tNum 1 8 (dS b).2
def dG (b : List UInt8) := gIt ([], (dK b).2) (dR b).1.toNat
def dN (b : List UInt8) := tNum 0 8 (dG b).2
def dP (b : List UInt8) := pIt ([], (dN b).2) (dN b).1.toNat
def dC (b : List UInt8) := tFlag (dP b).2
def dSaga (b : List UInt8) : Saga := ⟨(dO b).1, (dF b).1, (dR b).1, (dW b).1, (dA b).1, (dS b).1, (dK b).1, (dG b).1, (dP b).1, (dC b).1⟩
def decS (b : List UInt8) : Option Saga := if doneOf (dC b).2 = 0 ∧ mayS (dSaga b) = true then some (dSaga b) else none
theorem state_in {s : Saga} (h : mayS s = true) : 1 ≤ s.state ∧ s.state ≤ 10 := by
  obtain ⟨-, -, hb⟩ := mayS_iff.1 h
  apply Decidable.byContradiction
  intro hn
  rw [bodyN (by omega)] at hb
  cases hb
/-- what was put is taken again -/
theorem dec_enc {s : Saga} (h : mayS s = true) : decS (encS s) = some s := by
  obtain ⟨hh, -, -⟩ := mayS_iff.1 h
  obtain ⟨hMw, hMg, h8⟩ := hh.M
  have hst := state_in h
  obtain ⟨hp1, hp2⟩ := pend_in h
  have o1 := hh.o1
  have o2 := hh.o2
  have f1 := hh.f1
  have f2 := hh.f2
  have r1 := hh.r1
  have r2 := hh.r2
  have a1 := hh.a1
  have a2 := hh.a2
  have hgl := hh.got
  have hbytes : encS s = numC s.order ++ (numC s.first ++ (numC s.regions ++ (Ce.encI s.want ++ (numC (flN s.waits) ++ (numC s.state ++ (numC s.asked ++ (encG s.got ++ (numC s.pending.length ++ (numsC s.pending ++ (numC (flN s.cancelled) ++ [])))))))))) := by
    unfold encS encB encA
    simp only [List.append_assoc, List.append_nil]
  have e1 : dO (encS s) = (s.order, some (numC s.first ++ (numC s.regions ++ (Ce.encI s.want ++ (numC (flN s.waits) ++ (numC s.state ++ (numC s.asked ++ (encG s.got ++ (numC s.pending.length ++ (numsC s.pending ++ (numC (flN s.cancelled) ++ ([] : List UInt8)))))))))))) := by unfold dO; rw [hbytes, tNum_put _ (by omega) (by omega) (by omega) (by omega)]
  have e2 : dF (encS s) = (s.first, some (numC s.regions ++ (Ce.encI s.want ++ (numC (flN s.waits) ++ (numC s.state ++ (numC s.asked ++ (encG s.got ++ (numC s.pending.length ++ (numsC s.pending ++ (numC (flN s.cancelled) ++ ([] : List UInt8))))))))))) := by unfold dF; rw [e1, tNum_put _ (by omega) (by omega) (by omega) (by omega)]
  have e3 : dR (encS s) = (s.regions, some (Ce.encI s.want ++ (numC (flN s.waits) ++ (numC s.state ++ (numC s.asked ++ (encG s.got ++ (numC s.pending.length ++ (numsC s.pending ++ (numC (flN s.cancelled) ++ ([] : List UInt8)))))))))) := by unfold dR; rw [e2, tNum_put _ (by omega) (by omega) (by omega) (by omega)]
  have e4 : dW (encS s) = (s.want, some (numC (flN s.waits) ++ (numC s.state ++ (numC s.asked ++ (encG s.got ++ (numC s.pending.length ++ (numsC s.pending ++ (numC (flN s.cancelled) ++ ([] : List UInt8))))))))) := by unfold dW; rw [e3, readI_put (may_of hMw)]
  have e5 : dA (encS s) = (s.waits, some (numC s.state ++ (numC s.asked ++ (encG s.got ++ (numC s.pending.length ++ (numsC s.pending ++ (numC (flN s.cancelled) ++ ([] : List UInt8)))))))) := by unfold dA; rw [e4, tFlag_enc]
  have e6 : dS (encS s) = (s.state, some (numC s.asked ++ (encG s.got ++ (numC s.pending.length ++ (numsC s.pending ++ (numC (flN s.cancelled) ++ ([] : List UInt8))))))) := by unfold dS; rw [e5, tNum_put _ (by omega) (by omega) (by omega) (by omega)]
  have e7 : dK (encS s) = (s.asked, some (encG s.got ++ (numC s.pending.length ++ (numsC s.pending ++ (numC (flN s.cancelled) ++ ([] : List UInt8)))))) := by unfold dK; rw [e6, tNum_put _ (by omega) (by omega) (by omega) (by omega)]
  have e8 : dG (encS s) = (s.got, some (numC s.pending.length ++ (numsC s.pending ++ (numC (flN s.cancelled) ++ ([] : List UInt8))))) := by
    unfold dG
    rw [e7, e3]
    dsimp only
    rw [show s.regions.toNat = s.got.length by omega, gIt_put (fun l hl => may_of (hMg l hl)) _ _ (Nat.le_refl _), List.take_length, List.drop_length, show encG [] = [] from rfl, List.nil_append]
  have e9 : dN (encS s) = ((s.pending.length : Int), some (numsC s.pending ++ (numC (flN s.cancelled) ++ ([] : List UInt8)))) := by unfold dN; rw [e8, tNum_put _ (by omega) (by omega) (by omega) (by omega)]
  have e10 : dP (encS s) = (s.pending, some (numC (flN s.cancelled) ++ ([] : List UInt8))) := by
    unfold dP
    rw [e9]
    dsimp only
    rw [Int.toNat_natCast, pIt_put (fun x hx => by have := hp1 x hx; omega) _ _ (Nat.le_refl _), List.take_length, List.drop_length, show numsC [] = [] from rfl, List.nil_append]
  have e11 : dC (encS s) = (s.cancelled, some []) := by unfold dC; rw [e10, tFlag_enc]
  have es : dSaga (encS s) = s := by unfold dSaga; rw [e1, e2, e3, e4, e5, e6, e7, e8, e10, e11]
  unfold decS
  rw [es, e11, if_pos ⟨rfl, h⟩]
theorem enc_dec {b : List UInt8} {s : Saga} (h : decS b = some s) : encS s = b ∧ mayS s = true := by
  unfold decS at h
  split at h
  rotate_left
  · cases h
  rename_i hd
  obtain ⟨hd1, hd2⟩ := hd
  cases h
  refine ⟨?_, hd2⟩
  have e11 : (dC b).2 = some [] := by
    cases hq : (dC b).2 with
    | none => rw [hq] at hd1; cases hd1
    | some l =>
      cases l with
      | nil => rfl
      | cons x l => rw [hq] at hd1; cases hd1
  have som : ∀ {t : Tst} {x : List UInt8}, (tFlag t).2 = some x → ∃ c, t = some c := fun {t x} h => by
    cases t with
    | none => cases h
    | some c => exact ⟨c, rfl⟩
  have som2 : ∀ {l m : Int} {t : Tst} {x : List UInt8}, (tNum l m t).2 = some x → ∃ c, t = some c := fun {l m t x} h => by
    cases t with
    | none => cases h
    | some c => exact ⟨c, rfl⟩
  obtain ⟨c10, e10⟩ := som e11
  have t10 := e10
  have k10 : ∃ c, (dN b).2 = some c := by
    cases hq : (dN b).2 with
    | none => unfold dP at t10; rw [hq, pIt_no] at t10; cases t10
    | some c => exact ⟨c, rfl⟩
  obtain ⟨c9, e9⟩ := k10
  obtain ⟨c8, e8⟩ := som2 e9
  have k7 : ∃ c, (dK b).2 = some c := by
    cases hq : (dK b).2 with
    | none => have t8 := e8; unfold dG at t8; rw [hq, gIt_no] at t8; cases t8
    | some c => exact ⟨c, rfl⟩
  obtain ⟨c7, e7⟩ := k7
  obtain ⟨c6, e6⟩ := som2 e7
  obtain ⟨c5, e5⟩ := som2 e6
  obtain ⟨c4, e4⟩ := som e5
  have k3 : ∃ c, (dR b).2 = some c := by
    cases hq : (dR b).2 with
    | none => have t4 := e4; unfold dW at t4; rw [hq, readI_no] at t4; cases t4
    | some c => exact ⟨c, rfl⟩
  obtain ⟨c3, e3⟩ := k3
  obtain ⟨c2, e2⟩ := som2 e3
  obtain ⟨c1, e1⟩ := som2 e2
  have w1 : b = numC (dO b).1 ++ c1 := tNum_took e1
  have w2 : c1 = numC (dF b).1 ++ c2 := by
    have h := e2
    unfold dF at h ⊢
    rw [e1] at h ⊢
    exact tNum_took h
  have w3 : c2 = numC (dR b).1 ++ c3 := by
    have h := e3
    unfold dR at h ⊢
    rw [e2] at h ⊢
    exact tNum_took h
  have w4 : c3 = Ce.encI (dW b).1 ++ c4 := by
    have h := e4
    unfold dW at h ⊢
    rw [e3] at h ⊢
    exact readI_took h
  have w5 : c4 = numC (flN (dA b).1) ++ c5 := by
    have h := e5
    unfold dA at h ⊢
    rw [e4] at h ⊢
    exact tFlag_took h
  have w6 : c5 = numC (dS b).1 ++ c6 := by
    have h := e6
    unfold dS at h ⊢
    rw [e5] at h ⊢
    exact tNum_took h
  have w7 : c6 = numC (dK b).1 ++ c7 := by
    have h := e7
    unfold dK at h ⊢
    rw [e6] at h ⊢
    exact tNum_took h
  have w8 : c7 = encG (dG b).1 ++ c8 := by
    have h := e8
    unfold dG at h ⊢
    rw [e7] at h ⊢
    exact gIt_took _ _ h
  have w9 : c8 = numC (dN b).1 ++ c9 := by
    have h := e9
    unfold dN at h ⊢
    rw [e8] at h ⊢
    exact tNum_took h
  have w10 : c9 = numsC (dP b).1 ++ c10 := by
    have h := e10
    unfold dP at h ⊢
    rw [e9] at h ⊢
    exact pIt_took _ _ h
  have w11 : c10 = numC (flN (dC b).1) ++ [] := by
    have h := e11
    unfold dC at h ⊢
    rw [e10] at h ⊢
    exact tFlag_took h
  have hn : (dN b).1 = ((dP b).1.length : Int) := by
    have hr := tNum_range (least := 0) (most := 8) (s := (dG b).2) (by omega) (by omega)
    have hr' : 0 ≤ (dN b).1 := hr.1
    unfold dP
    rw [pIt_len]
    simp
    omega
  unfold encS encB encA dSaga
  dsimp only
  conv => rhs; rw [w1, w2, w3, w4, w5, w6, w7, w8, w9, w10, w11, hn]
  simp only [List.append_assoc, List.append_nil]
end Sa
end Go.Proofs.YthfpfomifebpbaaGreat
