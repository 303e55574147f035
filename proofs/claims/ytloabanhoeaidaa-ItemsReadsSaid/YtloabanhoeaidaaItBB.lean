/-
  items: codes, as the document has them: Put, Encode, Read, Decode.
-/
import Derived.Test.YtloabanhoeaidaaItAA
namespace Go.Proofs.Ytloabanhoeaidaa
open Go.RowKit
namespace It
open Ce

/-- cells put one behind the other -/
def mPuts (s : List UInt8 × Bool) : List Item → List UInt8 × Bool
  | [] => s
  | x :: r => mPuts (Ce.mPut (Ce.mPut s (numC x.1.size ++ x.1.data.toList)) (numC x.2)) r
theorem mPuts_snoc (s : List UInt8 × Bool) (l : List Item) (x : Item) : mPuts s (l ++ [x]) = Ce.mPut (Ce.mPut (mPuts s l) (numC x.1.size ++ x.1.data.toList)) (numC x.2) := by
  induction l generalizing s with
  | nil => rfl
  | cons y r ih => simp only [List.cons_append, mPuts]; exact ih _
def mPutI (s : List UInt8 × Bool) (l : List Item) : List UInt8 × Bool := mPuts (Ce.mPut s (numC l.length)) l
theorem mPut_short {s c : List UInt8} (h : s.length + c.length ≤ 262144) : Ce.mPut (s, false) c = (s ++ c, false) := by
  unfold Ce.mPut
  rw [if_neg (by simp), if_neg (by simp; omega)]
theorem mPuts_short (l : List Item) : ∀ (s : List UInt8), s.length + (cellsI l).length ≤ 262144 → mPuts (s, false) l = (s ++ cellsI l, false) := by
  induction l with
  | nil => intro s _; simp [mPuts, cellsI]
  | cons x r ih =>
    intro s h
    rw [cellsI_cons] at h ⊢
    simp only [List.length_append] at h
    simp only [mPuts]
    rw [mPut_short (by simp only [List.length_append]; omega), mPut_short (by simp only [List.length_append]; omega), ih _ (by simp only [List.length_append]; omega)]
    simp only [List.append_assoc]
theorem mPutI_short {s : List UInt8} {l : List Item} (h : s.length + (Ce.encI l).length ≤ 262144) : mPutI (s, false) l = (s ++ Ce.encI l, false) := by
  unfold Ce.encI at h ⊢
  rw [List.length_append] at h
  unfold mPutI
  rw [mPut_short (by omega), mPuts_short _ _ (by simp; omega)]
  simp [List.append_assoc]

set_option maxRecDepth 100000 in
set_option maxHeartbeats 4000000 in
theorem refputi_calls (L : List Item) (v : Value) (bm : Nat) (s : List UInt8 × Bool) (w : World) (hM : Rm w bm s) (hI : ∀ W, w.grownBy W (some bm) → ItemsAt W 0 W.heap.size v L) (hF : Fits L) (hS : ∀ x ∈ L, x.1.size ≤ 900000) :
    Calls Try.prog 62 #[.pointer (some ⟨bm, 0, none⟩), v] w fun e w' => e = .returned (.tuple #[]) ∧ Rm w' bm (mPutI s L) ∧ w.grownBy w' (some bm) := by
  obtain ⟨A, c, rfl, hc1, hc2⟩ := (hI w (World.grownBy.refl _ _)).form
  unfold maxLen at hc2
  have HI := Lib.hid hI
  have cN := Lib.hid (fun n s W hM h0 h1 => refmnum_calls n bm s W hM h0 h1)
  have cT := Lib.hid (fun t s W hM ht => refmtext_calls t bm s W hM ht)
  have HE := Lib.hid (show mPutI s L = mPuts (Ce.mPut s (numC L.length)) (L.take L.length) by rw [List.take_length]; rfl)
  have HS := Lib.hid (fun s (k : Nat) (h : k < L.length) => show mPuts s (L.take (k + 1)) = Ce.mPut (Ce.mPut (mPuts s (L.take k)) (numC L[k].1.size ++ L[k].1.data.toList)) (numC L[k].2) by rw [List.take_succ_eq_append_getElem h, mPuts_snoc])
  clear hI
  generalize mPutI s L = E at *
  go_enter Try.func62, Try.ntmps62
  go_wp2_with fail
  refine (cN.out L.length s w hM (by omega) (by omega)).mono ?_
  rintro e W0 ⟨rfl, hM0, hg0⟩
  clear hM
  generalize Ce.mPut s (numC L.length) = s1 at *
  go_wp2
  go_loopw [4] (fun i wr => ∃ k : Nat, k ≤ L.length ∧ i = .int .i64 k ∧ Rm wr bm (mPuts s1 (L.take k)) ∧ w.grownBy wr (some bm)) (fun i _ => L.length - (intOf i).toNat)
  case atStart => exact ⟨0, by omega, rfl, hM0, hg0⟩
  case round =>
    obtain ⟨k, hk, rfl, hM1, hg1⟩ := hrel
    clear hM0
    by_cases hlt : k < L.length
    · obtain ⟨b, o, rfl, -, hb, q1, q2⟩ := (HI.out wr hg1).cellAt hlt
      have hd : decide (k < L.length) = true := by simpa using hlt
      have hfit := hF _ (List.getElem_mem hlt)
      have hsz := hS _ (List.getElem_mem hlt)
      have HSk := Lib.hid (HS.out s1 k hlt)
      have HIk := Lib.hid (fun W (h : w.grownBy W (some bm)) => (HI.out W h).cellAt hlt)
      generalize L[k] = x at *
      obtain ⟨xs, xn⟩ := x
      dsimp only at q1 q2 hfit hsz HSk HIk
      have HM1 := Lib.hid hM1
      clear hM1
      generalize mPuts s1 (L.take k) = sk at *
      have cTk := Lib.hid (cT.out xs sk wr HM1.out hsz)
      go_wp2_with fail
      refine cTk.out.mono ?_
      rintro e W1 ⟨rfl, hM2, hg2⟩
      have hg12 := hg1.trans hg2
      obtain ⟨b', o', e, -, hb', q3, q4⟩ := HIk.out W1 hg12
      cases e
      have cNk := Lib.hid (cN.out xn _ W1 hM2 hfit.2.1 hfit.2.2)
      clear hM2
      go_wp2_with fail
      refine cNk.out.mono ?_
      rintro e W2 ⟨rfl, hM3, hg3⟩
      go_wp2
      go_roundw
      case rel => exact ⟨k + 1, by omega, by go_num, by rw [HSk.out]; exact hM3, hg12.trans hg3⟩
      case measure => simp [intOf]; omega
    · obtain rfl : k = L.length := by omega
      have hd : decide (L.length < L.length) = false := by simp
      go_wp2
      go_end0
      exact ⟨rfl, by rw [HE.out]; exact hM1, hg1⟩

theorem may_short {L : List Item} (h : may L = true) : ∀ x ∈ L, x.1.size ≤ 900000 := fun x hx => by
  have := (good_size ((may_iff L).1 h |>.ok x hx).1).2
  omega
set_option maxHeartbeats 1000000 in
theorem refencode_calls (L : List Item) (v : Value) (w : World) (hI : ItemsAt w 0 w.heap.size v L) (hF : Fits L) (hm : may L = true) :
    Calls Try.prog 37 #[v] w fun e w' => (∃ u, e = .returned u ∧ BytesAt w' 0 w'.heap.size u (Ce.encI L)) ∧ Below w.heap.size w w' := by
  obtain ⟨A, c, rfl, hc1, hc2⟩ := hI.form
  have hal := (Below.refl w.heap.size w).alloc (Nat.le_refl _) (.cells #[.slice none 0 0, .bool false] 85)
  have cP := Lib.hid (refputi_calls L (.slice A L.length c) w.heap.size ([], false) _ (Rm.new w) (fun W hg => by
    have hb : Below w.heap.size w W := hal.grown hg (by simp) (fun g e => by cases e; exact Nat.le_refl _)
    exact hI.mono hb hb.size) hF (may_short hm))
  have hl := encI_len hm
  have HE := Lib.hid (show mPutI ([], false) L = (Ce.encI L, false) by rw [mPutI_short (by simp only [List.length_nil]; omega), List.nil_append])
  rw [HE.out] at cP
  clear hI hc2
  go_enter Try.func37, Try.ntmps37
  go_wp2_with fail
  refine cP.out.mono ?_
  rintro e W ⟨rfl, ⟨hM1, u, hO, hu⟩, hg⟩
  have hb : Below w.heap.size w W := hal.grown hg (by simp) (fun g e => by cases e; exact Nat.le_refl _)
  have q := hO.cell (j := 0) rfl
  obtain ⟨Au, cu, rfl, -⟩ := hu.form
  go_wp2
  go_ret
  exact ⟨⟨_, rfl, hu.wide (Nat.zero_le _) (Nat.le_refl _)⟩, hb⟩

set_option maxRecDepth 100000 in
set_option maxHeartbeats 4000000 in
theorem refread_calls (bt B : Nat) (st : Tst) (w : World) (h : Tk 46 w bt B st) :
    Calls Try.prog 32 #[.pointer (some ⟨bt, 0, none⟩)] w fun e w' => (∃ v l, e = .returned (.tuple #[v, .bool (readI st).2.isSome]) ∧ w'.ownsRow w.heap.size 36 2 v l.length (itemCells l) ∧ ((readI st).2.isSome = true → l = (readI st).1) ∧ Fits l) ∧
      (∃ st', Tk 46 w' bt B st' ∧ ((readI st).2.isSome = true → st' = (readI st).2)) ∧ w.grownBy w' (some bt) := by
  obtain ⟨i0, hi0, hz0⟩ := Option.map_eq_some_iff.1 item_info
  simp only [Prod.mk.injEq] at hz0
  obtain ⟨hz0, hz1, hz2⟩ := hz0
  have hbt : bt < w.heap.size := by obtain ⟨_, v, l, lo, bad, h1, _⟩ := h; exact h1.lt
  have hBw := h.1
  have cN := Lib.hid (rnum_calls 0 16 bt B st w h)
  have hr := tNum_range (least := 0) (most := 16) (s := st) (by omega) (by omega)
  have HR := Lib.hid (fun j h1 h2 => readI_stop (s := st) (j := j) h1 h2)
  have HFit := Lib.hid (rIt_fits ([], (tNum 0 16 st).2) (fun x hx => by cases hx))
  have HLen := Lib.hid (rIt_len ([], (tNum 0 16 st).2))
  clear h
  generalize readI st = RR at *
  generalize hnn : tNum 0 16 st = nn at *
  clear hnn
  obtain ⟨ni, st0⟩ := nn
  dsimp only at hr cN HR HFit HLen
  obtain ⟨n, rfl⟩ := Int.eq_ofNat_of_zero_le hr.1
  have hn16 : n ≤ 16 := by omega
  clear hr
  have HS := Lib.hid (rIt_succ ([], st0))
  generalize hS0 : (([], st0) : Rst) = S0 at *
  have HS0 := Lib.hid hS0
  clear hS0
  go_enter Try.func32, Try.ntmps32
  go_wp2_with fail
  refine cN.out.mono ?_
  rintro e W0 ⟨rfl, hT0, hg0, -⟩
  go_wp2
  go_loopw [5, 6, 7] (fun o i _ wr => ∃ k : Nat, k ≤ n ∧ i = .int .i64 k ∧ wr.ownsRow w.heap.size 36 2 o k (itemCells (rIt S0 k).1) ∧ Tk 46 wr bt B (rIt S0 k).2 ∧ w.grownBy wr (some bt)) (fun _ i _ _ => n - (intOf i).toNat)
  case atStart =>
    refine ⟨0, by omega, rfl, ?_, ?_, hg0⟩
    · rw [← HS0.out]; exact World.ownsRow_nil _ _ _ _
    · rw [← HS0.out]; exact hT0
  case round =>
    obtain ⟨k, hk, rfl, hown, hT, hg⟩ := hrel
    clear hT0
    have hstop : ((k : Int) = (n : Int) ∨ (rIt S0 k).2 = none) ∨ (k < n ∧ ∃ r, (rIt S0 k).2 = some r) := by
      rcases Nat.lt_or_ge k n with h1 | h1
      · cases hq : (rIt S0 k).2 with
        | none => exact .inl (.inr rfl)
        | some r => exact .inr ⟨h1, r, rfl⟩
      · exact .inl (.inl (by omega))
    rcases hstop with hstop | ⟨hlt, r, hr⟩
    · have HRk := Lib.hid (HR.out k (by omega) hstop)
      have hl : (rIt S0 k).1.length = k := by rw [HLen.out]; simp
      have hF := Lib.hid (HFit.out k)
      generalize rIt S0 k = rk at *
      obtain ⟨L, stk⟩ := rk
      dsimp only at hl hown hT hF HRk hstop
      subst hl
      have HO := Lib.hid hown
      have HT := Lib.hid hT
      have hI : ItemsAt wr 0 wr.heap.size u5 L := toAt hown
      obtain ⟨A, c, rfl, -⟩ := hI.form
      have cMay := Lib.hid (refmay_calls L _ wr hI hF.out)
      clear hown hI
      generalize hml : may L = ml at *
      clear hml
      cases stk with
      | none =>
        obtain ⟨v, hO⟩ := hT.none_form
        have q := hO.cell (j := 1) rfl
        clear hT
        have HB := Lib.hid (show RR.2.isSome = false from HRk.out.1.symm)
        have hcs : decide (L.length < n) = true ∨ decide (L.length < n) = false := by
          by_cases hq : L.length < n
          · exact .inl (by simpa using hq)
          · exact .inr (by simpa using hq)
        clear hstop
        rcases hcs with hd | hd
        all_goals
          go_wp2
          go_ret2
          rw [HB.out]
          exact ⟨⟨_, L, rfl, HO.out, fun h => (by cases h), hF.out⟩, ⟨none, HT.out, fun h => by cases h⟩, hg⟩
      | some rr =>
        obtain ⟨v, lo, hO, -⟩ := hT.some_form
        have q := hO.cell (j := 1) rfl
        clear hT
        have hnk : L.length = n := by
          rcases hstop with h | h
          · omega
          · cases h
        clear hstop
        have hd : decide (L.length < n) = false := by simp [hnk]
        clear hnk
        cases ml with
        | true =>
          have HB := Lib.hid (show RR = (L, some rr) from HRk.out.2.1 rfl)
          go_wp2_with fail
          refine cMay.out.mono ?_
          rintro e W1 ⟨rfl, hB⟩
          go_wp2
          go_ret2
          rw [HB.out]
          exact ⟨⟨_, L, rfl, ownsRow_below HO.out hB, fun _ => rfl, hF.out⟩, ⟨_, HT.out.same hB, fun _ => rfl⟩, hg.trans (only_of_below hB _)⟩
        | false =>
          have HB := Lib.hid (show RR.2.isSome = false from HRk.out.1.symm)
          go_wp2_with fail
          refine cMay.out.mono ?_
          rintro e W1 ⟨rfl, hB⟩
          go_wp2
          go_ret2
          rw [HB.out]
          exact ⟨⟨_, L, rfl, ownsRow_below HO.out hB, fun h => (by cases h), hF.out⟩, ⟨_, HT.out.same hB, fun h => by cases h⟩, hg.trans (only_of_below hB _)⟩
    · have hd : decide (k < n) = true := by simpa using hlt
      have cT := Lib.hid (fun W h => rtext_calls 16 bt B (rIt S0 k).2 W h (by omega))
      have cM := Lib.hid (fun W h => rnum_calls 1 1099511627776 bt B (tText 16 (rIt S0 k).2).2 W h)
      have HSk := Lib.hid (HS.out k)
      have HO := Lib.hid hown
      have HT := Lib.hid hT
      rw [hr] at hT
      obtain ⟨tv, lo, hO, -⟩ := hT.some_form
      have q := hO.cell (j := 1) rfl
      clear hown hT hr
      generalize rIt S0 k = rk at *
      generalize tText 16 rk.2 = tx at *
      generalize tNum 1 1099511627776 tx.2 = ty at *
      have HTa := Lib.hid (HT.out.kept (World.grownBy_alloc wr (.cells #[.string ⟨#[]⟩, .int .i64 0] 36) none) (by simp) (by simp))
      have HOa := Lib.hid (HO.out.alloc (.cells #[.string ⟨#[]⟩, .int .i64 0] 36))
      have hgb := HO.out.lt
      have hsw : w.heap.size ≤ wr.heap.size := hg.size
      have hb0 := Ob.new wr 36 #[.string ⟨#[]⟩, .int .i64 0]
      have hga0 : w.grownBy (wr.alloc (.cells #[.string ⟨#[]⟩, .int .i64 0] 36)) (some bt) := hg.trans (World.grownBy_alloc wr _ _)
      generalize hbx : wr.heap.size = bx at hb0 hgb hsw
      have HBX := Lib.hid hbx
      clear hbx
      go_wp2_with fail
      rw [HBX.out]
      generalize wr.alloc (.cells #[.string ⟨#[]⟩, .int .i64 0] 36) = Wa at *
      refine (cT.out _ HTa.out).mono ?_
      rintro e W1 ⟨rfl, hT1, hg1⟩
      generalize bs tx.1 = tb at *
      generalize ty.1 = tn at *
      have hneb : some bx ≠ some bt := fun e => by have := Option.some.inj e; omega
      have hb1 := hb0.kept hg1 hneb
      have HO1 := Lib.hid (ownsRow_far HOa.out hg1 hbt)
      have hgs1 := grownBy_set W1 bx 0 (.string tb)
      have HT1 := Lib.hid (hT1.kept hgs1 (fun e => hneb e.symm) (fun g e => by have := Option.some.inj e; omega))
      have HO2 := Lib.hid (HO1.out.kept hgs1 (by cases hv : u5.ownBlock with | none => exact .inl rfl | some g => exact .inr (fun e => by have := (hgb g hv).2; have := Option.some.inj e; omega)))
      have hb2 := hb1.set 0 (.string tb)
      have q10 := hb1.cell (j := 0) rfl
      have q11 := hb1.cell (j := 1) rfl
      have f10 := hb1.frozen 0
      have hgg1 := (hga0.trans hg1).andThen hgs1 (fun j e => .inl (by have := Option.some.inj e; omega))
      clear hT1
      go_wp2_with fail
      refine (cM.out _ HT1.out).mono ?_
      rintro e W2 ⟨rfl, hT2, hg2, -⟩
      have hb3 := hb2.kept hg2 hneb
      have HO3 := Lib.hid (ownsRow_far HO2.out hg2 hbt)
      have hgs2 := grownBy_set W2 bx 1 (.int .i64 tn)
      have HT2 := Lib.hid (hT2.kept hgs2 (fun e => hneb e.symm) (fun g e => by have := Option.some.inj e; omega))
      have HO4 := HO3.out.kept hgs2 (by cases hv : u5.ownBlock with | none => exact .inl rfl | some g => exact .inr (fun e => by have := (hgb g hv).2; have := Option.some.inj e; omega))
      have q30 : W2.cell? ⟨bx, 0, none⟩ = some (.string tb) := hb3.cell (j := 0) rfl
      have q31 : W2.cell? ⟨bx, 1, none⟩ = some (.int .i64 0) := hb3.cell (j := 1) rfl
      have f31 := hb3.frozen 1
      have hgg := (hgg1.trans hg2).andThen hgs2 (fun j e => .inl (by have := Option.some.inj e; omega))
      have hsz : w.heap.size ≤ (W2.setCell ⟨bx, 1, none⟩ (.int .i64 tn)).heap.size := hgg.size
      have hsz2 : w.heap.size ≤ W2.heap.size := (hgg1.trans hg2).size
      have HSL := Lib.hid (show Sl ((W2.setCell ⟨bx, 1, none⟩ (.int .i64 tn)).alloc (.cells #[.string tb, .int .i64 tn] 36)) W2.heap.size (W2.heap.size + 1) 2 (.slice (some ⟨W2.heap.size, 0, none⟩) 1 1) 1 [.string tb, .int .i64 tn] by
        have := Sl.new (W2.setCell ⟨bx, 1, none⟩ (.int .i64 tn)) #[.string tb, .int .i64 tn] 36 (n := 1) (size := 2) rfl (by unfold maxLen; omega)
        rwa [show (W2.setCell ⟨bx, 1, none⟩ (.int .i64 tn)).heap.size = W2.heap.size by simp [World.setCell]] at this)
      clear hT2 q10 q11 f10 hgs1 hgs2 hg1 hg2 hgg1 hga0 hb0 hb1 hb2 hb3
      go_wp2_with (at_builtin
                   refine wpList_append_sl _ rfl (.tmp 29) (.tmp 31) _ rfl w.heap.size 36 i0 _ 2 24 Try.underlying22 hi0 hz0 hz1 hz2 rfl (by omega) u5 k _ rfl (HO4.alloc _) W2.heap.size (W2.heap.size + 1) _ 1 [.string tb, .int .i64 tn] rfl HSL.out (by simp [Value.oneCell']) (by unfold maxLen; omega) (by omega) (by simp; omega) ?_
                   intro v1 w5 hv1 hg1 hat1)
      generalize W2.setCell ⟨bx, 1, none⟩ (.int .i64 tn) = W3 at *
      have hga : W3.grownBy (W3.alloc (.cells #[.string tb, .int .i64 tn] 36)) (some bt) := World.grownBy_alloc W3 _ _
      have hg5 : w.grownBy w5 (some bt) := (hgg.trans hga).andThen hg1 fun j hj => .inl (HO4.lt j hj).1
      have hT5 := (HT2.out.kept (World.grownBy_alloc W3 (.cells #[.string tb, .int .i64 tn] 36) none) (by simp) (by simp)).kept hg1 (fun e => by have := (HO4.lt bt e.symm).1; omega) (fun g e => by have := (HO4.lt g e).1; omega)
      clear hg1 hat1 hga hgg HO4 hsz
      go_roundw
      case rel =>
        refine ⟨k + 1, by omega, by go_num, ?_, ?_, hg5⟩
        · rw [HSk.out, itemCells_snoc]; exact hv1
        · rw [HSk.out]; exact hT5
      case measure => simp [intOf]; omega

set_option maxRecDepth 100000 in
set_option maxHeartbeats 2000000 in
theorem refdecode_calls (b : List UInt8) (v : Value) (w : World) (hI : BytesAt w 0 w.heap.size v b) :
    Calls Try.prog 38 #[v] w fun e w' => (∃ u, e = .returned (.tuple #[u, .bool ((decI b).2 == 0)]) ∧ w'.ownsRow w.heap.size 36 2 u (decI b).1.length (itemCells (decI b).1)) ∧ Below w.heap.size w w' := by
  obtain ⟨A, c, rfl, -⟩ := hI.form
  have hal := (Below.refl w.heap.size w).alloc (Nat.le_refl _) (.cells #[.slice A b.length c, .bool false] 46)
  have cR := Lib.hid (refread_calls w.heap.size w.heap.size (some b) (w.alloc (.cells #[.slice A b.length c, .bool false] 46)) ⟨by simp, _, b, 0, false, Ob.new _ _ _, Sl.below hI hal, .inl (Nat.le_refl _), rfl⟩)
  have HR := Lib.hid (show decI b = if (readI (some b)).2 = some [] then ((readI (some b)).1, 0) else ([], 10) from rfl)
  clear hI
  generalize decI b = D at *
  generalize readI (some b) = RR at *
  go_enter Try.func38, Try.ntmps38
  go_wp2_with fail
  refine cR.out.mono ?_
  rintro e W ⟨⟨u, l, rfl, hu, hl, hf⟩, ⟨st, hT, hst⟩, hg⟩
  have hb : Below w.heap.size w W := hal.grown hg (by simp) (fun g e => by cases e; exact Nat.le_refl _)
  have HU := Lib.hid hu
  obtain ⟨Au, cu, rfl, -⟩ := (toAt hu).form
  clear hu
  obtain ⟨r, rst⟩ := RR
  dsimp only at HR hl hst ⊢
  cases rst with
  | none =>
    obtain rfl : D = ([], 10) := by rw [HR.out]; rfl
    clear hl hst hT
    go_wp2
    go_ret2
    exact ⟨⟨_, rfl, World.ownsRow_nil _ _ _ _⟩, hb⟩
  | some q =>
    obtain rfl : l = r := hl rfl
    obtain rfl : st = some q := hst rfl
    obtain ⟨tv, lo, hO, hq, -⟩ := hT.some_form
    obtain ⟨Aq, cq, rfl, -⟩ := hq.form
    have g0 := hO.cell (j := 0) rfl
    clear hl hst hT hq
    cases q with
    | nil =>
      obtain rfl : D = (l, 0) := by rw [HR.out]; rfl
      simp only [List.length_nil] at g0
      go_wp2
      go_ret2
      exact ⟨⟨_, rfl, ownsRow_wide HU.out (by simp)⟩, hb⟩
    | cons x0 x1 =>
      obtain rfl : D = ([], 10) := by rw [HR.out]; rfl
      have hd : decide (0 < (x0 :: x1).length) = true := by simp
      generalize (x0 :: x1).length = k at *
      go_wp2
      go_ret2
      exact ⟨⟨_, rfl, World.ownsRow_nil _ _ _ _⟩, hb⟩
end It
end Go.Proofs.Ytloabanhoeaidaa
