/-
  the document's answers on items: Of, Same, Both.
-/
import Derived.Test.YtloabanhoeaidaaItO
namespace Go.Proofs.Ytloabanhoeaidaa
open Go.RowKit Go.Maps
namespace It

set_option maxRecDepth 100000 in
set_option maxHeartbeats 1000000 in
theorem refof_calls (L : List Item) (good : ByteArray) (v : Value) (w : World) (hI : ItemsAt w 0 w.heap.size v L) :
    Calls Try.prog 28 #[v, .string good] w fun e w' => e = .returned (.int .i64 (ofSum good L)) ∧ w = w' := by
  obtain ⟨A, c, rfl, hc1, hc2⟩ := hI.form
  unfold maxLen at hc2
  go_enter Try.func28, Try.ntmps28
  go_wp2
  go_loop [5, 6] (fun t i => ∃ k : Nat, k ≤ L.length ∧ i = .int .i64 k ∧ t = .int .i64 (ofSum good (L.take k))) (fun _ i => L.length - (intOf i).toNat)
  case atStart => exact ⟨0, by omega, rfl, rfl⟩
  case round =>
    obtain ⟨k, hk, rfl, rfl⟩ := hrel
    by_cases hlt : k < L.length
    · have HS := Lib.hid (show ofSum good (L.take (k + 1)) = ofStep good (ofSum good (L.take k)) L[k] by rw [List.take_succ_eq_append_getElem hlt, ofSum_snoc])
      obtain ⟨b, o, rfl, -, hb, g1, g2⟩ := hI.cellAt hlt
      have hd : decide ((k : Int) < (L.length : Int)) = true := by simp; omega
      generalize L[k] = x at *
      obtain ⟨xs, xn⟩ := x
      dsimp only at g1 g2
      have HE := Lib.hid (show ofStep good (ofSum good (L.take k)) (xs, xn) = if xs.toList == good.toList then wrap64 (ofSum good (L.take k) + xn) else ofSum good (L.take k) from rfl)
      generalize ofSum good (L.take k) = t at *
      cases ht : (xs.toList == good.toList)
      · go_wp2
        go_round
        case rel => exact ⟨k + 1, by omega, by go_num, by rw [HS.out, HE.out, ht]; rfl⟩
        case measure => simp [intOf]; omega
      · go_wp2
        go_round
        case rel => exact ⟨k + 1, by omega, by go_num, by rw [HS.out, HE.out, ht]; rfl⟩
        case measure => simp [intOf]; omega
    · obtain rfl : k = L.length := by omega
      rw [List.take_length]
      go_wp2
      go_ret
      exact ⟨rfl, rfl⟩

set_option maxRecDepth 100000 in
set_option maxHeartbeats 1000000 in
theorem refsame_calls (a b : List Item) (va vb : Value) (w : World) (ha : ItemsAt w 0 w.heap.size va a) (hb : ItemsAt w 0 w.heap.size vb b) :
    Calls Try.prog 20 #[va, vb] w fun e w' => e = .returned (.bool (decide (a = b))) ∧ Below w.heap.size w w' := by
  obtain ⟨A, c, rfl, hc1, hc2⟩ := ha.form
  obtain ⟨A', c', rfl, hc1', hc2'⟩ := hb.form
  unfold maxLen at hc2 hc2'
  have hmx : Try.prog.follows .mixedOrders = true := by kernel_rfl
  by_cases hl : a.length = b.length
  · have hln : ((a.length : Int) == (b.length : Int)) = true := by simp; omega
    have hln2 : ((a.length : Int) != (b.length : Int)) = false := by simp; omega
    have HL := Lib.hid hl
    clear hl
    go_enter Try.func20, Try.ntmps20
    go_wp2
    go_loopw [5] (fun i wr => ∃ k : Nat, k ≤ a.length ∧ i = .int .i64 k ∧ a.take k = b.take k ∧ Below w.heap.size w wr) (fun i _ => a.length - (intOf i).toNat)
    case atStart => exact ⟨0, by omega, rfl, rfl, Below.refl _ _⟩
    case round =>
      obtain ⟨k, hk, rfl, hm, hB⟩ := hrel
      by_cases hlt : k < a.length
      · have hltb : k < b.length := by have := HL.out; omega
        obtain ⟨p, o, rfl, -, hp, g1, g2⟩ := (ha.mono hB hB.size).cellAt hlt
        obtain ⟨p', o', rfl, -, hp', g1', g2'⟩ := (hb.mono hB hB.size).cellAt hltb
        have hd : decide ((k : Int) < (a.length : Int)) = true := by simp; omega
        have hd' : decide ((k : Int) < (b.length : Int)) = true := by simp; omega
        have HS := Lib.hid (show a.take (k + 1) = b.take (k + 1) ↔ a[k] = b[k] by
          rw [List.take_succ_eq_append_getElem hlt, List.take_succ_eq_append_getElem hltb, hm, List.append_cancel_left_eq]; simp)
        have HN := Lib.hid (fun (h : a = b) => show a.take (k + 1) = b.take (k + 1) by rw [h])
        clear hm
        generalize a[k] = x at *
        generalize b[k] = y at *
        obtain ⟨xs, xn⟩ := x
        obtain ⟨ys, yn⟩ := y
        dsimp only at g1 g2 g1' g2'
        have hcs : (xs.toList = ys.toList ∧ xn = yn) ∨ ¬ xs.toList = ys.toList ∨ (xs.toList = ys.toList ∧ ¬ xn = yn) := by
          by_cases e : xs.toList = ys.toList <;> by_cases e2 : xn = yn <;> simp [e, e2]
        have hxy : xs.toList = ys.toList → xs = ys := fun h => by
          rw [toList_key, toList_key] at h
          exact ByteArray.ext (Array.toList_inj.1 h)
        have HXY := Lib.hid hxy
        clear hxy
        rcases hcs with ⟨e1, e2⟩ | e1 | ⟨e1, e2⟩
        all_goals
          go_wp2_with fail
          refine Pu.regionW (fun W' => Below wr.drew.heap.size wr.drew W') hmx (by kernel_rfl) (by kernel_rfl) (Below.refl _ _) rfl ?_
          iterate 9 (first
            | (refine Pu.Walk.off (by rfl) ?_; simp only [Act.put, List.setIfInBounds_toArray, List.set_cons_succ, List.set_cons_zero])
            | (apply Pu.Walk.on (by rfl)
               · intro W1 h1
                 have g1a : W1.cell? ⟨p, o + k * 2, none⟩ = some (.string xs) := (Below.cell (p := ⟨p, o + k * 2, none⟩) h1 hp).trans g1
                 have g2a : W1.cell? ⟨p, o + k * 2 + 1, none⟩ = some (.int .i64 xn) := (Below.cell (p := ⟨p, o + k * 2 + 1, none⟩) h1 hp).trans g2
                 have g1b : W1.cell? ⟨p', o' + k * 2, none⟩ = some (.string ys) := (Below.cell (p := ⟨p', o' + k * 2, none⟩) h1 hp').trans g1'
                 have g2b : W1.cell? ⟨p', o' + k * 2 + 1, none⟩ = some (.int .i64 yn) := (Below.cell (p := ⟨p', o' + k * 2 + 1, none⟩) h1 hp').trans g2'
                 go_wp2_with fail
                 refine ⟨rfl, ?_, h1⟩
                 try simp only [Act.put, List.setIfInBounds_toArray, List.set_cons_succ, List.set_cons_zero]
                 rfl
               simp only [Act.put, List.setIfInBounds_toArray, List.set_cons_succ, List.set_cons_zero]))

        all_goals
          refine Pu.Walk.nil (fun W1 h1 => ?_)
          have hB1 : Below w.heap.size w W1 := (hB.trans ((Below.refl w.heap.size wr).drew)).trans (h1.mono hB.size)
          clear g1 g2 g1' g2'
        · have HE := Lib.hid (HXY.out e1)
          have HF := Lib.hid e2
          clear e1 e2
          go_wp2
          go_roundw
          case rel => exact ⟨k + 1, by omega, by go_num, HS.out.2 (by rw [HE.out, HF.out]), hB1⟩
          case measure => simp [intOf]; omega
        all_goals
          have HD := Lib.hid (show decide (a = b) = false from decide_eq_false fun h => by
            have := HS.out.1 (HN.out h)
            simp only [Prod.mk.injEq] at this
            first | exact e1 (by rw [this.1]) | exact e2 this.2)
          go_wp2
          go_ret
          exact ⟨ret1 (boo HD.out.symm), hB1⟩
      · obtain rfl : k = a.length := by omega
        have HD := Lib.hid (show decide (a = b) = true from decide_eq_true (by rw [List.take_length, HL.out, List.take_length] at hm; exact hm))
        go_wp2
        go_ret
        exact ⟨ret1 (boo HD.out.symm), hB⟩
  · have hln : ((a.length : Int) != (b.length : Int)) = true := by rw [bne_iff_ne]; omega
    have HD := Lib.hid (show decide (a = b) = false from decide_eq_false fun h => hl (by rw [h]))
    clear hl
    go_enter Try.func20, Try.ntmps20
    go_wp2
    go_ret
    exact ⟨ret1 (boo HD.out.symm), Below.refl _ _⟩

set_option maxRecDepth 100000 in
set_option maxHeartbeats 4000000 in
theorem refboth_calls (kind : Int) (f : Int → Int → Int) (hkf : (kind = 1 ∧ f = meetF) ∨ (kind = 2 ∧ f = restF)) (a b : List Item) (va vb : Value) (w : World) (ha : ItemsAt w 0 w.heap.size va a) (hb : ItemsAt w 0 w.heap.size vb b) (hla : a.length ≤ 1000000) :
    Calls Try.prog 46 #[va, vb, .int .i64 kind] w fun e w' =>
      (∃ v, e = .returned v ∧ w'.ownsRow w.heap.size 36 2 v (eachL f a b).length (itemCells (eachL f a b))) ∧ Below w.heap.size w w' := by
  obtain ⟨A, c, rfl, hc1, hc2⟩ := ha.form
  obtain ⟨A', c', rfl, hc1', hc2'⟩ := hb.form
  unfold maxLen at hc2 hc2'
  have hmx : Try.prog.follows .mixedOrders = true := by kernel_rfl
  have HKF := Lib.hid hkf
  clear hkf
  obtain ⟨i0, hi0, hz0⟩ := Option.map_eq_some_iff.1 item_info
  simp only [Prod.mk.injEq] at hz0
  obtain ⟨hz0, hz1, hz2⟩ := hz0
  have HOL := Lib.hid (fun k => show (eachL f (a.take k) b).length ≤ 1000000 from Nat.le_trans (eachL_len _ _ _) (Nat.le_trans (List.length_take_le' _ _) hla))
  go_enter Try.func46, Try.ntmps46
  go_wp2
  go_loopw [7, 8, 9, 10, 11] (fun o i _ _ _ wr => ∃ k : Nat, k ≤ a.length ∧ i = .int .i64 k ∧ wr.ownsRow w.heap.size 36 2 o (eachL f (a.take k) b).length (itemCells (eachL f (a.take k) b)) ∧ Below w.heap.size w wr) (fun _ i _ _ _ _ => a.length - (intOf i).toNat)
  case atStart => exact ⟨0, by omega, rfl, World.ownsRow_nil _ _ _ _, Below.refl _ _⟩
  case round =>
    obtain ⟨k, hk, rfl, hown, hB⟩ := hrel
    by_cases hlt : k < a.length
    · have har := ha.mono hB hB.size
      have hbr := hb.mono hB hB.size
      have HS := Lib.hid (show eachL f (a.take (k + 1)) b = eachL f (a.take k) b ++ (if 0 < f a[k].2 (ofSum a[k].1 b) then [(a[k].1, f a[k].2 (ofSum a[k].1 b))] else []) by rw [List.take_succ_eq_append_getElem hlt, eachL_snoc])
      have HL := Lib.hid (HOL.out k)
      obtain ⟨p, o, rfl, -, hp, g1, g2⟩ := har.cellAt hlt
      have hd : decide ((k : Int) < (a.length : Int)) = true := by simp; omega
      generalize a[k] = x at *
      obtain ⟨xs, xn⟩ := x
      dsimp only at g1 g2
      generalize eachL f (a.take k) b = S at *
      have cO := Lib.hid (fun v W hI => refof_calls b xs v W hI)
      dsimp only at HS
      generalize ofSum xs b = t at *
      go_wp2_with fail
      refine Pu.regionW (fun W' => Below wr.drew.heap.size wr.drew W') hmx (by kernel_rfl) (by kernel_rfl) (Below.refl _ _) rfl ?_
      iterate 14 (first
        | (refine Pu.Walk.off (by rfl) ?_; simp only [Act.put, List.setIfInBounds_toArray, List.set_cons_succ, List.set_cons_zero])
        | (apply Pu.Walk.on (by rfl)
           · intro W1 h1
             have hb1 := (hbr.mono (Below.refl wr.heap.size wr).drew (B' := wr.drew.heap.size) (Nat.le_refl _)).mono h1 h1.size
             have g1a : W1.cell? ⟨p, o + k * 2, none⟩ = some (.string xs) := (Below.cell (p := ⟨p, o + k * 2, none⟩) h1 hp).trans g1
             have g2a : W1.cell? ⟨p, o + k * 2 + 1, none⟩ = some (.int .i64 xn) := (Below.cell (p := ⟨p, o + k * 2 + 1, none⟩) h1 hp).trans g2
             go_wp2_with (go_at_call 28; refine (cO.out _ _ hb1).mono ?_; rintro e W2 ⟨rfl, rfl⟩)
             refine ⟨rfl, ?_, h1⟩
             try simp only [Act.put, List.setIfInBounds_toArray, List.set_cons_succ, List.set_cons_zero]
             rfl
           simp only [Act.put, List.setIfInBounds_toArray, List.set_cons_succ, List.set_cons_zero]))
      refine Pu.Walk.nil (fun W1 h1 => ?_)
      have hB1 : Below w.heap.size w W1 := (hB.trans ((Below.refl w.heap.size wr).drew)).trans (h1.mono hB.size)
      have hown1 : W1.ownsRow w.heap.size 36 2 u7 S.length (itemCells S) := row_below (show wr.drew.ownsRow _ _ _ _ _ _ from hown) h1
      have hcx : W1.cell? ⟨p, o + k * 2, none⟩ = some (.string xs) := (Below.cell (p := ⟨p, o + k * 2, none⟩) h1 hp).trans g1
      clear g1 g2 hown
      have hcases : (kind = 1 ∧ f xn t = t ∧ t < xn) ∨ (kind = 1 ∧ f xn t = xn ∧ ¬ t < xn) ∨ (kind = 2 ∧ f xn t = wrap64 (xn - t)) := by
        rcases HKF.out with ⟨h1, rfl⟩ | ⟨h1, rfl⟩
        · by_cases h : t < xn
          · exact .inl ⟨h1, by unfold meetF; omega, h⟩
          · exact .inr (.inl ⟨h1, by unfold meetF; omega, h⟩)
        · exact .inr (.inr ⟨h1, rfl⟩)
      rcases hcases with ⟨rfl, hf, hx⟩ | ⟨rfl, hf, hx⟩ | ⟨rfl, hf⟩
      · clear HKF
        have hdx : decide (t < xn) = true := by simpa using hx
        by_cases ht : 0 < t
        · have HS2 := Lib.hid (show eachL f (a.take (k + 1)) b = S ++ [(xs, t)] by rw [HS.out, hf, if_pos ht])
          have hd : decide (0 < t) = true := by simpa using ht
          clear HS hf ht
          go_wp2_with (at_builtin
                       refine wpList_append_sl _ rfl (.tmp 42) (.tmp 50) _ rfl w.heap.size 36 i0 _ 2 24 Try.underlying22 hi0 hz0 hz1 hz2 rfl (by omega) u7 S.length (itemCells S) rfl (hown1.alloc _) W1.heap.size (W1.heap.size + 1) _ 1 [.string xs, .int .i64 (t)] rfl (Sl.new W1 #[.string xs, .int .i64 (t)] 36 (n := 1) rfl (by unfold maxLen; omega)) (by simp [Value.oneCell']) (by have := HL.out; unfold maxLen; omega) (by have := HL.out; omega) (by have := hB1.size; simp; omega) ?_
                       intro v1 w5 hv1 hg1 hat1)
          have hB4 : Below w.heap.size w w5 := (hB1.alloc hB1.size _).grown hg1 (by have := hB1.size; simp; omega) (fun g hg => (hown1.lt g hg).1)
          go_roundw
          case rel =>
            refine ⟨k + 1, by omega, by go_num, ?_, hB4⟩
            rw [HS2.out, List.length_append, itemCells_append]
            exact hv1
          case measure => simp [intOf]; omega
        · have HS2 := Lib.hid (show eachL f (a.take (k + 1)) b = S by rw [HS.out, hf, if_neg ht, List.append_nil])
          have hd : decide (0 < t) = false := by simpa using ht
          clear HS hf ht
          go_wp2
          go_roundw
          case rel => exact ⟨k + 1, by omega, by go_num, by rw [HS2.out]; exact hown1, hB1⟩
          case measure => simp [intOf]; omega
      · clear HKF
        have hdx : decide (t < xn) = false := by simpa using hx
        by_cases ht : 0 < xn
        · have HS2 := Lib.hid (show eachL f (a.take (k + 1)) b = S ++ [(xs, xn)] by rw [HS.out, hf, if_pos ht])
          have hd : decide (0 < xn) = true := by simpa using ht
          clear HS hf ht
          go_wp2_with (at_builtin
                       refine wpList_append_sl _ rfl (.tmp 42) (.tmp 50) _ rfl w.heap.size 36 i0 _ 2 24 Try.underlying22 hi0 hz0 hz1 hz2 rfl (by omega) u7 S.length (itemCells S) rfl (hown1.alloc _) W1.heap.size (W1.heap.size + 1) _ 1 [.string xs, .int .i64 (xn)] rfl (Sl.new W1 #[.string xs, .int .i64 (xn)] 36 (n := 1) rfl (by unfold maxLen; omega)) (by simp [Value.oneCell']) (by have := HL.out; unfold maxLen; omega) (by have := HL.out; omega) (by have := hB1.size; simp; omega) ?_
                       intro v1 w5 hv1 hg1 hat1)
          have hB4 : Below w.heap.size w w5 := (hB1.alloc hB1.size _).grown hg1 (by have := hB1.size; simp; omega) (fun g hg => (hown1.lt g hg).1)
          go_roundw
          case rel =>
            refine ⟨k + 1, by omega, by go_num, ?_, hB4⟩
            rw [HS2.out, List.length_append, itemCells_append]
            exact hv1
          case measure => simp [intOf]; omega
        · have HS2 := Lib.hid (show eachL f (a.take (k + 1)) b = S by rw [HS.out, hf, if_neg ht, List.append_nil])
          have hd : decide (0 < xn) = false := by simpa using ht
          clear HS hf ht
          go_wp2
          go_roundw
          case rel => exact ⟨k + 1, by omega, by go_num, by rw [HS2.out]; exact hown1, hB1⟩
          case measure => simp [intOf]; omega
      · clear HKF
        by_cases ht : 0 < wrap64 (xn - t)
        · have HS2 := Lib.hid (show eachL f (a.take (k + 1)) b = S ++ [(xs, wrap64 (xn - t))] by rw [HS.out, hf, if_pos ht])
          have hd : decide (0 < wrap64 (xn - t)) = true := by simpa using ht
          clear HS hf ht
          go_wp2_with (at_builtin
                       refine wpList_append_sl _ rfl (.tmp 42) (.tmp 50) _ rfl w.heap.size 36 i0 _ 2 24 Try.underlying22 hi0 hz0 hz1 hz2 rfl (by omega) u7 S.length (itemCells S) rfl (hown1.alloc _) W1.heap.size (W1.heap.size + 1) _ 1 [.string xs, .int .i64 (wrap64 (xn - t))] rfl (Sl.new W1 #[.string xs, .int .i64 (wrap64 (xn - t))] 36 (n := 1) rfl (by unfold maxLen; omega)) (by simp [Value.oneCell']) (by have := HL.out; unfold maxLen; omega) (by have := HL.out; omega) (by have := hB1.size; simp; omega) ?_
                       intro v1 w5 hv1 hg1 hat1)
          have hB4 : Below w.heap.size w w5 := (hB1.alloc hB1.size _).grown hg1 (by have := hB1.size; simp; omega) (fun g hg => (hown1.lt g hg).1)
          go_roundw
          case rel =>
            refine ⟨k + 1, by omega, by go_num, ?_, hB4⟩
            rw [HS2.out, List.length_append, itemCells_append]
            exact hv1
          case measure => simp [intOf]; omega
        · have HS2 := Lib.hid (show eachL f (a.take (k + 1)) b = S by rw [HS.out, hf, if_neg ht, List.append_nil])
          have hd : decide (0 < wrap64 (xn - t)) = false := by simpa using ht
          clear HS hf ht
          go_wp2
          go_roundw
          case rel => exact ⟨k + 1, by omega, by go_num, by rw [HS2.out]; exact hown1, hB1⟩
          case measure => simp [intOf]; omega
    · obtain rfl : k = a.length := by omega
      rw [List.take_length] at hown
      obtain ⟨A5, c5, rfl, -⟩ := (ItemsAt.of_own hown).form
      go_wp2
      go_ret
      exact ⟨⟨_, rfl, hown⟩, hB⟩
end It
end Go.Proofs.Ytloabanhoeaidaa
