/-
  the document's answers on items: Of, Same, Both.
-/
import Derived.Test.YtdbkkldgobkjcaaItO
namespace Go.Proofs.Ytdbkkldgobkjcaa
open Go.RowKit Go.Maps
namespace It

set_option maxRecDepth 100000 in
set_option maxHeartbeats 1000000 in
theorem refof_calls (L : List Item) (good : ByteArray) (v : Value) (w : World) (hI : ItemsAt w 0 w.heap.size v L) :
    Calls Try.prog 25 #[v, .string good] w fun e w' => e = .returned (.int .i64 (ofSum good L)) ∧ w = w' := by
  obtain ⟨A, c, rfl, hc1, hc2⟩ := hI.form
  unfold maxLen at hc2
  go_enter Try.func25, Try.ntmps25
  go_wp2
  go_loop [5, 6] (fun t i => ∃ k : Nat, k ≤ L.length ∧ i = .int .i64 k ∧ t = .int .i64 (ofSum good (L.take k))) (fun _ i => L.length - (intOf i).toNat)
  case atStart => exact ⟨0, by omega, rfl, rfl⟩
  case round =>
    obtain ⟨k, hk, rfl, rfl⟩ := hrel
    by_cases hlt : k < L.length
    · have HS := Lib.hid (show ofSum good (L.take (k + 1)) = ofStep good (ofSum good (L.take k)) L[k] by rw [List.take_succ_eq_append_getElem hlt, ofSum_snoc])
      obtain ⟨b, o, rfl, -, hb, g1, g2⟩ := hI.cellAt hlt
      have hd : decide ((k : Int) < (L.length : Int)) = true := by simp; omega
      generalize L[k] = x at *
      obtain ⟨xs, xn⟩ := x
      dsimp only at g1 g2
      have HE := Lib.hid (show ofStep good (ofSum good (L.take k)) (xs, xn) = if xs.toList == good.toList then wrap64 (ofSum good (L.take k) + xn) else ofSum good (L.take k) from rfl)
      generalize ofSum good (L.take k) = t at *
      cases ht : (xs.toList == good.toList)
      · go_wp2
        go_round
        case rel => exact ⟨k + 1, by omega, by go_num, by rw [HS.out, HE.out, ht]; rfl⟩
        case measure => simp [intOf]; omega
      · go_wp2
        go_round
        case rel => exact ⟨k + 1, by omega, by go_num, by rw [HS.out, HE.out, ht]; rfl⟩
        case measure => simp [intOf]; omega
    · obtain rfl : k = L.length := by omega
      rw [List.take_length]
      go_wp2
      go_ret
      exact ⟨rfl, rfl⟩

set_option maxRecDepth 100000 in
set_option maxHeartbeats 1000000 in
theorem refsame_calls (a b : List Item) (va vb : Value) (w : World) (ha : ItemsAt w 0 w.heap.size va a) (hb : ItemsAt w 0 w.heap.size vb b) :
    Calls Try.prog 16 #[va, vb] w fun e w' => e = .returned (.bool (decide (a = b))) ∧ Below w.heap.size w w' := by
  obtain ⟨A, c, rfl, hc1, hc2⟩ := ha.form
  obtain ⟨A', c', rfl, hc1', hc2'⟩ := hb.form
  unfold maxLen at hc2 hc2'
  have hmx : Try.prog.follows .mixedOrders = true := by kernel_rfl
  by_cases hl : a.length = b.length
  · have hln : ((a.length : Int) == (b.length : Int)) = true := by simp; omega
    have hln2 : ((a.length : Int) != (b.length : Int)) = false := by simp; omega
    have HL := Lib.hid hl
    clear hl
    go_enter Try.func16, Try.ntmps16
    go_wp2
    go_loopw [5] (fun i wr => ∃ k : Nat, k ≤ a.length ∧ i = .int .i64 k ∧ a.take k = b.take k ∧ Below w.heap.size w wr) (fun i _ => a.length - (intOf i).toNat)
    case atStart => exact ⟨0, by omega, rfl, rfl, Below.refl _ _⟩
    case round =>
      obtain ⟨k, hk, rfl, hm, hB⟩ := hrel
      by_cases hlt : k < a.length
      · have hltb : k < b.length := by have := HL.out; omega
        obtain ⟨p, o, rfl, -, hp, g1, g2⟩ := (ha.mono hB hB.size).cellAt hlt
        obtain ⟨p', o', rfl, -, hp', g1', g2'⟩ := (hb.mono hB hB.size).cellAt hltb
        have hd : decide ((k : Int) < (a.length : Int)) = true := by simp; omega
        have hd' : decide ((k : Int) < (b.length : Int)) = true := by simp; omega
        have HS := Lib.hid (show a.take (k + 1) = b.take (k + 1) ↔ a[k] = b[k] by
          rw [List.take_succ_eq_append_getElem hlt, List.take_succ_eq_append_getElem hltb, hm, List.append_cancel_left_eq]; simp)
        have HN := Lib.hid (fun (h : a = b) => show a.take (k + 1) = b.take (k + 1) by rw [h])
        clear hm
        generalize a[k] = x at *
        generalize b[k] = y at *
        obtain ⟨xs, xn⟩ := x
        obtain ⟨ys, yn⟩ := y
        dsimp only at g1 g2 g1' g2'
        have hcs : (xs.toList = ys.toList ∧ xn = yn) ∨ ¬ xs.toList = ys.toList ∨ (xs.toList = ys.toList ∧ ¬ xn = yn) := by
          by_cases e : xs.toList = ys.toList <;> by_cases e2 : xn = yn <;> simp [e, e2]
        have hxy : xs.toList = ys.toList → xs = ys := fun h => by
          rw [toList_key, toList_key] at h
          exact ByteArray.ext (Array.toList_inj.1 h)
        have HXY := Lib.hid hxy
        clear hxy
        rcases hcs with ⟨e1, e2⟩ | e1 | ⟨e1, e2⟩
        all_goals
          go_wp2_with fail
          refine Pu.regionW (fun W' => Below wr.drew.heap.size wr.drew W') hmx (by kernel_rfl) (by kernel_rfl) (Below.refl _ _) rfl ?_
          iterate 9 (first
            | (refine Pu.Walk.off (by rfl) ?_; simp only [Act.put, List.setIfInBounds_toArray, List.set_cons_succ, List.set_cons_zero])
            | (apply Pu.Walk.on (by rfl)
               · intro W1 h1
                 have g1a : W1.cell? ⟨p, o + k * 2, none⟩ = some (.string xs) := (Below.cell (p := ⟨p, o + k * 2, none⟩) h1 hp).trans g1
                 have g2a : W1.cell? ⟨p, o + k * 2 + 1, none⟩ = some (.int .i64 xn) := (Below.cell (p := ⟨p, o + k * 2 + 1, none⟩) h1 hp).trans g2
                 have g1b : W1.cell? ⟨p', o' + k * 2, none⟩ = some (.string ys) := (Below.cell (p := ⟨p', o' + k * 2, none⟩) h1 hp').trans g1'
                 have g2b : W1.cell? ⟨p', o' + k * 2 + 1, none⟩ = some (.int .i64 yn) := (Below.cell (p := ⟨p', o' + k * 2 + 1, none⟩) h1 hp').trans g2'
                 go_wp2_with fail
                 refine ⟨rfl, ?_, h1⟩
                 try simp only [Act.put, List.setIfInBounds_toArray, List.set_cons_succ, List.set_cons_zero]
                 rfl
               simp only [Act.put, List.setIfInBounds_toArray, List.set_cons_succ, List.set_cons_zero]))

        all_goals
          refine Pu.Walk.nil (fun W1 h1 => ?_)
          have hB1 : Below w.heap.size w W1 := (hB.trans ((Below.refl w.heap.size wr).drew)).trans (h1.mono hB.size)
          clear g1 g2 g1' g2'
        · have HE := Lib.hid (HXY.out e1)
          have HF := Lib.hid e2
          clear e1 e2
          go_wp2
          go_roundw
          case rel => exact ⟨k + 1, by omega, by go_num, HS.out.2 (by rw [HE.out, HF.out]), hB1⟩
          case measure => simp [intOf]; omega
        all_goals
          have HD := Lib.hid (show decide (a = b) = false from decide_eq_false fun h => by
            have := HS.out.1 (HN.out h)
            simp only [Prod.mk.injEq] at this
            first | exact e1 (by rw [this.1]) | exact e2 this.2)
          go_wp2
          go_ret
          exact ⟨ret1 (boo HD.out.symm), hB1⟩
      · obtain rfl : k = a.length := by omega
        have HD := Lib.hid (show decide (a = b) = true from decide_eq_true (by rw [List.take_length, HL.out, List.take_length] at hm; exact hm))
        go_wp2
        go_ret
        exact ⟨ret1 (boo HD.out.symm), hB⟩
  · have hln : ((a.length : Int) != (b.length : Int)) = true := by rw [bne_iff_ne]; omega
    have HD := Lib.hid (show decide (a = b) = false from decide_eq_false fun h => hl (by rw [h]))
    clear hl
    go_enter Try.func16, Try.ntmps16
    go_wp2
    go_ret
    exact ⟨ret1 (boo HD.out.symm), Below.refl _ _⟩

end It
end Go.Proofs.Ytdbkkldgobkjcaa
