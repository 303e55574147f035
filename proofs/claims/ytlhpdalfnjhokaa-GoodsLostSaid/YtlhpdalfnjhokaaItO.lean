/-
  the document's answers on items: May.
-/
import Derived.Test.YtlhpdalfnjhokaaItP
namespace Go.Proofs.Ytlhpdalfnjhokaa
open Go.RowKit Go.Maps
namespace It

theorem good_first {s : ByteArray} (h : good s = true) : strLe s ⟨#[]⟩ = false := by
  rw [strLe_eq, less_eq]
  have := good_key (x := (s, 0)) h
  unfold key at this
  rw [toList_key, toList_key, decide_eq_true (show ([] : Bs) < s.data.toList from this)]
  rfl
theorem lastOf_take {L : List Item} {j : Nat} (h : j < L.length) : lastOf ⟨#[]⟩ (L.take (j + 1)) = L[j].1 := by
  rw [List.take_succ_eq_append_getElem h, lastOf_snoc]

set_option maxRecDepth 100000 in
set_option maxHeartbeats 4000000 in
theorem refmay_calls (L : List Item) (v : Value) (w : World) (hI : ItemsAt w 0 w.heap.size v L) (hF : Fits L) :
    Calls Try.prog 55 #[v] w fun e w' => e = .returned (.bool (may L)) ∧ Below w.heap.size w w' := by
  obtain ⟨A, c, rfl, hc1, hc2⟩ := hI.form
  unfold maxLen at hc2
  have hmx : Try.prog.follows .mixedOrders = true := by kernel_rfl
  go_enter Try.func55, Try.ntmps55
  go_wp2
  go_loopw [3] (fun i wr => ∃ k : Nat, k ≤ L.length ∧ i = .int .i64 k ∧ mayTo ⟨#[]⟩ (L.take k) = true ∧ Below w.heap.size w wr) (fun i _ => L.length - (intOf i).toNat)
  case atStart => exact ⟨0, by omega, rfl, rfl, Below.refl _ _⟩
  case round =>
    obtain ⟨k, hk, rfl, hm, hB⟩ := hrel
    by_cases hlt : k < L.length
    · have hIr := hI.mono hB hB.size
      have hsn : L.take (k + 1) = L.take k ++ [L[k]] := List.take_succ_eq_append_getElem hlt
      have HS := Lib.hid (show mayTo ⟨#[]⟩ (L.take (k + 1)) = okItem L[k] (lastOf ⟨#[]⟩ (L.take k)) by rw [hsn, mayTo_snoc, hm, Bool.true_and])
      have HN := Lib.hid (show mayTo ⟨#[]⟩ (L.take (k + 1)) = false → may L = false from fun h => by unfold may; rw [mayTo_prefix (List.take_prefix _ _) h]; rfl)
      clear hm hsn
      obtain ⟨b, o, rfl, -, hb, g1, g2⟩ := hIr.cellAt hlt
      have G3 := Lib.hid (show ∀ j (h : j < L.length), wr.cell? ⟨b, o + j * 2, none⟩ = some (.string L[j].1) from fun j h => by
        obtain ⟨b', o', e, -, -, h1, -⟩ := hIr.cellAt h
        cases e; exact h1)
      have hfit := hF _ (List.getElem_mem hlt)
      have hd : decide ((k : Int) < (L.length : Int)) = true := by simp; omega
      have hO : okItem L[k] (lastOf ⟨#[]⟩ (L.take k)) = (good L[k].1 && decide (1 ≤ L[k].2) && countOk L[k].2 && !strLe L[k].1 (lastOf ⟨#[]⟩ (L.take k))) := rfl
      have hT := HS.out.trans hO
      clear HS hO
      have HL := Lib.hid (fun (j : Nat) (h : j < L.length) => lastOf_take h)
      generalize hx : L[k] = x at *
      obtain ⟨xs, xn⟩ := x
      dsimp only at g1 g2 hfit hT
      have HG := Lib.hid (fun h => @good_first xs h)
      have HT := Lib.hid hT
      clear hT hx
      have cG := Lib.hid (fun W => refgood_calls xs W hfit.1)
      have cN := Lib.hid (fun W => refcount_calls xn W)
      generalize good xs = g at *
      generalize countOk xn = cn at *
      rcases Nat.eq_zero_or_pos k with hk0 | hk0
      · have HLS : lastOf ⟨#[]⟩ (L.take k) = ⟨#[]⟩ := by rw [hk0]; rfl
        have HLS := Lib.hid HLS
        have hz : decide (0 < k) = false := by simp; omega
        clear hk0
        rw [HLS.out] at HT
        have hcs : g = false ∨ (g = true ∧ decide (xn < 1) = true) ∨ (g = true ∧ decide (xn < 1) = false ∧ cn = false) ∨ (g = true ∧ decide (xn < 1) = false ∧ cn = true) := by
          cases g <;> cases decide (xn < 1) <;> cases cn <;> simp
        rcases hcs with rfl | ⟨rfl, hn1⟩ | ⟨rfl, hn1, rfl⟩ | ⟨rfl, hn1, rfl⟩
        all_goals
          go_wp2_with fail
          refine Pu.regionW (fun W' => Below wr.drew.heap.size wr.drew W') hmx (by kernel_rfl) (by kernel_rfl) (Below.refl _ _) rfl ?_
          iterate 42 (first
            | (refine Pu.Walk.off (by rfl) ?_; simp only [Act.put, List.setIfInBounds_toArray, List.set_cons_succ, List.set_cons_zero])
            | (apply Pu.Walk.on (by rfl)
               · intro W1 h1
                 have g1' : W1.cell? ⟨b, o + k * 2, none⟩ = some (.string xs) := (Below.cell (p := ⟨b, o + k * 2, none⟩) h1 hb).trans g1
                 have g2' : W1.cell? ⟨b, o + k * 2 + 1, none⟩ = some (.int .i64 xn) := (Below.cell (p := ⟨b, o + k * 2 + 1, none⟩) h1 hb).trans g2
                 go_wp2_with (first
                   | (go_at_call 67; refine (cG.out _).mono ?_; rintro e W2 ⟨rfl, rfl⟩)
                   | (go_at_call 51; refine (cN.out _).mono ?_; rintro e W2 ⟨rfl, rfl⟩))
                 refine ⟨rfl, ?_, h1⟩
                 try simp only [Act.put, List.setIfInBounds_toArray, List.set_cons_succ, List.set_cons_zero]
                 rfl
               simp only [Act.put, List.setIfInBounds_toArray, List.set_cons_succ, List.set_cons_zero]))
          refine Pu.Walk.nil (fun W1 h1 => ?_)
          have hB1 : Below w.heap.size w W1 := (hB.trans ((Below.refl w.heap.size wr).drew)).trans (h1.mono hB.size)
          go_wp2
          first
            | (go_ret
               exact ⟨ret1 (boo (HN.out (by rw [HT.out]; simp; try (simp at hn1; omega))).symm), hB1⟩)
            | (go_roundw
               case rel => exact ⟨k + 1, by omega, by go_num, by rw [HT.out, HG.out trivial]; simp; try (simp at hn1; omega), hB1⟩
               case measure => simp [intOf]; omega)
      · obtain ⟨j, hj⟩ : ∃ j, k = j + 1 := ⟨k - 1, by omega⟩
        have hjl : j < L.length := by omega
        have HLS : lastOf ⟨#[]⟩ (L.take k) = L[j].1 := by rw [hj]; exact HL.out j hjl
        have g3 := G3.out j hjl
        generalize L[j].1 = last at *
        rw [HLS, strLe_eq] at HT
        clear HLS
        have hw : IntKind.i64.wrap ((k : Int) - 1) = (j : Int) := (IntWalk.i64_in _ (by omega)).trans (by omega)
        have HJ := Lib.hid hj
        have hz : decide (0 < k) = true := by simp; omega
        clear hk0 hj
        generalize hle : Op.bytesLess last.toList xs.toList = le at *
        have hcs : g = false ∨ (g = true ∧ decide (xn < 1) = true) ∨ (g = true ∧ decide (xn < 1) = false ∧ cn = false) ∨ (g = true ∧ decide (xn < 1) = false ∧ cn = true ∧ le = true) ∨ (g = true ∧ decide (xn < 1) = false ∧ cn = true ∧ le = false) := by
          cases g <;> cases decide (xn < 1) <;> cases cn <;> cases le <;> simp
        rcases hcs with rfl | ⟨rfl, hn1⟩ | ⟨rfl, hn1, rfl⟩ | ⟨rfl, hn1, rfl, rfl⟩ | ⟨rfl, hn1, rfl, rfl⟩
        all_goals
          go_wp2_with fail
          refine Pu.regionW (fun W' => Below wr.drew.heap.size wr.drew W') hmx (by kernel_rfl) (by kernel_rfl) (Below.refl _ _) rfl ?_
          iterate 42 (first
            | (refine Pu.Walk.off (by rfl) ?_; simp only [Act.put, List.setIfInBounds_toArray, List.set_cons_succ, List.set_cons_zero])
            | (apply Pu.Walk.on (by rfl)
               · intro W1 h1
                 have g1' : W1.cell? ⟨b, o + k * 2, none⟩ = some (.string xs) := (Below.cell (p := ⟨b, o + k * 2, none⟩) h1 hb).trans g1
                 have g2' : W1.cell? ⟨b, o + k * 2 + 1, none⟩ = some (.int .i64 xn) := (Below.cell (p := ⟨b, o + k * 2 + 1, none⟩) h1 hb).trans g2
                 have g3' : W1.cell? ⟨b, o + j * 2, none⟩ = some (.string last) := (Below.cell (p := ⟨b, o + j * 2, none⟩) h1 hb).trans g3
                 go_wp2_with (first
                   | (go_at_call 67; refine (cG.out _).mono ?_; rintro e W2 ⟨rfl, rfl⟩)
                   | (go_at_call 51; refine (cN.out _).mono ?_; rintro e W2 ⟨rfl, rfl⟩))
                 refine ⟨rfl, ?_, h1⟩
                 try simp only [Act.put, List.setIfInBounds_toArray, List.set_cons_succ, List.set_cons_zero]
                 rfl
               simp only [Act.put, List.setIfInBounds_toArray, List.set_cons_succ, List.set_cons_zero]))
          refine Pu.Walk.nil (fun W1 h1 => ?_)
          have hB1 : Below w.heap.size w W1 := (hB.trans ((Below.refl w.heap.size wr).drew)).trans (h1.mono hB.size)
          go_wp2
          first
            | (go_ret
               exact ⟨ret1 (boo (HN.out (by rw [HT.out]; simp; try (simp at hn1; omega))).symm), hB1⟩)
            | (go_roundw
               case rel => exact ⟨k + 1, by omega, by go_num, by rw [HT.out, Bool.not_not]; simp; try (simp at hn1; omega), hB1⟩
               case measure => simp [intOf]; omega)
    · obtain rfl : k = L.length := by omega
      rw [List.take_length] at hm
      have HM := Lib.hid (show may L = decide (L.length ≤ 16) by unfold may; rw [hm, Bool.true_and])
      clear hm
      go_wp2
      go_ret
      exact ⟨ret1 (boo (by rw [HM.out]; exact decide_eq_decide.2 (by omega))), hB⟩
end It
end Go.Proofs.Ytlhpdalfnjhokaa
