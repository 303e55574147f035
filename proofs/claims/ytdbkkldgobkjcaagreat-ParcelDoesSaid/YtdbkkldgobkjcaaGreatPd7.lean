/-
  the document's answers on items: May.
  the document's answers on items: Of, Same, Both.
  moves: what lives says.
  parcels: copied, Parcel, Left.
  parcels: Left, Open.
-/
import Derived.Test.YtdbkkldgobkjcaaGreatPd5
import Derived.Test.YtdbkkldgobkjcaaGreatPd6
import Derived.Deep.RegionHeld3
namespace Go.Proofs.YtdbkkldgobkjcaaGreat
open Go.RowKit Go.Maps
namespace It

theorem good_first {s : ByteArray} (h : good s = true) : strLe s ⟨#[]⟩ = false := by
  rw [strLe_eq, less_eq]
  have := good_key (x := (s, 0)) h
  unfold key at this
  rw [toList_key, toList_key, decide_eq_true (show ([] : Bs) < s.data.toList from this)]
  rfl
theorem lastOf_take {L : List Item} {j : Nat} (h : j < L.length) : lastOf ⟨#[]⟩ (L.take (j + 1)) = L[j].1 := by
  rw [List.take_succ_eq_append_getElem h, lastOf_snoc]

set_option maxRecDepth 100000 in
set_option maxHeartbeats 4000000 in
theorem refmay_calls (L : List Item) (v : Value) (w : World) (hI : ItemsAt w 0 w.heap.size v L) (hF : Fits L) :
    Calls Tryz.prog 46 #[v] w fun e w' => e = .returned (.bool (may L)) ∧ Below w.heap.size w w' := by
  obtain ⟨A, c, rfl, hc1, hc2⟩ := hI.form
  unfold maxLen at hc2
  have hmx : Tryz.prog.follows .mixedOrders = true := by kernel_rfl
  go_enter Tryz.func46, Tryz.ntmps46
  go_wp2
  go_loopw [3] (fun i wr => ∃ k : Nat, k ≤ L.length ∧ i = .int .i64 k ∧ mayTo ⟨#[]⟩ (L.take k) = true ∧ Below w.heap.size w wr) (fun i _ => L.length - (intOf i).toNat)
  case atStart => exact ⟨0, by omega, rfl, rfl, Below.refl _ _⟩
  case round =>
    obtain ⟨k, hk, rfl, hm, hB⟩ := hrel
    by_cases hlt : k < L.length
    · have hIr := hI.mono hB hB.size
      have hsn : L.take (k + 1) = L.take k ++ [L[k]] := List.take_succ_eq_append_getElem hlt
      have HS := Lib.hid (show mayTo ⟨#[]⟩ (L.take (k + 1)) = okItem L[k] (lastOf ⟨#[]⟩ (L.take k)) by rw [hsn, mayTo_snoc, hm, Bool.true_and])
      have HN := Lib.hid (show mayTo ⟨#[]⟩ (L.take (k + 1)) = false → may L = false from fun h => by unfold may; rw [mayTo_prefix (List.take_prefix _ _) h]; rfl)
      clear hm hsn
      obtain ⟨b, o, rfl, -, hb, g1, g2⟩ := hIr.cellAt hlt
      have G3 := Lib.hid (show ∀ j (h : j < L.length), wr.cell? ⟨b, o + j * 2, none⟩ = some (.string L[j].1) from fun j h => by
        obtain ⟨b', o', e, -, -, h1, -⟩ := hIr.cellAt h
        cases e; exact h1)
      have hfit := hF _ (List.getElem_mem hlt)
      have hd : decide ((k : Int) < (L.length : Int)) = true := by simp; omega
      have hO : okItem L[k] (lastOf ⟨#[]⟩ (L.take k)) = (good L[k].1 && decide (1 ≤ L[k].2) && countOk L[k].2 && !strLe L[k].1 (lastOf ⟨#[]⟩ (L.take k))) := rfl
      have hT := HS.out.trans hO
      clear HS hO
      have HL := Lib.hid (fun (j : Nat) (h : j < L.length) => lastOf_take h)
      generalize hx : L[k] = x at *
      obtain ⟨xs, xn⟩ := x
      dsimp only at g1 g2 hfit hT
      have HG := Lib.hid (fun h => @good_first xs h)
      have HT := Lib.hid hT
      clear hT hx
      have cG := Lib.hid (fun W => refgood_calls xs W hfit.1)
      have cN := Lib.hid (fun W => refcount_calls xn W)
      generalize good xs = g at *
      generalize countOk xn = cn at *
      rcases Nat.eq_zero_or_pos k with hk0 | hk0
      · have HLS : lastOf ⟨#[]⟩ (L.take k) = ⟨#[]⟩ := by rw [hk0]; rfl
        have HLS := Lib.hid HLS
        have hz : decide (0 < k) = false := by simp; omega
        clear hk0
        rw [HLS.out] at HT
        have hcs : g = false ∨ (g = true ∧ decide (xn < 1) = true) ∨ (g = true ∧ decide (xn < 1) = false ∧ cn = false) ∨ (g = true ∧ decide (xn < 1) = false ∧ cn = true) := by
          cases g <;> cases decide (xn < 1) <;> cases cn <;> simp
        rcases hcs with rfl | ⟨rfl, hn1⟩ | ⟨rfl, hn1, rfl⟩ | ⟨rfl, hn1, rfl⟩
        all_goals
          go_wp2_with fail
          refine Pu.regionW (fun W' => Below wr.drew.heap.size wr.drew W') hmx (by kernel_rfl) (by kernel_rfl) (Below.refl _ _) rfl ?_
          iterate 42 (first
            | (refine Pu.Walk.off (by rfl) ?_; simp only [Act.put, List.setIfInBounds_toArray, List.set_cons_succ, List.set_cons_zero])
            | (apply Pu.Walk.on (by rfl)
               · intro W1 h1
                 have g1' : W1.cell? ⟨b, o + k * 2, none⟩ = some (.string xs) := (Below.cell (p := ⟨b, o + k * 2, none⟩) h1 hb).trans g1
                 have g2' : W1.cell? ⟨b, o + k * 2 + 1, none⟩ = some (.int .i64 xn) := (Below.cell (p := ⟨b, o + k * 2 + 1, none⟩) h1 hb).trans g2
                 go_wp2_with (first
                   | (go_at_call 89; refine (cG.out _).mono ?_; rintro e W2 ⟨rfl, rfl⟩)
                   | (go_at_call 90; refine (cN.out _).mono ?_; rintro e W2 ⟨rfl, rfl⟩))
                 refine ⟨rfl, ?_, h1⟩
                 try simp only [Act.put, List.setIfInBounds_toArray, List.set_cons_succ, List.set_cons_zero]
                 rfl
               simp only [Act.put, List.setIfInBounds_toArray, List.set_cons_succ, List.set_cons_zero]))
          refine Pu.Walk.nil (fun W1 h1 => ?_)
          have hB1 : Below w.heap.size w W1 := (hB.trans ((Below.refl w.heap.size wr).drew)).trans (h1.mono hB.size)
          go_wp2
          first
            | (go_ret
               exact ⟨ret1 (boo (HN.out (by rw [HT.out]; simp; try (simp at hn1; omega))).symm), hB1⟩)
            | (go_roundw
               case rel => exact ⟨k + 1, by omega, by go_num, by rw [HT.out, HG.out trivial]; simp; try (simp at hn1; omega), hB1⟩
               case measure => simp [intOf]; omega)
      · obtain ⟨j, hj⟩ : ∃ j, k = j + 1 := ⟨k - 1, by omega⟩
        have hjl : j < L.length := by omega
        have HLS : lastOf ⟨#[]⟩ (L.take k) = L[j].1 := by rw [hj]; exact HL.out j hjl
        have g3 := G3.out j hjl
        generalize L[j].1 = last at *
        rw [HLS, strLe_eq] at HT
        clear HLS
        have hw : IntKind.i64.wrap ((k : Int) - 1) = (j : Int) := (IntWalk.i64_in _ (by omega)).trans (by omega)
        have HJ := Lib.hid hj
        have hz : decide (0 < k) = true := by simp; omega
        clear hk0 hj
        generalize hle : Op.bytesLess last.toList xs.toList = le at *
        have hcs : g = false ∨ (g = true ∧ decide (xn < 1) = true) ∨ (g = true ∧ decide (xn < 1) = false ∧ cn = false) ∨ (g = true ∧ decide (xn < 1) = false ∧ cn = true ∧ le = true) ∨ (g = true ∧ decide (xn < 1) = false ∧ cn = true ∧ le = false) := by
          cases g <;> cases decide (xn < 1) <;> cases cn <;> cases le <;> simp
        rcases hcs with rfl | ⟨rfl, hn1⟩ | ⟨rfl, hn1, rfl⟩ | ⟨rfl, hn1, rfl, rfl⟩ | ⟨rfl, hn1, rfl, rfl⟩
        all_goals
          go_wp2_with fail
          refine Pu.regionW (fun W' => Below wr.drew.heap.size wr.drew W') hmx (by kernel_rfl) (by kernel_rfl) (Below.refl _ _) rfl ?_
          iterate 42 (first
            | (refine Pu.Walk.off (by rfl) ?_; simp only [Act.put, List.setIfInBounds_toArray, List.set_cons_succ, List.set_cons_zero])
            | (apply Pu.Walk.on (by rfl)
               · intro W1 h1
                 have g1' : W1.cell? ⟨b, o + k * 2, none⟩ = some (.string xs) := (Below.cell (p := ⟨b, o + k * 2, none⟩) h1 hb).trans g1
                 have g2' : W1.cell? ⟨b, o + k * 2 + 1, none⟩ = some (.int .i64 xn) := (Below.cell (p := ⟨b, o + k * 2 + 1, none⟩) h1 hb).trans g2
                 have g3' : W1.cell? ⟨b, o + j * 2, none⟩ = some (.string last) := (Below.cell (p := ⟨b, o + j * 2, none⟩) h1 hb).trans g3
                 go_wp2_with (first
                   | (go_at_call 89; refine (cG.out _).mono ?_; rintro e W2 ⟨rfl, rfl⟩)
                   | (go_at_call 90; refine (cN.out _).mono ?_; rintro e W2 ⟨rfl, rfl⟩))
                 refine ⟨rfl, ?_, h1⟩
                 try simp only [Act.put, List.setIfInBounds_toArray, List.set_cons_succ, List.set_cons_zero]
                 rfl
               simp only [Act.put, List.setIfInBounds_toArray, List.set_cons_succ, List.set_cons_zero]))
          refine Pu.Walk.nil (fun W1 h1 => ?_)
          have hB1 : Below w.heap.size w W1 := (hB.trans ((Below.refl w.heap.size wr).drew)).trans (h1.mono hB.size)
          go_wp2
          first
            | (go_ret
               exact ⟨ret1 (boo (HN.out (by rw [HT.out]; simp; try (simp at hn1; omega))).symm), hB1⟩)
            | (go_roundw
               case rel => exact ⟨k + 1, by omega, by go_num, by rw [HT.out, Bool.not_not]; simp; try (simp at hn1; omega), hB1⟩
               case measure => simp [intOf]; omega)
    · obtain rfl : k = L.length := by omega
      rw [List.take_length] at hm
      have HM := Lib.hid (show may L = decide (L.length ≤ 16) by unfold may; rw [hm, Bool.true_and])
      clear hm
      go_wp2
      go_ret
      exact ⟨ret1 (boo (by rw [HM.out]; exact decide_eq_decide.2 (by omega))), hB⟩
end It
end Go.Proofs.YtdbkkldgobkjcaaGreat

namespace Go.Proofs.YtdbkkldgobkjcaaGreat
open Go.RowKit Go.Maps
namespace It

set_option maxRecDepth 100000 in
set_option maxHeartbeats 1000000 in
theorem refof_calls (L : List Item) (good : ByteArray) (v : Value) (w : World) (hI : ItemsAt w 0 w.heap.size v L) :
    Calls Tryz.prog 96 #[v, .string good] w fun e w' => e = .returned (.int .i64 (ofSum good L)) ∧ w = w' := by
  obtain ⟨A, c, rfl, hc1, hc2⟩ := hI.form
  unfold maxLen at hc2
  go_enter Tryz.func96, Tryz.ntmps96
  go_wp2
  go_loop [5, 6] (fun t i => ∃ k : Nat, k ≤ L.length ∧ i = .int .i64 k ∧ t = .int .i64 (ofSum good (L.take k))) (fun _ i => L.length - (intOf i).toNat)
  case atStart => exact ⟨0, by omega, rfl, rfl⟩
  case round =>
    obtain ⟨k, hk, rfl, rfl⟩ := hrel
    by_cases hlt : k < L.length
    · have HS := Lib.hid (show ofSum good (L.take (k + 1)) = ofStep good (ofSum good (L.take k)) L[k] by rw [List.take_succ_eq_append_getElem hlt, ofSum_snoc])
      obtain ⟨b, o, rfl, -, hb, g1, g2⟩ := hI.cellAt hlt
      have hd : decide ((k : Int) < (L.length : Int)) = true := by simp; omega
      generalize L[k] = x at *
      obtain ⟨xs, xn⟩ := x
      dsimp only at g1 g2
      have HE := Lib.hid (show ofStep good (ofSum good (L.take k)) (xs, xn) = if xs.toList == good.toList then wrap64 (ofSum good (L.take k) + xn) else ofSum good (L.take k) from rfl)
      generalize ofSum good (L.take k) = t at *
      cases ht : (xs.toList == good.toList)
      · go_wp2
        go_round
        case rel => exact ⟨k + 1, by omega, by go_num, by rw [HS.out, HE.out, ht]; rfl⟩
        case measure => simp [intOf]; omega
      · go_wp2
        go_round
        case rel => exact ⟨k + 1, by omega, by go_num, by rw [HS.out, HE.out, ht]; rfl⟩
        case measure => simp [intOf]; omega
    · obtain rfl : k = L.length := by omega
      rw [List.take_length]
      go_wp2
      go_ret
      exact ⟨rfl, rfl⟩

set_option maxRecDepth 100000 in
set_option maxHeartbeats 1000000 in
theorem refsame_calls (a b : List Item) (va vb : Value) (w : World) (ha : ItemsAt w 0 w.heap.size va a) (hb : ItemsAt w 0 w.heap.size vb b) :
    Calls Tryz.prog 21 #[va, vb] w fun e w' => e = .returned (.bool (decide (a = b))) ∧ Below w.heap.size w w' := by
  obtain ⟨A, c, rfl, hc1, hc2⟩ := ha.form
  obtain ⟨A', c', rfl, hc1', hc2'⟩ := hb.form
  unfold maxLen at hc2 hc2'
  have hmx : Tryz.prog.follows .mixedOrders = true := by kernel_rfl
  by_cases hl : a.length = b.length
  · have hln : ((a.length : Int) == (b.length : Int)) = true := by simp; omega
    have hln2 : ((a.length : Int) != (b.length : Int)) = false := by simp; omega
    have HL := Lib.hid hl
    clear hl
    go_enter Tryz.func21, Tryz.ntmps21
    go_wp2
    go_loopw [5] (fun i wr => ∃ k : Nat, k ≤ a.length ∧ i = .int .i64 k ∧ a.take k = b.take k ∧ Below w.heap.size w wr) (fun i _ => a.length - (intOf i).toNat)
    case atStart => exact ⟨0, by omega, rfl, rfl, Below.refl _ _⟩
    case round =>
      obtain ⟨k, hk, rfl, hm, hB⟩ := hrel
      by_cases hlt : k < a.length
      · have hltb : k < b.length := by have := HL.out; omega
        obtain ⟨p, o, rfl, -, hp, g1, g2⟩ := (ha.mono hB hB.size).cellAt hlt
        obtain ⟨p', o', rfl, -, hp', g1', g2'⟩ := (hb.mono hB hB.size).cellAt hltb
        have hd : decide ((k : Int) < (a.length : Int)) = true := by simp; omega
        have hd' : decide ((k : Int) < (b.length : Int)) = true := by simp; omega
        have HS := Lib.hid (show a.take (k + 1) = b.take (k + 1) ↔ a[k] = b[k] by
          rw [List.take_succ_eq_append_getElem hlt, List.take_succ_eq_append_getElem hltb, hm, List.append_cancel_left_eq]; simp)
        have HN := Lib.hid (fun (h : a = b) => show a.take (k + 1) = b.take (k + 1) by rw [h])
        clear hm
        generalize a[k] = x at *
        generalize b[k] = y at *
        obtain ⟨xs, xn⟩ := x
        obtain ⟨ys, yn⟩ := y
        dsimp only at g1 g2 g1' g2'
        have hcs : (xs.toList = ys.toList ∧ xn = yn) ∨ ¬ xs.toList = ys.toList ∨ (xs.toList = ys.toList ∧ ¬ xn = yn) := by
          by_cases e : xs.toList = ys.toList <;> by_cases e2 : xn = yn <;> simp [e, e2]
        have hxy : xs.toList = ys.toList → xs = ys := fun h => by
          rw [toList_key, toList_key] at h
          exact ByteArray.ext (Array.toList_inj.1 h)
        have HXY := Lib.hid hxy
        clear hxy
        rcases hcs with ⟨e1, e2⟩ | e1 | ⟨e1, e2⟩
        all_goals
          go_wp2_with fail
          refine Pu.regionW (fun W' => Below wr.drew.heap.size wr.drew W') hmx (by kernel_rfl) (by kernel_rfl) (Below.refl _ _) rfl ?_
          iterate 9 (first
            | (refine Pu.Walk.off (by rfl) ?_; simp only [Act.put, List.setIfInBounds_toArray, List.set_cons_succ, List.set_cons_zero])
            | (apply Pu.Walk.on (by rfl)
               · intro W1 h1
                 have g1a : W1.cell? ⟨p, o + k * 2, none⟩ = some (.string xs) := (Below.cell (p := ⟨p, o + k * 2, none⟩) h1 hp).trans g1
                 have g2a : W1.cell? ⟨p, o + k * 2 + 1, none⟩ = some (.int .i64 xn) := (Below.cell (p := ⟨p, o + k * 2 + 1, none⟩) h1 hp).trans g2
                 have g1b : W1.cell? ⟨p', o' + k * 2, none⟩ = some (.string ys) := (Below.cell (p := ⟨p', o' + k * 2, none⟩) h1 hp').trans g1'
                 have g2b : W1.cell? ⟨p', o' + k * 2 + 1, none⟩ = some (.int .i64 yn) := (Below.cell (p := ⟨p', o' + k * 2 + 1, none⟩) h1 hp').trans g2'
                 go_wp2_with fail
                 refine ⟨rfl, ?_, h1⟩
                 try simp only [Act.put, List.setIfInBounds_toArray, List.set_cons_succ, List.set_cons_zero]
                 rfl
               simp only [Act.put, List.setIfInBounds_toArray, List.set_cons_succ, List.set_cons_zero]))

        all_goals
          refine Pu.Walk.nil (fun W1 h1 => ?_)
          have hB1 : Below w.heap.size w W1 := (hB.trans ((Below.refl w.heap.size wr).drew)).trans (h1.mono hB.size)
          clear g1 g2 g1' g2'
        · have HE := Lib.hid (HXY.out e1)
          have HF := Lib.hid e2
          clear e1 e2
          go_wp2
          go_roundw
          case rel => exact ⟨k + 1, by omega, by go_num, HS.out.2 (by rw [HE.out, HF.out]), hB1⟩
          case measure => simp [intOf]; omega
        all_goals
          have HD := Lib.hid (show decide (a = b) = false from decide_eq_false fun h => by
            have := HS.out.1 (HN.out h)
            simp only [Prod.mk.injEq] at this
            first | exact e1 (by rw [this.1]) | exact e2 this.2)
          go_wp2
          go_ret
          exact ⟨ret1 (boo HD.out.symm), hB1⟩
      · obtain rfl : k = a.length := by omega
        have HD := Lib.hid (show decide (a = b) = true from decide_eq_true (by rw [List.take_length, HL.out, List.take_length] at hm; exact hm))
        go_wp2
        go_ret
        exact ⟨ret1 (boo HD.out.symm), hB⟩
  · have hln : ((a.length : Int) != (b.length : Int)) = true := by rw [bne_iff_ne]; omega
    have HD := Lib.hid (show decide (a = b) = false from decide_eq_false fun h => hl (by rw [h]))
    clear hl
    go_enter Tryz.func21, Tryz.ntmps21
    go_wp2
    go_ret
    exact ⟨ret1 (boo HD.out.symm), Below.refl _ _⟩

set_option maxRecDepth 100000 in
set_option maxHeartbeats 4000000 in
theorem refboth_calls (kind : Int) (f : Int → Int → Int) (hkf : (kind = 1 ∧ f = meetF) ∨ (kind = 2 ∧ f = restF)) (a b : List Item) (va vb : Value) (w : World) (ha : ItemsAt w 0 w.heap.size va a) (hb : ItemsAt w 0 w.heap.size vb b) (hla : a.length ≤ 1000000) :
    Calls Tryz.prog 54 #[va, vb, .int .i64 kind] w fun e w' =>
      (∃ v, e = .returned v ∧ w'.ownsRow w.heap.size 37 2 v (eachL f a b).length (itemCells (eachL f a b))) ∧ Below w.heap.size w w' := by
  obtain ⟨A, c, rfl, hc1, hc2⟩ := ha.form
  obtain ⟨A', c', rfl, hc1', hc2'⟩ := hb.form
  unfold maxLen at hc2 hc2'
  have hmx : Tryz.prog.follows .mixedOrders = true := by kernel_rfl
  have HKF := Lib.hid hkf
  clear hkf
  obtain ⟨i0, hi0, hz0⟩ := Option.map_eq_some_iff.1 item_info
  simp only [Prod.mk.injEq] at hz0
  obtain ⟨hz0, hz1, hz2⟩ := hz0
  have HOL := Lib.hid (fun k => show (eachL f (a.take k) b).length ≤ 1000000 from Nat.le_trans (eachL_len _ _ _) (Nat.le_trans (List.length_take_le' _ _) hla))
  go_enter Tryz.func54, Tryz.ntmps54
  go_wp2
  go_loopw [7, 8, 9, 10, 11] (fun o i _ _ _ wr => ∃ k : Nat, k ≤ a.length ∧ i = .int .i64 k ∧ wr.ownsRow w.heap.size 37 2 o (eachL f (a.take k) b).length (itemCells (eachL f (a.take k) b)) ∧ Below w.heap.size w wr) (fun _ i _ _ _ _ => a.length - (intOf i).toNat)
  case atStart => exact ⟨0, by omega, rfl, World.ownsRow_nil _ _ _ _, Below.refl _ _⟩
  case round =>
    obtain ⟨k, hk, rfl, hown, hB⟩ := hrel
    by_cases hlt : k < a.length
    · have har := ha.mono hB hB.size
      have hbr := hb.mono hB hB.size
      have HS := Lib.hid (show eachL f (a.take (k + 1)) b = eachL f (a.take k) b ++ (if 0 < f a[k].2 (ofSum a[k].1 b) then [(a[k].1, f a[k].2 (ofSum a[k].1 b))] else []) by rw [List.take_succ_eq_append_getElem hlt, eachL_snoc])
      have HL := Lib.hid (HOL.out k)
      obtain ⟨p, o, rfl, -, hp, g1, g2⟩ := har.cellAt hlt
      have hd : decide ((k : Int) < (a.length : Int)) = true := by simp; omega
      generalize a[k] = x at *
      obtain ⟨xs, xn⟩ := x
      dsimp only at g1 g2
      generalize eachL f (a.take k) b = S at *
      have cO := Lib.hid (fun v W hI => refof_calls b xs v W hI)
      dsimp only at HS
      generalize ofSum xs b = t at *
      go_wp2_with fail
      refine Pu.regionW (fun W' => Below wr.drew.heap.size wr.drew W') hmx (by kernel_rfl) (by kernel_rfl) (Below.refl _ _) rfl ?_
      iterate 14 (first
        | (refine Pu.Walk.off (by rfl) ?_; simp only [Act.put, List.setIfInBounds_toArray, List.set_cons_succ, List.set_cons_zero])
        | (apply Pu.Walk.on (by rfl)
           · intro W1 h1
             have hb1 := (hbr.mono (Below.refl wr.heap.size wr).drew (B' := wr.drew.heap.size) (Nat.le_refl _)).mono h1 h1.size
             have g1a : W1.cell? ⟨p, o + k * 2, none⟩ = some (.string xs) := (Below.cell (p := ⟨p, o + k * 2, none⟩) h1 hp).trans g1
             have g2a : W1.cell? ⟨p, o + k * 2 + 1, none⟩ = some (.int .i64 xn) := (Below.cell (p := ⟨p, o + k * 2 + 1, none⟩) h1 hp).trans g2
             go_wp2_with (go_at_call 96; refine (cO.out _ _ hb1).mono ?_; rintro e W2 ⟨rfl, rfl⟩)
             refine ⟨rfl, ?_, h1⟩
             try simp only [Act.put, List.setIfInBounds_toArray, List.set_cons_succ, List.set_cons_zero]
             rfl
           simp only [Act.put, List.setIfInBounds_toArray, List.set_cons_succ, List.set_cons_zero]))
      refine Pu.Walk.nil (fun W1 h1 => ?_)
      have hB1 : Below w.heap.size w W1 := (hB.trans ((Below.refl w.heap.size wr).drew)).trans (h1.mono hB.size)
      have hown1 : W1.ownsRow w.heap.size 37 2 u7 S.length (itemCells S) := row_below (show wr.drew.ownsRow _ _ _ _ _ _ from hown) h1
      have hcx : W1.cell? ⟨p, o + k * 2, none⟩ = some (.string xs) := (Below.cell (p := ⟨p, o + k * 2, none⟩) h1 hp).trans g1
      clear g1 g2 hown
      have hcases : (kind = 1 ∧ f xn t = t ∧ t < xn) ∨ (kind = 1 ∧ f xn t = xn ∧ ¬ t < xn) ∨ (kind = 2 ∧ f xn t = wrap64 (xn - t)) := by
        rcases HKF.out with ⟨h1, rfl⟩ | ⟨h1, rfl⟩
        · by_cases h : t < xn
          · exact .inl ⟨h1, by unfold meetF; omega, h⟩
          · exact .inr (.inl ⟨h1, by unfold meetF; omega, h⟩)
        · exact .inr (.inr ⟨h1, rfl⟩)
      rcases hcases with ⟨rfl, hf, hx⟩ | ⟨rfl, hf, hx⟩ | ⟨rfl, hf⟩
      · clear HKF
        have hdx : decide (t < xn) = true := by simpa using hx
        by_cases ht : 0 < t
        · have HS2 := Lib.hid (show eachL f (a.take (k + 1)) b = S ++ [(xs, t)] by rw [HS.out, hf, if_pos ht])
          have hd : decide (0 < t) = true := by simpa using ht
          clear HS hf ht
          go_wp2_with (at_builtin
                       refine wpList_append_sl _ rfl (.tmp 42) (.tmp 50) _ rfl w.heap.size 37 i0 _ 2 24 Tryz.underlying30 hi0 hz0 hz1 hz2 rfl (by omega) u7 S.length (itemCells S) rfl (hown1.alloc _) W1.heap.size (W1.heap.size + 1) _ 1 [.string xs, .int .i64 (t)] rfl (Sl.new W1 #[.string xs, .int .i64 (t)] 37 (n := 1) rfl (by unfold maxLen; omega)) (by simp [Value.oneCell']) (by have := HL.out; unfold maxLen; omega) (by have := HL.out; omega) (by have := hB1.size; simp; omega) ?_
                       intro v1 w5 hv1 hg1 hat1)
          have hB4 : Below w.heap.size w w5 := (hB1.alloc hB1.size _).grown hg1 (by have := hB1.size; simp; omega) (fun g hg => (hown1.lt g hg).1)
          go_roundw
          case rel =>
            refine ⟨k + 1, by omega, by go_num, ?_, hB4⟩
            rw [HS2.out, List.length_append, itemCells_append]
            exact hv1
          case measure => simp [intOf]; omega
        · have HS2 := Lib.hid (show eachL f (a.take (k + 1)) b = S by rw [HS.out, hf, if_neg ht, List.append_nil])
          have hd : decide (0 < t) = false := by simpa using ht
          clear HS hf ht
          go_wp2
          go_roundw
          case rel => exact ⟨k + 1, by omega, by go_num, by rw [HS2.out]; exact hown1, hB1⟩
          case measure => simp [intOf]; omega
      · clear HKF
        have hdx : decide (t < xn) = false := by simpa using hx
        by_cases ht : 0 < xn
        · have HS2 := Lib.hid (show eachL f (a.take (k + 1)) b = S ++ [(xs, xn)] by rw [HS.out, hf, if_pos ht])
          have hd : decide (0 < xn) = true := by simpa using ht
          clear HS hf ht
          go_wp2_with (at_builtin
                       refine wpList_append_sl _ rfl (.tmp 42) (.tmp 50) _ rfl w.heap.size 37 i0 _ 2 24 Tryz.underlying30 hi0 hz0 hz1 hz2 rfl (by omega) u7 S.length (itemCells S) rfl (hown1.alloc _) W1.heap.size (W1.heap.size + 1) _ 1 [.string xs, .int .i64 (xn)] rfl (Sl.new W1 #[.string xs, .int .i64 (xn)] 37 (n := 1) rfl (by unfold maxLen; omega)) (by simp [Value.oneCell']) (by have := HL.out; unfold maxLen; omega) (by have := HL.out; omega) (by have := hB1.size; simp; omega) ?_
                       intro v1 w5 hv1 hg1 hat1)
          have hB4 : Below w.heap.size w w5 := (hB1.alloc hB1.size _).grown hg1 (by have := hB1.size; simp; omega) (fun g hg => (hown1.lt g hg).1)
          go_roundw
          case rel =>
            refine ⟨k + 1, by omega, by go_num, ?_, hB4⟩
            rw [HS2.out, List.length_append, itemCells_append]
            exact hv1
          case measure => simp [intOf]; omega
        · have HS2 := Lib.hid (show eachL f (a.take (k + 1)) b = S by rw [HS.out, hf, if_neg ht, List.append_nil])
          have hd : decide (0 < xn) = false := by simpa using ht
          clear HS hf ht
          go_wp2
          go_roundw
          case rel => exact ⟨k + 1, by omega, by go_num, by rw [HS2.out]; exact hown1, hB1⟩
          case measure => simp [intOf]; omega
      · clear HKF
        by_cases ht : 0 < wrap64 (xn - t)
        · have HS2 := Lib.hid (show eachL f (a.take (k + 1)) b = S ++ [(xs, wrap64 (xn - t))] by rw [HS.out, hf, if_pos ht])
          have hd : decide (0 < wrap64 (xn - t)) = true := by simpa using ht
          clear HS hf ht
          go_wp2_with (at_builtin
                       refine wpList_append_sl _ rfl (.tmp 42) (.tmp 50) _ rfl w.heap.size 37 i0 _ 2 24 Tryz.underlying30 hi0 hz0 hz1 hz2 rfl (by omega) u7 S.length (itemCells S) rfl (hown1.alloc _) W1.heap.size (W1.heap.size + 1) _ 1 [.string xs, .int .i64 (wrap64 (xn - t))] rfl (Sl.new W1 #[.string xs, .int .i64 (wrap64 (xn - t))] 37 (n := 1) rfl (by unfold maxLen; omega)) (by simp [Value.oneCell']) (by have := HL.out; unfold maxLen; omega) (by have := HL.out; omega) (by have := hB1.size; simp; omega) ?_
                       intro v1 w5 hv1 hg1 hat1)
          have hB4 : Below w.heap.size w w5 := (hB1.alloc hB1.size _).grown hg1 (by have := hB1.size; simp; omega) (fun g hg => (hown1.lt g hg).1)
          go_roundw
          case rel =>
            refine ⟨k + 1, by omega, by go_num, ?_, hB4⟩
            rw [HS2.out, List.length_append, itemCells_append]
            exact hv1
          case measure => simp [intOf]; omega
        · have HS2 := Lib.hid (show eachL f (a.take (k + 1)) b = S by rw [HS.out, hf, if_neg ht, List.append_nil])
          have hd : decide (0 < wrap64 (xn - t)) = false := by simpa using ht
          clear HS hf ht
          go_wp2
          go_roundw
          case rel => exact ⟨k + 1, by omega, by go_num, by rw [HS2.out]; exact hown1, hB1⟩
          case measure => simp [intOf]; omega
    · obtain rfl : k = a.length := by omega
      rw [List.take_length] at hown
      obtain ⟨A5, c5, rfl, -⟩ := (ItemsAt.of_own hown).form
      go_wp2
      go_ret
      exact ⟨⟨_, rfl, hown⟩, hB⟩
end It
end Go.Proofs.YtdbkkldgobkjcaaGreat

namespace Go.Proofs.YtdbkkldgobkjcaaGreat
open Go.RowKit Go.Maps
namespace Mv
open It

theorem past {w w' : World} {lo mb : Nat} {v : Value} {l : List It.Item} (h : ItemsAt w lo w.heap.size v l) (hg : w.grownBy w' (some mb)) (hlt : mb < lo) : ItemsAt w' lo w'.heap.size v l :=
  (Sl.grown h hg (Nat.le_refl _) (fun k e => by cases e; exact .inl hlt)).wide (Nat.le_refl _) hg.size
theorem below_far {B : Nat} {w w' w2 : World} {mb : Nat} (h : Below B w w') (hg : w'.grownBy w2 (some mb)) (hB : B ≤ w.heap.size) (hm : B ≤ mb) : Below B w w2 := h.grown hg (Nat.le_trans hB h.size) (fun k e => by cases e; exact hm)

def la5 : List It.Item := [(sa, 5)]
def d15 : Way := ⟨1, 0, 2, la5, false⟩
def d15c : Way := ⟨1, 0, 2, la5, true⟩
theorem fits5 : Fits la5 := by
  intro x hx
  simp only [la5, List.mem_cons, List.not_mem_nil, or_false] at hx
  subst hx
  exact ⟨by decide, by decide, by decide⟩
theorem l_go : goOf [] 1 0 2 la5 = ([d15], 0) := by kernel_rfl
theorem l_under : underOf 0 2 [d15] = la5 := by kernel_rfl
theorem l_come : comeOf [d15] 1 = ([d15c], la5, 0) := by kernel_rfl
theorem l_come2 : comeOf [d15c] 1 = ([d15c], [], 5) := by kernel_rfl
theorem l_forget : forgetOf [d15c] 2 = ([d15c], 4) := by kernel_rfl
theorem l_under2 : underOf 0 2 [d15c] = [] := by kernel_rfl
theorem eql_nil (b : Nat) (w : World) : (binOp .eql 104 (.func (.func 97) #[] #[.pointer (some ⟨b, 0, none⟩)]) .nilFunc).run Tryz.prog w = .ok (.bool false) w := by kernel_rfl

set_option maxRecDepth 100000 in
set_option maxHeartbeats 4000000 in
theorem lives_calls (w : World) : Calls Tryz.prog 25 #[] w fun e w' => e = .returned (.bool true) ∧ Below w.heap.size w w' := by
  have hen := eql_nil
  have cA := Lib.hid (fun b W => all_calls (some ⟨b, 0, none⟩) W)
  go_enter Tryz.func25, Tryz.ntmps25
  go_wp2_with fail
  refine (new_calls w).mono ?_
  rintro e w1 ⟨⟨b, mb, rfl, hlb, hlm, hM⟩, h1⟩
  replace hM := hM (fun _ => False) (fun _ h => h.elim)
  go_wp2_with fail
  refine (cA.out _ _).mono ?_
  rintro e w2 ⟨rfl, rfl⟩
  go_wp2_with fail
  have hB3 : Below w.heap.size w ((w1.alloc (.cells #[.pointer (some ⟨b, 0, none⟩)] 53)).alloc (.cells #[.string ⟨#[97]⟩, .int .i64 5] 37)) := (h1.alloc h1.size _).alloc (by have := h1.size; simp; omega) _
  have hM3 : MvAt ((w1.alloc (.cells #[.pointer (some ⟨b, 0, none⟩)] 53)).alloc (.cells #[.string ⟨#[97]⟩, .int .i64 5] 37)) b mb (fun _ => False) [] := hM.same (((Below.refl _ w1).alloc (Nat.le_refl _) _).alloc (by simp) _)
  have hlo : mb < w1.heap.size + 1 := by have := hM.map; obtain ⟨m, hm, _⟩ := this; have := hm.lt; omega
  have hL3 : ItemsAt ((w1.alloc (.cells #[.pointer (some ⟨b, 0, none⟩)] 53)).alloc (.cells #[.string ⟨#[97]⟩, .int .i64 5] 37)) (w1.heap.size + 1) ((w1.alloc (.cells #[.pointer (some ⟨b, 0, none⟩)] 53)).alloc (.cells #[.string ⟨#[97]⟩, .int .i64 5] 37)).heap.size (.slice (some ⟨w1.heap.size + 1, 0, none⟩) 1 1) la5 := by
    have h2 : ItemsAt ((w1.alloc (.cells #[.pointer (some ⟨b, 0, none⟩)] 53)).alloc (.cells #[.string ⟨#[97]⟩, .int .i64 5] 37)) (w1.alloc (.cells #[.pointer (some ⟨b, 0, none⟩)] 53)).heap.size ((w1.alloc (.cells #[.pointer (some ⟨b, 0, none⟩)] 53)).heap.size + 1) (.slice (some ⟨(w1.alloc (.cells #[.pointer (some ⟨b, 0, none⟩)] 53)).heap.size, 0, none⟩) 1 1) la5 := Sl.new (w1.alloc (.cells #[.pointer (some ⟨b, 0, none⟩)] 53)) #[.string ⟨#[97]⟩, .int .i64 5] 37 (n := 1) rfl (by unfold maxLen; omega)
    rw [World.size_alloc] at h2
    exact h2.wide (Nat.le_refl _) (by simp)
  have hs1 := h1.size
  have hwz : ((w1.alloc (.cells #[.pointer (some ⟨b, 0, none⟩)] 53)).alloc (.cells #[.string ⟨#[97]⟩, .int .i64 5] 37)).heap.size = w1.heap.size + 2 := by simp
  have hp0 : w.heap.size + 0 ≤ mb := hlm
  generalize hlv : Value.slice (some ⟨w1.heap.size + 1, 0, none⟩) 1 1 = lv at *
  generalize ((w1.alloc (.cells #[.pointer (some ⟨b, 0, none⟩)] 53)).alloc (.cells #[.string ⟨#[97]⟩, .int .i64 5] 37)) = w3 at *
  clear hM h1
  have cG := go_calls 1 0 2 la5 lv b mb _ [] w3 hM3 (hL3.wide (Nat.zero_le _) (Nat.le_refl _)) fits5 (by omega) (by omega)
  rw [l_go] at cG
  refine cG.mono ?_
  clear cG hM3
  rintro e w4 ⟨rfl, hM4, hg4⟩
  have hL4 := past hL3 hg4 hlo
  have hB4 := below_far hB3 hg4 (Nat.le_refl _) hlm
  have hs4 := hg4.size
  clear hL3 hB3 hg4
  subst hlv
  go_wp2_with fail
  have cU := under_calls 0 2 b mb _ [d15] w4 hM4
  rw [l_under] at cU
  refine cU.mono ?_
  clear cU
  rintro e w5 ⟨⟨uv, rfl, hu⟩, h5⟩
  have hM5 := hM4.same h5
  have hL5 := hL4.mono h5 h5.size
  have hB5 := hB4.trans (h5.mono hB4.size)
  have hs5 := h5.size
  have hU5 := ItemsAt.of_own hu
  clear hM4 hL4 hB4 h5 hu
  obtain ⟨Au, cu, rfl, -⟩ := hU5.form
  go_wp2_with fail
  have cC := come_calls 1 b mb _ [d15] w5 hM5 (by omega) (by omega)
  rw [l_come] at cC
  refine cC.mono ?_
  clear cC hM5
  rintro e w6 ⟨⟨xv, rfl, hx⟩, hM6, hg6⟩
  have hL6 := past hL5 hg6 hlo
  have hU6 := past hU5 hg6 (by omega)
  have hB6 := below_far hB5 hg6 (Nat.le_refl _) hlm
  have hs6 := hg6.size
  have hX6 := ItemsAt.of_own hx
  clear hL5 hU5 hB5 hg6 hx
  obtain ⟨Ax, cx, rfl, -⟩ := hX6.form
  go_wp2_with fail
  have cC := come_calls 1 b mb _ [d15c] w6 hM6 (by omega) (by omega)
  rw [l_come2] at cC
  refine cC.mono ?_
  clear cC hM6
  rintro e w7 ⟨⟨yv, rfl, hy⟩, hM7, hg7⟩
  have hL7 := past hL6 hg7 hlo
  have hU7 := past hU6 hg7 (by omega)
  have hX7 := past hX6 hg7 (by omega)
  have hB7 := below_far hB6 hg7 (Nat.le_refl _) hlm
  have hY7 := ItemsAt.of_own hy
  clear hL6 hU6 hX6 hB6 hg7 hy
  obtain ⟨Ay, cy, rfl, -⟩ := hY7.form
  clear hY7
  go_wp2_with fail
  refine (refsame_calls la5 la5 _ _ _ (hU7.wide (Nat.zero_le _) (Nat.le_refl _)) (hL7.wide (Nat.zero_le _) (Nat.le_refl _))).mono ?_
  rintro e w8 ⟨rfl, h8⟩
  have hM8 := hM7.same h8
  have hL8 := hL7.mono h8 h8.size
  have hX8 := hX7.mono h8 h8.size
  have hB8 := hB7.trans (h8.mono hB7.size)
  clear hM7 hL7 hX7 hB7 h8 hU7
  simp only [decide_true]
  go_wp2_with fail
  refine (refsame_calls la5 la5 _ _ _ (hX8.wide (Nat.zero_le _) (Nat.le_refl _)) (hL8.wide (Nat.zero_le _) (Nat.le_refl _))).mono ?_
  rintro e w9 ⟨rfl, h9⟩
  have hM9 := hM8.same h9
  have hB9 := hB8.trans (h9.mono hB8.size)
  clear hM8 hL8 hX8 hB8 h9
  simp only [decide_true]
  go_wp2_with fail
  refine (len_calls b mb _ _ _ hM9).mono ?_
  rintro e w10 ⟨rfl, rfl⟩
  go_wp2_with fail
  have cF := forget_calls 2 b mb _ _ _ hM9 (by omega) (by omega)
  rw [l_forget] at cF
  refine cF.mono ?_
  clear cF hM9
  rintro e w11 ⟨rfl, hM11, hg11⟩
  have hB11 := below_far hB9 hg11 (Nat.le_refl _) hlm
  clear hB9 hg11
  go_wp2_with fail
  have cU := under_calls 0 2 b mb _ _ _ hM11
  rw [l_under2] at cU
  refine cU.mono ?_
  clear cU
  rintro e w12 ⟨⟨uv, rfl, hu⟩, h12⟩
  have hB12 := hB11.trans (h12.mono hB11.size)
  have hU12 := ItemsAt.of_own hu
  clear hM11 hB11 h12 hu
  obtain ⟨Av, cv, rfl, -⟩ := hU12.form
  go_wp2
  go_ret
  exact ⟨rfl, hB12⟩
end Mv
end Go.Proofs.YtdbkkldgobkjcaaGreat

namespace Go.Proofs.YtdbkkldgobkjcaaGreat
open Go.RowKit Go.Maps
namespace Pc
open It Mv

theorem _root_.Go.Proofs.YtdbkkldgobkjcaaGreat.Ob.four {w : World} {b : Nat} {t : TypeId} {x0 x1 x2 x3 : Value} (h : Ob w b t #[x0, x1, x2, x3]) :
    w.cell? ⟨b, 0, none⟩ = some x0 ∧ w.cell? ⟨b, 1, none⟩ = some x1 ∧ w.cell? ⟨b, 2, none⟩ = some x2 ∧ w.cell? ⟨b, 3, none⟩ = some x3 :=
  ⟨h.cell (j := 0) rfl, h.cell (j := 1) rfl, h.cell (j := 2) rfl, h.cell (j := 3) rfl⟩
theorem _root_.Go.Proofs.YtdbkkldgobkjcaaGreat.Ob.free4 {w : World} {b : Nat} {t : TypeId} {cs : Array Value} (h : Ob w b t cs) :
    w.frozen? ⟨b, 0, none⟩ = false ∧ w.frozen? ⟨b, 1, none⟩ = false ∧ w.frozen? ⟨b, 2, none⟩ = false ∧ w.frozen? ⟨b, 3, none⟩ = false :=
  ⟨h.frozen 0, h.frozen 1, h.frozen 2, h.frozen 3⟩
theorem _root_.Go.Proofs.YtdbkkldgobkjcaaGreat.Ob.set4 {w : World} {b : Nat} {t : TypeId} {y0 y1 y2 y3 : Value} (h : Ob w b t #[y0, y1, y2, y3]) (x0 x1 x2 x3 : Value) :
    Ob ((((w.setCell ⟨b, 0, none⟩ x0).setCell ⟨b, 1, none⟩ x1).setCell ⟨b, 2, none⟩ x2).setCell ⟨b, 3, none⟩ x3) b t #[x0, x1, x2, x3] :=
  (((h.set 0 x0).set 1 x1).set 2 x2).set 3 x3
theorem _root_.Go.Proofs.YtdbkkldgobkjcaaGreat.grown_set4 (w : World) (b : Nat) (x0 x1 x2 x3 : Value) :
    w.grownBy ((((w.setCell ⟨b, 0, none⟩ x0).setCell ⟨b, 1, none⟩ x1).setCell ⟨b, 2, none⟩ x2).setCell ⟨b, 3, none⟩ x3) (some b) :=
  (((grownBy_set w b 0 x0).trans (grownBy_set _ b 1 x1)).trans (grownBy_set _ b 2 x2)).trans (grownBy_set _ b 3 x3)

def pclV (od : Int) (v1 v2 v3 : Value) : Value := .agg #[.int .i64 od, v1, v2, v3]
set_option maxRecDepth 100000 in
set_option maxHeartbeats 4000000 in
theorem copied_calls (od : Int) (l1 l2 l3 : List It.Item) (v1 v2 v3 : Value) (w : World) (h1 : ItemsAt w 0 w.heap.size v1 l1) (h2 : ItemsAt w 0 w.heap.size v2 l2) (h3 : ItemsAt w 0 w.heap.size v3 l3)
    (hn1 : l1.length ≤ 1000000) (hn2 : l2.length ≤ 1000000) (hn3 : l3.length ≤ 1000000) :
    Calls Tryz.prog 52 #[pclV od v1 v2 v3] w fun e w' =>
      (∃ u1 u2 u3, e = .returned (pclV od u1 u2 u3) ∧ w'.ownsRow w.heap.size 37 2 u1 l1.length (itemCells l1) ∧ w'.ownsRow w.heap.size 37 2 u2 l2.length (itemCells l2) ∧ w'.ownsRow w.heap.size 37 2 u3 l3.length (itemCells l3)) ∧ Below w.heap.size w w' := by
  have H1 := Lib.hid h1
  have H2 := Lib.hid h2
  have H3 := Lib.hid h3
  obtain ⟨A1, c1, rfl, -⟩ := h1.form
  obtain ⟨A2, c2, rfl, -⟩ := h2.form
  obtain ⟨A3, c3, rfl, -⟩ := h3.form
  clear h1 h2 h3
  dsimp only [pclV]
  go_enter Tryz.func52, Tryz.ntmps52
  go_wp2_with fail
  have hal0 := (Below.refl w.heap.size w).alloc (Nat.le_refl _) (.cells #[.int .i64 od, .slice A1 l1.length c1, .slice A2 l2.length c2, .slice A3 l3.length c3] 39)
  have hal := (hal0.alloc hal0.size (.cells #[.int .i64 0, .slice none 0 0, .slice none 0 0, .slice none 0 0] 39)).drew
  have hO1 : Ob ((w.alloc (.cells #[.int .i64 od, .slice A1 l1.length c1, .slice A2 l2.length c2, .slice A3 l3.length c3] 39)).alloc (.cells #[.int .i64 0, .slice none 0 0, .slice none 0 0, .slice none 0 0] 39)).drew w.heap.size 39 #[.int .i64 od, .slice A1 l1.length c1, .slice A2 l2.length c2, .slice A3 l3.length c3] := (Ob.new w 39 #[.int .i64 od, .slice A1 l1.length c1, .slice A2 l2.length c2, .slice A3 l3.length c3]).alloc (.cells #[.int .i64 0, .slice none 0 0, .slice none 0 0, .slice none 0 0] 39)
  have hO2 : Ob ((w.alloc (.cells #[.int .i64 od, .slice A1 l1.length c1, .slice A2 l2.length c2, .slice A3 l3.length c3] 39)).alloc (.cells #[.int .i64 0, .slice none 0 0, .slice none 0 0, .slice none 0 0] 39)).drew (w.heap.size + 1) 39 #[.int .i64 0, .slice none 0 0, .slice none 0 0, .slice none 0 0] := by
    have := Ob.new (w.alloc (.cells #[.int .i64 od, .slice A1 l1.length c1, .slice A2 l2.length c2, .slice A3 l3.length c3] 39)) 39 #[.int .i64 0, .slice none 0 0, .slice none 0 0, .slice none 0 0]
    rwa [World.size_alloc] at this
  have hI := Lib.hid (fun W (h : Below w.heap.size w W) => And.intro (H1.out.mono h h.size) (And.intro (H2.out.mono h h.size) (H3.out.mono h h.size)))
  generalize hW0 : ((w.alloc (.cells #[.int .i64 od, .slice A1 l1.length c1, .slice A2 l2.length c2, .slice A3 l3.length c3] 39)).alloc (.cells #[.int .i64 0, .slice none 0 0, .slice none 0 0, .slice none 0 0] 39)) = W0 at *
  have HAL := Lib.hid hal
  have HO2 := Lib.hid hO2
  have hO2lt := hO2.lt
  clear hal0 hW0 H1 H2 H3
  have cC1 := Lib.hid (clonei_calls l1 _ W0.drew (hI.out _ hal).1 hn1)
  clear hal hO2
  refine Pu.regionM [(0, false), (1, false), (2, false), (3, false), (5, false), (6, false), (8, false), (9, false), (4, true), (7, true), (10, true), (11, false), (12, true)] (fun W => Ob W w.heap.size 39 #[.int .i64 od, .slice A1 l1.length c1, .slice A2 l2.length c2, .slice A3 l3.length c3]) hmx (by kernel_rfl) (by kernel_rfl) (by kernel_rfl) hO1 rfl ?_
  simp only [Pu.named, List.filterMap_cons, List.filterMap_nil, List.getElem?_toArray, List.getElem?_cons_succ, List.getElem?_cons_zero, Option.map_some]
  iterate 8 (apply Pu.WalkM.on (by rfl)
             · rintro W hOW
               obtain ⟨q0, q1, q2, q3⟩ := hOW.four
               go_wp2_with fail
               refine ⟨rfl, ?_, rfl⟩
               try simp only [Act.put, List.setIfInBounds_toArray, List.set_cons_succ, List.set_cons_zero]
               rfl
             simp only [Act.put, List.setIfInBounds_toArray, List.set_cons_succ, List.set_cons_zero])
  refine Pu.WalkM.make (by rfl) ?_
  rintro W rfl
  go_wp2_with (go_at_call 45; refine cC1.out.mono ?_; rintro e W1 ⟨⟨u1, rfl, hu1⟩, hb1⟩)
  have hO11 := hO1.same hb1
  have HAL1 := Lib.hid (HAL.out.trans (hb1.mono HAL.out.size))
  have HO21 := Lib.hid (HO2.out.same hb1)
  have HU1 := Lib.hid hu1
  have cC2 := Lib.hid (clonei_calls l2 _ W1 (hI.out _ HAL1.out).2.1 hn2)
  have hs1 := hb1.size
  obtain ⟨B1, d1, rfl, -⟩ := (ItemsAt.of_own hu1).form
  clear hu1 hO1
  refine ⟨rfl, .slice B1 l1.length d1, _, (fun W => W = W1), ?_, rfl, (fun W h => by rw [h]; exact hO11), (.inr (fun _ h => h)), ?_⟩
  · simp only [Act.put, List.setIfInBounds_toArray, List.set_cons_succ, List.set_cons_zero]
  simp only [Act.put, List.setIfInBounds_toArray, List.set_cons_succ, List.set_cons_zero]
  refine Pu.WalkM.make (by rfl) ?_
  rintro W rfl
  go_wp2_with (go_at_call 45; refine cC2.out.mono ?_; rintro e W2 ⟨⟨u2, rfl, hu2⟩, hb2⟩)
  have hO12 := hO11.same hb2
  have HAL2 := Lib.hid (HAL1.out.trans (hb2.mono HAL1.out.size))
  have HO22 := Lib.hid (HO21.out.same hb2)
  have HU2 := Lib.hid hu2
  have HU12 := Lib.hid (row_below HU1.out hb2)
  have cC3 := Lib.hid (clonei_calls l3 _ W2 (hI.out _ HAL2.out).2.2 hn3)
  have hs2 := hb2.size
  obtain ⟨B2, d2, rfl, -⟩ := (ItemsAt.of_own hu2).form
  clear hu2 hO11 hb1
  refine ⟨rfl, .slice B2 l2.length d2, _, (fun W => W = W2), ?_, rfl, (fun W h => by rw [h]; exact hO12), (.inr (fun _ h => h)), ?_⟩
  · simp only [Act.put, List.setIfInBounds_toArray, List.set_cons_succ, List.set_cons_zero]
  simp only [Act.put, List.setIfInBounds_toArray, List.set_cons_succ, List.set_cons_zero]
  refine Pu.WalkM.make (by rfl) ?_
  rintro W rfl
  go_wp2_with (go_at_call 45; refine cC3.out.mono ?_; rintro e W3 ⟨⟨u3, rfl, hu3⟩, hb3⟩)
  have hO13 := hO12.same hb3
  have HAL3 := Lib.hid (HAL2.out.trans (hb3.mono HAL2.out.size))
  have hO23 := HO22.out.same hb3
  have HU3 := Lib.hid hu3
  have HU13 := Lib.hid (row_below HU12.out hb3)
  have HU23 := Lib.hid (row_below HU2.out hb3)
  have hs3 := hb3.size
  obtain ⟨B3, d3, rfl, -⟩ := (ItemsAt.of_own hu3).form
  clear hu3 hO12 hb2 hb3
  refine ⟨rfl, .slice B3 l3.length d3, _, (fun W => W = W3), ?_, rfl, (fun W h => by rw [h]; exact hO13), (.inr (fun _ h => h)), ?_⟩
  · simp only [Act.put, List.setIfInBounds_toArray, List.set_cons_succ, List.set_cons_zero]
  simp only [Act.put, List.setIfInBounds_toArray, List.set_cons_succ, List.set_cons_zero]
  apply Pu.WalkM.on (by rfl)
  · rintro W hOW
    go_wp2_with fail
    refine ⟨rfl, ?_, rfl⟩
    try simp only [Act.put, List.setIfInBounds_toArray, List.set_cons_succ, List.set_cons_zero]
    rfl
  simp only [Act.put, List.setIfInBounds_toArray, List.set_cons_succ, List.set_cons_zero]
  refine Pu.WalkM.make (by rfl) ?_
  rintro W rfl
  obtain ⟨q0, q1, q2, q3⟩ := hO23.four
  obtain ⟨f0, f1, f2, f3⟩ := hO23.free4
  go_wp2_with fail
  have hO4 := hO23.set4 (.int .i64 od) (.slice B1 l1.length d1) (.slice B2 l2.length d2) (.slice B3 l3.length d3)
  have hg4 := grown_set4 W (w.heap.size + 1) (.int .i64 od) (.slice B1 l1.length d1) (.slice B2 l2.length d2) (.slice B3 l3.length d3)
  refine ⟨rfl, undef, (fun _ => True), (fun V => V = _), rfl, rfl, (fun _ _ => trivial), (.inl (by kernel_rfl)), Pu.WalkM.nil ?_⟩
  rintro V rfl
  simp only [Act.put]
  obtain ⟨p0, p1, p2, p3⟩ := hO4.four
  have hz0 := HAL.out.size
  have hz1 := hO2lt
  have hBf := HAL3.out.grown hg4 (by have := HAL3.out.size; omega) (fun g e => by have := Option.some.inj e; omega)
  have hU1 := ownsRow_far HU13.out hg4 (by omega)
  have hU2 := ownsRow_far HU23.out hg4 (by omega)
  have hU3 := ownsRow_far HU3.out hg4 (by omega)
  generalize ((((W.setCell ⟨w.heap.size + 1, 0, none⟩ (.int .i64 od)).setCell ⟨w.heap.size + 1, 1, none⟩ (.slice B1 l1.length d1)).setCell ⟨w.heap.size + 1, 2, none⟩ (.slice B2 l2.length d2)).setCell ⟨w.heap.size + 1, 3, none⟩ (.slice B3 l3.length d3)) = W4 at *
  clear q0 q1 q2 q3 f0 f1 f2 f3
  go_wp2
  refine bodyPost_ret (v := .agg #[.int .i64 od, .slice B1 l1.length d1, .slice B2 l2.length d2, .slice B3 l3.length d3]) ?_ rfl ⟨⟨_, _, _, rfl, ownsRow_wide hU1 (by omega), ownsRow_wide hU2 (by omega), ownsRow_wide hU3 (by omega)⟩, hBf⟩
  simp [results, Tryz.f52, go_sem, p0, p1, p2, p3]

/-- a parcel as it is asked for -/
def pcl0 : Row := ⟨0, [], [], [], [], 0⟩
theorem PcAt.val {w : World} {base b mb : Nat} {X : Nat → Prop} {ds : List Row} (_h : PcAt w base b mb X ds) (od : Int) {m : List (Int × Value)} (hR : Rel w (Fo b mb X ds) m ds) :
    (mGet m od).isSome = (findR ds od).isSome ∧ ∃ x0 A1 n1 c1 A2 n2 c2 A3 n3 c3 x4, (mGet m od).getD zrow = .agg #[.int .i64 x0, .slice A1 n1 c1, .slice A2 n2 c2, .slice A3 n3 c3, .map x4] := by
  cases hf : findR ds od with
  | none => exact ⟨by rw [hR.none hf]; rfl, 0, none, 0, 0, none, 0, 0, none, 0, 0, none, by rw [hR.none hf]; rfl⟩
  | some d =>
    obtain ⟨val, hg, v1, v2, v3, e, h1, h2, h3⟩ := hR.some hf
    obtain ⟨A1, c1, rfl, -⟩ := h1.items.form
    obtain ⟨A2, c2, rfl, -⟩ := h2.items.form
    obtain ⟨A3, c3, rfl, -⟩ := h3.items.form
    exact ⟨by rw [hg]; rfl, _, _, _, _, _, _, _, _, _, _, _, by rw [hg]; exact e⟩
theorem may_nil : may [] = true := by decide +kernel

set_option maxRecDepth 100000 in
set_option maxHeartbeats 4000000 in
theorem parcel_calls (od : Int) (base b mb : Nat) (X : Nat → Prop) (ds : List Row) (w : World) (h : PcAt w base b mb X ds) (h0 : -9223372036854775808 ≤ od) (h1 : od ≤ 9223372036854775807) :
    Calls Tryz.prog 17 #[.pointer (some ⟨b, 0, none⟩), .int .i64 od] w fun e w' =>
      (∃ u1 u2 u3, e = .returned (.tuple #[pclV ((findR ds od).getD pcl0).od u1 u2 u3, .bool (findR ds od).isSome]) ∧ w'.ownsRow w.heap.size 37 2 u1 ((findR ds od).getD pcl0).wa.length (itemCells ((findR ds od).getD pcl0).wa) ∧
        w'.ownsRow w.heap.size 37 2 u2 ((findR ds od).getD pcl0).sh.length (itemCells ((findR ds od).getD pcl0).sh) ∧ w'.ownsRow w.heap.size 37 2 u3 ((findR ds od).getD pcl0).ba.length (itemCells ((findR ds od).getD pcl0).ba)) ∧ Below w.heap.size w w' := by
  obtain ⟨m, hm, hR⟩ := h.map
  have g0 : w.cell? ⟨b, 0, none⟩ = some (.map (some mb)) := h.ob.cell (j := 0) rfl
  have hbl := h.ob.lt
  obtain ⟨hs, hv⟩ := h.val od hR
  have hal := (Below.refl w.heap.size w).alloc (Nat.le_refl _) (.cells #[.int .i64 0, .slice none 0 0, .slice none 0 0, .slice none 0 0] 39)
  have hO1 := Ob.new w 39 #[.int .i64 0, .slice none 0 0, .slice none 0 0, .slice none 0 0]
  have cR := Lib.hid (row_calls od [] (.slice none 0 0) b mb m ds (w.alloc (.cells #[.int .i64 0, .slice none 0 0, .slice none 0 0, .slice none 0 0] 39)) ((hal.cell (p := ⟨b, 0, none⟩) hbl).trans g0) (Nat.lt_of_lt_of_le hbl hal.size) (hm.below hal hm.lt) hs hv (ItemsAt.nil _ _ _) (fun x hx => by cases hx) h0 h1)
  have H := Lib.hid h
  have hcode : rowCode ds od [] = if (findR ds od).isSome then 0 else 4 := by unfold rowCode; rw [may_nil]; rfl
  have HRV := Lib.hid (show rowVal ds od [] m = if rowCode ds od [] = 0 then (mGet m od).getD zrow else zrow from rfl)
  rw [hcode] at cR HRV
  cases hf : findR ds od with
  | none =>
    rw [hf] at cR HRV
    have e : rowVal ds od [] m = zrow := by rw [HRV.out]; rfl
    rw [e] at cR
    simp only [Option.isSome_none, Bool.false_eq_true, if_false, Option.getD_none, pcl0, zrow] at cR ⊢
    clear hs hv hm hR hf HRV hcode e h
    go_enter Tryz.func17, Tryz.ntmps17
    go_wp2_with fail
    refine cR.out.mono ?_
    rintro e W ⟨rfl, hb1⟩
    replace hO1 := hO1.same hb1
    have hB := hal.trans (hb1.mono hal.size)
    obtain ⟨q0, q1, q2, q3⟩ := (hO1.alloc (.cells #[.int .i64 0, .slice none 0 0, .slice none 0 0, .slice none 0 0, .map none] 87)).four
    obtain ⟨f0, f1, f2, f3⟩ := (hO1.alloc (.cells #[.int .i64 0, .slice none 0 0, .slice none 0 0, .slice none 0 0, .map none] 87)).free4
    go_wp2
    have hO2 := (hO1.alloc (.cells #[.int .i64 0, .slice none 0 0, .slice none 0 0, .slice none 0 0, .map none] 87)).set4 (.int .i64 0) (.slice none 0 0) (.slice none 0 0) (.slice none 0 0)
    obtain ⟨p0, p1, p2, p3⟩ := hO2.four
    have hB2 := (hB.alloc hB.size (.cells #[.int .i64 0, .slice none 0 0, .slice none 0 0, .slice none 0 0, .map none] 87)).grown (grown_set4 _ w.heap.size (.int .i64 0) (.slice none 0 0) (.slice none 0 0) (.slice none 0 0)) (by have := hB.size; simp; omega) (fun g e => by have := Option.some.inj e; omega)
    refine bodyPost_ret (v := .tuple #[.agg #[.int .i64 0, .slice none 0 0, .slice none 0 0, .slice none 0 0], .bool false]) ?_ rfl ⟨⟨.slice none 0 0, .slice none 0 0, .slice none 0 0, rfl, World.ownsRow_nil _ _ _ _, World.ownsRow_nil _ _ _ _, World.ownsRow_nil _ _ _ _⟩, hB2⟩
    simp [results, Tryz.f17, go_sem, p0, p1, p2, p3]
  | some d =>
    obtain ⟨val, hg, v1, v2, v3, ev, i1, i2, i3⟩ := hR.some hf
    have hd := H.out.ok d (findR_mem hf).1
    have e : rowVal ds od [] m = rowV d v1 v2 v3 := by rw [HRV.out, hf, hg, ← ev]; rfl
    rw [hf, e] at cR
    simp only [Option.isSome_some, if_true, Option.getD_some] at cR ⊢
    have cC := Lib.hid (fun W (hb : Below w.heap.size w W) => copied_calls d.od d.wa d.sh d.ba v1 v2 v3 W (i1.items.mono hb hb.size) (i2.items.mono hb hb.size) (i3.items.mono hb hb.size) (by have := hd.wa.len; omega) (by have := hd.sh.len; omega) (by have := hd.ba.len; omega))
    obtain ⟨A1, c1, rfl, -⟩ := i1.items.form
    obtain ⟨A2, c2, rfl, -⟩ := i2.items.form
    obtain ⟨A3, c3, rfl, -⟩ := i3.items.form
    simp only [rowV] at cR
    simp only [pclV] at cC ⊢
    clear hs hv hm hR hf HRV hcode e h hd hg ev i1 i2 i3
    go_enter Tryz.func17, Tryz.ntmps17
    go_wp2_with fail
    refine cR.out.mono ?_
    rintro e W ⟨rfl, hb1⟩
    replace hO1 := (hO1.same hb1).alloc (.cells #[.int .i64 d.od, .slice A1 d.wa.length c1, .slice A2 d.sh.length c2, .slice A3 d.ba.length c3, .map (some d.fb)] 87)
    have hB := (hal.trans (hb1.mono hal.size)).alloc (by have := hb1.size; have := hal.size; omega) (.cells #[.int .i64 d.od, .slice A1 d.wa.length c1, .slice A2 d.sh.length c2, .slice A3 d.ba.length c3, .map (some d.fb)] 87)
    have hO2 := Ob.new W 87 #[.int .i64 d.od, .slice A1 d.wa.length c1, .slice A2 d.sh.length c2, .slice A3 d.ba.length c3, .map (some d.fb)]
    have cC2 := Lib.hid (cC.out _ hB)
    clear hal hb1 cC cR
    obtain ⟨q0, q1, q2, q3, q4⟩ := hO2.five
    go_wp2_with fail
    refine cC2.out.mono ?_
    rintro e W2 ⟨⟨u1, u2, u3, rfl, o1, o2, o3⟩, hb2⟩
    have hB2 := hB.trans (hb2.mono hB.size)
    obtain ⟨B1, d1, rfl, -⟩ := (ItemsAt.of_own o1).form
    obtain ⟨B2, d2, rfl, -⟩ := (ItemsAt.of_own o2).form
    obtain ⟨B3, d3, rfl, -⟩ := (ItemsAt.of_own o3).form
    have O1 := Lib.hid o1
    have O2 := Lib.hid o2
    have O3 := Lib.hid o3
    clear q0 q1 q2 q3 q4 o1 o2 o3
    have hO3 := hO1.same hb2
    obtain ⟨q0, q1, q2, q3⟩ := hO3.four
    obtain ⟨f0, f1, f2, f3⟩ := hO3.free4
    have hl1 := hO1.lt
    have hz := hB.size
    clear hO2 hO1 hb2
    go_wp2
    have hO4 := hO3.set4 (.int .i64 d.od) (.slice B1 d.wa.length d1) (.slice B2 d.sh.length d2) (.slice B3 d.ba.length d3)
    have hg4 := grown_set4 W2 w.heap.size (.int .i64 d.od) (.slice B1 d.wa.length d1) (.slice B2 d.sh.length d2) (.slice B3 d.ba.length d3)
    obtain ⟨p0, p1, p2, p3⟩ := hO4.four
    have hB3 := hB2.grown hg4 (by have := hB2.size; omega) (fun g e => by have := Option.some.inj e; omega)
    refine bodyPost_ret (v := .tuple #[.agg #[.int .i64 d.od, .slice B1 d.wa.length d1, .slice B2 d.sh.length d2, .slice B3 d.ba.length d3], .bool true]) ?_ rfl ⟨⟨_, _, _, rfl, ownsRow_wide (ownsRow_far O1.out hg4 (by omega)) (by omega), ownsRow_wide (ownsRow_far O2.out hg4 (by omega)) (by omega), ownsRow_wide (ownsRow_far O3.out hg4 (by omega)) (by omega)⟩, hB3⟩
    simp [results, Tryz.f17, go_sem, p0, p1, p2, p3]
end Pc
end Go.Proofs.YtdbkkldgobkjcaaGreat

namespace Go.Proofs.YtdbkkldgobkjcaaGreat
open Go.RowKit Go.Maps
namespace Pc
open It Mv

def leftOf (ds : List Row) (od : Int) : List It.Item := both restF ((findR ds od).getD pcl0).sh ((findR ds od).getD pcl0).ba
theorem fits_sh {ds : List Row} (h : ∀ d ∈ ds, OkR d) (od : Int) : Fits ((findR ds od).getD pcl0).sh ∧ Fits ((findR ds od).getD pcl0).ba := by
  cases hf : findR ds od with
  | none =>
    have h0 : Fits [] := fun x hx => by cases hx
    exact ⟨h0, h0⟩
  | some d => exact ⟨fits_of (h d (findR_mem hf).1).sh, fits_of (h d (findR_mem hf).1).ba⟩
set_option maxRecDepth 100000 in
theorem left_calls (od : Int) (base b mb : Nat) (X : Nat → Prop) (ds : List Row) (w : World) (h : PcAt w base b mb X ds) (h0 : -9223372036854775808 ≤ od) (h1 : od ≤ 9223372036854775807) :
    Calls Tryz.prog 22 #[.pointer (some ⟨b, 0, none⟩), .int .i64 od] w fun e w' =>
      (∃ v, e = .returned v ∧ w'.ownsRow w.heap.size 37 2 v (leftOf ds od).length (itemCells (leftOf ds od))) ∧ Below w.heap.size w w' := by
  have cP := Lib.hid (parcel_calls od base b mb X ds w h h0 h1)
  obtain ⟨hF1, hF2⟩ := fits_sh h.ok od
  have HL := Lib.hid (show leftOf ds od = both restF ((findR ds od).getD pcl0).sh ((findR ds od).getD pcl0).ba from rfl)
  generalize leftOf ds od = R at *
  generalize (findR ds od).isSome = kn at *
  generalize (findR ds od).getD pcl0 = d at *
  obtain ⟨od', wa, sh, ba, fr, fb⟩ := d
  dsimp only at cP hF1 hF2 HL
  obtain ⟨rfl⟩ := HL.out
  clear h HL
  go_enter Tryz.func22, Tryz.ntmps22
  go_wp2_with fail
  refine cP.out.mono ?_
  rintro e W ⟨⟨u1, u2, u3, rfl, o1, o2, o3⟩, hb1⟩
  obtain ⟨B1, d1, rfl, -⟩ := (toAt o1).form
  have I2 := toAt o2
  have I3 := toAt o3
  obtain ⟨B2, d2, rfl, -⟩ := (toAt o2).form
  obtain ⟨B3, d3, rfl, -⟩ := (toAt o3).form
  have hal := (Below.refl W.heap.size W).alloc (Nat.le_refl _) (.cells #[.int .i64 od', .slice B1 wa.length d1, .slice B2 sh.length d2, .slice B3 ba.length d3] 39)
  have cR := Lib.hid (rest_calls sh ba _ _ _ (I2.mono hal hal.size) (I3.mono hal hal.size) hF1 hF2)
  have hB := hb1.trans (hal.mono hb1.size)
  dsimp only [pclV]
  clear o1 o2 o3 I2 I3 cP
  go_wp2_with fail
  refine cR.out.mono ?_
  rintro e W2 ⟨⟨v, rfl, hv⟩, hb2⟩
  go_wp2
  go_ret
  exact ⟨⟨_, rfl, ownsRow_wide hv hB.size⟩, hB.trans (hb2.mono hB.size)⟩

/-- a row is put into the table -/
theorem put_fin {w W W3 : World} {base b mb : Nat} {X : Nat → Prop} {ds : List Row} {m : List (Int × Value)} {d : Row} {val : Value} (H : PcAt w base b mb X ds) (hR : Rel w (Fo b mb X ds) m ds) (hO : Other mb ds w W) (hd : OkR d)
    (hv : RowAt W (Fo b mb X (putR ds d)) val d) (hf : GMap intK W Tryz.prog 3 d.fb d.fr) (hs : d.fb ≠ b ∧ d.fb ≠ mb ∧ ¬ X d.fb ∧ base ≤ d.fb) (hfo : ∀ i, i < w.heap.size → Fo b mb X ds i → i ≠ d.fb)
    (hap : ∀ c ∈ ds, c.od ≠ d.od → c.fb ≠ d.fb) (hoth : ∀ c ∈ ds, c.od ≠ d.od → GMap intK W Tryz.prog 3 c.fb c.fr) (hM3 : GMap intK W3 Tryz.prog 3 mb (mPut intK m d.od val)) (hg3 : W.grownBy W3 (some mb)) :
    PcAt W3 base b mb X (putR ds d) ∧ Other mb ds w W3 := by
  have hk3 : Kept (fun i => i < W.heap.size ∧ i ≠ mb) W W3 := Kept.of_grown hg3 fun i hi => ⟨hi.1, fun e => hi.2 (Option.some.inj e)⟩
  have hsz := Kept.size hO
  have hO3 : Other mb ds w W3 := Kept.trans hO (hk3.mono fun i hi => ⟨Nat.lt_of_lt_of_le hi.1 hsz, hi.2.1⟩)
  have hgm : ∀ {i : Nat} {t : List (Int × Value)}, GMap intK W Tryz.prog 3 i t → i ≠ mb → GMap intK W3 Tryz.prog 3 i t := fun h hne => h.kept hg3 (fun e => hne (Option.some.inj e))
  refine ⟨⟨hk3.ob (hO.ob H.ob H.ne (fun d hd => (H.sep d hd).1.symm)) ⟨Nat.lt_of_lt_of_le H.ob.lt hsz, H.ne⟩, ⟨_, hM3, Rel.put (hv.keep hk3 fun i hi hF => ⟨⟨hi, hF.2.1⟩, hF⟩) (hR.keep hO3 fun i hi hF => ⟨⟨hi, hF.2.1, hF.2.2.2⟩, hF.1, hF.2.1, hF.2.2.1, fun c hc => ?_⟩)⟩, fun c hc => ?_, Apart.put H.apart hap, fun c hc => ?_, H.ne, H.lo, H.nx, fun i hi => Nat.lt_of_lt_of_le (H.xl i hi) (Kept.size hO3), fun c hc => ?_⟩, hO3⟩
  all_goals rcases putR_mem hc with rfl | ⟨hc, hne⟩
  · exact hgm hf hs.2.1
  · exact hgm (hoth c hc hne) (H.sep c hc).2.1
  · exact hs
  · exact H.sep c hc
  · exact hd
  · exact H.ok c hc
  · exact hfo _ ‹_› ‹_›
  · exact (‹Fo b mb X ds _›).2.2.2 c hc
theorem PcAt.short {w : World} {base b mb : Nat} {X : Nat → Prop} {ds : List Row} (h : PcAt w base b mb X ds) {m : List (Int × Value)} (hm : GMap intK w Tryz.prog 3 mb m) (hR : Rel w (Fo b mb X ds) m ds) : m.length ≤ 1099511627776 := by
  have := GMap.keys_len hm 1 1099511627777 (by omega) fun p hp => by
    have h1 : p.1 ∈ ds.map (·.od) := by rw [← hR.keys]; exact List.mem_map.2 ⟨p, hp, rfl⟩
    obtain ⟨d, hd, e⟩ := List.mem_map.1 h1
    have := (h.ok d hd).od
    omega
  omega
theorem fresh_row {W : World} {F : Nat → Prop} {od : Int} {l : List It.Item} {v : Value} {fb : Nat} (h : LiAt W F v l) : RowAt W F (rowV ⟨od, l, [], [], [], fb⟩ v (.slice none 0 0) (.slice none 0 0)) ⟨od, l, [], [], [], fb⟩ :=
  ⟨_, _, _, rfl, h, LiAt.nil _ _, LiAt.nil _ _⟩

theorem open_fin {w W W3 : World} {base b mb : Nat} {X : Nat → Prop} {ds : List Row} {m : List (Int × Value)} {od : Int} {l : List It.Item} {v : Value} {fb : Nat} (H : PcAt w base b mb X ds) (hR : Rel w (Fo b mb X ds) m ds) (hB : Below w.heap.size w W)
    (hl : LiAt W (fun i => w.heap.size ≤ i ∧ i ≠ fb) v l) (hfb : w.heap.size ≤ fb) (hgm : GMap intK W Tryz.prog 3 fb []) (hod : 1 ≤ od ∧ od ≤ 1099511627776) (hml : may l = true) (hl0 : l ≠ []) (_hkn : (findR ds od).isSome = false) (hbase : base ≤ w.heap.size)
    (hM3 : GMap intK W3 Tryz.prog 3 mb (mPut intK m od (.agg #[.int .i64 od, v, .slice none 0 0, .slice none 0 0, .map (some fb)]))) (hg3 : W.grownBy W3 (some mb)) :
    PcAt W3 base b mb X (putR ds ⟨od, l, [], [], [], fb⟩) ∧ Other mb ds w W3 := by
  obtain ⟨m', hm', -⟩ := H.map
  have hmb := hm'.lt
  have hbl := H.ob.lt
  have hM0 : M [] := (may_iff []).1 may_nil
  have hne : ∀ c ∈ ds, c.fb < w.heap.size := fun c hc => GMap.lt (H.frm c hc)
  refine put_fin H hR (Other.of_below hB) (d := ⟨od, l, [], [], [], fb⟩) ⟨by dsimp only; omega, (may_iff l).1 hml, hl0, hM0, hM0, covers_nil ((may_iff l).1 hml), covers_nil hM0, fun p hp => by cases hp⟩ (fresh_row (hl.keep (Kept.refl (fun _ => True) _) fun i _ hi => ⟨trivial, ?_⟩)) hgm ⟨by dsimp only; omega, by dsimp only; omega, fun hx => ?_, by dsimp only; omega⟩ (fun i hi _ => by dsimp only; omega) (fun c hc _ => ?_) (fun c hc _ => (H.frm c hc).below hB (hne c hc)) hM3 hg3
  · refine ⟨by omega, by omega, fun hx => ?_, fun c hc => ?_⟩
    · have := H.xl i hx; omega
    · rcases putR_mem hc with rfl | ⟨hc, -⟩
      · exact hi.2
      · have := hne c hc; omega
  · have := H.xl _ hx
    dsimp only at this
    omega
  · have := hne c hc
    dsimp only
    omega

set_option maxRecDepth 100000 in
set_option maxHeartbeats 8000000 in
theorem open_calls (od : Int) (l : List It.Item) (lv : Value) (base b mb : Nat) (X : Nat → Prop) (ds : List Row) (w : World) (h : PcAt w base b mb X ds) (hI : ItemsAt w 0 w.heap.size lv l) (hF : Fits l) (h0 : -9223372036854775808 ≤ od) (h1 : od ≤ 9223372036854775807) (hbase : base ≤ w.heap.size) :
    Calls Tryz.prog 9 #[.pointer (some ⟨b, 0, none⟩), .int .i64 od, lv] w fun e w' => (∃ fb, e = .returned (.int .i64 (openOf ds od l fb).2) ∧ PcAt w' base b mb X (openOf ds od l fb).1 ∧ w.heap.size ≤ fb) ∧ Other mb ds w w' := by
  obtain ⟨m, hm, hR⟩ := h.map
  have g0 : w.cell? ⟨b, 0, none⟩ = some (.map (some mb)) := h.ob.cell (j := 0) rfl
  have hmb := hm.lt
  have hbl := h.ob.lt
  have hkey := Lib.hid (keyI h0 h1)
  have cMd := Lib.hid (made_calls b mb _ g0)
  have cMay := Lib.hid (fun W hI => may_calls l lv W hI hF)
  have HG0 := Lib.hid (show ∀ fb, openOf ds od l fb = if od < 1 ∨ 1099511627776 < od then (ds, 1) else if may l = false ∨ l = [] then (ds, 60) else if (findR ds od).isSome then (ds, 5) else (putR ds ⟨od, l, [], [], [], fb⟩, 0) from fun _ => rfl)
  obtain ⟨hs, x0, A1, n1, c1, A2, n2, c2, A3, n3, c3, x4, hg⟩ := h.val od hR
  have HG := Lib.hid hg
  have HS := Lib.hid hs
  have HM := Lib.hid hm
  have HR := Lib.hid hR
  have H := Lib.hid h
  have hb := (Below.refl w.heap.size w).alloc (Nat.le_refl _) (.cells #[.int .i64 x0, .slice A1 n1 c1, .slice A2 n2 c2, .slice A3 n3 c3, .map x4] 87)
  have hIn := Lib.hid hI
  obtain ⟨Al, cl, rfl, hc1, hc2⟩ := hI.form
  unfold maxLen at hc2
  generalize hkn : (findR ds od).isSome = kn at *
  generalize hml : may l = ml at *
  have HML := Lib.hid hml
  have HKN := Lib.hid hkn
  have cMy := Lib.hid (cMay.out _ (hIn.out.mono hb hb.size))
  have hmm := @run_makeMap Tryz.prog
  clear hg hs hm hR h hI hkn hml cMay
  have hcs : (decide (od < 1) = true ∨ (decide (od < 1) = false ∧ decide (od > 1099511627776) = true)) ∨ (decide (od < 1) = false ∧ decide (od > 1099511627776) = false) := by
    by_cases e1 : od < 1 <;> by_cases e2 : od > 1099511627776 <;> simp [e1, e2]
  rcases hcs with hbad | ⟨e1, e2⟩
  · have hR1 : ∀ fb, openOf ds od l fb = (ds, 1) := fun fb => by
      rw [HG0.out, if_pos]
      rcases hbad with e1 | ⟨_, e2⟩
      · exact .inl (by simpa using e1)
      · exact .inr (by simpa using e2)
    simp only [hR1]
    rcases hbad with e1 | ⟨e1, e2⟩
    all_goals
      go_enter Tryz.func9, Tryz.ntmps9
      go_wp2_with (first
        | (go_at_call 43; refine cMd.out.mono ?_; rintro e W ⟨rfl, rfl⟩)
        | (at_lookup; refine wpList_look_ok_g rfl (.tmp 16) (.tmp 17) _ rfl 3 _ keyedI Tryz.underlying78 rfl HM.out (zeroR _) _ _ rfl hkey.out _ _ HG.out HS.out ?_))
      go_ret
      exact ⟨⟨_, rfl, H.out.same hb, Nat.le_refl _⟩, Other.of_below hb⟩
  · have hod : ¬ od < 1 ∧ ¬ 1099511627776 < od := by simp only [decide_eq_false_iff_not] at e1 e2; exact ⟨e1, e2⟩
    have HR1 := Lib.hid (show ∀ fb, openOf ds od l fb = if ml = false ∨ l = [] then (ds, 60) else if kn then (ds, 5) else (putR ds ⟨od, l, [], [], [], fb⟩, 0) from fun fb => by
      rw [HG0.out, if_neg]
      rintro (h | h)
      · exact hod.1 h
      · exact hod.2 h)
    cases ml with
    | false =>
      have hR2 : ∀ fb, openOf ds od l fb = (ds, 60) := fun fb => by rw [HR1.out, if_pos (.inl rfl)]
      simp only [hR2]
      clear hR2
      go_enter Tryz.func9, Tryz.ntmps9
      go_wp2_with (first
        | (go_at_call 43; refine cMd.out.mono ?_; rintro e W ⟨rfl, rfl⟩)
        | (at_lookup; refine wpList_look_ok_g rfl (.tmp 16) (.tmp 17) _ rfl 3 _ keyedI Tryz.underlying78 rfl HM.out (zeroR _) _ _ rfl hkey.out _ _ HG.out HS.out ?_)
        | (go_at_call 44; refine cMy.out.mono ?_; rintro e W1 ⟨rfl, hb1⟩; have hb2 := hb.trans (hb1.mono hb.size)))
      go_ret
      exact ⟨⟨_, rfl, H.out.same hb2, Nat.le_refl _⟩, Other.of_below hb2⟩
    | true =>
      by_cases hl0 : l = []
      · have hR2 : ∀ fb, openOf ds od l fb = (ds, 60) := fun fb => by rw [HR1.out, if_pos (.inr hl0)]
        simp only [hR2]
        have hl1 : l.length = 0 := by rw [hl0]; rfl
        rw [hl1] at cMy ⊢
        clear hl0 hR2
        go_enter Tryz.func9, Tryz.ntmps9
        go_wp2_with (first
          | (go_at_call 43; refine cMd.out.mono ?_; rintro e W ⟨rfl, rfl⟩)
          | (at_lookup; refine wpList_look_ok_g rfl (.tmp 16) (.tmp 17) _ rfl 3 _ keyedI Tryz.underlying78 rfl HM.out (zeroR _) _ _ rfl hkey.out _ _ HG.out HS.out ?_)
          | (go_at_call 44; refine cMy.out.mono ?_; rintro e W1 ⟨rfl, hb1⟩; have hb2 := hb.trans (hb1.mono hb.size)))
        go_ret
        exact ⟨⟨_, rfl, H.out.same hb2, Nat.le_refl _⟩, Other.of_below hb2⟩
      · have hl1 : ((l.length : Int) == 0) = false := by
          cases l with
          | nil => exact (hl0 rfl).elim
          | cons x r => simp; omega
        have HL0 := Lib.hid hl0
        have HR2 := Lib.hid (show ∀ fb, openOf ds od l fb = if kn then (ds, 5) else (putR ds ⟨od, l, [], [], [], fb⟩, 0) from fun fb => by
          rw [HR1.out, if_neg]
          rintro (h | h)
          · cases h
          · exact HL0.out h)
        clear hl0
        cases kn with
        | true =>
          have hR2 : ∀ fb, openOf ds od l fb = (ds, 5) := fun fb => by rw [HR2.out]; rfl
          simp only [hR2]
          clear hR2
          go_enter Tryz.func9, Tryz.ntmps9
          go_wp2_with (first
          | (go_at_call 43; refine cMd.out.mono ?_; rintro e W ⟨rfl, rfl⟩)
          | (at_lookup; refine wpList_look_ok_g rfl (.tmp 16) (.tmp 17) _ rfl 3 _ keyedI Tryz.underlying78 rfl HM.out (zeroR _) _ _ rfl hkey.out _ _ HG.out HS.out ?_)
          | (go_at_call 44; refine cMy.out.mono ?_; rintro e W1 ⟨rfl, hb1⟩; have hb2 := hb.trans (hb1.mono hb.size)))
          go_ret
          exact ⟨⟨_, rfl, H.out.same hb2, Nat.le_refl _⟩, Other.of_below hb2⟩
        | false =>
          have hR2 : ∀ fb, openOf ds od l fb = (putR ds ⟨od, l, [], [], [], fb⟩, 0) := fun fb => by rw [HR2.out]; rfl
          simp only [hR2]
          clear hR2
          have hl16 := may_len HML.out
          go_enter Tryz.func9, Tryz.ntmps9
          go_wp2_with (first
          | (go_at_call 43; refine cMd.out.mono ?_; rintro e W ⟨rfl, rfl⟩)
          | (at_lookup; refine wpList_look_ok_g rfl (.tmp 16) (.tmp 17) _ rfl 3 _ keyedI Tryz.underlying78 rfl HM.out (zeroR _) _ _ rfl hkey.out _ _ HG.out HS.out ?_)
          | (go_at_call 44; refine cMy.out.mono ?_; rintro e W1 ⟨rfl, hb1⟩; have hb2 := hb.trans (hb1.mono hb.size); have gb1 := ((H.out.same hb2).ob.cell (j := 0) rfl : _ = some (Value.map (some mb)))))
          have hbd : Below w.heap.size w W1.drew := hb2.drew
          have hba : Below w.heap.size w (W1.alloc (.map #[] 0)).drew := (hb2.alloc hb2.size _).drew
          have cA := Lib.hid (clonei_calls l _ W1.drew (hIn.out.mono hbd hbd.size) (by omega))
          have cB := Lib.hid (clonei_calls l _ (W1.alloc (.map #[] 0)).drew (hIn.out.mono hba hba.size) (by omega))
          have hm40 := H.out.short HM.out HR.out
          have HPUT := Lib.hid (fun W (hB : Below w.heap.size w W) val => (HM.out.below hB hmb).put (tm := 78) keyedI Tryz.underlying78 (by unfold maxLen; omega) hkey.out (val := val))
          have HGB := Lib.hid (fun W (hB : Below w.heap.size w W) => (hB.cell (p := ⟨b, 0, none⟩) hbl).trans g0)
          have HGP := Lib.hid (fun (W W' : World) (h : W.cell? ⟨b, 0, none⟩ = some (.map (some mb))) (hg : W.grownBy W' (some mb)) => hg.cell h (fun e => H.out.ne (Option.some.inj e)))
          have HBA := Lib.hid hba
          have HBD := Lib.hid hbd
          have HB2 := Lib.hid hb2
          clear cMd cMy HR2 HR1 hIn hb hba hbd hb2
          go_region_held3 (fun W => W.cell? ⟨b, 0, none⟩ = some (.map (some mb))) (go_keep)
            (first
              | (go_at_call 45; refine cA.out.mono ?_; rintro e W2 ⟨⟨cv, rfl, hcv⟩, hb3⟩; have hB3 := HBD.out.trans (hb3.mono HBD.out.size); have gb2 := HGB.out _ hB3; have hB4 := hB3.alloc hB3.size (.map #[] 0); have gb4 := HGB.out _ hB4; obtain ⟨Ac, cc, rfl, -⟩ := (ItemsAt.of_own hcv).form; have HB4 := Lib.hid hB4; have HCV := Lib.hid ((LiAt.of_own (F := fun i => w.heap.size ≤ i ∧ i ≠ W2.heap.size) hcv (fun i h1 h2 => ⟨Nat.le_trans HBD.out.size h1, Nat.ne_of_lt h2⟩)).keep (Kept.of_below (Fr := fun i => i < W2.heap.size) ((Below.refl W2.heap.size W2).alloc (Nat.le_refl _) (.map #[] 0)) fun _ h => h) (F' := fun i => w.heap.size ≤ i ∧ i ≠ W2.heap.size) fun i h1 h2 => ⟨h1, h2⟩); obtain ⟨W3, hput, hM3, hg3⟩ := HPUT.out _ hB4 (.agg #[.int .i64 od, .slice Ac l.length cc, .slice none 0 0, .slice none 0 0, .map (some W2.heap.size)]); have gb3 := HGP.out _ _ gb4 hg3; have HB3 := Lib.hid hB3; have HM3 := Lib.hid hM3; have HG3 := Lib.hid hg3; clear hcv hb3 hB3 hM3 hg3)
              | (go_at_call 45; refine cB.out.mono ?_; rintro e W2 ⟨⟨cv, rfl, hcv⟩, hb3⟩; have hB3 := HBA.out.trans (hb3.mono HBA.out.size); have gb2 := HGB.out _ hB3; obtain ⟨Ac, cc, rfl, -⟩ := (ItemsAt.of_own hcv).form; have HCV := Lib.hid (LiAt.of_own (F := fun i => w.heap.size ≤ i ∧ i ≠ W1.heap.size) hcv (fun i h1 h2 => ⟨Nat.le_trans HBA.out.size h1, fun e => by simp [World.drew] at h1; omega⟩)); obtain ⟨W3, hput, hM3, hg3⟩ := HPUT.out _ hB3 (.agg #[.int .i64 od, .slice Ac l.length cc, .slice none 0 0, .slice none 0 0, .map (some W1.heap.size)]); have gb3 := HGP.out _ _ gb2 hg3; have hfm := Lib.hid (((GMap.made (K := intK) W1 Tryz.prog 3).below (Below.refl (W1.alloc (.map #[] 0)).heap.size _).drew (by simp)).below hb3 (by simp [World.drew])); have HB3 := Lib.hid hB3; have HM3 := Lib.hid hM3; have HG3 := Lib.hid hg3; clear hcv hb3 hB3 hM3 hg3))
          all_goals clear g0 gb1
          · go_wp2
            go_ret
            obtain ⟨f1, f2⟩ := open_fin H.out HR.out HB4.out HCV.out HB3.out.size (GMap.made (K := intK) W2 Tryz.prog 3) hod HML.out HL0.out HKN.out hbase HM3.out HG3.out
            exact ⟨⟨_, rfl, f1, HB3.out.size⟩, f2⟩
          · go_wp2
            go_ret
            obtain ⟨f1, f2⟩ := open_fin H.out HR.out HB3.out HCV.out HB2.out.size hfm.out hod HML.out HL0.out HKN.out hbase HM3.out HG3.out
            exact ⟨⟨_, rfl, f1, HB2.out.size⟩, f2⟩
end Pc
end Go.Proofs.YtdbkkldgobkjcaaGreat
