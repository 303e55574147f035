/-
  the document's answers on items: Of, Same, Both.
  moves: what lives says.
  moves: what nil moves do; the document's Same.
  moves: the document's moves in memory; Find, region.
  moves: the document's Pack.
  moves: the law Full.
  moves: Unpack.
  from a law's walk to its row: the call returns true, and nothing that was there has turned.
  arguments opened: a slice of structs, whatever the number of their one-cell fields; a slice of items.
-/
import Derived.Test.YtdbkkldgobkjcaaGreatMz6
import Derived.Test.YtdbkkldgobkjcaaGreatMz8
import Derived.Test.YtdbkkldgobkjcaaGreatMz4
import Derived.Test.YtdbkkldgobkjcaaGreatMz7
import Derived.Test.YtdbkkldgobkjcaaGreatMz1
import Derived.ProofKit
import Derived.OpenShut
import Derived.JoinedCond
import Derived.Deep.CondSized
import Derived.Test.YtdbkkldgobkjcaaGreatMz2
import Derived.SizedLaws
import Derived.Deep.Slices
import Derived.Deep.Fields
import Derived.ChangeSame

set_option linter.unusedVariables false
set_option linter.unusedSimpArgs false
namespace Go.Proofs.YtdbkkldgobkjcaaGreat
open Go.RowKit Go.Maps
namespace It

set_option maxRecDepth 100000 in
set_option maxHeartbeats 1000000 in
theorem refof_calls (L : List Item) (good : ByteArray) (v : Value) (w : World) (hI : ItemsAt w 0 w.heap.size v L) :
    Calls Tryz.prog 96 #[v, .string good] w fun e w' => e = .returned (.int .i64 (ofSum good L)) ∧ w = w' := by
  obtain ⟨A, c, rfl, hc1, hc2⟩ := hI.form
  unfold maxLen at hc2
  go_enter Tryz.func96, Tryz.ntmps96
  go_wp2
  go_loop [5, 6] (fun t i => ∃ k : Nat, k ≤ L.length ∧ i = .int .i64 k ∧ t = .int .i64 (ofSum good (L.take k))) (fun _ i => L.length - (intOf i).toNat)
  case atStart => exact ⟨0, by omega, rfl, rfl⟩
  case round =>
    obtain ⟨k, hk, rfl, rfl⟩ := hrel
    by_cases hlt : k < L.length
    · have HS := Lib.hid (show ofSum good (L.take (k + 1)) = ofStep good (ofSum good (L.take k)) L[k] by rw [List.take_succ_eq_append_getElem hlt, ofSum_snoc])
      obtain ⟨b, o, rfl, -, hb, g1, g2⟩ := hI.cellAt hlt
      have hd : decide ((k : Int) < (L.length : Int)) = true := by simp; omega
      generalize L[k] = x at *
      obtain ⟨xs, xn⟩ := x
      dsimp only at g1 g2
      have HE := Lib.hid (show ofStep good (ofSum good (L.take k)) (xs, xn) = if xs.toList == good.toList then wrap64 (ofSum good (L.take k) + xn) else ofSum good (L.take k) from rfl)
      generalize ofSum good (L.take k) = t at *
      cases ht : (xs.toList == good.toList)
      · go_wp2
        go_round
        case rel => exact ⟨k + 1, by omega, by go_num, by rw [HS.out, HE.out, ht]; rfl⟩
        case measure => simp [intOf]; omega
      · go_wp2
        go_round
        case rel => exact ⟨k + 1, by omega, by go_num, by rw [HS.out, HE.out, ht]; rfl⟩
        case measure => simp [intOf]; omega
    · obtain rfl : k = L.length := by omega
      rw [List.take_length]
      go_wp2
      go_ret
      exact ⟨rfl, rfl⟩

set_option maxRecDepth 100000 in
set_option maxHeartbeats 1000000 in
theorem refsame_calls (a b : List Item) (va vb : Value) (w : World) (ha : ItemsAt w 0 w.heap.size va a) (hb : ItemsAt w 0 w.heap.size vb b) :
    Calls Tryz.prog 21 #[va, vb] w fun e w' => e = .returned (.bool (decide (a = b))) ∧ Below w.heap.size w w' := by
  obtain ⟨A, c, rfl, hc1, hc2⟩ := ha.form
  obtain ⟨A', c', rfl, hc1', hc2'⟩ := hb.form
  unfold maxLen at hc2 hc2'
  have hmx : Tryz.prog.follows .mixedOrders = true := by kernel_rfl
  by_cases hl : a.length = b.length
  · have hln : ((a.length : Int) == (b.length : Int)) = true := by simp; omega
    have hln2 : ((a.length : Int) != (b.length : Int)) = false := by simp; omega
    have HL := Lib.hid hl
    clear hl
    go_enter Tryz.func21, Tryz.ntmps21
    go_wp2
    go_loopw [5] (fun i wr => ∃ k : Nat, k ≤ a.length ∧ i = .int .i64 k ∧ a.take k = b.take k ∧ Below w.heap.size w wr) (fun i _ => a.length - (intOf i).toNat)
    case atStart => exact ⟨0, by omega, rfl, rfl, Below.refl _ _⟩
    case round =>
      obtain ⟨k, hk, rfl, hm, hB⟩ := hrel
      by_cases hlt : k < a.length
      · have hltb : k < b.length := by have := HL.out; omega
        obtain ⟨p, o, rfl, -, hp, g1, g2⟩ := (ha.mono hB hB.size).cellAt hlt
        obtain ⟨p', o', rfl, -, hp', g1', g2'⟩ := (hb.mono hB hB.size).cellAt hltb
        have hd : decide ((k : Int) < (a.length : Int)) = true := by simp; omega
        have hd' : decide ((k : Int) < (b.length : Int)) = true := by simp; omega
        have HS := Lib.hid (show a.take (k + 1) = b.take (k + 1) ↔ a[k] = b[k] by
          rw [List.take_succ_eq_append_getElem hlt, List.take_succ_eq_append_getElem hltb, hm, List.append_cancel_left_eq]; simp)
        have HN := Lib.hid (fun (h : a = b) => show a.take (k + 1) = b.take (k + 1) by rw [h])
        clear hm
        generalize a[k] = x at *
        generalize b[k] = y at *
        obtain ⟨xs, xn⟩ := x
        obtain ⟨ys, yn⟩ := y
        dsimp only at g1 g2 g1' g2'
        have hcs : (xs.toList = ys.toList ∧ xn = yn) ∨ ¬ xs.toList = ys.toList ∨ (xs.toList = ys.toList ∧ ¬ xn = yn) := by
          by_cases e : xs.toList = ys.toList <;> by_cases e2 : xn = yn <;> simp [e, e2]
        have hxy : xs.toList = ys.toList → xs = ys := fun h => by
          rw [toList_key, toList_key] at h
          exact ByteArray.ext (Array.toList_inj.1 h)
        have HXY := Lib.hid hxy
        clear hxy
        rcases hcs with ⟨e1, e2⟩ | e1 | ⟨e1, e2⟩
        all_goals
          go_wp2_with fail
          refine Pu.regionW (fun W' => Below wr.drew.heap.size wr.drew W') hmx (by kernel_rfl) (by kernel_rfl) (Below.refl _ _) rfl ?_
          iterate 9 (first
            | (refine Pu.Walk.off (by rfl) ?_; simp only [Act.put, List.setIfInBounds_toArray, List.set_cons_succ, List.set_cons_zero])
            | (apply Pu.Walk.on (by rfl)
               · intro W1 h1
                 have g1a : W1.cell? ⟨p, o + k * 2, none⟩ = some (.string xs) := (Below.cell (p := ⟨p, o + k * 2, none⟩) h1 hp).trans g1
                 have g2a : W1.cell? ⟨p, o + k * 2 + 1, none⟩ = some (.int .i64 xn) := (Below.cell (p := ⟨p, o + k * 2 + 1, none⟩) h1 hp).trans g2
                 have g1b : W1.cell? ⟨p', o' + k * 2, none⟩ = some (.string ys) := (Below.cell (p := ⟨p', o' + k * 2, none⟩) h1 hp').trans g1'
                 have g2b : W1.cell? ⟨p', o' + k * 2 + 1, none⟩ = some (.int .i64 yn) := (Below.cell (p := ⟨p', o' + k * 2 + 1, none⟩) h1 hp').trans g2'
                 go_wp2_with fail
                 refine ⟨rfl, ?_, h1⟩
                 try simp only [Act.put, List.setIfInBounds_toArray, List.set_cons_succ, List.set_cons_zero]
                 rfl
               simp only [Act.put, List.setIfInBounds_toArray, List.set_cons_succ, List.set_cons_zero]))

        all_goals
          refine Pu.Walk.nil (fun W1 h1 => ?_)
          have hB1 : Below w.heap.size w W1 := (hB.trans ((Below.refl w.heap.size wr).drew)).trans (h1.mono hB.size)
          clear g1 g2 g1' g2'
        · have HE := Lib.hid (HXY.out e1)
          have HF := Lib.hid e2
          clear e1 e2
          go_wp2
          go_roundw
          case rel => exact ⟨k + 1, by omega, by go_num, HS.out.2 (by rw [HE.out, HF.out]), hB1⟩
          case measure => simp [intOf]; omega
        all_goals
          have HD := Lib.hid (show decide (a = b) = false from decide_eq_false fun h => by
            have := HS.out.1 (HN.out h)
            simp only [Prod.mk.injEq] at this
            first | exact e1 (by rw [this.1]) | exact e2 this.2)
          go_wp2
          go_ret
          exact ⟨ret1 (boo HD.out.symm), hB1⟩
      · obtain rfl : k = a.length := by omega
        have HD := Lib.hid (show decide (a = b) = true from decide_eq_true (by rw [List.take_length, HL.out, List.take_length] at hm; exact hm))
        go_wp2
        go_ret
        exact ⟨ret1 (boo HD.out.symm), hB⟩
  · have hln : ((a.length : Int) != (b.length : Int)) = true := by rw [bne_iff_ne]; omega
    have HD := Lib.hid (show decide (a = b) = false from decide_eq_false fun h => hl (by rw [h]))
    clear hl
    go_enter Tryz.func21, Tryz.ntmps21
    go_wp2
    go_ret
    exact ⟨ret1 (boo HD.out.symm), Below.refl _ _⟩

set_option maxRecDepth 100000 in
set_option maxHeartbeats 4000000 in
theorem refboth_calls (kind : Int) (f : Int → Int → Int) (hkf : (kind = 1 ∧ f = meetF) ∨ (kind = 2 ∧ f = restF)) (a b : List Item) (va vb : Value) (w : World) (ha : ItemsAt w 0 w.heap.size va a) (hb : ItemsAt w 0 w.heap.size vb b) (hla : a.length ≤ 1000000) :
    Calls Tryz.prog 54 #[va, vb, .int .i64 kind] w fun e w' =>
      (∃ v, e = .returned v ∧ w'.ownsRow w.heap.size 37 2 v (eachL f a b).length (itemCells (eachL f a b))) ∧ Below w.heap.size w w' := by
  obtain ⟨A, c, rfl, hc1, hc2⟩ := ha.form
  obtain ⟨A', c', rfl, hc1', hc2'⟩ := hb.form
  unfold maxLen at hc2 hc2'
  have hmx : Tryz.prog.follows .mixedOrders = true := by kernel_rfl
  have HKF := Lib.hid hkf
  clear hkf
  obtain ⟨i0, hi0, hz0⟩ := Option.map_eq_some_iff.1 item_info
  simp only [Prod.mk.injEq] at hz0
  obtain ⟨hz0, hz1, hz2⟩ := hz0
  have HOL := Lib.hid (fun k => show (eachL f (a.take k) b).length ≤ 1000000 from Nat.le_trans (eachL_len _ _ _) (Nat.le_trans (List.length_take_le' _ _) hla))
  go_enter Tryz.func54, Tryz.ntmps54
  go_wp2
  go_loopw [7, 8, 9, 10, 11] (fun o i _ _ _ wr => ∃ k : Nat, k ≤ a.length ∧ i = .int .i64 k ∧ wr.ownsRow w.heap.size 37 2 o (eachL f (a.take k) b).length (itemCells (eachL f (a.take k) b)) ∧ Below w.heap.size w wr) (fun _ i _ _ _ _ => a.length - (intOf i).toNat)
  case atStart => exact ⟨0, by omega, rfl, World.ownsRow_nil _ _ _ _, Below.refl _ _⟩
  case round =>
    obtain ⟨k, hk, rfl, hown, hB⟩ := hrel
    by_cases hlt : k < a.length
    · have har := ha.mono hB hB.size
      have hbr := hb.mono hB hB.size
      have HS := Lib.hid (show eachL f (a.take (k + 1)) b = eachL f (a.take k) b ++ (if 0 < f a[k].2 (ofSum a[k].1 b) then [(a[k].1, f a[k].2 (ofSum a[k].1 b))] else []) by rw [List.take_succ_eq_append_getElem hlt, eachL_snoc])
      have HL := Lib.hid (HOL.out k)
      obtain ⟨p, o, rfl, -, hp, g1, g2⟩ := har.cellAt hlt
      have hd : decide ((k : Int) < (a.length : Int)) = true := by simp; omega
      generalize a[k] = x at *
      obtain ⟨xs, xn⟩ := x
      dsimp only at g1 g2
      generalize eachL f (a.take k) b = S at *
      have cO := Lib.hid (fun v W hI => refof_calls b xs v W hI)
      dsimp only at HS
      generalize ofSum xs b = t at *
      go_wp2_with fail
      refine Pu.regionW (fun W' => Below wr.drew.heap.size wr.drew W') hmx (by kernel_rfl) (by kernel_rfl) (Below.refl _ _) rfl ?_
      iterate 14 (first
        | (refine Pu.Walk.off (by rfl) ?_; simp only [Act.put, List.setIfInBounds_toArray, List.set_cons_succ, List.set_cons_zero])
        | (apply Pu.Walk.on (by rfl)
           · intro W1 h1
             have hb1 := (hbr.mono (Below.refl wr.heap.size wr).drew (B' := wr.drew.heap.size) (Nat.le_refl _)).mono h1 h1.size
             have g1a : W1.cell? ⟨p, o + k * 2, none⟩ = some (.string xs) := (Below.cell (p := ⟨p, o + k * 2, none⟩) h1 hp).trans g1
             have g2a : W1.cell? ⟨p, o + k * 2 + 1, none⟩ = some (.int .i64 xn) := (Below.cell (p := ⟨p, o + k * 2 + 1, none⟩) h1 hp).trans g2
             go_wp2_with (go_at_call 96; refine (cO.out _ _ hb1).mono ?_; rintro e W2 ⟨rfl, rfl⟩)
             refine ⟨rfl, ?_, h1⟩
             try simp only [Act.put, List.setIfInBounds_toArray, List.set_cons_succ, List.set_cons_zero]
             rfl
           simp only [Act.put, List.setIfInBounds_toArray, List.set_cons_succ, List.set_cons_zero]))
      refine Pu.Walk.nil (fun W1 h1 => ?_)
      have hB1 : Below w.heap.size w W1 := (hB.trans ((Below.refl w.heap.size wr).drew)).trans (h1.mono hB.size)
      have hown1 : W1.ownsRow w.heap.size 37 2 u7 S.length (itemCells S) := row_below (show wr.drew.ownsRow _ _ _ _ _ _ from hown) h1
      have hcx : W1.cell? ⟨p, o + k * 2, none⟩ = some (.string xs) := (Below.cell (p := ⟨p, o + k * 2, none⟩) h1 hp).trans g1
      clear g1 g2 hown
      have hcases : (kind = 1 ∧ f xn t = t ∧ t < xn) ∨ (kind = 1 ∧ f xn t = xn ∧ ¬ t < xn) ∨ (kind = 2 ∧ f xn t = wrap64 (xn - t)) := by
        rcases HKF.out with ⟨h1, rfl⟩ | ⟨h1, rfl⟩
        · by_cases h : t < xn
          · exact .inl ⟨h1, by unfold meetF; omega, h⟩
          · exact .inr (.inl ⟨h1, by unfold meetF; omega, h⟩)
        · exact .inr (.inr ⟨h1, rfl⟩)
      rcases hcases with ⟨rfl, hf, hx⟩ | ⟨rfl, hf, hx⟩ | ⟨rfl, hf⟩
      · clear HKF
        have hdx : decide (t < xn) = true := by simpa using hx
        by_cases ht : 0 < t
        · have HS2 := Lib.hid (show eachL f (a.take (k + 1)) b = S ++ [(xs, t)] by rw [HS.out, hf, if_pos ht])
          have hd : decide (0 < t) = true := by simpa using ht
          clear HS hf ht
          go_wp2_with (at_builtin
                       refine wpList_append_sl _ rfl (.tmp 42) (.tmp 50) _ rfl w.heap.size 37 i0 _ 2 24 Tryz.underlying30 hi0 hz0 hz1 hz2 rfl (by omega) u7 S.length (itemCells S) rfl (hown1.alloc _) W1.heap.size (W1.heap.size + 1) _ 1 [.string xs, .int .i64 (t)] rfl (Sl.new W1 #[.string xs, .int .i64 (t)] 37 (n := 1) rfl (by unfold maxLen; omega)) (by simp [Value.oneCell']) (by have := HL.out; unfold maxLen; omega) (by have := HL.out; omega) (by have := hB1.size; simp; omega) ?_
                       intro v1 w5 hv1 hg1 hat1)
          have hB4 : Below w.heap.size w w5 := (hB1.alloc hB1.size _).grown hg1 (by have := hB1.size; simp; omega) (fun g hg => (hown1.lt g hg).1)
          go_roundw
          case rel =>
            refine ⟨k + 1, by omega, by go_num, ?_, hB4⟩
            rw [HS2.out, List.length_append, itemCells_append]
            exact hv1
          case measure => simp [intOf]; omega
        · have HS2 := Lib.hid (show eachL f (a.take (k + 1)) b = S by rw [HS.out, hf, if_neg ht, List.append_nil])
          have hd : decide (0 < t) = false := by simpa using ht
          clear HS hf ht
          go_wp2
          go_roundw
          case rel => exact ⟨k + 1, by omega, by go_num, by rw [HS2.out]; exact hown1, hB1⟩
          case measure => simp [intOf]; omega
      · clear HKF
        have hdx : decide (t < xn) = false := by simpa using hx
        by_cases ht : 0 < xn
        · have HS2 := Lib.hid (show eachL f (a.take (k + 1)) b = S ++ [(xs, xn)] by rw [HS.out, hf, if_pos ht])
          have hd : decide (0 < xn) = true := by simpa using ht
          clear HS hf ht
          go_wp2_with (at_builtin
                       refine wpList_append_sl _ rfl (.tmp 42) (.tmp 50) _ rfl w.heap.size 37 i0 _ 2 24 Tryz.underlying30 hi0 hz0 hz1 hz2 rfl (by omega) u7 S.length (itemCells S) rfl (hown1.alloc _) W1.heap.size (W1.heap.size + 1) _ 1 [.string xs, .int .i64 (xn)] rfl (Sl.new W1 #[.string xs, .int .i64 (xn)] 37 (n := 1) rfl (by unfold maxLen; omega)) (by simp [Value.oneCell']) (by have := HL.out; unfold maxLen; omega) (by have := HL.out; omega) (by have := hB1.size; simp; omega) ?_
                       intro v1 w5 hv1 hg1 hat1)
          have hB4 : Below w.heap.size w w5 := (hB1.alloc hB1.size _).grown hg1 (by have := hB1.size; simp; omega) (fun g hg => (hown1.lt g hg).1)
          go_roundw
          case rel =>
            refine ⟨k + 1, by omega, by go_num, ?_, hB4⟩
            rw [HS2.out, List.length_append, itemCells_append]
            exact hv1
          case measure => simp [intOf]; omega
        · have HS2 := Lib.hid (show eachL f (a.take (k + 1)) b = S by rw [HS.out, hf, if_neg ht, List.append_nil])
          have hd : decide (0 < xn) = false := by simpa using ht
          clear HS hf ht
          go_wp2
          go_roundw
          case rel => exact ⟨k + 1, by omega, by go_num, by rw [HS2.out]; exact hown1, hB1⟩
          case measure => simp [intOf]; omega
      · clear HKF
        by_cases ht : 0 < wrap64 (xn - t)
        · have HS2 := Lib.hid (show eachL f (a.take (k + 1)) b = S ++ [(xs, wrap64 (xn - t))] by rw [HS.out, hf, if_pos ht])
          have hd : decide (0 < wrap64 (xn - t)) = true := by simpa using ht
          clear HS hf ht
          go_wp2_with (at_builtin
                       refine wpList_append_sl _ rfl (.tmp 42) (.tmp 50) _ rfl w.heap.size 37 i0 _ 2 24 Tryz.underlying30 hi0 hz0 hz1 hz2 rfl (by omega) u7 S.length (itemCells S) rfl (hown1.alloc _) W1.heap.size (W1.heap.size + 1) _ 1 [.string xs, .int .i64 (wrap64 (xn - t))] rfl (Sl.new W1 #[.string xs, .int .i64 (wrap64 (xn - t))] 37 (n := 1) rfl (by unfold maxLen; omega)) (by simp [Value.oneCell']) (by have := HL.out; unfold maxLen; omega) (by have := HL.out; omega) (by have := hB1.size; simp; omega) ?_
                       intro v1 w5 hv1 hg1 hat1)
          have hB4 : Below w.heap.size w w5 := (hB1.alloc hB1.size _).grown hg1 (by have := hB1.size; simp; omega) (fun g hg => (hown1.lt g hg).1)
          go_roundw
          case rel =>
            refine ⟨k + 1, by omega, by go_num, ?_, hB4⟩
            rw [HS2.out, List.length_append, itemCells_append]
            exact hv1
          case measure => simp [intOf]; omega
        · have HS2 := Lib.hid (show eachL f (a.take (k + 1)) b = S by rw [HS.out, hf, if_neg ht, List.append_nil])
          have hd : decide (0 < wrap64 (xn - t)) = false := by simpa using ht
          clear HS hf ht
          go_wp2
          go_roundw
          case rel => exact ⟨k + 1, by omega, by go_num, by rw [HS2.out]; exact hown1, hB1⟩
          case measure => simp [intOf]; omega
    · obtain rfl : k = a.length := by omega
      rw [List.take_length] at hown
      obtain ⟨A5, c5, rfl, -⟩ := (ItemsAt.of_own hown).form
      go_wp2
      go_ret
      exact ⟨⟨_, rfl, hown⟩, hB⟩
end It
end Go.Proofs.YtdbkkldgobkjcaaGreat

namespace Go.Proofs.YtdbkkldgobkjcaaGreat
open Go.RowKit Go.Maps
namespace Mv
open It

theorem past {w w' : World} {lo mb : Nat} {v : Value} {l : List It.Item} (h : ItemsAt w lo w.heap.size v l) (hg : w.grownBy w' (some mb)) (hlt : mb < lo) : ItemsAt w' lo w'.heap.size v l :=
  (Sl.grown h hg (Nat.le_refl _) (fun k e => by cases e; exact .inl hlt)).wide (Nat.le_refl _) hg.size
theorem below_far {B : Nat} {w w' w2 : World} {mb : Nat} (h : Below B w w') (hg : w'.grownBy w2 (some mb)) (hB : B ≤ w.heap.size) (hm : B ≤ mb) : Below B w w2 := h.grown hg (Nat.le_trans hB h.size) (fun k e => by cases e; exact hm)

def la5 : List It.Item := [(sa, 5)]
def d15 : Way := ⟨1, 0, 2, la5, false⟩
def d15c : Way := ⟨1, 0, 2, la5, true⟩
theorem fits5 : Fits la5 := by
  intro x hx
  simp only [la5, List.mem_cons, List.not_mem_nil, or_false] at hx
  subst hx
  exact ⟨by decide, by decide, by decide⟩
theorem l_go : goOf [] 1 0 2 la5 = ([d15], 0) := by kernel_rfl
theorem l_under : underOf 0 2 [d15] = la5 := by kernel_rfl
theorem l_come : comeOf [d15] 1 = ([d15c], la5, 0) := by kernel_rfl
theorem l_come2 : comeOf [d15c] 1 = ([d15c], [], 5) := by kernel_rfl
theorem l_forget : forgetOf [d15c] 2 = ([d15c], 4) := by kernel_rfl
theorem l_under2 : underOf 0 2 [d15c] = [] := by kernel_rfl
theorem eql_nil (b : Nat) (w : World) : (binOp .eql 104 (.func (.func 97) #[] #[.pointer (some ⟨b, 0, none⟩)]) .nilFunc).run Tryz.prog w = .ok (.bool false) w := by kernel_rfl

set_option maxRecDepth 100000 in
set_option maxHeartbeats 4000000 in
theorem lives_calls (w : World) : Calls Tryz.prog 25 #[] w fun e w' => e = .returned (.bool true) ∧ Below w.heap.size w w' := by
  have hen := eql_nil
  have cA := Lib.hid (fun b W => all_calls (some ⟨b, 0, none⟩) W)
  go_enter Tryz.func25, Tryz.ntmps25
  go_wp2_with fail
  refine (new_calls w).mono ?_
  rintro e w1 ⟨⟨b, mb, rfl, hlb, hlm, hM⟩, h1⟩
  replace hM := hM (fun _ => False) (fun _ h => h.elim)
  go_wp2_with fail
  refine (cA.out _ _).mono ?_
  rintro e w2 ⟨rfl, rfl⟩
  go_wp2_with fail
  have hB3 : Below w.heap.size w ((w1.alloc (.cells #[.pointer (some ⟨b, 0, none⟩)] 53)).alloc (.cells #[.string ⟨#[97]⟩, .int .i64 5] 37)) := (h1.alloc h1.size _).alloc (by have := h1.size; simp; omega) _
  have hM3 : MvAt ((w1.alloc (.cells #[.pointer (some ⟨b, 0, none⟩)] 53)).alloc (.cells #[.string ⟨#[97]⟩, .int .i64 5] 37)) b mb (fun _ => False) [] := hM.same (((Below.refl _ w1).alloc (Nat.le_refl _) _).alloc (by simp) _)
  have hlo : mb < w1.heap.size + 1 := by have := hM.map; obtain ⟨m, hm, _⟩ := this; have := hm.lt; omega
  have hL3 : ItemsAt ((w1.alloc (.cells #[.pointer (some ⟨b, 0, none⟩)] 53)).alloc (.cells #[.string ⟨#[97]⟩, .int .i64 5] 37)) (w1.heap.size + 1) ((w1.alloc (.cells #[.pointer (some ⟨b, 0, none⟩)] 53)).alloc (.cells #[.string ⟨#[97]⟩, .int .i64 5] 37)).heap.size (.slice (some ⟨w1.heap.size + 1, 0, none⟩) 1 1) la5 := by
    have h2 : ItemsAt ((w1.alloc (.cells #[.pointer (some ⟨b, 0, none⟩)] 53)).alloc (.cells #[.string ⟨#[97]⟩, .int .i64 5] 37)) (w1.alloc (.cells #[.pointer (some ⟨b, 0, none⟩)] 53)).heap.size ((w1.alloc (.cells #[.pointer (some ⟨b, 0, none⟩)] 53)).heap.size + 1) (.slice (some ⟨(w1.alloc (.cells #[.pointer (some ⟨b, 0, none⟩)] 53)).heap.size, 0, none⟩) 1 1) la5 := Sl.new (w1.alloc (.cells #[.pointer (some ⟨b, 0, none⟩)] 53)) #[.string ⟨#[97]⟩, .int .i64 5] 37 (n := 1) rfl (by unfold maxLen; omega)
    rw [World.size_alloc] at h2
    exact h2.wide (Nat.le_refl _) (by simp)
  have hs1 := h1.size
  have hwz : ((w1.alloc (.cells #[.pointer (some ⟨b, 0, none⟩)] 53)).alloc (.cells #[.string ⟨#[97]⟩, .int .i64 5] 37)).heap.size = w1.heap.size + 2 := by simp
  have hp0 : w.heap.size + 0 ≤ mb := hlm
  generalize hlv : Value.slice (some ⟨w1.heap.size + 1, 0, none⟩) 1 1 = lv at *
  generalize ((w1.alloc (.cells #[.pointer (some ⟨b, 0, none⟩)] 53)).alloc (.cells #[.string ⟨#[97]⟩, .int .i64 5] 37)) = w3 at *
  clear hM h1
  have cG := go_calls 1 0 2 la5 lv b mb _ [] w3 hM3 (hL3.wide (Nat.zero_le _) (Nat.le_refl _)) fits5 (by omega) (by omega)
  rw [l_go] at cG
  refine cG.mono ?_
  clear cG hM3
  rintro e w4 ⟨rfl, hM4, hg4⟩
  have hL4 := past hL3 hg4 hlo
  have hB4 := below_far hB3 hg4 (Nat.le_refl _) hlm
  have hs4 := hg4.size
  clear hL3 hB3 hg4
  subst hlv
  go_wp2_with fail
  have cU := under_calls 0 2 b mb _ [d15] w4 hM4
  rw [l_under] at cU
  refine cU.mono ?_
  clear cU
  rintro e w5 ⟨⟨uv, rfl, hu⟩, h5⟩
  have hM5 := hM4.same h5
  have hL5 := hL4.mono h5 h5.size
  have hB5 := hB4.trans (h5.mono hB4.size)
  have hs5 := h5.size
  have hU5 := ItemsAt.of_own hu
  clear hM4 hL4 hB4 h5 hu
  obtain ⟨Au, cu, rfl, -⟩ := hU5.form
  go_wp2_with fail
  have cC := come_calls 1 b mb _ [d15] w5 hM5 (by omega) (by omega)
  rw [l_come] at cC
  refine cC.mono ?_
  clear cC hM5
  rintro e w6 ⟨⟨xv, rfl, hx⟩, hM6, hg6⟩
  have hL6 := past hL5 hg6 hlo
  have hU6 := past hU5 hg6 (by omega)
  have hB6 := below_far hB5 hg6 (Nat.le_refl _) hlm
  have hs6 := hg6.size
  have hX6 := ItemsAt.of_own hx
  clear hL5 hU5 hB5 hg6 hx
  obtain ⟨Ax, cx, rfl, -⟩ := hX6.form
  go_wp2_with fail
  have cC := come_calls 1 b mb _ [d15c] w6 hM6 (by omega) (by omega)
  rw [l_come2] at cC
  refine cC.mono ?_
  clear cC hM6
  rintro e w7 ⟨⟨yv, rfl, hy⟩, hM7, hg7⟩
  have hL7 := past hL6 hg7 hlo
  have hU7 := past hU6 hg7 (by omega)
  have hX7 := past hX6 hg7 (by omega)
  have hB7 := below_far hB6 hg7 (Nat.le_refl _) hlm
  have hY7 := ItemsAt.of_own hy
  clear hL6 hU6 hX6 hB6 hg7 hy
  obtain ⟨Ay, cy, rfl, -⟩ := hY7.form
  clear hY7
  go_wp2_with fail
  refine (refsame_calls la5 la5 _ _ _ (hU7.wide (Nat.zero_le _) (Nat.le_refl _)) (hL7.wide (Nat.zero_le _) (Nat.le_refl _))).mono ?_
  rintro e w8 ⟨rfl, h8⟩
  have hM8 := hM7.same h8
  have hL8 := hL7.mono h8 h8.size
  have hX8 := hX7.mono h8 h8.size
  have hB8 := hB7.trans (h8.mono hB7.size)
  clear hM7 hL7 hX7 hB7 h8 hU7
  simp only [decide_true]
  go_wp2_with fail
  refine (refsame_calls la5 la5 _ _ _ (hX8.wide (Nat.zero_le _) (Nat.le_refl _)) (hL8.wide (Nat.zero_le _) (Nat.le_refl _))).mono ?_
  rintro e w9 ⟨rfl, h9⟩
  have hM9 := hM8.same h9
  have hB9 := hB8.trans (h9.mono hB8.size)
  clear hM8 hL8 hX8 hB8 h9
  simp only [decide_true]
  go_wp2_with fail
  refine (len_calls b mb _ _ _ hM9).mono ?_
  rintro e w10 ⟨rfl, rfl⟩
  go_wp2_with fail
  have cF := forget_calls 2 b mb _ _ _ hM9 (by omega) (by omega)
  rw [l_forget] at cF
  refine cF.mono ?_
  clear cF hM9
  rintro e w11 ⟨rfl, hM11, hg11⟩
  have hB11 := below_far hB9 hg11 (Nat.le_refl _) hlm
  clear hB9 hg11
  go_wp2_with fail
  have cU := under_calls 0 2 b mb _ _ _ hM11
  rw [l_under2] at cU
  refine cU.mono ?_
  clear cU
  rintro e w12 ⟨⟨uv, rfl, hu⟩, h12⟩
  have hB12 := hB11.trans (h12.mono hB11.size)
  have hU12 := ItemsAt.of_own hu
  clear hM11 hB11 h12 hu
  obtain ⟨Av, cv, rfl, -⟩ := hU12.form
  go_wp2
  go_ret
  exact ⟨rfl, hB12⟩
end Mv
end Go.Proofs.YtdbkkldgobkjcaaGreat

namespace Go.Proofs.YtdbkkldgobkjcaaGreat
open Go.RowKit Go.Maps
namespace Mv
open It
attribute [local go_sem] Oper.semAt_some

theorem go_nil (mv fr to_ : Int) (lv : Value) (w : World) :
    Calls Tryz.prog 26 #[.pointer none, .int .i64 mv, .int .i64 fr, .int .i64 to_, lv] w fun e w' => e = .returned (.int .i64 6) ∧ w = w' := by
  have cM := Lib.hid (made_nil w)
  go_enter Tryz.func26, Tryz.ntmps26
  go_wp2_with (go_at_call 58; refine cM.out.mono ?_; rintro e W ⟨rfl, rfl⟩)
  go_ret
  exact ⟨rfl, rfl⟩
theorem come_nil (k : Int) (w : World) :
    Calls Tryz.prog 28 #[.pointer none, .int .i64 k] w fun e w' => e = .returned (.tuple #[.slice none 0 0, .int .i64 6]) ∧ w = w' := by
  have cM := Lib.hid (made_nil w)
  go_enter Tryz.func28, Tryz.ntmps28
  go_wp2_with (go_at_call 58; refine cM.out.mono ?_; rintro e W ⟨rfl, rfl⟩)
  go_ret2
  exact ⟨rfl, rfl⟩
theorem len_nil (w : World) :
    Calls Tryz.prog 57 #[.pointer none] w fun e w' => e = .returned (.int .i64 0) ∧ w = w' := by
  have cM := Lib.hid (made_nil w)
  go_enter Tryz.func57, Tryz.ntmps57
  go_wp2_with (go_at_call 58; refine cM.out.mono ?_; rintro e W ⟨rfl, rfl⟩)
  go_ret
  exact ⟨rfl, rfl⟩
theorem move_nil (k : Int) (w : World) :
    Calls Tryz.prog 62 #[.pointer none, .int .i64 k] w fun e w' => e = .returned (.tuple #[wayV way0 (.slice none 0 0), .bool false]) ∧ Below w.heap.size w w' := by
  have cM := Lib.hid (made_nil (w.alloc (.cells #[.int .i64 0, .int .i64 0, .int .i64 0, .slice none 0 0, .bool false] 108)))
  go_enter Tryz.func62, Tryz.ntmps62
  go_wp2_with (go_at_call 58; refine cM.out.mono ?_; rintro e W ⟨rfl, rfl⟩)
  have hO := Ob.new w 108 #[.int .i64 0, .int .i64 0, .int .i64 0, .slice none 0 0, .bool false]
  obtain ⟨q0, q1, q2, q3, q4⟩ := hO.five
  refine bodyPost_ret (v := .tuple #[wayV way0 (.slice none 0 0), .bool false]) ?_ rfl ⟨rfl, (Below.refl _ w).alloc (Nat.le_refl _) _⟩
  simp [results, Tryz.f62, go_sem, q0, q1, q2, q3, q4, wayV, way0]
theorem forget_nil (k : Int) (w : World) :
    Calls Tryz.prog 30 #[.pointer none, .int .i64 k] w fun e w' => e = .returned (.int .i64 6) ∧ Below w.heap.size w w' := by
  have cV := Lib.hid (move_nil k w)
  go_enter Tryz.func30, Tryz.ntmps30
  go_wp2_with fail
  refine cV.out.mono ?_
  rintro e W ⟨rfl, hb⟩
  simp only [wayV, way0]
  go_wp2_with fail
  refine (made_nil _).mono ?_
  rintro e W2 ⟨rfl, rfl⟩
  go_wp2
  go_ret
  exact ⟨rfl, hb.alloc hb.size _⟩

theorem all_nil (n : Nat) (hn : 1 ≤ n) (Bs : Nat) (w : World) (hbs : Ob w Bs 53 #[.pointer none]) :
    Rr.Reads Fence.wide n Tryz.prog 97 #[.pointer (some ⟨Bs, 0, none⟩)] (fun (_ : Unit) (_ : Value) (_ : World) => True) (Below w.heap.size) (fun xs => xs = []) (fun _ => False) (fun _ _ => False) w := by
  intro l J Jx W hW hJ hJx hY h0
  have hB := hbs.same hW
  have cB : W.cell? ⟨Bs, 0, none⟩ = some (.pointer none) := hB.cell (j := 0) rfl
  have cM := Lib.hid (made_nil W)
  refine callsIn_of_wp Tryz.func97 rfl trivial ?_ rfl
  simp only [Tryz.ntmps97, List.size_toArray, List.length_cons, List.length_nil, Nat.reduceAdd, Nat.reduceSub, Array.replicate_succ, Array.replicate_zero, List.push_toArray, List.append_toArray, List.nil_append, List.cons_append]
  clear hY
  gi_wp2_with (refine ⟨trivial, ?_⟩; gi_at_call 58; refine (callsIn_wide.2 cM.out).mono ?_; rintro e W' ⟨rfl, rfl⟩)
  refine bodyPost_ret (results_none rfl _ _ _) rfl ?_
  exact ⟨⟨_, rfl⟩, .inl ⟨_, rfl, h0⟩⟩

set_option maxRecDepth 100000 in
set_option maxHeartbeats 4000000 in
theorem under_nil (fr to_ : Int) (w : World) :
    Calls Tryz.prog 56 #[.pointer none, .int .i64 fr, .int .i64 to_] w fun e w' => e = .returned (.slice none 0 0) ∧ Below w.heap.size w w' := by
  refine (callsIn_wide (n := 6)).1 ?_
  refine callsIn_of_wp_marks Tryz.func56 rfl trivial ?_ rfl
  simp only [Tryz.ntmps56, List.size_toArray, List.length_cons, List.length_nil, Nat.reduceAdd, Nat.reduceSub, Array.replicate_succ, Array.replicate_zero, List.push_toArray, List.append_toArray, List.nil_append, List.cons_append]
  gi_wp2_with (refine ⟨trivial, ?_⟩; gi_at_call 55; refine (callsIn_wide.2 (all_calls _ _)).mono ?_; rintro e w' ⟨rfl, rfl⟩)
  have a1 := Below.refl w.heap.size w
  have a2 := a1.alloc (Nat.le_refl _) (.cells #[.int .i64 fr] 3)
  have a3 := a2.alloc (by simp) (.cells #[.int .i64 to_] 3)
  have b2 := Ob.new ((w.alloc (.cells #[.int .i64 fr] 3)).alloc (.cells #[.int .i64 to_] 3)) 30 #[.slice none 0 0]
  have a4 := a3.alloc (by simp; omega) (.cells #[.slice none 0 0] 30)
  have b3 := Ob.new (((w.alloc (.cells #[.int .i64 fr] 3)).alloc (.cells #[.int .i64 to_] 3)).alloc (.cells #[.slice none 0 0] 30)) 30 #[.slice none 0 0]
  have a5 := a4.alloc (by simp; omega) (.cells #[.slice none 0 0] 30)
  have b4 := Ob.new ((((w.alloc (.cells #[.int .i64 fr] 3)).alloc (.cells #[.int .i64 to_] 3)).alloc (.cells #[.slice none 0 0] 30)).alloc (.cells #[.slice none 0 0] 30)) 53 #[.pointer none]
  have hB5 := a5.alloc (by simp; omega) (.cells #[.pointer none] 53)
  replace b2 := (b2.alloc (.cells #[.slice none 0 0] 30)).alloc (.cells #[.pointer none] 53)
  replace b3 := b3.alloc (.cells #[.pointer none] 53)
  simp only [World.size_alloc] at b2 b3 b4
  have hsz5 : w.heap.size + 5 = (((((w.alloc (.cells #[.int .i64 fr] 3)).alloc (.cells #[.int .i64 to_] 3)).alloc (.cells #[.slice none 0 0] 30)).alloc (.cells #[.slice none 0 0] 30)).alloc (.cells #[.pointer none] 53)).heap.size := by simp
  clear a1 a2 a3 a4 a5
  generalize (((((w.alloc (.cells #[.int .i64 fr] 3)).alloc (.cells #[.int .i64 to_] 3)).alloc (.cells #[.slice none 0 0] 30)).alloc (.cells #[.slice none 0 0] 30)).alloc (.cells #[.pointer none] 53)) = w5 at *
  refine Rr.range_reads (n := 6) rfl (by omega) (gf := 97) rfl trivial (enters_of Tryz.func97 (by kernel_rfl) rfl)
    (all_nil 5 (by omega) (w.heap.size + 1 + 1 + 1 + 1) w5 b4) (Below.refl _ _) (fun h k => h.trans k) (fun W l r r' hl h => belowK_b (Nat.le_refl _) W l _ _ hl h rfl rfl) rfl
    (fun _ W => Ob W (w.heap.size + 1 + 1) 30 #[.slice none 0 0] ∧ Below w.heap.size w5 W ∧ Ob W (w.heap.size + 1 + 1 + 1) 30 #[.slice none 0 0])
    (fun _ _ _ => False)
    (fun s A B row hs hg hr => ⟨ob_keep hs.1 hg (fun r e => (hr r e).2), ownFrom_below (B := w5.heap.size) (by omega) (by omega) s A B row hs.2.1 hg hr, ob_keep hs.2.2 hg (fun r e => (hr r e).2)⟩)
    (fun c s A B row hs hg hr => hs.elim)
    ⟨b2, Below.refl _ _, b3⟩ ?round ?done ?stop
  case round => exact fun l pre d v W _ _ h => h.elim
  case stop => exact fun D c pre W _ h => h.elim
  case done =>
    rintro D xs W hD - ⟨hb2, hB, hb3⟩ hK
    have c3 := hb3.cell (j := 0) (v := .slice none 0 0) rfl
    have c2 := hb2.cell (j := 0) (v := .slice none 0 0) rfl
    have f2 := hb2.frozen 0
    have hb22 := hb2.set 0 (.slice none 0 0)
    have hBB := hB.grown (grownBy_set W (w.heap.size + 1 + 1) 0 (.slice none 0 0)) (by have := hB.size; omega) (fun k e => by cases e; omega)
    have hK2 : (W.setCell ⟨w.heap.size + 1 + 1, 0, none⟩ (.slice none 0 0)).heap[D]? = some (.deferred (some [])) := ((grownBy_set W (w.heap.size + 1 + 1) 0 (.slice none 0 0)).block D (Array.getElem?_eq_some_iff.1 hK).1 (fun e => by cases e; omega)).trans hK
    gi_wp2
    refine ⟨by simp, .inl ⟨_, _, rfl, run_takeDeferred hK2, ?_⟩⟩
    have c4 := (boxed_end hb22 hK2).cell
    refine ⟨.slice none 0 0, ?_, rfl, below_end (hB5.trans hBB) (by omega) hK2⟩
    simp [results, Tryz.f56, go_sem, c4]

/-- the document's Same of two moves -/
def sameW (a b : Way) : Bool := decide (a.mv = b.mv) && decide (a.fr = b.fr) && decide (a.to_ = b.to_) && decide (a.l = b.l) && (a.came == b.came)
theorem sameW_iff (a b : Way) : sameW a b = true ↔ a = b := by
  obtain ⟨a1, a2, a3, a4, a5⟩ := a
  obtain ⟨b1, b2, b3, b4, b5⟩ := b
  simp [sameW, and_assoc]

set_option maxRecDepth 100000 in
set_option maxHeartbeats 4000000 in
theorem sameW_calls (a b : Way) (va vb : Value) (w : World) (ha : ItemsAt w 0 w.heap.size va a.l) (hb : ItemsAt w 0 w.heap.size vb b.l) :
    Calls Tryz.prog 76 #[wayV a va, wayV b vb] w fun e w' => e = .returned (.bool (sameW a b)) ∧ Below w.heap.size w w' := by
  obtain ⟨A1, c1, rfl, -⟩ := ha.form
  obtain ⟨A2, c2, rfl, -⟩ := hb.form
  have hB0 : Below w.heap.size w ((w.alloc (.cells #[.int .i64 a.mv, .int .i64 a.fr, .int .i64 a.to_, .slice A1 a.l.length c1, .bool a.came] 108)).alloc (.cells #[.int .i64 b.mv, .int .i64 b.fr, .int .i64 b.to_, .slice A2 b.l.length c2, .bool b.came] 108)) := ((Below.refl _ w).alloc (Nat.le_refl _) _).alloc (by simp) _
  have hO1 := (Ob.new w 108 #[.int .i64 a.mv, .int .i64 a.fr, .int .i64 a.to_, .slice A1 a.l.length c1, .bool a.came]).alloc (.cells #[.int .i64 b.mv, .int .i64 b.fr, .int .i64 b.to_, .slice A2 b.l.length c2, .bool b.came] 108)
  have hO2 := Ob.new (w.alloc (.cells #[.int .i64 a.mv, .int .i64 a.fr, .int .i64 a.to_, .slice A1 a.l.length c1, .bool a.came] 108)) 108 #[.int .i64 b.mv, .int .i64 b.fr, .int .i64 b.to_, .slice A2 b.l.length c2, .bool b.came]
  simp only [World.size_alloc] at hO2
  have ha2 := ha.mono hB0 hB0.size
  have hb2 := hb.mono hB0 hB0.size
  have cS := refsame_calls a.l b.l _ _ _ ha2 hb2
  have hSm : sameW a b = (decide (a.mv = b.mv) && decide (a.fr = b.fr) && decide (a.to_ = b.to_) && decide (a.l = b.l) && (a.came == b.came)) := rfl
  generalize decide (a.l = b.l) = sl at cS hSm
  generalize sameW a b = S at *
  generalize a.l.length = n1 at *
  generalize b.l.length = n2 at *
  obtain ⟨amv, afr, ato, al, ac⟩ := a
  obtain ⟨bmv, bfr, bto, bl, bc⟩ := b
  dsimp only [wayV] at *
  clear ha2 hb2 ha hb
  have CS := Lib.hid cS
  have HB0 := Lib.hid hB0
  have HSm := Lib.hid hSm
  clear cS hB0 hSm hO1 hO2
  by_cases e1 : amv = bmv
  case neg =>
    have q1 : (amv == bmv) = false := by simpa using e1
    go_enter Tryz.func76, Tryz.ntmps76
    go_wp2
    go_ret
    exact ⟨ret1 (boo (by rw [HSm.out]; simp [e1])), HB0.out⟩
  case pos =>
  subst e1
  by_cases e2 : afr = bfr
  case neg =>
    have q2 : (afr == bfr) = false := by simpa using e2
    go_enter Tryz.func76, Tryz.ntmps76
    go_wp2
    go_ret
    exact ⟨ret1 (boo (by rw [HSm.out]; simp [e2])), HB0.out⟩
  case pos =>
  subst e2
  by_cases e3 : ato = bto
  case neg =>
    have q3 : (ato == bto) = false := by simpa using e3
    go_enter Tryz.func76, Tryz.ntmps76
    go_wp2
    go_ret
    exact ⟨ret1 (boo (by rw [HSm.out]; simp [e3])), HB0.out⟩
  case pos =>
  subst e3
  have HS2 := Lib.hid (show S = (sl && ac == bc) by rw [HSm.out]; simp)
  clear HSm
  cases sl with
  | false =>
    go_enter Tryz.func76, Tryz.ntmps76
    go_wp2_with (go_at_call 21; refine CS.out.mono ?_; rintro e W ⟨rfl, hb1⟩)
    go_ret
    exact ⟨ret1 (boo (by rw [HS2.out]; simp)), HB0.out.trans (hb1.mono HB0.out.size)⟩
  | true =>
    go_enter Tryz.func76, Tryz.ntmps76
    go_wp2_with fail
    refine CS.out.mono ?_
    rintro e W ⟨rfl, hb1⟩
    have hO1 := (((Ob.new w 108 #[.int .i64 amv, .int .i64 afr, .int .i64 ato, .slice A1 n1 c1, .bool ac]).alloc (.cells #[.int .i64 amv, .int .i64 afr, .int .i64 ato, .slice A2 n2 c2, .bool bc] 108)).same hb1).cell (j := 4) (v := .bool ac) rfl
    have hO2 := Ob.new (w.alloc (.cells #[.int .i64 amv, .int .i64 afr, .int .i64 ato, .slice A1 n1 c1, .bool ac] 108)) 108 #[.int .i64 amv, .int .i64 afr, .int .i64 ato, .slice A2 n2 c2, .bool bc]
    simp only [World.size_alloc] at hO2
    replace hO2 := (hO2.same hb1).cell (j := 4) (v := .bool bc) rfl
    go_wp2
    go_ret
    exact ⟨ret1 (boo (by rw [HS2.out]; simp)), HB0.out.trans (hb1.mono HB0.out.size)⟩
end Mv
end Go.Proofs.YtdbkkldgobkjcaaGreat

namespace Go.Proofs.YtdbkkldgobkjcaaGreat
open Go.RowKit Go.Maps
namespace Mv
open It

/-- the cells of the document's moves: a move and the value of its list -/
def wayC (p : Way × Value) : List Value := [.int .i64 p.1.mv, .int .i64 p.1.fr, .int .i64 p.1.to_, p.2, .bool p.1.came]
def docCells (es : List (Way × Value)) : List Value := es.flatMap wayC
theorem docCells_length : ∀ es : List (Way × Value), (docCells es).length = es.length * 5
  | [] => rfl
  | p :: r => by
    have := docCells_length r
    simp only [docCells, List.flatMap_cons, List.length_append, List.length_cons] at this ⊢
    rw [this]
    simp only [wayC, List.length_cons, List.length_nil]
    omega
theorem docCells_append (a b : List (Way × Value)) : docCells (a ++ b) = docCells a ++ docCells b := by simp [docCells]
theorem docCells_get : ∀ (es : List (Way × Value)) (j i : Nat) (h : j < es.length), i < 5 → (docCells es)[j * 5 + i]? = (wayC es[j])[i]?
  | p :: r, 0, i, _, hi => by
    simp only [docCells, List.flatMap_cons, Nat.zero_mul, Nat.zero_add, List.getElem_cons_zero]
    rw [List.getElem?_append_left (by simp [wayC]; omega)]
  | p :: r, j + 1, i, h, hi => by
    have := docCells_get r j i (by simpa using h) hi
    simp only [docCells, List.flatMap_cons, List.getElem_cons_succ] at this ⊢
    rw [List.getElem?_append_right (by simp [wayC]; omega), ← this]
    congr 1
    simp only [wayC, List.length_cons, List.length_nil]
    omega
theorem docCells_take : ∀ (es : List (Way × Value)) (k : Nat), docCells (es.take k) = (docCells es).take (k * 5)
  | [], k => by simp [docCells]
  | p :: r, 0 => by simp [docCells]
  | p :: r, k + 1 => by
    have := docCells_take r k
    have e : (k + 1) * 5 = k * 5 + 5 := by omega
    simp only [docCells, List.take_succ_cons, List.flatMap_cons] at this ⊢
    rw [this, e, List.take_append]
    simp [wayC, List.take_of_length_le]
theorem docCells_drop : ∀ (es : List (Way × Value)) (k : Nat), docCells (es.drop k) = (docCells es).drop (k * 5)
  | [], k => by simp [docCells]
  | p :: r, 0 => by simp [docCells]
  | p :: r, k + 1 => by
    have := docCells_drop r k
    have e : (k + 1) * 5 = k * 5 + 5 := by omega
    simp only [docCells, List.drop_succ_cons, List.flatMap_cons] at this ⊢
    rw [this, e, List.drop_append]
    simp [wayC, List.drop_eq_nil_of_le]

/-- the document's moves: block xb; the lists of the moves lie below base, their row from base on -/
structure DocAt (w : World) (xb base : Nat) (es : List (Way × Value)) : Prop where
  ob : ∃ v, Ob w xb 58 #[v] ∧ w.ownsRow base 108 5 v es.length (docCells es)
  nest : ∀ p ∈ es, ItemsAt w 0 base p.2 p.1.l
  len : es.length ≤ 256
theorem DocAt.same {w w' : World} {xb base : Nat} {es : List (Way × Value)} (h : DocAt w xb base es) (hb : Below w.heap.size w w') (hB : base ≤ w.heap.size) : DocAt w' xb base es := by
  obtain ⟨v, h1, h2⟩ := h.ob
  exact ⟨⟨v, h1.same hb, row_below h2 hb⟩, fun p hp => (h.nest p hp).below (hb.mono hB), h.len⟩
/-- a write to a block that is no row of moves and not xb -/
theorem DocAt.kept {w w' : World} {xb base g : Nat} {es : List (Way × Value)} (h : DocAt w xb base es) (hg : w.grownBy w' (some g)) (hx : xb ≠ g) (hB : base ≤ w.heap.size) (hgb : base ≤ g) (hn : ∀ cu fz, w.heap[g]? ≠ some (.cells cu 108 fz)) : DocAt w' xb base es := by
  obtain ⟨v, h1, h2⟩ := h.ob
  refine ⟨⟨v, h1.kept hg (fun e => hx (Option.some.inj e)), h2.kept hg ?_⟩, fun p hp => (h.nest p hp).below ((Below.refl base w).grown hg hB (fun k e => by cases e; exact hgb)), h.len⟩
  rcases h2.2 with ⟨rfl, _⟩ | ⟨g', cap, cur, rfl, _, hg', _⟩
  · exact .inl rfl
  · refine .inr fun e => ?_
    have : g' = g := by simpa [Value.ownBlock] using e
    subst this
    exact hn _ _ hg'

/-- where the document finds a move -/
def idxW (ds : List Way) (k : Int) : Int := match ds.findIdx? (fun d => decide (d.mv = k)) with | some i => i | none => -1
theorem docAt_cell {w : World} {lo B c j n : Nat} {A : Option Addr} {es : List (Way × Value)} (h : Sl w lo B 5 (.slice A n c) es.length (docCells es)) (hj : j < es.length) : ∃ b o, A = some ⟨b, o, none⟩ ∧ lo ≤ b ∧ b < B ∧
    w.cell? ⟨b, o + j * 5, none⟩ = some (.int .i64 es[j].1.mv) ∧ w.cell? ⟨b, o + j * 5 + 1, none⟩ = some (.int .i64 es[j].1.fr) ∧ w.cell? ⟨b, o + j * 5 + 2, none⟩ = some (.int .i64 es[j].1.to_) ∧ w.cell? ⟨b, o + j * 5 + 3, none⟩ = some es[j].2 ∧ w.cell? ⟨b, o + j * 5 + 4, none⟩ = some (.bool es[j].1.came) := by
  obtain ⟨A', c', e, h1, h2, h3⟩ := h.at_
  cases e
  obtain ⟨b, o, ea, hl, hb, hc⟩ := h3 (by omega)
  have g := fun i (hi : i < 5) => (hc (j * 5 + i) (by omega)).trans (docCells_get es j i hj hi)
  exact ⟨b, o, ea, hl, hb, g 0 (by omega), g 1 (by omega), g 2 (by omega), g 3 (by omega), g 4 (by omega)⟩
theorem idxW_lt (ds : List Way) (k : Int) (j : Nat) (hj : j < ds.length) (hlt : ∀ i (h : i < ds.length), i < j → ds[i].mv ≠ k) (he : ds[j].mv = k) : idxW ds k = j := by
  unfold idxW
  have : ds.findIdx? (fun d => decide (d.mv = k)) = some j := by
    rw [List.findIdx?_eq_some_iff_getElem]
    exact ⟨hj, by simpa using he, fun i hi => by simpa using hlt i (by omega) hi⟩
  rw [this]
theorem idxW_none (ds : List Way) (k : Int) (h : ∀ i (h : i < ds.length), ds[i].mv ≠ k) : idxW ds k = -1 := by
  unfold idxW
  have : ds.findIdx? (fun d => decide (d.mv = k)) = none := by
    rw [List.findIdx?_eq_none_iff]
    intro d hd
    obtain ⟨i, hi, rfl⟩ := List.getElem_of_mem hd
    simpa using h i hi
  rw [this]

set_option maxRecDepth 100000 in
set_option maxHeartbeats 4000000 in
theorem find_calls (k : Int) (xb base : Nat) (es : List (Way × Value)) (w : World) (h : DocAt w xb base es) :
    Calls Tryz.prog 61 #[.pointer (some ⟨xb, 0, none⟩), .int .i64 k] w fun e w' => e = .returned (.int .i64 (idxW (es.map (·.1)) k)) ∧ w = w' := by
  obtain ⟨v, hx, hv⟩ := h.ob
  have hlen := h.len
  have hS := Sl.of_own hv
  obtain ⟨A, c, rfl, hc1, hc2, -⟩ := hS.at_
  unfold maxLen at hc2
  have g0 := hx.cell (j := 0) (v := .slice A es.length c) rfl
  have HS := Lib.hid hS
  clear hS hv hx h
  go_enter Tryz.func61, Tryz.ntmps61
  go_wp2
  go_loopw [5] (fun i wr => ∃ j : Nat, j ≤ es.length ∧ i = .int .i64 j ∧ wr = w ∧ ∀ i (h : i < es.length), i < j → es[i].1.mv ≠ k) (fun i _ => es.length - (intOf i).toNat)
  case atStart => exact ⟨0, by omega, rfl, rfl, fun i h hi => by omega⟩
  case round =>
    obtain ⟨j, hj, rfl, rfl, hne⟩ := hrel
    have HNE := Lib.hid hne
    clear hne
    by_cases hlt : j < es.length
    · have hd : decide ((j : Int) < (es.length : Int)) = true := by simp; omega
      obtain ⟨b, o, rfl, -, -, c0, -⟩ := docAt_cell HS.out hlt
      have hcs : (es[j].1.mv == k) = true ∨ (es[j].1.mv == k) = false := by cases (es[j].1.mv == k) <;> simp
      generalize hm : es[j].1.mv = m at *
      have HM := Lib.hid hm
      clear hm
      rcases hcs with hq | hq
      · go_wp2
        go_ret
        have he : m = k := by simpa using hq
        refine ⟨ret1 (congrArg (Value.int .i64) ?_), rfl⟩
        exact (idxW_lt _ _ j (by simpa using hlt) (fun i h hi => by simpa using HNE.out i (by simpa using h) hi) (by simpa using HM.out.trans he)).symm
      · go_wp2
        have hq2 : m ≠ k := by simpa using hq
        refine ⟨⟨j + 1, by omega, by go_num, trivial, fun i h hi => ?_⟩, by simp [intOf]; omega⟩
        by_cases e : i = j
        · subst e; rw [HM.out]; exact hq2
        · exact HNE.out i h (by omega)
    · obtain rfl : j = es.length := by omega
      have hd : decide ((es.length : Int) < (es.length : Int)) = false := by simp
      go_wp2
      go_ret
      refine ⟨ret1 (congrArg (Value.int .i64) ?_), rfl⟩
      exact (idxW_none _ _ (fun i h => by simpa using HNE.out i (by simpa using h) (by simpa using h))).symm
end Mv
end Go.Proofs.YtdbkkldgobkjcaaGreat

namespace Go.Proofs.YtdbkkldgobkjcaaGreat
open Go.RowKit Go.Maps
namespace Mv
open It Ce

theorem grown_items {w w' : World} {bm hi : Nat} {v : Value} {l : List It.Item} (h : ItemsAt w 0 hi v l) (hg : w.grownBy w' (some bm)) (hb : hi ≤ bm) (hh : hi ≤ w.heap.size) : ItemsAt w' 0 w'.heap.size v l :=
  (ItemsAt.wide (Sl.grown h hg hh (fun k e => .inr (by cases e; exact hb))) (Nat.zero_le _) (Nat.le_trans hh hg.size))

set_option maxRecDepth 100000 in
set_option maxHeartbeats 8000000 in
theorem refpack_calls (xb : Nat) (es : List (Way × Value)) (A : Option Addr) (c : Nat) (w : World) (hx : Ob w xb 58 #[.slice A es.length c]) (hS : Sl w 0 w.heap.size 5 (.slice A es.length c) es.length (docCells es))
    (hnest : ∀ p ∈ es, ItemsAt w 0 w.heap.size p.2 p.1.l) (hok : ∀ p ∈ es, OkW p.1) (hlen : es.length ≤ 256) :
    Calls Tryz.prog 34 #[.pointer (some ⟨xb, 0, none⟩)] w fun e w' => (∃ u, e = .returned u ∧ BytesAt w' 0 w'.heap.size u (packW (es.map (·.1)))) ∧ Below w.heap.size w w' := by
  have hxl := hx.lt
  have hal := (Below.refl w.heap.size w).alloc (Nat.le_refl _) (.cells #[.slice none 0 0, .bool false] 126)
  have hR0 := Rm.new w
  have hx1 := hx.alloc (.cells #[.slice none 0 0, .bool false] 126)
  have hs1 : (w.alloc (.cells #[.slice none 0 0, .bool false] 126)).heap.size = w.heap.size + 1 := by simp
  have HS1 := Lib.hid (Sl.below hS hal)
  have HN1 := Lib.hid (fun p (hp : p ∈ es) => (hnest p hp).below hal)
  obtain ⟨A', c', e, hc1, hc2, -⟩ := hS.at_
  cases e
  unfold maxLen at hc2
  have cN := refmnum_calls es.length w.heap.size ([], false) _ hR0 (by omega) (by omega)
  rw [mPut_short (by have := (numC_len es.length).2; simp; omega), List.nil_append] at cN
  have CN := Lib.hid cN
  have HE := Lib.hid (show packW (es.map (·.1)) = numC es.length ++ cellsW ((es.take es.length).map (·.1)) by unfold packW; rw [List.take_length, List.length_map])
  have q0 := hx1.cell (j := 0) (v := .slice A es.length c) rfl
  have hmc := fun k (hk : k ≤ es.length) => cellsW_len (ds := (es.take k).map (·.1)) fun d hd => by
    obtain ⟨p, hp, rfl⟩ := List.mem_map.1 hd
    exact (hok p (List.mem_of_mem_take hp)).l
  have HMC := Lib.hid hmc
  have HSn := Lib.hid (fun (k : Nat) (h : k < es.length) => show cellsW ((es.take (k + 1)).map (·.1)) = cellsW ((es.take k).map (·.1)) ++ encW es[k].1 by rw [List.take_succ_eq_append_getElem h, List.map_append, List.map_cons, List.map_nil, cellsW_snoc])
  generalize packW (es.map (·.1)) = C at *
  clear cN hR0 hnest hx hS hmc
  go_enter Tryz.func34, Tryz.ntmps34
  go_wp2_with fail
  refine CN.out.mono ?_
  rintro e W0 ⟨rfl, hM0, hg0⟩
  generalize w.alloc (.cells #[.slice none 0 0, .bool false] 126) = w1 at *
  clear q0
  go_wp2
  go_loopw [4] (fun i wr => ∃ k : Nat, k ≤ es.length ∧ i = .int .i64 k ∧ Rm wr w.heap.size (numC es.length ++ cellsW ((es.take k).map (·.1)), false) ∧ w1.grownBy wr (some w.heap.size)) (fun i _ => es.length - (intOf i).toNat)
  case atStart => exact ⟨0, by omega, rfl, by simpa [cellsW] using hM0, hg0⟩
  case round =>
    obtain ⟨k, hk, rfl, hM, hg⟩ := hrel
    clear hM0
    have hxr := hx1.kept hg (fun e => by have := Option.some.inj e; omega)
    have q1 := hxr.cell (j := 0) (v := .slice A es.length c) rfl
    by_cases hlt : k < es.length
    · have hd : decide ((k : Int) < (es.length : Int)) = true := by simp; omega
      have hSr := Sl.grown HS1.out hg (by omega) (fun j e => .inr (by cases e; exact Nat.le_refl _))
      obtain ⟨b, o, rfl, -, -, c0, c1, c2, c3, c4⟩ := docAt_cell hSr hlt
      have hokk := hok _ (List.getElem_mem hlt)
      have hIk := HN1.out _ (List.getElem_mem hlt)
      have HSk := Lib.hid (HSn.out k hlt)
      have hcl := HMC.out k hk
      rw [List.length_map, List.length_take] at hcl
      generalize es[k] = p at *
      obtain ⟨⟨dmv, dfr, dto, dl, dcame⟩, lv⟩ := p
      dsimp only at hokk hIk c0 c1 c2 c3 c4 HSk
      obtain ⟨Al, cl, rfl, -⟩ := hIk.form
      have hel := encW_len hokk.l
      have hnl := (numC_len es.length).2
      have HP := Lib.hid (show mPutW (numC es.length ++ cellsW ((es.take k).map (·.1)), false) ⟨dmv, dfr, dto, dl, dcame⟩ = (numC es.length ++ cellsW ((es.take (k + 1)).map (·.1)), false) by
        rw [mPutW_short (by rw [List.length_append]; omega), HSk.out, List.append_assoc])
      have hfit := M_fits ((may_iff dl).1 hokk.l)
      have hmayl := hokk.l
      have hmv := hokk.mv
      have hfr := hokk.fr
      have hto := hokk.to_
      dsimp only at hmayl hmv hfr hto hfit
      have hMa := hM.same ((Below.refl wr.heap.size wr).alloc (Nat.le_refl _) (.cells #[.int .i64 dmv, .int .i64 dfr, .int .i64 dto, .slice Al dl.length cl, .bool dcame] 108))
      have hga : w1.grownBy (wr.alloc (.cells #[.int .i64 dmv, .int .i64 dfr, .int .i64 dto, .slice Al dl.length cl, .bool dcame] 108)) (some w.heap.size) := hg.trans (World.grownBy_alloc _ _ _)
      have hb8 := Ob.new wr 108 #[.int .i64 dmv, .int .i64 dfr, .int .i64 dto, .slice Al dl.length cl, .bool dcame]
      have hwr : w.heap.size < wr.heap.size := by have := hg.size; omega
      generalize hst : ((numC es.length ++ cellsW ((es.take k).map (·.1)), false) : List UInt8 × Bool) = st at *
      have C1 := Lib.hid (refmnum_calls dmv w.heap.size st _ hMa (by omega) (by omega))
      have C2 := Lib.hid (fun V hV => refmnum_calls dfr w.heap.size (Ce.mPut st (numC dmv)) V hV (by omega) (by omega))
      have C3 := Lib.hid (fun V hV => refmnum_calls dto w.heap.size (Ce.mPut (Ce.mPut st (numC dmv)) (numC dfr)) V hV (by omega) (by omega))
      have C4 := Lib.hid (fun V hV (hk : w1.grownBy V (some w.heap.size)) => refputi_calls dl (.slice Al dl.length cl) w.heap.size (Ce.mPut (Ce.mPut (Ce.mPut st (numC dmv)) (numC dfr)) (numC dto)) V hV (fun W hW => grown_items hIk (hk.trans hW) (Nat.le_refl _) (by omega)) hfit (may_short hmayl))
      have C5 := Lib.hid (fun V hV => refmflag_calls dcame w.heap.size (mPutI (Ce.mPut (Ce.mPut (Ce.mPut st (numC dmv)) (numC dfr)) (numC dto)) dl) V hV)
      have HSW := Lib.hid (show mPutW st ⟨dmv, dfr, dto, dl, dcame⟩ = Ce.mPut (mPutI (Ce.mPut (Ce.mPut (Ce.mPut st (numC dmv)) (numC dfr)) (numC dto)) dl) (numC (flN dcame)) from rfl)
      generalize Ce.mPut (mPutI (Ce.mPut (Ce.mPut (Ce.mPut st (numC dmv)) (numC dfr)) (numC dto)) dl) (numC (flN dcame)) = t5 at *
      generalize mPutI (Ce.mPut (Ce.mPut (Ce.mPut st (numC dmv)) (numC dfr)) (numC dto)) dl = t4 at *
      generalize Ce.mPut (Ce.mPut (Ce.mPut st (numC dmv)) (numC dfr)) (numC dto) = t3 at *
      generalize Ce.mPut (Ce.mPut st (numC dmv)) (numC dfr) = t2 at *
      generalize Ce.mPut st (numC dmv) = t1 at *
      have HGA := Lib.hid hga
      have HB8 := Lib.hid (fun V (hv : (wr.alloc (.cells #[.int .i64 dmv, .int .i64 dfr, .int .i64 dto, .slice Al dl.length cl, .bool dcame] 108)).grownBy V (some w.heap.size)) => hb8.kept hv (fun e => by have := Option.some.inj e; omega))
      clear hst hM hMa hga hfit hmayl hmv hfr hto hokk hel hnl hcl hIk hSr hxr
      obtain ⟨y0, y1, y2, y3, y4⟩ := hb8.five
      go_wp2_with fail
      refine C1.out.mono ?_
      rintro e V1 ⟨rfl, hm1, hk1⟩
      clear y0 y1 y2 y3 y4 c0 c1 c2 c3 c4
      obtain ⟨y0, y1, y2, y3, y4⟩ := (HB8.out V1 hk1).five
      go_wp2_with fail
      refine (C2.out V1 hm1).mono ?_
      rintro e V2 ⟨rfl, hm2, hk2⟩
      replace hk2 := hk1.trans hk2
      clear y0 y1 y2 y3 y4
      obtain ⟨y0, y1, y2, y3, y4⟩ := (HB8.out V2 hk2).five
      go_wp2_with fail
      refine (C3.out V2 hm2).mono ?_
      rintro e V3 ⟨rfl, hm3, hk3⟩
      replace hk3 := hk2.trans hk3
      clear y0 y1 y2 y3 y4
      obtain ⟨y0, y1, y2, y3, y4⟩ := (HB8.out V3 hk3).five
      go_wp2_with fail
      refine (C4.out V3 hm3 (HGA.out.trans hk3)).mono ?_
      rintro e V4 ⟨rfl, hm4, hk4⟩
      replace hk4 := hk3.trans hk4
      clear y0 y1 y2 y3 y4
      obtain ⟨y0, y1, y2, y3, y4⟩ := (HB8.out V4 hk4).five
      go_wp2_with fail
      refine (C5.out V4 hm4).mono ?_
      rintro e V5 ⟨rfl, hm5, hk5⟩
      replace hk5 := hk4.trans hk5
      rw [← HSW.out, HP.out] at hm5
      clear y0 y1 y2 y3 y4
      go_wp2
      go_roundw
      case rel => exact ⟨k + 1, by omega, by go_num, hm5, HGA.out.trans hk5⟩
      case measure => simp [intOf]; omega
    · obtain rfl : k = es.length := by omega
      have hd : decide ((es.length : Int) < (es.length : Int)) = false := by simp
      rw [← HE.out] at hM
      obtain ⟨-, v, hO, hB⟩ := hM
      have z0 := hO.cell (j := 0) (v := v) rfl
      obtain ⟨Av, cv, rfl, -⟩ := hB.form
      go_wp2
      go_ret
      exact ⟨⟨_, rfl, hB.wide (Nat.zero_le _) (Nat.le_refl _)⟩, hal.grown hg (by omega) (fun k e => by cases e; exact Nat.le_refl _)⟩
end Mv
end Go.Proofs.YtdbkkldgobkjcaaGreat

namespace Go.Proofs.YtdbkkldgobkjcaaGreat
open Go.RowKit Go.Maps
namespace Mv
open It

def la1 : List It.Item := [(sa, 1)]
theorem fits1 : Fits la1 := by
  intro x hx
  simp only [la1, List.mem_cons, List.not_mem_nil, or_false] at hx
  subst hx
  exact ⟨by decide, by decide, by decide⟩
def wayN (f : Int) (i : Nat) : Way := ⟨f + i, 0, 1, la1, false⟩
def ways (f : Int) (k : Nat) : List Way := (List.range k).map (wayN f)
theorem ways_succ (f : Int) (k : Nat) : ways f (k + 1) = ways f k ++ [wayN f k] := by simp [ways, List.range_succ]
theorem ways_length (f : Int) (k : Nat) : (ways f k).length = k := by simp [ways]
theorem find_past (f : Int) (k : Nat) (x : Int) (h : f + k ≤ x) : findW (ways f k) x = none := by
  unfold findW
  rw [List.find?_eq_none]
  intro d hd
  simp only [ways, List.mem_map, List.mem_range] at hd
  obtain ⟨i, hi, rfl⟩ := hd
  show ¬ decide (f + (i : Int) = x) = true
  rw [decide_eq_true_iff]
  omega
theorem del_past {ds : List Way} {x : Int} (h : findW ds x = none) : delW ds x = ds := by
  unfold findW at h
  rw [List.find?_eq_none] at h
  unfold delW
  rw [List.filter_eq_self]
  intro d hd
  have := h d hd
  simpa using this
theorem ins_last {d : Way} : ∀ {ds : List Way}, (∀ c ∈ ds, c.mv < d.mv) → insW d ds = ds ++ [d]
  | [], _ => rfl
  | c :: r, h => by
    unfold insW
    rw [if_neg (by have := h c (by simp); omega), ins_last (fun x hx => h x (by simp [hx]))]
    rfl
theorem ways_lt (f : Int) (k : Nat) : ∀ c ∈ ways f k, c.mv < f + k := by
  intro d hd
  simp only [ways, List.mem_map, List.mem_range] at hd
  obtain ⟨i, hi, rfl⟩ := hd
  simp [wayN]
  omega
theorem may1 : may la1 = true := by kernel_rfl
theorem go_full (f : Int) (k : Nat) (h1 : 1 ≤ f) (h2 : f ≤ 549755813888) (hk : k < 256) : goOf (ways f k) (f + k) 0 1 la1 = (ways f (k + 1), 0) := by
  unfold goOf
  rw [if_neg (by simp only [isR]; simp; omega), if_neg (by rw [may1]; simp [la1]), find_past f k _ (Int.le_refl _), if_neg (by simp), if_neg (by rw [ways_length]; omega)]
  unfold putW
  rw [del_past (find_past f k _ (Int.le_refl _)), ins_last (ways_lt f k), ways_succ]
  rfl
theorem go_over (f : Int) (h1 : 1 ≤ f) (h2 : f ≤ 549755813888) : goOf (ways f 256) (f + 256) 0 1 la1 = (ways f 256, 2) := by
  unfold goOf
  rw [if_neg (by simp only [isR]; simp; omega), if_neg (by rw [may1]; simp [la1]), find_past f 256 _ (by omega), if_neg (by simp), if_pos (by rw [ways_length]; omega)]
def tailN (f : Int) : List Way := (List.range 255).map fun i => wayN f (i + 1)
theorem ways_cons (f : Int) : ways f 256 = wayN f 0 :: tailN f := by
  unfold ways tailN
  rw [List.range_succ_eq_map, List.map_cons, List.map_map]
  rfl
theorem wayN0 (f : Int) : (wayN f 0).mv = f := by simp [wayN]
theorem find_first (f : Int) (d : Way) (r : List Way) (h : d.mv = f) : findW (d :: r) f = some d := by rw [findW_cons, if_pos h]
theorem forget_full (f : Int) : forgetOf (ways f 256) f = (ways f 256, 80) := by
  unfold forgetOf
  rw [ways_cons, find_first f _ _ (wayN0 f)]
  rfl
def firstC (f : Int) : Way := { wayN f 0 with came := true }
theorem tail_lt (f : Int) : ∀ c ∈ tailN f, f < c.mv ∧ c.mv < f + 256 := by
  intro d hd
  simp only [tailN, List.mem_map, List.mem_range] at hd
  obtain ⟨i, hi, rfl⟩ := hd
  simp only [wayN]
  omega
theorem tail_none (f x : Int) (h : x ≤ f ∨ f + 256 ≤ x) : findW (tailN f) x = none := by
  unfold findW
  rw [List.find?_eq_none]
  intro d hd
  have := tail_lt f d hd
  simp
  omega
theorem ins_first {d : Way} {ds : List Way} (h : ∀ c ∈ ds, d.mv < c.mv) : insW d ds = d :: ds := by
  cases ds with
  | nil => rfl
  | cons c r => unfold insW; rw [if_pos (h c (by simp))]
theorem come_full (f : Int) : comeOf (ways f 256) f = (firstC f :: tailN f, la1, 0) := by
  unfold comeOf
  rw [ways_cons, find_first f _ _ (wayN0 f)]
  have h1 : delW (wayN f 0 :: tailN f) f = tailN f := by
    unfold delW
    rw [List.filter_cons, if_neg (by simp [wayN])]
    exact del_past (tail_none f f (by omega))
  show (if (wayN f 0).came then _ else _) = _
  rw [if_neg (by simp [wayN])]
  unfold putW
  show (insW (firstC f) (delW (wayN f 0 :: tailN f) (firstC f).mv), _, _) = _
  rw [show (firstC f).mv = f from wayN0 f, h1, ins_first (fun c hc => by rw [show (firstC f).mv = f from wayN0 f]; exact (tail_lt f c hc).1)]
  rfl
theorem forget_first (f : Int) : forgetOf (firstC f :: tailN f) f = (tailN f, 0) := by
  unfold forgetOf
  rw [find_first f (firstC f) _ (wayN0 f)]
  show (if true then _ else _) = _
  rw [if_pos rfl]
  unfold delW
  rw [List.filter_cons, if_neg (by simp [firstC, wayN])]
  rw [show (tailN f).filter (fun d => !decide (d.mv = f)) = delW (tailN f) f from rfl, del_past (tail_none f f (by omega))]
theorem go_again (f : Int) (h1 : 1 ≤ f) (h2 : f ≤ 549755813888) : (goOf (tailN f) (f + 256) 0 1 la1).2 = 0 := by
  unfold goOf
  rw [if_neg (by simp only [isR]; simp; omega), if_neg (by rw [may1]; simp [la1]), tail_none f _ (by omega), if_neg (by simp), if_neg (by simp [tailN])]
theorem M_k (k : Nat) (h1 : 1 ≤ k) (h2 : k ≤ 256) : M [(sa, (k : Int))] := by
  have h0 := (may_iff la1).1 may1
  refine ⟨by simp, fun x hx => ?_, by simp⟩
  simp only [List.mem_cons, List.not_mem_nil, or_false] at hx
  subst hx
  have := h0.ok (sa, 1) (by simp [la1])
  exact ⟨this.1, by omega, by omega⟩
theorem M_nil : M [] := ⟨by simp, fun x hx => by simp at hx, by simp⟩
theorem plus_k (k : Nat) (h2 : k < 256) : plusOf (if k = 0 then [] else [(sa, (k : Int))]) la1 = ([(sa, ((k + 1 : Nat) : Int))], 0) := by
  refine plus_ok ?_ ((may_iff la1).1 may1) (M_k (k + 1) (by omega) (by omega)) fun g => ?_
  · split
    · exact M_nil
    · exact M_k k (by omega) (by omega)
  · split
    · rename_i h
      subst h
      simp only [la1, tot]
      rw [show key (sa, ((0 + 1 : Nat) : Int)) = key (sa, 1) from rfl]
      split <;> simp
    · simp only [la1, tot]
      rw [show key (sa, ((k : Nat) : Int)) = key (sa, 1) from rfl, show key (sa, ((k + 1 : Nat) : Int)) = key (sa, 1) from rfl]
      split <;> omega
theorem under_k (f : Int) : ∀ k, k ≤ 256 → underGo 0 1 (ways f k) = (if k = 0 then [] else [(sa, (k : Int))], true)
  | 0, _ => rfl
  | k + 1, h => by
    rw [ways_succ, underGo_snoc, under_k f k (by omega)]
    unfold underStep
    rw [if_pos rfl, if_neg (by simp [skipW, wayN])]
    show (if (plusOf (if k = 0 then [] else [(sa, (k : Int))]) la1).2 = 0 then _ else _) = _
    rw [show (plusOf (if k = 0 then [] else [(sa, (k : Int))]) (wayN f k).l) = plusOf (if k = 0 then [] else [(sa, (k : Int))]) la1 from rfl, plus_k k (by omega)]
    simp
theorem under_full (f : Int) : underOf 0 1 (ways f 256) = [(sa, 256)] := by
  unfold underOf
  rw [under_k f 256 (by omega)]
  rfl

end Mv
end Go.Proofs.YtdbkkldgobkjcaaGreat

namespace Go.Proofs.YtdbkkldgobkjcaaGreat
open Go.RowKit Go.Maps
namespace Mv
open It Ce

/-- what comes of some bytes: the moves in new memory, or nil and why -/
def UnpAt (R : Option (List Way)) (w w' : World) (e : Ending) : Prop := match R with
  | some ds => ∃ b mb, e = .returned (.tuple #[.pointer (some ⟨b, 0, none⟩), .int .i64 0]) ∧ ∀ X : Nat → Prop, (∀ i, X i → i < w.heap.size) → MvAt w' b mb X ds
  | none => e = .returned (.tuple #[.pointer none, .int .i64 10])
theorem putW_last {ds : List Way} {d : Way} (h : ∀ c ∈ ds, c.mv < d.mv) : putW ds d = ds ++ [d] := by
  unfold putW
  have h1 : delW ds d.mv = ds := by
    unfold delW
    rw [List.filter_eq_self]
    intro x hx
    have := h x hx
    simp
    omega
  rw [h1, ins_last h]
theorem MvAt.less {w : World} {b mb : Nat} {X X' : Nat → Prop} {ds : List Way} (h : MvAt w b mb X ds) (hX : ∀ i, X' i → X i) : MvAt w b mb X' ds :=
  h.more (Below.refl _ _) fun i hi => ⟨.inl (hX i hi), h.xl i (hX i hi)⟩
theorem unp_put {W W3 : World} {b mb lo : Nat} {X : Nat → Prop} {ds : List Way} {m : List (Int × Value)} {d : Way} {v : Value} (H : MvAt W b mb X ds) (hR : Rel W (fun i => i ≠ b ∧ i ≠ mb ∧ ¬ X i) m ds)
    (hv : ItemsAt W lo W.heap.size v d.l) (hlo : ∀ i, lo ≤ i → i ≠ b ∧ i ≠ mb ∧ ¬ X i) (hok : OkW d) (hlt : ∀ c ∈ ds, c.mv < d.mv) (hlen : ds.length < 256)
    (hM3 : GMap intK W3 Tryz.prog 3 mb (mPut intK m d.mv (wayV d v))) (hg3 : W.grownBy W3 (some mb)) : MvAt W3 b mb X (ds ++ [d]) := by
  have hnw : ∀ g, some mb = some g → ¬ (g ≠ b ∧ g ≠ mb ∧ ¬ X g) := fun g e k => k.2.1 (Option.some.inj e).symm
  have hwa : WayAt W (fun i => i ≠ b ∧ i ≠ mb ∧ ¬ X i) (wayV d v) d := ⟨v, lo, W.heap.size, rfl, hv, Nat.le_refl _, fun i hi1 _ => hlo i hi1⟩
  have hRw := Rel.put (hwa.kept hg3 (F' := fun i => i ≠ b ∧ i ≠ mb ∧ ¬ X i) (fun g e => .inl (hnw g e)) (fun _ _ h => h)) (hR.kept hg3 (F' := fun i => i ≠ b ∧ i ≠ mb ∧ ¬ X i) (fun g e => .inl (hnw g e)) (fun _ _ h => h))
  rw [putW_last hlt] at hRw
  refine ⟨H.ob.kept hg3 (fun e => H.ne (Option.some.inj e)), ⟨_, hM3, hRw⟩, H.ne, H.nx, fun i hi => Nat.lt_of_lt_of_le (H.xl i hi) hg3.size, fun x hx => ?_, ?_⟩
  · rcases List.mem_append.1 hx with hx | hx
    · exact H.ok x hx
    · rw [List.mem_singleton.1 hx]; exact hok
  · rw [List.length_append]; simp; omega

set_option maxRecDepth 100000 in
set_option maxHeartbeats 8000000 in
theorem unpack_calls (bl : List UInt8) (v : Value) (w : World) (hI : BytesAt w 0 w.heap.size v bl) (hbl : bl.length ≤ 140737488351232) :
    Calls Tryz.prog 33 #[v] w fun e w' => UnpAt (unpackW bl) w w' e ∧ Below w.heap.size w w' := by
  have cTk := Lib.hid (take_calls bl v w hI hbl)
  obtain ⟨A, c, rfl, -⟩ := hI.form
  have cN := Lib.hid (fun bt B W h => tnum_calls 0 256 bt B (some bl) W h)
  have hr := tNum_range (least := 0) (most := 256) (s := some bl) (by omega) (by omega)
  have HR := Lib.hid (show unpackW bl = parseW (tNum 0 256 (some bl)).1.toNat 0 [] (tNum 0 256 (some bl)).2 from rfl)
  clear hI hbl
  generalize unpackW bl = R at *
  generalize hnn : tNum 0 256 (some bl) = nn at *
  clear hnn
  obtain ⟨ni, st0⟩ := nn
  dsimp only at hr cN HR
  obtain ⟨n, rfl⟩ := Int.eq_ofNat_of_zero_le hr.1
  have hn256 : n ≤ 256 := by omega
  rw [Int.toNat_natCast] at HR
  clear hr
  go_enter Tryz.func33, Tryz.ntmps33
  go_wp2_with fail
  refine cTk.out.mono ?_
  rintro e Wt ⟨⟨bt, rfl, hbt0, hbt, hTt⟩, hBt⟩
  go_wp2_with fail
  refine (new_calls Wt).mono ?_
  rintro e Wn ⟨⟨b, mb, rfl, hb0, hmb0, hMn⟩, hBn⟩
  have cN0 := Lib.hid (cN.out bt bt Wn (hTt.same hBn))
  obtain ⟨X, hX⟩ : ∃ X : Nat → Prop, X = fun i => i < w.heap.size ∨ i = bt := ⟨_, rfl⟩
  have hMv0 := hMn X (fun i hi => by rw [hX] at hi; have := hBt.size; omega)
  have hXb : X bt := by rw [hX]; exact .inr rfl
  have hXl : ∀ i, X i → i < Wt.heap.size := fun i hi => by rw [hX] at hi; have := hBt.size; omega
  have HXw := Lib.hid (fun i (hi : i < w.heap.size) => show X i by rw [hX]; exact .inl hi)
  have hsn := hBn.size
  have hst := hBt.size
  have hB0 := hBt.trans (hBn.mono hst)
  have hblt := hMv0.ob.lt
  have hmlt : mb < Wn.heap.size := by obtain ⟨m, hm, -⟩ := hMv0.map; exact hm.lt
  have hne := hMv0.ne
  have HXL := Lib.hid hXl
  clear hTt hMn hX hXl
  go_wp2_with fail
  refine cN0.out.mono ?_
  rintro e W0 ⟨rfl, hT0, hg0, -⟩
  have hMv1 := hMv0.kept hg0 (fun g e => .inl (by cases e; exact hXb))
  have hB1 := hB0.grown hg0 hB0.size (fun g e => by cases e; exact hbt0)
  have hs0 := hg0.size
  clear hMv0 hg0 hBn hBt hB0
  go_wp2
  go_loopw [6, 7, 13] (fun la _ i wr => ∃ (k : Nat) (l : Int) (acc : List Way) (st : Tst), k ≤ n ∧ i = .int .i64 k ∧ la = .int .i64 l ∧ 0 ≤ l ∧ l ≤ 1099511627776 ∧ acc.length = k ∧ (∀ d ∈ acc, d.mv ≤ l) ∧ parseW (n - k) l acc st = R ∧ MvAt wr b mb X acc ∧ Tk 160 wr bt bt st ∧ Below w.heap.size w wr ∧ Wn.heap.size ≤ wr.heap.size) (fun _ _ i _ => n - (intOf i).toNat)
  case atStart => exact ⟨0, 0, [], st0, by omega, rfl, rfl, by omega, by omega, rfl, (fun d hd => by cases hd), HR.out.symm, hMv1, hT0, hB1, hs0⟩
  case round =>
    obtain ⟨k, l, acc, st, hk, rfl, rfl, hl0, hl1, hacc, hmx2, hP, hMv, hT, hB, hsz⟩ := hrel
    clear hMv1 hT0 hB1
    by_cases hlt : k < n
    · have hd : decide ((k : Int) < (n : Int)) = true := by simp; omega
      obtain ⟨j, hj⟩ : ∃ j, n - k = j + 1 := ⟨n - k - 1, by omega⟩
      rw [hj] at hP
      have HJ := Lib.hid (show n - (k + 1) = j by omega)
      have HP := Lib.hid (show R = if badW l (rdWay st).1 then none else parseW j (rdWay st).1.mv (acc ++ [(rdWay st).1]) (rdWay st).2 from hP.symm)
      have HOK := Lib.hid (fun h => rdWay_ok (st := st) (last := l) hl0 h)
      have C1 := Lib.hid (tnum_calls 1 1099511627776 bt bt st wr hT)
      have C2 := Lib.hid (fun V h => tnum_calls 0 7 bt bt (tNum 1 1099511627776 st).2 V h)
      have C3 := Lib.hid (fun V h => tnum_calls 0 7 bt bt (tNum 0 7 (tNum 1 1099511627776 st).2).2 V h)
      have C4 := Lib.hid (fun V h => itake_calls bt bt (tNum 0 7 (tNum 0 7 (tNum 1 1099511627776 st).2).2).2 V h)
      have C5 := Lib.hid (fun V h => tflag_calls bt bt (readI (tNum 0 7 (tNum 0 7 (tNum 1 1099511627776 st).2).2).2).2 V h)
      have HD := Lib.hid (show rdWay st = (⟨(tNum 1 1099511627776 st).1, (tNum 0 7 (tNum 1 1099511627776 st).2).1, (tNum 0 7 (tNum 0 7 (tNum 1 1099511627776 st).2).2).1, (readI (tNum 0 7 (tNum 0 7 (tNum 1 1099511627776 st).2).2).2).1, (tFlag (readI (tNum 0 7 (tNum 0 7 (tNum 1 1099511627776 st).2).2).2).2).1⟩,
        (tFlag (readI (tNum 0 7 (tNum 0 7 (tNum 1 1099511627776 st).2).2).2).2).2) from rfl)
      generalize rdWay st = D at *
      generalize tFlag (readI (tNum 0 7 (tNum 0 7 (tNum 1 1099511627776 st).2).2).2).2 = N5 at *
      generalize readI (tNum 0 7 (tNum 0 7 (tNum 1 1099511627776 st).2).2).2 = N4 at *
      generalize tNum 0 7 (tNum 0 7 (tNum 1 1099511627776 st).2).2 = N3 at *
      generalize tNum 0 7 (tNum 1 1099511627776 st).2 = N2 at *
      generalize tNum 1 1099511627776 st = N1 at *
      obtain ⟨n1, st1⟩ := N1
      obtain ⟨n2, st2⟩ := N2
      obtain ⟨n3, st3⟩ := N3
      obtain ⟨n4, st4⟩ := N4
      obtain ⟨n5, st5⟩ := N5
      dsimp only at C1 C2 C3 C4 C5 HD
      rw [HD.out] at HP HOK
      dsimp only at HP HOK
      have HMv := Lib.hid hMv
      have HB := Lib.hid hB
      have HMX := Lib.hid hmx2
      clear hP hT hMv hB HD hmx2 HR
      go_wp2_with fail
      refine C1.out.mono ?_
      rintro e V1 ⟨rfl, hT1, hg1, -⟩
      go_wp2_with fail
      refine (C2.out V1 hT1).mono ?_
      rintro e V2 ⟨rfl, hT2, hg2, -⟩
      go_wp2_with fail
      refine (C3.out V2 hT2).mono ?_
      rintro e V3 ⟨rfl, hT3, hg3, -⟩
      have hg13 := (hg1.trans hg2).trans hg3
      have hMv3 := HMv.out.kept hg13 (fun g e => .inl (by cases e; exact hXb))
      have hB3 := HB.out.grown hg13 HB.out.size (fun g e => by cases e; exact hbt0)
      have hs3 := hg13.size
      have hal := (Below.refl V3.heap.size V3).alloc (Nat.le_refl _) (.cells #[.int .i64 n1, .int .i64 n2, .int .i64 n3, .slice none 0 0, .bool false] 108)
      have hO3 := Ob.new V3 108 #[.int .i64 n1, .int .i64 n2, .int .i64 n3, .slice none 0 0, .bool false]
      have hT3a := hT3.same hal
      have hMv3a := hMv3.more (X' := fun i => X i ∨ i = V3.heap.size) hal (fun i hi => ⟨hi.elim .inl (fun e => .inr (by omega)), by rw [World.size_alloc]; rcases hi with h | h; have := HXL.out i h; omega; omega⟩)
      have hB3a := hB3.trans (hal.mono hB3.size)
      have hsa : (V3.alloc (.cells #[.int .i64 n1, .int .i64 n2, .int .i64 n3, .slice none 0 0, .bool false] 108)).heap.size = V3.heap.size + 1 := by simp
      clear hT1 hT2 hT3 hg1 hg2 hg3 hg13 hMv3 hB3 hal
      go_wp2_with fail
      refine (C4.out _ hT3a).mono ?_
      generalize V3.alloc (.cells #[.int .i64 n1, .int .i64 n2, .int .i64 n3, .slice none 0 0, .bool false] 108) = V3a at *
      rintro e V4 ⟨⟨sv, rfl, hsv⟩, hT4, hg4⟩
      obtain ⟨As, cs, rfl, -⟩ := (ItemsAt.of_own hsv).form
      have hO4 := hO3.kept hg4 (fun e => by have := Option.some.inj e; omega)
      have f4 := hO4.frozen 3
      obtain ⟨y0, y1, y2, y3, y4⟩ := hO4.five
      have hg4s := grownBy_set V4 V3.heap.size 3 (.slice As n4.length cs)
      have hO4s := hO4.set 3 (.slice As n4.length cs)
      have hT4s := hT4.kept hg4s (fun e => by have := Option.some.inj e; omega) (fun g e => by cases e; omega)
      have hMv4s := (hMv3a.kept hg4 (fun g e => .inl (by cases e; exact .inl hXb))).kept hg4s (fun g e => .inl (by cases e; exact .inr rfl))
      have hB4s := (hB3a.grown hg4 hB3a.size (fun g e => by cases e; exact hbt0)).grown hg4s (by have := hg4.size; omega) (fun g e => by cases e; omega)
      have hsv4 := ownsRow_set (j := 3) (u := .slice As n4.length cs) hsv (b := V3.heap.size) (by omega)
      have hs4 : V3a.heap.size ≤ (V4.setCell ⟨V3.heap.size, 3, none⟩ (.slice As n4.length cs)).heap.size := by have := hg4s.size; have := hg4.size; omega
      clear hO3 hT3a hMv3a hB3a hsv hT4 hg4 hO4 hg4s
      go_wp2_with fail
      refine (C5.out _ hT4s).mono ?_
      generalize V4.setCell ⟨V3.heap.size, 3, none⟩ (.slice As n4.length cs) = V5 at *
      rintro e V6 ⟨rfl, hT6, hg6⟩
      have hO6 : Ob V6 V3.heap.size 108 #[.int .i64 n1, .int .i64 n2, .int .i64 n3, .slice As n4.length cs, .bool false] := hO4s.kept hg6 (fun e => by have := Option.some.inj e; omega)
      clear y0 y1 y2 y3 y4 f4
      have f6 := hO6.frozen 4
      obtain ⟨y0, y1, y2, y3, y4⟩ := hO6.five
      have hg6s := grownBy_set V6 V3.heap.size 4 (.bool n5)
      have hO6s : Ob (V6.setCell ⟨V3.heap.size, 4, none⟩ (.bool n5)) V3.heap.size 108 #[.int .i64 n1, .int .i64 n2, .int .i64 n3, .slice As n4.length cs, .bool n5] := hO6.set 4 (.bool n5)
      have hT6s := hT6.kept hg6s (fun e => by have := Option.some.inj e; omega) (fun g e => by cases e; omega)
      have hMv6s := (hMv4s.kept hg6 (fun g e => .inl (by cases e; exact .inl hXb))).kept hg6s (fun g e => .inl (by cases e; exact .inr rfl))
      have hB6s := (hB4s.grown hg6 hB4s.size (fun g e => by cases e; exact hbt0)).grown hg6s (by have := hg6.size; omega) (fun g e => by cases e; omega)
      have hsv6 := ownsRow_set (j := 4) (u := .bool n5) (ownsRow_far hsv4 hg6 (by omega)) (b := V3.heap.size) (by omega)
      have hs6 : V3a.heap.size ≤ (V6.setCell ⟨V3.heap.size, 4, none⟩ (.bool n5)).heap.size := by have := hg6s.size; have := hg6.size; omega
      clear hO4s hT4s hMv4s hB4s hsv4 hT6 hg6 hO6 hg6s
      obtain ⟨z0, z1, z2, z3, z4⟩ := hO6s.five
      by_cases e1 : n1 ≤ l
      · obtain rfl : R = none := by rw [HP.out, if_pos (by unfold badW; simp [e1])]
        have hd1 : decide (n1 ≤ l) = true := by simpa using e1
        clear hMv6s hT6s hsv6 e1
        go_wp2
        go_ret2
        exact ⟨rfl, hB6s⟩
      · have hd1 : decide (n1 ≤ l) = false := by simpa using e1
        by_cases e2 : n2 = n3
        · obtain rfl : R = none := by rw [HP.out, if_pos (by unfold badW; simp [e2])]
          have hd2 : (n2 == n3) = true := by simpa using e2
          clear hMv6s hT6s hsv6 e1 e2
          go_wp2
          go_ret2
          exact ⟨rfl, hB6s⟩
        · have hd2 : (n2 == n3) = false := by simpa using e2
          by_cases e3 : n4.length = 0
          · obtain rfl : R = none := by rw [HP.out, if_pos (by unfold badW; simp [e3])]
            have hd3 : ((n4.length : Int) == 0) = true := by simp; exact List.eq_nil_of_length_eq_zero e3
            clear hMv6s hT6s hsv6 e1 e2 e3
            go_wp2
            go_ret2
            exact ⟨rfl, hB6s⟩
          · have hd3 : ((n4.length : Int) == 0) = false := by simp; intro h; exact e3 (by rw [h]; rfl)
            have hbad : badW l ⟨n1, n2, n3, n4, n5⟩ = false := by
              unfold badW
              simp only [Bool.or_eq_false_iff, decide_eq_false_iff_not]
              exact ⟨⟨e1, e2⟩, e3⟩
            have hok := HOK.out hbad
            have hPP : parseW j n1 (acc ++ [⟨n1, n2, n3, n4, n5⟩]) st5 = R := by rw [HP.out, hbad]; rfl
            have hkey := Lib.hid (keyI (k := n1) (by have := hok.mv; dsimp only at this; omega) (by have := hok.mv; dsimp only at this; omega))
            have hbnd := hok.mv
            dsimp only at hbnd
            have HPP := Lib.hid hPP
            have HOKd := Lib.hid hok
            have gb : (V6.setCell ⟨V3.heap.size, 4, none⟩ (.bool n5)).cell? ⟨b, 0, none⟩ = some (.map (some mb)) := hMv6s.ob.cell (j := 0) rfl
            have HLT := Lib.hid (fun c (hc : c ∈ acc) => show c.mv < n1 by have := HMX.out c hc; omega)
            clear hPP hok hbad e1 e2 e3 HOK HP C1 C2 C3 C4 C5
            go_wp2
            clear z0 z1 z2 z3 z4 y0 y1 y2 y3 y4 f6
            generalize V6.setCell ⟨V3.heap.size, 4, none⟩ (.bool n5) = V7 at *
            obtain ⟨m, hm, hRel⟩ := hMv6s.map
            have HM := Lib.hid hm
            have HRel := Lib.hid hRel
            have HMv7 := Lib.hid hMv6s
            have hml : m.length ≤ 256 := by rw [hRel.length]; omega
            clear hm hRel hMv6s
            refine Pu.regionM [(0, false), (1, false), (2, false), (3, false), (4, false), (5, false), (6, false), (7, true)] (fun V => V.cell? ⟨b, 0, none⟩ = some (.map (some mb)) ∧ Ob V V3.heap.size 108 #[.int .i64 n1, .int .i64 n2, .int .i64 n3, .slice As n4.length cs, .bool n5]) hmx (by kernel_rfl) (by kernel_rfl) (by kernel_rfl) ⟨gb, hO6s⟩ rfl ?_
            simp only [Pu.named, List.filterMap_cons, List.filterMap_nil, List.getElem?_toArray, List.getElem?_cons_succ, List.getElem?_cons_zero, Option.map_some]
            iterate 7 (apply Pu.WalkM.on (by rfl)
                       · rintro W ⟨gW, hOW⟩
                         obtain ⟨y0, y1, y2, y3, y4⟩ := hOW.five
                         go_wp2_with fail
                         refine ⟨rfl, ?_, rfl⟩
                         try simp only [Act.put, List.setIfInBounds_toArray, List.set_cons_succ, List.set_cons_zero]
                         rfl
                       simp only [Act.put, List.setIfInBounds_toArray, List.set_cons_succ, List.set_cons_zero])
            refine Pu.WalkM.make (by rfl) ?_
            rintro W rfl
            have hm7 : GMap intK V7.drew Tryz.prog 3 mb m := HM.out
            refine wpList_put_g rfl (.tmp 48) (.tmp 50) (.tmp 51) _ rfl 3 _ keyedI Tryz.underlying100 rfl hm7 (by unfold maxLen; omega) _ (.agg #[.int .i64 n1, .int .i64 n2, .int .i64 n3, .slice As n4.length cs, .bool n5]) _ rfl rfl hkey.out ?_
            intro W3 hM3 hg3
            have gb3 : W3.cell? ⟨b, 0, none⟩ = some (.map (some mb)) := hg3.cell gb (fun e => hne (Option.some.inj e))
            have hO73 := hO6s.kept (w := V7) ⟨hg3.os, hg3.tape, hg3.output, hg3.size, hg3.block⟩ (fun e => by have := Option.some.inj e; omega)
            refine ⟨rfl, undef, _, (fun W => W = W3), rfl, rfl, (fun W h => by rw [h]; exact ⟨gb3, hO73⟩), (.inr (fun _ h => h)), Pu.WalkM.nil ?_⟩
            rintro W' rfl
            simp only [Act.put]
            have hg7 : V7.grownBy W' (some mb) := ⟨hg3.os, hg3.tape, hg3.output, hg3.size, hg3.block⟩
            have hMvN := unp_put (d := ⟨n1, n2, n3, n4, n5⟩) HMv7.out HRel.out (ItemsAt.of_own hsv6) (fun i hi => ⟨by omega, by omega, fun hx => by rcases hx with hx | hx; have := HXL.out i hx; omega; omega⟩) HOKd.out HLT.out (by omega) hM3 hg7
            have hTN := hT6s.kept hg7 (fun e => by have := Option.some.inj e; omega) (fun g e => by cases e; omega)
            have hBN := hB6s.grown hg7 hB6s.size (fun g e => by cases e; omega)
            have hsN := hg7.size
            clear hM3 hg3 gb gb3
            obtain ⟨y0, y1, y2, y3, y4⟩ := hO73.five
            go_wp2
            go_roundw
            case rel =>
              refine ⟨k + 1, n1, acc ++ [⟨n1, n2, n3, n4, n5⟩], st5, by omega, by go_num, rfl, by omega, by omega, by simp [hacc], fun d hd => ?_, by rw [HJ.out]; exact HPP.out, hMvN.less (fun i hi => .inl hi), hTN, hBN, by omega⟩
              rcases List.mem_append.1 hd with hd | hd
              · have := HLT.out d hd; omega
              · rw [List.mem_singleton.1 hd]; exact Int.le_refl _
            case measure => simp [intOf]; omega
    · obtain rfl : k = n := by omega
      have hd : decide ((k : Int) < (k : Int)) = false := by simp
      rw [Nat.sub_self] at hP
      have cD := Lib.hid (tdone_calls bt bt st wr hT)
      have HMv := Lib.hid (fun X' (hX' : ∀ i, X' i → i < w.heap.size) => hMv.less (X' := X') (fun i hi => HXw.out i (hX' i hi)))
      clear hT hMv
      rcases st with _ | (_ | ⟨x0, x1⟩)
      · obtain rfl : R = none := by rw [← hP]; rfl
        have hdn : doneOf none = 10 := rfl
        rw [hdn] at cD
        clear hdn hP
        go_wp2_with fail
        refine cD.out.mono ?_
        rintro e W1 ⟨rfl, rfl⟩
        go_wp2
        go_ret2
        exact ⟨rfl, hB⟩
      · obtain rfl : R = some acc := by rw [← hP]; rfl
        have hdn : doneOf (some []) = 0 := rfl
        rw [hdn] at cD
        clear hdn hP
        go_wp2_with fail
        refine cD.out.mono ?_
        rintro e W1 ⟨rfl, rfl⟩
        go_wp2
        go_ret2
        exact ⟨⟨_, _, rfl, HMv.out⟩, hB⟩
      · obtain rfl : R = none := by rw [← hP]; simp [parseW]
        have hdn : doneOf (some (x0 :: x1)) = 10 := rfl
        rw [hdn] at cD
        clear hdn hP
        go_wp2_with fail
        refine cD.out.mono ?_
        rintro e W1 ⟨rfl, rfl⟩
        go_wp2
        go_ret2
        exact ⟨rfl, hB⟩
end Mv
end Go.Proofs.YtdbkkldgobkjcaaGreat

namespace Go.Proofs.YtdbkkldgobkjcaaGreat
open Go.ChangeShapes Go.WideShapes Go.ChangeAt Go.RowKit

theorem own : ownKnob Tryz.prog.godebug = none := by kernel_rfl
theorem laidOut : laidOutB Tryz.prog = true := by kernel_rfl

section
variable {H : Type} {enc : TypeId × Value → H} {P : Program}
/-- all arguments read as they did -/
theorem trodAll_stays (hl : laidOutB P = true) {W W' : World} (hb : Below W.heap.size W W') {sp : Nat → Bool} :
    ∀ {ts : List TypeId} {vs : List Value} {ds : List (DataW H)} {ps : List MemPlace}, ts.all (fun t => P.readableRec t && decide (t < P.types.size)) = true →
      DataW.TrodAll enc P W 0 (fun _ => true) true ts vs ds ps → (∀ p ∈ ps, p.block < W.heap.size) → (∀ p ∈ ps, sp p.block = true) → DataW.TrodAll enc P W' 0 sp true ts vs ds ps
  | [], vs, ds, ps, _, h, _, _ => by
    obtain ⟨rfl, rfl, rfl⟩ := trodAll_nil h
    exact trodAll_mk0
  | t :: ts, vs, ds, ps, hr, h, hlt, hs => by
    obtain ⟨v, vs', d, ds', p, q, rfl, rfl, rfl, h1, h2⟩ := trodAll_cons h
    simp only [List.all_cons, Bool.and_eq_true, decide_eq_true_eq] at hr
    exact trodAll_cons_mk (WideElems.Trod_stays hl hr.1.1 hr.1.2 h1 (fun x hx => hb.same (hlt x (List.mem_append_left _ hx))) (fun x hx => hs x (List.mem_append_left _ hx)))
      (trodAll_stays hl hb (by simpa using hr.2) h2 (fun x hx => hlt x (List.mem_append_right _ hx)) (fun x hx => hs x (List.mem_append_right _ hx)))

theorem law_post {f : Func} {s : ChangeSpec} {W W' : World} {args : Array Value} {ds gs : List (DataW H)} {before : List MemPlace} {tb : TypeId} (hl : laidOutB P = true)
    (hpar : f.params.toList.all (fun t => P.readableRec t && decide (t < P.types.size)) = true) (hrt : f.resultTypes = #[tb]) (ht : P.underlying tb = some .bool) (hv : s.vars = [])
    (hW : DataW.Whole enc P f.params.toList s.vars false W args.toList ds gs before) (hfn : s.fn H (ds ++ gs) = { results := [.lit (.bool true)], args := ds }) (hb : Below W.heap.size W W') :
    s.post enc P f false true false false W args (.bool true) W' := by
  obtain ⟨p, q, hA, hV, hps, hz, hn⟩ := id hW
  have hlt : ∀ x ∈ before, x.block < W.heap.size := fun x hx => hW.lt x hx
  have hq : q = [] := by
    rw [hv] at hV
    cases gs with
    | nil => exact hV
    | cons g gs => exact hV.elim
  subst hq
  rw [List.append_nil] at hps
  subst hps
  have hargs : ∀ sp : Nat → Bool, (∀ x ∈ before, sp x.block = true) → DataW.TrodAll enc P W' 0 sp true f.params.toList args.toList (s.fn H (ds ++ gs)).args before := fun sp hs => by
    rw [hfn]
    exact trodAll_stays hl hb hpar hA hlt hs
  have hres : ∀ (b : Nat) (sp : Nat → Bool) (hd : Bool), DataW.TrodAll enc P W' b sp hd f.resultTypes.toList ((Value.bool true).resultList f.resultTypes.size) (s.fn H (ds ++ gs)).results [] := fun b sp hd => by
    rw [hfn, hrt]
    exact trodAll_mk1 (shut_bool ht true)
  have hvars : ∀ sp : Nat → Bool, DataW.TrodVars enc P W' sp s.vars (s.fn H (ds ++ gs)).vars [] := fun sp => by
    rw [hfn, hv]
    rfl
  refine ⟨ds, gs, before, [], before, [], hW, hres _ _ _, hargs _ (fun x hx => by simpa using hlt x hx), hvars _, World.keptBut_mono (fun x hx => ⟨hx, .inr (.inl hx)⟩) (hb.frame (· ∈ before)), fun _ => ?_⟩
  refine ⟨ok_one hrt rfl (okWide_bool_mk ht _), _, _, ([] ++ before) ++ [], ⟨[] ++ before, [], trodAll_append (hargs _ (fun _ _ => rfl)) (hres _ _ _), hvars _, rfl, ?_, ?_⟩, ?_⟩
  · intro b off hp
    have hin : MemPlace.cell b off ∈ before := by simpa using hp
    rw [hb.frozen (hlt _ hin)]
    exact hz b off hin
  · intro ha; cases ha
  · intro x hx _
    simpa using hx
end
end Go.Proofs.YtdbkkldgobkjcaaGreat

namespace Go.Proofs.YtdbkkldgobkjcaaGreat
open Go.ChangeShapes Go.WideShapes Go.Deep Go.RowKit Go.ChangeAt

section
variable {H : Type} {enc : TypeId × Value → H} {P : Program} {w : World} {base : Nat} {spare : Nat → Bool} {held : Bool}
theorem open_slice_fields {t e : TypeId} {fs : Array Field} {fuel : Nat} {cs : List Value} {x : DataW H × List MemPlace} (ht : P.underlying t = some (.slice e)) (he : P.underlying e = some (.struct fs))
    (hone : oneCellFields P fs = true) (hC : P.cellsOf e = fs.size) (h : DataW.trod enc P w base spare held fuel t cs = some x) :
    (cs = [.slice none 0 0] ∧ x = (.nil, [])) ∨
    ∃ (a : Addr) (len cap m : Nat) (D : Nat → DataW H) (Pl : Nat → List MemPlace), cs = [.slice (some a) len cap] ∧ base ≤ a.block ∧ len ≤ cap ∧ cap ≤ maxLen ∧ m = (if spare a.block then cap else len) ∧
      x = (.slice ((List.range len).map D) ((List.range (m - len)).map fun j => D (len + j)), MemPlace.row a (m * fs.size) ++ (List.range m).flatMap Pl) ∧
      ∀ i, i < m → ∃ (ys : List (DataW H × List MemPlace)) (n : Nat), D i = .agg (ys.map (·.1)) ∧ Pl i = ys.flatMap (·.2) ∧ ys.length = fs.size ∧
        ∀ (j : Nat) (f : Field), fs[j]? = some f → ∃ (v : Value) (y : DataW H × List MemPlace), w.cell? (a.add (i * fs.size + j)) = some v ∧ ys[j]? = some y ∧ DataW.trod enc P w base spare held n f.type [v] = some y := by
  rcases open_slice ht h with h0 | ⟨a, len, cap, m, n, D, Pl, hcs, hb, hl, hm, hmm, hx, hi⟩
  · exact .inl h0
  · refine .inr ⟨a, len, cap, m, D, Pl, hcs, hb, hl, hm, hmm, by rw [hC] at hx; exact hx, fun i him => ?_⟩
    obtain ⟨cs', hc, ht'⟩ := hi i him
    rw [hC] at hc
    obtain ⟨ys, n', hn', hy, hlen, hyl, hf⟩ := DataW.trod_struct he ht'
    obtain ⟨_, hcl, hat⟩ := World.cells?_some hc
    simp only [Prod.mk.injEq] at hy
    refine ⟨ys, n', hy.1, hy.2, hyl, fun j f hj => ?_⟩
    obtain ⟨ho, hk⟩ := hone_of hone j f hj
    have hjl : j < fs.size := (Array.getElem?_eq_some_iff.1 hj).1
    have hcell := hat j hjl
    have hv : cs'[j]? = some (cs'[j]'(by omega)) := List.getElem?_eq_getElem (by omega)
    have h1 := hf j f hj
    rw [ho, hk] at h1
    have hone' : (cs'.drop j).take 1 = [cs'[j]'(by omega)] := by
      rw [List.drop_eq_getElem_cons (by omega)]
      rfl
    rw [hone'] at h1
    have hys : ys[j]? = some (ys[j]'(by omega)) := List.getElem?_eq_getElem (by omega)
    refine ⟨_, _, ?_, hys, h1.trans hys⟩
    rw [← Go.Deep.add_add, hcell, hv]

theorem cell_addr {w : World} {a : Addr} {v : Value} (h : w.cell? a = some v) : a.spot = none ∧ a.block < w.heap.size := by
  unfold World.cell? at h
  split at h
  · rename_i c _ _ hc
    refine ⟨?_, (Array.getElem?_eq_some_iff.1 hc).1⟩
    cases hs : a.spot with
    | none => rfl
    | some x => rw [hs] at h; simp at h
  · cases h
theorem addr_add (b o j : Nat) : (⟨b, o, none⟩ : Addr).add j = ⟨b, o + j, none⟩ := by unfold Addr.add; split <;> simp_all

/-- a list out of its elements' readings -/
theorem list_of {α : Type} (n : Nat) (p : Nat → α → Prop) (h : ∀ i, i < n → ∃ x, p i x) : ∃ l : List α, l.length = n ∧ ∀ i (hi : i < l.length), p i l[i] := by
  induction n with
  | zero => exact ⟨[], rfl, fun i hi => by simp at hi⟩
  | succ n ih =>
    obtain ⟨l, hl, hp⟩ := ih fun i hi => h i (by omega)
    obtain ⟨x, hx⟩ := h n (by omega)
    refine ⟨l ++ [x], by simp [hl], fun i hi => ?_⟩
    simp only [List.length_append, List.length_cons, List.length_nil] at hi
    by_cases e : i < l.length
    · rw [List.getElem_append_left e]; exact hp i e
    · obtain rfl : i = l.length := by omega
      simpa [hl] using hx
end
namespace It
theorem ItemsAt.mk {w : World} {lo B b o n c : Nat} {L : List Item} (hn : L.length = n) (h1 : n ≤ c) (h2 : c ≤ maxLen) (hlo : lo ≤ b) (hB : b < B)
    (h : ∀ i (hi : i < L.length), w.cell? ⟨b, o + i * 2, none⟩ = some (.string L[i].1) ∧ w.cell? ⟨b, o + i * 2 + 1, none⟩ = some (.int .i64 L[i].2)) : ItemsAt w lo B (.slice (some ⟨b, o, none⟩) n c) L := by
  subst hn
  refine ⟨itemCells_length L, _, _, rfl, h1, h2, fun _ => ⟨b, o, rfl, hlo, hB, fun j hj => ?_⟩⟩
  have hd := Nat.div_add_mod j 2
  have hm := Nat.mod_lt j (show 0 < 2 by omega)
  have hq : j / 2 < L.length := by omega
  obtain ⟨g1, g2⟩ := itemCells_get L (j / 2) hq
  obtain ⟨c1, c2⟩ := h (j / 2) hq
  rcases Nat.lt_or_ge (j % 2) 1 with hr | hr
  · obtain e : j = j / 2 * 2 := by omega
    rw [e, g1, ← c1]
  · obtain e : j = j / 2 * 2 + 1 := by omega
    rw [e, g2, ← c2]
    congr 2

set_option maxRecDepth 100000 in
theorem items_of_trod {H : Type} {enc : TypeId × Value → H} {W : World} {v : Value} {x : DataW H × List MemPlace} {held : Bool} {fuel : Nat} (hf : DataW.trod enc Tryz.prog W 0 (fun _ => true) held fuel 30 [v] = some x) :
    ∃ L : List Item, ItemsAt W 0 W.heap.size v L ∧ Fits L ∧ ((x.1 = .nil ∧ L = []) ∨ ∃ es sp, x.1 = .slice es sp ∧ es.length = L.length) := by
  rcases open_slice_fields Tryz.underlying30 Tryz.underlying37 (by kernel_rfl) (by kernel_rfl) hf with ⟨h1, h2⟩ | ⟨a, n, c, m, D, Pl, hcs, hb, hl, hm, hmm, hx, hi⟩
  · simp only [List.cons.injEq, and_true] at h1
    cases h1
    exact ⟨[], ItemsAt.nil _ _ _, (fun x hx => by cases hx), .inl ⟨by rw [h2], rfl⟩⟩
  · simp only [List.cons.injEq, and_true] at hcs
    cases hcs
    simp only [if_true] at hmm
    subst hmm
    have hel : ∀ i, i < n → ∃ x : Item, W.cell? (a.add (i * 2)) = some (.string x.1) ∧ W.cell? (a.add (i * 2 + 1)) = some (.int .i64 x.2) ∧ x.1.size ≤ maxLen ∧ -9223372036854775808 ≤ x.2 ∧ x.2 ≤ 9223372036854775807 := by
      intro i hin
      obtain ⟨ys, n', _, _, _, hf⟩ := hi i (by omega)
      obtain ⟨v0, y0, c0, _, t0⟩ := hf 0 _ rfl
      obtain ⟨v1, y1, c1, _, t1⟩ := hf 1 _ rfl
      obtain ⟨s, e0, _, hs⟩ := DataW.trod_string Tryz.underlying9 t0
      obtain ⟨k, e1, _, hk⟩ := DataW.trod_int Tryz.underlying3 t1
      simp only [List.cons.injEq, and_true] at e0 e1
      subst e0 e1
      have hkb : -9223372036854775808 ≤ k ∧ k ≤ 9223372036854775807 := by simpa [Lit.wf, IntKind.min, IntKind.max, IntKind.signed, IntKind.bits] using hk
      exact ⟨(s, k), c0, c1, hs, hkb.1, hkb.2⟩
    obtain ⟨L, hLn, hL⟩ := list_of n _ hel
    have hfit : Fits L := fun x hx => by
      obtain ⟨i, hi, rfl⟩ := List.getElem_of_mem hx
      exact (hL i hi).2.2
    refine ⟨L, ?_, hfit, .inr ⟨_, _, by rw [hx], by simp [hLn]⟩⟩
    rcases Nat.eq_zero_or_pos n with h0 | h0
    · subst h0
      obtain rfl : L = [] := List.eq_nil_of_length_eq_zero hLn
      exact ⟨rfl, _, _, rfl, hl, hm, fun h => by omega⟩
    · have h1 := cell_addr (hL 0 (by omega)).1
      obtain ⟨b, o, sp⟩ := a
      have hsp : sp = none := by
        have := h1.1
        unfold Addr.add at this
        simpa using this
      subst hsp
      have hb : b < W.heap.size := by
        have := h1.2
        rw [addr_add] at this
        exact this
      refine ItemsAt.mk hLn hl hm (Nat.zero_le _) hb fun i hi => ?_
      have := hL i hi
      rw [addr_add, addr_add] at this
      exact ⟨this.1, by rw [← this.2.1]; congr 2⟩

set_option maxRecDepth 100000 in
/-- an argument that is a slice of items -/
theorem open_items {H : Type} {enc : TypeId × Value → H} {W : World} {base : Nat} {v : Value} {d : DataW H} {p : List MemPlace} {held : Bool} (hval : Value.okWide Tryz.prog W .any base 30 v)
    (h : DataW.Trod enc Tryz.prog W 0 (fun _ => true) held 30 v d p) :
    ∃ L : List Item, ItemsAt W 0 W.heap.size v L ∧ Fits L ∧ ((d = .nil ∧ L = []) ∨ ∃ es sp, d = .slice es sp ∧ es.length = L.length) := by
  obtain ⟨A, n, c, rfl⟩ := okWide_slice Tryz.underlying30 hval
  obtain ⟨fuel, hf⟩ := h
  exact items_of_trod hf
theorem items_bytes : Tryz.prog.bytesOf 37 = 24 := by kernel_rfl
theorem items_reach {H : Type} {ts : List TypeId} {ds : List (DataW H)} {j : Nat} {d : DataW H} {L : List Item} (h : (DataW.weightsEach Tryz.prog ts ds).all (· ≤ reachBytes) = true) (ht : ts[j]? = some 30) (hd : ds[j]? = some d)
    (hx : (d = .nil ∧ L = []) ∨ ∃ es sp, d = .slice es sp ∧ es.length = L.length) : L.length * 24 ≤ 140737488351232 := by
  rcases hx with ⟨_, rfl⟩ | ⟨es, sp, rfl, hl⟩
  · simp
  · have := sized_slice h ht hd Tryz.underlying30
    rw [items_bytes] at this
    unfold reachBytes at this
    have h2 : es.length * 24 ≤ (es.length + sp.length) * 24 := Nat.mul_le_mul_right _ (Nat.le_add_right _ _)
    omega
end It
end Go.Proofs.YtdbkkldgobkjcaaGreat
