/-
  life: the walks of Code and of the reference's Reach.
-/
import Derived.Test.YtcohjcbcadfkdaaLifeB

namespace Go.Proofs.Ytcohjcbcadfkdaa
open Go.RowKit
namespace Life

def codeE (k s : Int) : Int := if k = 1 ∧ s = 3 then 200 else if k = 1 ∧ s = 5 then 51 else if k = 1 ∧ s = 6 then 4 else 0
def codeB (k s : Int) : Bool := decide (k = 1 ∧ (s = 2 ∨ s = 3 ∨ s = 5 ∨ s = 6)) || decide (k = 2 ∧ s = 6) || decide (k = 3 ∧ s = 8) || decide (k = 4 ∧ s = 10)
def CodePost (k s : Int) (e : Ending) : Prop := e = .returned (.tuple #[.int .i64 (codeE k s), .bool (codeB k s)])
theorem codePost_mk {k s a : Int} {b : Bool} (h1 : codeE k s = a) (h2 : codeB k s = b) : CodePost k s (.returned (.tuple #[.int .i64 a, .bool b])) := by rw [← h1, ← h2]; exact rfl

set_option maxHeartbeats 1000000 in
theorem code_calls (k s : Int) (w : World) :
    Calls Try.prog 20 #[.int .i64 k, .int .i64 s] w fun e w' => CodePost k s e ∧ w = w' := by
  go_enter Try.func20, Try.ntmps20
  go_wp2
  all_goals
    go_ret2
    refine ⟨codePost_mk ?_ ?_, rfl⟩
    all_goals first | rfl | (simp [codeE, codeB, *])

/-- the inner loop's list behind k rounds -/
def innerTo (seen b m0 : List Int) : Nat → List Int
  | 0 => m0
  | k + 1 => if !inL (b.getD k 0) seen && !inL (b.getD k 0) (innerTo seen b m0 k) then innerTo seen b m0 k ++ [b.getD k 0] else innerTo seen b m0 k
def outerTo (seen : List Int) : Nat → List Int
  | 0 => []
  | i + 1 => innerTo seen (behind (seen.getD i 0)) (outerTo seen i) (behind (seen.getD i 0)).length
def roundTo (s0 : List Int) : Nat → List Int
  | 0 => s0
  | r + 1 => roundTo s0 r ++ outerTo (roundTo s0 r) (roundTo s0 r).length
theorem behind_len (n : Int) : (behind n).length ≤ 6 := by
  rcases @nine n with h | h | h | h | h | h | h | h
  all_goals try subst h
  all_goals first | decide | (rw [behind_out h]; decide)
theorem innerTo_len (seen b m0 : List Int) (k : Nat) : (innerTo seen b m0 k).length ≤ m0.length + k := by
  induction k with
  | zero => simp [innerTo]
  | succ k ih => unfold innerTo; split <;> (try simp) <;> omega
theorem outerTo_len (seen : List Int) (i : Nat) : (outerTo seen i).length ≤ 6 * i := by
  induction i with
  | zero => simp [outerTo]
  | succ i ih =>
    unfold outerTo
    have := innerTo_len seen (behind (seen.getD i 0)) (outerTo seen i) (behind (seen.getD i 0)).length
    have := behind_len (seen.getD i 0)
    omega
def cap7 : Nat → Nat
  | 0 => 6
  | r + 1 => 7 * cap7 r
theorem roundTo_len (s0 : List Int) (h : s0.length ≤ 6) (r : Nat) : (roundTo s0 r).length ≤ cap7 r := by
  induction r with
  | zero => simpa [roundTo, cap7] using h
  | succ r ih =>
    unfold roundTo cap7
    have := outerTo_len (roundTo s0 r) (roundTo s0 r).length
    rw [List.length_append]
    omega
theorem cap7_le (r : Nat) (h : r ≤ 11) : cap7 r ≤ 11863960458 := by
  have : ∀ r, r ≤ 11 → cap7 r ≤ cap7 11 := by
    intro r hr
    induction r with
    | zero => decide
    | succ r ih =>
      obtain h1 | h1 : r + 1 = 11 ∨ r + 1 ≤ 10 := by omega
      · rw [h1]; exact Nat.le_refl _
      · have : ∀ m, m ≤ 10 → cap7 m * 7 ≤ cap7 11 := by decide
        have := this (r + 1) h1
        omega
  have h2 := this r h
  have h3 : cap7 11 = 11863960458 := by decide
  omega

theorem int_info : (Try.prog.info? 3).map (fun i => (i.zero, i.size, i.bytes)) = some (some (.int .i64 0), 1, 8) := by kernel_rfl

set_option maxRecDepth 100000 in
set_option maxHeartbeats 1000000 in
theorem refreach_calls (a b : Int) (w : World) :
    Calls Try.prog 17 #[.int .i64 a, .int .i64 b] w fun e w' => e = .returned (.bool (inL b (roundTo (behind a) 12))) ∧ Below w.heap.size w w' := by
  obtain ⟨i0, hi0, hz0, hz1, hz2⟩ := info_parts int_info
  go_enter Try.func17, Try.ntmps17
  go_wp2_with (go_at_call 13; refine (refbehind_calls a _).mono ?_; rintro e w1 ⟨⟨v, rfl, hv⟩, hb⟩)
  have hv' := IntsAt.of_own hv
  have hs6 := behind_len a
  go_loopw [5, 6, 7, 8, 9, 10] (fun s r _ _ _ _ wr => ∃ k : Nat, k ≤ 12 ∧ r = .int .i64 k ∧ IntsAt wr 0 wr.heap.size s (roundTo (behind a) k) ∧ Below w.heap.size w wr) (fun _ r _ _ _ _ _ => 12 - (intOf r).toNat)
  case atStart => exact ⟨0, by omega, rfl, hv'.wide (by omega) (Nat.le_refl _), hb⟩
  case round =>
    obtain ⟨k, hk, rfl, hs, hB⟩ := hrel
    by_cases hlt : k < 12
    · have HL := Lib.hid (show (roundTo (behind a) k).length ≤ 11863960458 from Nat.le_trans (roundTo_len _ hs6 k) (cap7_le k (by omega)))
      generalize hS : roundTo (behind a) k = S at *
      have HS := Lib.hid hS
      clear hS
      obtain ⟨A, c, rfl, hc1, hc2, _⟩ := hs.form
      unfold maxLen at hc2
      have hdk : decide ((k : Int) < 12) = true := by simp; omega
      obtain ⟨wo, rfl⟩ : ∃ wo : World, wo = wr := ⟨_, rfl⟩
      go_wp2
      go_loopw [7, 8, 9, 10] (fun m i _ _ w2 => ∃ j : Nat, j ≤ S.length ∧ i = .int .i64 j ∧ w2.ownsRow wo.heap.size 3 1 m (outerTo S j).length (ints (outerTo S j)) ∧ Below wo.heap.size wo w2) (fun _ i _ _ _ => S.length - (intOf i).toNat)
      case atStart => exact ⟨0, by omega, rfl, World.ownsRow_nil _ _ _ _, Below.refl _ _⟩
      case round =>
        obtain ⟨j, hj, rfl, hm, hB2⟩ := hrel
        obtain ⟨w2, rfl⟩ : ∃ w2 : World, w2 = wr := ⟨_, rfl⟩
        by_cases hlt2 : j < S.length
        · have hs2 := hs.mono hB2 (Nat.le_refl _)
          obtain ⟨bs, os, rfl, _, _, hck⟩ := hs2.cellAt hlt2
          generalize hy : S.getD j 0 = y at hck
          have HY := Lib.hid hy
          clear hy
          have hML := Lib.hid (outerTo_len S j)
          generalize hM : outerTo S j = M at *
          have HM := Lib.hid hM
          clear hM
          go_wp2_with (go_at_call 13; refine (refbehind_calls y _).mono ?_; rintro e w3 ⟨⟨vb, rfl, hvb⟩, hb3⟩)
          have hbl := behind_len y
          generalize hbL : behind y = bl at *
          have HBL := Lib.hid hbL
          clear hbL
          have hmb : vb.ownBlock = none ∨ vb.ownBlock ≠ u7.ownBlock := by
            cases hvo : vb.ownBlock with
            | none => exact .inl rfl
            | some g =>
              refine .inr fun e => ?_
              have h1 := hvb.lt g hvo
              have h2 := hm.lt g e.symm
              omega
          have hm3 := ownsRow_below hm hb3
          go_loopw [7, 10] (fun m i w4 => ∃ q : Nat, q ≤ bl.length ∧ i = .int .i64 q ∧ w4.ownsRow wo.heap.size 3 1 m (innerTo S bl M q).length (ints (innerTo S bl M q)) ∧
            w4.ownsRow w2.heap.size 3 1 vb bl.length (ints bl) ∧ (vb.ownBlock = none ∨ vb.ownBlock ≠ m.ownBlock) ∧ Below wo.heap.size wo w4) (fun _ i _ => bl.length - (intOf i).toNat)
          case atStart => exact ⟨0, by omega, rfl, hm3, hvb, hmb, hB2.trans (hb3.mono hB2.size)⟩
          case round =>
            obtain ⟨q, hq, rfl, hm4, hvb4, hne, hB4⟩ := hrel
            obtain ⟨w4, rfl⟩ : ∃ w4 : World, w4 = wr := ⟨_, rfl⟩
            by_cases hlt3 : q < bl.length
            · have hs4 := hs.mono hB4 (Nat.le_refl _)
              obtain ⟨A2, cb, rfl, hcb1, hcb2, _⟩ := (IntsAt.of_own hvb4).form
              obtain ⟨bb, ob, rfl, _, _, hck2⟩ := (IntsAt.of_own hvb4).cellAt hlt3
              generalize hz : bl.getD q 0 = z at hck2
              have HZ := Lib.hid hz
              clear hz
              have HE := Lib.hid (show innerTo S bl M (q + 1) = if !inL (bl.getD q 0) S && !inL (bl.getD q 0) (innerTo S bl M q) then innerTo S bl M q ++ [bl.getD q 0] else innerTo S bl M q from rfl)
              have HIL := Lib.hid (innerTo_len S bl M q)
              generalize innerTo S bl M q = I at *
              have hI := IntsAt.of_own hm4
              by_cases hy1 : inL z S = true
              · have hE : innerTo S bl M (q + 1) = I := by rw [HE.out, HZ.out, hy1]; rfl
                have HE2 := Lib.hid hE
                clear hE
                go_wp2_with (go_at_call 15; refine (in_calls _ z _ _ _ _ hs4).mono ?_; rintro e w5 ⟨rfl, rfl⟩)
                go_roundw
                case rel => exact ⟨q + 1, by omega, by go_num, by rw [HE2.out]; exact hm4, hvb4, hne, hB4⟩
                case measure => simp [intOf]; omega
              · have hy1 : inL z S = false := by simpa using hy1
                by_cases hy2 : inL z I = true
                · have hE : innerTo S bl M (q + 1) = I := by rw [HE.out, HZ.out, hy1, hy2]; rfl
                  have HE2 := Lib.hid hE
                  clear hE
                  go_wp2_with (first
                    | (go_at_call 15; refine (in_calls _ z _ _ _ _ hs4).mono ?_; clear hs4; rintro e w5 ⟨rfl, rfl⟩)
                    | (go_at_call 15; refine (in_calls _ z _ _ _ _ hI).mono ?_; rintro e w6 ⟨rfl, rfl⟩))
                  go_roundw
                  case rel => exact ⟨q + 1, by omega, by go_num, by rw [HE2.out]; exact hm4, hvb4, hne, hB4⟩
                  case measure => simp [intOf]; omega
                · have hy2 : inL z I = false := by simpa using hy2
                  have hE : innerTo S bl M (q + 1) = I ++ [z] := by rw [HE.out, HZ.out, hy1, hy2]; rfl
                  have HE2 := Lib.hid hE
                  clear hE
                  go_wp2_with (first
                    | (go_at_call 15; refine (in_calls _ z _ _ _ _ hs4).mono ?_; clear hs4; rintro e w5 ⟨rfl, rfl⟩)
                    | (go_at_call 15; refine (in_calls _ z _ _ _ _ hI).mono ?_; rintro e w6 ⟨rfl, rfl⟩)
                    | (at_builtin
                       refine wpList_append_sl _ rfl (.tmp 50) (.tmp 55) _ rfl wo.heap.size 3 i0 _ 1 8 Try.underlying27 hi0 hz0 hz1 hz2 rfl (by omega) u7 I.length (ints I) rfl (hm4.alloc _) w4.heap.size (w4.heap.size + 1) _ 1 [.int .i64 z] rfl (Sl.new w4 #[.int .i64 z] 3 (n := 1) rfl (by unfold maxLen; omega)) (by simp [Value.oneCell']) (by have := HIL.out; have := hML.out; have := HL.out; unfold maxLen; omega) (by have := HIL.out; have := hML.out; have := HL.out; omega) (by have := hB4.size; simp; omega) ?_
                       intro v1 w5 hv1 hg1 hat1))
                  go_roundw
                  case rel =>
                    have hv1' : w5.ownsRow wo.heap.size 3 1 v1 (I ++ [z]).length (ints (I ++ [z])) := by rw [ints_append, List.length_append]; exact hv1
                    have hvbl := hvb4.lt _ rfl
                    refine ⟨q + 1, by omega, by go_num, by rw [HE2.out]; exact hv1', (hvb4.alloc _).kept hg1 hne, ?_, ?_⟩
                    · rcases hat1 with h | h
                      · rw [h]; exact hne
                      · rw [h]; refine .inr fun e => ?_
                        simp [Value.ownBlock] at e
                        omega
                    · exact (hB4.alloc hB4.size _).grown hg1 (by have := hB4.size; simp; omega) (fun g hg => (hm4.lt g hg).1)
                  case measure => simp [intOf]; omega
            · obtain rfl : q = bl.length := by omega
              obtain ⟨A2, cb, rfl, hcb1, hcb2, _⟩ := (IntsAt.of_own hvb4).form
              have hE : outerTo S (j + 1) = innerTo S bl M bl.length := by
                simp only [outerTo]
                rw [HY.out, HBL.out, HM.out]
              have HE2 := Lib.hid hE
              clear hE
              go_wp2_with fail
              go_roundw
              case rel => exact ⟨j + 1, by omega, by go_num, by rw [HE2.out]; exact hm4, hB4⟩
              case measure => simp [intOf]; omega
        · obtain rfl : j = S.length := by omega
          have HM := Lib.hid (outerTo_len S S.length)
          generalize hM : outerTo S S.length = M at *
          have HMM := Lib.hid hM
          clear hM
          have hsX := hs.mono (hB2.alloc hB2.size (.cells #[] 3)) (Nat.le_refl _)
          go_wp2_with (first
            | (at_builtin
               refine wpList_append_sl _ rfl (.tmp 57) (.tmp 58) _ rfl w2.heap.size 3 i0 _ 1 8 Try.underlying27 hi0 hz0 hz1 hz2 rfl (by omega) (.slice (some ⟨w2.heap.size, 0, none⟩) 0 0) 0 [] rfl
                 (World.ownsRow_made w2 #[] 0 (Nat.le_refl _) (by unfold maxLen; omega) rfl) 0 _ _ S.length (ints S) rfl hsX (ints_one _) (by have := HL.out; unfold maxLen; omega) (by have := HL.out; omega) (by simp) ?_
               intro v1 w4 hv1 hg1 hat1)
            | (at_builtin
               refine wpList_append_sl _ rfl (.tmp 59) (.tmp 60) _ rfl w2.heap.size 3 i0 _ 1 8 Try.underlying27 hi0 hz0 hz1 hz2 rfl (by omega) v1 (0 + S.length) ([] ++ ints S) rfl
                 hv1 wo.heap.size w2.heap.size _ M.length (ints M) rfl (((Sl.of_own hm).below ((Below.refl _ _).alloc (Nat.le_refl _) _)).grown hg1 (by simp) (by intro q hq; simp [Value.ownBlock] at hq; omega)) (ints_one _)
                 (by have := HL.out; have := HM.out; unfold maxLen; omega) (by have := HL.out; have := HM.out; omega) (by have := hg1.size; simp at this; omega) ?_
               intro v2 w5 hv2 hg2 hat2))
          have hsz4 := hg1.size
          have hsz5 := hg2.size
          simp at hsz4
          have hBX : Below w2.heap.size w2 w4 := ((Below.refl _ w2).alloc (Nat.le_refl _) _).grown hg1 (by simp) (by intro q hq; simp [Value.ownBlock] at hq; omega)
          have hBY : Below w2.heap.size w2 w5 := hBX.grown hg2 (by omega) (fun q hq => (hv1.lt q hq).1)
          go_roundw
          case rel =>
            refine ⟨k + 1, by omega, by go_num, ?_, hB.trans ((hB2.mono hB.size).trans (hBY.mono (by have := hB.size; have := hB2.size; omega)))⟩
            have e : roundTo (behind a) (k + 1) = S ++ M := by simp only [roundTo]; rw [HS.out, HMM.out]
            rw [e]
            have hv2' : w5.ownsRow w2.heap.size 3 1 v2 (0 + S.length + M.length) (ints (S ++ M)) := by rw [ints_append]; exact hv2
            exact (IntsAt.of_own hv2').wide (Nat.zero_le _) (Nat.le_refl _)
          case measure => simp [intOf]; omega
    · obtain rfl : k = 12 := by omega
      obtain ⟨A, c, rfl, hc1, hc2, _⟩ := hs.form
      go_wp2_with (go_at_call 15; refine (in_calls _ b _ _ _ _ hs).mono ?_; rintro e w2 ⟨rfl, rfl⟩)
      go_ret
      exact ⟨rfl, hB⟩
end Life
end Go.Proofs.Ytcohjcbcadfkdaa
