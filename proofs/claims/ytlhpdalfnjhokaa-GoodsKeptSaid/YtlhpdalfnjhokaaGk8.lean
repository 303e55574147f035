/-
  The law Nobody.
  The law Kept.
  the row GoodsKept.
-/
import Derived.Test.YtlhpdalfnjhokaaGk7
import Derived.Test.YtlhpdalfnjhokaaGk3
import Derived.Deep.DeepCutAuto
import Derived.Deep.CutBlock

set_option linter.unusedVariables false
set_option linter.unusedSimpArgs false
namespace Go.Proofs.Ytlhpdalfnjhokaa
open Go.RowKit Go.Maps
namespace Sk
open It Al Kp
attribute [local go_sem] Oper.semAt_some
theorem keys_nil (n : Nat) : allKeys (List.replicate n []) = [] := by
  have : ∀ (n : Nat) (m : List (Key × Unit)), (List.replicate n ([] : Stk)).foldl (fun m s => putKeys m (keysS s)) m = m := by
    intro n
    induction n with
    | zero => exact fun m => rfl
    | succ k ih => exact fun m => ih m
  unfold allKeys allMap
  rw [this]
  rfl
theorem tot_nil (g : Key) (n : Nat) : totR (List.replicate n []) g = row0 := by
  unfold totR
  induction n with
  | zero => rfl
  | succ k ih =>
    rw [List.replicate_succ, List.foldl_cons]
    rw [show addRow row0 ((aGet ([] : Stk) g).getD row0) = row0 by
      have : (aGet ([] : Stk) g).getD row0 = row0 := rfl
      rw [this]
      decide +kernel]
    exact ih
theorem totV_nil (g : ByteArray) (n : Nat) : totV g (List.replicate n []) = .agg #[.string g, .int .i64 0, .int .i64 0, .int .i64 0, .int .i64 0, .int .i64 0, .int .i64 0, .int .i64 0, .int .i64 0, .int .i64 0, .int .i64 0, .int .i64 0, .int .i64 0] := by
  unfold totV totC
  rw [tot_nil, show wayT row0 = 0 by decide +kernel]
  rfl
theorem all_nil (n : Nat) : allS (List.replicate n []) = true := by
  unfold allS
  rw [keys_nil]
  rfl
theorem sts_nil (n : Nat) (base : Nat) (w : World) (t : TypeId) (hn : n ≤ maxLen) : StsAt (w.alloc (.cells (madeCells #[.pointer none] n) t)) base (.slice (some ⟨w.heap.size, 0, none⟩) n n) (List.replicate n []) := by
  have h := Sl.new w (madeCells #[.pointer none] n) t (size := 1) (n := n) (by rw [size_madeCells]; omega) hn
  rw [toList_madeCells_one] at h
  refine ⟨List.replicate n (.pointer none), by simp, ?_, fun i hi => ?_⟩
  · rw [List.length_replicate]
    exact h.wide (Nat.zero_le _) (by simp)
  · rw [List.length_replicate] at hi
    exact ⟨.pointer none, by simp [hi], .inl ⟨rfl, by simp⟩⟩
theorem stock_info : (Try.prog.info? 53).map (fun i => (i.zero, i.size, i.bytes)) = some (some (.pointer none), 1, 8) := by kernel_rfl
set_option maxRecDepth 100000 in
set_option maxHeartbeats 8000000 in
theorem nobody_go (n : Nat) (hn : n ≤ 100) (good : ByteArray) (hg : good.size ≤ maxLen) (w : World) :
    Calls Try.prog 4 #[.int .i64 n, .string good] w fun e w' => e = .returned (.bool true) ∧ Below w.heap.size w w' := by
  have hen := eql_nilG
  obtain ⟨i0, hi0, hz0⟩ := Option.map_eq_some_iff.1 stock_info
  simp only [Prod.mk.injEq] at hz0
  obtain ⟨hz0, hz1, hz2⟩ := hz0
  have hmk : ∀ W : World, (Instr.makeSlice 33 (.int .i64 (n : Int)) (.int .i64 (n : Int))).run Try.prog W = .ok (.slice (some ⟨W.heap.size, 0, none⟩) n n) (W.alloc (.cells (madeCells #[.pointer none] n) 53)) := fun W => by
    have := run_make (P := Try.prog) W 33 53 i0 _ Try.underlying33 hi0 hz0 .i64 .i64 n n (by omega) (Int.le_refl _) (by rw [hz2]; omega) (by omega)
    rw [hz1] at this
    simpa [Value.cells] using this
  clear hz0 hz1 hz2 hi0
  have hd0 : decide ((n : Int) < 0) = false := by simp
  have hd1 : decide ((n : Int) > 100) = false := by simp; omega
  refine (callsIn_wide (n := 6)).1 ?_
  refine callsIn_of_wp_marks Try.func4 rfl trivial ?_ rfl
  simp only [Try.ntmps4, List.size_toArray, List.length_cons, List.length_nil, Nat.reduceAdd, Nat.reduceSub, Array.replicate_succ, Array.replicate_zero, List.push_toArray, List.append_toArray, List.nil_append, List.cons_append]
  gi_wp2
  refine ⟨trivial, (callsIn_wide.2 (ggoods_calls _ rfl _)).mono ?_⟩
  rintro e w3' ⟨rfl, rfl⟩
  gi_wp2
  have hS2 := sts_nil n w.heap.size (w.alloc (.cells #[.bool false] 4)) 53 (by unfold maxLen; omega)
  rw [World.size_alloc] at hS2
  have ha1 := (Below.refl w.heap.size w).alloc (Nat.le_refl _) (.cells #[.bool false] 4)
  have ha2 := ha1.alloc ha1.size (.cells (madeCells #[.pointer none] n) 53)
  have o1 := (Ob.new w 4 #[.bool false]).alloc (.cells (madeCells #[.pointer none] n) 53)
  have hs2 : ((w.alloc (.cells #[.bool false] 4)).alloc (.cells (madeCells #[.pointer none] n) 53)).heap.size = w.heap.size + 2 := by simp
  clear ha1
  generalize (w.alloc (.cells #[.bool false] 4)).alloc (.cells (madeCells #[.pointer none] n) 53) = w2 at *
  have ha3 := (Below.refl w2.heap.size w2).alloc (Nat.le_refl _) (.cells #[.slice (some ⟨w.heap.size + 1, 0, none⟩) n n] 33)
  have o3 := Ob.new w2 33 #[.slice (some ⟨w.heap.size + 1, 0, none⟩) n n]
  rw [show w2.heap.size = w.heap.size + 1 + 1 from hs2] at o3
  have hS3 := hS2.same ha3
  have o13 := o1.same ha3
  have hB3 := ha2.trans (ha3.mono (by omega))
  have hs3 : (w2.alloc (.cells #[.slice (some ⟨w.heap.size + 1, 0, none⟩) n n] 33)).heap.size = w2.heap.size + 1 := by simp
  clear ha2 ha3 o1 hS2 hmk
  generalize w2.alloc (.cells #[.slice (some ⟨w.heap.size + 1, 0, none⟩) n n] 33) = w3 at *
  refine ⟨trivial, (callsIn_wide.2 (lives_calls w3)).mono ?_⟩
  rintro e W ⟨rfl, hb⟩
  gi_wp2
  have hSW := hS3.same hb
  have o1W := o13.same hb
  have o3W := o3.same hb
  have hBW := hB3.trans (hb.mono hB3.size)
  have hsW := hb.size
  clear hS3 o13 o3 hB3 hb
  refine Ro.range_reads (n := 6) rfl (by omega) (gf := 25) rfl trivial (enters_of Try.func25 (by kernel_rfl) rfl)
    (greads 5 (by omega) (w.heap.size + 1 + 1) w.heap.size (fun i => i = w.heap.size) hSW (by simp; omega) o3W (fun i hi => by omega) (by omega) (fun g hg => by rw [own_of o1W] at hg; cases hg)) (Below.refl _ _) (fun h k => h.trans k) (fun W l r r' _ h => KpO.loop h) rfl
    (fun _ V => Below W.heap.size W V) (fun _ _ _ => False)
    (fun s A B row hs hg hr => ownFrom_below (B := W.heap.size) (Nat.le_refl _) (Nat.le_refl _) s A B row hs hg hr)
    (fun c s A B row hs hg hr => hs.elim)
    (Below.refl _ _) ?round ?done ?stop
  case stop => exact fun D c pre X _ _ h _ => h.elim
  case round =>
    intro l pre dd v V _ _ hpre _
    rw [keys_nil] at hpre
    obtain ⟨r, hr⟩ := hpre
    simp at hr
  case done =>
    rintro D xs V hD - hB hK
    have hSV := hSW.same hB
    have o1V := o1W.same hB
    have hBV := hBW.trans (hB.mono (by have := hBW.size; omega))
    have hsV := hB.size
    clear hSW o1W o3W hBW hB
    have cT := total_calls (List.replicate n []) good hg _ V w.heap.size hSV
    rw [totV_nil] at cT
    gi_wp2
    refine ⟨trivial, (callsIn_wide.2 cT).mono ?_⟩
    clear cT
    rintro e V1 ⟨rfl, hb1⟩
    have hS1 := hSV.same hb1
    have o11 := o1V.same hb1
    have hK1 := (hb1.block D (Array.getElem?_eq_some_iff.1 hK).1).trans hK
    have hB1 := hBV.trans (hb1.mono (by omega))
    clear hSV o1V hBV hb1 hK
    gi_wp2
    have cT := totals_calls (List.replicate n []) _ V1 w.heap.size hS1 (by rw [List.length_replicate]; omega)
    rw [keys_nil] at cT
    refine ⟨trivial, (callsIn_wide.2 cT).mono ?_⟩
    clear cT
    rintro e V2 ⟨⟨u, rfl, hu⟩, hb2⟩
    obtain ⟨A, c, rfl, -⟩ := (Sl.of_own hu : Sl _ _ _ 13 u 0 _).at_
    have hS2 := hS1.same hb2
    have o12 := o11.same hb2
    have hK2 := (hb2.block D (Array.getElem?_eq_some_iff.1 hK1).1).trans hK1
    have hB2 := hB1.trans (hb2.mono hB1.size)
    clear hS1 o11 hB1 hb2 hK1 hu
    gi_wp2
    have cA := all_calls (List.replicate n []) _ V2 w.heap.size hS2 (by rw [List.length_replicate]; omega)
    rw [all_nil] at cA
    refine ⟨trivial, (callsIn_wide.2 cA).mono ?_⟩
    clear cA
    rintro e V3 ⟨rfl, hb3⟩
    have o13 := o12.same hb3
    have hK3 := (hb3.block D (Array.getElem?_eq_some_iff.1 hK2).1).trans hK2
    have hB3 := hB2.trans (hb3.mono hB2.size)
    clear hS2 o12 hB2 hb3 hK2
    have z3 := o13.cell (j := 0) (v := .bool false) rfl
    have f3 := o13.frozen 0
    gi_wp2
    have hBB := hB3.grown (grownBy_set V3 w.heap.size 0 (.bool true)) hB3.size (fun k e => by cases e; omega)
    have hb22 := o13.set 0 (.bool true)
    have hKK : (V3.setCell ⟨w.heap.size, 0, none⟩ (.bool true)).heap[D]? = some (.deferred (some [])) := ((grownBy_set V3 w.heap.size 0 (.bool true)).block D (Array.getElem?_eq_some_iff.1 hK3).1 (fun e => by cases e; omega)).trans hK3
    refine ⟨by simp, .inl ⟨_, _, rfl, run_takeDeferred hKK, ?_⟩⟩
    have c4 := (boxed_end hb22 hKK).cell
    refine ⟨.bool true, ?_, rfl, below_end hBB (by omega) hKK⟩
    simp [results, Try.f4, go_sem, c4]
set_option maxRecDepth 100000 in
set_option maxHeartbeats 8000000 in
theorem nobody_out (n : Int) (hn : n < 0 ∨ 100 < n) (good : ByteArray) (w : World) :
    Calls Try.prog 4 #[.int .i64 n, .string good] w fun e w' => e = .returned (.bool true) ∧ Below w.heap.size w w' := by
  have cL := Lib.hid lives_calls
  refine (callsIn_wide (n := 6)).1 ?_
  refine callsIn_of_wp_marks Try.func4 rfl trivial ?_ rfl
  simp only [Try.ntmps4, List.size_toArray, List.length_cons, List.length_nil, Nat.reduceAdd, Nat.reduceSub, Array.replicate_succ, Array.replicate_zero, List.push_toArray, List.append_toArray, List.nil_append, List.cons_append]
  by_cases h0 : n < 0
  · have hd0 : decide (n < 0) = true := by simpa using h0
    gi_wp2
    refine ⟨trivial, (callsIn_wide.2 (cL.out _)).mono ?_⟩
    rintro e W ⟨rfl, hb⟩
    have o1 := (Ob.new w 4 #[.bool false]).same hb
    have ha1 := (Below.refl w.heap.size w).alloc (Nat.le_refl _) (.cells #[.bool false] 4)
    have hB := ha1.trans (hb.mono ha1.size)
    have z3 := o1.cell (j := 0) (v := .bool false) rfl
    have f3 := o1.frozen 0
    have hBB := hB.grown (grownBy_set W w.heap.size 0 (.bool true)) hB.size (fun k e => by cases e; omega)
    have c4 := (o1.set 0 (.bool true)).cell (j := 0) (v := .bool true) rfl
    gi_wp2
    refine ⟨.bool true, ?_, rfl, hBB⟩
    simp [results, Try.f4, go_sem, c4]
  · have hd0 : decide (n < 0) = false := by simpa using h0
    have hd1 : decide (n > 100) = true := by simp; omega
    gi_wp2
    refine ⟨trivial, (callsIn_wide.2 (cL.out _)).mono ?_⟩
    rintro e W ⟨rfl, hb⟩
    have o1 := (Ob.new w 4 #[.bool false]).same hb
    have ha1 := (Below.refl w.heap.size w).alloc (Nat.le_refl _) (.cells #[.bool false] 4)
    have hB := ha1.trans (hb.mono ha1.size)
    have z3 := o1.cell (j := 0) (v := .bool false) rfl
    have f3 := o1.frozen 0
    have hBB := hB.grown (grownBy_set W w.heap.size 0 (.bool true)) hB.size (fun k e => by cases e; omega)
    have c4 := (o1.set 0 (.bool true)).cell (j := 0) (v := .bool true) rfl
    gi_wp2
    refine ⟨.bool true, ?_, rfl, hBB⟩
    simp [results, Try.f4, go_sem, c4]
theorem nobody_law (n : Int) (good : ByteArray) (hg : good.size ≤ maxLen) (w : World) :
    Calls Try.prog 4 #[.int .i64 n, .string good] w fun e w' => e = .returned (.bool true) ∧ Below w.heap.size w w' := by
  by_cases h : n < 0 ∨ 100 < n
  · exact nobody_out n h good w
  · obtain ⟨m, rfl⟩ : ∃ m : Nat, n = m := ⟨n.toNat, by omega⟩
    exact nobody_go m (by omega) good hg w
end Sk
end Go.Proofs.Ytlhpdalfnjhokaa

namespace Go.Proofs.Ytlhpdalfnjhokaa
open Go.RowKit Go.Maps
namespace Sk
open It Al Kp
attribute [local go_sem] Oper.semAt_some
theorem ptr_ne (b : Nat) (w : World) : (binOp .eql 53 (.pointer (some ⟨b, 0, none⟩)) (.pointer none)).run Try.prog w = .ok (.bool false) w := by kernel_rfl
theorem snd_lt (x n : Int) (hn : 0 < n) : ∃ j : Nat, ((x.tmod n < 0 ∧ -(x.tmod n) = (j : Int)) ∨ (¬ x.tmod n < 0 ∧ x.tmod n = (j : Int))) ∧ (j : Int) < n := by
  have h1 := Int.tmod_lt_of_pos x hn
  have h2 : -n < x.tmod n := by
    have := Int.tmod_lt_of_pos (-x) hn
    rw [Int.neg_tmod] at this
    omega
  by_cases h : x.tmod n < 0
  · exact ⟨(-(x.tmod n)).toNat, .inl ⟨h, by omega⟩, by omega⟩
  · exact ⟨(x.tmod n).toNat, .inr ⟨h, by omega⟩, by omega⟩
set_option maxRecDepth 100000 in
set_option maxHeartbeats 16000000 in
theorem keeps_in (n : Nat) (hn1 : 1 ≤ n) (hn5 : n ≤ 5) (os : List OpV) (vo : Value) (l : List Int) (vt : Value) (w : World) (hO : OpsAt w w.heap.size vo os) (hOk : ∀ o ∈ os, OkOp o) (hT : IntsAt w 0 w.heap.size vt l) :
    Calls Try.prog 7 #[.int .i64 n, vo, vt] w fun e w' => e = .returned (.bool true) ∧ Below w.heap.size w w' := by
  have hmx := hmx
  obtain ⟨i0, hi0, hz0⟩ := Option.map_eq_some_iff.1 stock_info
  simp only [Prod.mk.injEq] at hz0
  obtain ⟨hz0, hz1, hz2⟩ := hz0
  have HZ := Lib.hid (And.intro hi0 (And.intro hz0 (And.intro hz1 hz2)))
  clear hi0 hz0 hz1 hz2
  obtain ⟨Al, cl, rfl, hcl1, hcl2⟩ := hO.form
  obtain ⟨At, ct, rfl, hct1, hct2, -⟩ := hT.form
  have HO := Lib.hid hO
  have HT := Lib.hid hT
  have HOK := Lib.hid hOk
  clear hO hT hOk
  unfold maxLen at hcl2 hct2
  have hd0 : decide ((n : Int) < 1) = false := by simp; omega
  have hd1 : decide ((n : Int) > 5) = false := by simp; omega
  have cN := Lib.hid new_calls
  have hpe := ptr_ne
  go_enter Try.func7, Try.ntmps7
  go_wp2
  go_loopw [7, 8, 9] (fun v i _ wr => ∃ (k : Nat) (cs : List (Nat × Nat)), k ≤ n ∧ i = .int .i64 k ∧ cs.length = k ∧ Many wr w.heap.size cs (List.replicate k []) ∧ Lone cs ∧ wr.ownsRow w.heap.size 53 1 v k (ptrs cs) ∧ Below w.heap.size w wr) (fun _ i _ _ => n - (intOf i).toNat)
  case atStart => exact ⟨0, [], by omega, rfl, rfl, Many.nil _ _, Lone.nil, World.ownsRow_nil _ _ _ _, Below.refl _ _⟩
  case round =>
    obtain ⟨k, cs, hk, rfl, hlen, hM, hL, hown, hB⟩ := hrel
    have HLE := Lib.hid hlen
    clear hlen
    by_cases hlt : k < n
    · have hd2 : decide ((k : Int) < (n : Int)) = true := by simp; omega
      go_wp2_with fail
      refine (cN.out wr).mono ?_
      rintro e W1 ⟨⟨b, mb, rfl, hS⟩, hb1⟩
      have M1 := hM.snoc hb1 hS hB.size
      have L1 := Lib.hid (hL.snoc hM hS.lo.2 (b := b))
      have own1 := ownsRow_below hown hb1
      have HB1 := Lib.hid (hB.trans (hb1.mono hB.size))
      have HM1 := Lib.hid M1
      have hBs := HB1.out.size
      obtain ⟨hi0, hz0, hz1, hz2⟩ := HZ.out
      clear hM hL hown hB hS hb1 M1
      go_wp2_with (at_builtin; refine wpList_append_sl _ rfl (.tmp 29) (.tmp 31) _ rfl w.heap.size 53 i0 _ 1 8 Try.underlying33 hi0 hz0 hz1 hz2 rfl (by omega) _ k _ rfl (own1.alloc _) W1.heap.size (W1.heap.size + 1) _ 1 [.pointer (some ⟨b, 0, none⟩)] rfl (Sl.new W1 #[.pointer (some ⟨b, 0, none⟩)] 53 (n := 1) rfl (by unfold maxLen; omega)) (by simp [Value.oneCell']) (by unfold maxLen; omega) (by omega) (by simp; omega) ?_; intro v1 w5 hv1 hg1 hat1)
      have hal := (Below.refl W1.heap.size W1).alloc (Nat.le_refl _) (.cells #[.pointer (some ⟨b, 0, none⟩)] 53)
      have M5 := (HM1.out.same hal).grown (own1.alloc _) (by decide) hg1
      have hB5 : Below w.heap.size w w5 := (HB1.out.trans (hal.mono hBs)).grown hg1 (by have := HB1.out.size; simp; omega) (fun g hg => (own1.lt g hg).1)
      go_roundw
      case rel =>
        refine ⟨k + 1, _, by omega, by go_num, by simp [HLE.out], by rw [List.replicate_succ']; exact M5, L1.out, ?_, hB5⟩
        have e : ptrs (cs ++ [(b, mb)]) = ptrs cs ++ [.pointer (some ⟨b, 0, none⟩)] := by unfold ptrs; simp
        rw [e]
        exact hv1
      case measure => simp [intOf]; omega
    · obtain rfl : n = k := by omega
      obtain ⟨g, cap, rfl, hReg⟩ := Reg.of_own hM hL HLE.out (by omega) hown
      have HR := Lib.hid hReg
      have hI := Inv.new n
      have HI := Lib.hid hI
      have HB := Lib.hid hB
      clear hM hL hown hReg hI hB hlt hk
      generalize hw3 : wr = w3 at *
      clear hw3
      go_wp2
      go_loopw [10, 11, 12, 13] (fun i _ _ _ W => ∃ (k : Nat) (cs : List (Nat × Nat)) (ss : List Stk), k ≤ os.length ∧ k ≤ 60 ∧ i = .int .i64 k ∧ Below w.heap.size w W ∧ Reg W w.heap.size g cap n cs ss ∧ Inv ss k (fun _ => 0)) (fun i _ _ _ _ => os.length - (intOf i).toNat)
      case atStart => exact ⟨0, cs, _, by omega, by omega, rfl, HB.out, HR.out, HI.out⟩
      case round =>
        clear HR HI HB HLE cs cN
        obtain ⟨k, cs, ss, hk, hk60, rfl, hB, hR, hI⟩ := hrel
        have HB := Lib.hid hB
        have HR := Lib.hid hR
        have HI := Lib.hid hI
        clear hB hR hI
        by_cases hlt : k < os.length
        · by_cases hlt2 : k < 60
          · obtain ⟨bo, po, lv, ea, hbo, hIo, g0, g1, g2, g3⟩ := HO.out.at_ hlt
            cases ea
            replace g0 := (HB.out.cell (p := ⟨bo, po + k * 4, none⟩) hbo).trans g0
            replace g1 := (HB.out.cell (p := ⟨bo, po + k * 4 + 1, none⟩) hbo).trans g1
            replace g2 := (HB.out.cell (p := ⟨bo, po + k * 4 + 2, none⟩) hbo).trans g2
            replace g3 := (HB.out.cell (p := ⟨bo, po + k * 4 + 3, none⟩) hbo).trans g3
            have hoo := HOK.out _ (List.getElem_mem hlt)
            generalize os[k] = oo at *
            obtain ⟨kd, lo, gd, nn⟩ := oo
            dsimp only at hIo g0 g1 g2 g3
            have HOO := Lib.hid hoo
            obtain ⟨Ao, co, rfl, hcl3, hcl4⟩ := hIo.form
            unfold maxLen at hcl4
            have hd : decide ((k : Int) < (os.length : Int)) = true := by simp; omega
            have hd2 : decide ((k : Int) < 60) = true := by simp; omega
            have hO7 := Ob.new wr 57 #[.int .i64 kd, .slice Ao lo.length co, .string gd, .int .i64 nn]
            have hal := (Below.refl wr.heap.size wr).alloc (Nat.le_refl _) (.cells #[.int .i64 kd, .slice Ao lo.length co, .string gd, .int .i64 nn] 57)
            have HB1 := Lib.hid (HB.out.trans (hal.mono HB.out.size))
            have HR1 := Lib.hid (HR.out.same hal)
            have HI0 := Lib.hid (fun W (h : Below w.heap.size w W) => hIo.mono h h.size)
            have hzz : w.heap.size ≤ wr.heap.size := HB.out.size
            clear hal hoo hIo HB HR
            by_cases hlong : 100 < lo.length
            · have hd3 : decide ((lo.length : Int) > 100) = true := by simp; omega
              go_wp2
              exact ⟨⟨k + 1, _, _, by omega, by omega, by go_num, HB1.out, HR1.out, HI.out.less (by omega) (fun _ => Int.le_refl _)⟩, by simp [intOf]; omega⟩
            · have hd3 : decide ((lo.length : Int) > 100) = false := by simp; omega
              obtain ⟨q0, q1, q2, q3⟩ : _ ∧ _ ∧ _ ∧ _ := ⟨hO7.cell (j := 0) (v := .int .i64 kd) rfl, hO7.cell (j := 1) (v := .slice Ao lo.length co) rfl, hO7.cell (j := 2) (v := .string gd) rfl, hO7.cell (j := 3) (v := .int .i64 nn) rfl⟩
              by_cases e11 : kd = 11
              · subst e11
                go_wp2
                exact ⟨⟨k + 1, _, _, by omega, by omega, by go_num, HB1.out, HR1.out, HI.out.less (by omega) (fun _ => Int.le_refl _)⟩, by simp [intOf]; omega⟩
              · have f11 : (kd == 11) = false := by simpa using e11
                have HE11 := Lib.hid e11
                clear e11
                have hk0 : 0 ≤ (k : Int) := by omega
                have hn0 : 1 ≤ (n : Int) := by omega
                go_upto_if 62 with (fail)
                have hfi : (k : Int) % (n : Int) = ((k % n : Nat) : Int) := (Int.natCast_emod k n).symm
                rw [hfi]
                have hfl : k % n < n := Nat.mod_lt _ (by omega)
                clear hfi
                generalize k % n = fi at *
                have hzl := hO7.lt
                clear q0 q1 q2 q3 g0 g1 g2 g3
                generalize wr.alloc (.cells #[.int .i64 kd, .slice Ao lo.length co, .string gd, .int .i64 nn] 57) = W0 at *
                generalize wr.heap.size = zz at *
                clear wr
                go_cut [13] (fun s13 W => Reg W w.heap.size g cap n cs ss ∧ Ob W zz 57 #[.int .i64 kd, .slice Ao lo.length co, .string gd, .int .i64 nn] ∧ Below w.heap.size w W ∧ ∃ j : Nat, j < n ∧ s13 = .int .i64 j)
                case first =>
                  by_cases hto : k < l.length
                  · have hdt : decide ((k : Int) < (l.length : Int)) = true := by simp; omega
                    obtain ⟨bt, pt, et, -, hbt, hct⟩ := HT.out.cellAt hto
                    cases et
                    replace hct := (HB1.out.cell (p := ⟨bt, pt + k, none⟩) hbt).trans hct
                    generalize l.getD k 0 = x at hct
                    obtain ⟨j, hj, hjn⟩ := snd_lt x n (by omega)
                    rcases hj with ⟨h1, h2⟩ | ⟨h1, h2⟩
                    · have hdj : decide (x.tmod n < 0) = true := by simpa using h1
                      have HJ := Lib.hid (And.intro h1 h2)
                      clear h1 h2
                      go_wp2
                      go_meet
                      exact ⟨HR1.out, hO7, HB1.out, j, by omega, num (by have := HJ.out; unfold wrap64; omega)⟩
                    · have hdj : decide (x.tmod n < 0) = false := by simpa using h1
                      have HJ := Lib.hid h2
                      clear h1 h2
                      go_wp2
                      go_meet
                      exact ⟨HR1.out, hO7, HB1.out, j, by omega, by rw [HJ.out]⟩
                  · have hdt : decide ((k : Int) < (l.length : Int)) = false := by simp; omega
                    go_wp2
                    go_meet
                    exact ⟨HR1.out, hO7, HB1.out, 0, by omega, rfl⟩
                case rest =>
                  obtain ⟨hRc, hOc, hBc, j, hjn, rfl⟩ := hcut
                  obtain ⟨b, mb, hss, hci, hSt⟩ := hRc.get hfl
                  have hgi := hRc.cell hci
                  have hq0 := hOc.cell (j := 0) (v := .int .i64 kd) rfl
                  have hcl0 : g < wc.heap.size := hRc.lt
                  have hzb : zz ≠ b := fun e => by
                    have k1 : wc.heap[zz]? = _ := hOc
                    have k2 : wc.heap[b]? = _ := hSt.ob
                    rw [e, k2] at k1
                    cases k1
                  have hzm : zz ≠ mb := fun e => by
                    have k1 : wc.heap[zz]? = _ := hOc
                    obtain ⟨es, clock, k2, -⟩ := hSt.map
                    have k2 : wc.heap[mb]? = _ := k2
                    rw [e, k2] at k1
                    cases k1
                  have HRc := Lib.hid hRc
                  have HBc := Lib.hid hBc
                  have HSt := Lib.hid hSt
                  clear HR1 hO7 HB1 hRc hBc hSt
                  by_cases e12 : kd = 12
                  · subst e12
                    clear f11
                    go_wp2_with fail
                    have p0 : wc.drew.cell? ⟨g, fi, none⟩ = some (.pointer (some ⟨b, 0, none⟩)) := HRc.out.cell hci
                    have q0 : wc.drew.cell? ⟨zz, 0, none⟩ = some (.int .i64 12) := hOc.cell (j := 0) rfl
                    have q1 : wc.drew.cell? ⟨zz, 1, none⟩ = some (.slice Ao lo.length co) := hOc.cell (j := 1) rfl
                    have q2 : wc.drew.cell? ⟨zz, 2, none⟩ = some (.string gd) := hOc.cell (j := 2) rfl
                    have q3 : wc.drew.cell? ⟨zz, 3, none⟩ = some (.int .i64 nn) := hOc.cell (j := 3) rfl
                    refine Pu.regionM [(0, false), (1, false), (2, false), (3, false), (4, false), (5, false), (6, false), (7, false), (8, true)] (fun V => V.cell? ⟨g, fi, none⟩ = some (.pointer (some ⟨b, 0, none⟩)) ∧ V.cell? ⟨zz, 0, none⟩ = some (.int .i64 12) ∧ V.cell? ⟨zz, 1, none⟩ = some (.slice Ao lo.length co) ∧ V.cell? ⟨zz, 2, none⟩ = some (.string gd) ∧ V.cell? ⟨zz, 3, none⟩ = some (.int .i64 nn)) hmx (by kernel_rfl) (by kernel_rfl) (by kernel_rfl) ⟨p0, q0, q1, q2, q3⟩ rfl ?_
                    simp only [Pu.named, List.filterMap_cons, List.filterMap_nil, List.getElem?_toArray, List.getElem?_cons_succ, List.getElem?_cons_zero, Option.map_some]
                    iterate 8 (apply Pu.WalkM.on (by rfl)
                               · rintro V ⟨r0, r1, r2, r3, r4⟩
                                 go_wp2_with fail
                                 refine ⟨rfl, ?_, rfl⟩
                                 try simp only [Act.put, List.setIfInBounds_toArray, List.set_cons_succ, List.set_cons_zero]
                                 rfl
                               simp only [Act.put, List.setIfInBounds_toArray, List.set_cons_succ, List.set_cons_zero])
                    refine Pu.WalkM.make (by rfl) ?_
                    rintro V hV
                    rw [hV]
                    clear hV V
                    have cC := count_calls7 (HSt.out.same (Below.refl _ wc).drew) gd HOO.out.g nn
                    go_wp2_with (go_at_call 23; refine cC.mono ?_; rintro e W9 ⟨rfl, hS9, hk9⟩)
                    clear cC
                    have hR9 := (HRc.out.same (Below.refl _ wc).drew).count hci hS9 hk9
                    have hO9 : Ob W9 zz 57 _ := hk9.ob (show Ob wc.drew zz _ _ from hOc) ⟨hOc.lt, fun e => hzm e⟩
                    have hB9 := HBc.out.drew.trans (hk9.below (B := w.heap.size) (fun i hi => ⟨by have := HBc.out.size; show i < wc.heap.size; omega, by have := HSt.out.lo; omega⟩))
                    have HR9 := Lib.hid hR9
                    have HB9 := Lib.hid hB9
                    have HI9 := Lib.hid (HI.out.count (by omega) fi hss gd.data.toList nn)
                    have pp := hR9.cell hci
                    clear hR9 hB9 hS9 hk9 p0 q0 q1 q2 q3
                    refine ⟨rfl, _, _, (fun V => V = W9), rfl, rfl, (fun V h => by rw [h]; exact ⟨pp, hO9.cell (j := 0) rfl, hO9.cell (j := 1) rfl, hO9.cell (j := 2) rfl, hO9.cell (j := 3) rfl⟩), (.inr (fun _ h => h)), Pu.WalkM.nil ?_⟩
                    rintro V hV
                    rw [hV]
                    clear hV V pp
                    simp only [Act.put]
                    have cA := Lib.hid (all_calls _ _ W9 w.heap.size HR9.out.sts (by have := HR9.out.many.len; have := HR9.out.len; omega))
                    have HA9 := Lib.hid (HI9.out.all (by omega) (by have := HR9.out.many.len; have := HR9.out.len; omega))
                    rw [HA9.out] at cA
                    go_wp2_with fail
                    refine cA.out.mono ?_
                    rintro e W8 ⟨rfl, hb8⟩
                    have HR8 := Lib.hid (HR9.out.same hb8)
                    have HB8 := Lib.hid (HB9.out.trans (hb8.mono HB9.out.size))
                    clear hb8 cA
                    go_wp2
                    exact ⟨⟨k + 1, _, _, by omega, by omega, by go_num, HB8.out, HR8.out, HI9.out⟩, by simp [intOf]; omega⟩
                  · have f12 : (kd == 12) = false := by simpa using e12
                    by_cases e10 : kd = 10
                    · subst e10
                      clear f11
                      go_wp2_with fail
                      have p0 : wc.drew.cell? ⟨g, fi, none⟩ = some (.pointer (some ⟨b, 0, none⟩)) := HRc.out.cell hci
                      have q0 : wc.drew.cell? ⟨zz, 0, none⟩ = some (.int .i64 10) := hOc.cell (j := 0) rfl
                      have q1 : wc.drew.cell? ⟨zz, 1, none⟩ = some (.slice Ao lo.length co) := hOc.cell (j := 1) rfl
                      have q2 : wc.drew.cell? ⟨zz, 2, none⟩ = some (.string gd) := hOc.cell (j := 2) rfl
                      have q3 : wc.drew.cell? ⟨zz, 3, none⟩ = some (.int .i64 nn) := hOc.cell (j := 3) rfl
                      refine Pu.regionM [(0, false), (1, false), (2, false), (3, false), (4, false), (5, false), (6, false), (7, false), (8, true), (9, false)] (fun V => V.cell? ⟨g, fi, none⟩ = some (.pointer (some ⟨b, 0, none⟩)) ∧ V.cell? ⟨zz, 0, none⟩ = some (.int .i64 10) ∧ V.cell? ⟨zz, 1, none⟩ = some (.slice Ao lo.length co) ∧ V.cell? ⟨zz, 2, none⟩ = some (.string gd) ∧ V.cell? ⟨zz, 3, none⟩ = some (.int .i64 nn)) hmx (by kernel_rfl) (by kernel_rfl) (by kernel_rfl) ⟨p0, q0, q1, q2, q3⟩ rfl ?_
                      simp only [Pu.named, List.filterMap_cons, List.filterMap_nil, List.getElem?_toArray, List.getElem?_cons_succ, List.getElem?_cons_zero, Option.map_some]
                      iterate 8 (apply Pu.WalkM.on (by rfl)
                                 · rintro V ⟨r0, r1, r2, r3, r4⟩
                                   go_wp2_with fail
                                   refine ⟨rfl, ?_, rfl⟩
                                   try simp only [Act.put, List.setIfInBounds_toArray, List.set_cons_succ, List.set_cons_zero]
                                   rfl
                                 simp only [Act.put, List.setIfInBounds_toArray, List.set_cons_succ, List.set_cons_zero])
                      refine Pu.WalkM.make (by rfl) ?_
                      rintro V hV
                      rw [hV]
                      clear hV V
                      have cC := do_calls (HSt.out.same (Below.refl _ wc).drew) 10 lo (.slice Ao lo.length co) (HI0.out _ HBc.out.drew) HOO.out.l
                      go_wp2_with (go_at_call 24; refine cC.mono ?_; rintro e W5 ⟨rfl, ⟨mb9, hS9, hm9⟩, hk9⟩)
                      clear cC
                      have hR9 := (HRc.out.same (Below.refl _ wc).drew).do_ hci hS9 hm9 hk9
                      have hO9 : Ob W5 zz 57 _ := hk9.ob (show Ob wc.drew zz _ _ from hOc) ⟨hOc.lt, hzb⟩
                      have hB9 := HBc.out.drew.trans (hk9.below (B := w.heap.size) (fun i hi => ⟨by have := HBc.out.size; show i < wc.heap.size; omega, by have := HSt.out.lo; omega⟩))
                      have hc9 : (cs.set fi (b, mb9))[fi]? = some (b, mb9) := by have := (List.getElem?_eq_some_iff.1 hci).1; rw [List.getElem?_set]; simp [this]
                      have pp := hR9.cell hc9
                      clear hS9 hk9 hc9 p0 q0 q1 q2 q3
                      have HRW5 := Lib.hid hR9
                      have HBW5 := Lib.hid hB9
                      clear hR9 hB9
                      refine ⟨rfl, _, _, (fun V => V = W5), rfl, rfl, (fun V h => by rw [h]; exact ⟨pp, hO9.cell (j := 0) rfl, hO9.cell (j := 1) rfl, hO9.cell (j := 2) rfl, hO9.cell (j := 3) rfl⟩), (.inr (fun _ h => h)), ?_⟩
                      simp only [Act.put, List.setIfInBounds_toArray, List.set_cons_succ, List.set_cons_zero]
                      by_cases hcode : (doS ss[fi] 10 lo).2 = 0
                      · obtain ⟨hinv, hamt⟩ := HI.out.send (by omega) fi hss lo hcode
                        have HI5 := Lib.hid hinv
                        have HAM := Lib.hid hamt
                        rw [hcode]
                        clear hinv hamt hcode
                        generalize ss.set fi (doS ss[fi] 10 lo).1 = ss2 at *
                        obtain ⟨cs2, hcs2⟩ : ∃ x, x = cs.set fi (b, mb9) := ⟨_, rfl⟩
                        rw [← hcs2] at HRW5
                        clear hcs2
                        apply Pu.WalkM.on (by rfl)
                        · rintro V ⟨r0, r1, r2, r3, r4⟩
                          go_wp2_with fail
                          refine ⟨rfl, ?_, rfl⟩
                          try simp only [Act.put, List.setIfInBounds_toArray, List.set_cons_succ, List.set_cons_zero]
                          rfl
                        simp only [Act.put, List.setIfInBounds_toArray, List.set_cons_succ, List.set_cons_zero]
                        refine Pu.WalkM.nil ?_
                        rintro V hV
                        rw [hV]
                        clear hV V pp
                        obtain ⟨b2, mb2, hss2, hcj, hSt2⟩ := HRW5.out.get hjn
                        have hzb2 : zz ≠ b2 := fun e => by
                          have k1 : W5.heap[zz]? = _ := hO9
                          have k2 : W5.heap[b2]? = _ := hSt2.ob
                          rw [e, k2] at k1
                          cases k1
                        have HSt2 := Lib.hid hSt2
                        have hcl2 : g < W5.heap.size := HRW5.out.lt
                        clear hSt2
                        have hO8 := hO9
                        clear hO9
                        go_wp2_with fail
                        have p0 : W5.drew.cell? ⟨g, j, none⟩ = some (.pointer (some ⟨b2, 0, none⟩)) := HRW5.out.cell hcj
                        have q0 : W5.drew.cell? ⟨zz, 0, none⟩ = some (.int .i64 10) := hO8.cell (j := 0) rfl
                        have q1 : W5.drew.cell? ⟨zz, 1, none⟩ = some (.slice Ao lo.length co) := hO8.cell (j := 1) rfl
                        have q2 : W5.drew.cell? ⟨zz, 2, none⟩ = some (.string gd) := hO8.cell (j := 2) rfl
                        have q3 : W5.drew.cell? ⟨zz, 3, none⟩ = some (.int .i64 nn) := hO8.cell (j := 3) rfl
                        refine Pu.regionM [(0, false), (1, false), (2, false), (3, false), (4, false), (5, false), (6, true)] (fun V => V.cell? ⟨g, j, none⟩ = some (.pointer (some ⟨b2, 0, none⟩)) ∧ V.cell? ⟨zz, 0, none⟩ = some (.int .i64 10) ∧ V.cell? ⟨zz, 1, none⟩ = some (.slice Ao lo.length co) ∧ V.cell? ⟨zz, 2, none⟩ = some (.string gd) ∧ V.cell? ⟨zz, 3, none⟩ = some (.int .i64 nn)) hmx (by kernel_rfl) (by kernel_rfl) (by kernel_rfl) ⟨p0, q0, q1, q2, q3⟩ rfl ?_
                        simp only [Pu.named, List.filterMap_cons, List.filterMap_nil, List.getElem?_toArray, List.getElem?_cons_succ, List.getElem?_cons_zero, Option.map_some]
                        iterate 6 (apply Pu.WalkM.on (by rfl)
                                   · rintro V ⟨r0, r1, r2, r3, r4⟩
                                     go_wp2_with fail
                                     refine ⟨rfl, ?_, rfl⟩
                                     try simp only [Act.put, List.setIfInBounds_toArray, List.set_cons_succ, List.set_cons_zero]
                                     rfl
                                   simp only [Act.put, List.setIfInBounds_toArray, List.set_cons_succ, List.set_cons_zero])
                        refine Pu.WalkM.make (by rfl) ?_
                        rintro V hV
                        rw [hV]
                        clear hV V
                        have cC := do_calls (HSt2.out.same (Below.refl _ W5).drew) 11 lo (.slice Ao lo.length co) (HI0.out _ HBW5.out.drew) HOO.out.l
                        go_wp2_with (go_at_call 24; refine cC.mono ?_; rintro e W9 ⟨rfl, ⟨mb9, hS9, hm9⟩, hk9⟩)
                        clear cC
                        have hR9 := (HRW5.out.same (Below.refl _ W5).drew).do_ hcj hS9 hm9 hk9
                        have hO9 : Ob W9 zz 57 _ := hk9.ob (show Ob W5.drew zz _ _ from hO8) ⟨hO8.lt, hzb2⟩
                        have hB9 := HBW5.out.drew.trans (hk9.below (B := w.heap.size) (fun i hi => ⟨by have := HBW5.out.size; show i < W5.heap.size; omega, by have := HSt2.out.lo; omega⟩))
                        have hc9 : (cs2.set j (b2, mb9))[j]? = some (b2, mb9) := by have := (List.getElem?_eq_some_iff.1 hcj).1; rw [List.getElem?_set]; simp [this]
                        have pp := hR9.cell hc9
                        clear hS9 hk9 hc9 p0 q0 q1 q2 q3
                        have HRW9 := Lib.hid hR9
                        have HBW9 := Lib.hid hB9
                        clear hR9 hB9
                        have HI9 := Lib.hid (HI5.out.come HAM.out (by omega) j hss2)
                        refine ⟨rfl, _, _, (fun V => V = W9), rfl, rfl, (fun V h => by rw [h]; exact ⟨pp, hO9.cell (j := 0) rfl, hO9.cell (j := 1) rfl, hO9.cell (j := 2) rfl, hO9.cell (j := 3) rfl⟩), (.inr (fun _ h => h)), Pu.WalkM.nil ?_⟩
                        rintro V hV
                        rw [hV]
                        clear hV V pp
                        simp only [Act.put]
                        have HR9 := HRW9
                        have HB9 := HBW9
                        have cA := Lib.hid (all_calls _ _ W9 w.heap.size HR9.out.sts (by have := HR9.out.many.len; have := HR9.out.len; omega))
                        have HA9 := Lib.hid (HI9.out.all (by omega) (by have := HR9.out.many.len; have := HR9.out.len; omega))
                        rw [HA9.out] at cA
                        go_wp2_with fail
                        refine cA.out.mono ?_
                        rintro e W8 ⟨rfl, hb8⟩
                        have HR8 := Lib.hid (HR9.out.same hb8)
                        have HB8 := Lib.hid (HB9.out.trans (hb8.mono HB9.out.size))
                        clear hb8 cA
                        go_wp2
                        exact ⟨⟨k + 1, _, _, by omega, by omega, by go_num, HB8.out, HR8.out, HI9.out⟩, by simp [intOf]; omega⟩
                      · have HI9 := Lib.hid (HI.out.sent (by omega) fi hss lo hcode)
                        have hcb : ((doS ss[fi] 10 lo).2 == 0) = false := by simpa using hcode
                        clear hcode
                        generalize (doS ss[fi] 10 lo).2 = code at *
                        apply Pu.WalkM.on (by rfl)
                        · rintro V ⟨r0, r1, r2, r3, r4⟩
                          go_wp2_with fail
                          refine ⟨rfl, ?_, rfl⟩
                          try simp only [Act.put, List.setIfInBounds_toArray, List.set_cons_succ, List.set_cons_zero]
                          rfl
                        simp only [Act.put, List.setIfInBounds_toArray, List.set_cons_succ, List.set_cons_zero]
                        refine Pu.WalkM.nil ?_
                        rintro V hV
                        rw [hV]
                        clear hV V pp
                        have HR9 := HRW5
                        have HB9 := HBW5
                        have cA := Lib.hid (all_calls _ _ W5 w.heap.size HR9.out.sts (by have := HR9.out.many.len; have := HR9.out.len; omega))
                        have HA9 := Lib.hid (HI9.out.all (by omega) (by have := HR9.out.many.len; have := HR9.out.len; omega))
                        rw [HA9.out] at cA
                        go_wp2_with fail
                        refine cA.out.mono ?_
                        rintro e W8 ⟨rfl, hb8⟩
                        have HR8 := Lib.hid (HR9.out.same hb8)
                        have HB8 := Lib.hid (HB9.out.trans (hb8.mono HB9.out.size))
                        clear hb8 cA
                        go_wp2
                        exact ⟨⟨k + 1, _, _, by omega, by omega, by go_num, HB8.out, HR8.out, HI9.out⟩, by simp [intOf]; omega⟩
                    · have f10 : (kd == 10) = false := by simpa using e10
                      go_wp2_with fail
                      have p0 : wc.drew.cell? ⟨g, fi, none⟩ = some (.pointer (some ⟨b, 0, none⟩)) := HRc.out.cell hci
                      have q0 : wc.drew.cell? ⟨zz, 0, none⟩ = some (.int .i64 kd) := hOc.cell (j := 0) rfl
                      have q1 : wc.drew.cell? ⟨zz, 1, none⟩ = some (.slice Ao lo.length co) := hOc.cell (j := 1) rfl
                      have q2 : wc.drew.cell? ⟨zz, 2, none⟩ = some (.string gd) := hOc.cell (j := 2) rfl
                      have q3 : wc.drew.cell? ⟨zz, 3, none⟩ = some (.int .i64 nn) := hOc.cell (j := 3) rfl
                      refine Pu.regionM [(0, false), (1, false), (2, false), (3, false), (4, false), (5, false), (6, false), (7, false), (8, true)] (fun V => V.cell? ⟨g, fi, none⟩ = some (.pointer (some ⟨b, 0, none⟩)) ∧ V.cell? ⟨zz, 0, none⟩ = some (.int .i64 kd) ∧ V.cell? ⟨zz, 1, none⟩ = some (.slice Ao lo.length co) ∧ V.cell? ⟨zz, 2, none⟩ = some (.string gd) ∧ V.cell? ⟨zz, 3, none⟩ = some (.int .i64 nn)) hmx (by kernel_rfl) (by kernel_rfl) (by kernel_rfl) ⟨p0, q0, q1, q2, q3⟩ rfl ?_
                      simp only [Pu.named, List.filterMap_cons, List.filterMap_nil, List.getElem?_toArray, List.getElem?_cons_succ, List.getElem?_cons_zero, Option.map_some]
                      iterate 8 (apply Pu.WalkM.on (by rfl)
                                 · rintro V ⟨r0, r1, r2, r3, r4⟩
                                   go_wp2_with fail
                                   refine ⟨rfl, ?_, rfl⟩
                                   try simp only [Act.put, List.setIfInBounds_toArray, List.set_cons_succ, List.set_cons_zero]
                                   rfl
                                 simp only [Act.put, List.setIfInBounds_toArray, List.set_cons_succ, List.set_cons_zero])
                      refine Pu.WalkM.make (by rfl) ?_
                      rintro V hV
                      rw [hV]
                      clear hV V
                      have cC := do_calls (HSt.out.same (Below.refl _ wc).drew) kd lo (.slice Ao lo.length co) (HI0.out _ HBc.out.drew) HOO.out.l
                      go_wp2_with (go_at_call 24; refine cC.mono ?_; rintro e W9 ⟨rfl, ⟨mb9, hS9, hm9⟩, hk9⟩)
                      clear cC
                      have hR9 := (HRc.out.same (Below.refl _ wc).drew).do_ hci hS9 hm9 hk9
                      have hO9 : Ob W9 zz 57 _ := hk9.ob (show Ob wc.drew zz _ _ from hOc) ⟨hOc.lt, hzb⟩
                      have hB9 := HBc.out.drew.trans (hk9.below (B := w.heap.size) (fun i hi => ⟨by have := HBc.out.size; show i < wc.heap.size; omega, by have := HSt.out.lo; omega⟩))
                      have hc9 : (cs.set fi (b, mb9))[fi]? = some (b, mb9) := by have := (List.getElem?_eq_some_iff.1 hci).1; rw [List.getElem?_set]; simp [this]
                      have pp := hR9.cell hc9
                      clear hS9 hk9 hc9 p0 q0 q1 q2 q3
                      have HRW9 := Lib.hid hR9
                      have HBW9 := Lib.hid hB9
                      clear hR9 hB9
                      have HI9 := Lib.hid (HI.out.do_ (by omega) fi hss kd lo e10 HE11.out)
                      refine ⟨rfl, _, _, (fun V => V = W9), rfl, rfl, (fun V h => by rw [h]; exact ⟨pp, hO9.cell (j := 0) rfl, hO9.cell (j := 1) rfl, hO9.cell (j := 2) rfl, hO9.cell (j := 3) rfl⟩), (.inr (fun _ h => h)), Pu.WalkM.nil ?_⟩
                      rintro V hV
                      rw [hV]
                      clear hV V pp
                      simp only [Act.put]
                      have HR9 := HRW9
                      have HB9 := HBW9
                      have cA := Lib.hid (all_calls _ _ W9 w.heap.size HR9.out.sts (by have := HR9.out.many.len; have := HR9.out.len; omega))
                      have HA9 := Lib.hid (HI9.out.all (by omega) (by have := HR9.out.many.len; have := HR9.out.len; omega))
                      rw [HA9.out] at cA
                      go_wp2_with fail
                      refine cA.out.mono ?_
                      rintro e W8 ⟨rfl, hb8⟩
                      have HR8 := Lib.hid (HR9.out.same hb8)
                      have HB8 := Lib.hid (HB9.out.trans (hb8.mono HB9.out.size))
                      clear hb8 cA
                      go_wp2
                      exact ⟨⟨k + 1, _, _, by omega, by omega, by go_num, HB8.out, HR8.out, HI9.out⟩, by simp [intOf]; omega⟩
          · have hd : decide ((k : Int) < (os.length : Int)) = true := by simp; omega
            have hd2 : decide ((k : Int) < 60) = false := by simp; omega
            go_wp2_with fail
            refine (lives_calls wr).mono ?_
            rintro e W ⟨rfl, hb⟩
            have hBB := HB.out.trans (hb.mono HB.out.size)
            go_wp2
            go_ret
            exact ⟨rfl, hBB⟩
        · have hd : decide ((k : Int) < (os.length : Int)) = false := by simp; omega
          go_wp2_with fail
          refine (lives_calls wr).mono ?_
          rintro e W ⟨rfl, hb⟩
          have hBB := HB.out.trans (hb.mono HB.out.size)
          go_wp2
          go_ret
          exact ⟨rfl, hBB⟩
set_option maxRecDepth 100000 in
theorem keeps_out (n : Int) (hn : n < 1 ∨ 5 < n) (vo vt : Value) (w : World) :
    Calls Try.prog 7 #[.int .i64 n, vo, vt] w fun e w' => e = .returned (.bool true) ∧ Below w.heap.size w w' := by
  by_cases h1 : n < 1
  · have hd0 : decide (n < 1) = true := by simpa using h1
    go_enter Try.func7, Try.ntmps7
    go_wp2_with fail
    refine (lives_calls w).mono ?_
    rintro e W ⟨rfl, hb⟩
    go_wp2
    go_ret
    exact ⟨rfl, hb⟩
  · have hd0 : decide (n < 1) = false := by simpa using h1
    have hd1 : decide (n > 5) = true := by simp; omega
    go_enter Try.func7, Try.ntmps7
    go_wp2_with fail
    refine (lives_calls w).mono ?_
    rintro e W ⟨rfl, hb⟩
    go_wp2
    go_ret
    exact ⟨rfl, hb⟩
theorem keeps_law (n : Int) (os : List OpV) (vo : Value) (l : List Int) (vt : Value) (w : World) (hO : OpsAt w w.heap.size vo os) (hOk : ∀ o ∈ os, OkOp o) (hT : IntsAt w 0 w.heap.size vt l) :
    Calls Try.prog 7 #[.int .i64 n, vo, vt] w fun e w' => e = .returned (.bool true) ∧ Below w.heap.size w w' := by
  by_cases h : n < 1 ∨ 5 < n
  · exact keeps_out n h vo vt w
  · obtain ⟨m, rfl⟩ : ∃ m : Nat, n = m := ⟨n.toNat, by omega⟩
    exact keeps_in m (by omega) (by omega) os vo l vt w hO hOk hT
end Sk
end Go.Proofs.Ytlhpdalfnjhokaa

namespace Go.Proofs.Ytlhpdalfnjhokaa
open Go.ChangeShapes Go.WideShapes Go.ChangeAt Go.RowKit
namespace Sk
set_option maxRecDepth 100000 in
theorem goodsKept_lifted (os : Os) (started : os.Started) (H : Type) (enc : TypeId × Value → H) :
    ReturnsInHanded {} Try.checked os 7 .any (Rows.goodsKeptSpec.pre6 enc Try.prog Try.f7 Rows.goodsKeptRow.domain false) (Rows.goodsKeptSpec.post enc Try.prog Try.f7 false true false false) := by
  refine returnsInHanded_of_change (C := Try.checked) own started (by kernel_rfl) Try.func7
    (ChangeSpec.witness6 (enc := enc) (C := Try.checked) false ⟨#[], #[.int .i64 0, .slice none 0 0, .slice none 0 0], []⟩ 8 (by kernel_rfl) (by kernel_rfl) (by kernel_rfl) (by kernel_rfl)) ?_
  intro W base args ds gs before hval0 hW _ _
  have hval : ∀ (j : Nat) t v, Try.f7.params[j]? = some t → args[j]? = some v → Value.okWide Try.prog W .any base t v := hval0
  obtain ⟨p, q, hA0, hV, hps, hfz, hnd⟩ := id hW
  have hA : DataW.TrodAll enc Try.prog W 0 (fun _ => true) true Try.f7.params.toList args.toList ds p := hA0
  rw [Try.params7] at hA hval
  obtain ⟨v0, vs0, d0, ds0, p0, q0, hargs, rfl, rfl, h0, r0⟩ := trodAll_cons hA
  obtain ⟨v1, vs1, d1, ds1, p1, q1, rfl, rfl, rfl, h1, r1⟩ := trodAll_cons r0
  obtain ⟨v2, vs2, d2, ds2, p2, q2, rfl, rfl, rfl, h2, r2⟩ := trodAll_cons r1
  obtain ⟨rfl, rfl, rfl⟩ := trodAll_nil r2
  obtain rfl : args = #[v0, v1, v2] := by cases args; simp_all
  obtain ⟨rfl, rfl⟩ := trodVars_none hV
  obtain ⟨n, rfl, rfl, rfl, wn⟩ := open_int Try.underlying3 (hval 0 3 v0 rfl rfl) h0
  obtain ⟨l, hl, fl⟩ := Sk.open_ops h1 (okWide_slice Try.underlying52 (hval 1 52 v1 rfl rfl))
  obtain ⟨to_, hto_, fto_⟩ := Sk.open_ints1 h2 (okWide_slice Try.underlying42 (hval 2 42 v2 rfl rfl))
  have bn : -9223372036854775808 ≤ n ∧ n ≤ 9223372036854775807 := by simpa [Lit.wf, IntKind.min, IntKind.max, IntKind.signed, IntKind.bits] using wn
  refine (keeps_law n l v1 to_ v2 W hl fl hto_).mono fun e W' ⟨he, hb⟩ => ?_
  subst he
  exact ⟨_, rfl, law_post laidOut (by kernel_rfl) rfl Try.underlying4 rfl hW rfl hb⟩

theorem goodsKept_holds : Rows.GoodsKeptSaid :=
  OpenClaim.holds_of_wide 7 Try.f7 rfl rfl rfl rfl rfl rfl rfl ⟨rfl, rfl, rfl, rfl, rfl⟩ rfl rfl rfl rfl rfl (by kernel_rfl) Try.func7 (by kernel_rfl)
    (of_decide_eq_true (by kernel_rfl)) (by unfold Func.isWrapper; first | (rw [if_pos (by decide +kernel)]; kernel_rfl) | (rw [if_neg (by decide +kernel)]; exact ⟨rfl, rfl⟩))
    (fun os started H enc _ => goodsKept_lifted os started H enc)

end Sk
end Go.Proofs.Ytlhpdalfnjhokaa
