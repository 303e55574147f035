/-
  The law Nobody.
-/
import Derived.Test.YtlhpdalfnjhokaaSkO
namespace Go.Proofs.Ytlhpdalfnjhokaa
open Go.RowKit Go.Maps
namespace Sk
open It Al Kp
attribute [local go_sem] Oper.semAt_some
theorem keys_nil (n : Nat) : allKeys (List.replicate n []) = [] := by
  have : ∀ (n : Nat) (m : List (Key × Unit)), (List.replicate n ([] : Stk)).foldl (fun m s => putKeys m (keysS s)) m = m := by
    intro n
    induction n with
    | zero => exact fun m => rfl
    | succ k ih => exact fun m => ih m
  unfold allKeys allMap
  rw [this]
  rfl
theorem tot_nil (g : Key) (n : Nat) : totR (List.replicate n []) g = row0 := by
  unfold totR
  induction n with
  | zero => rfl
  | succ k ih =>
    rw [List.replicate_succ, List.foldl_cons]
    rw [show addRow row0 ((aGet ([] : Stk) g).getD row0) = row0 by
      have : (aGet ([] : Stk) g).getD row0 = row0 := rfl
      rw [this]
      decide +kernel]
    exact ih
theorem totV_nil (g : ByteArray) (n : Nat) : totV g (List.replicate n []) = .agg #[.string g, .int .i64 0, .int .i64 0, .int .i64 0, .int .i64 0, .int .i64 0, .int .i64 0, .int .i64 0, .int .i64 0, .int .i64 0, .int .i64 0, .int .i64 0, .int .i64 0] := by
  unfold totV totC
  rw [tot_nil, show wayT row0 = 0 by decide +kernel]
  rfl
theorem all_nil (n : Nat) : allS (List.replicate n []) = true := by
  unfold allS
  rw [keys_nil]
  rfl
theorem sts_nil (n : Nat) (base : Nat) (w : World) (t : TypeId) (hn : n ≤ maxLen) : StsAt (w.alloc (.cells (madeCells #[.pointer none] n) t)) base (.slice (some ⟨w.heap.size, 0, none⟩) n n) (List.replicate n []) := by
  have h := Sl.new w (madeCells #[.pointer none] n) t (size := 1) (n := n) (by rw [size_madeCells]; omega) hn
  rw [toList_madeCells_one] at h
  refine ⟨List.replicate n (.pointer none), by simp, ?_, fun i hi => ?_⟩
  · rw [List.length_replicate]
    exact h.wide (Nat.zero_le _) (by simp)
  · rw [List.length_replicate] at hi
    exact ⟨.pointer none, by simp [hi], .inl ⟨rfl, by simp⟩⟩
theorem stock_info : (Try.prog.info? 53).map (fun i => (i.zero, i.size, i.bytes)) = some (some (.pointer none), 1, 8) := by kernel_rfl
set_option maxRecDepth 100000 in
set_option maxHeartbeats 8000000 in
theorem nobody_go (n : Nat) (hn : n ≤ 100) (good : ByteArray) (hg : good.size ≤ maxLen) (w : World) :
    Calls Try.prog 4 #[.int .i64 n, .string good] w fun e w' => e = .returned (.bool true) ∧ Below w.heap.size w w' := by
  have hen := eql_nilG
  obtain ⟨i0, hi0, hz0⟩ := Option.map_eq_some_iff.1 stock_info
  simp only [Prod.mk.injEq] at hz0
  obtain ⟨hz0, hz1, hz2⟩ := hz0
  have hmk : ∀ W : World, (Instr.makeSlice 33 (.int .i64 (n : Int)) (.int .i64 (n : Int))).run Try.prog W = .ok (.slice (some ⟨W.heap.size, 0, none⟩) n n) (W.alloc (.cells (madeCells #[.pointer none] n) 53)) := fun W => by
    have := run_make (P := Try.prog) W 33 53 i0 _ Try.underlying33 hi0 hz0 .i64 .i64 n n (by omega) (Int.le_refl _) (by rw [hz2]; omega) (by omega)
    rw [hz1] at this
    simpa [Value.cells] using this
  clear hz0 hz1 hz2 hi0
  have hd0 : decide ((n : Int) < 0) = false := by simp
  have hd1 : decide ((n : Int) > 100) = false := by simp; omega
  refine (callsIn_wide (n := 6)).1 ?_
  refine callsIn_of_wp_marks Try.func4 rfl trivial ?_ rfl
  simp only [Try.ntmps4, List.size_toArray, List.length_cons, List.length_nil, Nat.reduceAdd, Nat.reduceSub, Array.replicate_succ, Array.replicate_zero, List.push_toArray, List.append_toArray, List.nil_append, List.cons_append]
  gi_wp2
  refine ⟨trivial, (callsIn_wide.2 (ggoods_calls _ rfl _)).mono ?_⟩
  rintro e w3' ⟨rfl, rfl⟩
  gi_wp2
  have hS2 := sts_nil n w.heap.size (w.alloc (.cells #[.bool false] 4)) 53 (by unfold maxLen; omega)
  rw [World.size_alloc] at hS2
  have ha1 := (Below.refl w.heap.size w).alloc (Nat.le_refl _) (.cells #[.bool false] 4)
  have ha2 := ha1.alloc ha1.size (.cells (madeCells #[.pointer none] n) 53)
  have o1 := (Ob.new w 4 #[.bool false]).alloc (.cells (madeCells #[.pointer none] n) 53)
  have hs2 : ((w.alloc (.cells #[.bool false] 4)).alloc (.cells (madeCells #[.pointer none] n) 53)).heap.size = w.heap.size + 2 := by simp
  clear ha1
  generalize (w.alloc (.cells #[.bool false] 4)).alloc (.cells (madeCells #[.pointer none] n) 53) = w2 at *
  have ha3 := (Below.refl w2.heap.size w2).alloc (Nat.le_refl _) (.cells #[.slice (some ⟨w.heap.size + 1, 0, none⟩) n n] 33)
  have o3 := Ob.new w2 33 #[.slice (some ⟨w.heap.size + 1, 0, none⟩) n n]
  rw [show w2.heap.size = w.heap.size + 1 + 1 from hs2] at o3
  have hS3 := hS2.same ha3
  have o13 := o1.same ha3
  have hB3 := ha2.trans (ha3.mono (by omega))
  have hs3 : (w2.alloc (.cells #[.slice (some ⟨w.heap.size + 1, 0, none⟩) n n] 33)).heap.size = w2.heap.size + 1 := by simp
  clear ha2 ha3 o1 hS2 hmk
  generalize w2.alloc (.cells #[.slice (some ⟨w.heap.size + 1, 0, none⟩) n n] 33) = w3 at *
  refine ⟨trivial, (callsIn_wide.2 (lives_calls w3)).mono ?_⟩
  rintro e W ⟨rfl, hb⟩
  gi_wp2
  have hSW := hS3.same hb
  have o1W := o13.same hb
  have o3W := o3.same hb
  have hBW := hB3.trans (hb.mono hB3.size)
  have hsW := hb.size
  clear hS3 o13 o3 hB3 hb
  refine Ro.range_reads (n := 6) rfl (by omega) (gf := 25) rfl trivial (enters_of Try.func25 (by kernel_rfl) rfl)
    (greads 5 (by omega) (w.heap.size + 1 + 1) w.heap.size (fun i => i = w.heap.size) hSW (by simp; omega) o3W (fun i hi => by omega) (by omega) (fun g hg => by rw [own_of o1W] at hg; cases hg)) (Below.refl _ _) (fun h k => h.trans k) (fun W l r r' _ h => KpO.loop h) rfl
    (fun _ V => Below W.heap.size W V) (fun _ _ _ => False)
    (fun s A B row hs hg hr => ownFrom_below (B := W.heap.size) (Nat.le_refl _) (Nat.le_refl _) s A B row hs hg hr)
    (fun c s A B row hs hg hr => hs.elim)
    (Below.refl _ _) ?round ?done ?stop
  case stop => exact fun D c pre X _ _ h _ => h.elim
  case round =>
    intro l pre dd v V _ _ hpre _
    rw [keys_nil] at hpre
    obtain ⟨r, hr⟩ := hpre
    simp at hr
  case done =>
    rintro D xs V hD - hB hK
    have hSV := hSW.same hB
    have o1V := o1W.same hB
    have hBV := hBW.trans (hB.mono (by have := hBW.size; omega))
    have hsV := hB.size
    clear hSW o1W o3W hBW hB
    have cT := total_calls (List.replicate n []) good hg _ V w.heap.size hSV
    rw [totV_nil] at cT
    gi_wp2
    refine ⟨trivial, (callsIn_wide.2 cT).mono ?_⟩
    clear cT
    rintro e V1 ⟨rfl, hb1⟩
    have hS1 := hSV.same hb1
    have o11 := o1V.same hb1
    have hK1 := (hb1.block D (Array.getElem?_eq_some_iff.1 hK).1).trans hK
    have hB1 := hBV.trans (hb1.mono (by omega))
    clear hSV o1V hBV hb1 hK
    gi_wp2
    have cT := totals_calls (List.replicate n []) _ V1 w.heap.size hS1 (by rw [List.length_replicate]; omega)
    rw [keys_nil] at cT
    refine ⟨trivial, (callsIn_wide.2 cT).mono ?_⟩
    clear cT
    rintro e V2 ⟨⟨u, rfl, hu⟩, hb2⟩
    obtain ⟨A, c, rfl, -⟩ := (Sl.of_own hu : Sl _ _ _ 13 u 0 _).at_
    have hS2 := hS1.same hb2
    have o12 := o11.same hb2
    have hK2 := (hb2.block D (Array.getElem?_eq_some_iff.1 hK1).1).trans hK1
    have hB2 := hB1.trans (hb2.mono hB1.size)
    clear hS1 o11 hB1 hb2 hK1 hu
    gi_wp2
    have cA := all_calls (List.replicate n []) _ V2 w.heap.size hS2 (by rw [List.length_replicate]; omega)
    rw [all_nil] at cA
    refine ⟨trivial, (callsIn_wide.2 cA).mono ?_⟩
    clear cA
    rintro e V3 ⟨rfl, hb3⟩
    have o13 := o12.same hb3
    have hK3 := (hb3.block D (Array.getElem?_eq_some_iff.1 hK2).1).trans hK2
    have hB3 := hB2.trans (hb3.mono hB2.size)
    clear hS2 o12 hB2 hb3 hK2
    have z3 := o13.cell (j := 0) (v := .bool false) rfl
    have f3 := o13.frozen 0
    gi_wp2
    have hBB := hB3.grown (grownBy_set V3 w.heap.size 0 (.bool true)) hB3.size (fun k e => by cases e; omega)
    have hb22 := o13.set 0 (.bool true)
    have hKK : (V3.setCell ⟨w.heap.size, 0, none⟩ (.bool true)).heap[D]? = some (.deferred (some [])) := ((grownBy_set V3 w.heap.size 0 (.bool true)).block D (Array.getElem?_eq_some_iff.1 hK3).1 (fun e => by cases e; omega)).trans hK3
    refine ⟨by simp, .inl ⟨_, _, rfl, run_takeDeferred hKK, ?_⟩⟩
    have c4 := (boxed_end hb22 hKK).cell
    refine ⟨.bool true, ?_, rfl, below_end hBB (by omega) hKK⟩
    simp [results, Try.f4, go_sem, c4]
set_option maxRecDepth 100000 in
set_option maxHeartbeats 8000000 in
theorem nobody_out (n : Int) (hn : n < 0 ∨ 100 < n) (good : ByteArray) (w : World) :
    Calls Try.prog 4 #[.int .i64 n, .string good] w fun e w' => e = .returned (.bool true) ∧ Below w.heap.size w w' := by
  have cL := Lib.hid lives_calls
  refine (callsIn_wide (n := 6)).1 ?_
  refine callsIn_of_wp_marks Try.func4 rfl trivial ?_ rfl
  simp only [Try.ntmps4, List.size_toArray, List.length_cons, List.length_nil, Nat.reduceAdd, Nat.reduceSub, Array.replicate_succ, Array.replicate_zero, List.push_toArray, List.append_toArray, List.nil_append, List.cons_append]
  by_cases h0 : n < 0
  · have hd0 : decide (n < 0) = true := by simpa using h0
    gi_wp2
    refine ⟨trivial, (callsIn_wide.2 (cL.out _)).mono ?_⟩
    rintro e W ⟨rfl, hb⟩
    have o1 := (Ob.new w 4 #[.bool false]).same hb
    have ha1 := (Below.refl w.heap.size w).alloc (Nat.le_refl _) (.cells #[.bool false] 4)
    have hB := ha1.trans (hb.mono ha1.size)
    have z3 := o1.cell (j := 0) (v := .bool false) rfl
    have f3 := o1.frozen 0
    have hBB := hB.grown (grownBy_set W w.heap.size 0 (.bool true)) hB.size (fun k e => by cases e; omega)
    have c4 := (o1.set 0 (.bool true)).cell (j := 0) (v := .bool true) rfl
    gi_wp2
    refine ⟨.bool true, ?_, rfl, hBB⟩
    simp [results, Try.f4, go_sem, c4]
  · have hd0 : decide (n < 0) = false := by simpa using h0
    have hd1 : decide (n > 100) = true := by simp; omega
    gi_wp2
    refine ⟨trivial, (callsIn_wide.2 (cL.out _)).mono ?_⟩
    rintro e W ⟨rfl, hb⟩
    have o1 := (Ob.new w 4 #[.bool false]).same hb
    have ha1 := (Below.refl w.heap.size w).alloc (Nat.le_refl _) (.cells #[.bool false] 4)
    have hB := ha1.trans (hb.mono ha1.size)
    have z3 := o1.cell (j := 0) (v := .bool false) rfl
    have f3 := o1.frozen 0
    have hBB := hB.grown (grownBy_set W w.heap.size 0 (.bool true)) hB.size (fun k e => by cases e; omega)
    have c4 := (o1.set 0 (.bool true)).cell (j := 0) (v := .bool true) rfl
    gi_wp2
    refine ⟨.bool true, ?_, rfl, hBB⟩
    simp [results, Try.f4, go_sem, c4]
theorem nobody_law (n : Int) (good : ByteArray) (hg : good.size ≤ maxLen) (w : World) :
    Calls Try.prog 4 #[.int .i64 n, .string good] w fun e w' => e = .returned (.bool true) ∧ Below w.heap.size w w' := by
  by_cases h : n < 0 ∨ 100 < n
  · exact nobody_out n h good w
  · obtain ⟨m, rfl⟩ : ∃ m : Nat, n = m := ⟨n.toNat, by omega⟩
    exact nobody_go m (by omega) good hg w
end Sk
end Go.Proofs.Ytlhpdalfnjhokaa
