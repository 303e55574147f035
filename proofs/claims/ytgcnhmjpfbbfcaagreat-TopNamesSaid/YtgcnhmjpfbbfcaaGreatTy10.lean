/-
  part of the proof of TopNames.
-/
import Derived.Test.YtgcnhmjpfbbfcaaGreatTy9
set_option linter.unusedVariables false
set_option linter.unusedSimpArgs false
set_option maxRecDepth 100000
set_option maxHeartbeats 8000000
namespace Go.Proofs.YtgcnhmjpfbbfcaaGreat
namespace Sk
section
open Go.RowKit Go.Maps
open It Al
theorem hmx : Tryz.prog.follows .mixedOrders = true := by kernel_rfl
structure OkP (p : Key × Row) : Prop where
 row : OkRow p.2
 key : p.1.length ≤ maxLen
structure StkAt (w : World) (base b mb : Nat) (s : Stk) : Prop where
 ob : Ob w b 135 #[.map (some mb)]
 map : GMap strK w Tryz.prog 9 mb (gm rowV s)
 ok : ∀ p ∈ s, OkP p
 ne : b ≠ mb
 lo : base ≤ b ∧ base ≤ mb
 len : s.length ≤ 64
theorem StkAt.kept {w w' : World} {base b mb : Nat} {s : Stk} {Fr : Nat → Prop} (h : StkAt w base b mb s) (hk : Kept Fr w w') (hb : Fr b) (hm : Fr mb) : StkAt w' base b mb s := by
 refine ⟨hk.ob h.ob hb, ?_, h.ok, h.ne, h.lo, h.len⟩; obtain ⟨es, clock, h1, F, h2, e⟩ := h.map; exact ⟨es, clock, (hk.block mb hm).trans h1, F, h2, e⟩
theorem StkAt.same {w w' : World} {base b mb : Nat} {s : Stk} (h : StkAt w base b mb s) (hb : Below w.heap.size w w') : StkAt w' base b mb s :=
 h.kept (Kept.of_below hb (Fr := fun i => i < w.heap.size) fun _ hi => hi) h.ob.lt h.map.lt
theorem mapnil (w : World) (r : Option Nat) : (binOp .neq 133 (.map r) (.map none)).run Tryz.prog w = .ok (.bool r.isSome) w := by
 have := run_neq_map_nil (P := Tryz.prog) w 133 _ _ r Tryz.underlying133
 cases r <;> simpa using this
theorem new_calls (w : World) : Calls Tryz.prog 158 #[] w fun e w' => (∃ b mb, e = .returned (.pointer (some ⟨b, 0, none⟩)) ∧ StkAt w' w.heap.size b mb []) ∧ Below w.heap.size w w' := by
 have hmm := @run_makeMap Tryz.prog
 go_enter Tryz.func158, Tryz.ntmps158
 go_wp2; go_ret; have ha1 := (Below.refl w.heap.size w).alloc (Nat.le_refl _) (.map #[] 0); have ha2 := ha1.alloc ha1.size (.cells #[.map (some w.heap.size)] 135); refine ⟨⟨w.heap.size + 1, w.heap.size, rfl, ?_⟩, ha2⟩; have hob := Ob.new (w.alloc (.map #[] 0)) 135 #[.map (some w.heap.size)]; rw [World.size_alloc] at hob; exact ⟨hob, (GMap.made (K := strK) w Tryz.prog 9).kept (World.grownBy_alloc _ _ none) (by simp), (fun p hp => by cases hp), by omega, by omega, by simp⟩
theorem made_calls (b mb : Nat) (w : World) (h : w.cell? ⟨b, 0, none⟩ = some (.map (some mb))) :
   Calls Tryz.prog 52 #[.pointer (some ⟨b, 0, none⟩)] w fun e w' => e = .returned (.bool true) ∧ w = w' := by
 have hn := mapnil
 go_enter Tryz.func52, Tryz.ntmps52
 go_wp2; go_ret; exact ⟨rfl, rfl⟩
theorem made_nil (w : World) :
   Calls Tryz.prog 52 #[.pointer none] w fun e w' => e = .returned (.bool false) ∧ w = w' := by
 go_enter Tryz.func52, Tryz.ntmps52
 go_wp2; go_ret; exact ⟨rfl, rfl⟩
theorem numbers_calls (g : Nat) (w : World) :
   Calls Tryz.prog 335 #[.pointer (some ⟨g, 0, none⟩)] w fun e w' => e = .returned (.agg #[.pointer (some ⟨g, 0, none⟩), .pointer (some ⟨g, 1, none⟩), .pointer (some ⟨g, 2, none⟩), .pointer (some ⟨g, 3, none⟩), .pointer (some ⟨g, 4, none⟩), .pointer (some ⟨g, 5, none⟩), .pointer (some ⟨g, 6, none⟩), .pointer (some ⟨g, 7, none⟩), .pointer (some ⟨g, 8, none⟩), .pointer (some ⟨g, 9, none⟩), .pointer (some ⟨g, 10, none⟩)]) ∧ Below w.heap.size w w' := by
 go_enter Tryz.func335, Tryz.ntmps335
 go_wp2_with fail; have hO := Ob.new w 466 #[.pointer none, .pointer none, .pointer none, .pointer none, .pointer none, .pointer none, .pointer none, .pointer none, .pointer none, .pointer none, .pointer none]; have hal := (Below.refl w.heap.size w).alloc (Nat.le_refl _) (.cells #[.pointer none, .pointer none, .pointer none, .pointer none, .pointer none, .pointer none, .pointer none, .pointer none, .pointer none, .pointer none, .pointer none] 466); generalize hV : w.alloc (.cells #[.pointer none, .pointer none, .pointer none, .pointer none, .pointer none, .pointer none, .pointer none, .pointer none, .pointer none, .pointer none, .pointer none] 466) = V0 at *; clear hV; have hdd := hal.drew; have hOd : Ob V0.drew w.heap.size 466 #[.pointer none, .pointer none, .pointer none, .pointer none, .pointer none, .pointer none, .pointer none, .pointer none, .pointer none, .pointer none, .pointer none] := hO; refine Pu.regionM [(0, false), (1, false), (2, false), (3, false), (4, false), (5, false), (6, false), (7, false), (8, false), (9, false), (10, false), (11, false), (12, false), (13, false), (14, false), (15, false), (16, false), (17, false), (18, false), (19, false), (20, false), (21, false), (22, false), (23, false), (24, false), (25, false), (26, false), (27, false), (28, false), (29, false), (30, false), (31, false), (32, false), (33, false), (34, false), (35, false), (36, false), (37, false), (38, false), (39, false), (40, false), (41, false), (42, false), (43, false), (44, false), (45, true)] (fun V => V = V0.drew) hmx (by kernel_rfl) (by kernel_rfl) (by kernel_rfl) rfl rfl ?_
 simp only [Pu.named, List.filterMap_cons, List.filterMap_nil, zzJ, zzK, zzL, zzM]
 iterate 45 (first
   | (refine Pu.WalkM.off (by rfl) ?_; simp only [Act.put, zzA, zzB, zzC])
   | (apply Pu.WalkM.on (by rfl)
      · rintro V rfl
        go_wp2_with fail; refine ⟨rfl, ?_, rfl⟩
        try simp only [Act.put, zzA, zzB, zzC]
        rfl
      simp only [Act.put, zzA, zzB, zzC]))
 refine Pu.WalkM.make (by rfl) ?_; intro V hV; rw [hV]; clear hV V; have hO2 := hOd.all [.pointer (some ⟨g, 0, none⟩), .pointer (some ⟨g, 1, none⟩), .pointer (some ⟨g, 2, none⟩), .pointer (some ⟨g, 3, none⟩), .pointer (some ⟨g, 4, none⟩), .pointer (some ⟨g, 5, none⟩), .pointer (some ⟨g, 6, none⟩), .pointer (some ⟨g, 7, none⟩), .pointer (some ⟨g, 8, none⟩), .pointer (some ⟨g, 9, none⟩), .pointer (some ⟨g, 10, none⟩)] (by simp); have hbb := hdd.grown (grownBy_segs (b := w.heap.size) [.pointer (some ⟨g, 0, none⟩), .pointer (some ⟨g, 1, none⟩), .pointer (some ⟨g, 2, none⟩), .pointer (some ⟨g, 3, none⟩), .pointer (some ⟨g, 4, none⟩), .pointer (some ⟨g, 5, none⟩), .pointer (some ⟨g, 6, none⟩), .pointer (some ⟨g, 7, none⟩), .pointer (some ⟨g, 8, none⟩), .pointer (some ⟨g, 9, none⟩), .pointer (some ⟨g, 10, none⟩)] V0.drew 0) hdd.size (fun k e => by cases e; exact Nat.le_refl _); have hth := hOd.there (o := 0) (n := 11) (by simp); have hone : Array.all (#[.pointer (some ⟨g, 0, none⟩), .pointer (some ⟨g, 1, none⟩), .pointer (some ⟨g, 2, none⟩), .pointer (some ⟨g, 3, none⟩), .pointer (some ⟨g, 4, none⟩), .pointer (some ⟨g, 5, none⟩), .pointer (some ⟨g, 6, none⟩), .pointer (some ⟨g, 7, none⟩), .pointer (some ⟨g, 8, none⟩), .pointer (some ⟨g, 9, none⟩), .pointer (some ⟨g, 10, none⟩)] : Array Value) (fun x => x.oneCell') = true := by simp [Value.oneCell']
 go_wp2_with (refine wpList_store_mid rfl 466 (.tmp 2) (.tmp 47) rfl w.heap.size 0 #[.pointer (some ⟨g, 0, none⟩), .pointer (some ⟨g, 1, none⟩), .pointer (some ⟨g, 2, none⟩), .pointer (some ⟨g, 3, none⟩), .pointer (some ⟨g, 4, none⟩), .pointer (some ⟨g, 5, none⟩), .pointer (some ⟨g, 6, none⟩), .pointer (some ⟨g, 7, none⟩), .pointer (some ⟨g, 8, none⟩), .pointer (some ⟨g, 9, none⟩), .pointer (some ⟨g, 10, none⟩)] rfl rfl hth (by kernel_rfl) hone ?_); obtain ⟨V2, hV2⟩ : ∃ V2, V2 = V0.drew.setCells w.heap.size 0 [.pointer (some ⟨g, 0, none⟩), .pointer (some ⟨g, 1, none⟩), .pointer (some ⟨g, 2, none⟩), .pointer (some ⟨g, 3, none⟩), .pointer (some ⟨g, 4, none⟩), .pointer (some ⟨g, 5, none⟩), .pointer (some ⟨g, 6, none⟩), .pointer (some ⟨g, 7, none⟩), .pointer (some ⟨g, 8, none⟩), .pointer (some ⟨g, 9, none⟩), .pointer (some ⟨g, 10, none⟩)] := ⟨_, rfl⟩; rw [← hV2] at hO2 hbb; have hV2' : V0.drew.setCells w.heap.size 0 (Array.toList (#[.pointer (some ⟨g, 0, none⟩), .pointer (some ⟨g, 1, none⟩), .pointer (some ⟨g, 2, none⟩), .pointer (some ⟨g, 3, none⟩), .pointer (some ⟨g, 4, none⟩), .pointer (some ⟨g, 5, none⟩), .pointer (some ⟨g, 6, none⟩), .pointer (some ⟨g, 7, none⟩), .pointer (some ⟨g, 8, none⟩), .pointer (some ⟨g, 9, none⟩), .pointer (some ⟨g, 10, none⟩)] : Array Value)) = V2 := by rw [hV2]
 rw [hV2']; clear hV2 hV2' hth hone; refine ⟨rfl, undef, (fun _ => True), (fun V => V = V2), rfl, rfl, (fun _ _ => trivial), (.inl (by kernel_rfl)), Pu.WalkM.nil ?_⟩; intro V hV; rw [hV]; clear hV V; simp only [Act.put]; go_wp2; refine bodyPost_ret (v := .agg #[.pointer (some ⟨g, 0, none⟩), .pointer (some ⟨g, 1, none⟩), .pointer (some ⟨g, 2, none⟩), .pointer (some ⟨g, 3, none⟩), .pointer (some ⟨g, 4, none⟩), .pointer (some ⟨g, 5, none⟩), .pointer (some ⟨g, 6, none⟩), .pointer (some ⟨g, 7, none⟩), .pointer (some ⟨g, 8, none⟩), .pointer (some ⟨g, 9, none⟩), .pointer (some ⟨g, 10, none⟩)]) ?_ rfl ⟨rfl, hbb⟩; have c0 := hO2.cell (j := 0) (v := .pointer (some ⟨g, 0, none⟩)) rfl; have c1 := hO2.cell (j := 1) (v := .pointer (some ⟨g, 1, none⟩)) rfl; have c2 := hO2.cell (j := 2) (v := .pointer (some ⟨g, 2, none⟩)) rfl; have c3 := hO2.cell (j := 3) (v := .pointer (some ⟨g, 3, none⟩)) rfl; have c4 := hO2.cell (j := 4) (v := .pointer (some ⟨g, 4, none⟩)) rfl; have c5 := hO2.cell (j := 5) (v := .pointer (some ⟨g, 5, none⟩)) rfl; have c6 := hO2.cell (j := 6) (v := .pointer (some ⟨g, 6, none⟩)) rfl; have c7 := hO2.cell (j := 7) (v := .pointer (some ⟨g, 7, none⟩)) rfl; have c8 := hO2.cell (j := 8) (v := .pointer (some ⟨g, 8, none⟩)) rfl; have c9 := hO2.cell (j := 9) (v := .pointer (some ⟨g, 9, none⟩)) rfl; have c10 := hO2.cell (j := 10) (v := .pointer (some ⟨g, 10, none⟩)) rfl; simp [results, Tryz.f335, go_sem, c0, c1, c2, c3, c4, c5, c6, c7, c8, c9, c10]
theorem add_none (n : Int) (w : World) : Calls Tryz.prog 440 #[.pointer none, vI n] w fun e w' => e = .returned (.tuple #[]) ∧ w = w' := by
 go_enter Tryz.func440, Tryz.ntmps440
 go_wp2; go_end0; exact ⟨rfl, rfl⟩
theorem add_some (g j : Nat) (x n : Int) (w : World) (hc : w.cell? ⟨g, j, none⟩ = some (vI x)) (hz : w.frozen? ⟨g, j, none⟩ = false) :
   Calls Tryz.prog 440 #[.pointer (some ⟨g, j, none⟩), vI n] w fun e w' => e = .returned (.tuple #[]) ∧ w' = w.setCell ⟨g, j, none⟩ (vI (wrap64 (x + n))) := by
 go_enter Tryz.func440, Tryz.ntmps440
 go_wp2; go_end0; exact ⟨rfl, rfl⟩
def ptr (g : Nat) : Option Nat → Value
 | none => .pointer none
 | some j => .pointer (some ⟨g, j, none⟩)
theorem add_calls (g : Nat) (j : Option Nat) (n : Int) {r : Row} {w : World} (hr : OkRow r) (hj : ∀ k, j = some k → k < 11) (h : Ob w g 132 (rowC r)) :
   Calls Tryz.prog 440 #[ptr g j, vI n] w fun e w' => e = .returned (.tuple #[]) ∧ Ob w' g 132 (rowC (addR r j n)) ∧ w.grownBy w' (some g) := by
 cases j with
 | none =>
   refine (add_none n w).mono ?_; rintro e W ⟨rfl, rfl⟩; exact ⟨rfl, h, World.grownBy.refl _ _⟩
 | some j =>
   have hj := hj j rfl; refine (add_some g j _ n w (h.cell (rowC_get (by rw [hr.len]; exact hj))) (h.frozen j)).mono ?_; rintro e W ⟨rfl, rfl⟩; refine ⟨rfl, ?_, grownBy_set _ _ _ _⟩; have := h.set j (vI (wrap64 (at_ r j + n))); rw [rowC_set] at this; exact this
theorem road_cases (k : Int) : (k = 1 ∨ k = 2 ∨ k = 3 ∨ k = 4 ∨ k = 5 ∨ k = 6 ∨ k = 7 ∨ k = 8 ∨ k = 9 ∨ k = 10 ∨ k = 11) ∨ road k = (none, none, none) := by
 by_cases h : 1 ≤ k ∧ k ≤ 11
 · exact .inl (by omega)
 · refine .inr ?_
   unfold road; simp only [show ¬ k = 1 by omega, show ¬ k = 2 by omega, show ¬ k = 3 by omega, show ¬ k = 4 by omega, show ¬ k = 5 by omega, show ¬ k = 6 by omega, show ¬ k = 7 by omega, show ¬ k = 8 by omega, show ¬ k = 9 by omega, show ¬ k = 10 by omega, show ¬ k = 11 by omega, if_false]
def lt11 (j : Option Nat) : Bool := j.all fun j => decide (j < 11)
theorem lt11_lt {j : Option Nat} (h : lt11 j = true) : ∀ k, j = some k → k < 11 := by
 rintro k rfl; simpa [lt11] using h
theorem road_lt (k : Int) : (∀ j, (road k).1 = some j → j < 11) ∧ (∀ j, (road k).2.1 = some j → j < 11) ∧ (∀ j, (road k).2.2 = some j → j < 11) := by
 have h : lt11 (road k).1 = true ∧ lt11 (road k).2.1 = true ∧ lt11 (road k).2.2 = true := by
   rcases road_cases k with h | h
   · rcases h with rfl | rfl | rfl | rfl | rfl | rfl | rfl | rfl | rfl | rfl | rfl <;> decide
   · rw [h]; decide
 exact ⟨lt11_lt h.1, lt11_lt h.2.1, lt11_lt h.2.2⟩
theorem below_drewN (w : World) (n : Nat) : Below w.heap.size w (w.drewN n) := ⟨rfl, rfl, rfl, Nat.le_refl _, fun _ _ => rfl⟩
theorem road_calls (k : Int) (g : Nat) (w : World) :
   Calls Tryz.prog 439 #[vI k, .pointer (some ⟨g, 0, none⟩)] w fun e w' => e = .returned (.tuple #[ptr g (road k).1, ptr g (road k).2.1, ptr g (road k).2.2]) ∧ Below w.heap.size w w' := by
 by_cases e1 : k = 1
 · subst e1
   go_enter Tryz.func439, Tryz.ntmps439
   go_wp2
   go_quiet (fail)
   go_wp2
   go_ret3
   exact ⟨rfl, below_drewN _ _⟩
 have f1 : (k == 1) = false := by simpa using e1
 by_cases e2 : k = 2
 · subst e2
   go_enter Tryz.func439, Tryz.ntmps439
   go_wp2
   go_quiet (fail)
   go_wp2
   go_ret3
   exact ⟨rfl, below_drewN _ _⟩
 have f2 : (k == 2) = false := by simpa using e2
 by_cases e3 : k = 3
 · subst e3
   go_enter Tryz.func439, Tryz.ntmps439
   go_wp2
   go_quiet (fail)
   go_wp2
   go_ret3
   exact ⟨rfl, below_drewN _ _⟩
 have f3 : (k == 3) = false := by simpa using e3
 by_cases e4 : k = 4
 · subst e4
   go_enter Tryz.func439, Tryz.ntmps439
   go_wp2
   go_quiet (fail)
   go_wp2
   go_ret3
   exact ⟨rfl, below_drewN _ _⟩
 have f4 : (k == 4) = false := by simpa using e4
 by_cases e5 : k = 5
 · subst e5
   go_enter Tryz.func439, Tryz.ntmps439
   go_wp2
   go_quiet (fail)
   go_wp2
   go_ret3
   exact ⟨rfl, below_drewN _ _⟩
 have f5 : (k == 5) = false := by simpa using e5
 by_cases e6 : k = 6
 · subst e6
   go_enter Tryz.func439, Tryz.ntmps439
   go_wp2
   go_quiet (fail)
   go_wp2
   go_ret3
   exact ⟨rfl, below_drewN _ _⟩
 have f6 : (k == 6) = false := by simpa using e6
 by_cases e7 : k = 7
 · subst e7
   go_enter Tryz.func439, Tryz.ntmps439
   go_wp2
   go_quiet (fail)
   go_wp2
   go_ret3
   exact ⟨rfl, below_drewN _ _⟩
 have f7 : (k == 7) = false := by simpa using e7
 by_cases e8 : k = 8
 · subst e8
   go_enter Tryz.func439, Tryz.ntmps439
   go_wp2
   go_quiet (fail)
   go_wp2
   go_ret3
   exact ⟨rfl, below_drewN _ _⟩
 have f8 : (k == 8) = false := by simpa using e8
 by_cases e9 : k = 9
 · subst e9
   go_enter Tryz.func439, Tryz.ntmps439
   go_wp2
   go_quiet (fail)
   go_wp2
   go_ret3
   exact ⟨rfl, below_drewN _ _⟩
 have f9 : (k == 9) = false := by simpa using e9
 by_cases e10 : k = 10
 · subst e10
   go_enter Tryz.func439, Tryz.ntmps439
   go_wp2
   go_quiet (fail)
   go_wp2
   go_ret3
   exact ⟨rfl, below_drewN _ _⟩
 have f10 : (k == 10) = false := by simpa using e10
 by_cases e11 : k = 11
 · subst e11
   go_enter Tryz.func439, Tryz.ntmps439
   go_wp2
   go_quiet (fail)
   go_wp2
   go_ret3
   exact ⟨rfl, below_drewN _ _⟩
 have f11 : (k == 11) = false := by simpa using e11
 have hr : road k = (none, none, none) := by unfold road; simp [*]
 rw [hr]; clear e1; clear e2; clear e3; clear e4; clear e5; clear e6; clear e7; clear e8; clear e9; clear e10; clear e11
 go_enter Tryz.func439, Tryz.ntmps439
 go_wp2
 go_ret3
 exact ⟨rfl, Below.refl _ w⟩
theorem okAt_lo {k : Nat} (h : k < 4) (x : Int) : okAt k x = countOk x := by unfold okAt; rw [if_pos h]
theorem okAt_six (x : Int) : okAt 6 x = true := rfl
theorem okAt_hi {k : Nat} (h : ¬ k < 4) (h2 : k ≠ 6) (x : Int) : okAt k x = flowOk x := by unfold okAt; rw [if_neg h, if_neg h2]
theorem flowOk_no {x : Int} (h : x < 0 ∨ 72057594037927936 < x) : flowOk x = false := by
 unfold flowOk; rcases h with h | h
 · rw [decide_eq_false (p := 0 ≤ x) (by omega)]; rfl
 · rw [decide_eq_false (p := x ≤ 72057594037927936) (by omega)]; simp
theorem flowOk_yes {x : Int} (h : 0 ≤ x) (h2 : x ≤ 72057594037927936) : flowOk x = true := by
 unfold flowOk; rw [decide_eq_true h, decide_eq_true h2]
 rfl
theorem ix0 (g : Nat) (W : World) : (Instr.index 466 (.agg #[.pointer (some ⟨g, 0, none⟩), .pointer (some ⟨g, 1, none⟩), .pointer (some ⟨g, 2, none⟩), .pointer (some ⟨g, 3, none⟩), .pointer (some ⟨g, 4, none⟩), .pointer (some ⟨g, 5, none⟩), .pointer (some ⟨g, 6, none⟩), .pointer (some ⟨g, 7, none⟩), .pointer (some ⟨g, 8, none⟩), .pointer (some ⟨g, 9, none⟩), .pointer (some ⟨g, 10, none⟩)]) vO).run Tryz.prog W = .ok (.pointer (some ⟨g, 0, none⟩)) W := by kernel_rfl
theorem ix1 (g : Nat) (W : World) : (Instr.index 466 (.agg #[.pointer (some ⟨g, 0, none⟩), .pointer (some ⟨g, 1, none⟩), .pointer (some ⟨g, 2, none⟩), .pointer (some ⟨g, 3, none⟩), .pointer (some ⟨g, 4, none⟩), .pointer (some ⟨g, 5, none⟩), .pointer (some ⟨g, 6, none⟩), .pointer (some ⟨g, 7, none⟩), .pointer (some ⟨g, 8, none⟩), .pointer (some ⟨g, 9, none⟩), .pointer (some ⟨g, 10, none⟩)]) (vI 1)).run Tryz.prog W = .ok (.pointer (some ⟨g, 1, none⟩)) W := by kernel_rfl
theorem ix2 (g : Nat) (W : World) : (Instr.index 466 (.agg #[.pointer (some ⟨g, 0, none⟩), .pointer (some ⟨g, 1, none⟩), .pointer (some ⟨g, 2, none⟩), .pointer (some ⟨g, 3, none⟩), .pointer (some ⟨g, 4, none⟩), .pointer (some ⟨g, 5, none⟩), .pointer (some ⟨g, 6, none⟩), .pointer (some ⟨g, 7, none⟩), .pointer (some ⟨g, 8, none⟩), .pointer (some ⟨g, 9, none⟩), .pointer (some ⟨g, 10, none⟩)]) (vI 2)).run Tryz.prog W = .ok (.pointer (some ⟨g, 2, none⟩)) W := by kernel_rfl
theorem ix3 (g : Nat) (W : World) : (Instr.index 466 (.agg #[.pointer (some ⟨g, 0, none⟩), .pointer (some ⟨g, 1, none⟩), .pointer (some ⟨g, 2, none⟩), .pointer (some ⟨g, 3, none⟩), .pointer (some ⟨g, 4, none⟩), .pointer (some ⟨g, 5, none⟩), .pointer (some ⟨g, 6, none⟩), .pointer (some ⟨g, 7, none⟩), .pointer (some ⟨g, 8, none⟩), .pointer (some ⟨g, 9, none⟩), .pointer (some ⟨g, 10, none⟩)]) (vI 3)).run Tryz.prog W = .ok (.pointer (some ⟨g, 3, none⟩)) W := by kernel_rfl
theorem ix4 (g : Nat) (W : World) : (Instr.index 466 (.agg #[.pointer (some ⟨g, 0, none⟩), .pointer (some ⟨g, 1, none⟩), .pointer (some ⟨g, 2, none⟩), .pointer (some ⟨g, 3, none⟩), .pointer (some ⟨g, 4, none⟩), .pointer (some ⟨g, 5, none⟩), .pointer (some ⟨g, 6, none⟩), .pointer (some ⟨g, 7, none⟩), .pointer (some ⟨g, 8, none⟩), .pointer (some ⟨g, 9, none⟩), .pointer (some ⟨g, 10, none⟩)]) (vI 4)).run Tryz.prog W = .ok (.pointer (some ⟨g, 4, none⟩)) W := by kernel_rfl
theorem ix5 (g : Nat) (W : World) : (Instr.index 466 (.agg #[.pointer (some ⟨g, 0, none⟩), .pointer (some ⟨g, 1, none⟩), .pointer (some ⟨g, 2, none⟩), .pointer (some ⟨g, 3, none⟩), .pointer (some ⟨g, 4, none⟩), .pointer (some ⟨g, 5, none⟩), .pointer (some ⟨g, 6, none⟩), .pointer (some ⟨g, 7, none⟩), .pointer (some ⟨g, 8, none⟩), .pointer (some ⟨g, 9, none⟩), .pointer (some ⟨g, 10, none⟩)]) (vI 5)).run Tryz.prog W = .ok (.pointer (some ⟨g, 5, none⟩)) W := by kernel_rfl
theorem ix6 (g : Nat) (W : World) : (Instr.index 466 (.agg #[.pointer (some ⟨g, 0, none⟩), .pointer (some ⟨g, 1, none⟩), .pointer (some ⟨g, 2, none⟩), .pointer (some ⟨g, 3, none⟩), .pointer (some ⟨g, 4, none⟩), .pointer (some ⟨g, 5, none⟩), .pointer (some ⟨g, 6, none⟩), .pointer (some ⟨g, 7, none⟩), .pointer (some ⟨g, 8, none⟩), .pointer (some ⟨g, 9, none⟩), .pointer (some ⟨g, 10, none⟩)]) (vI 6)).run Tryz.prog W = .ok (.pointer (some ⟨g, 6, none⟩)) W := by kernel_rfl
theorem ix7 (g : Nat) (W : World) : (Instr.index 466 (.agg #[.pointer (some ⟨g, 0, none⟩), .pointer (some ⟨g, 1, none⟩), .pointer (some ⟨g, 2, none⟩), .pointer (some ⟨g, 3, none⟩), .pointer (some ⟨g, 4, none⟩), .pointer (some ⟨g, 5, none⟩), .pointer (some ⟨g, 6, none⟩), .pointer (some ⟨g, 7, none⟩), .pointer (some ⟨g, 8, none⟩), .pointer (some ⟨g, 9, none⟩), .pointer (some ⟨g, 10, none⟩)]) (vI 7)).run Tryz.prog W = .ok (.pointer (some ⟨g, 7, none⟩)) W := by kernel_rfl
theorem ix8 (g : Nat) (W : World) : (Instr.index 466 (.agg #[.pointer (some ⟨g, 0, none⟩), .pointer (some ⟨g, 1, none⟩), .pointer (some ⟨g, 2, none⟩), .pointer (some ⟨g, 3, none⟩), .pointer (some ⟨g, 4, none⟩), .pointer (some ⟨g, 5, none⟩), .pointer (some ⟨g, 6, none⟩), .pointer (some ⟨g, 7, none⟩), .pointer (some ⟨g, 8, none⟩), .pointer (some ⟨g, 9, none⟩), .pointer (some ⟨g, 10, none⟩)]) (vI 8)).run Tryz.prog W = .ok (.pointer (some ⟨g, 8, none⟩)) W := by kernel_rfl
theorem ix9 (g : Nat) (W : World) : (Instr.index 466 (.agg #[.pointer (some ⟨g, 0, none⟩), .pointer (some ⟨g, 1, none⟩), .pointer (some ⟨g, 2, none⟩), .pointer (some ⟨g, 3, none⟩), .pointer (some ⟨g, 4, none⟩), .pointer (some ⟨g, 5, none⟩), .pointer (some ⟨g, 6, none⟩), .pointer (some ⟨g, 7, none⟩), .pointer (some ⟨g, 8, none⟩), .pointer (some ⟨g, 9, none⟩), .pointer (some ⟨g, 10, none⟩)]) (vI 9)).run Tryz.prog W = .ok (.pointer (some ⟨g, 9, none⟩)) W := by kernel_rfl
theorem ix10 (g : Nat) (W : World) : (Instr.index 466 (.agg #[.pointer (some ⟨g, 0, none⟩), .pointer (some ⟨g, 1, none⟩), .pointer (some ⟨g, 2, none⟩), .pointer (some ⟨g, 3, none⟩), .pointer (some ⟨g, 4, none⟩), .pointer (some ⟨g, 5, none⟩), .pointer (some ⟨g, 6, none⟩), .pointer (some ⟨g, 7, none⟩), .pointer (some ⟨g, 8, none⟩), .pointer (some ⟨g, 9, none⟩), .pointer (some ⟨g, 10, none⟩)]) (vI 10)).run Tryz.prog W = .ok (.pointer (some ⟨g, 10, none⟩)) W := by kernel_rfl
theorem index11 (g k : Nat) (hk : k < 11) (W : World) : (Instr.index 466 (.agg #[.pointer (some ⟨g, 0, none⟩), .pointer (some ⟨g, 1, none⟩), .pointer (some ⟨g, 2, none⟩), .pointer (some ⟨g, 3, none⟩), .pointer (some ⟨g, 4, none⟩), .pointer (some ⟨g, 5, none⟩), .pointer (some ⟨g, 6, none⟩), .pointer (some ⟨g, 7, none⟩), .pointer (some ⟨g, 8, none⟩), .pointer (some ⟨g, 9, none⟩), .pointer (some ⟨g, 10, none⟩)]) (vI (k : Int))).run Tryz.prog W = .ok (.pointer (some ⟨g, k, none⟩)) W := by
 have h : k = 0 ∨ k = 1 ∨ k = 2 ∨ k = 3 ∨ k = 4 ∨ k = 5 ∨ k = 6 ∨ k = 7 ∨ k = 8 ∨ k = 9 ∨ k = 10 := by omega
 rcases h with rfl | rfl | rfl | rfl | rfl | rfl | rfl | rfl | rfl | rfl | rfl
 · exact ix0 g W
 · exact ix1 g W
 · exact ix2 g W
 · exact ix3 g W
 · exact ix4 g W
 · exact ix5 g W
 · exact ix6 g W
 · exact ix7 g W
 · exact ix8 g W
 · exact ix9 g W
 · exact ix10 g W
theorem each_calls (g : Nat) {r : Row} {w : World} (hr : OkRow r) (h : Ob w g 132 (rowC r)) :
   Calls Tryz.prog 426 #[.pointer (some ⟨g, 0, none⟩)] w fun e w' => e = .returned (.bool (eachR r)) ∧ Below w.heap.size w w' := by
 go_enter Tryz.func426, Tryz.ntmps426
 go_wp2_with fail; refine (numbers_calls g w).mono ?_; rintro e W ⟨rfl, hb⟩; have H1 := hdd (h.same hb); have HR := hdd hr; clear h hr; go_wp2
 go_loop [7] (fun i => ∃ k : Nat, k ≤ 11 ∧ i = vI k ∧ ∀ j, j < k → okAt j (at_ r j) = true) (fun i => 11 - (intOf i).toNat)
 case atStart => exact ⟨0, by omega, rfl, fun j hj => by omega⟩
 case round =>
   obtain ⟨k, hk, rfl, hN⟩ := hrel; have HN := hdd hN; clear hN
   by_cases hlt : k < 11
   · have hcell := H1.out.cell (rowC_get (j := k) (by rw [HR.out.len]; exact hlt))
     have hidx := fun W => index11 g k hlt W
     have HX := hdd (show ∀ x, at_ r k = x → okAt k x = true → ∀ j, j < k + 1 → okAt j (at_ r j) = true from fun x hx h j hj => by
       rcases Nat.lt_or_ge j k with h1 | h1
       · exact HN.out j h1
       · obtain rfl : j = k := by omega
         rw [hx]; exact h)
     have HNO := hdd (show ∀ x, at_ r k = x → okAt k x = false → eachR r = false from fun x hx h => eachR_no hlt (by rw [hx]; exact h)); have hbx := HR.out.at_ k; obtain ⟨x, hx⟩ : ∃ x, at_ r k = x := ⟨_, rfl⟩; rw [hx] at hcell hbx; have HX1 := hdd (HX.out x hx); have HNO1 := hdd (HNO.out x hx); clear hx HX HNO; have dk : decide ((k : Int) < 11) = true := by simp; omega
     by_cases h4 : k < 4
     · have d1 : decide ((k : Int) < 4) = true := by simp; omega
       have d2 : decide ((k : Int) ≥ 4) = false := by simp; omega
       have HOK := hdd (okAt_lo h4 x); have cN := hdd (fun W => count_calls x W); generalize countOk x = c at *
       cases c with
       | false =>
         go_wp2_with (go_at_call 199; refine (cN.out _).mono ?_; rintro e W2 ⟨rfl, rfl⟩); go_ret; exact ⟨ret1 (boo (HNO1.out HOK.out).symm), hb⟩
       | true =>
         have HFIN := hdd (HX1.out HOK.out); go_wp2_with (go_at_call 199; refine (cN.out _).mono ?_; rintro e W2 ⟨rfl, rfl⟩)
         go_round
         case rel => exact ⟨k + 1, by omega, by go_num, HFIN.out⟩
         case measure => simp [intOf]; omega
     · have d1 : decide ((k : Int) < 4) = false := by simp; omega
       have d2 : decide ((k : Int) ≥ 4) = true := by simp; omega
       by_cases h6 : k = 6
       · have d3 : ((k : Int) != 6) = false := by simp; omega
         have HFIN := hdd (HX1.out (by rw [h6]; exact okAt_six x)); clear h4 h6; go_wp2
         go_round
         case rel => exact ⟨k + 1, by omega, by go_num, HFIN.out⟩
         case measure => simp [intOf]; omega
       · have d3 : ((k : Int) != 6) = true := by rw [bne_iff_ne]; omega
         have HOK := hdd (okAt_hi h4 h6 x); clear h4 h6
         by_cases hx0 : x < 0
         · have HNN := hdd (HNO1.out (HOK.out.trans (flowOk_no (.inl hx0))))
           go_wp2; go_ret; exact ⟨ret1 (boo HNN.out.symm), hb⟩
         · by_cases hx1 : x > 72057594037927936
           · have HNN := hdd (HNO1.out (HOK.out.trans (flowOk_no (.inr hx1))))
             go_wp2; go_ret; exact ⟨ret1 (boo HNN.out.symm), hb⟩
           · have HFIN := hdd (HX1.out (HOK.out.trans (flowOk_yes (by omega) (by omega))))
             go_wp2
             go_round
             case rel => exact ⟨k + 1, by omega, by go_num, HFIN.out⟩
             case measure => simp [intOf]; omega
   · obtain rfl : k = 11 := by omega
     have HT := hdd (eachR_all HN.out); go_wp2; go_ret; exact ⟨ret1 (boo HT.out.symm), hb⟩
theorem right_calls (g : Nat) {r : Row} {w : World} (hr : OkRow r) (h : Ob w g 132 (rowC r)) :
   Calls Tryz.prog 373 #[.pointer (some ⟨g, 0, none⟩)] w fun e w' => e = .returned (.bool (rightR r)) ∧ Below w.heap.size w w' := by
 have HRT := hdd (show rightR r = (eachR r && countOk (at_ r 0 + at_ r 1 + at_ r 2 + at_ r 3)) from rfl); have hdr := (Below.refl w.heap.size w).drew; have hd : Ob w.drew g 132 (rowC r) := h; have cE := hdd (each_calls g hr hd); have HB := hdd (fun (he : eachR r = true) => (⟨eachR_four he (show 0 < 4 by omega), eachR_four he (show 1 < 4 by omega), eachR_four he (show 2 < 4 by omega), eachR_four he (show 3 < 4 by omega)⟩ : (_ ∧ _) ∧ (_ ∧ _) ∧ (_ ∧ _) ∧ (_ ∧ _))); have hl := hr.len; have HC := hdd (fun (V : World) (hV : Ob V g 132 (rowC r)) => (⟨hV.cell (rowC_get (j := 0) (by omega)), hV.cell (rowC_get (j := 1) (by omega)), hV.cell (rowC_get (j := 2) (by omega)), hV.cell (rowC_get (j := 3) (by omega))⟩ : _ ∧ _ ∧ _ ∧ _)); generalize at_ r 0 = x0 at *; generalize at_ r 1 = x1 at *; generalize at_ r 2 = x2 at *; generalize at_ r 3 = x3 at *; have cN := hdd (fun W => count_calls (x0 + x1 + x2 + x3) W); generalize countOk (x0 + x1 + x2 + x3) = cc at *; have HO := hdd hd; clear hl h hr
 go_enter Tryz.func373, Tryz.ntmps373
 go_wp2_with fail
 cases hE : eachR r with
 | false =>
   rw [hE] at cE HRT; clear HB hE; refine Pu.regionM [(0, false), (1, true), (2, false), (3, false), (4, false), (5, false), (6, false), (7, false), (8, false), (9, false), (10, false), (11, false), (12, false), (13, false), (14, false), (15, false), (16, false), (17, false), (18, false), (19, false), (20, false), (21, false), (22, false), (23, false), (24, false), (25, false), (26, false), (27, false), (28, false)] (fun V => Ob V g 132 (rowC r)) hmx (by kernel_rfl) (by kernel_rfl) (by kernel_rfl) hd rfl ?_; simp only [Pu.named, List.filterMap_cons, List.filterMap_nil, zzJ, zzK, zzL, zzM]
   iterate 1 (first
     | (refine Pu.WalkM.off (by rfl) ?_; simp only [Act.put, zzA, zzB, zzC])
     | (apply Pu.WalkM.on (by rfl)
        · intro V hV
          go_wp2_with fail; refine ⟨rfl, ?_, rfl⟩
          try simp only [Act.put, zzA, zzB, zzC]
          rfl
        simp only [Act.put, zzA, zzB, zzC]))
   refine Pu.WalkM.make (by rfl) ?_; intro V hV; rw [hV]; clear hV V; go_wp2_with (go_at_call 426; refine cE.out.mono ?_; rintro e W2 ⟨rfl, hb⟩); have hO2 := HO.out.below (hb.mono (Nat.le_refl _)) HO.out.lt; have HBL := hdd (hdr.trans (hb.mono (Nat.le_refl _))); clear hb cE hdr; refine Pu.mk3 (.bool false) hO2 ?_ ?_
   · try simp only [Act.put, zzA, zzB, zzC]
   try simp only [Act.put, zzA, zzB, zzC]
   iterate 27 (first
     | (refine Pu.WalkM.off (by rfl) ?_; simp only [Act.put, zzA, zzB, zzC])
     | (apply Pu.WalkM.on (by rfl)
        · intro V hV
          go_wp2_with fail; refine ⟨rfl, ?_, rfl⟩
          try simp only [Act.put, zzA, zzB, zzC]
          rfl
        simp only [Act.put, zzA, zzB, zzC]))
   refine Pu.WalkM.nil ?_; intro V hV; rw [hV]; clear hV V; clear hO2; go_wp2; go_ret; exact ⟨ret1 (boo (by rw [HRT.out]; rfl)), HBL.out⟩
 | true =>
   obtain ⟨⟨b0, c0⟩, ⟨b1, c1⟩, ⟨b2, c2⟩, b3, c3⟩ := HB.out hE; rw [hE] at cE HRT; clear HB hE; refine Pu.regionM [(0, false), (1, true), (2, false), (3, false), (4, false), (5, false), (6, false), (7, false), (8, false), (9, false), (10, false), (11, false), (12, false), (13, false), (14, false), (15, false), (16, false), (17, false), (18, false), (19, false), (20, false), (21, false), (22, false), (23, false), (24, false), (25, false), (26, false), (27, false), (28, false)] (fun V => Ob V g 132 (rowC r)) hmx (by kernel_rfl) (by kernel_rfl) (by kernel_rfl) hd rfl ?_; simp only [Pu.named, List.filterMap_cons, List.filterMap_nil, zzJ, zzK, zzL, zzM]
   iterate 1 (first
     | (refine Pu.WalkM.off (by rfl) ?_; simp only [Act.put, zzA, zzB, zzC])
     | (apply Pu.WalkM.on (by rfl)
        · intro V hV
          go_wp2_with fail; refine ⟨rfl, ?_, rfl⟩
          try simp only [Act.put, zzA, zzB, zzC]
          rfl
        simp only [Act.put, zzA, zzB, zzC]))
   refine Pu.WalkM.make (by rfl) ?_; intro V hV; rw [hV]; clear hV V; go_wp2_with (go_at_call 426; refine cE.out.mono ?_; rintro e W2 ⟨rfl, hb⟩); have hO2 := HO.out.below (hb.mono (Nat.le_refl _)) HO.out.lt; have HBL := hdd (hdr.trans (hb.mono (Nat.le_refl _))); clear hb cE hdr; refine Pu.mk3 (.bool true) hO2 ?_ ?_
   · try simp only [Act.put, zzA, zzB, zzC]
   try simp only [Act.put, zzA, zzB, zzC]
   iterate 27 (first
     | (refine Pu.WalkM.off (by rfl) ?_; simp only [Act.put, zzA, zzB, zzC])
     | (apply Pu.WalkM.on (by rfl)
        · intro V hV
          obtain ⟨y0, y1, y2, y3⟩ := HC.out V hV; go_wp2_with (go_at_call 199; refine (cN.out _).mono ?_; rintro e W3 ⟨rfl, rfl⟩); refine ⟨rfl, ?_, rfl⟩
          try simp only [Act.put, zzA, zzB, zzC]
          rfl
        simp only [Act.put, zzA, zzB, zzC]))
   refine Pu.WalkM.nil ?_; intro V hV; rw [hV]; clear hV V; clear hO2; go_wp2; go_ret; exact ⟨ret1 (boo (by rw [HRT.out]; rfl)), HBL.out⟩
end
end Sk
section
open Go.RowKit Go.Maps
section
variable {P : Program} {w : World} {ops : Array Oper} {rest : List Oper} {o : Oper} {a : Act} {Q : Exit → Act → World → Prop} {F : Fence} {N : Nat}
theorem store_ob_run {g : Nat} {t ty : TypeId} {cs0 cells : Array Value} (h : Ob w g t cs0) (hs : cells.size = cs0.size) (hi : (P.info? ty).map (·.size) = some cells.size) (h1 : cells.all (·.oneCell') = true) :
   ∃ w', (Instr.storeAt ty (.pointer (some ⟨g, 0, none⟩)) (.agg cells)).run P w = .ok () w' ∧ Ob w' g t cells ∧ w.grownBy w' (some g) :=
 ⟨_, run_storeAt_mid w g 0 ty cells (h.there (by omega)) hi h1, by have := h.all cells.toList (by simpa using hs); simpa using this, grownBy_segs _ _ _⟩
theorem load_ob_run {g : Nat} {t ty : TypeId} {cells : Array Value} {d : TypeDesc} (h : Ob w g t cells) (hu : P.underlying ty = some d) (hd : d.isRow = true) (hi : (P.info? ty).map (·.size) = some cells.size) :
   (Instr.loadAt ty (.pointer (some ⟨g, 0, none⟩))).run P w = .ok (.agg cells) w := by
 have := run_loadAt_mid (P := P) w g 0 ty cells.toList d (h.range (fun j v hv => by simpa using hv)) hu hd (by simpa using hi); simpa using this
theorem wpListIn_store_ob (hgd : o.guard = none) (ty : TypeId) (x y : Operand) (hop : o.op = .store ty x y) {g : Nat} {t : TypeId} {cs0 cells : Array Value} (hx : a.eval x = .pointer (some ⟨g, 0, none⟩)) (hy : a.eval y = .agg cells)
   (h : Ob w g t cs0) (hs : cells.size = cs0.size) (hi : (P.info? ty).map (·.size) = some cells.size) (h1 : cells.all (·.oneCell') = true)
   (hK : ∀ w', Ob w' g t cells → w.grownBy w' (some g) → wpListIn F N P ops Q rest (a.put o.dst undef) w') : wpListIn F N P ops Q (o :: rest) a w := by
 refine wpListIn_plain hgd fun K' hK' => ?_
 obtain ⟨w', hrun, r1, r2⟩ := store_ob_run (P := P) h hs hi h1; unfold Oper.wpIn; refine ⟨by simp [Oper.about, hop], ?_⟩; rw [Oper.semAt_eq _ _ _ (by rw [hop]; intro c hc; cases hc)]; simp [execOp, hop, hx, hy, hrun, Result.andThen]; exact hK' _ _ (hK w' r1 r2)
theorem wpList_store_ob (hgd : o.guard = none) (ty : TypeId) (x y : Operand) (hop : o.op = .store ty x y) {g : Nat} {t : TypeId} {cs0 cells : Array Value} (hx : a.eval x = .pointer (some ⟨g, 0, none⟩)) (hy : a.eval y = .agg cells)
   (h : Ob w g t cs0) (hs : cells.size = cs0.size) (hi : (P.info? ty).map (·.size) = some cells.size) (h1 : cells.all (·.oneCell') = true)
   (hK : ∀ w', Ob w' g t cells → w.grownBy w' (some g) → wpList P ops Q rest (a.put o.dst undef) w') : wpList P ops Q (o :: rest) a w := by
 refine wpList_plain hgd fun K' hK' => ?_
 obtain ⟨w', hrun, r1, r2⟩ := store_ob_run (P := P) h hs hi h1; unfold Oper.wp; simp [execOp, hop, hx, hy, hrun, Result.andThen]; exact hK' _ _ (hK w' r1 r2)
theorem wpListIn_load_ob (hgd : o.guard = none) (ty : TypeId) (x : Operand) (hop : o.op = .load ty x) {g : Nat} {t : TypeId} {cells : Array Value} (hx : a.eval x = .pointer (some ⟨g, 0, none⟩)) (d : TypeDesc)
   (h : Ob w g t cells) (hu : P.underlying ty = some d) (hd : d.isRow = true) (hi : (P.info? ty).map (·.size) = some cells.size)
   (hK : wpListIn F N P ops Q rest (a.put o.dst (.agg cells)) w) : wpListIn F N P ops Q (o :: rest) a w := by
 refine wpListIn_plain hgd fun K' hK' => ?_
 have hrun := load_ob_run (P := P) h hu hd hi; unfold Oper.wpIn; refine ⟨by simp [Oper.about, hop], ?_⟩; rw [Oper.semAt_eq _ _ _ (by rw [hop]; intro c hc; cases hc)]; simp [execOp, hop, hx, hrun, Result.andThen]; exact hK' _ _ hK
theorem wpList_load_ob (hgd : o.guard = none) (ty : TypeId) (x : Operand) (hop : o.op = .load ty x) {g : Nat} {t : TypeId} {cells : Array Value} (hx : a.eval x = .pointer (some ⟨g, 0, none⟩)) (d : TypeDesc)
   (h : Ob w g t cells) (hu : P.underlying ty = some d) (hd : d.isRow = true) (hi : (P.info? ty).map (·.size) = some cells.size)
   (hK : wpList P ops Q rest (a.put o.dst (.agg cells)) w) : wpList P ops Q (o :: rest) a w := by
 refine wpList_plain hgd fun K' hK' => ?_
 have hrun := load_ob_run (P := P) h hu hd hi; unfold Oper.wp; simp [execOp, hop, hx, hrun, Result.andThen]; exact hK' _ _ hK
end
section
variable {κ : Type} [DecidableEq κ] {K : KeyK κ} {P : Program} {w : World} {b : Nat} {m : List (κ × Value)} {ops : Array Oper} {rest : List Oper} {o : Oper} {a : Act} {Q : Exit → Act → World → Prop} {F : Fence} {N : Nat}
theorem wpListIn_look_ok_g (hg : o.guard = none) (x y : Operand) (tm : TypeId) (hop : o.op = Op.lookup tm x y true) (t e : TypeId) (KK : Keyed P t) (ht : P.underlying tm = some (.map t e))
   (hm : a.eval x = .map (some b)) (h : GMap K w P t b m) {z : Value} (hz : (zeroValue e).run P w = .ok z w) (key : Value) (k : κ) (hx : a.eval y = key) (hkey : keyOf P t key = some (K.lit k))
   (r : Value) (bb : Bool) (hr : (mGet m k).getD z = r) (hb : (mGet m k).isSome = bb) (hK : wpListIn F N P ops Q rest (a.put o.dst (.tuple #[r, .bool bb])) w) :
   wpListIn F N P ops Q (o :: rest) a w := by
 refine wpListIn_plain hg fun K' hK' => ?_
 have hrun := h.look_ok KK ht hz hkey; rw [hr, hb] at hrun; unfold Oper.wpIn; refine ⟨by simp [Oper.about, hop], ?_⟩; rw [Oper.semAt_eq _ _ _ (by rw [hop]; intro c hc; cases hc)]; simp [execOp, hop, hm, hx, hrun, Result.andThen]; exact hK' _ _ hK
end
end
namespace Sk
section
open Go.RowKit Go.Maps
open It Al Kp
attribute [local go_sem] Oper.semAt_some
def hasAll (s : Stk) (l : List It.Item) : Bool := l.all fun x => (aGet s (key x)).isSome
def enough (s : Stk) (j : Nat) (l : List It.Item) : Bool := l.all fun x => !decide (at_ ((aGet s (key x)).getD row0) j < x.2)
def mayS (s : Stk) (k : Int) (l : List It.Item) : Int := match (road k).1 with
 | none => 0
 | some j => if hasAll s l then (if enough s j l then 0 else 51) else 71
theorem hasAll_snoc (s : Stk) (l : List It.Item) (x : It.Item) : hasAll s (l ++ [x]) = (hasAll s l && (aGet s (key x)).isSome) := by simp [hasAll]
theorem enough_snoc (s : Stk) (j : Nat) (l : List It.Item) (x : It.Item) : enough s j (l ++ [x]) = (enough s j l && !decide (at_ ((aGet s (key x)).getD row0) j < x.2)) := by simp [enough]
theorem hasAll_prefix {s : Stk} {p l : List It.Item} (h : p <+: l) (hp : hasAll s p = false) : hasAll s l = false := by
 obtain ⟨r, rfl⟩ := h; unfold hasAll at hp ⊢; rw [List.all_append, hp]
 rfl
theorem enough_prefix {s : Stk} {j : Nat} {p l : List It.Item} (h : p <+: l) (hp : enough s j p = false) : enough s j l = false := by
 obtain ⟨r, rfl⟩ := h; unfold enough at hp ⊢; rw [List.all_append, hp]
 rfl
theorem zeroRow (w : World) : (zeroValue 132).run Tryz.prog w = .ok (rowV row0) w := by kernel_rfl
theorem row_info : (Tryz.prog.info? 132).map (·.size) = some 11 := by kernel_rfl
theorem rowC_size {r : Row} (h : OkRow r) : (rowC r).size = 11 := by unfold rowC; simp [h.len]
theorem rowC_one (r : Row) : (rowC r).all (·.oneCell') = true := by unfold rowC; simp [Value.oneCell']
theorem row_size {r : Row} (h : OkRow r) : (Tryz.prog.info? 132).map (·.size) = some (rowC r).size := by rw [rowC_size h]; exact row_info
theorem StkAt.row {w : World} {base b mb : Nat} {s : Stk} (h : StkAt w base b mb s) (k : Key) : OkRow ((aGet s k).getD row0) := by
 cases hg : aGet s k with
 | none => exact OkRow.zero
 | some r => exact (h.ok _ (aGet_mem hg)).row
theorem look_row (s : Stk) (k : Key) : (mGet (gm rowV s) k).getD (rowV row0) = rowV ((aGet s k).getD row0) ∧ (mGet (gm rowV s) k).isSome = (aGet s k).isSome := by
 rw [gm_get]
 cases aGet s k <;> exact ⟨rfl, rfl⟩
theorem may_calls {w : World} {base b mb : Nat} {s : Stk} (h : StkAt w base b mb s) (k : Int) (L : List It.Item) (v : Value) (hI : ItemsAt w 0 w.heap.size v L) (hF : Fits L) :
   Calls Tryz.prog 438 #[.pointer (some ⟨b, 0, none⟩), vI k, v] w fun e w' => e = .returned (vI (mayS s k L)) ∧ Below w.heap.size w w' := by
 obtain ⟨A, c, rfl, hc1, hc2⟩ := hI.form; unfold maxLen at hc2; refine (callsIn_wide (n := 6)).1 ?_; refine callsIn_of_wp_marks Tryz.func438 rfl trivial ?_ rfl; simp only [Tryz.ntmps438, List.size_toArray, List.length_cons, List.length_nil, Nat.reduceAdd, Nat.reduceSub, Array.replicate_succ, Array.replicate_zero, List.push_toArray, List.append_toArray, List.nil_append, List.cons_append]; gi_wp2; have o0 := (((Ob.new w 72 #[.pointer (some ⟨b, 0, none⟩)]).alloc (.cells #[vI k] 3)).alloc (.cells #[vO] 33)).alloc (.cells #[vO, vO, vO, vO, vO, vO, vO, vO, vO, vO, vO] 132); have o1 := ((Ob.new (w.alloc (.cells #[.pointer (some ⟨b, 0, none⟩)] 72)) 3 #[vI k]).alloc (.cells #[vO] 33)).alloc (.cells #[vO, vO, vO, vO, vO, vO, vO, vO, vO, vO, vO] 132); have o2 := (Ob.new ((w.alloc (.cells #[.pointer (some ⟨b, 0, none⟩)] 72)).alloc (.cells #[vI k] 3)) 33 #[vO]).alloc (.cells #[vO, vO, vO, vO, vO, vO, vO, vO, vO, vO, vO] 132); have hB4 : Below w.heap.size w ((((w.alloc (.cells #[.pointer (some ⟨b, 0, none⟩)] 72)).alloc (.cells #[vI k] 3)).alloc (.cells #[vO] 33)).alloc (.cells #[vO, vO, vO, vO, vO, vO, vO, vO, vO, vO, vO] 132)) := ((((Below.refl _ w).alloc (Nat.le_refl _) _).alloc (by simp) _).alloc (by simp; omega) _).alloc (by simp; omega) _; simp only [World.size_alloc] at o1 o2; have hs4 : w.heap.size + 4 = ((((w.alloc (.cells #[.pointer (some ⟨b, 0, none⟩)] 72)).alloc (.cells #[vI k] 3)).alloc (.cells #[vO] 33)).alloc (.cells #[vO, vO, vO, vO, vO, vO, vO, vO, vO, vO, vO] 132)).heap.size := by simp
 generalize ((((w.alloc (.cells #[.pointer (some ⟨b, 0, none⟩)] 72)).alloc (.cells #[vI k] 3)).alloc (.cells #[vO] 33)).alloc (.cells #[vO, vO, vO, vO, vO, vO, vO, vO, vO, vO, vO] 132)) = w4 at *; have cR := road_calls k (w.heap.size + 1 + 1 + 1) w4; have HMD := hdd (show mayS s k L = match (road k).1 with | none => 0 | some j => if hasAll s L then (if enough s j L then 0 else 51) else 71 from rfl); have hlt := (road_lt k).1; obtain ⟨M, hM⟩ : ∃ M, M = mayS s k L := ⟨_, rfl⟩; rw [← hM] at HMD; have HMQ := hdd hM; clear hM; obtain ⟨jo, hjo⟩ : ∃ jo, jo = (road k).1 := ⟨_, rfl⟩; rw [← hjo] at cR HMD hlt; have HJO := hdd hjo; clear hjo; generalize ptr (w.heap.size + 1 + 1 + 1) (road k).2.1 = pv1 at *; generalize ptr (w.heap.size + 1 + 1 + 1) (road k).2.2 = pv2 at *; refine ⟨trivial, (callsIn_wide.2 cR).mono ?_⟩; rintro e w5 ⟨rfl, hb5⟩; replace o0 := o0.same hb5; replace o1 := o1.same hb5; replace o2 := o2.same hb5; have hB5 := hB4.trans (hb5.mono hB4.size); have hs5 : w.heap.size + 4 ≤ w5.heap.size := by have := hb5.size; omega
 clear hB4 hb5 hs4
 cases jo with
 | none =>
   dsimp only [ptr]; have c2 := o2.cell (j := 0) (v := vO) rfl; have f2 := o2.frozen 0; have o2' := o2.set 0 vO; have hBB := hB5.grown (grownBy_set w5 (w.heap.size + 1 + 1) 0 vO) hB5.size (fun k e => by cases e; omega); gi_wp2; clear c2 f2 cR; have c2 := (show Ob (w5.setCell ⟨w.heap.size + 1 + 1, 0, none⟩ vO) (w.heap.size + 1 + 1) 33 #[vO] from o2').cell (j := 0) (v := vO) rfl; refine ⟨vO, ?_, by rw [← HMQ.out, HMD.out], hBB⟩; simp [results, Tryz.f438, go_sem, c2]
 | some j =>
   dsimp only [ptr]; dsimp only at HMD; have hj := hlt j rfl; clear hlt cR
   gi_wp2_with (refine ⟨trivial, ?_⟩; gi_at_call 144; refine (callsIn_wide.2 (all_calls A _ c _)).mono ?_; rintro e w' ⟨rfl, rfl⟩)
   have o3 := Ob.new w5 30 #[.slice A L.length c]; replace o0 := o0.alloc (.cells #[.slice A L.length c] 30); replace o1 := o1.alloc (.cells #[.slice A L.length c] 30); replace o2 := o2.alloc (.cells #[.slice A L.length c] 30); have hB6 := hB5.alloc hB5.size (.cells #[.slice A L.length c] 30); have hs6 : (w5.alloc (.cells #[.slice A L.length c] 30)).heap.size = w5.heap.size + 1 := by simp
   generalize hg5 : w5.heap.size = z5 at *; generalize w5.alloc (.cells #[.slice A L.length c] 30) = w6 at *; have HB6 := hdd hB6; have HH := hdd h; clear hB6 h hg5 hB5
   apply (range_all (n := 6) rfl trivial (by omega) (Bs := z5) (n₀ := w.heap.size) (v := .slice A L.length c) (L := L) rfl rfl (by omega) (by omega) (o3.k 0 rfl) (hI.below HB6.out)
     (fun pre W => hasAll s (vals pre) = true ∧ Ob W w.heap.size 72 #[.pointer (some ⟨b, 0, none⟩)] ∧ Ob W (w.heap.size + 1) 3 #[vI k] ∧ Ob W (w.heap.size + 1 + 1) 33 #[vO])
     (fun c pre W => c = .ret ∧ hasAll s (vals pre) = false ∧ Ob W (w.heap.size + 1 + 1) 33 #[vI 71])
     (fun s A B row hs hg hr => ⟨hs.1, ob_keep hs.2.1 hg (fun r e => (hr r e).2), ob_keep hs.2.2.1 hg (fun r e => (hr r e).2), ob_keep hs.2.2.2 hg (fun r e => (hr r e).2)⟩)
     (fun c s A B row hs hg hr => ⟨hs.1, hs.2.1, ob_keep hs.2.2 hg (fun r e => (hr r e).2)⟩)
     ⟨rfl, o0, o1, o2⟩)
   case hassign =>
     intro l x W K hK; dsimp only [enc2]; gi_wp2; exact hK
   case hbody =>
     rintro l pre ⟨⟨xs, xn⟩, hx⟩ W ⟨hm, p0, p1, p2⟩ hB hsz hlen; have hW := HH.out.same (HB6.out.trans hB); have hfit := hF _ hx; have hkey := hdd (key_str hfit.1); have hro := hdd (hW.row (key (xs, xn))); obtain ⟨hl1, hl2⟩ := look_row s (key (xs, xn)); have hS := hdd (show hasAll s (vals (pre ++ [⟨(xs, xn), hx⟩])) = (aGet s (key (xs, xn))).isSome by rw [vals_snoc, hasAll_snoc, hm, Bool.true_and]); have HM := hdd hm; clear hm hfit; have y0 := p0.cell (j := 0) (v := .pointer (some ⟨b, 0, none⟩)) rfl; have z0 := hW.ob.cell (j := 0) (v := .map (some mb)) rfl; have hgm := hW.map; generalize (aGet s (key (xs, xn))).getD row0 = r at *; have HL1 := hdd hl1; have HL2 := hdd hl2; clear hl1 hl2; have hsl := hB.size; have oN := Ob.new W 132 #[vO, vO, vO, vO, vO, vO, vO, vO, vO, vO, vO]; have hz := W.heap.size; dsimp only at hkey ⊢; have HNB := hdd (fun (W3 : World) (hg3 : (W.alloc (.cells #[vO, vO, vO, vO, vO, vO, vO, vO, vO, vO, vO] 132)).grownBy W3 (some W.heap.size)) => (((Below.refl W.heap.size W).alloc (Nat.le_refl _) _).grown hg3 (by simp) (fun k e => by cases e; exact Nat.le_refl _) : Below W.heap.size W W3))
     cases hs : (aGet s (key (xs, xn))).isSome with
     | true =>
       rw [hs] at hS HL2
       gi_wp2_with (first
         | (gi_at_lookup; refine wpListIn_look_ok_g rfl (.tmp 37) (.tmp 38) _ rfl 9 _ keyedS Tryz.underlying133 rfl hgm (zeroRow _) _ _ rfl hkey.out _ _ HL1.out HL2.out ?_)
         | (refine wpListIn_store_ob rfl 132 (.tmp 11) (.tmp 40) rfl rfl rfl oN (by rw [rowC_size hro.out]; rfl) (row_size hro.out) (rowC_one r) ?_; intro W3 hO3 hg3))
       have hb3 := HNB.out _ hg3; exact ⟨keeps_below _ hb3, hb3.mono (by omega), hS.out, p0.same hb3, p1.same hb3, p2.same hb3⟩
     | false =>
       rw [hs] at hS HL2
       gi_wp2_with (first
         | (gi_at_lookup; refine wpListIn_look_ok_g rfl (.tmp 37) (.tmp 38) _ rfl 9 _ keyedS Tryz.underlying133 rfl hgm (zeroRow _) _ _ rfl hkey.out _ _ HL1.out HL2.out ?_)
         | (refine wpListIn_store_ob rfl 132 (.tmp 11) (.tmp 40) rfl rfl rfl oN (by rw [rowC_size hro.out]; rfl) (row_size hro.out) (rowC_one r) ?_; intro W3 hO3 hg3; have hb3 := HNB.out _ hg3; have c2 := (p2.same hb3).cell (j := 0) (v := vO) rfl; have f2 := (p2.same hb3).frozen 0))
       exact ⟨keeps_set (keeps_below _ hb3) _ _, (hb3.mono (B' := w.heap.size) (by omega)).setCell (p := ⟨w.heap.size + 1 + 1, 0, none⟩) (by simp; omega) _, rfl, hS.out, (p2.same hb3).set 0 _⟩
   case hstop =>
     rintro D c pre X hD hpre ⟨rfl, hm, p2⟩ hB hK; have HC := hdd (show M = 71 by rw [HMD.out, hasAll_prefix (vals_prefix hpre) hm]; rfl); clear hm; gi_wp2; refine ⟨by simp, .inl ⟨_, _, rfl, run_takeDeferred hK, ?_⟩⟩; have c4 := ((show Boxed X (w.heap.size + 1 + 1) 33 (vI 71) from p2) |> fun h => boxed_end h hK).cell; refine ⟨vI 71, ?_, by rw [← HMQ.out, HC.out], below_end (HB6.out.trans hB) (by omega) hK⟩; simp [results, Tryz.f438, go_sem, c4]
   case hdone =>
     rintro D W hD ⟨hm, p0, p1, p2⟩ hB hK; rw [vals_all] at hm; have HC := hdd (show M = if enough s j L = true then 0 else 51 by rw [HMD.out, hm]; rfl); clear hm
     gi_wp2_with (refine ⟨trivial, ?_⟩; gi_at_call 144; refine (callsIn_wide.2 (all_calls A _ c _)).mono ?_; rintro e w' ⟨rfl, rfl⟩)
     have hK7 := ((World.grownBy_alloc W (.cells #[.slice A L.length c] 30) none).block D (Array.getElem?_eq_some_iff.1 hK).1 (by simp)).trans hK; have r0 := p0.alloc (.cells #[.slice A L.length c] 30); have r1 := p1.alloc (.cells #[.slice A L.length c] 30); have r2 := p2.alloc (.cells #[.slice A L.length c] 30); have r3 := Ob.new W 30 #[.slice A L.length c]; have hsW := hB.size; have hB7 := (HB6.out.trans hB).alloc (HB6.out.trans hB).size (.cells #[.slice A L.length c] 30); have hs7 : (W.alloc (.cells #[.slice A L.length c] 30)).heap.size = W.heap.size + 1 := by simp
     have hDlt := (Array.getElem?_eq_some_iff.1 hK).1; clear p0 p1 p2 hK; generalize hgW : W.heap.size = zW at *; generalize W.alloc (.cells #[.slice A L.length c] 30) = w7 at *; have HB7 := hdd hB7; clear hB7 hB hgW
     apply (range_all (n := 6) rfl trivial (by omega) (Bs := zW) (n₀ := w.heap.size) (v := .slice A L.length c) (L := L) rfl rfl (by omega) (by omega) (r3.k 0 rfl) (hI.below HB7.out)
       (fun pre W => enough s j (vals pre) = true ∧ Ob W w.heap.size 72 #[.pointer (some ⟨b, 0, none⟩)] ∧ Ob W (w.heap.size + 1) 3 #[vI k] ∧ Ob W (w.heap.size + 1 + 1) 33 #[vO] ∧ W.heap[D]? = some (.deferred (some [])))
       (fun c pre W => c = .ret ∧ enough s j (vals pre) = false ∧ Ob W (w.heap.size + 1 + 1) 33 #[vI 51] ∧ W.heap[D]? = some (.deferred (some [])))
       (fun s A B row hs hg hr => ⟨hs.1, ob_keep hs.2.1 hg (fun r e => (hr r e).2), ob_keep hs.2.2.1 hg (fun r e => (hr r e).2), ob_keep hs.2.2.2.1 hg (fun r e => (hr r e).2), (hg.block D (Array.getElem?_eq_some_iff.1 hs.2.2.2.2).1 (fun e => by have := (hr _ e.symm).1; omega)).trans hs.2.2.2.2⟩)
       (fun c s A B row hs hg hr => ⟨hs.1, hs.2.1, ob_keep hs.2.2.1 hg (fun r e => (hr r e).2), (hg.block D (Array.getElem?_eq_some_iff.1 hs.2.2.2).1 (fun e => by have := (hr _ e.symm).1; omega)).trans hs.2.2.2⟩)
       ⟨rfl, r0, r1, r2, hK7⟩)
     case hassign =>
       intro l x W K hK; dsimp only [enc2]; gi_wp2; exact hK
     case hbody =>
       rintro l pre ⟨⟨xs, xn⟩, hx⟩ W ⟨hm, p0, p1, p2, hKD⟩ hB hsz hlen; have hW := HH.out.same (HB7.out.trans hB); have hfit := hF _ hx; have hkey := hdd (key_str hfit.1); have hro := hdd (hW.row (key (xs, xn))); obtain ⟨hl1, hl2⟩ := look_row s (key (xs, xn)); have hS := hdd (show enough s j (vals (pre ++ [⟨(xs, xn), hx⟩])) = !decide (at_ ((aGet s (key (xs, xn))).getD row0) j < xn) by rw [vals_snoc, enough_snoc, hm, Bool.true_and]); have HM := hdd hm; clear hm hl2; have y0 := p0.cell (j := 0) (v := .pointer (some ⟨b, 0, none⟩)) rfl; have y1 := p1.cell (j := 0) (v := vI k) rfl; have z0 := hW.ob.cell (j := 0) (v := .map (some mb)) rfl; have hgm := hW.map; generalize (aGet s (key (xs, xn))).getD row0 = r at *; have HL1 := hdd hl1; have hcr := hdd (fun (V : World) (g : Nat) (h : Ob V g 132 (rowC r)) => h.cell (rowC_get (j := j) (by rw [hro.out.len]; exact hj))); generalize at_ r j = q at *; clear hl1; have hsl := hB.size; have oN := Ob.new W 132 #[vO, vO, vO, vO, vO, vO, vO, vO, vO, vO, vO]; have HNB := hdd (fun (W3 : World) (hg3 : (W.alloc (.cells #[vO, vO, vO, vO, vO, vO, vO, vO, vO, vO, vO] 132)).grownBy W3 (some W.heap.size)) => (((Below.refl W.heap.size W).alloc (Nat.le_refl _) _).grown hg3 (by simp) (fun k e => by cases e; exact Nat.le_refl _) : Below W.heap.size W W3))
       have cR := hdd (fun V => show Calls Tryz.prog 439 #[vI k, .pointer (some ⟨W.heap.size, 0, none⟩)] V fun e w' => e = .returned (.tuple #[.pointer (some ⟨W.heap.size, j, none⟩), ptr W.heap.size (road k).2.1, ptr W.heap.size (road k).2.2]) ∧ Below V.heap.size V w' from by
         have := road_calls k W.heap.size V; rw [← HJO.out] at this; exact this)
       generalize ptr W.heap.size (road k).2.1 = u1 at *; generalize ptr W.heap.size (road k).2.2 = u2 at *; have hWlt : ∀ W3 : World, Below W.heap.size W W3 → W.heap.size ≤ W3.heap.size := fun W3 h => h.size
       dsimp only at hkey ⊢; have hKlt := (Array.getElem?_eq_some_iff.1 hKD).1
       by_cases hq : q < xn
       · have hS2 := hdd (hS.out.trans (by rw [decide_eq_true hq, Bool.not_true]))
         gi_wp2_with (first
           | (gi_at_lookup; refine wpListIn_look_g rfl (.tmp 51) (.tmp 52) _ rfl 9 _ keyedS Tryz.underlying133 rfl hgm (zeroRow _) _ _ rfl hkey.out _ HL1.out ?_)
           | (refine wpListIn_store_ob rfl 132 (.tmp 15) (.tmp 53) rfl rfl rfl oN (by rw [rowC_size hro.out]; rfl) (row_size hro.out) (rowC_one r) ?_; intro W3 hO3 hg3; have hb3 := HNB.out _ hg3; have y3 := (p1.same hb3).cell (j := 0) (v := vI k) rfl)
           | (refine ⟨trivial, ?_⟩; gi_at_call 439; refine (CallsIn.inRound l (callsIn_wide.2 (cR.out _))).mono ?_; rintro e W4 ⟨rfl, h4⟩; have hb4 := hb3.trans (h4.mono hb3.size); have c5 := hcr.out _ _ (hO3.same h4); have c2 := (p2.same hb4).cell (j := 0) (v := vO) rfl; have f2 := (p2.same hb4).frozen 0))
         refine ⟨keeps_set (keeps_below _ hb4) _ _, (hb4.mono (B' := w.heap.size) (by omega)).setCell (p := ⟨w.heap.size + 1 + 1, 0, none⟩) (by simp; omega) _, rfl, hS2.out, (p2.same hb4).set 0 _, ?_⟩; exact ((grownBy_set W4 (w.heap.size + 1 + 1) 0 (vI 51)).block D (by have := hb4.size; omega) (fun e => by cases e; omega)).trans ((hb4.block D hKlt).trans hKD)
       · have hS2 := hdd (hS.out.trans (by rw [decide_eq_false hq, Bool.not_false]))
         gi_wp2_with (first
           | (gi_at_lookup; refine wpListIn_look_g rfl (.tmp 51) (.tmp 52) _ rfl 9 _ keyedS Tryz.underlying133 rfl hgm (zeroRow _) _ _ rfl hkey.out _ HL1.out ?_)
           | (refine wpListIn_store_ob rfl 132 (.tmp 15) (.tmp 53) rfl rfl rfl oN (by rw [rowC_size hro.out]; rfl) (row_size hro.out) (rowC_one r) ?_; intro W3 hO3 hg3; have hb3 := HNB.out _ hg3; have y3 := (p1.same hb3).cell (j := 0) (v := vI k) rfl)
           | (refine ⟨trivial, ?_⟩; gi_at_call 439; refine (CallsIn.inRound l (callsIn_wide.2 (cR.out _))).mono ?_; rintro e W4 ⟨rfl, h4⟩; have hb4 := hb3.trans (h4.mono hb3.size); have c5 := hcr.out _ _ (hO3.same h4)))
         exact ⟨keeps_below _ hb4, hb4.mono (by omega), hS2.out, p0.same hb4, p1.same hb4, p2.same hb4, (hb4.block D hKlt).trans hKD⟩
     case hstop =>
       rintro D2 c pre X hD2 hpre ⟨rfl, hm, p2, hKD⟩ hB hK2; have HC2 := hdd (show M = 51 by rw [HC.out, enough_prefix (vals_prefix hpre) hm]; rfl); clear hm; gi_wp2; have hKD4 := ((grownBy_putObj' X D2 (.deferred none)).block D (Array.getElem?_eq_some_iff.1 hKD).1 (fun e => by have := Option.some.inj e; omega)).trans hKD; refine ⟨by simp, .inl ⟨_, _, rfl, run_takeDeferred hK2, ⟨by simp, .inl ⟨_, _, rfl, run_takeDeferred hKD4, ?_⟩⟩⟩⟩; have c4 := (boxed_end (boxed_end (show Boxed X (w.heap.size + 1 + 1) 33 (vI 51) from p2) hK2) hKD4).cell; refine ⟨vI 51, ?_, by rw [← HMQ.out, HC2.out], below_end (below_end (HB7.out.trans hB) (by omega) hK2) (by omega) hKD4⟩; simp [results, Tryz.f438, go_sem, c4]
     case hdone =>
       rintro D2 X hD2 ⟨hm, p0, p1, p2, hKD⟩ hB hK2; rw [vals_all] at hm; have HC2 := hdd (show M = 0 by rw [HC.out, hm]; rfl); clear hm; have c2 := p2.cell (j := 0) (v := vO) rfl; have f2 := p2.frozen 0; gi_wp2; have hp3 := p2.set 0 vO; have g1 := grownBy_set X (w.heap.size + 1 + 1) 0 vO; have hB3 := (HB7.out.trans hB).grown g1 (by have := hB.size; omega) (fun k e => by cases e; omega); have hK3 := (g1.block D2 (Array.getElem?_eq_some_iff.1 hK2).1 (fun e => by have := Option.some.inj e; omega)).trans hK2; have hKD3 := (g1.block D (Array.getElem?_eq_some_iff.1 hKD).1 (fun e => by have := Option.some.inj e; omega)).trans hKD; clear c2 f2 g1; generalize X.setCell ⟨w.heap.size + 1 + 1, 0, none⟩ vO = Y at *; have hKD4 := ((grownBy_putObj' Y D2 (.deferred none)).block D (Array.getElem?_eq_some_iff.1 hKD3).1 (fun e => by have := Option.some.inj e; omega)).trans hKD3; refine ⟨by simp, .inl ⟨_, _, rfl, run_takeDeferred hK3, ⟨by simp, .inl ⟨_, _, rfl, run_takeDeferred hKD4, ?_⟩⟩⟩⟩; have c4 := (boxed_end (boxed_end (show Boxed Y (w.heap.size + 1 + 1) 33 vO from hp3) hK3) hKD4).cell; refine ⟨vO, ?_, by rw [← HMQ.out, HC2.out], below_end (below_end hB3 (by omega) hK3) (by omega) hKD4⟩; simp [results, Tryz.f438, go_sem, c4]
end
end Sk
end Go.Proofs.YtgcnhmjpfbbfcaaGreat
