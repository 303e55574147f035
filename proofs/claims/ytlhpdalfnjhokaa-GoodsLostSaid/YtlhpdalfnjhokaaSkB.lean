/-
  a stock of goods in memory; its small functions.
-/
import Derived.Test.YtlhpdalfnjhokaaSkA
import Derived.Test.YtlhpdalfnjhokaaMem
import Derived.Test.YtlhpdalfnjhokaaPm
import Derived.Test.YtlhpdalfnjhokaaObs
import Derived.BigQuiet
namespace Go.Proofs.Ytlhpdalfnjhokaa
open Go.RowKit Go.Maps
namespace Sk
open It Al
theorem hmx : Try.prog.follows .mixedOrders = true := by kernel_rfl
/-- a good and its row -/
structure OkP (p : Key × Row) : Prop where
  row : OkRow p.2
  key : p.1.length ≤ maxLen
/-- a stock of the program's: its struct b, its map mb -/
structure StkAt (w : World) (base b mb : Nat) (s : Stk) : Prop where
  ob : Ob w b 82 #[.map (some mb)]
  map : GMap strK w Try.prog 9 mb (gm rowV s)
  ok : ∀ p ∈ s, OkP p
  ne : b ≠ mb
  lo : base ≤ b ∧ base ≤ mb
  len : s.length ≤ 64
theorem StkAt.kept {w w' : World} {base b mb : Nat} {s : Stk} {Fr : Nat → Prop} (h : StkAt w base b mb s) (hk : Kept Fr w w') (hb : Fr b) (hm : Fr mb) : StkAt w' base b mb s := by
  refine ⟨hk.ob h.ob hb, ?_, h.ok, h.ne, h.lo, h.len⟩
  obtain ⟨es, clock, h1, F, h2, e⟩ := h.map
  exact ⟨es, clock, (hk.block mb hm).trans h1, F, h2, e⟩
theorem StkAt.same {w w' : World} {base b mb : Nat} {s : Stk} (h : StkAt w base b mb s) (hb : Below w.heap.size w w') : StkAt w' base b mb s :=
  h.kept (Kept.of_below hb (Fr := fun i => i < w.heap.size) fun _ hi => hi) h.ob.lt h.map.lt
theorem mapnil (w : World) (r : Option Nat) : (binOp .neq 80 (.map r) (.map none)).run Try.prog w = .ok (.bool r.isSome) w := by
  have := run_neq_map_nil (P := Try.prog) w 80 _ _ r Try.underlying80
  cases r <;> simpa using this
theorem new_calls (w : World) : Calls Try.prog 22 #[] w fun e w' => (∃ b mb, e = .returned (.pointer (some ⟨b, 0, none⟩)) ∧ StkAt w' w.heap.size b mb []) ∧ Below w.heap.size w w' := by
  have hmm := @run_makeMap Try.prog
  go_enter Try.func22, Try.ntmps22
  go_wp2
  go_ret
  have ha1 := (Below.refl w.heap.size w).alloc (Nat.le_refl _) (.map #[] 0)
  have ha2 := ha1.alloc ha1.size (.cells #[.map (some w.heap.size)] 82)
  refine ⟨⟨w.heap.size + 1, w.heap.size, rfl, ?_⟩, ha2⟩
  have hob := Ob.new (w.alloc (.map #[] 0)) 82 #[.map (some w.heap.size)]
  rw [World.size_alloc] at hob
  exact ⟨hob, (GMap.made (K := strK) w Try.prog 9).kept (World.grownBy_alloc _ _ none) (by simp), (fun p hp => by cases hp), by omega, by omega, by simp⟩
theorem made_calls (b mb : Nat) (w : World) (h : w.cell? ⟨b, 0, none⟩ = some (.map (some mb))) :
    Calls Try.prog 36 #[.pointer (some ⟨b, 0, none⟩)] w fun e w' => e = .returned (.bool true) ∧ w = w' := by
  have hn := mapnil
  go_enter Try.func36, Try.ntmps36
  go_wp2
  go_ret
  exact ⟨rfl, rfl⟩
theorem made_nil (w : World) :
    Calls Try.prog 36 #[.pointer none] w fun e w' => e = .returned (.bool false) ∧ w = w' := by
  go_enter Try.func36, Try.ntmps36
  go_wp2
  go_ret
  exact ⟨rfl, rfl⟩
set_option maxRecDepth 100000 in
set_option maxHeartbeats 4000000 in
theorem numbers_calls (g : Nat) (w : World) :
    Calls Try.prog 68 #[.pointer (some ⟨g, 0, none⟩)] w fun e w' => e = .returned (.agg #[.pointer (some ⟨g, 0, none⟩), .pointer (some ⟨g, 1, none⟩), .pointer (some ⟨g, 2, none⟩), .pointer (some ⟨g, 3, none⟩), .pointer (some ⟨g, 4, none⟩), .pointer (some ⟨g, 5, none⟩), .pointer (some ⟨g, 6, none⟩), .pointer (some ⟨g, 7, none⟩), .pointer (some ⟨g, 8, none⟩), .pointer (some ⟨g, 9, none⟩), .pointer (some ⟨g, 10, none⟩)]) ∧ Below w.heap.size w w' := by
  go_enter Try.func68, Try.ntmps68
  go_wp2_with fail
  have hO := Ob.new w 113 #[.pointer none, .pointer none, .pointer none, .pointer none, .pointer none, .pointer none, .pointer none, .pointer none, .pointer none, .pointer none, .pointer none]
  have hal := (Below.refl w.heap.size w).alloc (Nat.le_refl _) (.cells #[.pointer none, .pointer none, .pointer none, .pointer none, .pointer none, .pointer none, .pointer none, .pointer none, .pointer none, .pointer none, .pointer none] 113)
  generalize hV : w.alloc (.cells #[.pointer none, .pointer none, .pointer none, .pointer none, .pointer none, .pointer none, .pointer none, .pointer none, .pointer none, .pointer none, .pointer none] 113) = V0 at *
  clear hV
  have hdd := hal.drew
  have hOd : Ob V0.drew w.heap.size 113 #[.pointer none, .pointer none, .pointer none, .pointer none, .pointer none, .pointer none, .pointer none, .pointer none, .pointer none, .pointer none, .pointer none] := hO
  refine Pu.regionM [(0, false), (1, false), (2, false), (3, false), (4, false), (5, false), (6, false), (7, false), (8, false), (9, false), (10, false), (11, false), (12, false), (13, false), (14, false), (15, false), (16, false), (17, false), (18, false), (19, false), (20, false), (21, false), (22, false), (23, false), (24, false), (25, false), (26, false), (27, false), (28, false), (29, false), (30, false), (31, false), (32, false), (33, false), (34, false), (35, false), (36, false), (37, false), (38, false), (39, false), (40, false), (41, false), (42, false), (43, false), (44, false), (45, true)] (fun V => V = V0.drew) hmx (by kernel_rfl) (by kernel_rfl) (by kernel_rfl) rfl rfl ?_
  simp only [Pu.named, List.filterMap_cons, List.filterMap_nil, List.getElem?_toArray, List.getElem?_cons_succ, List.getElem?_cons_zero, Option.map_some]
  iterate 45 (first
    | (refine Pu.WalkM.off (by rfl) ?_; simp only [Act.put, List.setIfInBounds_toArray, List.set_cons_succ, List.set_cons_zero])
    | (apply Pu.WalkM.on (by rfl)
       · rintro V rfl
         go_wp2_with fail
         refine ⟨rfl, ?_, rfl⟩
         try simp only [Act.put, List.setIfInBounds_toArray, List.set_cons_succ, List.set_cons_zero]
         rfl
       simp only [Act.put, List.setIfInBounds_toArray, List.set_cons_succ, List.set_cons_zero]))
  refine Pu.WalkM.make (by rfl) ?_
  intro V hV
  rw [hV]
  clear hV V
  have hO2 := hOd.all [.pointer (some ⟨g, 0, none⟩), .pointer (some ⟨g, 1, none⟩), .pointer (some ⟨g, 2, none⟩), .pointer (some ⟨g, 3, none⟩), .pointer (some ⟨g, 4, none⟩), .pointer (some ⟨g, 5, none⟩), .pointer (some ⟨g, 6, none⟩), .pointer (some ⟨g, 7, none⟩), .pointer (some ⟨g, 8, none⟩), .pointer (some ⟨g, 9, none⟩), .pointer (some ⟨g, 10, none⟩)] (by simp)
  have hbb := hdd.grown (grownBy_segs (b := w.heap.size) [.pointer (some ⟨g, 0, none⟩), .pointer (some ⟨g, 1, none⟩), .pointer (some ⟨g, 2, none⟩), .pointer (some ⟨g, 3, none⟩), .pointer (some ⟨g, 4, none⟩), .pointer (some ⟨g, 5, none⟩), .pointer (some ⟨g, 6, none⟩), .pointer (some ⟨g, 7, none⟩), .pointer (some ⟨g, 8, none⟩), .pointer (some ⟨g, 9, none⟩), .pointer (some ⟨g, 10, none⟩)] V0.drew 0) hdd.size (fun k e => by cases e; exact Nat.le_refl _)
  have hth := hOd.there (o := 0) (n := 11) (by simp)
  have hone : Array.all (#[.pointer (some ⟨g, 0, none⟩), .pointer (some ⟨g, 1, none⟩), .pointer (some ⟨g, 2, none⟩), .pointer (some ⟨g, 3, none⟩), .pointer (some ⟨g, 4, none⟩), .pointer (some ⟨g, 5, none⟩), .pointer (some ⟨g, 6, none⟩), .pointer (some ⟨g, 7, none⟩), .pointer (some ⟨g, 8, none⟩), .pointer (some ⟨g, 9, none⟩), .pointer (some ⟨g, 10, none⟩)] : Array Value) (fun x => x.oneCell') = true := by simp [Value.oneCell']
  go_wp2_with (refine wpList_store_mid rfl 113 (.tmp 2) (.tmp 47) rfl w.heap.size 0 #[.pointer (some ⟨g, 0, none⟩), .pointer (some ⟨g, 1, none⟩), .pointer (some ⟨g, 2, none⟩), .pointer (some ⟨g, 3, none⟩), .pointer (some ⟨g, 4, none⟩), .pointer (some ⟨g, 5, none⟩), .pointer (some ⟨g, 6, none⟩), .pointer (some ⟨g, 7, none⟩), .pointer (some ⟨g, 8, none⟩), .pointer (some ⟨g, 9, none⟩), .pointer (some ⟨g, 10, none⟩)] rfl rfl hth (by kernel_rfl) hone ?_)
  obtain ⟨V2, hV2⟩ : ∃ V2, V2 = V0.drew.setCells w.heap.size 0 [.pointer (some ⟨g, 0, none⟩), .pointer (some ⟨g, 1, none⟩), .pointer (some ⟨g, 2, none⟩), .pointer (some ⟨g, 3, none⟩), .pointer (some ⟨g, 4, none⟩), .pointer (some ⟨g, 5, none⟩), .pointer (some ⟨g, 6, none⟩), .pointer (some ⟨g, 7, none⟩), .pointer (some ⟨g, 8, none⟩), .pointer (some ⟨g, 9, none⟩), .pointer (some ⟨g, 10, none⟩)] := ⟨_, rfl⟩
  rw [← hV2] at hO2 hbb
  have hV2' : V0.drew.setCells w.heap.size 0 (Array.toList (#[.pointer (some ⟨g, 0, none⟩), .pointer (some ⟨g, 1, none⟩), .pointer (some ⟨g, 2, none⟩), .pointer (some ⟨g, 3, none⟩), .pointer (some ⟨g, 4, none⟩), .pointer (some ⟨g, 5, none⟩), .pointer (some ⟨g, 6, none⟩), .pointer (some ⟨g, 7, none⟩), .pointer (some ⟨g, 8, none⟩), .pointer (some ⟨g, 9, none⟩), .pointer (some ⟨g, 10, none⟩)] : Array Value)) = V2 := by rw [hV2]
  rw [hV2']
  clear hV2 hV2' hth hone
  refine ⟨rfl, undef, (fun _ => True), (fun V => V = V2), rfl, rfl, (fun _ _ => trivial), (.inl (by kernel_rfl)), Pu.WalkM.nil ?_⟩
  intro V hV
  rw [hV]
  clear hV V
  simp only [Act.put]
  go_wp2
  refine bodyPost_ret (v := .agg #[.pointer (some ⟨g, 0, none⟩), .pointer (some ⟨g, 1, none⟩), .pointer (some ⟨g, 2, none⟩), .pointer (some ⟨g, 3, none⟩), .pointer (some ⟨g, 4, none⟩), .pointer (some ⟨g, 5, none⟩), .pointer (some ⟨g, 6, none⟩), .pointer (some ⟨g, 7, none⟩), .pointer (some ⟨g, 8, none⟩), .pointer (some ⟨g, 9, none⟩), .pointer (some ⟨g, 10, none⟩)]) ?_ rfl ⟨rfl, hbb⟩
  have c0 := hO2.cell (j := 0) (v := .pointer (some ⟨g, 0, none⟩)) rfl
  have c1 := hO2.cell (j := 1) (v := .pointer (some ⟨g, 1, none⟩)) rfl
  have c2 := hO2.cell (j := 2) (v := .pointer (some ⟨g, 2, none⟩)) rfl
  have c3 := hO2.cell (j := 3) (v := .pointer (some ⟨g, 3, none⟩)) rfl
  have c4 := hO2.cell (j := 4) (v := .pointer (some ⟨g, 4, none⟩)) rfl
  have c5 := hO2.cell (j := 5) (v := .pointer (some ⟨g, 5, none⟩)) rfl
  have c6 := hO2.cell (j := 6) (v := .pointer (some ⟨g, 6, none⟩)) rfl
  have c7 := hO2.cell (j := 7) (v := .pointer (some ⟨g, 7, none⟩)) rfl
  have c8 := hO2.cell (j := 8) (v := .pointer (some ⟨g, 8, none⟩)) rfl
  have c9 := hO2.cell (j := 9) (v := .pointer (some ⟨g, 9, none⟩)) rfl
  have c10 := hO2.cell (j := 10) (v := .pointer (some ⟨g, 10, none⟩)) rfl
  simp [results, Try.f68, go_sem, c0, c1, c2, c3, c4, c5, c6, c7, c8, c9, c10]
set_option maxRecDepth 100000 in
set_option maxHeartbeats 4000000 in
theorem add_none (n : Int) (w : World) : Calls Try.prog 44 #[.pointer none, .int .i64 n] w fun e w' => e = .returned (.tuple #[]) ∧ w = w' := by
  go_enter Try.func44, Try.ntmps44
  go_wp2
  go_end0
  exact ⟨rfl, rfl⟩
theorem add_some (g j : Nat) (x n : Int) (w : World) (hc : w.cell? ⟨g, j, none⟩ = some (.int .i64 x)) (hz : w.frozen? ⟨g, j, none⟩ = false) :
    Calls Try.prog 44 #[.pointer (some ⟨g, j, none⟩), .int .i64 n] w fun e w' => e = .returned (.tuple #[]) ∧ w' = w.setCell ⟨g, j, none⟩ (.int .i64 (wrap64 (x + n))) := by
  go_enter Try.func44, Try.ntmps44
  go_wp2
  go_end0
  exact ⟨rfl, rfl⟩
def ptr (g : Nat) : Option Nat → Value
  | none => .pointer none
  | some j => .pointer (some ⟨g, j, none⟩)
theorem add_calls (g : Nat) (j : Option Nat) (n : Int) {r : Row} {w : World} (hr : OkRow r) (hj : ∀ k, j = some k → k < 11) (h : Ob w g 84 (rowC r)) :
    Calls Try.prog 44 #[ptr g j, .int .i64 n] w fun e w' => e = .returned (.tuple #[]) ∧ Ob w' g 84 (rowC (addR r j n)) ∧ w.grownBy w' (some g) := by
  cases j with
  | none =>
    refine (add_none n w).mono ?_
    rintro e W ⟨rfl, rfl⟩
    exact ⟨rfl, h, World.grownBy.refl _ _⟩
  | some j =>
    have hj := hj j rfl
    refine (add_some g j _ n w (h.cell (rowC_get (by rw [hr.len]; exact hj))) (h.frozen j)).mono ?_
    rintro e W ⟨rfl, rfl⟩
    refine ⟨rfl, ?_, grownBy_set _ _ _ _⟩
    have := h.set j (.int .i64 (wrap64 (at_ r j + n)))
    rw [rowC_set] at this
    exact this
theorem road_cases (k : Int) : (k = 1 ∨ k = 2 ∨ k = 3 ∨ k = 4 ∨ k = 5 ∨ k = 6 ∨ k = 7 ∨ k = 8 ∨ k = 9 ∨ k = 10 ∨ k = 11) ∨ road k = (none, none, none) := by
  by_cases h : 1 ≤ k ∧ k ≤ 11
  · exact .inl (by omega)
  · refine .inr ?_
    unfold road
    simp only [show ¬ k = 1 by omega, show ¬ k = 2 by omega, show ¬ k = 3 by omega, show ¬ k = 4 by omega, show ¬ k = 5 by omega, show ¬ k = 6 by omega, show ¬ k = 7 by omega, show ¬ k = 8 by omega, show ¬ k = 9 by omega, show ¬ k = 10 by omega, show ¬ k = 11 by omega, if_false]
def lt11 (j : Option Nat) : Bool := j.all fun j => decide (j < 11)
theorem lt11_lt {j : Option Nat} (h : lt11 j = true) : ∀ k, j = some k → k < 11 := by
  rintro k rfl
  simpa [lt11] using h
theorem road_lt (k : Int) : (∀ j, (road k).1 = some j → j < 11) ∧ (∀ j, (road k).2.1 = some j → j < 11) ∧ (∀ j, (road k).2.2 = some j → j < 11) := by
  have h : lt11 (road k).1 = true ∧ lt11 (road k).2.1 = true ∧ lt11 (road k).2.2 = true := by
    rcases road_cases k with h | h
    · rcases h with rfl | rfl | rfl | rfl | rfl | rfl | rfl | rfl | rfl | rfl | rfl <;> decide
    · rw [h]; decide
  exact ⟨lt11_lt h.1, lt11_lt h.2.1, lt11_lt h.2.2⟩
theorem below_drewN (w : World) (n : Nat) : Below w.heap.size w (w.drewN n) := ⟨rfl, rfl, rfl, Nat.le_refl _, fun _ _ => rfl⟩
set_option maxRecDepth 100000 in
set_option maxHeartbeats 8000000 in
theorem road_calls (k : Int) (g : Nat) (w : World) :
    Calls Try.prog 43 #[.int .i64 k, .pointer (some ⟨g, 0, none⟩)] w fun e w' => e = .returned (.tuple #[ptr g (road k).1, ptr g (road k).2.1, ptr g (road k).2.2]) ∧ Below w.heap.size w w' := by
  by_cases e1 : k = 1
  · subst e1
    go_enter Try.func43, Try.ntmps43
    go_wp2
    go_quiet (fail)
    go_wp2
    go_ret3
    exact ⟨rfl, below_drewN _ _⟩
  have f1 : (k == 1) = false := by simpa using e1
  by_cases e2 : k = 2
  · subst e2
    go_enter Try.func43, Try.ntmps43
    go_wp2
    go_quiet (fail)
    go_wp2
    go_ret3
    exact ⟨rfl, below_drewN _ _⟩
  have f2 : (k == 2) = false := by simpa using e2
  by_cases e3 : k = 3
  · subst e3
    go_enter Try.func43, Try.ntmps43
    go_wp2
    go_quiet (fail)
    go_wp2
    go_ret3
    exact ⟨rfl, below_drewN _ _⟩
  have f3 : (k == 3) = false := by simpa using e3
  by_cases e4 : k = 4
  · subst e4
    go_enter Try.func43, Try.ntmps43
    go_wp2
    go_quiet (fail)
    go_wp2
    go_ret3
    exact ⟨rfl, below_drewN _ _⟩
  have f4 : (k == 4) = false := by simpa using e4
  by_cases e5 : k = 5
  · subst e5
    go_enter Try.func43, Try.ntmps43
    go_wp2
    go_quiet (fail)
    go_wp2
    go_ret3
    exact ⟨rfl, below_drewN _ _⟩
  have f5 : (k == 5) = false := by simpa using e5
  by_cases e6 : k = 6
  · subst e6
    go_enter Try.func43, Try.ntmps43
    go_wp2
    go_quiet (fail)
    go_wp2
    go_ret3
    exact ⟨rfl, below_drewN _ _⟩
  have f6 : (k == 6) = false := by simpa using e6
  by_cases e7 : k = 7
  · subst e7
    go_enter Try.func43, Try.ntmps43
    go_wp2
    go_quiet (fail)
    go_wp2
    go_ret3
    exact ⟨rfl, below_drewN _ _⟩
  have f7 : (k == 7) = false := by simpa using e7
  by_cases e8 : k = 8
  · subst e8
    go_enter Try.func43, Try.ntmps43
    go_wp2
    go_quiet (fail)
    go_wp2
    go_ret3
    exact ⟨rfl, below_drewN _ _⟩
  have f8 : (k == 8) = false := by simpa using e8
  by_cases e9 : k = 9
  · subst e9
    go_enter Try.func43, Try.ntmps43
    go_wp2
    go_quiet (fail)
    go_wp2
    go_ret3
    exact ⟨rfl, below_drewN _ _⟩
  have f9 : (k == 9) = false := by simpa using e9
  by_cases e10 : k = 10
  · subst e10
    go_enter Try.func43, Try.ntmps43
    go_wp2
    go_quiet (fail)
    go_wp2
    go_ret3
    exact ⟨rfl, below_drewN _ _⟩
  have f10 : (k == 10) = false := by simpa using e10
  by_cases e11 : k = 11
  · subst e11
    go_enter Try.func43, Try.ntmps43
    go_wp2
    go_quiet (fail)
    go_wp2
    go_ret3
    exact ⟨rfl, below_drewN _ _⟩
  have f11 : (k == 11) = false := by simpa using e11
  have hr : road k = (none, none, none) := by unfold road; simp [*]
  rw [hr]
  clear e1
  clear e2
  clear e3
  clear e4
  clear e5
  clear e6
  clear e7
  clear e8
  clear e9
  clear e10
  clear e11
  go_enter Try.func43, Try.ntmps43
  go_wp2
  go_ret3
  exact ⟨rfl, Below.refl _ w⟩
end Sk
end Go.Proofs.Ytlhpdalfnjhokaa
