/-
  part of the proof of TopNames.
-/
import Derived.Test.YtgcnhmjpfbbfcaaGreatTy36
import Derived.Shelf.RegionOpenPlain
set_option linter.unusedVariables false
set_option linter.unusedSimpArgs false
set_option maxRecDepth 100000
set_option maxHeartbeats 8000000
namespace Go.Proofs.YtgcnhmjpfbbfcaaGreat
namespace Tp
section
open Go.RowKit Go.Maps
open Ce It Al Kp
theorem putSeg_size (vs : List Value) (cs : Array Value) (o : Nat) : (putSeg cs o vs).size = cs.size := by
 induction vs generalizing cs o with
 | nil => rfl
 | cons v q ih => rw [putSeg, ih]; simp
theorem zero_letter (w : World) : (zeroValue 99).run Tryz.prog w = .ok (.agg #[vO, vO, vN]) w := by kernel_rfl
theorem letter_info : (Tryz.prog.info? 99).map (fun i => (i.zero, i.size, i.bytes)) = some (some (.agg #[vO, vO, vN]), 3, 40) := by kernel_rfl
theorem wdel_calls {m : Nat} {v : Value} {x xs : List Value} {r : List As} {w : World} (hx : x.length = 3) (hxs : xs.length = m * 3) (h1c : ∀ u ∈ xs, u.oneCell' = true)
   (hs : ∀ rest : List Value, putSeg (putSeg (x ++ xs ++ rest).toArray 0 xs) (m * 3) [vO, vO, vN] = (xs ++ ([vO, vO, vN] ++ rest)).toArray)
   (h : St (RowA 99 3 v (m + 1) (x ++ xs) :: r) w) :
   Calls Tryz.prog 76 #[v, vO, vI 1] w fun e w' => ∃ v', e = .returned v' ∧ St (RowA 99 3 v' m xs :: r) w' := by
 obtain ⟨g, cap, rest, rfl, hc1, hc2, hl0, hl, s⟩ := h.rowOb; have s1 := s.drew; have oG := s1.ob (b := g) 0 rfl; obtain ⟨i0, hi0, hz1, hz2, hz3⟩ := inf3 letter_info
 obtain ⟨A, hA, hsrc⟩ : ∃ A : Addr, (if cap = 1 then (some ⟨g, 0, none⟩ : Option Addr) else some ⟨g, 3, none⟩) = some A ∧ Hid (∀ t u, xs[t]? = some u → w.drew.cell? (A.add t) = some u) := by
   by_cases hc : cap = 1
   · refine ⟨⟨g, 0, none⟩, by simp [hc], fun t u hu => ?_⟩
     have := (List.getElem?_eq_some_iff.1 hu).1; omega
   · refine ⟨⟨g, 3, none⟩, by simp [hc], fun t u hu => ?_⟩
     have ht := (List.getElem?_eq_some_iff.1 hu).1; rw [Addr.add_lit]; refine oG.cell (j := 3 + t) ?_; rw [List.getElem?_toArray, List.append_assoc, List.getElem?_append_right (by omega), List.getElem?_append_left (by omega), show 3 + t - x.length = t by omega]; exact hu
 have s2 : Hid (xs.length = m * 3) := hxs; have s3 : Hid (∀ u ∈ xs, u.oneCell' = true) := h1c
 have s4 : Hid (∀ t, t < xs.length → (w.drew.cell? ⟨g, 0 + 0 * 3 + t, none⟩).isSome = true ∧ w.drew.frozen? ⟨g, 0 + 0 * 3 + t, none⟩ = false) := by
   intro t ht; refine ⟨?_, oG.frozen _⟩; rw [show 0 + 0 * 3 + t = t by omega]; have := oG.there (o := t) (n := 1) (by simp only [List.size_toArray, List.length_append]; omega) 0 (by omega) |>.1
   simpa using this
 have s5 := s1.seg xs 0; obtain ⟨W1, hW1⟩ : ∃ W1, W1 = w.drew.setCells g (0 + 0 * 3) xs := ⟨_, rfl⟩; have hW : Hid (W1 = w.drew.setCells g (0 + 0 * 3) xs) := hW1; rw [show 0 + 0 * 3 = 0 from rfl] at hW1; rw [← hW1] at s5; have oG1 := s5.ob (b := g) 0 rfl; have hsz : (putSeg (x ++ xs ++ rest).toArray 0 xs).size = cap * 3 := by rw [putSeg_size]; simp only [List.size_toArray, List.length_append] at hl ⊢; omega
 have hcl : ∀ ty k, (Builtin.clear_ #[58] ty #[.slice (some ⟨g, m * 3, none⟩) 1 k]).run Tryz.prog W1 = .ok (.tuple #[]) (W1.setCells g (m * 3) [vO, vO, vN]) := fun ty k =>
   run_clear_one W1 _ _ ty _ [vO, vO, vN] Tryz.underlying58 zero_letter rfl (by simp [Value.oneCell']) g (m * 3) k (fun j hj => oG1.there (o := m * 3) (n := 3) (by rw [hsz]; omega) j hj |>.1) (fun j hj => oG1.frozen _)
 have s6 := s5.seg [vO, vO, vN] (m * 3); rw [hs rest] at s6; have s7 : St (RowA 99 3 (.slice (some ⟨g, 0, none⟩) m cap) m xs :: r) _ := St.obRow (xs := xs) (rest := [vO, vO, vN] ++ rest) s6 hxs (by omega) hc2 (by simp only [List.length_cons, List.length_nil, List.length_append] at hl ⊢; omega); have t1 := Tryz.underlying58; have hc0 : 0 ≤ cap := by omega
 have hcm : m + 1 ≤ cap := hc1; have HS := hdd s7; have mixed := Se.hmx; have hm1 : (1 : Int) ≤ (m : Int) + 1 := by omega
 clear s s1 s5 s6 s7 oG oG1 hW1 hsz hs h hl hl0 hxs h1c hx
 go_enter Tryz.func76, Tryz.ntmps76
 go_wp2_with fail
 go_region_law_o (refine step_append_room rfl (.tmp 22) (.tmp 25) 58 rfl 99 i0 3 t1 hi0 hz2 g 0 0 cap (by simp [Act.eval, Act.put]) A m (cap - 1) xs (by simp [Act.eval, Act.put]) s2.out hsrc.out s3.out (by omega) s4.out ?_; rw [← hW.out])
 have hcn : ¬ cap = m := by omega
 have hm2 : (m : Int) ≤ (m : Int) + 1 := by omega
 have hm3 : m + 1 - m = 1 := by omega
 have hm4 : m ≤ m + 1 := by omega
 have hm5 : 0 ≤ m := by omega
 go_wp2_with fail; go_wp2; go_ret; exact ⟨_, rfl, HS.out⟩
end
section
open Go.RowKit Go.Maps
open Ce It Al Kp
structure Wd where
 wb : Nat
 nb : Nat
 am : Nat
 nc : Nat
 nr : List Value
 n0 : Nat
 n1 : Nat
 dv : Value
abbrev worldV (a : Wd) (wy ak : Value) : Array Value := #[vI 2, vI 1500, vI 4, a.dv, .slice (some ⟨a.nb, 0, none⟩) 2 a.nc, wy, ak, .map (some a.am), .bool false]
structure WF (a : Wd) (wy ak : Value) (w : World) : Prop where
 n : Ob w a.wb 62 (worldV a wy ak)
 e : Ob w a.nb 71 (ptr a.n0 :: ptr a.n1 :: a.nr).toArray
 c : 2 ≤ a.nc
theorem WF.same {a : Wd} {wy ak : Value} {w w' : World} (h : WF a wy ak w) (hb : Below w.heap.size w w') : WF a wy ak w' := ⟨h.n.same hb, h.e.same hb, h.c⟩
abbrev answZ : Array Value := #[vO, vO, vO, vO]
abbrev answC : Array Value := #[vO, vI 1, vO, vO]
theorem zero_answ (w : World) : (zeroValue 39).run Tryz.prog w = .ok (.agg answZ) w := by kernel_rfl
section
variable {a : Wd} {wy ak : Value} {w : World}
theorem wis_calls (F : WF a wy ak w) (k : Int) (h0 : 0 ≤ k) (h1 : k < 2) : Calls Tryz.prog 16 #[ptr a.wb, vI k] w fun e w' => e = .returned (.bool true) ∧ w = w' := by
 have g4 := F.n.k 4 rfl; clear F
 go_enter Tryz.func16, Tryz.ntmps16
 go_wp2; go_ret; exact ⟨rfl, rfl⟩
theorem wregions_calls (F : WF a wy ak w) : Calls Tryz.prog 27 #[ptr a.wb] w fun e w' => e = .returned (vI 2) ∧ w = w' := by
 have g4 := F.n.k 4 rfl; clear F
 go_enter Tryz.func27, Tryz.ntmps27
 go_wp2; go_ret; exact ⟨rfl, rfl⟩
theorem wnode0_calls (F : WF a wy ak w) : Calls Tryz.prog 50 #[ptr a.wb, vO] w fun e w' => e = .returned (ptr a.n0) ∧ w = w' := by
 have g4 := F.n.k 4 rfl; have n0 := F.e.k 0 rfl; have cI := hdd (wis_calls F 0 (by omega) (by omega)); clear F
 go_enter Tryz.func50, Tryz.ntmps50
 go_wp2_with fail; refine (cI.out).mono ?_; rintro e W ⟨rfl, rfl⟩; go_wp2; go_ret; exact ⟨rfl, rfl⟩
theorem wnode1_calls (F : WF a wy ak w) : Calls Tryz.prog 50 #[ptr a.wb, vI 1] w fun e w' => e = .returned (ptr a.n1) ∧ w = w' := by
 have g4 := F.n.k 4 rfl; have n1 := F.e.k 1 rfl; have cI := hdd (wis_calls F 1 (by omega) (by omega)); clear F
 go_enter Tryz.func50, Tryz.ntmps50
 go_wp2_with fail; refine (cI.out).mono ?_; rintro e W ⟨rfl, rfl⟩; go_wp2; go_ret; exact ⟨rfl, rfl⟩
theorem wup_calls (F : WF a wy ak w) : Calls Tryz.prog 53 #[ptr a.wb] w fun e w' => e = .returned (vI 2) ∧ w = w' := by
 have g4 := F.n.k 4 rfl; have n0 := F.e.k 0 rfl; have n1 := F.e.k 1 rfl; clear F
 go_enter Tryz.func53, Tryz.ntmps53
 go_wp2; refine wp_loop_rounds 3 ?_; rw [rounds_succ]; go_wp2; rw [rounds_succ]; go_wp2; rw [rounds_succ]; go_wp2; go_ret; exact ⟨rfl, rfl⟩
end
end
section
open Go.RowKit Go.Maps
open Ce It Al Kp
theorem keyedW : Keyed Tryz.prog 67 := Keyed.of_law (Go.deep_law_laid laid (m := 5) (by omega) (of_decide_eq_true (by kernel_rfl)) (by kernel_rfl) (by kernel_rfl))
theorem Answer_calls {a : Wd} {wy ak : Value} {w : World} (F : WF a wy ak w) (hG : GMap strK w Tryz.prog 67 a.am [(K01, .agg answC)]) : Calls Tryz.prog 8 #[ptr a.wb, vO, vI 1] w fun e w' => e = .returned (.tuple #[.agg answC, .bool true]) ∧ Below w.heap.size w w' := by
 have g7 := F.n.k 7 rfl; have hlt := F.n.lt; have hal := (Below.refl w.heap.size w).alloc (Nat.le_refl _) (.cells answZ 39); have g7' := (hal.cell (p := ⟨a.wb, 7, none⟩) hlt).trans g7; have hl := (hG.below hal hG.lt).look_ok keyedW Tryz.underlying60 (zero_answ _) key_world; rw [show mGet [(K01, (.agg answC : Value))] K01 = some (.agg answC) from by rfl] at hl; simp only [Option.getD_some, Option.isSome_some] at hl; have oA := Ob.new w 39 answZ; clear F hG
 go_enter Tryz.func8, Tryz.ntmps8
 go_wp2; have oR := (Ob.new w 39 answC).alloc (.cells answC 39); have hb9 := ((Below.refl w.heap.size w).alloc (Nat.le_refl _) (.cells answC 39)).alloc (by simp) (.cells answC 39); have ⟨t0, t1, t2, t3⟩ := oR.k4 rfl rfl rfl rfl; clear oR; refine bodyPost_ret (v := .tuple #[.agg answC, .bool true]) ?_ rfl ⟨rfl, hb9⟩; simp [results, Tryz.f8, go_sem, t0, t1, t2, t3]
theorem answer_calls {a : Wd} {wy ak : Value} {r : List As} {w : World} (h : St (ObA a.wb 62 (worldV a wy ak) :: MapA strK 67 a.am [] :: r) w) :
   Calls Tryz.prog 78 #[ptr a.wb, .agg answC] w fun e w' => e = .returned (.tuple #[]) ∧ St (ObA a.wb 62 (worldV a wy ak) :: MapA strK 67 a.am [(K01, .agg answC)] :: r) w' := by
 have s1 := h.obNew 39 answC; have hlt := (h.ob (b := a.wb) 0 rfl).lt; have z1 : w.heap.size ≠ a.wb := by omega
 clear h
 go_enter Tryz.func78, Tryz.ntmps78
 go_wp2_with fail; generalize hWd : w.alloc (.cells answC 39) = W at *; clear hWd; obtain ⟨yb, hyb⟩ : ∃ yb, yb = w.heap.size := ⟨_, rfl⟩; simp only [← hyb] at *; clear hyb; have oY := s1.ob (b := yb) 0 rfl; have ⟨y0, y1, y2, y3⟩ := oY.k4 rfl rfl rfl rfl; have g2 := (s1.ob (b := a.wb) 1 rfl).k 2 rfl
 go_region_held3 (fun V => V.cell? ⟨a.wb, 2, none⟩ = some (vI 4) ∧ V.cell? ⟨yb, 0, none⟩ = some vO) (go_keep) (fail)
 have s2 := s1.drew; clear s1 oY y0 y1 y2 y3 g2; generalize W.drew = W1 at *; have oY := s2.ob (b := yb) 0 rfl; have ⟨y0, y1, y2, y3⟩ := oY.k4 rfl rfl rfl rfl; clear oY; have s3 := s2.obNew 67 #[vO, vI 1]; go_wp2_with fail; clear y0 y1 y2 y3; obtain ⟨qb, hqb⟩ : ∃ qb, qb = W1.heap.size := ⟨_, rfl⟩; have z2 : qb ≠ a.wb := by have := (s2.ob (b := a.wb) 1 rfl).lt; omega
 have z3 : qb ≠ yb := by have := (s2.ob (b := yb) 0 rfl).lt; omega
 simp only [← hqb] at *; generalize W1.alloc (.cells #[vO, vI 1] 67) = W2 at *; clear hqb s2; have q0 := (s3.ob (b := qb) 0 rfl).k 0 rfl; have q1 := (s3.ob (b := qb) 0 rfl).k 1 rfl; have g7 : W2.cell? ⟨a.wb, 7, none⟩ = some (.map (some a.am)) := (s3.ob (b := a.wb) 2 rfl).k 7 rfl; have s3a := s3.obNew 39 answZ; have hlA := (s3.drew.gmap 3 rfl).look_ok keyedW Tryz.underlying60 (zero_answ _) key_world; have hlB := (s3a.drew.gmap 4 rfl).look_ok keyedW Tryz.underlying60 (zero_answ _) key_world; rw [show mGet ([] : List (List UInt8 × Value)) K01 = none from by rfl] at hlA hlB; simp only [Option.getD_none, Option.isSome_none] at hlA hlB; have y2' : yb ≠ W2.heap.size := Nat.ne_of_lt (s3.ob (b := yb) 1 rfl).lt; have z4 : qb ≠ W2.heap.size := Nat.ne_of_lt (s3.ob (b := qb) 0 rfl).lt; have z5 : a.wb ≠ W2.heap.size := Nat.ne_of_lt (s3.ob (b := a.wb) 2 rfl).lt; have z6 := Ne.symm z4; have z7 := Ne.symm z5
 go_cut [5, 6] (fun q v V => v = .bool false ∧ ∃ b, q = ptr b ∧ St (ObA b 39 answZ :: ObA qb 67 #[vO, vI 1] :: ObA yb 39 answC :: ObA a.wb 62 (worldV a wy ak) :: MapA strK 67 a.am [] :: r) V)
 case first =>
   go_region_held3 (fun V => V.cell? ⟨a.wb, 7, none⟩ = some (.map (some a.am)) ∧ V.cell? ⟨qb, 0, none⟩ = some vO ∧ V.cell? ⟨qb, 1, none⟩ = some (vI 1)) (go_keep) (fail)
   all_goals
     go_wp2_with fail
     go_meet
     case rel => exact ⟨rfl, _, rfl, (s3.obNew _ _).drew⟩
 clear s3 s3a q0 q1 g7 hlA hlB z4 z5 z6 z7 y2'; obtain ⟨rfl, ob, rfl, s4⟩ := hcut; have c0 := (s4.ob (b := ob) 0 rfl).k 2 rfl; have oY := s4.ob (b := yb) 2 rfl; have ⟨y0, y1, y2, y3⟩ := oY.k4 rfl rfl rfl rfl; have q0 := (s4.ob (b := qb) 1 rfl).k 0 rfl; have q1 := (s4.ob (b := qb) 1 rfl).k 1 rfl; have g7 : wc.cell? ⟨a.wb, 7, none⟩ = some (.map (some a.am)) := (s4.ob (b := a.wb) 3 rfl).k 7 rfl; obtain ⟨W6, hput, hG6, hg6⟩ := (s4.drew.gmap 4 rfl).put keyedW Tryz.underlying60 (by simp [maxLen]) (val := .agg answC) key_world; have s5 := (s4.drew.front 4 rfl).map hG6 hg6; simp only [zzH, zzI, zzG, zzF, List.length_cons, List.length_nil] at s5; clear oY; have oY := s5.ob (b := yb) 3 rfl; have ⟨v0, v1, v2, v3⟩ := oY.k4 rfl rfl rfl rfl; have q0' := (s5.ob (b := qb) 2 rfl).k 0 rfl; have q1' := (s5.ob (b := qb) 2 rfl).k 1 rfl; have g7' : W6.cell? ⟨a.wb, 7, none⟩ = some (.map (some a.am)) := (s5.ob (b := a.wb) 4 rfl).k 7 rfl; clear oY; go_wp2_with fail
 go_region_held3 (fun V => V.cell? ⟨a.wb, 7, none⟩ = some (.map (some a.am)) ∧ V.cell? ⟨qb, 0, none⟩ = some vO ∧ V.cell? ⟨qb, 1, none⟩ = some (vI 1) ∧ V.cell? ⟨yb, 0, none⟩ = some vO ∧ V.cell? ⟨yb, 1, none⟩ = some (vI 1) ∧ V.cell? ⟨yb, 2, none⟩ = some vO ∧ V.cell? ⟨yb, 3, none⟩ = some vO) (go_keep) (fail)
 have s6 := ((s5).take [1, 1, 1, 1, 0]); simp only [takeOut, zzD, zzE, zzF, zzG, zzH, zzI] at s6; replace s6 := s6.drop.drop.drop; clear hput hG6 hg6 s4 s5 q0 q1 g7; go_wp2; go_end0; exact ⟨rfl, s6⟩
end
end Tp
end Go.Proofs.YtgcnhmjpfbbfcaaGreat
