/-
  sector: the law Nobody.
-/
import Derived.Test.YteiniahikhiadaaSeY
import Derived.Test.YteiniahikhiadaaRr
namespace Go.Proofs.Yteiniahikhiadaa
open Go.RowKit Go.Maps
namespace Se
open Ce It
attribute [local go_sem] Oper.semAt_some
theorem ob_keep {A B : World} {row : Option Nat} {b : Nat} {t : TypeId} {cs : Array Value} (h : Ob A b t cs) (hg : A.grownBy B row) (hr : ∀ r, row = some r → ∃ o : Obj, A.heap[r]? = some o ∧ o.isCells = false) : Ob B b t cs :=
  h.kept hg fun e => by
    obtain ⟨o, h1, h2⟩ := hr b e.symm
    rw [show A.heap[b]? = _ from h] at h1
    cases h1
    cases h2
theorem dirty_none (n : Nat) (hn : 1 ≤ n) (Bs : Nat) (w : World) (hbs : Ob w Bs 24 #[.pointer none]) :
    Rr.Reads Fence.wide n Try.prog 72 #[.pointer (some ⟨Bs, 0, none⟩)] (fun (_ : Unit) (_ : Value) (_ : World) => True) (Below w.heap.size) (fun xs => xs = []) (fun _ => False) (fun _ _ => False) w := by
  intro l J Jx W hW hJ hJx hY h0
  have hB := hbs.same hW
  have cB : W.cell? ⟨Bs, 0, none⟩ = some (.pointer none) := hB.cell (j := 0) rfl
  have cM := Lib.hid (made_nil W)
  refine callsIn_of_wp Try.func72 rfl trivial ?_ rfl
  simp only [Try.ntmps72, List.size_toArray, List.length_cons, List.length_nil, Nat.reduceAdd, Nat.reduceSub, Array.replicate_succ, Array.replicate_zero, List.push_toArray, List.append_toArray, List.nil_append, List.cons_append]
  clear hY
  gi_wp2_with (refine ⟨trivial, ?_⟩; gi_at_call 67; refine (callsIn_wide.2 (cM.out)).mono ?_; rintro e W' ⟨rfl, rfl⟩)
  refine bodyPost_ret (results_none rfl _ _ _) rfl ?_
  exact ⟨⟨_, rfl⟩, .inl ⟨_, rfl, h0⟩⟩
set_option maxRecDepth 100000 in
set_option maxHeartbeats 8000000 in
theorem nobody_law (kd oi on ob : Int) (kv bv : Value) (w : World) :
    Calls Try.prog 11 #[.agg #[.int .i64 kd, .int .i64 oi, .int .i64 on, .int .u8 ob, kv, bv]] w fun e w' => e = .returned (.bool true) ∧ Below w.heap.size w w' := by
  have hen := eql_nil
  refine (callsIn_wide (n := 6)).1 ?_
  refine callsIn_of_wp_marks Try.func11 rfl trivial ?_ rfl
  simp only [Try.ntmps11, List.size_toArray, List.length_cons, List.length_nil, Nat.reduceAdd, Nat.reduceSub, Array.replicate_succ, Array.replicate_zero, List.push_toArray, List.append_toArray, List.nil_append, List.cons_append]
  gi_wp2_with (refine ⟨trivial, ?_⟩; gi_at_call 47; refine (callsIn_wide.2 (dirty_calls _ rfl _)).mono ?_; rintro e w' ⟨rfl, rfl⟩)
  have hB3 : Below w.heap.size w (((w.alloc (.cells #[.int .i64 kd, .int .i64 oi, .int .i64 on, .int .u8 ob, kv, bv] 67)).alloc (.cells #[.bool false] 4)).alloc (.cells #[.pointer none] 24)) := (((Below.refl _ w).alloc (Nat.le_refl _) _).alloc (by simp) _).alloc (by simp; omega) _
  have o1 := ((Ob.new w 67 #[.int .i64 kd, .int .i64 oi, .int .i64 on, .int .u8 ob, kv, bv]).alloc (.cells #[.bool false] 4)).alloc (.cells #[.pointer none] 24)
  have o2 := (Ob.new (w.alloc (.cells #[.int .i64 kd, .int .i64 oi, .int .i64 on, .int .u8 ob, kv, bv] 67)) 4 #[.bool false]).alloc (.cells #[.pointer none] 24)
  have o3 := Ob.new ((w.alloc (.cells #[.int .i64 kd, .int .i64 oi, .int .i64 on, .int .u8 ob, kv, bv] 67)).alloc (.cells #[.bool false] 4)) 24 #[.pointer none]
  simp only [World.size_alloc] at o2 o3
  have hs3 : w.heap.size + 3 = (((w.alloc (.cells #[.int .i64 kd, .int .i64 oi, .int .i64 on, .int .u8 ob, kv, bv] 67)).alloc (.cells #[.bool false] 4)).alloc (.cells #[.pointer none] 24)).heap.size := by simp
  generalize (((w.alloc (.cells #[.int .i64 kd, .int .i64 oi, .int .i64 on, .int .u8 ob, kv, bv] 67)).alloc (.cells #[.bool false] 4)).alloc (.cells #[.pointer none] 24)) = w3 at *
  refine ⟨trivial, (callsIn_wide.2 (lives_calls w3)).mono ?_⟩
  rintro e W ⟨rfl, hb1⟩
  gi_wp2
  replace o1 := o1.same hb1
  replace o2 := o2.same hb1
  replace o3 := o3.same hb1
  have hBW := hB3.trans (hb1.mono hB3.size)
  have hsW := hb1.size
  clear hb1 hB3
  refine Rr.range_reads (n := 6) rfl (by omega) (gf := 72) rfl trivial (enters_of Try.func72 (by kernel_rfl) rfl)
    (dirty_none 5 (by omega) (w.heap.size + 1 + 1) W o3) (Below.refl _ _) (fun h k => h.trans k) (fun W l r r' hl h => belowK_b (Nat.le_refl _) W l _ _ hl h rfl rfl) rfl
    (fun _ V => Ob V w.heap.size 67 #[.int .i64 kd, .int .i64 oi, .int .i64 on, .int .u8 ob, kv, bv] ∧ Below w.heap.size W V ∧ Ob V (w.heap.size + 1) 4 #[.bool false])
    (fun _ _ _ => False)
    (fun s A B row hs hg hr => ⟨ob_keep hs.1 hg (fun r e => (hr r e).2), ownFrom_below (B := W.heap.size) (by omega) (by omega) s A B row hs.2.1 hg hr, ob_keep hs.2.2 hg (fun r e => (hr r e).2)⟩)
    (fun c s A B row hs hg hr => hs.elim)
    ⟨o1, Below.refl _ _, o2⟩ ?round ?done ?stop
  case round => exact fun l pre d v W _ _ h => h.elim
  case stop => exact fun D c pre W _ h => h.elim
  case done =>
    rintro D xs V hD - ⟨p1, hB, p2⟩ hK
    obtain ⟨d0, d1, d2, d3, d4, d5⟩ := Ob.six p1
    clear o1 o2 o3
    gi_wp2_with (first
      | (refine ⟨trivial, ?_⟩; gi_at_call 33; refine (callsIn_wide.2 (stop_nil on V)).mono ?_; rintro e V1 ⟨rfl, rfl⟩)
      | (refine ⟨trivial, ?_⟩; gi_at_call 41; refine (callsIn_wide.2 (read_nil oi V)).mono ?_; rintro e V1 ⟨rfl, rfl⟩)
      | (refine ⟨trivial, ?_⟩; gi_at_call 48; refine (callsIn_wide.2 (counts_nil V)).mono ?_; rintro e V1 ⟨rfl, rfl⟩))
    clear d0 d1 d2 d3 d4 d5
    have hdr := (Below.refl V.heap.size V).drew
    have k1 : Ob V.drew w.heap.size 67 #[.int .i64 kd, .int .i64 oi, .int .i64 on, .int .u8 ob, kv, bv] := p1
    have k2 : Ob V.drew (w.heap.size + 1) 4 #[.bool false] := p2
    have hBD : Below w.heap.size W V.drew := hB.drew
    have hKD : V.drew.heap[D]? = some (.deferred (some [])) := hK
    have hs0 : w.heap.size + 3 ≤ V.drew.heap.size := by have := hB.size; show _ ≤ V.heap.size; omega
    clear p1 p2 hB hK hdr
    refine wpIn_wide.2 ?_
    refine Pu.regionM [(0, false), (1, false), (2, false), (3, true), (4, false), (5, false), (6, false), (7, false), (8, false), (9, false), (10, false), (11, false), (12, false), (13, false), (14, false), (15, false), (16, false), (17, false), (18, false), (19, false), (20, false), (21, false), (22, false), (23, false), (24, false), (25, false), (26, false), (27, false), (28, false), (29, false), (30, false), (31, false), (32, false), (33, false), (34, false), (35, false), (36, false), (37, false), (38, false), (39, false), (40, false), (41, false), (42, false), (43, false), (44, false), (45, false), (46, false), (47, false), (48, true)] (fun V => Ob V w.heap.size 67 #[.int .i64 kd, .int .i64 oi, .int .i64 on, .int .u8 ob, kv, bv]) hmx (by kernel_rfl) (by kernel_rfl) (by kernel_rfl) k1 rfl ?_
    simp only [Pu.named, List.filterMap_cons, List.filterMap_nil, List.getElem?_toArray, List.getElem?_cons_succ, List.getElem?_cons_zero, Option.map_some]
    iterate 3 (first
      | (refine Pu.WalkM.off (by rfl) ?_; simp only [Act.put, List.setIfInBounds_toArray, List.set_cons_succ, List.set_cons_zero])
      | (apply Pu.WalkM.on (by rfl)
         · intro V hV
           obtain ⟨q0, q1, q2, q3, q4, q5⟩ := Ob.six hV
           go_wp2_with fail
           refine ⟨rfl, ?_, rfl⟩
           try simp only [Act.put, List.setIfInBounds_toArray, List.set_cons_succ, List.set_cons_zero]
           rfl
         simp only [Act.put, List.setIfInBounds_toArray, List.set_cons_succ, List.set_cons_zero]))
    generalize hVD : V.drew = VD at *
    clear hVD
    refine Pu.WalkM.make (by rfl) ?_
    intro V hV
    rw [hV]
    clear hV V
    go_wp2_with (go_at_call 39; refine (show Calls Try.prog 39 #[.int .u8 1] VD _ from block_calls 1 VD).mono ?_; rintro e W3 ⟨⟨v3, rfl, hv3⟩, hb3⟩)
    have k13 := k1.same hb3
    have k23 := k2.same hb3
    have hB3 := hBD.trans (hb3.mono (by omega))
    have hs3' := hb3.size
    have hK3 := (hb3.block D (Array.getElem?_eq_some_iff.1 hKD).1).trans hKD
    clear hv3 hb3 k1 k2 hBD hKD
    refine ⟨rfl, v3, (fun V => Ob V w.heap.size 67 #[.int .i64 kd, .int .i64 oi, .int .i64 on, .int .u8 ob, kv, bv]), (fun V => V = W3), ?_, rfl, (fun V h => by rw [h]; exact k13), (.inr (fun _ h => h)), ?_⟩
    · try simp only [Act.put, List.setIfInBounds_toArray, List.set_cons_succ, List.set_cons_zero]
    try simp only [Act.put, List.setIfInBounds_toArray, List.set_cons_succ, List.set_cons_zero]
    iterate 44 (first
      | (refine Pu.WalkM.off (by rfl) ?_; simp only [Act.put, List.setIfInBounds_toArray, List.set_cons_succ, List.set_cons_zero])
      | (apply Pu.WalkM.on (by rfl)
         · intro V hV
           obtain ⟨q0, q1, q2, q3, q4, q5⟩ := Ob.six hV
           go_wp2_with (first | (go_at_call 38; refine (write_nil oi v3 V).mono ?_; rintro e V2 ⟨rfl, rfl⟩) | (go_at_call 40; refine (flush_nil V).mono ?_; rintro e V2 ⟨rfl, rfl⟩) | (go_at_call 42; refine (off_nil V).mono ?_; rintro e V2 ⟨rfl, rfl⟩) | (go_at_call 31; refine (crash_nil kv oi on V).mono ?_; rintro e V2 ⟨rfl, rfl⟩) | (go_at_call 43; refine (len_nil V).mono ?_; rintro e V2 ⟨rfl, rfl⟩))
           refine ⟨rfl, ?_, rfl⟩
           try simp only [Act.put, List.setIfInBounds_toArray, List.set_cons_succ, List.set_cons_zero]
           rfl
         simp only [Act.put, List.setIfInBounds_toArray, List.set_cons_succ, List.set_cons_zero]))
    refine Pu.WalkM.make (by rfl) ?_
    intro V hV
    rw [hV]
    clear hV V
    have z1 := k23.cell (j := 0) (v := .bool false) rfl
    have f1 := k23.frozen 0
    go_wp2_with fail
    clear z1 f1
    refine ⟨rfl, undef, (fun _ => True), (fun V => V = W3.setCell ⟨w.heap.size + 1, 0, none⟩ (.bool true)), rfl, rfl, (fun _ _ => trivial), (.inl (by kernel_rfl)), Pu.WalkM.nil ?_⟩
    intro V hV
    rw [hV]
    clear hV V
    simp only [Act.put]
    have hb22 := k23.set 0 (.bool true)
    have hBB := hB3.grown (grownBy_set W3 (w.heap.size + 1) 0 (.bool true)) (by omega) (fun k e => by cases e; omega)
    have hK2 : (W3.setCell ⟨w.heap.size + 1, 0, none⟩ (.bool true)).heap[D]? = some (.deferred (some [])) := ((grownBy_set W3 (w.heap.size + 1) 0 (.bool true)).block D (Array.getElem?_eq_some_iff.1 hK3).1 (fun e => by cases e; omega)).trans hK3
    gi_wp2
    refine ⟨by simp, .inl ⟨_, _, rfl, run_takeDeferred hK2, ?_⟩⟩
    have c4 : ((W3.setCell ⟨w.heap.size + 1, 0, none⟩ (.bool true)).putObj D (.deferred none)).cell? ⟨w.heap.size + 1, 0, none⟩ = some (.bool true) := (boxed_end hb22 hK2).cell
    refine ⟨.bool true, ?_, rfl, below_end (hBW.trans hBB) (by omega) hK2⟩
    simp [results, Try.f11, go_sem, c4]
theorem nobody_op (o : OpV) (kv bv : Value) (w : World) : Calls Try.prog 11 #[.agg (opC o kv bv).toArray] w fun e w' => e = .returned (.bool true) ∧ Below w.heap.size w w' := nobody_law o.kd o.i o.n _ kv bv w
end Se
end Go.Proofs.Yteiniahikhiadaa
