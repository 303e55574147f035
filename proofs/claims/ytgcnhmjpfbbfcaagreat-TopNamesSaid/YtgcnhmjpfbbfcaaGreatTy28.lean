/-
  part of the proof of TopNames.
-/
import Derived.Test.YtgcnhmjpfbbfcaaGreatTy27
set_option linter.unusedVariables false
set_option linter.unusedSimpArgs false
set_option maxRecDepth 100000
set_option maxHeartbeats 8000000
namespace Go.Proofs.YtgcnhmjpfbbfcaaGreat
namespace Pq
open Go.RowKit
theorem mk4 {P : Program} {ops : Array Oper} {Q : Exit → Act → World → Prop} {pl : PlanO} {a a' : Act} {o : Oper} {i : Nat} {r : List Nat} {B : World → Prop} (w' : World) (v : Value) (hB : B w') (ha : a' = a.put o.dst v) (hw : WalkT P ops Q pl (a.put o.dst v) B (fun V => V = w')) : MadeT P ops Q pl a o i r B .normal a' w' := mk3 v hB ha hw
end Pq
namespace Tp
section
open Go.RowKit Go.Maps
open Ce
theorem ninput_calls {k f : Int} {v : Value} {l : List UInt8} {w : World} (hI : BytesAt w 0 w.heap.size v l) (h1 : 0 ≤ k) (h2 : k ≤ 10) (h3 : 0 ≤ f) (h4 : f ≤ 10) (hl : l.length ≤ 100) :
   Calls Tryz.prog 82 #[vI k, vI f, v] w fun e w' => (∃ u, e = .returned u ∧ w'.ownsRow w.heap.size 5 1 u (inC k f l).length (bytesV (inC k f l))) ∧ Below w.heap.size w w' := by
 obtain ⟨A, c, rfl, hc1, hc2⟩ := hI.form; have HS := hdd (fun V (h : Below w.heap.size w V) => run_string_at (P := Tryz.prog) (src := 35) (dst := 9) Tryz.underlying35 Tryz.underlying5 Tryz.underlying9 (hI.below h)); have hBX : Below w.heap.size w w.drew := (Below.refl _ w).drew; have n1 := numC_len k; have n2 := numC_len f; have n3 := numC_len l.length; have kc := HS.out _ hBX
 have hts : (⟨l.toArray⟩ : ByteArray).size < 128 := by
   show l.toArray.size < 128; simp; omega
 clear hI
 go_enter Tryz.func82, Tryz.ntmps82
 go_wp2_with fail
 go_region_held3 (fun V => (convert 35 9 (.slice A l.length c)).run Tryz.prog V = .ok (.string ⟨l.toArray⟩) V) (first | ((try dsimp only); exact HS.out _ hBX) | go_keep) ((first
     | (go_at_call 85; (with_reducible refine (new_calls _).mono ?_); rintro e V1 ⟨rfl, rfl⟩); have hMX : Mk (w.alloc (.cells #[vN, .bool false] 250)).drew w.heap.size (fun i => i < w.heap.size) ([], false) := Mk.new w.drew (fun i => i < w.heap.size) (fun i h => h); have hBX : Below w.heap.size w (w.alloc (.cells #[vN, .bool false] 250)).drew := hBX.alloc hBX.size (.cells #[vN, .bool false] 250)
     | (go_at_call 86; (with_reducible refine (mnum_s hMX (by simp only [List.length_append, List.length_nil]; omega) (by omega) (by omega)).mono ?_); rintro e V1 ⟨rfl, hMX, hKX⟩); have hBX := hBX.trans (hKX.below (fun i hi => by omega))
     | (go_at_call 130; (with_reducible refine (mtext_s hMX (by simp only [List.length_append, List.length_nil]; omega) hts).mono ?_); rintro e V1 ⟨rfl, hMX, hKX⟩); have hBX := hBX.trans (hKX.below (fun i hi => by omega))
     | (go_at_call 88; (with_reducible refine (mdone_calls _ _ _ _ hMX rfl).mono ?_); rintro e V1 ⟨⟨u, rfl, hu⟩, hbX⟩); have hWX := hBX.size; have hBX := hBX.trans (hbX.mono hBX.size)))
 have e : [] ++ numC k ++ numC f ++ (numC (⟨l.toArray⟩ : ByteArray).size ++ (⟨l.toArray⟩ : ByteArray).data.toList) = inC k f l := by simp [inC, ByteArray.size]
 rw [e] at hu; go_wp2; go_ret; exact ⟨⟨_, rfl, Wa.ownsRow_wide hu hWX⟩, hBX⟩
theorem nappend_calls {a : Na} {me now cnt u : Nat} {ov v : Value} {l : List UInt8} {r : List As} {w : World} (h : St (NodeB a me now cnt ov :: LogA a.lg u :: BytesA v l :: r) w) (hu : u + l.length + 3 ≤ 47187) :
   Calls Tryz.prog 121 #[ptr a.nd, v] w fun e w' => e = .returned vO ∧ St (NodeB a me now cnt ov :: LogA a.lg (u + l.length + 3) :: BytesA v l :: r) w' := by
 have g2 := (h.nf 0 rfl).n.k 2 rfl; have s1 := ((h).take [1, 1, 0]); simp only [takeOut, zzD, zzE, zzF, zzG, zzH, zzI] at s1; have cA := hdd (log_append s1 hu); obtain ⟨A, c, rfl, -⟩ := (h.by 2 rfl).form; clear h s1
 go_enter Tryz.func121, Tryz.ntmps121
 go_wp2_with fail; refine (cA.out).mono ?_; rintro e w' ⟨⟨k, rfl⟩, s2⟩; have s3 := ((s2).take [2, 0, 0]); simp only [takeOut, zzD, zzE, zzF, zzG, zzH, zzI] at s3; go_wp2; go_ret; exact ⟨rfl, s3⟩
theorem etick_calls {e : Nat} {its : List LItem} {sent mark now : Int} {k : Nat} {l : List As} {w : World} (h : St l w) (hk : l[k]? = some (EndA e its sent mark)) (hd : its = [] ∨ ∃ x, its = [x] ∧ now < x.2.2.2) : Calls Tryz.prog 178 #[ptr e, vI now] w fun e' w' => e' = .returned vN ∧ w = w' := by
 obtain ⟨v, s⟩ := EndA.out (h.front k hk); have oE := s.ob (b := e) 0 rfl; rcases hd with rfl | ⟨x, rfl, hx⟩
 · obtain ⟨A, c, rfl, -⟩ := (Sl.of_own (s.own 1 rfl)).at_
   exact tick_nil now oE
 · obtain ⟨sq, bv, tr, du⟩ := x
   obtain ⟨g, cap, rest, rfl, hc1, hc2, -, hl, s1⟩ := (s.front 1 rfl).rowOb; exact tick_one hx oE ((s1.ob (b := g) 0 rfl).k 3 rfl)
theorem ntick_calls {a : Na} {me now cnt : Nat} {ov : Value} {i0 i1 : List LItem} {t0 m0 t1 m1 : Int} {r : List As} {w : World} (h : St (NodeB a me now cnt ov :: EndA a.e0 i0 t0 m0 :: EndA a.e1 i1 t1 m1 :: r) w) (hn : now ≤ 10) (h0 : i0 = [] ∨ ∃ x, i0 = [x] ∧ (now : Int) + 1 < x.2.2.2) (h1 : i1 = [] ∨ ∃ x, i1 = [x] ∧ (now : Int) + 1 < x.2.2.2) :
   Calls Tryz.prog 116 #[ptr a.nd] w fun e w' => e = .returned (.tuple #[]) ∧ St (NodeB a me (now + 1) cnt ov :: EndA a.e0 i0 t0 m0 :: EndA a.e1 i1 t1 m1 :: r) w' := by
 have F := h.nf 0 rfl; have g3 := F.n.k 3 rfl; have f3 := F.n.frozen 3; have s1 : St (NodeB a me (now + 1) cnt ov :: _) _ := h.nset 3 (vI ((now : Int) + 1)) (by simp [nodeV]); have F1 := s1.nf 0 rfl; have cH := hdd (nhurry_calls F1); have c0 := hdd (etick_calls s1 (k := 1) rfl h0); have c1 := hdd (etick_calls s1 (k := 2) rfl h1); have HS := hdd s1; have HF1 := hdd F1; clear h F s1 F1 h0 h1
 go_enter Tryz.func116, Tryz.ntmps116
 go_wp2_with fail; refine cH.out.mono ?_; rintro e W ⟨rfl, rfl⟩; have F1 := HF1.out; generalize w.setCell ⟨a.nd, 3, none⟩ (vI ((now : Int) + 1)) = W at *; have g6 := F1.n.k 6 rfl; have g3 := F1.n.k 3 rfl; have l0 := F1.e.k 0 rfl; have l1 := F1.e.k 1 rfl; have hec := F1.c; have hI : (decide ((now : Int) + 1 ≤ 9223372036854775807)) = true := by simp; omega
 clear F1; go_wp2; refine wp_loop_rounds 3 ?_; rw [rounds_succ]; go_wp2_with fail; refine (c0.out).mono ?_; rintro e W1 ⟨rfl, rfl⟩; go_wp2; refine wp_loop_rounds 1 ?_; rw [rounds_succ]; go_wp2; rw [rounds_succ]; go_wp2_with fail; refine (c1.out).mono ?_; rintro e W1 ⟨rfl, rfl⟩; go_wp2; refine wp_loop_rounds 1 ?_; rw [rounds_succ]; go_wp2; rw [rounds_succ]; go_wp2; go_end0; exact ⟨rfl, HS.out⟩
end
section
open Go.RowKit Go.Maps
open Ce It Al Kp
theorem ntakeq_calls {a : Na} {now cnt : Nat} {ov sv : Value} {r : List As} {w : World} (h : St (NodeB a 0 now cnt ov :: DeskN a.dk 0 :: ItmA sv :: r) w) :
   Calls Tryz.prog 185 #[ptr a.nd, mailQ 1 sv, vI 1] w fun e w' => ∃ v sv', e = .returned v ∧ St (RowA 306 17 v 1 (postQ 0 11 sv') :: ItmA sv' :: DeskO a.dk 0 :: NodeB a 0 now cnt ov :: r) w' := by
 obtain ⟨A, c, rfl, -⟩ := itm_form (h.sl 2 rfl); have s1 := h.obNew 304 (mailQC 1 (.slice A 1 c)); have m0 := (s1.ob (b := w.heap.size) 0 rfl).k 0 rfl; clear h
 go_enter Tryz.func185, Tryz.ntmps185
 go_wp2_with fail; generalize hWd : w.alloc (.cells (mailQC 1 (.slice A 1 c)) 304) = W at *; clear hWd m0; have oN := hdd (s1.nf 1 rfl).n; have s2 := ((s1.drew).take [2, 2, 1, 0]); simp only [takeOut, zzD, zzE, zzF, zzG, zzH, zzI] at s2; have cA := hdd (dask_calls s2); clear s2; refine Pq.regionT (.look 0 (.look 1 (.look 2 (.look 3 (.look 4 (.look 5 (.look 6 (.make 7 (.make 8 .nil))))))))) (fun V => Ob V a.nd 126 (nodeV a 0 now cnt ov) ∧ Ob V w.heap.size 304 (mailQC 1 (.slice A 1 c))) Se.hmx (by kernel_rfl) (by kernel_rfl) (by kernel_rfl) ⟨((s1).drew.nf 1 rfl).n, ((s1).drew.ob 0 rfl)⟩ rfl ?_; simp only [Pq.named, Pq.rest, zzJ, zzK, zzL, zzM]
 iterate 7 (
   apply Pq.WalkT.on (by rfl)
   · rintro V ⟨hO0, hO1⟩
     have ⟨n0, n1, n2, n3, n4, n5, n6, n7, n8, n9⟩ := hO0.k10 rfl rfl rfl rfl rfl rfl rfl rfl rfl rfl; have ⟨m0, m1, m2, m3, m4, m5, m6, m7, m8, m9, m10, m11, m12, m13, m14, m15⟩ := hO1.k16 rfl rfl rfl rfl rfl rfl rfl rfl rfl rfl rfl rfl rfl rfl rfl rfl; go_wp2_with fail; refine ⟨rfl, ?_, rfl⟩
     try simp only [Act.put, zzA, zzB, zzC]
     rfl
   simp only [Act.put, zzA, zzB, zzC])
 refine Pq.WalkT.make (by rfl) ?_; rintro T0 hq; replace hq := hq.symm; subst hq; go_wp2_with fail; refine (cA.out).mono ?_; rintro e2 V1 ⟨v1, sv', rfl, s3⟩; obtain ⟨A3, c3, rfl, -⟩ := (Sl.of_own (s3.own 0 rfl)).at_; have s4 := ((s3).take [4, 3, 0, 0, 0]); simp only [takeOut, zzD, zzE, zzF, zzG, zzH, zzI] at s4; go_wp2_with fail; refine Pq.mk3 (.slice A3 1 c3) ⟨((s4).nf 1 rfl).n, ((s4).ob 0 rfl)⟩ ?_ ?_
 · try simp only [Act.put, zzA, zzB, zzC]
   try rfl
 simp only [Act.put, zzA, zzB, zzC]; refine Pq.WalkT.make (by rfl) ?_; rintro T5 hq; replace hq := hq.symm; subst hq; go_wp2_with fail; refine ⟨rfl, .slice A3 1 c3, (fun _ => True), (fun V => V = V1), rfl, rfl, (fun _ _ => trivial), (.inl (by kernel_rfl)), Pq.WalkT.nil ?_⟩; rintro V rfl; simp only [Act.put]; simp only [List.setIfInBounds_toArray, List.set_cons_succ, List.set_cons_zero]; have s5 := ((s4).take [0, 1, 1, 1, 0]); simp only [takeOut, zzD, zzE, zzF, zzG, zzH, zzI] at s5; replace s5 := s5.drop; clear s3 s4 s1 cA; go_wp2; go_ret; exact ⟨_, _, rfl, s5⟩
theorem ntaked_calls {a : Na} {now cnt : Nat} {ov : Value} {sv : Value} {r : List As} {w : World} (h : St (NodeB a 0 now cnt ov :: RegA a.rg 0 [] :: ItmA sv :: r) w) :
   Calls Tryz.prog 185 #[ptr a.nd, mailQ 11 sv, vO] w fun e w' => ∃ v, e = .returned v ∧ St (RowA 306 17 v 3 (postY 0 12 ++ (postN 0 ++ postN 1)) :: RegA a.rg 0 stk1 :: NodeB a 0 now cnt ov :: r) w' := by
 obtain ⟨A, c, rfl, -⟩ := itm_form (h.sl 2 rfl); have s1 := h.obNew 304 (mailQC 11 (.slice A 1 c)); have m0 := (s1.ob (b := w.heap.size) 0 rfl).k 0 rfl; clear h
 go_enter Tryz.func185, Tryz.ntmps185
 go_wp2_with fail; generalize hWd : w.alloc (.cells (mailQC 11 (.slice A 1 c)) 304) = W at *; clear hWd m0; have s2 := ((s1.drew).take [2, 2, 1, 0]); simp only [takeOut, zzD, zzE, zzF, zzG, zzH, zzI] at s2; have cA := hdd (rmail_calls (fr := 0) s2 (by omega) (by omega)); clear s2; refine Pq.regionT (.look 0 (.look 1 (.look 2 (.look 3 (.look 4 (.look 5 (.make 6 (.make 7 .nil)))))))) (fun V => Ob V a.nd 126 (nodeV a 0 now cnt ov) ∧ Ob V w.heap.size 304 (mailQC 11 (.slice A 1 c))) Se.hmx (by kernel_rfl) (by kernel_rfl) (by kernel_rfl) ⟨((s1).drew.nf 1 rfl).n, ((s1).drew.ob 0 rfl)⟩ rfl ?_; simp only [Pq.named, Pq.rest, zzJ, zzK, zzL, zzM]
 iterate 6 (
   apply Pq.WalkT.on (by rfl)
   · rintro V ⟨hO0, hO1⟩
     have ⟨n0, n1, n2, n3, n4, n5, n6, n7, n8, n9⟩ := hO0.k10 rfl rfl rfl rfl rfl rfl rfl rfl rfl rfl; go_wp2_with (refine wpList_load_obg (by rfl) _ _ rfl rfl _ hO1 Tryz.underlying304 rfl (by kernel_rfl) ?_); refine ⟨rfl, ?_, rfl⟩
     try simp only [Act.put, zzA, zzB, zzC]
     rfl
   simp only [Act.put, zzA, zzB, zzC])
 refine Pq.WalkT.make (by rfl) ?_; rintro T0 hq; replace hq := hq.symm; subst hq; go_wp2_with fail; refine (cA.out).mono ?_; rintro e2 V1 ⟨v1, rfl, s3⟩; obtain ⟨A3, c3, rfl, -⟩ := (Sl.of_own (s3.own 0 rfl)).at_; have s4 := ((s3).take [4, 3, 0, 0, 0]); simp only [takeOut, zzD, zzE, zzF, zzG, zzH, zzI] at s4; go_wp2_with fail; refine Pq.mk3 (.slice A3 3 c3) ⟨((s4).nf 1 rfl).n, ((s4).ob 0 rfl)⟩ ?_ ?_
 · try simp only [Act.put, zzA, zzB, zzC]
   try rfl
 simp only [Act.put, zzA, zzB, zzC]; refine Pq.WalkT.make (by rfl) ?_; rintro T5 hq; replace hq := hq.symm; subst hq; go_wp2_with fail; refine ⟨rfl, .slice A3 3 c3, (fun _ => True), (fun V => V = V1), rfl, rfl, (fun _ _ => trivial), (.inl (by kernel_rfl)), Pq.WalkT.nil ?_⟩; rintro V rfl; simp only [Act.put]; simp only [List.setIfInBounds_toArray, List.set_cons_succ, List.set_cons_zero]; have s5 := ((s4).take [0, 3, 1, 1, 0]); simp only [takeOut, zzD, zzE, zzF, zzG, zzH, zzI] at s5; replace s5 := s5.drop.drop; clear s3 s4 s1 cA; go_wp2; go_ret; exact ⟨_, rfl, s5⟩
theorem ntakey_calls {a : Na} {now cnt : Nat} {ov : Value} {r : List As} {w : World} (h : St (NodeB a 0 now cnt ov :: DeskO a.dk 0 :: r) w) :
   Calls Tryz.prog 185 #[ptr a.nd, mailY 12, vO] w fun e w' => ∃ v, e = .returned v ∧ St (RowA 306 17 v 1 (postY 1 2) :: DeskA a.dk 0 :: NodeB a 0 now cnt ov :: r) w' := by
 have s1 := h.obNew 304 (mailYC 12); have m0 := (s1.ob (b := w.heap.size) 0 rfl).k 0 rfl; clear h
 go_enter Tryz.func185, Tryz.ntmps185
 go_wp2_with fail; generalize hWd : w.alloc (.cells (mailYC 12) 304) = W at *; clear hWd m0; have s2 := ((s1.drew).take [2, 1, 0]); simp only [takeOut, zzD, zzE, zzF, zzG, zzH, zzI] at s2; have cA := hdd (dmaily_calls s2); clear s2; refine Pq.regionT (.look 0 (.look 1 (.look 2 (.look 3 (.look 4 (.look 5 (.make 6 (.make 7 .nil)))))))) (fun V => Ob V a.nd 126 (nodeV a 0 now cnt ov) ∧ Ob V w.heap.size 304 (mailYC 12)) Se.hmx (by kernel_rfl) (by kernel_rfl) (by kernel_rfl) ⟨((s1).drew.nf 1 rfl).n, ((s1).drew.ob 0 rfl)⟩ rfl ?_; simp only [Pq.named, Pq.rest, zzJ, zzK, zzL, zzM]
 iterate 6 (
   apply Pq.WalkT.on (by rfl)
   · rintro V ⟨hO0, hO1⟩
     have ⟨n0, n1, n2, n3, n4, n5, n6, n7, n8, n9⟩ := hO0.k10 rfl rfl rfl rfl rfl rfl rfl rfl rfl rfl; go_wp2_with (refine wpList_load_obg (by rfl) _ _ rfl rfl _ hO1 Tryz.underlying304 rfl (by kernel_rfl) ?_); refine ⟨rfl, ?_, rfl⟩
     try simp only [Act.put, zzA, zzB, zzC]
     rfl
   simp only [Act.put, zzA, zzB, zzC])
 refine Pq.WalkT.make (by rfl) ?_; rintro T0 hq; replace hq := hq.symm; subst hq; go_wp2_with fail; refine (cA.out).mono ?_; rintro e2 V1 ⟨v1, rfl, s3⟩; obtain ⟨A3, c3, rfl, -⟩ := (Sl.of_own (s3.own 0 rfl)).at_; have s4 := ((s3).take [3, 2, 0, 0]); simp only [takeOut, zzD, zzE, zzF, zzG, zzH, zzI] at s4; go_wp2_with fail; refine Pq.mk3 (.slice A3 1 c3) ⟨((s4).nf 1 rfl).n, ((s4).ob 0 rfl)⟩ ?_ ?_
 · try simp only [Act.put, zzA, zzB, zzC]
   try rfl
 simp only [Act.put, zzA, zzB, zzC]; refine Pq.WalkT.make (by rfl) ?_; rintro T5 hq; replace hq := hq.symm; subst hq; go_wp2_with fail; refine ⟨rfl, .slice A3 1 c3, (fun _ => True), (fun V => V = V1), rfl, rfl, (fun _ _ => trivial), (.inl (by kernel_rfl)), Pq.WalkT.nil ?_⟩; rintro V rfl; simp only [Act.put]; simp only [List.setIfInBounds_toArray, List.set_cons_succ, List.set_cons_zero]; have s5 := ((s4).take [0, 1, 1, 0]); simp only [takeOut, zzD, zzE, zzF, zzG, zzH, zzI] at s5; replace s5 := s5.drop; clear s3 s4 s1 cA; go_wp2; go_ret; exact ⟨_, rfl, s5⟩
theorem ntaken_calls {a : Na} {me now cnt : Nat} {ov : Value} {fr : Int} {r : List As} {w : World} (h : St (NodeB a me now cnt ov :: DeskA a.dk me :: r) w) (h0 : 0 ≤ fr) (h1 : fr < 2) :
   Calls Tryz.prog 185 #[ptr a.nd, mailN, vI fr] w fun e w' => e = .returned vN ∧ St (DeskA a.dk me :: NodeB a me now cnt ov :: r) w' := by
 have s1 := h.obNew 304 (mailNC); have m0 := (s1.ob (b := w.heap.size) 0 rfl).k 0 rfl; clear h
 go_enter Tryz.func185, Tryz.ntmps185
 go_wp2_with fail; generalize hWd : w.alloc (.cells (mailNC) 304) = W at *; clear hWd m0; have s2 := ((s1.drew).take [2, 1, 0]); simp only [takeOut, zzD, zzE, zzF, zzG, zzH, zzI] at s2; have cA := hdd (dmailn_calls s2 h0 h1); clear s2; refine Pq.regionT (.look 0 (.look 1 (.look 2 (.look 3 (.look 4 (.look 5 (.make 6 (.make 7 .nil)))))))) (fun V => Ob V a.nd 126 (nodeV a me now cnt ov) ∧ Ob V w.heap.size 304 (mailNC)) Se.hmx (by kernel_rfl) (by kernel_rfl) (by kernel_rfl) ⟨((s1).drew.nf 1 rfl).n, ((s1).drew.ob 0 rfl)⟩ rfl ?_; simp only [Pq.named, Pq.rest, zzJ, zzK, zzL, zzM]
 iterate 6 (
   apply Pq.WalkT.on (by rfl)
   · rintro V ⟨hO0, hO1⟩
     have ⟨n0, n1, n2, n3, n4, n5, n6, n7, n8, n9⟩ := hO0.k10 rfl rfl rfl rfl rfl rfl rfl rfl rfl rfl; go_wp2_with (refine wpList_load_obg (by rfl) _ _ rfl rfl _ hO1 Tryz.underlying304 rfl (by kernel_rfl) ?_); refine ⟨rfl, ?_, rfl⟩
     try simp only [Act.put, zzA, zzB, zzC]
     rfl
   simp only [Act.put, zzA, zzB, zzC])
 refine Pq.WalkT.make (by rfl) ?_; rintro T0 hq; replace hq := hq.symm; subst hq; go_wp2_with fail; refine (cA.out).mono ?_; rintro e2 V1 ⟨rfl, s3⟩; have s4 := ((s3).take [2, 1, 0]); simp only [takeOut, zzD, zzE, zzF, zzG, zzH, zzI] at s4; go_wp2_with fail; refine Pq.mk3 vN ⟨((s4).nf 1 rfl).n, ((s4).ob 0 rfl)⟩ ?_ ?_
 · try simp only [Act.put, zzA, zzB, zzC]
   try rfl
 simp only [Act.put, zzA, zzB, zzC]; refine Pq.WalkT.make (by rfl) ?_; rintro T5 hq; replace hq := hq.symm; subst hq; go_wp2_with fail; refine ⟨rfl, vN, (fun _ => True), (fun V => V = V1), rfl, rfl, (fun _ _ => trivial), (.inl (by kernel_rfl)), Pq.WalkT.nil ?_⟩; rintro V rfl; simp only [Act.put]; simp only [List.setIfInBounds_toArray, List.set_cons_succ, List.set_cons_zero]; have s5 := ((s4).take [0, 1, 0]); simp only [takeOut, zzD, zzE, zzF, zzG, zzH, zzI] at s5; replace s5 := s5.drop; clear s3 s4 s1 cA; go_wp2; go_ret; exact ⟨rfl, s5⟩
theorem ntakea_calls {a : Na} {me now cnt n : Nat} {ov : Value} {xs : List Value} {fr : Int} {r : List As} {w : World} (h : St (NodeB a me now cnt ov :: RowA 181 7 ov n xs :: r) w) (hn : n ≤ 10) :
   Calls Tryz.prog 185 #[ptr a.nd, mailY 2, vI fr] w fun e w' => e = .returned vN ∧ ∃ ov', St (NodeB a me now cnt ov' :: RowA 181 7 ov' (n + 1) (xs ++ sentY) :: r) w' := by
 obtain ⟨Av, cv, rfl, -⟩ := (Sl.of_own (h.own 1 rfl)).at_; have s1 := h.obNew 304 (mailYC 2); have m0 := (s1.ob (b := w.heap.size) 0 rfl).k 0 rfl; clear h
 go_enter Tryz.func185, Tryz.ntmps185
 go_wp2_with fail; generalize hWd : w.alloc (.cells (mailYC 2) 304) = W at *; clear hWd m0; refine Pq.regionT (.look 0 (.look 1 (.look 2 (.look 3 (.look 4 (.look 5 (.look 6 (.look 7 (.look 8 (.look 9 (.look 10 (.look 13 (.look 14 (.make 11 (.make 12 (.make 15 .nil)))))))))))))))) (fun V => Ob V a.nd 126 (nodeV a me now cnt (.slice Av n cv)) ∧ Ob V w.heap.size 304 (mailYC 2)) Se.hmx (by kernel_rfl) (by kernel_rfl) (by kernel_rfl) ⟨((s1).drew.nf 1 rfl).n, ((s1).drew.ob 0 rfl)⟩ rfl ?_; simp only [Pq.named, Pq.rest, zzJ, zzK, zzL, zzM]
 iterate 13 (
   apply Pq.WalkT.on (by rfl)
   · rintro V ⟨hO0, hO1⟩
     have ⟨n0, n1, n2, n3, n4, n5, n6, n7, n8, n9⟩ := hO0.k10 rfl rfl rfl rfl rfl rfl rfl rfl rfl rfl; have ⟨m0, m1, m2, m3, m4, m5, m6, m7, m8, m9, m10, m11, m12, m13, m14, m15⟩ := hO1.k16 rfl rfl rfl rfl rfl rfl rfl rfl rfl rfl rfl rfl rfl rfl rfl rfl; go_wp2_with fail; refine ⟨rfl, ?_, rfl⟩
     try simp only [Act.put, zzA, zzB, zzC]
     rfl
   simp only [Act.put, zzA, zzB, zzC])
 have sA0 := ((s1).drew).alloc (.cells #[.bool true, vO, vN, vO, vI 1, vO, vO] 181); have hSl0 := Sl.new ((W).drew) #[.bool true, vO, vN, vO, vI 1, vO, vO] 181 (n := 1) (size := 7) rfl (by unfold maxLen; omega); obtain ⟨iA, hiA, hzA0, hzA1, hzA2⟩ := inf3 sent_info; refine Pq.WalkT.make (by rfl) ?_; rintro T1 hq; replace hq := hq.symm; subst hq; go_wp2_with fail; refine Pq.mk4 (W.drew.alloc (.cells #[.bool true, vO, vN, vO, vI 1, vO, vO] 181)) (.slice (some ⟨((W).drew).heap.size, 0, none⟩) 1 1) ⟨(sA0.nf 1 rfl).n, (sA0.ob 0 rfl)⟩ ?_ ?_
 · try simp only [Act.put, zzA, zzB, zzC]
   try rfl
 simp only [Act.put, zzA, zzB, zzC]; refine Pq.WalkT.make (by rfl) ?_; rintro T2 hq; replace hq := hq.symm; subst hq; refine wpList_append_sl _ rfl (.tmp 25) (.tmp 32) _ rfl 0 181 iA _ 7 72 Tryz.underlying101 hiA hzA0 hzA1 hzA2 rfl (by omega) (.slice Av n cv) n xs rfl (sA0.own 2 rfl) _ _ _ 1 (#[.bool true, vO, vN, vO, vI 1, vO, vO]).toList rfl hSl0 (by simp [Value.oneCell']) (by unfold maxLen; omega) (by omega) (by simp) ?_; intro v1 T3 hv1 hg1 hat1; obtain ⟨A9, c9, hv9, -⟩ := (Sl.of_own hv1).at_; subst hv9; have sA1 := (sA0.front 2 rfl).row hv1 hg1 hat1; refine Pq.mk3 (.slice A9 (n + 1) c9) ⟨(sA1.nf 2 rfl).n, (sA1.ob 1 rfl)⟩ ?_ ?_
 · try simp only [Act.put, zzA, zzB, zzC]
   try rfl
 simp only [Act.put, zzA, zzB, zzC]; refine Pq.WalkT.make (by rfl) ?_; rintro T4 hq; replace hq := hq.symm; subst hq; have gA := (sA1.nf 2 rfl).n.k 9 rfl; have fA := (sA1.nf 2 rfl).n.frozen 9; have sA2 := St.nset (ov' := .slice A9 (n + 1) c9) (sA1.front 2 rfl) 9 (.slice A9 (n + 1) c9) rfl; go_wp2_with fail; refine ⟨rfl, undef, (fun _ => True), (fun V => V = _), rfl, rfl, (fun _ _ => trivial), (.inl (by kernel_rfl)), Pq.WalkT.nil ?_⟩; rintro V rfl; simp only [Act.put]; clear gA fA; simp only [zzH, zzI, zzG, zzF, List.length_cons, List.length_nil] at sA2; have s5 := ((sA2).take [2, 0, 0]); simp only [takeOut, zzD, zzE, zzF, zzG, zzH, zzI] at s5; replace s5 := s5.drop; clear hSl0 sA0 sA1 hg1 hat1 hv1 s1; go_wp2; go_ret; exact ⟨rfl, _, s5⟩
theorem St.whead {w : World} {r : List As} {e : TypeId} {size n c : Nat} {A : Option Addr} {p xs : List Value} (h : St (WayA e size (.slice A (n + 1) c) (n + 1) (p ++ xs) :: r) w) (hp : p.length = size) :
   ∃ g off, A = some ⟨g, off, none⟩ ∧ n + 1 ≤ c ∧ w.rangeAt g off p ∧ St (WayA e size (.slice (if c = 1 then some ⟨g, off, none⟩ else some ⟨g, off + size, none⟩) n (c - 1)) n xs :: r) w := by
 obtain ⟨hl, hh⟩ := h.wayAt 0 rfl; rcases hh with ⟨_, q⟩ | ⟨g, off, cap, cur, e1, h2, h3, h4, h5, h6⟩
 · omega
 · cases e1
   refine ⟨g, off, rfl, h2, ?_, ?_⟩
   · intro j v hj
     have hj2 : j < p.length := (List.getElem?_eq_some_iff.1 hj).1; have h7 := h6 j (by rw [List.length_append]; omega); rw [List.getElem?_append_left hj2, hj] at h7; exact h4.cell h7
   · have hxl : xs.length = n * size := by
       rw [List.length_append, hp, Nat.add_mul] at hl; omega
     refine h.turn fun B hB => ⟨⟨hxl, .inr ?_⟩, fun i => (hB.2 i).trans ?_⟩
     · by_cases hc : c = 1
       · have hn : n = 0 := by omega
         subst hn hc; refine ⟨g, off, 0, cur, by simp, Nat.le_refl _, by omega, h4, by omega, fun j hj => ?_⟩; rw [hxl] at hj; omega
       · refine ⟨g, off + size, c - 1, cur, by rw [if_neg hc], by omega, by omega, h4, ?_, fun j hj => ?_⟩
         · have : c * size = (c - 1) * size + size := by
             obtain ⟨k, rfl⟩ : ∃ k, c = k + 1 := ⟨c - 1, by omega⟩; rw [Nat.add_sub_cancel, Nat.add_mul, Nat.one_mul]
           omega
         · have h7 := h6 (size + j) (by rw [List.length_append]; omega)
           rw [List.getElem?_append_right (by omega), show size + j - p.length = j by omega] at h7; rw [Nat.add_assoc]; exact h7
     · by_cases hc : c = 1
       · rw [if_pos hc]
         exact Iff.rfl
       · rw [if_neg hc]
         exact Iff.rfl
theorem append_none {P : Program} (t e ty : TypeId) (i : TypeInfo) (ht : P.underlying t = some (.slice e)) (hi : P.info? e = some i) (g off n cap : Nat) (hn : n ≤ cap) (w : World) :
   (Builtin.append_ #[t, t] ty #[.slice (some ⟨g, off, none⟩) n cap, vN]).run P w = .ok (.slice (some ⟨g, off, none⟩) n cap) w := by
 have h := run_append_room_src (P := P) w t t ty e i ht hi g off n cap vN 0 [] (Src.ofNil w ht 0) (by omega) (fun j hj => absurd hj (Nat.not_lt_zero _)) (fun j hj => absurd hj (Nat.not_lt_zero _)); exact h
theorem St.wsome {w : World} {l : List As} {e : TypeId} {size n c : Nat} {A : Option Addr} {xs : List Value} (h : St l w) (k : Nat) (hk : l[k]? = some (WayA e size (.slice A (n + 1) c) (n + 1) xs)) : ∃ g off, A = some ⟨g, off, none⟩ ∧ n + 1 ≤ c := by
 rcases (h.wayAt k hk).2 with ⟨_, q⟩ | ⟨g, off, cap, cur, e1, h2, -⟩
 · omega
 · cases e1
   exact ⟨g, off, rfl, h2⟩
theorem step_append_way {P : Program} {w : World} {ops : Array Oper} {o : Oper} {a : Act} {K : Act → World → Prop} {Q : Exit → Act → World → Prop} {E : Prop} (hgd : o.guard = none) (s x : Operand) (t : TypeId)
   (ho : o.op = .call { callee := .builtin .append, args := #[s, x], argTypes := #[t, t] })
   (e : TypeId) (i : TypeInfo) (z : Value) (size bytes : Nat) (ht : P.underlying t = some (.slice e)) (hi : P.info? e = some i) (hz : i.zero = some z)
   (hsize : i.size = size) (hby : i.bytes = bytes) (hzs : z.cells.size = size)
   (v : Value) (n : Nat) (xs : List Value) (hs : a.eval s = v) (hw : Way w e size v n xs)
   (lo B : Nat) (u : Value) (m : Nat) (ys : List Value) (hm : 0 < m) (hx : a.eval x = u) (hu : Sl w lo B size u m ys) (h1 : ∀ y ∈ ys, y.oneCell' = true)
   (h63 : n + m ≤ maxLen) (hbytes : (n + m) * bytes ≤ 140737488355328)
   (h : ∀ v' w', Way w' e size v' (n + m) (xs ++ ys) → w.grownBy w' v.ownBlock → (v'.ownBlock = v.ownBlock ∨ v'.ownBlock = some w.heap.size) → K (a.put o.dst v') w') :
   if Region.wanted o (yielded ops a.tmps) = true then Oper.wp P o a w K Q else E := by
 have hwn : Region.wanted o (yielded ops a.tmps) = true := by simp [Region.wanted, hgd]
 rw [if_pos hwn]; obtain ⟨v', w', hrun, h2, h3, h4⟩ := run_append_way (P := P) t o.type i z bytes ht hi hz hsize hby hzs hw lo B u m ys hm hu h1 h63 hbytes; unfold Oper.wp execOp; simp only [ho, resolve, invoke, builtin, Sem.run_bind, Sem.run_pure, Result.andThen_ok, List.map_toArray, List.map_cons, List.map_nil, hs, hx, hrun]; exact h v' w' h2 h3 h4
end
end Tp
end Go.Proofs.YtgcnhmjpfbbfcaaGreat
