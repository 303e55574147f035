/-
  part of the proof of TopNames.
-/
import Derived.Test.YtgcnhmjpfbbfcaaGreatTy39
import Derived.Deep.CutBlock
set_option linter.unusedVariables false
set_option linter.unusedSimpArgs false
set_option maxRecDepth 100000
set_option maxHeartbeats 8000000
namespace Go.Proofs.YtgcnhmjpfbbfcaaGreat
namespace Tp
section
open Go.RowKit Go.Maps
open Ce It Al Kp
theorem devp_info : (Tryz.prog.info? 64).map (fun i => (i.zero, i.size, i.bytes)) = some (some (.pointer none), 1, 8) := by kernel_rfl
theorem nodep_info : (Tryz.prog.info? 71).map (fun i => (i.zero, i.size, i.bytes)) = some (some (.pointer none), 1, 8) := by kernel_rfl
abbrev wq (am : Nat) (d n : Value) : Array Value := #[vI 2, vI 1500, vI 4, d, n, vN, vN, .map (some am), .bool false]
theorem wnew_calls {r : List As} {w : World} (h : St r w) : Calls Tryz.prog 13 #[.agg #[vI 2, vI 1500, vI 4]] w fun e w' => ∃ a : Wd, 2 ≤ a.nc ∧ e = .returned (.tuple #[ptr a.wb, vO]) ∧ St (WoA a vN vN :: LtA vN 0 [] :: NbA a :: NodeZ DeskN a.n0 0 0 0 [] 0 0 [] :: NodeU DeskN a.n1 0 0 0 [] 0 0 [] :: MapA strK 67 a.am [] :: r) w' := by
 obtain ⟨i1, hi1, hz10, hz11, hz12⟩ := inf3 devp_info; obtain ⟨i2, hi2, hz20, hz21, hz22⟩ := inf3 nodep_info; have hmm := @run_makeMap Tryz.prog; have s1 := h.obNew 55 #[vI 2, vI 1500, vI 4]; have oP := s1.ob (b := w.heap.size) 0 rfl; have y0 := oP.k 0 rfl; have y1 := oP.k 1 rfl; have y2 := oP.k 2 rfl; have s2 := (s1.mapNew strK 67).obNew 62 #[vI 2, vI 1500, vI 4, vN, vN, vN, vN, .map (some (w.heap.size + 1)), .bool false]; simp only [World.size_alloc] at s2; clear h s1 oP
 go_enter Tryz.func13, Tryz.ntmps13
 go_wp2_with fail; clear y0 y1 y2; generalize (((w.alloc (.cells #[vI 2, vI 1500, vI 4] 55)).alloc (.map #[] 0)).alloc (.cells #[vI 2, vI 1500, vI 4, vN, vN, vN, vN, .map (some (w.heap.size + 1)), .bool false] 62)) = W3 at *; obtain ⟨xb, hxb⟩ : ∃ x, x = w.heap.size + 1 + 1 := ⟨_, rfl⟩; simp only [← hxb] at *; obtain ⟨am, ham⟩ : ∃ x, x = w.heap.size + 1 := ⟨_, rfl⟩; simp only [← ham] at *; clear hxb ham; generalize w.heap.size = pb at *; have s3 := ((((s2.rowNil 71 1).rowNil 64 1)).take [2, 0, 0, 1, 0]); simp only [takeOut, zzD, zzE, zzF, zzG, zzH, zzI] at s3; clear s2; refine wp_loop_rounds 3 ?_; rw [rounds_succ]
 go_upto_block 1 with (fail)
 go_cut [] (fun V => ∃ d0 n0 A1 C1 A2 C2, St (ObA xb 62 (wq am (.slice A1 1 C1) (.slice A2 1 C2)) :: RowA 64 1 (.slice A1 1 C1) 1 ([ptr d0]) :: RowA 71 1 (.slice A2 1 C2) 1 ([ptr n0]) :: ObA pb 55 #[vI 2, vI 1500, vI 4] :: MapA strK 67 am [] :: NodeZ DeskN n0 0 0 0 [] 0 0 [] :: r) V)
 case first =>
   have oP := s3.ob (b := pb) 3 rfl; have y0 := oP.k 0 rfl; have y1 := oP.k 1 rfl; have cS := hdd (sector_new s3); clear s3 oP; go_wp2_with fail; refine cS.out.mono ?_; rintro e V0 ⟨d0, rfl, t0⟩; clear cS y0 y1; have oP := t0.ob (b := pb) 4 rfl; have y0 := oP.k 0 rfl; have cO := hdd (open_z t0); clear t0 oP; go_wp2_with fail; refine cO.out.mono ?_; rintro e X0 ⟨n0, rfl, x0⟩; clear cO y0; have s06 := ((x0).take [1, 1, 1, 1, 1, 0]); simp only [takeOut, zzD, zzE, zzF, zzG, zzH, zzI] at s06; clear x0; go_wp2_with fail; refine Pq.regionT (.look 0 (.look 1 (.look 2 (.look 3 (.look 4 (.look 5 (.look 6 (.look 9 (.look 10 (.look 11 (.look 12 (.look 13 (.look 16 (.look 17 (.fork 7 (.fork 8 (.make 14 (.make 15 (.make 18 (.look 19 (.look 20 (.make 21 .nil)))))) 14 (.make 8 (.make 15 (.make 18 (.look 19 (.look 20 (.make 21 .nil))))))) 14 (.make 7 (.make 8 (.make 15 (.make 18 (.look 19 (.look 20 (.make 21 .nil)))))))))))))))))))))) (fun V => Ob V xb 62 (wq am vN vN)) Se.hmx (by kernel_rfl) (by kernel_rfl) (by kernel_rfl) ((s06.drew).ob 0 rfl) rfl ?_; simp only [Pq.named, Pq.rest, zzJ, zzK, zzL, zzM]
   iterate 14 (
     apply Pq.WalkT.on (by rfl)
     · rintro V hO0
       have n3 := hO0.k 3 rfl; have n4 := hO0.k 4 rfl; go_wp2_with fail; refine ⟨rfl, ?_, rfl⟩
       try simp only [Act.put, zzA, zzB, zzC]
       rfl
     simp only [Act.put, zzA, zzB, zzC])
   refine Pq.WalkT.fork (by rfl) (by rfl) ?_ ?_
   · skip
     rintro T1 hq; replace hq := hq.symm; subst hq; have q1 := ((s06.drew)).slNew 64 #[ptr d0] (n := 1) (size := 1) rfl (by unfold maxLen; omega); go_wp2_with fail; refine Pq.mk4 ((((X0).drew).alloc (.cells #[ptr d0] 64))) (.slice (some ⟨((X0).drew).heap.size, 0, none⟩) 1 1) (q1.ob 1 rfl) ?_ ?_
     · try simp only [Act.put, zzA, zzB, zzC]
       try rfl
     simp only [Act.put, zzA, zzB, zzC]; refine Pq.WalkT.fork (by rfl) (by rfl) ?_ ?_
     · skip
       rintro T2 hq; replace hq := hq.symm; subst hq; refine wpList_append_sl _ rfl (.tmp 71) (.tmp 73) _ rfl 0 64 i1 _ 1 8 Tryz.underlying56 hi1 hz10 hz11 hz12 rfl (by omega) vN 0 [] rfl ((q1).own 2 rfl) _ _ _ 1 [ptr d0] rfl ((q1).sl 0 rfl) (by simp [Value.oneCell']) (by unfold maxLen; omega) (by omega) (by simp) ?_; intro v2 U2 hv hg hat; simp only [Nat.zero_add, List.nil_append] at hv; obtain ⟨A1, C1, he, -⟩ := (Sl.of_own hv).at_; subst he; have q2 := ((q1).front 2 rfl).row hv hg hat; clear hv hg hat; refine Pq.mk3 (.slice A1 1 C1) (q2.ob 2 rfl) ?_ ?_
       · try simp only [Act.put, zzA, zzB, zzC]
         try rfl
       simp only [Act.put, zzA, zzB, zzC]; refine Pq.WalkT.make (by rfl) ?_; rintro T3 hq; replace hq := hq.symm; subst hq; have q3 := (q2).slNew 71 #[ptr n0] (n := 1) (size := 1) rfl (by unfold maxLen; omega); go_wp2_with fail; refine Pq.mk4 (((U2).alloc (.cells #[ptr n0] 71))) (.slice (some ⟨(U2).heap.size, 0, none⟩) 1 1) (q3.ob 3 rfl) ?_ ?_
       · try simp only [Act.put, zzA, zzB, zzC]
         try rfl
       simp only [Act.put, zzA, zzB, zzC]; refine Pq.WalkT.make (by rfl) ?_; rintro T4 hq; replace hq := hq.symm; subst hq; refine wpList_append_sl _ rfl (.tmp 78) (.tmp 80) _ rfl 0 71 i2 _ 1 8 Tryz.underlying57 hi2 hz20 hz21 hz22 rfl (by omega) vN 0 [] rfl ((q3).own 4 rfl) _ _ _ 1 [ptr n0] rfl ((q3).sl 0 rfl) (by simp [Value.oneCell']) (by unfold maxLen; omega) (by omega) (by simp) ?_; intro v4 U4 hv hg hat; simp only [Nat.zero_add, List.nil_append] at hv; obtain ⟨A2, C2, he, -⟩ := (Sl.of_own hv).at_; subst he; have q4 := ((q3).front 4 rfl).row hv hg hat; clear hv hg hat; refine Pq.mk3 (.slice A2 1 C2) (q4.ob 4 rfl) ?_ ?_
       · try simp only [Act.put, zzA, zzB, zzC]
         try rfl
       simp only [Act.put, zzA, zzB, zzC]; refine Pq.WalkT.make (by rfl) ?_; rintro T5 hq; replace hq := hq.symm; subst hq; have gA := (q4.ob 4 rfl).k 3 rfl; have fA := (q4.ob 4 rfl).frozen 3; have q5 := (q4.front 4 rfl).set 3 (.slice A1 1 C1); go_wp2_with fail; refine ⟨rfl, undef, (fun V => Ob V xb 62 (wq am (.slice A1 1 C1) vN)), (fun V => V = _), rfl, rfl, (fun V h => by rw [h]; exact (q5.ob 0 rfl)), (.inl (by kernel_rfl)), ?_⟩; simp only [Act.put]; clear gA fA
       iterate 2 (
         apply Pq.WalkT.on (by rfl)
         · rintro V hO0
           go_wp2_with fail; refine ⟨rfl, ?_, rfl⟩
           try simp only [Act.put, zzA, zzB, zzC]
           rfl
         simp only [Act.put, zzA, zzB, zzC])
       refine Pq.WalkT.make (by rfl) ?_; rintro T6 hq; replace hq := hq.symm; subst hq; have gA := (q5.ob 0 rfl).k 4 rfl; have fA := (q5.ob 0 rfl).frozen 4; have q6 := q5.set 4 (.slice A2 1 C2); go_wp2_with fail; refine ⟨rfl, undef, (fun _ => True), (fun V => V = _), rfl, rfl, (fun _ _ => trivial), (.inl (by kernel_rfl)), Pq.WalkT.nil ?_⟩; rintro V rfl; simp only [Act.put]; clear gA fA; have qz := ((q6).take [2, 3, 0, 1, 0, 0, 0, 0]); simp only [takeOut, zzD, zzE, zzF, zzG, zzH, zzI] at qz; replace qz := qz.drop.drop; go_wp2_with fail
       go_meet
       case rel => exact ⟨_, _, A1, C1, A2, C2, qz⟩
     · skip
       rintro T7 hq; replace hq := hq.symm; subst hq; have q7 := (q1).slNew 71 #[ptr n0] (n := 1) (size := 1) rfl (by unfold maxLen; omega); simp only [World.size_alloc] at q7; go_wp2_with fail; refine Pq.mk4 ((((((X0).drew).alloc (.cells #[ptr d0] 64))).alloc (.cells #[ptr n0] 71))) (.slice (some ⟨((X0).drew).heap.size + 1, 0, none⟩) 1 1) (q7.ob 2 rfl) ?_ ?_
       · try simp only [Act.put, zzA, zzB, zzC]
         try rfl
       simp only [Act.put, zzA, zzB, zzC]; refine Pq.WalkT.make (by rfl) ?_; rintro T8 hq; replace hq := hq.symm; subst hq; refine wpList_append_sl _ rfl (.tmp 71) (.tmp 73) _ rfl 0 64 i1 _ 1 8 Tryz.underlying56 hi1 hz10 hz11 hz12 rfl (by omega) vN 0 [] rfl ((q7).own 3 rfl) _ _ _ 1 [ptr d0] rfl ((q7).sl 1 rfl) (by simp [Value.oneCell']) (by unfold maxLen; omega) (by omega) (by simp) ?_; intro v8 U8 hv hg hat; simp only [Nat.zero_add, List.nil_append] at hv; obtain ⟨A1, C1, he, -⟩ := (Sl.of_own hv).at_; subst he; have q8 := ((q7).front 3 rfl).row hv hg hat; clear hv hg hat; refine Pq.mk3 (.slice A1 1 C1) (q8.ob 3 rfl) ?_ ?_
       · try simp only [Act.put, zzA, zzB, zzC]
         try rfl
       simp only [Act.put, zzA, zzB, zzC]; refine Pq.WalkT.make (by rfl) ?_; rintro T9 hq; replace hq := hq.symm; subst hq; refine wpList_append_sl _ rfl (.tmp 78) (.tmp 80) _ rfl 0 71 i2 _ 1 8 Tryz.underlying57 hi2 hz20 hz21 hz22 rfl (by omega) vN 0 [] rfl ((q8).own 4 rfl) _ _ _ 1 [ptr n0] rfl ((q8).sl 1 rfl) (by simp [Value.oneCell']) (by unfold maxLen; omega) (by omega) (by simp) ?_; intro v9 U9 hv hg hat; simp only [Nat.zero_add, List.nil_append] at hv; obtain ⟨A2, C2, he, -⟩ := (Sl.of_own hv).at_; subst he; have q9 := ((q8).front 4 rfl).row hv hg hat; clear hv hg hat; refine Pq.mk3 (.slice A2 1 C2) (q9.ob 4 rfl) ?_ ?_
       · try simp only [Act.put, zzA, zzB, zzC]
         try rfl
       simp only [Act.put, zzA, zzB, zzC]; refine Pq.WalkT.make (by rfl) ?_; rintro T10 hq; replace hq := hq.symm; subst hq; have gA := (q9.ob 4 rfl).k 3 rfl; have fA := (q9.ob 4 rfl).frozen 3; have q10 := (q9.front 4 rfl).set 3 (.slice A1 1 C1); go_wp2_with fail; refine ⟨rfl, undef, (fun V => Ob V xb 62 (wq am (.slice A1 1 C1) vN)), (fun V => V = _), rfl, rfl, (fun V h => by rw [h]; exact (q10.ob 0 rfl)), (.inl (by kernel_rfl)), ?_⟩; simp only [Act.put]; clear gA fA
       iterate 2 (
         apply Pq.WalkT.on (by rfl)
         · rintro V hO0
           go_wp2_with fail; refine ⟨rfl, ?_, rfl⟩
           try simp only [Act.put, zzA, zzB, zzC]
           rfl
         simp only [Act.put, zzA, zzB, zzC])
       refine Pq.WalkT.make (by rfl) ?_; rintro T11 hq; replace hq := hq.symm; subst hq; have gA := (q10.ob 0 rfl).k 4 rfl; have fA := (q10.ob 0 rfl).frozen 4; have q11 := q10.set 4 (.slice A2 1 C2); go_wp2_with fail; refine ⟨rfl, undef, (fun _ => True), (fun V => V = _), rfl, rfl, (fun _ _ => trivial), (.inl (by kernel_rfl)), Pq.WalkT.nil ?_⟩; rintro V rfl; simp only [Act.put]; clear gA fA; have qz := ((q11).take [3, 3, 0, 1, 0, 0, 0, 0]); simp only [takeOut, zzD, zzE, zzF, zzG, zzH, zzI] at qz; replace qz := qz.drop.drop; go_wp2_with fail
       go_meet
       case rel => exact ⟨_, _, A1, C1, A2, C2, qz⟩
   · skip
     rintro T12 hq; replace hq := hq.symm; subst hq; have q12 := ((s06.drew)).slNew 71 #[ptr n0] (n := 1) (size := 1) rfl (by unfold maxLen; omega); go_wp2_with fail; refine Pq.mk4 ((((X0).drew).alloc (.cells #[ptr n0] 71))) (.slice (some ⟨((X0).drew).heap.size, 0, none⟩) 1 1) (q12.ob 1 rfl) ?_ ?_
     · try simp only [Act.put, zzA, zzB, zzC]
       try rfl
     simp only [Act.put, zzA, zzB, zzC]; refine Pq.WalkT.make (by rfl) ?_; rintro T13 hq; replace hq := hq.symm; subst hq; have q13 := (q12).slNew 64 #[ptr d0] (n := 1) (size := 1) rfl (by unfold maxLen; omega); simp only [World.size_alloc] at q13; go_wp2_with fail; refine Pq.mk4 ((((((X0).drew).alloc (.cells #[ptr n0] 71))).alloc (.cells #[ptr d0] 64))) (.slice (some ⟨((X0).drew).heap.size + 1, 0, none⟩) 1 1) (q13.ob 2 rfl) ?_ ?_
     · try simp only [Act.put, zzA, zzB, zzC]
       try rfl
     simp only [Act.put, zzA, zzB, zzC]; refine Pq.WalkT.make (by rfl) ?_; rintro T14 hq; replace hq := hq.symm; subst hq; refine wpList_append_sl _ rfl (.tmp 71) (.tmp 73) _ rfl 0 64 i1 _ 1 8 Tryz.underlying56 hi1 hz10 hz11 hz12 rfl (by omega) vN 0 [] rfl ((q13).own 3 rfl) _ _ _ 1 [ptr d0] rfl ((q13).sl 0 rfl) (by simp [Value.oneCell']) (by unfold maxLen; omega) (by omega) (by simp) ?_; intro v14 U14 hv hg hat; simp only [Nat.zero_add, List.nil_append] at hv; obtain ⟨A1, C1, he, -⟩ := (Sl.of_own hv).at_; subst he; have q14 := ((q13).front 3 rfl).row hv hg hat; clear hv hg hat; refine Pq.mk3 (.slice A1 1 C1) (q14.ob 3 rfl) ?_ ?_
     · try simp only [Act.put, zzA, zzB, zzC]
       try rfl
     simp only [Act.put, zzA, zzB, zzC]; refine Pq.WalkT.make (by rfl) ?_; rintro T15 hq; replace hq := hq.symm; subst hq; refine wpList_append_sl _ rfl (.tmp 78) (.tmp 80) _ rfl 0 71 i2 _ 1 8 Tryz.underlying57 hi2 hz20 hz21 hz22 rfl (by omega) vN 0 [] rfl ((q14).own 4 rfl) _ _ _ 1 [ptr n0] rfl ((q14).sl 2 rfl) (by simp [Value.oneCell']) (by unfold maxLen; omega) (by omega) (by simp) ?_; intro v15 U15 hv hg hat; simp only [Nat.zero_add, List.nil_append] at hv; obtain ⟨A2, C2, he, -⟩ := (Sl.of_own hv).at_; subst he; have q15 := ((q14).front 4 rfl).row hv hg hat; clear hv hg hat; refine Pq.mk3 (.slice A2 1 C2) (q15.ob 4 rfl) ?_ ?_
     · try simp only [Act.put, zzA, zzB, zzC]
       try rfl
     simp only [Act.put, zzA, zzB, zzC]; refine Pq.WalkT.make (by rfl) ?_; rintro T16 hq; replace hq := hq.symm; subst hq; have gA := (q15.ob 4 rfl).k 3 rfl; have fA := (q15.ob 4 rfl).frozen 3; have q16 := (q15.front 4 rfl).set 3 (.slice A1 1 C1); go_wp2_with fail; refine ⟨rfl, undef, (fun V => Ob V xb 62 (wq am (.slice A1 1 C1) vN)), (fun V => V = _), rfl, rfl, (fun V h => by rw [h]; exact (q16.ob 0 rfl)), (.inl (by kernel_rfl)), ?_⟩; simp only [Act.put]; clear gA fA
     iterate 2 (
       apply Pq.WalkT.on (by rfl)
       · rintro V hO0
         go_wp2_with fail; refine ⟨rfl, ?_, rfl⟩
         try simp only [Act.put, zzA, zzB, zzC]
         rfl
       simp only [Act.put, zzA, zzB, zzC])
     refine Pq.WalkT.make (by rfl) ?_; rintro T17 hq; replace hq := hq.symm; subst hq; have gA := (q16.ob 0 rfl).k 4 rfl; have fA := (q16.ob 0 rfl).frozen 4; have q17 := q16.set 4 (.slice A2 1 C2); go_wp2_with fail; refine ⟨rfl, undef, (fun _ => True), (fun V => V = _), rfl, rfl, (fun _ _ => trivial), (.inl (by kernel_rfl)), Pq.WalkT.nil ?_⟩; rintro V rfl; simp only [Act.put]; clear gA fA; have qz := ((q17).take [3, 3, 0, 1, 0, 0, 0, 0]); simp only [takeOut, zzD, zzE, zzF, zzG, zzH, zzI] at qz; replace qz := qz.drop.drop; go_wp2_with fail
     go_meet
     case rel => exact ⟨_, _, A1, C1, A2, C2, qz⟩
 clear s3; obtain ⟨d0, n0, B0, D0, E0, F0, s09⟩ := hcut; go_wp2_with fail; rw [rounds_succ]
 go_upto_block 1 with (fail)
 go_cut [] (fun V => ∃ d1 n1 A1 C1 A2 C2, St (ObA xb 62 (wq am (.slice A1 2 C1) (.slice A2 2 C2)) :: RowA 64 1 (.slice A1 2 C1) 2 ([ptr d0] ++ [ptr d1]) :: RowA 71 1 (.slice A2 2 C2) 2 ([ptr n0] ++ [ptr n1]) :: ObA pb 55 #[vI 2, vI 1500, vI 4] :: MapA strK 67 am [] :: NodeZ DeskN n0 0 0 0 [] 0 0 [] :: NodeU DeskN n1 0 0 0 [] 0 0 [] :: r) V)
 case first =>
   have oP := s09.ob (b := pb) 3 rfl; have y0 := oP.k 0 rfl; have y1 := oP.k 1 rfl; have cS := hdd (sector_new s09); clear s09 oP; go_wp2_with fail; refine cS.out.mono ?_; rintro e V1 ⟨d1, rfl, t1⟩; clear cS y0 y1; have oP := t1.ob (b := pb) 4 rfl; have y0 := oP.k 0 rfl; have cO := hdd (open_u t1); clear t1 oP; go_wp2_with fail; refine cO.out.mono ?_; rintro e X1 ⟨n1, rfl, x1⟩; clear cO y0; have s16 := ((x1).take [1, 1, 1, 1, 1, 1, 0]); simp only [takeOut, zzD, zzE, zzF, zzG, zzH, zzI] at s16; clear x1; go_wp2_with fail; refine Pq.regionT (.look 0 (.look 1 (.look 2 (.look 3 (.look 4 (.look 5 (.look 6 (.look 9 (.look 10 (.look 11 (.look 12 (.look 13 (.look 16 (.look 17 (.fork 7 (.fork 8 (.make 14 (.make 15 (.make 18 (.look 19 (.look 20 (.make 21 .nil)))))) 14 (.make 8 (.make 15 (.make 18 (.look 19 (.look 20 (.make 21 .nil))))))) 14 (.make 7 (.make 8 (.make 15 (.make 18 (.look 19 (.look 20 (.make 21 .nil)))))))))))))))))))))) (fun V => Ob V xb 62 (wq am (.slice B0 1 D0) (.slice E0 1 F0))) Se.hmx (by kernel_rfl) (by kernel_rfl) (by kernel_rfl) ((s16.drew).ob 0 rfl) rfl ?_; simp only [Pq.named, Pq.rest, zzJ, zzK, zzL, zzM]
   iterate 14 (
     apply Pq.WalkT.on (by rfl)
     · rintro V hO0
       have n3 := hO0.k 3 rfl; have n4 := hO0.k 4 rfl; go_wp2_with fail; refine ⟨rfl, ?_, rfl⟩
       try simp only [Act.put, zzA, zzB, zzC]
       rfl
     simp only [Act.put, zzA, zzB, zzC])
   refine Pq.WalkT.fork (by rfl) (by rfl) ?_ ?_
   · skip
     rintro T1 hq; replace hq := hq.symm; subst hq; have q1 := ((s16.drew)).slNew 64 #[ptr d1] (n := 1) (size := 1) rfl (by unfold maxLen; omega); go_wp2_with fail; refine Pq.mk4 ((((X1).drew).alloc (.cells #[ptr d1] 64))) (.slice (some ⟨((X1).drew).heap.size, 0, none⟩) 1 1) (q1.ob 1 rfl) ?_ ?_
     · try simp only [Act.put, zzA, zzB, zzC]
       try rfl
     simp only [Act.put, zzA, zzB, zzC]; refine Pq.WalkT.fork (by rfl) (by rfl) ?_ ?_
     · skip
       rintro T2 hq; replace hq := hq.symm; subst hq; refine wpList_append_sl _ rfl (.tmp 71) (.tmp 73) _ rfl 0 64 i1 _ 1 8 Tryz.underlying56 hi1 hz10 hz11 hz12 rfl (by omega) (.slice B0 1 D0) 1 [ptr d0] rfl ((q1).own 2 rfl) _ _ _ 1 [ptr d1] rfl ((q1).sl 0 rfl) (by simp [Value.oneCell']) (by unfold maxLen; omega) (by omega) (by simp) ?_; intro v2 U2 hv hg hat; obtain ⟨A1, C1, he, -⟩ := (Sl.of_own hv).at_; subst he; have q2 := ((q1).front 2 rfl).row hv hg hat; clear hv hg hat; refine Pq.mk3 (.slice A1 2 C1) (q2.ob 2 rfl) ?_ ?_
       · try simp only [Act.put, zzA, zzB, zzC]
         try rfl
       simp only [Act.put, zzA, zzB, zzC]; refine Pq.WalkT.make (by rfl) ?_; rintro T3 hq; replace hq := hq.symm; subst hq; have q3 := (q2).slNew 71 #[ptr n1] (n := 1) (size := 1) rfl (by unfold maxLen; omega); go_wp2_with fail; refine Pq.mk4 (((U2).alloc (.cells #[ptr n1] 71))) (.slice (some ⟨(U2).heap.size, 0, none⟩) 1 1) (q3.ob 3 rfl) ?_ ?_
       · try simp only [Act.put, zzA, zzB, zzC]
         try rfl
       simp only [Act.put, zzA, zzB, zzC]; refine Pq.WalkT.make (by rfl) ?_; rintro T4 hq; replace hq := hq.symm; subst hq; refine wpList_append_sl _ rfl (.tmp 78) (.tmp 80) _ rfl 0 71 i2 _ 1 8 Tryz.underlying57 hi2 hz20 hz21 hz22 rfl (by omega) (.slice E0 1 F0) 1 [ptr n0] rfl ((q3).own 4 rfl) _ _ _ 1 [ptr n1] rfl ((q3).sl 0 rfl) (by simp [Value.oneCell']) (by unfold maxLen; omega) (by omega) (by simp) ?_; intro v4 U4 hv hg hat; obtain ⟨A2, C2, he, -⟩ := (Sl.of_own hv).at_; subst he; have q4 := ((q3).front 4 rfl).row hv hg hat; clear hv hg hat; refine Pq.mk3 (.slice A2 2 C2) (q4.ob 4 rfl) ?_ ?_
       · try simp only [Act.put, zzA, zzB, zzC]
         try rfl
       simp only [Act.put, zzA, zzB, zzC]; refine Pq.WalkT.make (by rfl) ?_; rintro T5 hq; replace hq := hq.symm; subst hq; have gA := (q4.ob 4 rfl).k 3 rfl; have fA := (q4.ob 4 rfl).frozen 3; have q5 := (q4.front 4 rfl).set 3 (.slice A1 2 C1); go_wp2_with fail; refine ⟨rfl, undef, (fun V => Ob V xb 62 (wq am (.slice A1 2 C1) (.slice E0 1 F0))), (fun V => V = _), rfl, rfl, (fun V h => by rw [h]; exact (q5.ob 0 rfl)), (.inl (by kernel_rfl)), ?_⟩; simp only [Act.put]; clear gA fA
       iterate 2 (
         apply Pq.WalkT.on (by rfl)
         · rintro V hO0
           go_wp2_with fail; refine ⟨rfl, ?_, rfl⟩
           try simp only [Act.put, zzA, zzB, zzC]
           rfl
         simp only [Act.put, zzA, zzB, zzC])
       refine Pq.WalkT.make (by rfl) ?_; rintro T6 hq; replace hq := hq.symm; subst hq; have gA := (q5.ob 0 rfl).k 4 rfl; have fA := (q5.ob 0 rfl).frozen 4; have q6 := q5.set 4 (.slice A2 2 C2); go_wp2_with fail; refine ⟨rfl, undef, (fun _ => True), (fun V => V = _), rfl, rfl, (fun _ _ => trivial), (.inl (by kernel_rfl)), Pq.WalkT.nil ?_⟩; rintro V rfl; simp only [Act.put]; clear gA fA; have qz := ((q6).take [2, 3, 0, 1, 0, 0, 0, 0, 0]); simp only [takeOut, zzD, zzE, zzF, zzG, zzH, zzI] at qz; replace qz := qz.drop.drop; go_wp2_with fail
       go_meet
       case rel => exact ⟨_, _, A1, C1, A2, C2, qz⟩
     · skip
       rintro T7 hq; replace hq := hq.symm; subst hq; have q7 := (q1).slNew 71 #[ptr n1] (n := 1) (size := 1) rfl (by unfold maxLen; omega); simp only [World.size_alloc] at q7; go_wp2_with fail; refine Pq.mk4 ((((((X1).drew).alloc (.cells #[ptr d1] 64))).alloc (.cells #[ptr n1] 71))) (.slice (some ⟨((X1).drew).heap.size + 1, 0, none⟩) 1 1) (q7.ob 2 rfl) ?_ ?_
       · try simp only [Act.put, zzA, zzB, zzC]
         try rfl
       simp only [Act.put, zzA, zzB, zzC]; refine Pq.WalkT.make (by rfl) ?_; rintro T8 hq; replace hq := hq.symm; subst hq; refine wpList_append_sl _ rfl (.tmp 71) (.tmp 73) _ rfl 0 64 i1 _ 1 8 Tryz.underlying56 hi1 hz10 hz11 hz12 rfl (by omega) (.slice B0 1 D0) 1 [ptr d0] rfl ((q7).own 3 rfl) _ _ _ 1 [ptr d1] rfl ((q7).sl 1 rfl) (by simp [Value.oneCell']) (by unfold maxLen; omega) (by omega) (by simp) ?_; intro v8 U8 hv hg hat; obtain ⟨A1, C1, he, -⟩ := (Sl.of_own hv).at_; subst he; have q8 := ((q7).front 3 rfl).row hv hg hat; clear hv hg hat; refine Pq.mk3 (.slice A1 2 C1) (q8.ob 3 rfl) ?_ ?_
       · try simp only [Act.put, zzA, zzB, zzC]
         try rfl
       simp only [Act.put, zzA, zzB, zzC]; refine Pq.WalkT.make (by rfl) ?_; rintro T9 hq; replace hq := hq.symm; subst hq; refine wpList_append_sl _ rfl (.tmp 78) (.tmp 80) _ rfl 0 71 i2 _ 1 8 Tryz.underlying57 hi2 hz20 hz21 hz22 rfl (by omega) (.slice E0 1 F0) 1 [ptr n0] rfl ((q8).own 4 rfl) _ _ _ 1 [ptr n1] rfl ((q8).sl 1 rfl) (by simp [Value.oneCell']) (by unfold maxLen; omega) (by omega) (by simp) ?_; intro v9 U9 hv hg hat; obtain ⟨A2, C2, he, -⟩ := (Sl.of_own hv).at_; subst he; have q9 := ((q8).front 4 rfl).row hv hg hat; clear hv hg hat; refine Pq.mk3 (.slice A2 2 C2) (q9.ob 4 rfl) ?_ ?_
       · try simp only [Act.put, zzA, zzB, zzC]
         try rfl
       simp only [Act.put, zzA, zzB, zzC]; refine Pq.WalkT.make (by rfl) ?_; rintro T10 hq; replace hq := hq.symm; subst hq; have gA := (q9.ob 4 rfl).k 3 rfl; have fA := (q9.ob 4 rfl).frozen 3; have q10 := (q9.front 4 rfl).set 3 (.slice A1 2 C1); go_wp2_with fail; refine ⟨rfl, undef, (fun V => Ob V xb 62 (wq am (.slice A1 2 C1) (.slice E0 1 F0))), (fun V => V = _), rfl, rfl, (fun V h => by rw [h]; exact (q10.ob 0 rfl)), (.inl (by kernel_rfl)), ?_⟩; simp only [Act.put]; clear gA fA
       iterate 2 (
         apply Pq.WalkT.on (by rfl)
         · rintro V hO0
           go_wp2_with fail; refine ⟨rfl, ?_, rfl⟩
           try simp only [Act.put, zzA, zzB, zzC]
           rfl
         simp only [Act.put, zzA, zzB, zzC])
       refine Pq.WalkT.make (by rfl) ?_; rintro T11 hq; replace hq := hq.symm; subst hq; have gA := (q10.ob 0 rfl).k 4 rfl; have fA := (q10.ob 0 rfl).frozen 4; have q11 := q10.set 4 (.slice A2 2 C2); go_wp2_with fail; refine ⟨rfl, undef, (fun _ => True), (fun V => V = _), rfl, rfl, (fun _ _ => trivial), (.inl (by kernel_rfl)), Pq.WalkT.nil ?_⟩; rintro V rfl; simp only [Act.put]; clear gA fA; have qz := ((q11).take [3, 3, 0, 1, 0, 0, 0, 0, 0]); simp only [takeOut, zzD, zzE, zzF, zzG, zzH, zzI] at qz; replace qz := qz.drop.drop; go_wp2_with fail
       go_meet
       case rel => exact ⟨_, _, A1, C1, A2, C2, qz⟩
   · skip
     rintro T12 hq; replace hq := hq.symm; subst hq; have q12 := ((s16.drew)).slNew 71 #[ptr n1] (n := 1) (size := 1) rfl (by unfold maxLen; omega); go_wp2_with fail; refine Pq.mk4 ((((X1).drew).alloc (.cells #[ptr n1] 71))) (.slice (some ⟨((X1).drew).heap.size, 0, none⟩) 1 1) (q12.ob 1 rfl) ?_ ?_
     · try simp only [Act.put, zzA, zzB, zzC]
       try rfl
     simp only [Act.put, zzA, zzB, zzC]; refine Pq.WalkT.make (by rfl) ?_; rintro T13 hq; replace hq := hq.symm; subst hq; have q13 := (q12).slNew 64 #[ptr d1] (n := 1) (size := 1) rfl (by unfold maxLen; omega); simp only [World.size_alloc] at q13; go_wp2_with fail; refine Pq.mk4 ((((((X1).drew).alloc (.cells #[ptr n1] 71))).alloc (.cells #[ptr d1] 64))) (.slice (some ⟨((X1).drew).heap.size + 1, 0, none⟩) 1 1) (q13.ob 2 rfl) ?_ ?_
     · try simp only [Act.put, zzA, zzB, zzC]
       try rfl
     simp only [Act.put, zzA, zzB, zzC]; refine Pq.WalkT.make (by rfl) ?_; rintro T14 hq; replace hq := hq.symm; subst hq; refine wpList_append_sl _ rfl (.tmp 71) (.tmp 73) _ rfl 0 64 i1 _ 1 8 Tryz.underlying56 hi1 hz10 hz11 hz12 rfl (by omega) (.slice B0 1 D0) 1 [ptr d0] rfl ((q13).own 3 rfl) _ _ _ 1 [ptr d1] rfl ((q13).sl 0 rfl) (by simp [Value.oneCell']) (by unfold maxLen; omega) (by omega) (by simp) ?_; intro v14 U14 hv hg hat; obtain ⟨A1, C1, he, -⟩ := (Sl.of_own hv).at_; subst he; have q14 := ((q13).front 3 rfl).row hv hg hat; clear hv hg hat; refine Pq.mk3 (.slice A1 2 C1) (q14.ob 3 rfl) ?_ ?_
     · try simp only [Act.put, zzA, zzB, zzC]
       try rfl
     simp only [Act.put, zzA, zzB, zzC]; refine Pq.WalkT.make (by rfl) ?_; rintro T15 hq; replace hq := hq.symm; subst hq; refine wpList_append_sl _ rfl (.tmp 78) (.tmp 80) _ rfl 0 71 i2 _ 1 8 Tryz.underlying57 hi2 hz20 hz21 hz22 rfl (by omega) (.slice E0 1 F0) 1 [ptr n0] rfl ((q14).own 4 rfl) _ _ _ 1 [ptr n1] rfl ((q14).sl 2 rfl) (by simp [Value.oneCell']) (by unfold maxLen; omega) (by omega) (by simp) ?_; intro v15 U15 hv hg hat; obtain ⟨A2, C2, he, -⟩ := (Sl.of_own hv).at_; subst he; have q15 := ((q14).front 4 rfl).row hv hg hat; clear hv hg hat; refine Pq.mk3 (.slice A2 2 C2) (q15.ob 4 rfl) ?_ ?_
     · try simp only [Act.put, zzA, zzB, zzC]
       try rfl
     simp only [Act.put, zzA, zzB, zzC]; refine Pq.WalkT.make (by rfl) ?_; rintro T16 hq; replace hq := hq.symm; subst hq; have gA := (q15.ob 4 rfl).k 3 rfl; have fA := (q15.ob 4 rfl).frozen 3; have q16 := (q15.front 4 rfl).set 3 (.slice A1 2 C1); go_wp2_with fail; refine ⟨rfl, undef, (fun V => Ob V xb 62 (wq am (.slice A1 2 C1) (.slice E0 1 F0))), (fun V => V = _), rfl, rfl, (fun V h => by rw [h]; exact (q16.ob 0 rfl)), (.inl (by kernel_rfl)), ?_⟩; simp only [Act.put]; clear gA fA
     iterate 2 (
       apply Pq.WalkT.on (by rfl)
       · rintro V hO0
         go_wp2_with fail; refine ⟨rfl, ?_, rfl⟩
         try simp only [Act.put, zzA, zzB, zzC]
         rfl
       simp only [Act.put, zzA, zzB, zzC])
     refine Pq.WalkT.make (by rfl) ?_; rintro T17 hq; replace hq := hq.symm; subst hq; have gA := (q16.ob 0 rfl).k 4 rfl; have fA := (q16.ob 0 rfl).frozen 4; have q17 := q16.set 4 (.slice A2 2 C2); go_wp2_with fail; refine ⟨rfl, undef, (fun _ => True), (fun V => V = _), rfl, rfl, (fun _ _ => trivial), (.inl (by kernel_rfl)), Pq.WalkT.nil ?_⟩; rintro V rfl; simp only [Act.put]; clear gA fA; have qz := ((q17).take [3, 3, 0, 1, 0, 0, 0, 0, 0]); simp only [takeOut, zzD, zzE, zzF, zzG, zzH, zzI] at qz; replace qz := qz.drop.drop; go_wp2_with fail
     go_meet
     case rel => exact ⟨_, _, A1, C1, A2, C2, qz⟩
 clear s09; obtain ⟨d1, n1, B1, D1, E1, F1, s19⟩ := hcut; go_wp2_with fail; rw [rounds_succ]; obtain ⟨g, cap, rest, hv, hc1, -, hl1, hl2, sF⟩ := (s19.front 2 rfl).rowOb
 injection hv with hv1 hv2 hv3
 subst hv1 hv3; simp only [zzH, zzI, zzG, zzF, List.length_cons, List.length_nil] at sF; have sG := (((sF.rowNil 99 3)).take [3, 3, 2, 0, 0, 1, 1, 0]); simp only [takeOut, zzD, zzE, zzF, zzG, zzH, zzI] at sG; replace sG := sG.drop.drop; go_wp2; go_ret2; exact ⟨⟨xb, g, am, F1, rest, n0, n1, .slice B1 2 D1⟩, hc1, rfl, sG⟩
end
end Tp
end Go.Proofs.YtgcnhmjpfbbfcaaGreat
