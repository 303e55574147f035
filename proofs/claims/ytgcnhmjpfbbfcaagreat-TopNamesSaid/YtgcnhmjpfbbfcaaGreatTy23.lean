/-
  part of the proof of TopNames.
-/
import Derived.Test.YtgcnhmjpfbbfcaaGreatTy22
set_option linter.unusedVariables false
set_option linter.unusedSimpArgs false
set_option maxRecDepth 100000
set_option maxHeartbeats 8000000
namespace Go.Proofs.YtgcnhmjpfbbfcaaGreat
section
open Go.RowKit
section
variable {P : Program} {w : World} {ops : Array Oper} {rest : List Oper} {o : Oper} {a : Act} {Q : Exit → Act → World → Prop}
theorem wpList_load_obg (hw : Pu.asks ops.toList o a.tmps.toList = true) (ty : TypeId) (x : Operand) (hop : o.op = .load ty x) {g : Nat} {t : TypeId} {cells : Array Value} (hx : a.eval x = .pointer (some ⟨g, 0, none⟩)) (d : TypeDesc)
   (h : Ob w g t cells) (hu : P.underlying ty = some d) (hd : d.isRow = true) (hi : (P.info? ty).map (·.size) = some cells.size)
   (hK : wpList P ops Q rest (a.put o.dst (.agg cells)) w) : wpList P ops Q (o :: rest) a w := by
 have hrun := load_ob_run (P := P) h hu hd hi; unfold wpList; rw [if_pos ((Pu.asks_eq _ _ _).trans hw)]
 left
 unfold Oper.wp; simp [execOp, hop, hx, hrun, Result.andThen]; exact hK
theorem wpList_load_midg (hw : Pu.asks ops.toList o a.tmps.toList = true) (ty : TypeId) (x : Operand) (hop : o.op = .load ty x) {b off : Nat} (hx : a.eval x = .pointer (some ⟨b, off, none⟩)) (cs : List Value) (d : TypeDesc)
   (hc : w.rangeAt b off cs) (hu : P.underlying ty = some d) (hd : d.isRow = true) (hi : (P.info? ty).map (·.size) = some cs.length)
   (hK : wpList P ops Q rest (a.put o.dst (.agg cs.toArray)) w) : wpList P ops Q (o :: rest) a w := by
 have hrun := run_loadAt_mid (P := P) w b off ty cs d hc hu hd hi; unfold wpList; rw [if_pos ((Pu.asks_eq _ _ _).trans hw)]
 left
 unfold Oper.wp; simp [execOp, hop, hx, hrun, Result.andThen]; exact hK
end
end
namespace Tp
section
open Go.RowKit Go.Maps
open Ce It Al Kp
abbrev mailQC (k : Int) (sv : Value) : Array Value := #[vI k, vO, vN, vO, vI 1, vI 6, vO, vO, vO, vO, vE, sv, vO, vO, vO, vO]
theorem rmail_calls {rg : Nat} {me fr : Int} {sv : Value} {r : List As} {w : World} (h : St (RegA rg me [] :: ItmA sv :: r) w) (h0 : 0 ≤ fr) (h1 : fr < 2) :
   Calls Tryz.prog 241 #[ptr rg, mailQ 11 sv, vI fr] w fun e w' => ∃ v, e = .returned v ∧ St (RowA 306 17 v 3 (postY fr 12 ++ (postN 0 ++ postN 1)) :: RegA rg me stk1 :: ItmA sv :: r) w' := by
 obtain ⟨A, c, rfl, -⟩ := itm_form (h.sl 1 rfl); have s1 := (h.obNew 304 (mailQC 11 (.slice A 1 c))).obNew 3 #[vI fr]; rw [World.size_alloc] at s1; have hd0 : decide (fr < 0) = false := by simp; omega
 have hd1 : decide (fr ≥ 2) = false := by simp; omega
 have HS := hdd s1; have hmf : ∀ (fn : Fn) (first cap : Array Value) (w : World), (Instr.makeFunc fn first cap).run Tryz.prog w = .ok (.func fn first cap) w := fun _ _ _ _ => rfl
 clear h s1
 go_enter Tryz.func241, Tryz.ntmps241
 go_wp2; have s1 := HS.out; generalize (w.alloc (.cells #[vI 11, vO, vN, vO, vI 1, vI 6, vO, vO, vO, vO, vE, .slice A 1 c, vO, vO, vO, vO] 304)).alloc (.cells #[vI fr] 3) = W at *; have oM := hdd (s1.ob (b := w.heap.size) 1 rfl); have oF := hdd (s1.ob (b := w.heap.size + 1) 0 rfl); have HI := hdd (show It.ItemsAt W.drew 0 W.drew.heap.size (.slice A 1 c) itm from s1.drew.sl 3 rfl); obtain ⟨sh, mv, st, hm, s2⟩ := RegA.out (s1.front 2 rfl); have oR := hdd (s2.ob (b := rg) 0 rfl); have HS1 := hdd s1; clear s1 s2 HS; refine Pu.regionW (fun Wq => Below (W).drew.heap.size (W).drew Wq) Se.hmx (by kernel_rfl) (by kernel_rfl) (Below.refl _ _) rfl ?_
 iterate 19 (first
   | (refine Pu.Walk.off (by rfl) ?_; simp only [Act.put, zzA, zzB, zzC])
   | (apply Pu.Walk.on (by rfl)
      · intro V1 h1
        have f0 := (oF.out.dr h1).k 0 rfl; have g1 := (oR.out.dr h1).k 1 rfl; have hI1 : It.ItemsAt V1 0 V1.heap.size (.slice A 1 c) itm := (Sl.below HI.out h1).wide (Nat.le_refl _) h1.size
        go_wp2_with (first
          | (refine wpList_load_obg (by rfl) _ _ rfl rfl _ (oM.out.dr h1) Tryz.underlying304 rfl (by kernel_rfl) ?_)
          | (go_at_call 239; (with_reducible refine (mmay_q11 hI1).mono ?_); rintro e V2 ⟨rfl, hb9⟩))
        first
                 | (refine ⟨rfl, ?_, h1⟩; (try simp only [Act.put, zzA, zzB, zzC]); rfl)
                 | (refine ⟨rfl, ?_, h1.trans (hb9.mono h1.size)⟩; (try simp only [Act.put, zzA, zzB, zzC]); rfl)
      simp only [Act.put, zzA, zzB, zzC]))
 refine Pu.Walk.nil (fun V1 h1 => ?_); have s3 := HS1.out.drew.same h1; have oM3 := s3.ob (b := w.heap.size) 1 rfl; have m0 := oM3.k 0 rfl; have m1 := oM3.k 1 rfl; have z1 : w.heap.size ≠ V1.heap.size := Nat.ne_of_lt oM3.lt; have z2 : V1.heap.size ≠ w.heap.size := Ne.symm z1; clear oM oF HI oR HS1 h1 oM3; go_wp2_with fail
 go_cut [7] (fun q V => ∃ b, q = ptr b ∧ St (ObA (w.heap.size + 1) 3 #[vI fr] :: ObA w.heap.size 304 (mailQC 11 (.slice A 1 c)) :: RegA rg me [] :: ItmA (.slice A 1 c) :: r) V)
 case first =>
   go_region_held3 (fun V => V.cell? ⟨w.heap.size, 0, none⟩ = some (vI 11) ∧ V.cell? ⟨w.heap.size, 1, none⟩ = some vO) (go_keep) ((first | (go_at_call 309; (with_reducible refine (answers_calls _).mono ?_); rintro e2 V2 ⟨rfl, rfl⟩)))
   all_goals
     go_wp2_with fail
     go_meet
     case rel => exact ⟨_, rfl, (s3.drew.obNew _ _).drop⟩
 clear s3 m0 m1 z1 z2; obtain ⟨bk, rfl, s4⟩ := hcut; have m0 := (s4.ob (b := w.heap.size) 1 rfl).k 0 rfl; have s5 := ((s4).take [2, 0, 0, 0]); simp only [takeOut, zzD, zzE, zzF, zzG, zzH, zzI] at s5; have cF := hdd (free_calls s5); clear s4 s5; go_wp2_with fail; refine cF.out.mono ?_; rintro e W2 ⟨mb0, rfl, s6⟩; rw [frees_none] at s6; have oM := s6.ob (b := w.heap.size) 3 rfl; have ⟨m0, m1, m2, m3, m4, m5, m6, m7, m8, m9, m10, m11⟩ := oM.k12 rfl rfl rfl rfl rfl rfl rfl rfl rfl rfl rfl rfl; have f0 := (s6.ob (b := w.heap.size + 1) 2 rfl).k 0 rfl; have s7 := ((s6).take [2, 2, 1, 1, 0]); simp only [takeOut, zzD, zzE, zzF, zzG, zzH, zzI] at s7; replace s7 := s7.drop.drop; have cR := hdd (rdo_calls (fr := fr) s7); clear s6 s7 cF oM; go_wp2_with fail; refine cR.out.mono ?_; rintro e W3 ⟨v3, rfl, s8⟩; obtain ⟨A3, c3, rfl, -⟩ := (Sl.of_own (s8.own 0 rfl)).at_; have s9 := ((s8).take [1, 0, 0, 0]); simp only [takeOut, zzD, zzE, zzF, zzG, zzH, zzI] at s9; have cA := hdd (away_calls s9); clear s8 s9 cR m0 m1 m2 m3 m4 m5 m6 m7 m8 m9 m10 m11 f0; go_wp2_with fail; refine cA.out.mono ?_; rintro e W4 ⟨rfl, s10⟩; have s11 := ((s10).take [0, 2, 0, 0]); simp only [takeOut, zzD, zzE, zzF, zzG, zzH, zzI] at s11; have cN := hdd (rnews_calls s11 frees_one (by omega)); clear s10 s11 cA; go_wp2_with fail; refine cN.out.mono ?_; rintro e W5 ⟨v5, rfl, s12⟩
 clear cN; obtain ⟨A5, c5, rfl, -⟩ := (Sl.of_own (s12.own 0 rfl)).at_; obtain ⟨iL, hiL, hzL0, hzL1, hzL2⟩ := inf3 post_info
 trace_state
 go_wp2_with (at_builtin; refine wpList_append_sl _ rfl (.tmp 117) (.tmp 120) _ rfl 0 306 iL _ 17 176 Tryz.underlying143 hiL hzL0 hzL1 hzL2 rfl (by omega) (.slice A3 1 c3) 1 (postY fr 12) rfl (s12.own 2 rfl) _ _ _ 2 (postN 0 ++ postN 1) rfl (Sl.of_own (s12.own 0 rfl)) (by simp [Value.oneCell']) (by unfold maxLen; omega) (by omega) (by simp) ?_; intro v9 W9 hv9 hg9 hat9); have s13 := (s12.front 2 rfl).row hv9 hg9 hat9; have s14 := ((s13).take [1, 0, 0, 0]); simp only [takeOut, zzD, zzE, zzF, zzG, zzH, zzI] at s14; replace s14 := s14.drop; go_ret; exact ⟨_, rfl, s14⟩
theorem desk_new {r : List As} {w : World} (h : St r w) (me : Int) (h0 : 0 ≤ me) (h1 : me < 2) : Calls Tryz.prog 62 #[vI me, vI 2] w fun e w' => ∃ dk, e = .returned (.tuple #[ptr dk, vO]) ∧ St (DeskN dk me :: r) w' := by
 have hmm := @run_makeMap Tryz.prog; have hd0 : decide (me < 0) = false := by simp; omega
 have hd1 : decide (me ≥ 2) = false := by simp; omega
 have cI := hdd (ident_new h); clear h
 go_enter Tryz.func62, Tryz.ntmps62
 go_wp2_with fail; refine (cI.out).mono ?_; rintro e W1 ⟨tb, rfl, s1⟩; clear cI; go_wp2_with fail; refine (backlog_new _).mono ?_; rintro e W2 ⟨rfl, rfl⟩; go_wp2_with fail; refine (parcel_new _).mono ?_; rintro e W3 ⟨rfl, rfl⟩; have s2 := (((s1.mapNew intK 3).alloc (.map #[] 0)).mapNew strK 369).obNew 278 #[vN, vO]; simp only [World.size_alloc] at s2; have s3 := ((s2.alloc (.map #[] 0)).alloc (.cells #[.map (some (W1.heap.size + 1 + 1 + 1 + 1))] 281)).obNew 145 (deskC me ⟨tb, W1.heap.size, W1.heap.size + 1, W1.heap.size + 1 + 1, W1.heap.size + 1 + 1 + 1, W1.heap.size + 1 + 1 + 1 + 1 + 1⟩ vN); simp only [World.size_alloc] at s3; clear s1 s2; have s4 := ((s3).take [0, 2, 1, 0, 0]); simp only [takeOut, zzD, zzE, zzF, zzG, zzH, zzI] at s4; have s5 := DeskN.mk (a := ⟨tb, W1.heap.size, W1.heap.size + 1, W1.heap.size + 1 + 1, W1.heap.size + 1 + 1 + 1, W1.heap.size + 1 + 1 + 1 + 1 + 1⟩) s4; clear s3 s4; go_wp2; go_ret2; exact ⟨_, rfl, s5⟩
theorem posted_calls {dk : Nat} {me : Int} {a : Da} {A : Option Addr} {n c : Nat} {r : List As} {w : World} (h : St (ObA dk 145 (deskC me a (.slice A n c)) :: r) w) : Calls Tryz.prog 308 #[ptr dk] w fun e w' => e = .returned (.slice A n c) ∧ St (ObA dk 145 (deskC me a vN) :: r) w' := by
 have o := h.ob (b := dk) 0 rfl; have g8 := o.k 8 rfl; have f8 := o.frozen 8; have s1 : St (ObA dk 145 (deskC me a vN) :: r) _ := h.set 8 vN; clear h o
 go_enter Tryz.func308, Tryz.ntmps308
 go_wp2; go_ret; exact ⟨rfl, s1⟩
theorem dtry_calls {dk : Nat} {me : Int} {a : Da} {ov : Value} {w : World} (h : Ob w dk 145 (deskC me a ov)) (hb : Ob w a.bl 278 #[vN, vO]) : Calls Tryz.prog 321 #[ptr dk] w fun e w' => e = .returned (.tuple #[]) ∧ w = w' := by
 have g6 := h.k 6 rfl; have cT := hdd (try_calls hb); clear h hb
 go_enter Tryz.func321, Tryz.ntmps321
 go_wp2_with fail; refine (cT.out).mono ?_; rintro e W ⟨rfl, rfl⟩; go_wp2; go_end0; exact ⟨rfl, rfl⟩
theorem dis2_calls {dk : Nat} {me : Int} {a : Da} {ov : Value} {w : World} (h : Ob w dk 145 (deskC me a ov)) (i : Int) (h0 : 0 ≤ i) (h1 : i < 2) : Calls Tryz.prog 304 #[ptr dk, vI i] w fun e w' => e = .returned (.bool true) ∧ w = w' := dis_calls dk i w h0 h1 (h.k 1 rfl)
abbrev mailYC (k : Int) : Array Value := #[vI k, vO, vN, vO, vO, vO, vO, vO, vO, vO, vE, vN, vO, vI 1, vO, vO]
theorem postq_calls {dk : Nat} {me : Int} {a : Da} {tt : Int} {A : Option Addr} {n c : Nat} {r : List As} {w : World} (h : St (ObA dk 145 (deskC me a vN) :: r) w) :
   Calls Tryz.prog 375 #[ptr dk, vI tt, mailQ 11 (.slice A n c)] w fun e w' => e = .returned (.tuple #[]) ∧ ∃ A' c', St (ObA dk 145 (deskC me a (.slice A' 1 c')) :: RowA 306 17 (.slice A' 1 c') 1 (postQ tt 11 (.slice A n c)) :: r) w' := by
 have s1 := (h.rowNil 306 17).obNew 304 (mailQC 11 (.slice A n c)); clear h
 go_enter Tryz.func375, Tryz.ntmps375
 go_wp2_with fail; generalize hWd : w.alloc (.cells #[vI 11, vO, vN, vO, vI 1, vI 6, vO, vO, vO, vO, vE, .slice A n c, vO, vO, vO, vO] 304) = W at *; clear hWd; refine Pq.regionT (.look 0 (.look 1 (.look 2 (.look 3 (.look 4 (.look 5 (.look 6 (.look 7 (.look 10 (.look 11 (.make 8 (.make 9 (.make 12 .nil))))))))))))) (fun V => Ob V dk 145 (deskC me a vN) ∧ Ob V w.heap.size 304 (mailQC 11 (.slice A n c))) Se.hmx (by kernel_rfl) (by kernel_rfl) (by kernel_rfl) ⟨((s1).drew.ob 2 rfl), ((s1).drew.ob 0 rfl)⟩ rfl ?_; simp only [Pq.named, Pq.rest, zzJ, zzK, zzL, zzM]
 iterate 10 (
   apply Pq.WalkT.on (by rfl)
   · rintro V ⟨hO0, hO1⟩
     have ⟨q0, q1, q2, q3, q4, q5, q6, q7, q8⟩ := hO0.k9 rfl rfl rfl rfl rfl rfl rfl rfl rfl; go_wp2_with (refine wpList_load_obg (by rfl) _ _ rfl rfl _ hO1 Tryz.underlying304 rfl (by kernel_rfl) ?_); refine ⟨rfl, ?_, rfl⟩
     try simp only [Act.put, zzA, zzB, zzC]
     rfl
   simp only [Act.put, zzA, zzB, zzC])
 have sA0 := ((s1).drew).alloc (.cells #[vI tt, vI 11, vO, vN, vO, vI 1, vI 6, vO, vO, vO, vO, vE, .slice A n c, vO, vO, vO, vO] 306); have hSl0 := Sl.new ((W).drew) #[vI tt, vI 11, vO, vN, vO, vI 1, vI 6, vO, vO, vO, vO, vE, .slice A n c, vO, vO, vO, vO] 306 (n := 1) (size := 17) rfl (by unfold maxLen; omega); obtain ⟨iA, hiA, hzA0, hzA1, hzA2⟩ := inf3 post_info; refine Pq.WalkT.make (by rfl) ?_; rintro T1 hq; replace hq := hq.symm; subst hq; go_wp2_with fail; refine Pq.mk3 (.slice (some ⟨((W).drew).heap.size, 0, none⟩) 1 1) ⟨sA0.ob 2 rfl, sA0.ob 0 rfl⟩ ?_ ?_
 · try simp only [Act.put, zzA, zzB, zzC]
   try rfl
 simp only [Act.put, zzA, zzB, zzC]; refine Pq.WalkT.make (by rfl) ?_; rintro T2 hq; replace hq := hq.symm; subst hq; refine wpList_append_sl _ rfl (.tmp 10) (.tmp 14) _ rfl 0 306 iA _ 17 176 Tryz.underlying143 hiA hzA0 hzA1 hzA2 rfl (by omega) vN 0 [] rfl (sA0.own 1 rfl) _ _ _ 1 (#[vI tt, vI 11, vO, vN, vO, vI 1, vI 6, vO, vO, vO, vO, vE, .slice A n c, vO, vO, vO, vO]).toList rfl hSl0 (by simp [Value.oneCell']) (by unfold maxLen; omega) (by omega) (by simp) ?_; intro v1 T3 hv1 hg1 hat1; simp only [Nat.zero_add, List.nil_append] at hv1; obtain ⟨A9, c9, hv9, -⟩ := (Sl.of_own hv1).at_; subst hv9; have sA1 := (sA0.front 1 rfl).row hv1 hg1 hat1; refine Pq.mk3 (.slice A9 1 c9) ⟨sA1.ob 2 rfl, sA1.ob 1 rfl⟩ ?_ ?_
 · try simp only [Act.put, zzA, zzB, zzC]
   try rfl
 simp only [Act.put, zzA, zzB, zzC]; refine Pq.WalkT.make (by rfl) ?_; rintro T4 hq; replace hq := hq.symm; subst hq; have gA := (sA1.ob 2 rfl).k 8 rfl; have fA := (sA1.ob 2 rfl).frozen 8; have sA2 := (sA1.front 2 rfl).set 8 (.slice A9 1 c9); go_wp2_with fail; refine ⟨rfl, undef, (fun _ => True), (fun V => V = _), rfl, rfl, (fun _ _ => trivial), (.inl (by kernel_rfl)), Pq.WalkT.nil ?_⟩; rintro V rfl; simp only [Act.put]; clear gA fA; simp only [zzH, zzI, zzG, zzF, List.length_cons, List.length_nil] at sA2; have s9 := ((sA2).take [2, 0, 0]); simp only [takeOut, zzD, zzE, zzF, zzG, zzH, zzI] at s9; replace s9 := s9.drop; clear hSl0 sA0 sA1 hg1 hat1 hv1 s1; go_wp2; go_end0; exact ⟨rfl, _, _, s9⟩
theorem posty_calls {dk : Nat} {me : Int} {a : Da} {tt : Int} {r : List As} {w : World} (h : St (ObA dk 145 (deskC me a vN) :: r) w) :
   Calls Tryz.prog 375 #[ptr dk, vI tt, mailY 2] w fun e w' => e = .returned (.tuple #[]) ∧ ∃ A' c', St (ObA dk 145 (deskC me a (.slice A' 1 c')) :: RowA 306 17 (.slice A' 1 c') 1 (postY tt 2) :: r) w' := by
 have s1 := (h.rowNil 306 17).obNew 304 (mailYC 2); clear h
 go_enter Tryz.func375, Tryz.ntmps375
 go_wp2_with fail; generalize hWd : w.alloc (.cells #[vI 2, vO, vN, vO, vO, vO, vO, vO, vO, vO, vE, vN, vO, vI 1, vO, vO] 304) = W at *; clear hWd; refine Pq.regionT (.look 0 (.look 1 (.look 2 (.look 3 (.look 4 (.look 5 (.look 6 (.look 7 (.look 10 (.look 11 (.make 8 (.make 9 (.make 12 .nil))))))))))))) (fun V => Ob V dk 145 (deskC me a vN) ∧ Ob V w.heap.size 304 (mailYC 2)) Se.hmx (by kernel_rfl) (by kernel_rfl) (by kernel_rfl) ⟨((s1).drew.ob 2 rfl), ((s1).drew.ob 0 rfl)⟩ rfl ?_; simp only [Pq.named, Pq.rest, zzJ, zzK, zzL, zzM]
 iterate 10 (
   apply Pq.WalkT.on (by rfl)
   · rintro V ⟨hO0, hO1⟩
     have ⟨q0, q1, q2, q3, q4, q5, q6, q7, q8⟩ := hO0.k9 rfl rfl rfl rfl rfl rfl rfl rfl rfl; go_wp2_with (refine wpList_load_obg (by rfl) _ _ rfl rfl _ hO1 Tryz.underlying304 rfl (by kernel_rfl) ?_); refine ⟨rfl, ?_, rfl⟩
     try simp only [Act.put, zzA, zzB, zzC]
     rfl
   simp only [Act.put, zzA, zzB, zzC])
 have sA0 := ((s1).drew).alloc (.cells #[vI tt, vI 2, vO, vN, vO, vO, vO, vO, vO, vO, vO, vE, vN, vO, vI 1, vO, vO] 306); have hSl0 := Sl.new ((W).drew) #[vI tt, vI 2, vO, vN, vO, vO, vO, vO, vO, vO, vO, vE, vN, vO, vI 1, vO, vO] 306 (n := 1) (size := 17) rfl (by unfold maxLen; omega); obtain ⟨iA, hiA, hzA0, hzA1, hzA2⟩ := inf3 post_info; refine Pq.WalkT.make (by rfl) ?_; rintro T1 hq; replace hq := hq.symm; subst hq; go_wp2_with fail; refine Pq.mk3 (.slice (some ⟨((W).drew).heap.size, 0, none⟩) 1 1) ⟨sA0.ob 2 rfl, sA0.ob 0 rfl⟩ ?_ ?_
 · try simp only [Act.put, zzA, zzB, zzC]
   try rfl
 simp only [Act.put, zzA, zzB, zzC]; refine Pq.WalkT.make (by rfl) ?_; rintro T2 hq; replace hq := hq.symm; subst hq; refine wpList_append_sl _ rfl (.tmp 10) (.tmp 14) _ rfl 0 306 iA _ 17 176 Tryz.underlying143 hiA hzA0 hzA1 hzA2 rfl (by omega) vN 0 [] rfl (sA0.own 1 rfl) _ _ _ 1 (#[vI tt, vI 2, vO, vN, vO, vO, vO, vO, vO, vO, vO, vE, vN, vO, vI 1, vO, vO]).toList rfl hSl0 (by simp [Value.oneCell']) (by unfold maxLen; omega) (by omega) (by simp) ?_; intro v1 T3 hv1 hg1 hat1; simp only [Nat.zero_add, List.nil_append] at hv1; obtain ⟨A9, c9, hv9, -⟩ := (Sl.of_own hv1).at_; subst hv9; have sA1 := (sA0.front 1 rfl).row hv1 hg1 hat1; refine Pq.mk3 (.slice A9 1 c9) ⟨sA1.ob 2 rfl, sA1.ob 1 rfl⟩ ?_ ?_
 · try simp only [Act.put, zzA, zzB, zzC]
   try rfl
 simp only [Act.put, zzA, zzB, zzC]; refine Pq.WalkT.make (by rfl) ?_; rintro T4 hq; replace hq := hq.symm; subst hq; have gA := (sA1.ob 2 rfl).k 8 rfl; have fA := (sA1.ob 2 rfl).frozen 8; have sA2 := (sA1.front 2 rfl).set 8 (.slice A9 1 c9); go_wp2_with fail; refine ⟨rfl, undef, (fun _ => True), (fun V => V = _), rfl, rfl, (fun _ _ => trivial), (.inl (by kernel_rfl)), Pq.WalkT.nil ?_⟩; rintro V rfl; simp only [Act.put]; clear gA fA; simp only [zzH, zzI, zzG, zzF, List.length_cons, List.length_nil] at sA2; have s9 := ((sA2).take [2, 0, 0]); simp only [takeOut, zzD, zzE, zzF, zzG, zzH, zzI] at s9; replace s9 := s9.drop; clear hSl0 sA0 sA1 hg1 hat1 hv1 s1; go_wp2; go_end0; exact ⟨rfl, _, _, s9⟩
theorem say_calls {dk : Nat} {me : Int} {a : Da} {tt : Int} {r : List As} {w : World} (h : St (ObA dk 145 (deskC me a vN) :: r) w) :
   Calls Tryz.prog 306 #[ptr dk, vI tt, ans1] w fun e w' => e = .returned (.tuple #[]) ∧ ∃ A' c', St (ObA dk 145 (deskC me a (.slice A' 1 c')) :: RowA 306 17 (.slice A' 1 c') 1 (postY tt 2) :: r) w' := by
 have s1 := h.alloc (.cells #[vO, vI 1, vO, vO] 39); have oA := Ob.new w 39 #[vO, vI 1, vO, vO]; have ⟨y0, y1, y2, y3⟩ := oA.k4 rfl rfl rfl rfl; have cP := hdd (posty_calls (tt := tt) s1); clear h s1 oA
 go_enter Tryz.func306, Tryz.ntmps306
 go_wp2_with fail; refine (cP.out).mono ?_; rintro e W ⟨rfl, A', c', s2⟩; go_wp2; go_end0; exact ⟨rfl, _, _, s2⟩
abbrev askC9 (sv : Value) : Array Value := #[vO, vI 1, vI 6, vO, vO, vO, vO, vE, sv]
abbrev who01 : Value := .agg #[vO, vI 1]
theorem elsewhere_calls {dk : Nat} {me : Int} {a : Da} {A : Option Addr} {n c : Nat} {r : List As} {w : World} (h : St (ObA dk 145 (deskC me a vN) :: r) w) :
   Calls Tryz.prog 380 #[ptr dk, who01, askV (.slice A n c)] w fun e w' => e = .returned (.tuple #[]) ∧ ∃ A' c', St (ObA dk 145 (deskC me a (.slice A' 1 c')) :: RowA 306 17 (.slice A' 1 c') 1 (postQ 0 11 (.slice A n c)) :: r) w' := by
 have s1 := (h.obNew 369 #[vO, vI 1]).obNew 32 (askC9 (.slice A n c)); rw [World.size_alloc] at s1; have oA := s1.ob (b := w.heap.size + 1) 0 rfl; have ⟨q0, q1, q2, q3, q4, q5, q6, q7, q8⟩ := oA.k9 rfl rfl rfl rfl rfl rfl rfl rfl rfl; have oD := s1.ob (b := dk) 2 rfl; have c0 := hdd (dis2_calls oD 0 (by omega) (by omega)); have s2 := ((s1).take [0, 0, 0]); simp only [takeOut, zzD, zzE, zzF, zzG, zzH, zzI] at s2; replace s2 := s2.drop.drop; have cP := hdd (postq_calls (tt := 0) (A := A) (n := n) (c := c) s2); clear h s1 s2 oA oD
 go_enter Tryz.func380, Tryz.ntmps380
 go_wp2_with (first | (go_at_call 304; (with_reducible refine (c0.out).mono ?_); rintro e2 V1 ⟨rfl, rfl⟩) | (go_at_call 375; (with_reducible refine (cP.out).mono ?_); rintro e2 V2 ⟨rfl, A', c', s3⟩)); go_end0; exact ⟨rfl, _, _, s3⟩
theorem ddo_calls {dk : Nat} {me : Int} {a : Da} {A : Option Addr} {n c : Nat} {r : List As} {w : World} (h : St (ObA dk 145 (deskC me a vN) :: r) w) :
   Calls Tryz.prog 307 #[ptr dk, who01, askV (.slice A n c)] w fun e w' => e = .returned (.tuple #[]) ∧ ∃ A' c', St (ObA dk 145 (deskC me a (.slice A' 1 c')) :: RowA 306 17 (.slice A' 1 c') 1 (postQ 0 11 (.slice A n c)) :: r) w' := by
 have s1 := (h.obNew 369 #[vO, vI 1]).obNew 32 (askC9 (.slice A n c)); rw [World.size_alloc] at s1; have oA := s1.ob (b := w.heap.size + 1) 0 rfl; have ⟨q0, q1, q2, q3, q4, q5, q6, q7, q8⟩ := oA.k9 rfl rfl rfl rfl rfl rfl rfl rfl rfl; have oW := s1.ob (b := w.heap.size) 1 rfl; have p0 := oW.k 0 rfl; have p1 := oW.k 1 rfl; have s2 := ((s1).take [0, 0, 0]); simp only [takeOut, zzD, zzE, zzF, zzG, zzH, zzI] at s2; replace s2 := s2.drop.drop; have cP := hdd (elsewhere_calls (A := A) (n := n) (c := c) s2); clear h s1 s2 oA oW
 go_enter Tryz.func307, Tryz.ntmps307
 go_wp2_with fail; refine cP.out.mono ?_; rintro e2 V2 ⟨rfl, A', c', s3⟩; go_wp2; go_end0; exact ⟨rfl, _, _, s3⟩
end
end Tp
namespace It
section
open Go.RowKit
attribute [local go_sem] Oper.semAt_some
structure KeepC (Fr : Nat → Prop) (A B : World) : Prop where
 size : A.heap.size ≤ B.heap.size
 same : ∀ b o, Fr b → A.heap[b]? = some o → o.isCells = true → B.heap[b]? = some o
section
variable {Fr : Nat → Prop} {A B C : World}
theorem KeepC.refl (Fr : Nat → Prop) (A : World) : KeepC Fr A A := ⟨Nat.le_refl _, fun _ _ _ h _ => h⟩
theorem KeepC.trans (h : KeepC Fr A B) (k : KeepC Fr B C) : KeepC Fr A C := ⟨Nat.le_trans h.size k.size, fun b o h1 h2 h3 => k.same b o h1 (h.same b o h1 h2 h3) h3⟩
theorem KeepC.putObj {W : World} {l : Nat} {o o' : Obj} (h : W.heap[l]? = some o) (hc : o.isCells = false) : KeepC Fr W (W.putObj l o') := by
 refine ⟨by simp, fun b u _ hb hu => ?_⟩
 by_cases e : b = l
 · subst e
   rw [h] at hb
   cases hb
   rw [hc] at hu
   cases hu
 · exact (World.putObj_heap_other e).trans hb
theorem KeepC.of_below {n : Nat} (h : Below n A B) (hF : ∀ i, Fr i → i < n) : KeepC Fr A B := ⟨h.size, fun b _ h1 h2 _ => (h.block b (hF b h1)).trans h2⟩
theorem KeepC.of_kept (h : Kept Fr A B) : KeepC Fr A B := ⟨h.size, fun b _ h1 h2 _ => (h.block b h1).trans h2⟩
theorem KeepC.cell {b j : Nat} {v : Value} (h : KeepC Fr A B) (hF : Fr b) (hc : A.cell? ⟨b, j, none⟩ = some v) : B.cell? ⟨b, j, none⟩ = some v := by
 have h2 := hc; unfold World.cell? at h2
 split at h2
 · rename_i c t _ hb
   have := h.same b _ hF hb rfl; exact (World.cell?_of_block (w := A) (w' := B) (a := ⟨b, j, none⟩) (this.trans hb.symm)).trans hc
 · cases h2
theorem KeepC.sl {lo hi size n : Nat} {v : Value} {xs : List Value} (h : KeepC Fr A B) (hs : Sl A lo hi size v n xs) (hx : ∀ i, lo ≤ i → i < hi → Fr i) : Sl B lo hi size v n xs := by
 refine ⟨hs.len, ?_⟩; obtain ⟨A', c, e, h1, h2, h3⟩ := hs.at_; refine ⟨A', c, e, h1, h2, fun hn => ?_⟩; obtain ⟨b, o, ea, hl, hb, hc⟩ := h3 hn; refine ⟨b, o, ea, hl, hb, fun j hj => ?_⟩; have hj2 : j < xs.length := by rw [hs.len]; exact hj
 have e2 : xs[j]? = some xs[j] := List.getElem?_eq_getElem hj2; rw [e2]; exact h.cell (hx b hl hb) ((hc j hj).trans e2)
end
theorem all1_inK (F : Fence) (n : Nat) (hf : F.fn 203) (hro : F.round = none) (hn : 1 ≤ n) (l Bs lo hi c : Nat) (A : Option Addr) (L : List Item) (hc1 : L.length ≤ c) (hc2 : c ≤ maxLen) (J Jx : List (Of L) → World → Prop)
   (W : World) (Fr : Nat → Prop) (hFl : ∀ i, Fr i → i < W.heap.size) (hF : ∀ i, lo ≤ i → i < hi → Fr i) (hJ : AbidesFrom W.heap.size J)
   (hY : ∀ pre x W, J pre W → pre.length < L.length → YieldAt F (n - 1) Tryz.prog l (enc2 x) W fun e W' =>
     (e = .returned (.bool true) ∧ J (pre ++ [x]) W' ∧ KeepC Fr W W') ∨ (e = .returned (.bool false) ∧ Jx (pre ++ [x]) W'))
   (hBs : W.cell? ⟨Bs, 0, none⟩ = some (.slice A L.length c)) (hI : ItemsAt W lo hi (.slice A L.length c) L) (h0 : J [] W) :
   CallsIn F n Tryz.prog 203 #[.func (.yield l) #[] #[], .pointer (some ⟨Bs, 0, none⟩)] W fun e W' => (∃ v, e = .returned v) ∧
     ((∃ ys, ys = L.attach ∧ J ys W') ∨ (∃ pre, pre <+: L.attach ∧ Jx pre W')) := by
 unfold maxLen at hc2; refine callsIn_of_wp Tryz.func203 rfl hf ?_ hro; simp only [Tryz.ntmps203, List.size_toArray, List.length_cons, List.length_nil, Nat.reduceAdd, Nat.reduceSub, Array.replicate_succ, Array.replicate_zero, List.push_toArray, List.append_toArray, List.nil_append, List.cons_append]; gi_wp2
 gi_loopw [4, 7] (fun _ i wr => ∃ k : Nat, k ≤ L.length ∧ i = vI k ∧ J (firsts L k) wr ∧ KeepC Fr W wr) (fun _ i _ => L.length - (intOf i).toNat)
 case atStart => exact ⟨0, by omega, rfl, h0, KeepC.refl _ _⟩
 case round =>
   obtain ⟨k, hk, rfl, hJs, hb⟩ := hrel
   by_cases hlt : k < L.length
   · obtain ⟨b, o, rfl, _, hbn, hs, hi⟩ := ItemsAt.cellAt (hb.sl hI hF) hlt
     have hsz := hb.size; have hJ' : J (firsts L k) (wr.alloc (.cells #[.string L[k].1, vI L[k].2] 29)) := hJ _ _ _ none hJs (World.grownBy_alloc _ _ none) (fun r e => by cases e); have ha : KeepC Fr wr (wr.alloc (.cells #[.string L[k].1, vI L[k].2] 29)) := KeepC.of_below (n := wr.heap.size) ((Below.refl _ _).alloc (Nat.le_refl _) _) (fun i hi => by have := hFl i hi; omega); have HKA := hdd (hb.trans ha); clear ha hb; obtain ⟨fn, tmps, assign, body, hy, hR⟩ := hY _ ⟨L[k], List.getElem_mem hlt⟩ _ hJ' (by rw [firsts_length _ _ hk]; exact hlt); dsimp only [enc2] at hy; gi_wp2; refine hR.mono ?_; rintro e W3 (⟨rfl, hJ3, hk3⟩ | ⟨rfl, hJx3⟩)
     · gi_wp2
       go_roundw
       case rel => exact ⟨k + 1, by omega, by go_num, by rw [firsts_succ L k hlt]; exact hJ3, HKA.out.trans hk3⟩
       case measure => simp [intOf]; omega
     · gi_wp2
       refine bodyPost_ret (results_none rfl _ _ _) rfl ?_; exact ⟨⟨_, rfl⟩, .inr ⟨_, by rw [← firsts_succ L k hlt]; exact List.take_prefix _ _, hJx3⟩⟩
   · obtain rfl : k = L.length := by omega
     gi_wp2; go_end0; exact ⟨⟨_, rfl⟩, .inl ⟨_, rfl, by rw [← firsts_all]; exact hJs⟩⟩
def rpostK {α : Type} (B : Nat) (Fr : Nat → Prop) (C : List α → World → Prop) (Cx : Code → List α → World → Prop) (xs : List α) (W : World) : Exit → Act → World → Prop
 | .normal, _, W' => KeepsFrom B W W' ∧ KeepC Fr W W' ∧ C xs W'
 | .ret, _, W' => KeepsFrom B W W' ∧ Cx .ret xs W'
 | .exit id, _, W' => KeepsFrom B W W' ∧ Cx (.exit id) xs W'
 | .goto t, _, W' => KeepsFrom B W W' ∧ Cx (.goto t) xs W'
 | .panic _, _, _ => False
 | .outgrown, _, _ => False
theorem range_allK {F : Fence} {n : Nat} {g : Operand} {ps : Array Tmp} {assign body : Code} {Q : Exit → Act → World → Prop} {a : Act} {w : World}
   (hro : F.round = none) (hf : F.fn 203) (hn : 2 ≤ n) {Bs lo hi : Nat} {v : Value} {L : List Item} (hg : a.eval g = .func (.func 203) #[] #[.pointer (some ⟨Bs, 0, none⟩)]) (hps : ps.size = 2)
   (Fr : Nat → Prop) (hFl : ∀ i, Fr i → i < w.heap.size) (hF : ∀ i, lo ≤ i → i < hi → Fr i) (hBs : Bs < w.heap.size) (hc : w.cell? ⟨Bs, 0, none⟩ = some v) (hI : ItemsAt w lo hi v L) (hhi : hi ≤ w.heap.size)
   (C : List (Of L) → World → Prop) (Cx : Code → List (Of L) → World → Prop) (hC : OwnFrom w.heap.size C) (hCx : ∀ c, OwnFrom w.heap.size (Cx c)) (h0 : C [] w) (a₁ : Of L → Act)
   (hassign : ∀ (l : Nat) (x : Of L) (W : World) (K : Act → World → Prop), K (a₁ x) W →
     assign.wpIn (F.inRound l) (n - 1 - 1) Tryz.prog (Exit.then K (fun _ _ _ => False)) { tmps := (ps.zip (enc2 x)).foldl (fun t (p, v) => t.setIfInBounds p v) a.tmps, defers := [] } W)
   (hbody : ∀ (l : Nat) (pre : List (Of L)) (x : Of L) (W : World), C pre W → pre.length < L.length → body.wpIn (F.inRound l) (n - 1 - 1) Tryz.prog (rpostK w.heap.size Fr C Cx (pre ++ [x]) W) (a₁ x) W)
   (hdone : ∀ (D : Nat) (W : World), w.heap.size ≤ D → C L.attach W → W.heap[D]? = some (.deferred (some [])) → Q .normal { a with defers := { target := .collected D, args := #[] } :: a.defers } W)
   (hstop : ∀ (D : Nat) (c : Code) (pre : List (Of L)) (W : World), w.heap.size ≤ D → pre <+: L.attach → Cx c pre W → W.heap[D]? = some (.deferred (some [])) → c.wpIn F n Tryz.prog Q { a with defers := { target := .collected D, args := #[] } :: a.defers } W) :
   (Code.rangeFunc g ps assign body).wpIn F n Tryz.prog Q a w := by
 have hst : SeqStopsK F (n - 1) Tryz.prog 203 #[.pointer (some ⟨Bs, 0, none⟩)] (enc2 (l := L)) (KeepC Fr) (fun ys => ys = L.attach) (fun pre => pre <+: L.attach) L.length w := fun l J Jx W hW hJ _ hY h0 => by
   obtain ⟨A, c, rfl, h1, h2⟩ := hI.form; exact all1_inK F (n - 1) hf hro (by omega) l Bs lo hi c A L h1 h2 J Jx W Fr (fun i hi => Nat.lt_of_lt_of_le (hFl i hi) hW.size) hF hJ hY ((hW.cell (p := ⟨Bs, 0, none⟩) hBs).trans hc) (hI.keep fun b _ _ hb => World.cell?_of_block (hW.block b (by omega))) h0
 exact wpIn_rangeFunc_ownG hro (by omega) hg hf (enters_of Tryz.func203 (by kernel_rfl) rfl)
   hst (fun h k => h.trans k) (fun W l o o' _ h hcl _ => KeepC.putObj h hcl) (Below.refl _ _) (fun _ => hps.symm)
   C Cx hC hCx h0 a₁ hassign
   (fun l pre x W hc hl => wpIn_mono (hbody l pre x W hc hl) (fun e a' W' h => by
     cases e with
     | normal => exact h
     | ret => exact h
     | exit id => exact h
     | goto t => exact h
     | panic ch => exact h.elim
     | outgrown => exact h.elim))
   (fun D xs W hD hS hc hK => by subst hS; exact hdone D W hD hc hK)
   (fun D c pre W hD hp hc hK => hstop D c pre W hD hp hc hK)
end
section
open Go.RowKit
open Ce
theorem _root_.Go.Proofs.YtgcnhmjpfbbfcaaGreat.Ce.Mk.wide {w : World} {bm : Nat} {Fr : Nat → Prop} {s : List UInt8 × Bool} (h : Mk w bm Fr s) :
   ∃ Fr', (∀ i, Fr i → Fr' i) ∧ (∀ i o, w.heap[i]? = some o → o.isCells = false → Fr' i) ∧ Mk w bm Fr' s := by
 obtain ⟨h1, h2, h3, v, hO, hR, hG⟩ := h; refine ⟨fun i => i < w.heap.size ∧ i ≠ bm ∧ v.ownBlock ≠ some i, fun i hi => ⟨h3 i hi, fun e => h2 (e ▸ hi), fun e => hG i e hi⟩, fun i o ho hc => ⟨(Array.getElem?_eq_some_iff.1 ho).1, fun e => ?_, fun e => ?_⟩, h1, fun h => h.2.1 rfl, fun i hi => hi.1, v, hO, hR, fun g hg h => h.2.2 hg⟩
 · subst e
   rw [show w.heap[i]? = _ from hO] at ho
   cases ho
   cases hc
 · rcases hR.2 with ⟨rfl, _⟩ | ⟨g, cap, cur, rfl, _, hgb, _⟩
   · cases e
   · obtain rfl : g = i := by simpa [Value.ownBlock] using e
     rw [hgb] at ho
     cases ho
     cases hc
theorem _root_.Go.Proofs.YtgcnhmjpfbbfcaaGreat.Ce.Mk.narrow {w : World} {bm : Nat} {Fr Fr' : Nat → Prop} {s : List UInt8 × Bool} (h : Mk w bm Fr s) (hF : ∀ i, Fr' i → Fr i) : Mk w bm Fr' s := by
 obtain ⟨h1, h2, h3, v, hO, hR, hG⟩ := h; exact ⟨h1, fun h => h2 (hF _ h), fun i hi => h3 i (hF i hi), v, hO, hR, fun g hg h => hG g hg (hF _ h)⟩
theorem _root_.Go.Proofs.YtgcnhmjpfbbfcaaGreat.Ce.Mk.keep {A B : World} {row : Option Nat} {bm : Nat} {Fr : Nat → Prop} {s : List UInt8 × Bool} (h : Mk A bm Fr s) (hg : A.grownBy B row) (hr : ∀ r, row = some r → ∃ o : Obj, A.heap[r]? = some o ∧ o.isCells = false) : Mk B bm Fr s := by
 obtain ⟨h1, h2, h3, v, hO, hR, hG⟩ := h; refine ⟨h1, h2, fun i hi => Nat.lt_of_lt_of_le (h3 i hi) hg.size, v, hO.kept hg (fun e => ?_), row_keep hR hg hr, hG⟩; obtain ⟨o, ho, hc⟩ := hr bm e.symm; rw [show A.heap[bm]? = _ from hO] at ho
 cases ho
 cases hc
theorem keeps_kept {A B : World} {n : Nat} {Fr : Nat → Prop} (h : Kept Fr A B) (hF : ∀ i o, A.heap[i]? = some o → o.isCells = false → Fr i) : KeepsFrom n A B :=
 ⟨h.size, fun k o _ hk hc => (h.block k (hF k o hk hc)).trans hk⟩
theorem kept_boxed {A B : World} {Fr : Nat → Prop} {b : Nat} {t : TypeId} {v : Value} (h : Kept Fr A B) (hb : Boxed A b t v) (hF : Fr b) : Boxed B b t v := (h.block b hF).trans hb
end
end It
end Go.Proofs.YtgcnhmjpfbbfcaaGreat
