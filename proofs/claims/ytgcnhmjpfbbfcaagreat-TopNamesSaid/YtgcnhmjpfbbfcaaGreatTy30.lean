/-
  part of the proof of TopNames.
-/
import Derived.Test.YtgcnhmjpfbbfcaaGreatTy28
import Derived.Test.YtgcnhmjpfbbfcaaGreatTy29
import Derived.Deep.Cut
set_option linter.unusedVariables false
set_option linter.unusedSimpArgs false
set_option maxRecDepth 100000
set_option maxHeartbeats 8000000
namespace Go.Proofs.YtgcnhmjpfbbfcaaGreat
namespace Tp
section
open Go.RowKit Go.Maps
open Ce It Al Kp
theorem postsize : (Tryz.prog.info? 306).map (·.size) = some 17 := by kernel_rfl
theorem nposts1_calls {a : Na} {now cnt : Nat} {sv : Value} {A : Option Addr} {c : Nat} {r : List As} {w : World} (hnow : now ≤ 10) (h : St (WayA 306 17 (.slice A 1 c) 1 (postQ 0 1 sv) :: NodeB a 1 now cnt vN :: EndA a.e0 [] 0 0 :: ItmA sv :: r) w) :
   Calls Tryz.prog 181 #[ptr a.nd, .slice A 1 c] w fun e w' => e = .returned (.tuple #[]) ∧ ∃ ov' u A c, St (NodeB a 1 now cnt ov' :: EndA a.e0 [(1, .slice A codeQ.length c, 1, (now : Int) + 2)] 1 0 :: RowA 181 7 ov' 1 (sentP 0 u) :: BytesA u (pkC 1 0 codeQ) :: r) w' := by
 obtain ⟨Ai, ci, rfl, -⟩ := itm_form (h.sl 3 rfl)
 go_enter Tryz.func181, Tryz.ntmps181
 go_wp2; refine wp_loop_rounds 2 ?_; rw [rounds_succ]; obtain ⟨g1, off1, rfl, hc1, hr1, t1⟩ := St.whead (n := 0) (p := [vO, vI 1, vO, vN, vO, vI 1, vI 6, vO, vO, vO, vO, vE, (.slice Ai 1 ci), vO, vO, vO, vO]) (xs := []) h rfl; have x1 := t1.obNew 306 #[vO, vI 1, vO, vN, vO, vI 1, vI 6, vO, vO, vO, vO, vE, (.slice Ai 1 ci), vO, vO, vO, vO]; clear h
 go_upto_region 2 with (first | ((with_reducible change wpList _ _ _ (_ :: _) _ _); refine wpList_load_mid rfl 306 (.tmp 11) rfl g1 off1 rfl [vO, vI 1, vO, vN, vO, vI 1, vI 6, vO, vO, vO, vO, vE, (.slice Ai 1 ci), vO, vO, vO, vO] _ hr1 Tryz.underlying306 rfl postsize ?_))
 obtain ⟨xb1, hxb1⟩ : ∃ xb, xb = w.heap.size := ⟨_, rfl⟩; simp only [← hxb1]; rw [← hxb1] at x1; generalize hWd : w.alloc (.cells #[vO, vI 1, vO, vN, vO, vI 1, vI 6, vO, vO, vO, vO, vE, (.slice Ai 1 ci), vO, vO, vO, vO] 306) = W1 at *; clear hWd hxb1 t1 hr1
 go_cut [1] (fun v V => V = W1 ∧ ∃ B k, v = .slice B 0 k ∧ St (ObA xb1 306 #[vO, vI 1, vO, vN, vO, vI 1, vI 6, vO, vO, vO, vO, vE, (.slice Ai 1 ci), vO, vO, vO, vO] :: WayA 306 17 (.slice B 0 k) 0 ([]) :: NodeB a 1 now cnt vN :: EndA a.e0 [] 0 0 :: ItmA (.slice Ai 1 ci) :: r) W1)
 case first =>
   go_wp2_with fail
   all_goals
     go_meet
     case rel =>
       first
         | (have hif : ¬ c = 1 := by first | assumption | omega
            rw [if_neg hif] at x1; exact ⟨rfl, _, _, rfl, x1⟩)
         | (have hif : c = 1 := by assumption
            subst hif; exact ⟨rfl, _, _, rfl, x1⟩)
         | exact ⟨rfl, _, _, rfl, x1⟩
         | omega
 clear x1; obtain ⟨rfl, A1, c1, rfl, x1⟩ := hcut; go_wp2_with fail; have xt1 := (x1.ob (b := xb1) 0 rfl).k 0 rfl; have g01 := (x1.nf 2 rfl).n.k 0 rfl
 go_region_held3 (fun V => V.cell? ⟨xb1, 0, none⟩ = some vO ∧ V.cell? ⟨a.nd, 0, none⟩ = some (vI ((1 : Nat) : Int))) (go_keep) (fail)
 clear xt1 g01; go_wp2_with fail; have q1 := x1.drew.rowNil 181 7; refine (nisr_calls (q1.nf 3 rfl) 0 (by omega) (by omega)).mono ?_; rintro e2 V1 ⟨rfl, rfl⟩; have ox1 := q1.ob (b := xb1) 1 rfl; have hr1 : World.rangeAt _ xb1 1 [vI 1, vO, vN, vO, vI 1, vI 6, vO, vO, vO, vO, vE, (.slice Ai 1 ci), vO, vO, vO, vO] := ox1.range (o := 1) (vs := [vI 1, vO, vN, vO, vI 1, vI 6, vO, vO, vO, vO, vE, (.slice Ai 1 ci), vO, vO, vO, vO]) (fun j v hj => by rw [Nat.add_comm, List.getElem?_toArray, List.getElem?_cons_succ]; exact hj); have cE1 := hdd (mencode_q (q1.sl 5 rfl)); have HQ1 := hdd q1; clear q1 ox1 x1; go_wp2_with (first | ((with_reducible change wpList _ _ _ (_ :: _) _ _); refine wpList_load_mid rfl 304 (.tmp 39) rfl xb1 1 rfl [vI 1, vO, vN, vO, vI 1, vI 6, vO, vO, vO, vO, vE, (.slice Ai 1 ci), vO, vO, vO, vO] _ hr1 Tryz.underlying304 rfl mailsize ?_)); refine (cE1.out).mono ?_; rintro e2 V1a ⟨⟨bu1, rfl, hu1⟩, hb1⟩; obtain ⟨Ab1, cb1, rfl, -⟩ := (BytesAt.of_own hu1).form; have y1 := HQ1.out.bytes hb1 hu1; have xt1 := (y1.ob (b := xb1) 2 rfl).k 0 rfl; have v1 := ((y1).take [4, 4, 1, 0]); simp only [takeOut, zzD, zzE, zzF, zzG, zzH, zzI] at v1; have cS1 := hdd (nsend0_calls (sent := 0) (mark := 0) v1 (by omega) (by omega) (by omega) (by omega) (by simp) (by simp [codeQ, askC, bodyC])); clear HQ1 cE1 hu1 hb1 hr1 y1 v1; go_wp2_with fail; refine cS1.out.mono ?_; rintro e2 V1b ⟨rfl, ov1, pu1, Al1, cl1, z1⟩; clear cS1 xt1; go_wp2_with fail; rw [rounds_succ]; have s9 := ((z1).take [4, 4, 4, 0, 0, 0, 0])
 simp only [takeOut, zzD, zzE, zzF, zzG, zzH, zzI] at s9; replace s9 := s9.drop.drop.drop; clear z1; go_wp2; go_end0; exact ⟨rfl, ov1, pu1, Al1, cl1, s9⟩
theorem nposts0_calls {a : Na} {now cnt : Nat} {sv : Value} {A : Option Addr} {c : Nat} {r : List As} {w : World} (hnow : now ≤ 10) (h : St (WayA 306 17 (.slice A 1 c) 1 (postQ 0 11 sv) :: NodeB a 0 now cnt vN :: DeskO a.dk 0 :: RegA a.rg 0 [] :: EndA a.e1 [] 0 1 :: ItmA sv :: r) w) :
   Calls Tryz.prog 181 #[ptr a.nd, .slice A 1 c] w fun e w' => e = .returned (.tuple #[]) ∧ ∃ ov' u1 u2 A1 c1 A2 c2, St (NodeB a 0 now cnt ov' :: EndA a.e1 [(1, .slice A1 codeN.length c1, 1, (now : Int) + 2), (2, .slice A2 codeY.length c2, 1, (now : Int) + 2)] 2 1 :: RowA 181 7 ov' 2 (sentP 1 u1 ++ sentP 1 u2) :: BytesA u1 (pkC 1 1 codeN) :: BytesA u2 (pkC 2 1 codeY) :: DeskA a.dk 0 :: RegA a.rg 0 stk1 :: r) w' := by
 obtain ⟨postI, hpostI⟩ : ∃ i, Tryz.prog.info? 306 = some i := ⟨_, rfl⟩; obtain ⟨Ai, ci, rfl, -⟩ := itm_form (h.sl 5 rfl)
 go_enter Tryz.func181, Tryz.ntmps181
 go_wp2; refine wp_loop_rounds 6 ?_; rw [rounds_succ]; obtain ⟨g1, off1, rfl, hc1, hr1, t1⟩ := St.whead (n := 0) (p := [vO, vI 11, vO, vN, vO, vI 1, vI 6, vO, vO, vO, vO, vE, (.slice Ai 1 ci), vO, vO, vO, vO]) (xs := []) h rfl; have x1 := t1.obNew 306 #[vO, vI 11, vO, vN, vO, vI 1, vI 6, vO, vO, vO, vO, vE, (.slice Ai 1 ci), vO, vO, vO, vO]; clear h
 go_upto_region 2 with (first | ((with_reducible change wpList _ _ _ (_ :: _) _ _); refine wpList_load_mid rfl 306 (.tmp 11) rfl g1 off1 rfl [vO, vI 11, vO, vN, vO, vI 1, vI 6, vO, vO, vO, vO, vE, (.slice Ai 1 ci), vO, vO, vO, vO] _ hr1 Tryz.underlying306 rfl postsize ?_))
 obtain ⟨xb1, hxb1⟩ : ∃ xb, xb = w.heap.size := ⟨_, rfl⟩; simp only [← hxb1]; rw [← hxb1] at x1; generalize hWd : w.alloc (.cells #[vO, vI 11, vO, vN, vO, vI 1, vI 6, vO, vO, vO, vO, vE, (.slice Ai 1 ci), vO, vO, vO, vO] 306) = W1 at *; clear hWd hxb1 t1 hr1
 go_cut [1] (fun v V => V = W1 ∧ ∃ B k, v = .slice B 0 k ∧ St (ObA xb1 306 #[vO, vI 11, vO, vN, vO, vI 1, vI 6, vO, vO, vO, vO, vE, (.slice Ai 1 ci), vO, vO, vO, vO] :: WayA 306 17 (.slice B 0 k) 0 ([]) :: NodeB a 0 now cnt vN :: DeskO a.dk 0 :: RegA a.rg 0 [] :: EndA a.e1 [] 0 1 :: ItmA (.slice Ai 1 ci) :: r) W1)
 case first =>
   go_wp2_with fail
   all_goals
     go_meet
     case rel =>
       first
         | (have hif : ¬ c = 1 := by first | assumption | omega
            rw [if_neg hif] at x1; exact ⟨rfl, _, _, rfl, x1⟩)
         | (have hif : c = 1 := by assumption
            subst hif; exact ⟨rfl, _, _, rfl, x1⟩)
         | exact ⟨rfl, _, _, rfl, x1⟩
         | omega
 clear x1; obtain ⟨rfl, A1, c1, rfl, x1⟩ := hcut; go_wp2_with fail; have xt1 := (x1.ob (b := xb1) 0 rfl).k 0 rfl; have g01 := (x1.nf 2 rfl).n.k 0 rfl
 go_region_held3 (fun V => V.cell? ⟨xb1, 0, none⟩ = some vO ∧ V.cell? ⟨a.nd, 0, none⟩ = some (vI ((0 : Nat) : Int))) (go_keep) (fail)
 clear xt1 g01; go_wp2_with fail
 as_aux_lemma =>
   replace x1 := x1.drew; generalize hWd : wc.drew = U1 at *; clear hWd; have t1 := ((x1.drew).take [2, 3, 4]); simp only [takeOut, zzD, zzE, zzF, zzG, zzH, zzI] at t1; have cT1 := hdd (ntaked_calls t1); clear t1; have oXx := x1.ob (b := xb1) 0 rfl; have e1 := oXx.k 1 rfl; have e2 := oXx.k 2 rfl; have e3 := oXx.k 3 rfl; have e4 := oXx.k 4 rfl; have e5 := oXx.k 5 rfl; have e6 := oXx.k 6 rfl; have e7 := oXx.k 7 rfl; have e8 := oXx.k 8 rfl; have e9 := oXx.k 9 rfl; have e10 := oXx.k 10 rfl; have e11 := oXx.k 11 rfl; have e12 := oXx.k 12 rfl; have e13 := oXx.k 13 rfl; have e14 := oXx.k 14 rfl; have e15 := oXx.k 15 rfl; have e16 := oXx.k 16 rfl; have n0 := (x1.nf 2 rfl).n.k 0 rfl; have HX1 := hdd x1; clear x1 oXx; obtain ⟨iA, hiA, hzA0, hzA1, hzA2⟩ := inf3 post_info
   go_region_held3 (fun V => V.cell? ⟨xb1, 1, none⟩ = some (vI 11) ∧ V.cell? ⟨xb1, 2, none⟩ = some vO ∧ V.cell? ⟨xb1, 3, none⟩ = some vN ∧ V.cell? ⟨xb1, 4, none⟩ = some vO ∧ V.cell? ⟨xb1, 5, none⟩ = some (vI 1) ∧ V.cell? ⟨xb1, 6, none⟩ = some (vI 6) ∧ V.cell? ⟨xb1, 7, none⟩ = some vO ∧ V.cell? ⟨xb1, 8, none⟩ = some vO ∧ V.cell? ⟨xb1, 9, none⟩ = some vO ∧ V.cell? ⟨xb1, 10, none⟩ = some vO ∧ V.cell? ⟨xb1, 11, none⟩ = some vE ∧ V.cell? ⟨xb1, 12, none⟩ = some ((.slice Ai 1 ci)) ∧ V.cell? ⟨xb1, 13, none⟩ = some vO ∧ V.cell? ⟨xb1, 14, none⟩ = some vO ∧ V.cell? ⟨xb1, 15, none⟩ = some vO ∧ V.cell? ⟨xb1, 16, none⟩ = some vO ∧ V.cell? ⟨a.nd, 0, none⟩ = some (vI ((0 : Nat) : Int))) (first | ((try dsimp only); refine ⟨?_, ?_, ?_, ?_, ?_, ?_, ?_, ?_, ?_, ?_, ?_, ?_, ?_, ?_, ?_, ?_, ?_⟩ <;> assumption) | go_keep) ((first
       | (go_at_call 185; (with_reducible refine (cT1.out).mono ?_); rintro e2 V1 ⟨v1, rfl, s3⟩); obtain ⟨B1, d1, rfl, -⟩ := (Sl.of_own (s3.own 0 rfl)).at_; have s4 := ((s3).take [3, 3, 2, 2, 1, 1, 0]); simp only [takeOut, zzD, zzE, zzF, zzG, zzH, zzI] at s4; have oXx := s4.ob (b := xb1) 0 rfl; have e1 := oXx.k 1 rfl; have e2 := oXx.k 2 rfl; have e3 := oXx.k 3 rfl; have e4 := oXx.k 4 rfl; have e5 := oXx.k 5 rfl; have e6 := oXx.k 6 rfl; have e7 := oXx.k 7 rfl; have e8 := oXx.k 8 rfl; have e9 := oXx.k 9 rfl; have e10 := oXx.k 10 rfl; have e11 := oXx.k 11 rfl; have e12 := oXx.k 12 rfl; have e13 := oXx.k 13 rfl; have e14 := oXx.k 14 rfl; have e15 := oXx.k 15 rfl; have e16 := oXx.k 16 rfl; have n0 := (s4.nf 2 rfl).n.k 0 rfl
       | (refine step_append_way (o := ⟨some 32, _, _, _, _, _⟩) (by rfl) (.tmp 23) (.tmp 31) 143 (by rfl) 306 iA _ 17 176 Tryz.underlying143 hiA hzA0 hzA1 hzA2 (by rfl) (.slice A1 0 c1) 0 [] (by rfl) (s4.wayAt 1 rfl) _ _ _ 3 (postY 0 12 ++ (postN 0 ++ postN 1)) (by omega) (by rfl) (Sl.of_own (s4.own 6 rfl)) (by simp [Value.oneCell']) (by unfold maxLen; omega) (by omega) ?_; intro v1 Z1 hv1 hg1 hat1; (try simp only [Nat.zero_add, List.nil_append] at hv1); obtain ⟨D1, f1, hv9, -⟩ := hv1.form; subst hv9; have r1 := (s4.front 1 rfl).way hv1 hg1 hat1; have oXx := r1.ob (b := xb1) 1 rfl; have e1 := oXx.k 1 rfl; have e2 := oXx.k 2 rfl; have e3 := oXx.k 3 rfl; have e4 := oXx.k 4 rfl; have e5 := oXx.k 5 rfl; have e6 := oXx.k 6 rfl; have e7 := oXx.k 7 rfl; have e8 := oXx.k 8 rfl; have e9 := oXx.k 9 rfl; have e10 := oXx.k 10 rfl; have e11 := oXx.k 11 rfl; have e12 := oXx.k 12 rfl; have e13 := oXx.k 13 rfl; have e14 := oXx.k 14 rfl; have e15 := oXx.k 15 rfl; have e16 := oXx.k 16 rfl; have n0 := (r1.nf 2 rfl).n.k 0 rfl)))
   clear s3 s4 hv1 hg1 hat1 hiA hzA0 hzA1 hzA2 cT1 oXx n0 e1 e2 e3 e4 e5 e6 e7 e8 e9 e10 e11 e12 e13 e14 e15 e16; go_wp2_with fail
   as_aux_lemma =>
     rw [rounds_succ]; have h2 := ((r1).take [1, 5, 0, 0, 0, 0, 0]); simp only [takeOut, zzD, zzE, zzF, zzG, zzH, zzI] at h2; replace h2 := h2.drop.drop; clear r1; obtain ⟨g2, off2, rfl, hc2, hr2, t2⟩ := St.whead (n := 2) (p := [vO, vI 12, vO, vN, vO, vO, vO, vO, vO, vO, vO, vE, vN, vO, vI 1, vO, vO]) (xs := (postN 0 ++ postN 1)) h2 rfl; have x2 := t2.obNew 306 #[vO, vI 12, vO, vN, vO, vO, vO, vO, vO, vO, vO, vE, vN, vO, vI 1, vO, vO]; clear h2
     go_upto_region 2 with (first | ((with_reducible change wpList _ _ _ (_ :: _) _ _); refine wpList_load_mid rfl 306 (.tmp 11) rfl g2 off2 rfl [vO, vI 12, vO, vN, vO, vO, vO, vO, vO, vO, vO, vE, vN, vO, vI 1, vO, vO] _ hr2 Tryz.underlying306 rfl postsize ?_))
     obtain ⟨xb2, hxb2⟩ : ∃ xb, xb = Z1.heap.size := ⟨_, rfl⟩; simp only [← hxb2]; rw [← hxb2] at x2; generalize hWd : Z1.alloc (.cells #[vO, vI 12, vO, vN, vO, vO, vO, vO, vO, vO, vO, vE, vN, vO, vI 1, vO, vO] 306) = W2 at *; clear hWd hxb2 t2 hr2
     go_cut [1] (fun v V => V = W2 ∧ ∃ B k, v = .slice B 2 k ∧ St (ObA xb2 306 #[vO, vI 12, vO, vN, vO, vO, vO, vO, vO, vO, vO, vE, vN, vO, vI 1, vO, vO] :: WayA 306 17 (.slice B 2 k) 2 ((postN 0 ++ postN 1)) :: NodeB a 0 now cnt vN :: DeskO a.dk 0 :: RegA a.rg 0 stk1 :: EndA a.e1 [] 0 1 :: r) W2)
     case first =>
       go_wp2_with fail
       all_goals
         go_meet
         case rel =>
           first
             | (have hif : ¬ f1 = 1 := by first | assumption | omega
                rw [if_neg hif] at x2; exact ⟨rfl, _, _, rfl, x2⟩)
             | (have hif : f1 = 1 := by assumption
                subst hif; exact ⟨rfl, _, _, rfl, x2⟩)
             | exact ⟨rfl, _, _, rfl, x2⟩
             | omega
     clear x2; obtain ⟨rfl, A2, c2, rfl, x2⟩ := hcut; go_wp2_with fail; have xt2 := (x2.ob (b := xb2) 0 rfl).k 0 rfl; have g02 := (x2.nf 2 rfl).n.k 0 rfl
     go_region_held3 (fun V => V.cell? ⟨xb2, 0, none⟩ = some vO ∧ V.cell? ⟨a.nd, 0, none⟩ = some (vI ((0 : Nat) : Int))) (go_keep) (fail)
     clear xt2 g02; go_wp2_with fail
     as_aux_lemma =>
       replace x2 := x2.drew; generalize hWd : wc.drew = U2 at *; clear hWd; have t2 := ((x2.drew).take [2, 2]); simp only [takeOut, zzD, zzE, zzF, zzG, zzH, zzI] at t2; have cT2 := hdd (ntakey_calls t2); clear t2; have oXx := x2.ob (b := xb2) 0 rfl; have e1 := oXx.k 1 rfl; have e2 := oXx.k 2 rfl; have e3 := oXx.k 3 rfl; have e4 := oXx.k 4 rfl; have e5 := oXx.k 5 rfl; have e6 := oXx.k 6 rfl; have e7 := oXx.k 7 rfl; have e8 := oXx.k 8 rfl; have e9 := oXx.k 9 rfl; have e10 := oXx.k 10 rfl; have e11 := oXx.k 11 rfl; have e12 := oXx.k 12 rfl; have e13 := oXx.k 13 rfl; have e14 := oXx.k 14 rfl; have e15 := oXx.k 15 rfl; have e16 := oXx.k 16 rfl; have n0 := (x2.nf 2 rfl).n.k 0 rfl; have HX2 := hdd x2; clear x2 oXx; obtain ⟨iA, hiA, hzA0, hzA1, hzA2⟩ := inf3 post_info
       go_region_held3 (fun V => V.cell? ⟨xb2, 1, none⟩ = some (vI 12) ∧ V.cell? ⟨xb2, 2, none⟩ = some vO ∧ V.cell? ⟨xb2, 3, none⟩ = some vN ∧ V.cell? ⟨xb2, 4, none⟩ = some vO ∧ V.cell? ⟨xb2, 5, none⟩ = some vO ∧ V.cell? ⟨xb2, 6, none⟩ = some vO ∧ V.cell? ⟨xb2, 7, none⟩ = some vO ∧ V.cell? ⟨xb2, 8, none⟩ = some vO ∧ V.cell? ⟨xb2, 9, none⟩ = some vO ∧ V.cell? ⟨xb2, 10, none⟩ = some vO ∧ V.cell? ⟨xb2, 11, none⟩ = some vE ∧ V.cell? ⟨xb2, 12, none⟩ = some vN ∧ V.cell? ⟨xb2, 13, none⟩ = some vO ∧ V.cell? ⟨xb2, 14, none⟩ = some (vI 1) ∧ V.cell? ⟨xb2, 15, none⟩ = some vO ∧ V.cell? ⟨xb2, 16, none⟩ = some vO ∧ V.cell? ⟨a.nd, 0, none⟩ = some (vI ((0 : Nat) : Int))) (first | ((try dsimp only); refine ⟨?_, ?_, ?_, ?_, ?_, ?_, ?_, ?_, ?_, ?_, ?_, ?_, ?_, ?_, ?_, ?_, ?_⟩ <;> assumption) | go_keep) ((first
           | (go_at_call 185; (with_reducible refine (cT2.out).mono ?_); rintro e2 V2 ⟨v2, rfl, s3⟩); obtain ⟨B2, d2, rfl, -⟩ := (Sl.of_own (s3.own 0 rfl)).at_; have s4 := ((s3).take [3, 3, 2, 1, 1, 1, 0]); simp only [takeOut, zzD, zzE, zzF, zzG, zzH, zzI] at s4; have oXx := s4.ob (b := xb2) 0 rfl; have e1 := oXx.k 1 rfl; have e2 := oXx.k 2 rfl; have e3 := oXx.k 3 rfl; have e4 := oXx.k 4 rfl; have e5 := oXx.k 5 rfl; have e6 := oXx.k 6 rfl; have e7 := oXx.k 7 rfl; have e8 := oXx.k 8 rfl; have e9 := oXx.k 9 rfl; have e10 := oXx.k 10 rfl; have e11 := oXx.k 11 rfl; have e12 := oXx.k 12 rfl; have e13 := oXx.k 13 rfl; have e14 := oXx.k 14 rfl; have e15 := oXx.k 15 rfl; have e16 := oXx.k 16 rfl; have n0 := (s4.nf 2 rfl).n.k 0 rfl
           | (refine step_append_way (o := ⟨some 32, _, _, _, _, _⟩) (by rfl) (.tmp 23) (.tmp 31) 143 (by rfl) 306 iA _ 17 176 Tryz.underlying143 hiA hzA0 hzA1 hzA2 (by rfl) (.slice A2 2 c2) 2 (postN 0 ++ postN 1) (by rfl) (s4.wayAt 1 rfl) _ _ _ 1 (postY 1 2) (by omega) (by rfl) (Sl.of_own (s4.own 6 rfl)) (by simp [Value.oneCell']) (by unfold maxLen; omega) (by omega) ?_; intro v1 Z2 hv1 hg1 hat1; (try simp only [Nat.zero_add, List.nil_append] at hv1); obtain ⟨D2, f2, hv9, -⟩ := hv1.form; subst hv9; have r2 := (s4.front 1 rfl).way hv1 hg1 hat1; have oXx := r2.ob (b := xb2) 1 rfl; have e1 := oXx.k 1 rfl; have e2 := oXx.k 2 rfl; have e3 := oXx.k 3 rfl; have e4 := oXx.k 4 rfl; have e5 := oXx.k 5 rfl; have e6 := oXx.k 6 rfl; have e7 := oXx.k 7 rfl; have e8 := oXx.k 8 rfl; have e9 := oXx.k 9 rfl; have e10 := oXx.k 10 rfl; have e11 := oXx.k 11 rfl; have e12 := oXx.k 12 rfl; have e13 := oXx.k 13 rfl; have e14 := oXx.k 14 rfl; have e15 := oXx.k 15 rfl; have e16 := oXx.k 16 rfl; have n0 := (r2.nf 2 rfl).n.k 0 rfl)))
       clear s3 s4 hv1 hg1 hat1 hiA hzA0 hzA1 hzA2 cT2 oXx n0 e1 e2 e3 e4 e5 e6 e7 e8 e9 e10 e11 e12 e13 e14 e15 e16; rw [List.append_assoc] at r2; go_wp2_with fail
       as_aux_lemma =>
         rw [rounds_succ]; have h3 := ((r2).take [1, 5, 0, 0, 0, 0, 0]); simp only [takeOut, zzD, zzE, zzF, zzG, zzH, zzI] at h3; replace h3 := h3.drop.drop; clear r2; obtain ⟨g3, off3, rfl, hc3, hr3, t3⟩ := St.whead (n := 2) (p := [vO, vI 14, vO, vN, vO, vO, vO, vO, vO, vO, vO, vE, vN, vO, vO, vO, vO]) (xs := (postN 1 ++ postY 1 2)) h3 rfl; have x3 := t3.obNew 306 #[vO, vI 14, vO, vN, vO, vO, vO, vO, vO, vO, vO, vE, vN, vO, vO, vO, vO]; clear h3
         go_upto_region 2 with (first | ((with_reducible change wpList _ _ _ (_ :: _) _ _); refine wpList_load_mid rfl 306 (.tmp 11) rfl g3 off3 rfl [vO, vI 14, vO, vN, vO, vO, vO, vO, vO, vO, vO, vE, vN, vO, vO, vO, vO] _ hr3 Tryz.underlying306 rfl postsize ?_))
         obtain ⟨xb3, hxb3⟩ : ∃ xb, xb = Z2.heap.size := ⟨_, rfl⟩; simp only [← hxb3]; rw [← hxb3] at x3; generalize hWd : Z2.alloc (.cells #[vO, vI 14, vO, vN, vO, vO, vO, vO, vO, vO, vO, vE, vN, vO, vO, vO, vO] 306) = W3 at *; clear hWd hxb3 t3 hr3
         go_cut [1] (fun v V => V = W3 ∧ ∃ B k, v = .slice B 2 k ∧ St (ObA xb3 306 #[vO, vI 14, vO, vN, vO, vO, vO, vO, vO, vO, vO, vE, vN, vO, vO, vO, vO] :: WayA 306 17 (.slice B 2 k) 2 ((postN 1 ++ postY 1 2)) :: NodeB a 0 now cnt vN :: DeskA a.dk 0 :: RegA a.rg 0 stk1 :: EndA a.e1 [] 0 1 :: r) W3)
         case first =>
           go_wp2_with fail
           all_goals
             go_meet
             case rel =>
               first
                 | (have hif : ¬ f2 = 1 := by first | assumption | omega
                    rw [if_neg hif] at x3; exact ⟨rfl, _, _, rfl, x3⟩)
                 | (have hif : f2 = 1 := by assumption
                    subst hif; exact ⟨rfl, _, _, rfl, x3⟩)
                 | exact ⟨rfl, _, _, rfl, x3⟩
                 | omega
         clear x3; obtain ⟨rfl, A3, c3, rfl, x3⟩ := hcut; go_wp2_with fail; have xt3 := (x3.ob (b := xb3) 0 rfl).k 0 rfl; have g03 := (x3.nf 2 rfl).n.k 0 rfl
         go_region_held3 (fun V => V.cell? ⟨xb3, 0, none⟩ = some vO ∧ V.cell? ⟨a.nd, 0, none⟩ = some (vI ((0 : Nat) : Int))) (go_keep) (fail)
         clear xt3 g03; go_wp2_with fail
         as_aux_lemma =>
           obtain ⟨gq3, oq3, rfl, hq3⟩ := St.wsome (n := 1) x3 1 rfl; replace x3 := x3.drew; generalize hWd : wc.drew = U3 at *; clear hWd; have t3 := ((x3.drew).take [2, 2]); simp only [takeOut, zzD, zzE, zzF, zzG, zzH, zzI] at t3; have cT3 := hdd (ntaken_calls (fr := 0) t3 (by omega) (by omega)); clear t3; have oXx := x3.ob (b := xb3) 0 rfl; have e1 := oXx.k 1 rfl; have e2 := oXx.k 2 rfl; have e3 := oXx.k 3 rfl; have e4 := oXx.k 4 rfl; have e5 := oXx.k 5 rfl; have e6 := oXx.k 6 rfl; have e7 := oXx.k 7 rfl; have e8 := oXx.k 8 rfl; have e9 := oXx.k 9 rfl; have e10 := oXx.k 10 rfl; have e11 := oXx.k 11 rfl; have e12 := oXx.k 12 rfl; have e13 := oXx.k 13 rfl; have e14 := oXx.k 14 rfl; have e15 := oXx.k 15 rfl; have e16 := oXx.k 16 rfl; have n0 := (x3.nf 2 rfl).n.k 0 rfl; have HX3 := hdd x3; clear x3 oXx
           go_region_held3 (fun V => V.cell? ⟨xb3, 1, none⟩ = some (vI 14) ∧ V.cell? ⟨xb3, 2, none⟩ = some vO ∧ V.cell? ⟨xb3, 3, none⟩ = some vN ∧ V.cell? ⟨xb3, 4, none⟩ = some vO ∧ V.cell? ⟨xb3, 5, none⟩ = some vO ∧ V.cell? ⟨xb3, 6, none⟩ = some vO ∧ V.cell? ⟨xb3, 7, none⟩ = some vO ∧ V.cell? ⟨xb3, 8, none⟩ = some vO ∧ V.cell? ⟨xb3, 9, none⟩ = some vO ∧ V.cell? ⟨xb3, 10, none⟩ = some vO ∧ V.cell? ⟨xb3, 11, none⟩ = some vE ∧ V.cell? ⟨xb3, 12, none⟩ = some vN ∧ V.cell? ⟨xb3, 13, none⟩ = some vO ∧ V.cell? ⟨xb3, 14, none⟩ = some vO ∧ V.cell? ⟨xb3, 15, none⟩ = some vO ∧ V.cell? ⟨xb3, 16, none⟩ = some vO ∧ V.cell? ⟨a.nd, 0, none⟩ = some (vI ((0 : Nat) : Int))) (first | ((try dsimp only); refine ⟨?_, ?_, ?_, ?_, ?_, ?_, ?_, ?_, ?_, ?_, ?_, ?_, ?_, ?_, ?_, ?_, ?_⟩ <;> assumption) | go_keep) ((first | (go_at_call 185; (with_reducible refine (cT3.out).mono ?_); rintro e2 V3 ⟨rfl, s3⟩); have s4 := ((s3).take [2, 2, 1, 0, 0, 0]); simp only [takeOut, zzD, zzE, zzF, zzG, zzH, zzI] at s4; have oXx := s4.ob (b := xb3) 0 rfl; have e1 := oXx.k 1 rfl; have e2 := oXx.k 2 rfl; have e3 := oXx.k 3 rfl; have e4 := oXx.k 4 rfl; have e5 := oXx.k 5 rfl; have e6 := oXx.k 6 rfl; have e7 := oXx.k 7 rfl; have e8 := oXx.k 8 rfl; have e9 := oXx.k 9 rfl; have e10 := oXx.k 10 rfl; have e11 := oXx.k 11 rfl; have e12 := oXx.k 12 rfl; have e13 := oXx.k 13 rfl; have e14 := oXx.k 14 rfl; have e15 := oXx.k 15 rfl; have e16 := oXx.k 16 rfl; have n0 := (s4.nf 2 rfl).n.k 0 rfl; have hzz := fun ty => append_none (P := Tryz.prog) 143 306 ty postI Tryz.underlying143 hpostI gq3 oq3 2 c3 hq3 V3))
           have r3 := s4; clear s3 s4 hzz cT3 oXx n0 e1 e2 e3 e4 e5 e6 e7 e8 e9 e10 e11 e12 e13 e14 e15 e16; go_wp2_with fail
           as_aux_lemma =>
             rw [rounds_succ]; have h4 := ((r3).take [0, 0, 0, 0, 0, 0]); simp only [takeOut, zzD, zzE, zzF, zzG, zzH, zzI] at h4; replace h4 := h4.drop; clear r3; obtain ⟨g4, off4, eA, hc4, hr4, t4⟩ := St.whead (n := 1) (p := [vI 1, vI 14, vO, vN, vO, vO, vO, vO, vO, vO, vO, vE, vN, vO, vO, vO, vO]) (xs := (postY 1 2)) h4 rfl; obtain ⟨rfl, rfl⟩ : g4 = gq3 ∧ off4 = oq3 := by cases eA; exact ⟨rfl, rfl⟩
             clear eA; have x4 := t4.obNew 306 #[vI 1, vI 14, vO, vN, vO, vO, vO, vO, vO, vO, vO, vE, vN, vO, vO, vO, vO]; clear h4
             go_upto_region 2 with (first | ((with_reducible change wpList _ _ _ (_ :: _) _ _); refine wpList_load_mid rfl 306 (.tmp 11) rfl g4 off4 rfl [vI 1, vI 14, vO, vN, vO, vO, vO, vO, vO, vO, vO, vE, vN, vO, vO, vO, vO] _ hr4 Tryz.underlying306 rfl postsize ?_))
             obtain ⟨xb4, hxb4⟩ : ∃ xb, xb = V3.heap.size := ⟨_, rfl⟩; simp only [← hxb4]; rw [← hxb4] at x4; generalize hWd : V3.alloc (.cells #[vI 1, vI 14, vO, vN, vO, vO, vO, vO, vO, vO, vO, vE, vN, vO, vO, vO, vO] 306) = W4 at *; clear hWd hxb4 t4 hr4
             go_cut [1] (fun v V => V = W4 ∧ ∃ B k, v = .slice B 1 k ∧ St (ObA xb4 306 #[vI 1, vI 14, vO, vN, vO, vO, vO, vO, vO, vO, vO, vE, vN, vO, vO, vO, vO] :: WayA 306 17 (.slice B 1 k) 1 ((postY 1 2)) :: NodeB a 0 now cnt vN :: DeskA a.dk 0 :: RegA a.rg 0 stk1 :: EndA a.e1 [] 0 1 :: r) W4)
             case first =>
               go_wp2_with fail
               all_goals
                 go_meet
                 case rel =>
                   first
                     | (have hif : ¬ c3 = 1 := by first | assumption | omega
                        rw [if_neg hif] at x4; exact ⟨rfl, _, _, rfl, x4⟩)
                     | (have hif : c3 = 1 := by assumption
                        subst hif; exact ⟨rfl, _, _, rfl, x4⟩)
                     | exact ⟨rfl, _, _, rfl, x4⟩
                     | omega
             clear x4; obtain ⟨rfl, A4, c4, rfl, x4⟩ := hcut; go_wp2_with fail; have xt4 := (x4.ob (b := xb4) 0 rfl).k 0 rfl; have g04 := (x4.nf 2 rfl).n.k 0 rfl
             go_region_held3 (fun V => V.cell? ⟨xb4, 0, none⟩ = some (vI 1) ∧ V.cell? ⟨a.nd, 0, none⟩ = some (vI ((0 : Nat) : Int))) (go_keep) (fail)
             clear xt4 g04; go_wp2_with fail
             as_aux_lemma =>
               have q4 := x4.drew.rowNil 181 7; refine (nisr_calls (q4.nf 3 rfl) 1 (by omega) (by omega)).mono ?_; rintro e2 V4 ⟨rfl, rfl⟩; have ox4 := q4.ob (b := xb4) 1 rfl; have hr4 : World.rangeAt _ xb4 1 [vI 14, vO, vN, vO, vO, vO, vO, vO, vO, vO, vE, vN, vO, vO, vO, vO] := ox4.range (o := 1) (vs := [vI 14, vO, vN, vO, vO, vO, vO, vO, vO, vO, vE, vN, vO, vO, vO, vO]) (fun j v hj => by rw [Nat.add_comm, List.getElem?_toArray, List.getElem?_cons_succ]; exact hj); have cE4 := hdd (fun W => mencode_n W); have HQ4 := hdd q4; clear q4 ox4 x4; go_wp2_with (first | ((with_reducible change wpList _ _ _ (_ :: _) _ _); refine wpList_load_mid rfl 304 (.tmp 39) rfl xb4 1 rfl [vI 14, vO, vN, vO, vO, vO, vO, vO, vO, vO, vE, vN, vO, vO, vO, vO] _ hr4 Tryz.underlying304 rfl mailsize ?_)); refine (cE4.out _).mono ?_; rintro e2 V4a ⟨⟨bu4, rfl, hu4⟩, hb4⟩; obtain ⟨Ab4, cb4, rfl, -⟩ := (BytesAt.of_own hu4).form; have y4 := HQ4.out.bytes hb4 hu4; have xt4 := (y4.ob (b := xb4) 2 rfl).k 0 rfl; have v4 := ((y4).take [4, 6, 1, 0]); simp only [takeOut, zzD, zzE, zzF, zzG, zzH, zzI] at v4; have cS4 := hdd (nsend1_calls (sent := 0) (mark := 1) v4 (by omega) (by omega) (by omega) (by omega) (by simp) (by simp [codeN, askC, bodyC])); clear HQ4 cE4 hu4 hb4 hr4 y4 v4; go_wp2_with fail; refine cS4.out.mono ?_; rintro e2 V4b ⟨rfl, ov4, pu4, Al4, cl4, z4⟩; clear cS4 xt4; go_wp2_with fail
               as_aux_lemma =>
                 rw [rounds_succ]; clear hc1 hc2 hc3 hq3; have h5 := ((z4).take [4, 4, 0, 0, 0, 0, 0, 0]); simp only [takeOut, zzD, zzE, zzF, zzG, zzH, zzI] at h5; replace h5 := h5.drop; clear z4; obtain ⟨g5, off5, rfl, hc5, hr5, t5⟩ := St.whead (n := 0) (p := [vI 1, vI 2, vO, vN, vO, vO, vO, vO, vO, vO, vO, vE, vN, vO, vI 1, vO, vO]) (xs := []) h5 rfl; have x5 := t5.obNew 306 #[vI 1, vI 2, vO, vN, vO, vO, vO, vO, vO, vO, vO, vE, vN, vO, vI 1, vO, vO]; clear h5
                 go_upto_region 2 with (first | ((with_reducible change wpList _ _ _ (_ :: _) _ _); refine wpList_load_mid rfl 306 (.tmp 11) rfl g5 off5 rfl [vI 1, vI 2, vO, vN, vO, vO, vO, vO, vO, vO, vO, vE, vN, vO, vI 1, vO, vO] _ hr5 Tryz.underlying306 rfl postsize ?_))
                 obtain ⟨xb5, hxb5⟩ : ∃ xb, xb = V4b.heap.size := ⟨_, rfl⟩; simp only [← hxb5]; rw [← hxb5] at x5; generalize hWd : V4b.alloc (.cells #[vI 1, vI 2, vO, vN, vO, vO, vO, vO, vO, vO, vO, vE, vN, vO, vI 1, vO, vO] 306) = W5 at *; clear hWd hxb5 t5 hr5
                 go_cut [1] (fun v V => V = W5 ∧ ∃ B k, v = .slice B 0 k ∧ St (ObA xb5 306 #[vI 1, vI 2, vO, vN, vO, vO, vO, vO, vO, vO, vO, vE, vN, vO, vI 1, vO, vO] :: WayA 306 17 (.slice B 0 k) 0 ([]) :: NodeB a 0 now cnt ov4 :: EndA a.e1 [(1, .slice Al4 codeN.length cl4, 1, (now : Int) + 2)] 1 1 :: RowA 181 7 ov4 1 (sentP 1 pu4) :: BytesA pu4 (pkC 1 1 codeN) :: DeskA a.dk 0 :: RegA a.rg 0 stk1 :: r) W5)
                 case first =>
                   go_wp2_with fail
                   all_goals
                     go_meet
                     case rel =>
                       first
                         | (have hif : ¬ c4 = 1 := by first | assumption | omega
                            rw [if_neg hif] at x5; exact ⟨rfl, _, _, rfl, x5⟩)
                         | (have hif : c4 = 1 := by assumption
                            subst hif; exact ⟨rfl, _, _, rfl, x5⟩)
                         | exact ⟨rfl, _, _, rfl, x5⟩
                         | omega
                 clear x5; obtain ⟨rfl, A5, c5, rfl, x5⟩ := hcut; go_wp2_with fail; have xt5 := (x5.ob (b := xb5) 0 rfl).k 0 rfl; have g05 := (x5.nf 2 rfl).n.k 0 rfl
                 go_region_held3 (fun V => V.cell? ⟨xb5, 0, none⟩ = some (vI 1) ∧ V.cell? ⟨a.nd, 0, none⟩ = some (vI ((0 : Nat) : Int))) (go_keep) (fail)
                 clear xt5 g05; go_wp2_with fail
                 as_aux_lemma =>
                   replace x5 := x5.drew; refine (nisr_calls (x5.nf 2 rfl) 1 (by omega) (by omega)).mono ?_; rintro e2 V5 ⟨rfl, rfl⟩; have ox5 := x5.ob (b := xb5) 0 rfl; have hr5 : World.rangeAt _ xb5 1 [vI 2, vO, vN, vO, vO, vO, vO, vO, vO, vO, vE, vN, vO, vI 1, vO, vO] := ox5.range (o := 1) (vs := [vI 2, vO, vN, vO, vO, vO, vO, vO, vO, vO, vE, vN, vO, vI 1, vO, vO]) (fun j v hj => by rw [Nat.add_comm, List.getElem?_toArray, List.getElem?_cons_succ]; exact hj); have cE5 := hdd (fun W => mencode_y W); have HQ5 := hdd x5; clear x5 ox5; go_wp2_with (first | ((with_reducible change wpList _ _ _ (_ :: _) _ _); refine wpList_load_mid rfl 304 (.tmp 39) rfl xb5 1 rfl [vI 2, vO, vN, vO, vO, vO, vO, vO, vO, vO, vE, vN, vO, vI 1, vO, vO] _ hr5 Tryz.underlying304 rfl mailsize ?_)); refine (cE5.out _).mono ?_; rintro e2 V5a ⟨⟨bu5, rfl, hu5⟩, hb5⟩; obtain ⟨Ab5, cb5, rfl, -⟩ := (BytesAt.of_own hu5).form; have y5 := HQ5.out.bytes hb5 hu5; have xt5 := (y5.ob (b := xb5) 1 rfl).k 0 rfl; have v5 := ((y5).take [3, 3, 3, 0]); simp only [takeOut, zzD, zzE, zzF, zzG, zzH, zzI] at v5; have cS5 := hdd (nsend1_calls (sent := 1) (mark := 1) v5 (by omega) (by omega) (by omega) (by omega) (by simp) (by simp [codeY, askC, bodyC])); clear HQ5 cE5 hu5 hb5 hr5 y5 v5; go_wp2_with fail; refine cS5.out.mono ?_; rintro e2 V5b ⟨rfl, ov5, pu5, Al5, cl5, z5⟩; clear cS5 xt5; go_wp2_with fail; rw [rounds_succ]; have s9 := ((z5).take [4, 4, 0, 0, 0, 1, 0, 0, 0]); simp only [takeOut, zzD, zzE, zzF, zzG, zzH, zzI] at s9
                   replace s9 := s9.drop.drop; clear z5; go_wp2; go_end0; exact ⟨rfl, ov5, pu4, pu5, Al4, cl4, Al5, cl5, s9⟩
end
end Tp
end Go.Proofs.YtgcnhmjpfbbfcaaGreat
