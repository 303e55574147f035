/-
  part of the proof of TopNames.
-/
import Derived.Test.YtgcnhmjpfbbfcaaGreatTy30
set_option linter.unusedVariables false
set_option linter.unusedSimpArgs false
set_option maxRecDepth 100000
set_option maxHeartbeats 8000000
namespace Go.Proofs.YtgcnhmjpfbbfcaaGreat
namespace Tp
section
open Go.RowKit Go.Maps
open Ce It Al Kp
theorem on_ack {e : Nat} {its its' : List LItem} {sent mark ack : Int} {bv : Value} {r : List As} {w : World} (h : St (EndA e its sent mark :: BytesA bv [] :: r) w) (hd : LDel ack its its') (h3 : 0 ≤ ack) (h4 : ack ≤ 5) :
   Calls Tryz.prog 183 #[ptr e, .agg #[vO, vI ack, bv]] w fun e' w' => e' = .returned (.tuple #[vN, .bool false, .agg #[vO, vO, vN]]) ∧ St (EndA e its' sent mark :: BytesA bv [] :: r) w' := by
 obtain ⟨v, s⟩ := EndA.out h; obtain ⟨A, c, rfl, -⟩ := (s.by 2 rfl).form; obtain ⟨Av, cv, rfl, -⟩ := (Sl.of_own (s.own 1 rfl)).at_; have s2 := (s.obNew 233 #[vO, vI ack, .slice A ([] : List UInt8).length c]).obNew 233 #[vO, vO, vN]; rw [World.size_alloc] at s2; have oP := s2.ob (b := w.heap.size) 1 rfl; have p0 := oP.k 0 rfl; have p1 := oP.k 1 rfl; have p2 := oP.k 2 rfl; have cM := hdd (pmay_calls 0 ack (.slice A ([] : List UInt8).length c) [] _ 0 _ (s2.by 4 rfl) (by omega) (by omega) h3 (by omega) (by simp) (.inr rfl)); have HS := hdd s2; have HE := hdd (s.ob (b := e) 0 rfl).lt; have hmf : ∀ (fn : Fn) (first cap : Array Value) (w : World), (Instr.makeFunc fn first cap).run Tryz.prog w = .ok (.func fn first cap) w := fun _ _ _ _ => rfl
 clear h s s2 oP; simp only [List.length_nil] at *
 go_enter Tryz.func183, Tryz.ntmps183
 go_wp2_with fail; refine cM.out.mono ?_; rintro e2 W ⟨rfl, hb⟩; have s3 := HS.out.same hb; have g0 := (s3.ob (b := e) 2 rfl).k 0 rfl; have s4 := ((s3).take [3, 1, 0, 0]); simp only [takeOut, zzD, zzE, zzF, zzG, zzH, zzI] at s4; have cD := hdd (ldel_calls hd s4); clear s3 s4 cM HS hb p0 p1 p2; go_wp2_with fail; refine cD.out.mono ?_; rintro e2 W2 ⟨v', rfl, s5⟩; have oE := s5.ob (b := e) 3 rfl; have f0 := oE.frozen 0; have g0 := oE.k 0 rfl; have s6 := (s5.front 3 rfl).set 0 v'; obtain ⟨A', c', rfl, -⟩ := (Sl.of_own (s5.own 0 rfl)).at_; have p0 := (s5.ob (b := w.heap.size) 1 rfl).k 0 rfl; have oR := s6.ob (b := w.heap.size + 1) 3 rfl; have r0 := oR.k 0 rfl; have r1 := oR.k 1 rfl; have r2 := oR.k 2 rfl; have fr0 := oR.frozen 0; have fr1 := oR.frozen 1; have fr2 := oR.frozen 2
 have ne1 : w.heap.size ≠ e := by
   have h9 := (HE.out); omega
 have s9 : St (ObA (w.heap.size + 1) 233 #[vO, vO, vN] :: _) _ := (((s6.front 3 rfl).set 0 vO).set 1 vO).set 2 vN; have oR9 := s9.ob (b := w.heap.size + 1) 0 rfl; have v0 := oR9.k 0 rfl; have v1 := oR9.k 1 rfl; have v2 := oR9.k 2 rfl; have s10 := ((s9).take [0, 2, 0, 0, 0]); simp only [takeOut, zzD, zzE, zzF, zzG, zzH, zzI] at s10; replace s10 := s10.drop.drop; have s11 := EndA.mk s10 rfl rfl; clear oE s5 s6 cD HE oR oR9 s9 s10; go_wp2; refine bodyPost_ret (v := .tuple #[vN, .bool false, .agg #[vO, vO, vN]]) ?_ rfl ⟨rfl, s11⟩; simp [results, Tryz.f183, go_sem, v0, v1, v2]
theorem nposts_nil {nd : Nat} {A : Option Addr} {c : Nat} {w : World} : Calls Tryz.prog 181 #[ptr nd, .slice A 0 c] w fun e w' => e = .returned (.tuple #[]) ∧ w = w' := by
 go_enter Tryz.func181, Tryz.ntmps181
 go_wp2; refine wp_loop_rounds 1 ?_; rw [rounds_succ]; go_wp2; go_end0; exact ⟨rfl, rfl⟩
theorem nrequest_calls {a : Na} {now cnt : Nat} {sv : Value} {r : List As} {w : World} (hnow : now ≤ 10) (h : St (NodeB a 1 now cnt vN :: EndA a.e0 [] 0 0 :: ItmA sv :: r) w) :
   Calls Tryz.prog 117 #[ptr a.nd, askV sv] w fun e w' => e = .returned (.tuple #[]) ∧ ∃ ov u A c, St (NodeB a 1 now cnt ov :: EndA a.e0 [(1, .slice A codeQ.length c, 1, (now : Int) + 2)] 1 0 :: RowA 181 7 ov 1 (sentP 0 u) :: BytesA u (pkC 1 0 codeQ) :: r) w' := by
 obtain ⟨Ai, ci, rfl, -⟩ := itm_form (h.sl 2 rfl); have s1 := h.obNew 32 (askC9 (.slice Ai 1 ci)); clear h
 go_enter Tryz.func117, Tryz.ntmps117
 go_wp2_with fail; generalize hWd : w.alloc (.cells (askC9 (.slice Ai 1 ci)) 32) = W at *; clear hWd; have a0 := (s1.ob (b := w.heap.size) 0 rfl).k 0 rfl; have g1 := (s1.nf 1 rfl).n.k 1 rfl
 go_region_held3 (fun V => V.cell? ⟨w.heap.size, 0, none⟩ = some vO ∧ V.cell? ⟨a.nd, 1, none⟩ = some (vI 2)) (go_keep) ((first | (go_at_call 180; (with_reducible refine (home_calls _).mono ?_); rintro e2 V1 ⟨rfl, rfl⟩)))
 have oA := s1.drew.ob (b := w.heap.size) 0 rfl; have ⟨q0, q1, q2, q3, q4, q5, q6, q7, q8⟩ := oA.k9 rfl rfl rfl rfl rfl rfl rfl rfl rfl; have s2 := s1.drew.obNew 306 (postQ 0 1 (.slice Ai 1 ci)).toArray; have s3 : St (RowA 306 17 (.slice (some ⟨W.drew.heap.size, 0, none⟩) 1 1) 1 (postQ 0 1 (.slice Ai 1 ci)) :: _) _ := St.obRow (xs := postQ 0 1 (.slice Ai 1 ci)) (rest := []) s2 rfl (by omega) (by unfold maxLen; omega) rfl; have s4 := ((s3.rowWay).take [1, 0, 0, 0, 0]); simp only [takeOut, zzD, zzE, zzF, zzG, zzH, zzI] at s4; replace s4 := s4.drop; have cP := hdd (nposts1_calls hnow s4); clear s1 s2 s3 s4 oA a0 g1; go_wp2_with fail; refine cP.out.mono ?_; rintro e V2 ⟨rfl, ov, u, A, c, s5⟩; go_wp2; go_end0; exact ⟨rfl, _, _, _, _, s5⟩
end
end Tp
end Go.Proofs.YtgcnhmjpfbbfcaaGreat
