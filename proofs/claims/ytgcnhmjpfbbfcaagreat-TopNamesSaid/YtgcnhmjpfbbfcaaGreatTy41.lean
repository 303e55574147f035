/-
  part of the proof of TopNames.
-/
import Derived.Test.YtgcnhmjpfbbfcaaGreatTy40
set_option linter.unusedVariables false
set_option linter.unusedSimpArgs false
set_option maxRecDepth 100000
set_option maxHeartbeats 8000000
namespace Go.Proofs.YtgcnhmjpfbbfcaaGreat
namespace Tp
section
open Go.RowKit Go.Maps
open Ce It Al Kp
theorem begin_calls {r : List As} {w : World} (h : St r w) : Calls Tryz.prog 6 #[vI 2] w fun e w' => ∃ a : Wd, 2 ≤ a.nc ∧ e = .returned (ptr a.wb) ∧ St (WoA a vN vN :: LtA vN 0 [] :: NbA a :: NodeZ DeskN a.n0 0 0 0 [] 0 0 [] :: NodeU DeskN a.n1 0 0 0 [] 0 0 [] :: MapA strK 67 a.am [] :: r) w' := by
 have cN := hdd (wnew_calls h); clear h
 go_enter Tryz.func6, Tryz.ntmps6
 go_wp2_with fail; refine cN.out.mono ?_; rintro e W ⟨a, hc, rfl, s1⟩; clear cN; go_wp2; go_ret; exact ⟨a, hc, rfl, s1⟩
theorem ob_mid {w : World} {g : Nat} {t : TypeId} {pre vs post : List Value} (h : Ob w g t (pre ++ (vs ++ post)).toArray) : w.rangeAt g pre.length vs := h.range fun j v hj => by
 have hl := (List.getElem?_eq_some_iff.1 hj).1; rw [List.getElem?_toArray, List.getElem?_append_right (by omega), List.getElem?_append_left (by omega), Nat.add_sub_cancel_left]; exact hj
abbrev actQ (sv : Value) : Array Value := #[vI 8, vI 1, vO, vN, vO, vO, vO, vI 1, vI 6, vO, vO, vO, vO, vE, sv, vN]
abbrev actR : Array Value := #[vI 10, vO, vO, vN, vO, vO, vO, vO, vO, vO, vO, vO, vO, vE, vN, vN]
theorem ask_info : (Tryz.prog.info? 32).map (fun i => (i.zero, i.size, i.bytes)) = some (some ask0, 9, 96) := by kernel_rfl
theorem wtell_calls {a : Wd} {c : Nat} {A : Option Addr} {r : List As} {w : World} (hc : 2 ≤ a.nc)
   (h : St (WoA a vN vN :: LtA vN 0 [] :: NbA a :: NodeU DeskN a.n1 0 0 0 [] 0 0 [] :: ItmA (.slice A 1 c) :: r) w) :
   Calls Tryz.prog 19 #[ptr a.wb, .agg (actQ (.slice A 1 c))] w fun e w' => e = .returned vO ∧ ∃ wy ak pu, St (WoA a wy ak :: LtA wy 1 (ltr 1 0 pu) :: NbA a :: NodeU DeskN a.n1 0 1 300 [(1, 2)] 1 0 [] :: BytesA pu (pkC 1 0 codeQ) :: r) w' := by
 have s1 := h.obNew 37 (actQ (.slice A 1 c)); have hlt := (h.ob (b := a.wb) 0 rfl).lt; have hlt2 := (h.ob (b := a.nb) 2 rfl).lt; clear h
 go_enter Tryz.func19, Tryz.ntmps19
 go_wp2_with fail; generalize hWd : w.alloc (.cells (actQ (.slice A 1 c)) 37) = W at *; clear hWd; obtain ⟨ab, hab⟩ : ∃ x, x = w.heap.size := ⟨_, rfl⟩; simp only [← hab] at *; clear hab; have oA := s1.ob (b := ab) 0 rfl; have y1 := oA.k 1 rfl; have g4 := (s1.ob (b := a.wb) 1 rfl).k 4 rfl; have n1 := (s1.ob (b := a.nb) 3 rfl).k 1 rfl
 go_region_held3 (fun V => V.cell? ⟨ab, 1, none⟩ = some (vI 1) ∧ V.cell? ⟨a.wb, 4, none⟩ = some (.slice (some ⟨a.nb, 0, none⟩) 2 a.nc) ∧ V.cell? ⟨a.nb, 1, none⟩ = some (ptr a.n1)) (go_keep) (fail)
 clear y1 g4 n1 oA; have s2 := s1.drew; clear s1; generalize W.drew = W1 at *; have oA := s2.ob (b := ab) 0 rfl; have y0 := oA.k 0 rfl; have y15 := oA.k 15 rfl
 have hrg : W1.rangeAt ab 6 [vO, vI 1, vI 6, vO, vO, vO, vO, vE, .slice A 1 c] :=
   ob_mid (pre := [vI 8, vI 1, vO, vN, vO, vO]) (post := [vN]) oA
 have cE := hdd (aencode_calls (sv := .slice A 1 c) (s2.sl 5 rfl)); have S2 := hdd s2; clear oA s2; go_wp2_with (refine wpList_load_midg (by rfl) _ _ rfl rfl _ _ hrg Tryz.underlying32 rfl (by kernel_rfl) ?_); refine cE.out.mono ?_; rintro e W2 ⟨⟨bv, rfl, hbv⟩, hb2⟩; have s3 := S2.out.bytes hb2 hbv; obtain ⟨Ab, cb, rfl, -⟩ := (s3.by 0 rfl).form; clear cE S2 hb2 hbv y0 y15 hrg; have s4 := ((s3).take [5, 0, 0, 0, 0, 0, 0]); simp only [takeOut, zzD, zzE, zzF, zzG, zzH, zzI] at s4; have cU := hdd (uask_calls s4 (by omega) (by omega)); clear s3 s4; go_wp2_with fail; refine cU.out.mono ?_; rintro e W3 ⟨ov, pu, rfl, s5⟩; clear cU; have cD := hdd (adecode_calls (s5.by 3 rfl)); have S5 := hdd s5; clear s5; go_wp2_with fail; refine cD.out.mono ?_; rintro e W4 ⟨⟨sv2, rfl, hsv⟩, hb4⟩; obtain ⟨A2, c2, rfl⟩ : ∃ A2 c2, sv2 = .slice A2 1 c2 := by obtain ⟨A2, c2, h9, -⟩ := (Sl.of_own hsv).at_; exact ⟨A2, c2, h9⟩
 have s6 := ((S5.out.same hb4).obNew 32 (askC9 (.slice A2 1 c2))).rowNil 32 9; clear cD S5 hsv hb4; go_wp2_with fail; generalize hWd : W4.alloc (.cells (askC9 (.slice A2 1 c2)) 32) = U at *; clear hWd; generalize W4.heap.size = xb at *; refine Pq.regionT (.look 0 (.look 1 (.look 2 (.look 3 (.look 4 (.look 5 (.look 8 (.look 9 (.make 6 (.make 7 (.make 10 .nil))))))))))) (fun V => Ob V a.wb 62 (worldV a vN vN) ∧ Ob V xb 32 (askC9 (.slice A2 1 c2))) Se.hmx (by kernel_rfl) (by kernel_rfl) (by kernel_rfl) ⟨((s6).drew.ob 7 rfl), ((s6).drew.ob 1 rfl)⟩ rfl ?_; simp only [Pq.named, Pq.rest, zzJ, zzK, zzL, zzM]
 iterate 8 (
   apply Pq.WalkT.on (by rfl)
   · rintro V ⟨hO0, hO1⟩
     have ⟨n0, n1, n2, n3, n4, n5, n6, n7, n8⟩ := hO0.k9 rfl rfl rfl rfl rfl rfl rfl rfl rfl; go_wp2_with (refine wpList_load_obg (by rfl) _ _ rfl rfl _ hO1 Tryz.underlying32 rfl (by kernel_rfl) ?_); refine ⟨rfl, ?_, rfl⟩
     try simp only [Act.put, zzA, zzB, zzC]
     rfl
   simp only [Act.put, zzA, zzB, zzC])
 have sA0 := ((s6).drew).alloc (.cells (askC9 (.slice A2 1 c2)) 32); have hSl0 := Sl.new ((U).drew) (askC9 (.slice A2 1 c2)) 32 (n := 1) (size := 9) rfl (by unfold maxLen; omega); obtain ⟨iA, hiA, hzA0, hzA1, hzA2⟩ := inf3 ask_info; refine Pq.WalkT.make (by rfl) ?_; rintro T1 hq; replace hq := hq.symm; subst hq; go_wp2_with fail; refine Pq.mk4 (U.drew.alloc (.cells (askC9 (.slice A2 1 c2)) 32)) (.slice (some ⟨((U).drew).heap.size, 0, none⟩) 1 1) ⟨(sA0.ob 7 rfl), (sA0.ob 1 rfl)⟩ ?_ ?_
 · try simp only [Act.put, zzA, zzB, zzC]
   try rfl
 simp only [Act.put, zzA, zzB, zzC]; refine Pq.WalkT.make (by rfl) ?_; rintro T2 hq; replace hq := hq.symm; subst hq; refine wpList_append_sl _ rfl (.tmp 80) (.tmp 82) _ rfl 0 32 iA _ 9 96 Tryz.underlying59 hiA hzA0 hzA1 hzA2 rfl (by omega) vN 0 [] rfl (sA0.own 0 rfl) _ _ _ 1 ((askC9 (.slice A2 1 c2))).toList rfl hSl0 (by simp [Value.oneCell']) (by unfold maxLen; omega) (by omega) (by simp) ?_; intro v1 T3 hv1 hg1 hat1; simp only [Nat.zero_add, List.nil_append] at hv1; obtain ⟨A9, c9, hv9, -⟩ := (Sl.of_own hv1).at_; subst hv9; have sA1 := (sA0.front 0 rfl).row hv1 hg1 hat1; refine Pq.mk3 (.slice A9 1 c9) ⟨(sA1.ob 7 rfl), (sA1.ob 1 rfl)⟩ ?_ ?_
 · try simp only [Act.put, zzA, zzB, zzC]
   try rfl
 simp only [Act.put, zzA, zzB, zzC]; refine Pq.WalkT.make (by rfl) ?_; rintro T4 hq; replace hq := hq.symm; subst hq; have gA := (sA1.ob 7 rfl).k 6 rfl; have fA := (sA1.ob 7 rfl).frozen 6; have sA2 := (sA1.front 7 rfl).set 6 (.slice A9 1 c9); go_wp2_with fail; refine ⟨rfl, undef, (fun _ => True), (fun V => V = _), rfl, rfl, (fun _ _ => trivial), (.inl (by kernel_rfl)), Pq.WalkT.nil ?_⟩; rintro V rfl; simp only [Act.put]; clear gA fA; simp only [zzH, zzI, zzG, zzF, List.length_cons, List.length_nil] at sA2; have s8 : St (WoA a vN (.slice A9 1 c9) :: _) _ := sA2; clear hSl0 sA0 sA1 sA2 hg1 hat1 hv1 s6 hiA hzA0 hzA1 hzA2 iA; generalize A9 = B0 at *; generalize c9 = d0 at *; clear A9 c9; generalize T3.setCell ⟨a.wb, 6, none⟩ (.slice B0 1 d0) = W5 at *; clear T3; obtain ⟨Ap, cp, rfl, -⟩ := (s8.by 5 rfl).form; have y1 := (s8.ob (b := ab) 7 rfl).k 1 rfl; have s9 := ((s8).take [1, 1, 4, 4, 6, 0, 3, 1, 1, 0, 0]); simp only [takeOut, zzD, zzE, zzF, zzG, zzH, zzI] at s9; replace s9 := s9.drop.drop.drop.drop.drop; have cW := hdd (wsend_p (k := 1) (tt := 0) (n := 0) (xs := []) (by omega) s9); clear s8 s9; go_wp2_with fail; refine cW.out.mono ?_; rintro e W6 ⟨rfl, wy', s10⟩; have s11 := ((s10).take [0, 0, 2, 1, 0]); simp only [takeOut, zzD, zzE, zzF, zzG, zzH, zzI] at s11; clear s10 cW; go_wp2; go_ret; exact ⟨rfl, wy', _, _, s11⟩
theorem neq_nilM (m : Nat) (w : World) : (binOp .eql 60 (.map (some m)) (.map none)).run Tryz.prog w = .ok (.bool false) w := by kernel_rfl
theorem wdoq_calls {a : Wd} {c : Nat} {A : Option Addr} {r : List As} {w : World} (hc : 2 ≤ a.nc)
   (h : St (WoA a vN vN :: LtA vN 0 [] :: NbA a :: NodeU DeskN a.n1 0 0 0 [] 0 0 [] :: ItmA (.slice A 1 c) :: r) w) :
   Calls Tryz.prog 7 #[ptr a.wb, .agg (actQ (.slice A 1 c))] w fun e w' => e = .returned vO ∧ ∃ wy ak pu, St (WoA a wy ak :: LtA wy 1 (ltr 1 0 pu) :: NbA a :: NodeU DeskN a.n1 0 1 300 [(1, 2)] 1 0 [] :: BytesA pu (pkC 1 0 codeQ) :: r) w' := by
 have hq := neq_nilM a.am; have s1 := h.obNew 37 (actQ (.slice A 1 c)); have oA := s1.ob (b := w.heap.size) 0 rfl; have y0 := oA.k 0 rfl; have y1 := oA.k 1 rfl; have g7 := (s1.ob (b := a.wb) 1 rfl).k 7 rfl; have cI := hdd (wis_calls ⟨s1.ob (b := a.wb) 1 rfl, s1.ob (b := a.nb) 3 rfl, hc⟩ 1 (by omega) (by omega)); have s2 := ((s1).take [1, 1, 1, 1, 1, 0]); simp only [takeOut, zzD, zzE, zzF, zzG, zzH, zzI] at s2; have cT := hdd (wtell_calls hc s2); clear h s1 s2
 go_enter Tryz.func7, Tryz.ntmps7
 go_wp2_with (first
   | (go_at_call 16; (with_reducible refine (cI.out).mono ?_); rintro e W' ⟨rfl, rfl⟩)
   | (refine wpList_load_obg (by rfl) _ _ rfl rfl _ oA Tryz.underlying37 rfl (by kernel_rfl) ?_))
 refine cT.out.mono ?_; rintro e W2 ⟨rfl, wy, ak, pu, s3⟩; have s4 := ((s3).take [5, 0, 0, 0, 0, 0]); simp only [takeOut, zzD, zzE, zzF, zzG, zzH, zzI] at s4; replace s4 := s4.drop; clear s3 cT cI; go_wp2; go_ret; exact ⟨rfl, wy, ak, pu, s4⟩
theorem wdor_calls {a : Wd} {wy ak bv : Value} {c0 c1 u0 u1 : Nat} {r : List As} {w : World} (hc : 2 ≤ a.nc) (hu0 : u0 ≤ 30000) (hc0 : c0 ≤ 50) (hu1 : u1 ≤ 30000) (hc1 : c1 ≤ 50)
   (h : St (WoA a wy ak :: LtA wy 1 (ltr 1 0 bv) :: NbA a :: NodeZ DeskN a.n0 0 c0 u0 [] 0 0 [] :: NodeU DeskN a.n1 0 c1 u1 [(1, 2)] 1 0 [] :: BytesA bv (pkC 1 0 codeQ) :: MapA strK 67 a.am [] :: r) w) :
   Calls Tryz.prog 7 #[ptr a.wb, .agg actR] w fun e w' => e = .returned vO ∧ ∃ wy d0 d1 v0 v1, St (WoA a wy ak :: LtA wy 0 [] :: NbA a :: NodeZ DeskA a.n0 1 d0 v0 [] 2 1 stk1 :: NodeU DeskA a.n1 1 d1 v1 [] 1 2 [] :: MapA strK 67 a.am [(K01, .agg answC)] :: r) w' := by
 have hq := neq_nilM a.am; have s1 := h.obNew 37 actR; have y0 := (s1.ob (b := w.heap.size) 0 rfl).k 0 rfl; have g7 := (s1.ob (b := a.wb) 1 rfl).k 7 rfl; have s2 := ((s1).take [1, 1, 1, 1, 1, 1, 1, 0]); simp only [takeOut, zzD, zzE, zzF, zzG, zzH, zzI] at s2; have cR := hdd (wround_calls hc hu0 hc0 hu1 hc1 s2); clear h s1 s2
 go_enter Tryz.func7, Tryz.ntmps7
 go_wp2_with fail; refine cR.out.mono ?_; rintro e W2 ⟨rfl, wy9, s3⟩; have s4 := ((s3).take [6, 0, 0, 0, 0, 0, 0]); simp only [takeOut, zzD, zzE, zzF, zzG, zzH, zzI] at s4; replace s4 := s4.drop; clear s3 cR; go_wp2; go_ret; exact ⟨rfl, wy9, _, _, _, _, s4⟩
structure NX (a : Na) (me now cnt : Nat) (s : Sk.Stk) (w : World) : Prop where
 nf : NF a me now cnt vN w
 e0 : ∃ A c p q, Ob w a.e0 200 #[.slice A 0 c, p, q]
 e1 : ∃ A c p q, Ob w a.e1 200 #[.slice A 0 c, p, q]
 dk : ∃ d : Da, Ob w a.dk 145 (deskC me d vN) ∧ GMap intK w Tryz.prog 3 d.sm [] ∧ GMap strK w Tryz.prog 369 d.om []
 rg : ∃ sh mv st hm mb, Ob w a.rg 130 #[vI me, vI 2, ptr sh, ptr mv, vN] ∧ Ob w sh 197 #[ptr st, .map (some hm)] ∧ Sk.StkAt w 0 st mb s
theorem NX.same {a : Na} {me now cnt : Nat} {s : Sk.Stk} {w w' : World} (h : NX a me now cnt s w) (hb : Below w.heap.size w w') : NX a me now cnt s w' := by
 obtain ⟨A0, c0, p0, q0, k0⟩ := h.e0; obtain ⟨A1, c1, p1, q1, k1⟩ := h.e1; obtain ⟨d, d1, d2, d3⟩ := h.dk; obtain ⟨sh, mv, st, hm, mb, r1, r2, r3⟩ := h.rg; exact ⟨h.nf.same hb, ⟨A0, c0, p0, q0, k0.same hb⟩, ⟨A1, c1, p1, q1, k1.same hb⟩, ⟨d, d1.same hb, d2.below hb d2.lt, d3.below hb d3.lt⟩, ⟨sh, mv, st, hm, mb, r1.same hb, r2.same hb, r3.same hb⟩⟩
theorem NX.of {a : Na} {me now cnt : Nat} {s : Sk.Stk} {t0 m0 t1 m1 : Int} {r : List As} {w : World} (h : St (NodeB a me now cnt vN :: DeskA a.dk me :: RegA a.rg me s :: EndA a.e0 [] t0 m0 :: EndA a.e1 [] t1 m1 :: r) w) : NX a me now cnt s w := by
 obtain ⟨d, d1⟩ := DeskA.out (h.front 1 rfl); obtain ⟨sh, mv, st, hm, r1⟩ := RegA.out (h.front 2 rfl); obtain ⟨v0, k0⟩ := EndA.out (h.front 3 rfl); obtain ⟨v1, k1⟩ := EndA.out (h.front 4 rfl); obtain ⟨A0, c0, rfl, -⟩ := (Sl.of_own (k0.own 1 rfl)).at_; obtain ⟨A1, c1, rfl, -⟩ := (Sl.of_own (k1.own 1 rfl)).at_; obtain ⟨mb, hs⟩ := stk_at r1 2 rfl; exact ⟨h.nf 0 rfl, ⟨A0, c0, _, _, k0.ob 0 rfl⟩, ⟨A1, c1, _, _, k1.ob 0 rfl⟩, ⟨d, d1.ob 0 rfl, d1.gmap 1 rfl, d1.gmap 2 rfl⟩, ⟨sh, mv, st, hm, mb, r1.ob 0 rfl, r1.ob 1 rfl, hs⟩⟩
theorem fork_below {b mb : Nat} {s : Sk.Stk} {w : World} (hs : Sk.StkAt w 0 b mb s) : Calls Tryz.prog 91 #[ptr b] w fun e w' => (∃ b' mb', e = .returned (ptr b') ∧ Sk.StkAt w' 0 b' mb' s) ∧ Below w.heap.size w w' := by
 have g0 : w.cell? ⟨b, 0, none⟩ = some (.map (some mb)) := hs.ob.k 0 rfl; have cM := hdd (Sk.made_calls b mb w g0); have cC := hdd (Sk.clone_calls mb _ w hs.map); have HS := hdd hs; clear hs
 go_enter Tryz.func91, Tryz.ntmps91
 go_wp2_with fail; refine (cM.out).mono ?_; rintro e w' ⟨rfl, rfl⟩; go_wp2_with fail; refine cC.out.mono ?_; rintro e W ⟨rfl, hg, hlt, hb⟩; have hal := (Below.refl W.heap.size W).alloc (Nat.le_refl _) (.cells #[.map (some w.heap.size)] 135); have s1 : Sk.StkAt (W.alloc (.cells #[.map (some w.heap.size)] 135)) 0 W.heap.size w.heap.size s := ⟨Ob.new _ _ _, hg.kept (World.grownBy_alloc _ _ none) (by simp), HS.out.ok, by omega, ⟨Nat.zero_le _, Nat.zero_le _⟩, HS.out.len⟩; have hb2 := hb.trans (hal.mono hb.size); clear hal cC cM HS hg; go_wp2; go_ret; exact ⟨⟨_, _, rfl, s1⟩, hb2⟩
theorem stock_below {b sb mb hm : Nat} {s : Sk.Stk} {w : World} (oB : Ob w b 197 #[ptr sb, .map (some hm)]) (hs : Sk.StkAt w 0 sb mb s) : Calls Tryz.prog 51 #[ptr b] w fun e w' => (∃ b' mb', e = .returned (ptr b') ∧ Sk.StkAt w' 0 b' mb' s) ∧ Below w.heap.size w w' := by
 have g0 : w.cell? ⟨b, 0, none⟩ = some (ptr sb) := oB.k 0 rfl; have cM := hdd (smade_calls oB); have cF := hdd (fork_below hs); clear hs oB
 go_enter Tryz.func51, Tryz.ntmps51
 go_wp2_with fail; refine (cM.out).mono ?_; rintro e w' ⟨rfl, rfl⟩; go_wp2_with fail; refine cF.out.mono ?_; rintro e W ⟨⟨b', mb', rfl, h1⟩, h2⟩; go_wp2; go_ret; exact ⟨⟨_, _, rfl, h1⟩, h2⟩
theorem rshelf_below {a : Na} {me now cnt : Nat} {s : Sk.Stk} {w : World} (h : NX a me now cnt s w) : Calls Tryz.prog 22 #[ptr a.rg] w fun e w' => (∃ b' mb', e = .returned (ptr b') ∧ Sk.StkAt w' 0 b' mb' s) ∧ Below w.heap.size w w' := by
 obtain ⟨sh, mv, st, hm, mb, r1, r2, r3⟩ := h.rg; have g2 : w.cell? ⟨a.rg, 2, none⟩ = some (ptr sh) := r1.k 2 rfl; have cS := hdd (stock_below r2 r3); clear h r1 r2 r3
 go_enter Tryz.func22, Tryz.ntmps22
 go_wp2_with fail; refine cS.out.mono ?_; rintro e W ⟨⟨b', mb', rfl, h1⟩, h2⟩; go_wp2; go_ret; exact ⟨⟨_, _, rfl, h1⟩, h2⟩
theorem dopen_below {a : Na} {me now cnt : Nat} {s : Sk.Stk} {w : World} (h : NX a me now cnt s w) : Calls Tryz.prog 33 #[ptr a.dk] w fun e w' => e = .returned vO ∧ w = w' := by
 obtain ⟨d, d1, d2, d3⟩ := h.dk; have g5 : w.cell? ⟨a.dk, 5, none⟩ = some (.map (some d.om)) := d1.k 5 rfl; have hl := fun ty => d3.len Tryz.underlying140 ty
 clear h d1 d2 d3
 go_enter Tryz.func33, Tryz.ntmps33
 go_wp2; go_ret; exact ⟨rfl, rfl⟩
theorem nopen_below {a : Na} {me now cnt : Nat} {s : Sk.Stk} {w : World} (h : NX a me now cnt s w) : Calls Tryz.prog 31 #[ptr a.nd] w fun e w' => e = .returned vO ∧ w = w' := by
 obtain ⟨A0, c0, p0, q0, k0⟩ := h.e0; obtain ⟨A1, c1, p1, q1, k1⟩ := h.e1; exact nopen_calls h.nf k0 k1
end
section
open Go.RowKit Go.Maps
open Ce It Al Kp
attribute [local go_sem] Oper.semAt_some
def nodeAt (a : Wd) (k : Nat) : Nat := if k = 0 then a.n0 else a.n1
theorem up_made (v : Value) (hv : v.oneCell' = true) (w : World) : Calls Tryz.prog 20 #[v] w fun e w' => e = .returned (.func (.func 49) #[] #[ptr w.heap.size]) ∧ w.alloc (.cells #[v] 26) = w' := by
 have hmf : ∀ (fn : Fn) (first cap : Array Value) (w : World), (Instr.makeFunc fn first cap).run Tryz.prog w = .ok (.func fn first cap) w := fun _ _ _ _ => rfl
 go_enter Tryz.func20, Tryz.ntmps20
 go_wp2; go_ret; exact ⟨rfl, rfl⟩
theorem up_reads (n : Nat) (hn : 1 ≤ n) (Bs : Nat) {a : Wd} {wy ak : Value} {w : World} (F : WF a wy ak w) (hbs : Ob w Bs 26 #[ptr a.wb]) (Kq : World → World → Prop) (hkq : ∀ A B, WF a wy ak A → Ob A Bs 26 #[ptr a.wb] → Kq A B → WF a wy ak B ∧ Ob B Bs 26 #[ptr a.wb]) :
   Ru.Reads Fence.wide n Tryz.prog 49 #[ptr Bs] (fun (k : Nat) (v : Array Value) (_ : World) => v = #[vI k, ptr (nodeAt a k)]) Kq (fun xs => xs = [0, 1]) (fun _ => True) (fun pre k => k = pre.length ∧ k < 2) w := by
 intro l J Jx W hW hJ hJx hY h0; have F0 := F.same hW; have B0 := hbs.same hW; have cB : W.cell? ⟨Bs, 0, none⟩ = some (ptr a.wb) := B0.k 0 rfl; have cR := hdd (wregions_calls F0); have cN0 := hdd (wnode0_calls F0); have HY0 := hdd (fun v W1 (h1 : J [] W1) h3 => hY [] 0 v W1 h1 ⟨rfl, by omega⟩ h3); have HY1 := hdd (fun v W1 (h1 : J [0] W1) h3 => hY [0] 1 v W1 h1 ⟨rfl, by omega⟩ h3); have HF := hdd F0; have HB := hdd B0; have HK := hdd hkq; clear hY F hbs F0 B0 hJ hJx hW hkq; refine callsIn_of_wp Tryz.func49 rfl trivial ?_ rfl; simp only [Tryz.ntmps49, List.size_toArray, List.length_cons, List.length_nil, Nat.reduceAdd, Nat.reduceSub, Array.replicate_succ, Array.replicate_zero, List.push_toArray, List.append_toArray, List.nil_append, List.cons_append]
 gi_wp2_with (refine ⟨trivial, ?_⟩; gi_at_call 27; refine (callsIn_wide.2 cR.out).mono ?_; rintro e W' ⟨rfl, rfl⟩)
 refine wpIn_loop_rounds 3 ?_; rw [roundsIn_succ]
 gi_wp2_with (refine ⟨trivial, ?_⟩; gi_at_call 50; refine (callsIn_wide.2 cN0.out).mono ?_; rintro e W' ⟨rfl, rfl⟩)
 obtain ⟨fn, tmps, assign, body, hy, hR⟩ := HY0.out #[vO, ptr a.n0] _ h0 (by simp [nodeAt]); rw [show Sem.run _ _ _ = _ from hy]; gi_wp2; refine hR.mono ?_; clear hy hR cR cN0 HY0 cB; rintro e W4 (⟨rfl, hJ4, hk4⟩ | ⟨rfl, hJx4⟩)
 · obtain ⟨F4, B4⟩ := HK.out _ _ HF.out HB.out hk4
   have cB : W4.cell? ⟨Bs, 0, none⟩ = some (ptr a.wb) := B4.k 0 rfl; have cN1 := hdd (wnode1_calls F4); clear F4 B4 hk4; gi_wp2; rw [roundsIn_succ]
   gi_wp2_with (refine ⟨trivial, ?_⟩; gi_at_call 50; refine (callsIn_wide.2 cN1.out).mono ?_; rintro e W' ⟨rfl, rfl⟩)
   obtain ⟨fn, tmps, assign, body, hy, hR⟩ := HY1.out #[vI 1, ptr a.n1] _ hJ4 (by simp [nodeAt]); rw [show Sem.run _ _ _ = _ from hy]; gi_wp2; refine hR.mono ?_; clear hy hR cN1 HY1 cB; rintro e W5 (⟨rfl, hJ5, hk5⟩ | ⟨rfl, hJx5⟩)
   · gi_wp2
     rw [roundsIn_succ]; gi_wp2; go_end0; exact ⟨⟨_, rfl⟩, .inl ⟨_, rfl, hJ5⟩⟩
   · gi_wp2
     refine bodyPost_ret (results_none rfl _ _ _) rfl ?_; exact ⟨⟨_, rfl⟩, .inr ⟨_, trivial, hJx5⟩⟩
 · gi_wp2
   refine bodyPost_ret (results_none rfl _ _ _) rfl ?_; exact ⟨⟨_, rfl⟩, .inr ⟨_, trivial, hJx4⟩⟩
end
end Tp
namespace KsG
section
open Go.RowKit Go.Maps Go.Sort Go.Shelf
theorem sorts (m : Nat) : AnyZI.SortsIn Tryz.prog Tryz.sorted93_ren Fence.wide m :=
 ⟨fun blk off cap ss W hH hblk hsz => callsIn_wide.2 (AnyM.slices_Sort_int Tryz.sort147 blk off cap ss W hH hblk hsz),
  fun p cap W => callsIn_wide.2 (AnyM.slices_Sort_int_none Tryz.sort147 p cap W)⟩
theorem keys_calls (mb : Option Nat) (W : World) : CallsIn Fence.wide 5 Tryz.prog 94 #[.map mb] W fun e w' => e = .returned (.func (.func 148) #[] #[.pointer (some ⟨W.heap.size, 0, none⟩)]) ∧ w' = W.alloc (.cells #[.map mb] 138) :=
 AnyZI.keys_in Tryz.keys94 Fence.wide 5 trivial rfl mb W
theorem intKeys_mEs (m : List (Int × Value)) : intKeys (DataW.map (mEs intK m)) = m.map (·.1) := by
 simp [intKeys, mEs, Function.comp_def, intK]; exact fun _ _ _ => rfl
theorem sorted_calls (b : Nat) (m : List (Int × Value)) (w : World) (hown : GMap intK w Tryz.prog 3 b m) (KK : Keyed Tryz.prog 3) (hmax : m.length ≤ 1099511627776) :
   CallsIn Fence.wide 5 Tryz.prog 93 #[.func (.func 148) #[] #[.pointer (some ⟨w.heap.size, 0, none⟩)]] (w.alloc (.cells #[.map (some b)] 138)) fun e w' => ∃ v : Value, e = .returned v ∧
     w'.ownsRow (w.alloc (.cells #[.map (some b)] 138)).heap.size 3 1 v (m.map (·.1)).length (ints (m.map (·.1))) ∧ Below (w.alloc (.cells #[.map (some b)] 138)).heap.size (w.alloc (.cells #[.map (some b)] 138)) w' := by
 have hsort := hown.sorted KK; have hbl := hown.lt; have hsz : Maps.size (DataW.map (mEs intK m)) = m.length := by simp [Maps.size, mEs]
 have hseq : SeqGives Fence.wide 2 Tryz.prog 148 #[.pointer (some ⟨w.heap.size, 0, none⟩)] encZ (fun ss => ss.Perm (intKeys (DataW.map (mEs intK m)))) (Maps.size (DataW.map (mEs intK m))) (w.alloc (.cells #[.map (some b)] 138)) :=
   AnyZI.keys_gives (ρ := Tryz.keys94_ren) { Tryz.keys94 with } Fence.wide _ trivial rfl (by omega) w.heap.size b m.length (DataW.map (mEs intK m)) _ (by simp) (by simp) (by
     obtain ⟨es, clock, hb, Ft, hs, hD⟩ := hown; exact ⟨es, clock, (Below.heap_alloc _ _ b hbl).trans hb, Ft, hs, hD⟩)
 have h := AnyZI.sorted_in Tryz.sorted93 Fence.wide 5 trivial trivial trivial trivial rfl (by omega) (sorts _) (enters_of Tryz.func147 (by kernel_rfl) rfl) 148 #[.pointer (some ⟨w.heap.size, 0, none⟩)] trivial (enters_of Tryz.func148 (by kernel_rfl) rfl) _ _ (by rw [hsz]; unfold maxLen; omega) (by rw [hsz]; omega) _ hseq; refine h.mono ?_; rintro e w' ⟨v, ss, rfl, hp, hrow, _, hb⟩; rw [intKeys_mEs] at hp
 have hlt : (m.map (·.1)).Pairwise (· < ·) := by
   rw [List.pairwise_map]; exact hsort.imp (fun {p q} h => by simpa [intK] using h)
 have he : ss.mergeSort (fun x y => decide (x ≤ y)) = m.map (·.1) := by
   refine ((List.mergeSort_perm ss _).trans hp).eq_of_pairwise (le := fun a b : Int => a ≤ b) (fun a b _ _ h1 h2 => Int.le_antisymm h1 h2) ?_ (hlt.imp (fun h => Int.le_of_lt h)); have := List.pairwise_mergeSort (le := fun x y : Int => decide (x ≤ y)) (fun a b c h1 h2 => by simp only [decide_eq_true_eq] at *; omega) (fun a b => by simp only [Bool.or_eq_true, decide_eq_true_eq]; omega) ss; exact this.imp (fun h => by simpa using h)
 have hl : ss.length = (m.map (·.1)).length := hp.length_eq; rw [he, hl] at hrow; exact ⟨v, rfl, hrow, hb⟩
end
end KsG
namespace Tp
section
open Go.RowKit Go.Maps
open Ce It Al Kp
attribute [local go_sem] Oper.semAt_some
theorem sagas_made (v : Value) (hv : v.oneCell' = true) (w : World) : Calls Tryz.prog 56 #[v] w fun e w' => e = .returned (.func (.func 92) #[] #[ptr w.heap.size]) ∧ w.alloc (.cells #[v] 82) = w' := by
 have hmf : ∀ (fn : Fn) (first cap : Array Value) (w : World), (Instr.makeFunc fn first cap).run Tryz.prog w = .ok (.func fn first cap) w := fun _ _ _ _ => rfl
 go_enter Tryz.func56, Tryz.ntmps56
 go_wp2; go_ret; exact ⟨rfl, rfl⟩
theorem sagas_reads (n : Nat) (hn : 1 ≤ n) {w : World} {Bs dk : Nat} {me : Int} {d : Da} (hd : Ob w dk 145 (deskC me d vN)) (hm : GMap intK w Tryz.prog 3 d.sm []) (hbs : Ob w Bs 82 #[ptr dk]) :
   Ro.Reads Fence.wide n Tryz.prog 92 #[ptr Bs] (fun (_ : Unit) (_ : Value) (_ : World) => False) (Below w.heap.size) (fun xs => xs = []) (fun _ => False) (fun _ _ => False) w := by
 intro l J Jx W hW hJ hJx hY h0; have hB := hbs.same hW; have hD := hd.same hW; have hM := hm.below hW hm.lt; have cB : W.cell? ⟨Bs, 0, none⟩ = some (ptr dk) := hB.k 0 rfl; have c3 : W.cell? ⟨dk, 3, none⟩ = some (.map (some d.sm)) := hD.k 3 rfl; have cK := hdd (KsG.keys_calls (some d.sm) W); have CS := hdd (KsG.sorted_calls d.sm [] W hM (int_keyed Tryz.underlying3) (by simp)); clear hY hB hD hM hd hm hbs; refine callsIn_of_wp Tryz.func92 rfl trivial ?_ rfl; simp only [Tryz.ntmps92, List.size_toArray, List.length_cons, List.length_nil, Nat.reduceAdd, Nat.reduceSub, Array.replicate_succ, Array.replicate_zero, List.push_toArray, List.append_toArray, List.nil_append, List.cons_append]
 gi_wp2_with (first
   | (refine ⟨trivial, ?_⟩; gi_at_call 94; refine (callsIn_wide.2 (callsIn_wide.1 cK.out)).mono ?_; rintro e W' ⟨rfl, rfl⟩)
   | (refine ⟨trivial, ?_⟩; gi_at_call 93; refine (callsIn_wide.2 (callsIn_wide.1 CS.out)).mono ?_; rintro e W1 ⟨kv, rfl, hkv, hb1⟩; obtain ⟨Ak, ck, rfl, -⟩ := (Sl.of_own hkv).at_))
 have hal := (Below.refl W.heap.size W).alloc (Nat.le_refl _) (.cells #[.map (some d.sm)] 138); have hb01 : Below W.heap.size W W1 := hal.trans (hb1.mono hal.size); have hJ1 : J [] W1 := hJ _ _ _ none h0 (only_of_below hb01 none) (fun r e => by cases e); clear hkv hal hb1 cK CS cB c3; refine wpIn_loop_rounds 1 ?_; rw [roundsIn_succ]; gi_wp2; go_end0; exact ⟨⟨_, rfl⟩, .inl ⟨_, rfl, hJ1⟩⟩
theorem sagas_calls {a : Na} {me now cnt : Nat} {s : Sk.Stk} {w : World} (h : NX a me now cnt s w) (F : Fn) : Calls Tryz.prog 34 #[ptr a.nd, .func F #[] #[]] w fun e w' => e = .returned (.bool true) ∧ Below w.heap.size w w' := by
 have hB3 : Below w.heap.size w (((w.alloc (.cells #[ptr a.nd] 71)).alloc (.cells #[.func F #[] #[]] 90)).alloc (.cells #[.bool false] 4)) := (((Below.refl _ w).alloc (Nat.le_refl _) _).alloc (by simp) _).alloc (by simp; omega) _; have oN := ((Ob.new w 71 #[ptr a.nd]).alloc (.cells #[.func F #[] #[]] 90)).alloc (.cells #[.bool false] 4); have oR := Ob.new ((w.alloc (.cells #[ptr a.nd] 71)).alloc (.cells #[.func F #[] #[]] 90)) 4 #[.bool false]; simp only [World.size_alloc] at oR; have hs3 : (((w.alloc (.cells #[ptr a.nd] 71)).alloc (.cells #[.func F #[] #[]] 90)).alloc (.cells #[.bool false] 4)).heap.size = w.heap.size + 1 + 1 + 1 := by simp
 have h3 := h.same hB3; clear h; refine (callsIn_wide (n := 6)).1 ?_; refine callsIn_of_wp_marks Tryz.func34 rfl trivial ?_ rfl; simp only [Tryz.ntmps34, List.size_toArray, List.length_cons, List.length_nil, Nat.reduceAdd, Nat.reduceSub, Array.replicate_succ, Array.replicate_zero, List.push_toArray, List.append_toArray, List.nil_append, List.cons_append]; have n0 := oN.k 0 rfl; have cD := hdd (ndesk_calls h3.nf); have cS := hdd (sagas_made (ptr a.dk) rfl (((w.alloc (.cells #[ptr a.nd] 71)).alloc (.cells #[.func F #[] #[]] 90)).alloc (.cells #[.bool false] 4))); obtain ⟨d, d1, d2, d3⟩ := h3.dk; clear h3 d3
 gi_wp2_with (first
   | (refine ⟨trivial, ?_⟩; gi_at_call 32; refine (callsIn_wide.2 cD.out).mono ?_; rintro e W' ⟨rfl, rfl⟩)
   | (refine ⟨trivial, ?_⟩; gi_at_call 56; refine (callsIn_wide.2 cS.out).mono ?_; rintro e W' ⟨rfl, rfl⟩))
 generalize (((w.alloc (.cells #[ptr a.nd] 71)).alloc (.cells #[.func F #[] #[]] 90)).alloc (.cells #[.bool false] 4)) = w3 at *; clear oN n0 cD cS; have hal := (Below.refl w3.heap.size w3).alloc (Nat.le_refl _) (.cells #[ptr a.dk] 82); have e1 := d1.alloc (.cells #[ptr a.dk] 82); have e2 := d2.below hal d2.lt; have e4 := Ob.new w3 82 #[ptr a.dk]; rw [hs3] at e4; have oR4 := oR.alloc (.cells #[ptr a.dk] 82); have hB4 := hB3.trans (hal.mono hB3.size); have hs4 : (w3.alloc (.cells #[ptr a.dk] 82)).heap.size = w3.heap.size + 1 := by simp
 generalize (w3.alloc (.cells #[ptr a.dk] 82)) = w4 at *
 refine Ro.range_reads (n := 6) rfl (by omega) (gf := 92) rfl trivial (enters_of Tryz.func92 (by kernel_rfl) rfl)
   (sagas_reads 5 (by omega) e1 e2 e4) (Below.refl _ _) (fun h k => h.trans k) (fun W l r r' hl h => belowK_b (Nat.le_refl _) W l _ _ hl h rfl rfl) rfl
   (fun _ V => Below w4.heap.size w4 V)
   (fun _ _ _ => False)
   (fun s A B row hs hg hr => ownFrom_below (B := w4.heap.size) (by omega) (by omega) s A B row hs hg hr)
   (fun c s A B row hs hg hr => hs.elim)
   (Below.refl _ _) ?round ?done ?stop
 case round => exact fun l pre d v W _ _ h => h.elim
 case stop => exact fun D c pre W _ h => h.elim
 case done =>
   rintro D xs V hD - hBV hK; have z0 := oR4.below hBV oR4.lt; have z1 := z0.k 0 rfl; have f1 := z0.frozen 0; have hne : D ≠ w.heap.size + 1 + 1 := by omega
   gi_wp2; have hBw := hB4.trans (hBV.mono hB4.size); have z2 := z0.set 0 (.bool true); have hB5 := hBw.grown (grownBy_set V (w.heap.size + 1 + 1) 0 (.bool true)) (by have := hBw.size; omega) (fun j e => by cases e; omega); have hK5 : (V.setCell ⟨w.heap.size + 1 + 1, 0, none⟩ (.bool true)).heap[D]? = some (.deferred (some [])) := ((grownBy_set V (w.heap.size + 1 + 1) 0 (.bool true)).block D (Array.getElem?_eq_some_iff.1 hK).1 (fun e => by cases e; omega)).trans hK; refine ⟨by simp, .inl ⟨_, _, rfl, run_takeDeferred hK5, ?_⟩⟩; have g1 := (boxed_end z2 hK5).cell; refine ⟨.bool true, ?_, rfl, below_end hB5 (by have := hB4.size; omega) hK5⟩; simp [results, Tryz.f34, go_sem, g1]
end
section
open Go.RowKit Go.Maps
open Ce It Al Kp
attribute [local go_sem] Oper.semAt_some
theorem quiet1_calls {a : Na} {me now cnt : Nat} {s : Sk.Stk} {w : World} (h : NX a me now cnt s w) (k : Int) : Calls Tryz.prog 30 #[vI k, ptr a.nd] w fun e w' => e = .returned (.bool true) ∧ Below w.heap.size w w' := by
 have cO := hdd (nopen_below h); have cD := hdd (ndesk_calls h.nf); have cE := hdd (dopen_below h); have cS := hdd (sagas_calls h (.func 35)); clear h
 go_enter Tryz.func30, Tryz.ntmps30
 go_wp2_with fail; refine cO.out.mono ?_; rintro e W ⟨rfl, rfl⟩
 go_wp2_with (first
   | (go_at_call 32; (with_reducible refine (cD.out).mono ?_); rintro e W ⟨rfl, rfl⟩)
   | (go_at_call 33; (with_reducible refine (cE.out).mono ?_); rintro e W ⟨rfl, rfl⟩)
   | (go_at_call 34; (with_reducible refine (cS.out).mono ?_); rintro e W ⟨rfl, hb⟩))
 go_wp2; go_ret; exact ⟨rfl, hb⟩
theorem nodeAt_calls {a : Wd} {A0 A1 : Na} {m0 m1 t0 t1 c0 c1 : Nat} {s0 s1 : Sk.Stk} {w : World} (e0 : A0.nd = a.n0) (e1 : A1.nd = a.n1) (h0 : NX A0 m0 t0 c0 s0 w) (h1 : NX A1 m1 t1 c1 s1 w) (k : Nat) (hk : k < 2) (W : World) (hb : Below w.heap.size w W) :
   Calls Tryz.prog 30 #[vI k, ptr (nodeAt a k)] W fun e w' => e = .returned (.bool true) ∧ Below W.heap.size W w' := by
 match k, hk with
 | 0, _ => rw [show nodeAt a 0 = A0.nd from e0.symm]; exact quiet1_calls (h0.same hb) _
 | 1, _ => rw [show nodeAt a 1 = A1.nd from e1.symm]; exact quiet1_calls (h1.same hb) _
theorem allquiet_calls {a : Wd} {wy ak : Value} {w : World} (F : WF a wy ak w) (hq : ∀ (k : Nat), k < 2 → ∀ W, Below w.heap.size w W → Calls Tryz.prog 30 #[vI k, ptr (nodeAt a k)] W fun e w' => e = .returned (.bool true) ∧ Below W.heap.size W w') :
   Calls Tryz.prog 29 #[ptr a.wb, .func (.func 30) #[] #[]] w fun e w' => e = .returned (.bool true) ∧ Below w.heap.size w w' := by
 have hB2 : Below w.heap.size w ((w.alloc (.cells #[.func (.func 30) #[] #[]] 91)).alloc (.cells #[.bool false] 4)) := ((Below.refl _ w).alloc (Nat.le_refl _) _).alloc (by simp) _; have oF := (Ob.new w 91 #[.func (.func 30) #[] #[]]).alloc (.cells #[.bool false] 4); have oR := Ob.new (w.alloc (.cells #[.func (.func 30) #[] #[]] 91)) 4 #[.bool false]; simp only [World.size_alloc] at oR; have hs2 : ((w.alloc (.cells #[.func (.func 30) #[] #[]] 91)).alloc (.cells #[.bool false] 4)).heap.size = w.heap.size + 1 + 1 := by simp
 have cU := hdd (up_made (ptr a.wb) rfl ((w.alloc (.cells #[.func (.func 30) #[] #[]] 91)).alloc (.cells #[.bool false] 4))); have F2 := F.same hB2; have HQ := hdd hq; clear F hq; refine (callsIn_wide (n := 6)).1 ?_; refine callsIn_of_wp_marks Tryz.func29 rfl trivial ?_ rfl; simp only [Tryz.ntmps29, List.size_toArray, List.length_cons, List.length_nil, Nat.reduceAdd, Nat.reduceSub, Array.replicate_succ, Array.replicate_zero, List.push_toArray, List.append_toArray, List.nil_append, List.cons_append]
 gi_wp2_with (refine ⟨trivial, ?_⟩; gi_at_call 20; refine (callsIn_wide.2 cU.out).mono ?_; rintro e W' ⟨rfl, rfl⟩)
 generalize ((w.alloc (.cells #[.func (.func 30) #[] #[]] 91)).alloc (.cells #[.bool false] 4)) = w2 at *; clear cU; have hal := (Below.refl w2.heap.size w2).alloc (Nat.le_refl _) (.cells #[ptr a.wb] 26); have F3 := F2.same hal; have e4 := Ob.new w2 26 #[ptr a.wb]; rw [hs2] at e4; have oR3 := oR.alloc (.cells #[ptr a.wb] 26); have oF3 := oF.alloc (.cells #[ptr a.wb] 26); have hB3 := hB2.trans (hal.mono hB2.size); have hs3 : (w2.alloc (.cells #[ptr a.wb] 26)).heap.size = w2.heap.size + 1 := by simp
 generalize (w2.alloc (.cells #[ptr a.wb] 26)) = w3 at *; clear oF oR F2 hal
 refine Ru.range_reads (n := 6) rfl (by omega) (gf := 49) rfl trivial (enters_of Tryz.func49 (by kernel_rfl) rfl)
   (up_reads 5 (by omega) (w.heap.size + 1 + 1) F3 e4 (Below w3.heap.size) (fun A B hF hO hk => ⟨⟨(hk.block _ F3.n.lt).trans hF.n, (hk.block _ F3.e.lt).trans hF.e, hF.c⟩, (hk.block _ e4.lt).trans hO⟩)) (Below.refl _ _) (fun h k => h.trans k) (fun W l r r' hl h => belowK_b (Nat.le_refl _) W l _ _ hl h rfl rfl) (fun d v W h => by rw [h]; rfl)
   (fun _ V => Below w3.heap.size w3 V)
   (fun _ _ _ => False)
   (fun s A B row hs hg hr => ownFrom_below (B := w3.heap.size) (by omega) (by omega) s A B row hs hg (fun r e => ⟨(hr r e).1, let ⟨o, h1, h2, _⟩ := (hr r e).2; ⟨o, h1, h2⟩⟩))
   (fun c s A B row hs hg hr => hs.elim)
   (Below.refl _ _) ?round ?done ?stop
 case stop => exact fun D c pre W _ _ h => h.elim
 case round =>
   rintro l pre k v W hl hBW ⟨rfl, hlt⟩ rfl; gi_wp2; refine ⟨keeps_below _ (Below.refl _ _), Below.refl _ _, fun W2 hg2 ho2 => ?_⟩; have hB5 : Below w3.heap.size w3 W2 := hBW.grown hg2 hBW.size (fun j e => by cases e; omega); have z0 := (oF3.below hB5 oF3.lt).k 0 rfl; have cQ := hdd (HQ.out _ hlt W2 (hB3.trans (hB5.mono hB3.size))); clear hg2 ho2
   gi_wp2_with (refine ⟨trivial, ?_⟩; gi_at_call 30; refine (callsIn_wide.2 cQ.out).mono ?_; rintro e W4 ⟨rfl, hb4⟩)
   exact ⟨keeps_below _ hb4, hb4.mono hB5.size, hB5.trans (hb4.mono hB5.size)⟩
 case done =>
   rintro D xs V hD - hBV hK; have z0 := oR3.below hBV oR3.lt; have z1 := z0.k 0 rfl; have f1 := z0.frozen 0; gi_wp2; have hBw := hB3.trans (hBV.mono hB3.size); have z2 := z0.set 0 (.bool true); have hB5 := hBw.grown (grownBy_set V (w.heap.size + 1) 0 (.bool true)) (by have := hBw.size; omega) (fun j e => by cases e; omega); have hK5 : (V.setCell ⟨w.heap.size + 1, 0, none⟩ (.bool true)).heap[D]? = some (.deferred (some [])) := ((grownBy_set V (w.heap.size + 1) 0 (.bool true)).block D (Array.getElem?_eq_some_iff.1 hK).1 (fun e => by cases e; omega)).trans hK; refine ⟨by simp, .inl ⟨_, _, rfl, run_takeDeferred hK5, ?_⟩⟩; have g1 := (boxed_end z2 hK5).cell; refine ⟨.bool true, ?_, rfl, below_end hB5 (by have := hB3.size; omega) hK5⟩; simp [results, Tryz.f29, go_sem, g1]
end
section
open Go.RowKit Go.Maps
open Ce It Al Kp
theorem whole_calls {a : Wd} {wy ak : Value} {w : World} (F : WF a wy ak w) : Calls Tryz.prog 28 #[ptr a.wb] w fun e w' => e = .returned (.bool true) ∧ w = w' := by
 have cU := hdd (wup_calls F); have cR := hdd (wregions_calls F); clear F
 go_enter Tryz.func28, Tryz.ntmps28
 go_wp2_with fail; refine cU.out.mono ?_; rintro e W ⟨rfl, rfl⟩; go_wp2_with fail; refine cR.out.mono ?_; rintro e W ⟨rfl, rfl⟩; go_wp2; go_ret; exact ⟨rfl, rfl⟩
theorem quiet_calls {a : Wd} {wy ak : Value} {A0 A1 : Na} {m0 m1 t0 t1 c0 c1 : Nat} {s0 s1 : Sk.Stk} {w : World} (F : WF a wy ak w) (e0 : A0.nd = a.n0) (e1 : A1.nd = a.n1) (h0 : NX A0 m0 t0 c0 s0 w) (h1 : NX A1 m1 t1 c1 s1 w) :
   Calls Tryz.prog 11 #[ptr a.wb] w fun e w' => e = .returned (.bool true) ∧ Below w.heap.size w w' := by
 have cR := hdd (wregions_calls F); have cW := hdd (whole_calls F); have cA := hdd (allquiet_calls F (nodeAt_calls e0 e1 h0 h1)); clear F e0 e1 h0 h1
 go_enter Tryz.func11, Tryz.ntmps11
 go_wp2_with fail; refine cR.out.mono ?_; rintro e W ⟨rfl, rfl⟩
 go_wp2_with (first
   | (go_at_call 28; (with_reducible refine (cW.out).mono ?_); rintro e W ⟨rfl, rfl⟩)
   | (go_at_call 29; (with_reducible refine (cA.out).mono ?_); rintro e W ⟨rfl, hb⟩))
 go_wp2; go_ret; exact ⟨rfl, hb⟩
end
end Tp
end Go.Proofs.YtgcnhmjpfbbfcaaGreat
