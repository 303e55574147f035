/-
  part of the proof of TopNames.
-/
import Derived.Test.YtgcnhmjpfbbfcaaGreatTy20
set_option linter.unusedVariables false
set_option linter.unusedSimpArgs false
set_option maxRecDepth 100000
set_option maxHeartbeats 8000000
namespace Go.Proofs.YtgcnhmjpfbbfcaaGreat
namespace Tp
section
open Go.RowKit Go.Maps
open Ce It Al Kp
def stk1 : Sk.Stk := [([97], [5, 0, 0, 0, 5, 0, 0, 0, 0, 0, 0])]
theorem doS_itm : Sk.doS [] 1 itm = (stk1, 0) := by decide +kernel
theorem frees_none : gm iV (frees [] (Sk.keysS [])) = [] := rfl
theorem frees_one : gm iV (frees stk1 (Sk.keysS stk1)) = [([97], iV 5)] := by rfl
theorem rdo_calls {rg : Nat} {me fr : Int} {sv : Value} {r : List As} {w : World} (h : St (RegA rg me [] :: ItmA sv :: r) w) :
   Calls Tryz.prog 316 #[ptr rg, askV sv, vI fr] w fun e w' => ∃ v, e = .returned v ∧ St (RowA 306 17 v 1 (postY fr 12) :: RegA rg me stk1 :: ItmA sv :: r) w' := by
 obtain ⟨sh, mv, st, hm, s0⟩ := RegA.out h; obtain ⟨A, c, rfl, -⟩ := itm_form (h.sl 1 rfl); have s1 := (s0.obNew 32 #[vO, vI 1, vI 6, vO, vO, vO, vO, vE, .slice A 1 c]).obNew 39 #[vO, vI 1, vI 1, vO]; rw [World.size_alloc] at s1; have oA := s1.ob (b := w.heap.size) 1 rfl; have ⟨a0, a1, a2, a3, a4, a5, a6, a7, a8⟩ := oA.k9 rfl rfl rfl rfl rfl rfl rfl rfl rfl; have HS := hdd s1; have HL := hdd (s0.ob (b := rg) 0 rfl).lt; have g2 := (s1.ob (b := rg) 2 rfl).k 2 rfl; clear h s0 oA s1
 go_enter Tryz.func316, Tryz.ntmps316
 go_wp2_with fail; refine (kindof_calls _).mono ?_; rintro e W ⟨rfl, rfl⟩; have z1 : rg ≠ w.heap.size + 1 := by have := HL.out; omega
 have z2 : w.heap.size + 1 ≠ rg := by have := HL.out; omega
 clear HL; go_wp2; have s1 := HS.out; generalize ((w.alloc (.cells #[vO, vI 1, vI 6, vO, vO, vO, vO, vE, .slice A 1 c] 32)).alloc (.cells #[vO, vI 1, vI 1, vO] 39)) = W at *; have s2 := ((s1.drew).take [3, 3, 3, 2, 1, 0]); simp only [takeOut, zzD, zzE, zzF, zzG, zzH, zzI] at s2; have cD := hdd (sdo_calls s2 fits_itm); rw [doS_itm] at cD; clear s1 s2 HS a0 a1 a2 a3 a4 a5 a6 a7
 go_region_held3 (fun V => V.cell? ⟨rg, 2, none⟩ = some (ptr sh) ∧ V.cell? ⟨w.heap.size, 8, none⟩ = some (.slice A 1 c)) (go_keep) ((first | (go_at_call 392; (with_reducible refine (cD.out).mono ?_); rintro e2 V1 ⟨rfl, s3⟩); have g2 := (s3.ob (b := rg) 3 rfl).k 2 rfl; have a8 := (s3.ob (b := w.heap.size) 4 rfl).k 8 rfl; have fy := (s3.ob (b := w.heap.size + 1) 5 rfl).frozen 2; have gy := (s3.ob (b := w.heap.size + 1) 5 rfl).k 2 rfl))
 have s4 : St (ObA (w.heap.size + 1) 39 #[vO, vI 1, vO, vO] :: _) _ := (s3.front 5 rfl).set 2 vO; simp only [zzH, zzI, zzG, zzF, List.length_cons, List.length_nil] at s4; have oY := s4.ob (b := w.heap.size + 1) 0 rfl; have ⟨y0, y1, y2, y3⟩ := oY.k4 rfl rfl rfl rfl; have s5 := s4.rowNil 306 17; clear oY s3 cD gy fy; generalize V1.setCell ⟨w.heap.size + 1, 2, none⟩ vO = V2 at *; have sL0 := (s5).alloc (.cells #[vI fr, vI 12, vO, vN, vO, vO, vO, vO, vO, vO, vO, vE, vN, vO, vI 1, vO, vO] 306); have slL := Sl.new (V2) #[vI fr, vI 12, vO, vN, vO, vO, vO, vO, vO, vO, vO, vE, vN, vO, vI 1, vO, vO] 306 (n := 1) (size := 17) rfl (by unfold maxLen; omega); obtain ⟨iL, hiL, hzL0, hzL1, hzL2⟩ := inf3 post_info; go_wp2_with (first | (at_builtin; refine wpList_append_sl _ rfl (.tmp 62) (.tmp 67) _ rfl 0 306 iL _ 17 176 Tryz.underlying143 hiL hzL0 hzL1 hzL2 rfl (by omega) vN 0 [] rfl (sL0.own 0 rfl) _ _ _ 1 [vI fr, vI 12, vO, vN, vO, vO, vO, vO, vO, vO, vO, vE, vN, vO, vI 1, vO, vO] rfl slL (by simp [Value.oneCell']) (by unfold maxLen; omega) (by omega) (by simp) ?_; intro v9 W9 hv9 hg9 hat9; simp only [Nat.zero_add, List.nil_append] at hv9; obtain ⟨A9, c9, hv9e, -⟩ := (Sl.of_own hv9).at_; subst hv9e; have sL1 := (sL0.front 0 rfl).row hv9 hg9 hat9; clear hg9 hat9 hv9 slL sL0)); have s6 := ((sL1).take [1, 5, 4, 1, 1, 0, 0]); simp only [takeOut, zzD, zzE, zzF, zzG, zzH, zzI] at s6; replace s6 := s6.drop.drop; have s7 := RegA.mk s6; have s8 := ((s7).take [1, 0, 0])
 simp only [takeOut, zzD, zzE, zzF, zzG, zzH, zzI] at s8; go_ret; exact ⟨_, rfl, s8⟩
end
section
open Go.RowKit Go.Maps
theorem has_calls (w : World) : Calls Tryz.prog 134 #[vI 6] w fun e w' => e = .returned (.string ⟨#[114, 105]⟩) ∧ w = w' := by
 go_enter Tryz.func134, Tryz.ntmps134
 go_wp2; go_ret; exact ⟨rfl, rfl⟩
theorem has0_calls (w : World) : Calls Tryz.prog 134 #[vO] w fun e w' => e = .returned vE ∧ w = w' := by
 go_enter Tryz.func134, Tryz.ntmps134
 go_wp2; go_ret; exact ⟨rfl, rfl⟩
theorem within_calls (n a b : Int) (w : World) : Calls Tryz.prog 138 #[vI n, vI a, vI b] w fun e w' => e = .returned (.bool (decide (a ≤ n) && decide (n ≤ b))) ∧ w = w' := by
 go_enter Tryz.func138, Tryz.ntmps138
 by_cases h : a ≤ n
 · have hd : decide (a ≤ n) = true := by simpa using h
   go_wp2; go_ret; exact ⟨by simp [h], rfl⟩
 · have hd : decide (a ≤ n) = false := by simpa using h
   go_wp2; go_ret; exact ⟨by simp, rfl⟩
end
section
open Go.RowKit Go.Maps
open Ce It
theorem contains_calls (s : ByteArray) (c : UInt8) (w : World) : Calls Tryz.prog 136 #[.string s, .string ⟨#[c]⟩] w fun e w' => e = .returned (.bool (decide (0 ≤ Lib.indexByte s.data.toList c))) ∧ w = w' :=
 (Any.strings_Contains_one Tryz.con136 s c w).mono fun _ _ h => ⟨h.1, h.2.symm⟩
def inB (s : ByteArray) (c : UInt8) : Bool := decide (0 ≤ Lib.indexByte s.data.toList c)
theorem ri_o : inB ⟨#[114, 105]⟩ 111 = false := by decide +kernel
theorem ri_t : inB ⟨#[114, 105]⟩ 116 = false := by decide +kernel
theorem ri_g : inB ⟨#[114, 105]⟩ 103 = false := by decide +kernel
theorem ri_r : inB ⟨#[114, 105]⟩ 114 = true := by decide +kernel
theorem ri_i : inB ⟨#[114, 105]⟩ 105 = true := by decide +kernel
theorem a_a : inB ⟨#[97]⟩ 97 = true := by decide +kernel
theorem a_o : inB ⟨#[97]⟩ 111 = false := by decide +kernel
theorem a_i : inB ⟨#[97]⟩ 105 = false := by decide +kernel
theorem a_y : inB ⟨#[97]⟩ 121 = false := by decide +kernel
theorem y_a : inB ⟨#[121]⟩ 97 = false := by decide +kernel
theorem y_o : inB ⟨#[121]⟩ 111 = false := by decide +kernel
theorem y_i : inB ⟨#[121]⟩ 105 = false := by decide +kernel
theorem y_y : inB ⟨#[121]⟩ 121 = true := by decide +kernel
theorem n_any (c : UInt8) (h : c = 97 ∨ c = 111 ∨ c = 105 ∨ c = 121) : inB ⟨#[]⟩ c = false := by rcases h with rfl | rfl | rfl | rfl <;> decide +kernel
theorem right_yes (s : ByteArray) (c : UInt8) (m e : Bool) (bx : Nat) (w : World) (h : w.cell? ⟨bx, 0, none⟩ = some (.string s)) (hc : inB s c = true) :
   Calls Tryz.prog 135 #[.string ⟨#[c]⟩, .bool m, .bool e, ptr bx] w fun e w' => e = .returned (.bool m) ∧ w = w' := by
 have cC := contains_calls s c w; rw [show decide (0 ≤ Lib.indexByte s.data.toList c) = true from hc] at cC; have CC := hdd cC; clear hc cC
 go_enter Tryz.func135, Tryz.ntmps135
 go_wp2_with fail; refine (CC.out).mono ?_; rintro e W ⟨rfl, rfl⟩; go_wp2; go_ret; exact ⟨rfl, rfl⟩
theorem right_no (s : ByteArray) (c : UInt8) (m e : Bool) (bx : Nat) (w : World) (h : w.cell? ⟨bx, 0, none⟩ = some (.string s)) (hc : inB s c = false) :
   Calls Tryz.prog 135 #[.string ⟨#[c]⟩, .bool m, .bool e, ptr bx] w fun e' w' => e' = .returned (.bool e) ∧ w = w' := by
 have cC := contains_calls s c w; rw [show decide (0 ≤ Lib.indexByte s.data.toList c) = false from hc] at cC; have CC := hdd cC; clear hc cC
 go_enter Tryz.func135, Tryz.ntmps135
 go_wp2_with fail; refine (CC.out).mono ?_; rintro e W ⟨rfl, rfl⟩; go_wp2; go_ret; exact ⟨rfl, rfl⟩
theorem home_calls (w : World) : Calls Tryz.prog 180 #[vO, vI 2] w fun e w' => e = .returned vO ∧ w = w' := by
 go_enter Tryz.func180, Tryz.ntmps180
 go_wp2; go_ret; exact ⟨rfl, rfl⟩
theorem mayn_calls (sv : Value) (w : World) : Calls Tryz.prog 141 #[askV sv] w fun e w' => e = .returned (.bool true) ∧ Below w.heap.size w w' := by
 go_enter Tryz.func141, Tryz.ntmps141
 go_wp2; go_ret; exact ⟨rfl, (Below.refl _ w).alloc (Nat.le_refl _) _⟩
theorem isreg_calls (w : World) : Calls Tryz.prog 137 #[vO] w fun e w' => e = .returned (.bool true) ∧ w = w' := by
 go_enter Tryz.func137, Tryz.ntmps137
 go_wp2_with fail; refine (within_calls _ _ _ _).mono ?_; rintro e W ⟨rfl, rfl⟩; go_wp2; go_ret; exact ⟨rfl, rfl⟩
theorem _root_.Go.Proofs.YtgcnhmjpfbbfcaaGreat.Ob.dr {w w' : World} {b : Nat} {t : TypeId} {cs : Array Value} (h : Ob w b t cs) (hb : Below w.drew.heap.size w.drew w') : Ob w' b t cs := (hb.block b h.lt).trans h
theorem win_t {n a b : Int} (h : a ≤ n) (h2 : n ≤ b) (w : World) : Calls Tryz.prog 138 #[vI n, vI a, vI b] w fun e w' => e = .returned (.bool true) ∧ w = w' := by
 have := within_calls n a b w
 rwa [decide_eq_true h, decide_eq_true h2] at this
theorem win_f {n a b : Int} (h : ¬ a ≤ n) (w : World) : Calls Tryz.prog 138 #[vI n, vI a, vI b] w fun e w' => e = .returned (.bool false) ∧ w = w' := by
 have := within_calls n a b w
 rwa [decide_eq_false h, Bool.false_and] at this
theorem good_none (w : World) : Calls Tryz.prog 139 #[vE] w fun e w' => e = .returned (.bool false) ∧ Below w.heap.size w w' := good_calls ⟨#[]⟩ w (by decide)
theorem amay_calls {sv : Value} {w : World} (hI : ItemsAt w 0 w.heap.size sv itm) : Calls Tryz.prog 84 #[askV sv] w fun e w' => e = .returned (.bool true) ∧ Below w.heap.size w w' := by
 have hmf : ∀ (fn : Fn) (first cap : Array Value) (w : World), (Instr.makeFunc fn first cap).run Tryz.prog w = .ok (.func fn first cap) w := fun _ _ _ _ => rfl
 have cM := hdd (fun W hI => may_calls itm sv W hI fits_itm); rw [may_itm] at cM; have oA := (Ob.new w 32 #[vO, vI 1, vI 6, vO, vO, vO, vO, vE, sv]).alloc (.cells #[.string ⟨#[114, 105]⟩] 9); have oF := Ob.new (w.alloc (.cells #[vO, vI 1, vI 6, vO, vO, vO, vO, vE, sv] 32)) 9 #[.string ⟨#[114, 105]⟩]; rw [World.size_alloc] at oF; have hb : Below w.heap.size w ((w.alloc (.cells #[vO, vI 1, vI 6, vO, vO, vO, vO, vE, sv] 32)).alloc (.cells #[.string ⟨#[114, 105]⟩] 9)) := ((Below.refl _ w).alloc (Nat.le_refl _) _).alloc (by simp) _; have HI := hdd hI; obtain ⟨A, c, rfl, hc1⟩ := itm_form hI; clear hI
 go_enter Tryz.func84, Tryz.ntmps84
 go_wp2_with (go_at_call 134; (with_reducible refine (has_calls _).mono ?_); rintro e W ⟨rfl, rfl⟩); generalize ((w.alloc (.cells #[vO, vI 1, vI 6, vO, vO, vO, vO, vE, .slice A 1 c] 32)).alloc (.cells #[.string ⟨#[114, 105]⟩] 9)) = W2 at *; have k1 := oF.k 0 rfl; have ⟨q0, q1, q2, q3, q4, q5, q6, q7, q8⟩ := oA.k9 rfl rfl rfl rfl rfl rfl rfl rfl rfl; go_wp2_with (go_at_call 138; (with_reducible refine (win_t (by omega) (by omega) _).mono ?_); rintro e W ⟨rfl, rfl⟩); clear k1 q0 q1 q2 q3 q4 q5 q6 q7 q8; refine Pu.regionW (fun Wq => Below (W2).drew.heap.size (W2).drew Wq) Se.hmx (by kernel_rfl) (by kernel_rfl) (Below.refl _ _) rfl ?_
 iterate 22 (first
   | (refine Pu.Walk.off (by rfl) ?_; simp only [Act.put, zzA, zzB, zzC])
   | (apply Pu.Walk.on (by rfl)
      · intro V1 h1
        have oA1 := oA.dr h1; have ⟨q0, q1, q2, q3, q4, q5, q6, q7, q8⟩ := oA1.k9 rfl rfl rfl rfl rfl rfl rfl rfl rfl; have k1 := (oF.dr h1).k 0 rfl
        go_wp2_with (first
          | (go_at_call 138; (with_reducible refine (win_f (by omega) _).mono ?_); rintro e V2 ⟨rfl, rfl⟩)
          | (go_at_call 137; (with_reducible refine (isreg_calls _).mono ?_); rintro e V2 ⟨rfl, rfl⟩)
          | (go_at_call 135; (with_reducible refine (right_no ⟨#[114, 105]⟩ 111 _ _ _ _ k1 ri_o).mono ?_); rintro e V2 ⟨rfl, rfl⟩)
          | (go_at_call 135; (with_reducible refine (right_yes ⟨#[114, 105]⟩ 114 _ _ _ _ k1 ri_r).mono ?_); rintro e V2 ⟨rfl, rfl⟩))
        first
                 | (refine ⟨rfl, ?_, h1⟩; (try simp only [Act.put, zzA, zzB, zzC]); rfl)
                 | (refine ⟨rfl, ?_, h1.trans (hb9.mono h1.size)⟩; (try simp only [Act.put, zzA, zzB, zzC]); rfl)
      simp only [Act.put, zzA, zzB, zzC]))
 refine Pu.Walk.nil (fun Va ha => ?_); have hba := hb.drew.trans (ha.mono hb.size); have oA1 := oA.dr ha; have oF1 := oF.dr ha; clear ha oA oF hb; go_wp2; refine Pu.regionW (fun Wq => Below (Va).drew.heap.size (Va).drew Wq) Se.hmx (by kernel_rfl) (by kernel_rfl) (Below.refl _ _) rfl ?_
 iterate 29 (first
   | (refine Pu.Walk.off (by rfl) ?_; simp only [Act.put, zzA, zzB, zzC])
   | (apply Pu.Walk.on (by rfl)
      · intro V1 h1
        have oA2 := oA1.dr h1; have ⟨q0, q1, q2, q3, q4, q5, q6, q7, q8⟩ := oA2.k9 rfl rfl rfl rfl rfl rfl rfl rfl rfl; have k1 := (oF1.dr h1).k 0 rfl
        go_wp2_with (first
          | (go_at_call 137; (with_reducible refine (isreg_calls _).mono ?_); rintro e V2 ⟨rfl, rfl⟩)
          | (go_at_call 139; (with_reducible refine (good_none _).mono ?_); rintro e V2 ⟨rfl, hb9⟩)
          | (go_at_call 135; (with_reducible refine (right_no ⟨#[114, 105]⟩ 116 _ _ _ _ k1 ri_t).mono ?_); rintro e V2 ⟨rfl, rfl⟩)
          | (go_at_call 135; (with_reducible refine (right_no ⟨#[114, 105]⟩ 103 _ _ _ _ k1 ri_g).mono ?_); rintro e V2 ⟨rfl, rfl⟩))
        first
                 | (refine ⟨rfl, ?_, h1⟩; (try simp only [Act.put, zzA, zzB, zzC]); rfl)
                 | (refine ⟨rfl, ?_, h1.trans (hb9.mono h1.size)⟩; (try simp only [Act.put, zzA, zzB, zzC]); rfl)
      simp only [Act.put, zzA, zzB, zzC]))
 refine Pu.Walk.nil (fun Vb hb => ?_); have hbb := hba.drew.trans (hb.mono hba.size); have oA2 := oA1.dr hb; have oF2 := oF1.dr hb; clear hb oA1 oF1 hba; go_wp2; refine Pu.regionW (fun Wq => Below (Vb).drew.heap.size (Vb).drew Wq) Se.hmx (by kernel_rfl) (by kernel_rfl) (Below.refl _ _) rfl ?_
 iterate 20 (first
   | (refine Pu.Walk.off (by rfl) ?_; simp only [Act.put, zzA, zzB, zzC])
   | (apply Pu.Walk.on (by rfl)
      · intro V1 h1
        have oA3 := oA2.dr h1; have ⟨q0, q1, q2, q3, q4, q5, q6, q7, q8⟩ := oA3.k9 rfl rfl rfl rfl rfl rfl rfl rfl rfl; have k1 := (oF2.dr h1).k 0 rfl; have hI1 := HI.out.mono (hbb.drew.trans (h1.mono hbb.size)) (hbb.drew.trans (h1.mono hbb.size)).size
        go_wp2_with (first
          | (go_at_call 140; (with_reducible refine (cM.out _ hI1).mono ?_); rintro e V2 ⟨rfl, hb9⟩)
          | (go_at_call 135; (with_reducible refine (right_yes ⟨#[114, 105]⟩ 105 _ _ _ _ k1 ri_i).mono ?_); rintro e V2 ⟨rfl, rfl⟩)
          | (go_at_call 141; (with_reducible refine (mayn_calls _ _).mono ?_); rintro e V2 ⟨rfl, hb9⟩))
        first
                 | (refine ⟨rfl, ?_, h1⟩; (try simp only [Act.put, zzA, zzB, zzC]); rfl)
                 | (refine ⟨rfl, ?_, h1.trans (hb9.mono h1.size)⟩; (try simp only [Act.put, zzA, zzB, zzC]); rfl)
      simp only [Act.put, zzA, zzB, zzC]))
 refine Pu.Walk.nil (fun Vc hc => ?_); go_wp2; go_ret; exact ⟨rfl, hbb.drew.trans (hc.mono hbb.size)⟩
theorem amay_none (w : World) : Calls Tryz.prog 84 #[ask0] w fun e w' => e = .returned (.bool false) ∧ Below w.heap.size w w' := by
 have hmf : ∀ (fn : Fn) (first cap : Array Value) (w : World), (Instr.makeFunc fn first cap).run Tryz.prog w = .ok (.func fn first cap) w := fun _ _ _ _ => rfl
 have hb : Below w.heap.size w ((w.alloc (.cells #[vO, vO, vO, vO, vO, vO, vO, vE, vN] 32)).alloc (.cells #[vE] 9)) := ((Below.refl _ w).alloc (Nat.le_refl _) _).alloc (by simp) _
 go_enter Tryz.func84, Tryz.ntmps84
 go_wp2_with (go_at_call 134; (with_reducible refine (has0_calls _).mono ?_); rintro e W ⟨rfl, rfl⟩); go_wp2; go_ret; exact ⟨rfl, hb⟩
theorem equal_none (w : World) : Calls Tryz.prog 284 #[vN, vN] w fun e w' => e = .returned (.bool true) ∧ w = w' := by
 go_enter Tryz.func284, Tryz.ntmps284
 go_wp2
 go_loop [13] (fun i => i = vO) (fun _ => 1)
 case atStart => rfl
 case round =>
   subst hrel; go_wp2; go_ret; exact ⟨rfl, rfl⟩
theorem same_no (sv : Value) (w : World) (hs : ∃ A n c, sv = .slice A n c) : Calls Tryz.prog 302 #[askV sv, ask0] w fun e w' => e = .returned (.bool false) ∧ Below w.heap.size w w' := by
 obtain ⟨A, n, c, rfl⟩ := hs; have hb : Below w.heap.size w ((w.alloc (.cells #[vO, vI 1, vI 6, vO, vO, vO, vO, vE, .slice A n c] 32)).alloc (.cells #[vO, vO, vO, vO, vO, vO, vO, vE, vN] 32)) := ((Below.refl _ w).alloc (Nat.le_refl _) _).alloc (by simp) _
 go_enter Tryz.func302, Tryz.ntmps302
 go_wp2; go_ret; exact ⟨rfl, hb⟩
theorem same_yes (w : World) : Calls Tryz.prog 302 #[ask0, ask0] w fun e w' => e = .returned (.bool true) ∧ Below w.heap.size w w' := by
 have hb : Below w.heap.size w ((w.alloc (.cells #[vO, vO, vO, vO, vO, vO, vO, vE, vN] 32)).alloc (.cells #[vO, vO, vO, vO, vO, vO, vO, vE, vN] 32)) := ((Below.refl _ w).alloc (Nat.le_refl _) _).alloc (by simp) _
 go_enter Tryz.func302, Tryz.ntmps302
 go_wp2_with (go_at_call 284; (with_reducible refine (equal_none _).mono ?_); rintro e W ⟨rfl, rfl⟩); go_wp2; go_ret; exact ⟨rfl, hb⟩
end
end Tp
end Go.Proofs.YtgcnhmjpfbbfcaaGreat
