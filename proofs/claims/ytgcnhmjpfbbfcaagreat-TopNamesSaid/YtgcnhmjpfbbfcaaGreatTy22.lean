/-
  part of the proof of TopNames.
-/
import Derived.Test.YtgcnhmjpfbbfcaaGreatTy21
set_option linter.unusedVariables false
set_option linter.unusedSimpArgs false
set_option maxRecDepth 100000
set_option maxHeartbeats 8000000
namespace Go.Proofs.YtgcnhmjpfbbfcaaGreat
namespace Tp
section
open Go.RowKit Go.Maps
open Ce It
theorem mhas_q (w : World) (k : Int) (hk : k = 1 ∨ k = 11) : Calls Tryz.prog 237 #[vI k] w fun e w' => e = .returned (.string ⟨#[97]⟩) ∧ w = w' := by
 rcases hk with rfl | rfl
 all_goals
   go_enter Tryz.func237, Tryz.ntmps237
   go_wp2; go_ret; exact ⟨rfl, rfl⟩
theorem mhas_y (w : World) (k : Int) (hk : k = 2 ∨ k = 12) : Calls Tryz.prog 237 #[vI k] w fun e w' => e = .returned (.string ⟨#[121]⟩) ∧ w = w' := by
 rcases hk with rfl | rfl
 all_goals
   go_enter Tryz.func237, Tryz.ntmps237
   go_wp2; go_ret; exact ⟨rfl, rfl⟩
theorem mhas_n (w : World) : Calls Tryz.prog 237 #[vI 14] w fun e w' => e = .returned vE ∧ w = w' := by
 go_enter Tryz.func237, Tryz.ntmps237
 go_wp2; go_ret; exact ⟨rfl, rfl⟩
theorem answers_calls (w : World) : Calls Tryz.prog 309 #[vI 11] w fun e w' => e = .returned (vI 12) ∧ w = w' := by
 go_enter Tryz.func309, Tryz.ntmps309
 go_wp2; go_ret; exact ⟨rfl, rfl⟩
theorem mayy_yes (w : World) : Calls Tryz.prog 303 #[.agg #[vO, vI 1, vO, vO]] w fun e w' => e = .returned (.bool true) ∧ Below w.heap.size w w' := by
 go_enter Tryz.func303, Tryz.ntmps303
 go_wp2; go_ret; exact ⟨rfl, (Below.refl _ w).alloc (Nat.le_refl _) _⟩
theorem mayy_no (w : World) : Calls Tryz.prog 303 #[.agg #[vO, vO, vO, vO]] w fun e w' => e = .returned (.bool false) ∧ Below w.heap.size w w' := by
 go_enter Tryz.func303, Tryz.ntmps303
 go_wp2; go_ret; exact ⟨rfl, (Below.refl _ w).alloc (Nat.le_refl _) _⟩
theorem mright_yes (s : ByteArray) (c : UInt8) (m e : Bool) (bx : Nat) (w : World) (h : w.cell? ⟨bx, 0, none⟩ = some (.string s)) (hc : inB s c = true) :
   Calls Tryz.prog 301 #[.string ⟨#[c]⟩, .bool m, .bool e, ptr bx] w fun e w' => e = .returned (.bool m) ∧ w = w' := by
 have cC := contains_calls s c w; rw [show decide (0 ≤ Lib.indexByte s.data.toList c) = true from hc] at cC; have CC := hdd cC; clear hc cC
 go_enter Tryz.func301, Tryz.ntmps301
 go_wp2_with fail; refine (CC.out).mono ?_; rintro e W ⟨rfl, rfl⟩; go_wp2; go_ret; exact ⟨rfl, rfl⟩
theorem mright_no (s : ByteArray) (c : UInt8) (m e : Bool) (bx : Nat) (w : World) (h : w.cell? ⟨bx, 0, none⟩ = some (.string s)) (hc : inB s c = false) :
   Calls Tryz.prog 301 #[.string ⟨#[c]⟩, .bool m, .bool e, ptr bx] w fun e' w' => e' = .returned (.bool e) ∧ w = w' := by
 have cC := contains_calls s c w; rw [show decide (0 ≤ Lib.indexByte s.data.toList c) = false from hc] at cC; have CC := hdd cC; clear hc cC
 go_enter Tryz.func301, Tryz.ntmps301
 go_wp2_with fail; refine (CC.out).mono ?_; rintro e W ⟨rfl, rfl⟩; go_wp2; go_ret; exact ⟨rfl, rfl⟩
theorem may_none (w : World) : Calls Tryz.prog 140 #[vN] w fun e w' => e = .returned (.bool true) ∧ Below w.heap.size w w' := by
 have h := may_calls [] vN w (ItemsAt.nil _ _ _) (fun x hx => by cases hx); rw [show It.may [] = true by decide +kernel] at h; exact h
theorem mmay_q1 {sv : Value} {w : World} (hI : ItemsAt w 0 w.heap.size sv itm) : Calls Tryz.prog 239 #[mailQ 1 sv] w fun e w' => e = .returned (.bool true) ∧ Below w.heap.size w w' := by
 have hmf : ∀ (fn : Fn) (first cap : Array Value) (w : World), (Instr.makeFunc fn first cap).run Tryz.prog w = .ok (.func fn first cap) w := fun _ _ _ _ => rfl
 have cM := hdd (fun W => may_none W); have HI := hdd hI; obtain ⟨A, c, rfl, hc1⟩ := itm_form hI; clear hI; have oA := (Ob.new w 304 #[vI 1, vO, vN, vO, vI 1, vI 6, vO, vO, vO, vO, vE, .slice A 1 c, vO, vO, vO, vO]).alloc (.cells #[.string ⟨#[97]⟩] 9); have oF := Ob.new (w.alloc (.cells #[vI 1, vO, vN, vO, vI 1, vI 6, vO, vO, vO, vO, vE, .slice A 1 c, vO, vO, vO, vO] 304)) 9 #[.string ⟨#[97]⟩]; rw [World.size_alloc] at oF; have hb : Below w.heap.size w ((w.alloc (.cells #[vI 1, vO, vN, vO, vI 1, vI 6, vO, vO, vO, vO, vE, .slice A 1 c, vO, vO, vO, vO] 304)).alloc (.cells #[.string ⟨#[97]⟩] 9)) := ((Below.refl _ w).alloc (Nat.le_refl _) _).alloc (by simp) _; have HH := hdd (fun W => mhas_q W 1 (by omega))
 go_enter Tryz.func239, Tryz.ntmps239
 go_wp2_with (go_at_call 237; (with_reducible refine (HH.out _).mono ?_); rintro e W ⟨rfl, rfl⟩); generalize ((w.alloc (.cells #[vI 1, vO, vN, vO, vI 1, vI 6, vO, vO, vO, vO, vE, .slice A 1 c, vO, vO, vO, vO] 304)).alloc (.cells #[.string ⟨#[97]⟩] 9)) = W2 at *; have ⟨q0, q1, q2, q3, q4, q5, q6, q7, q8, q9, q10, q11, q12, q13, q14, q15⟩ := oA.k16 rfl rfl rfl rfl rfl rfl rfl rfl rfl rfl rfl rfl rfl rfl rfl rfl; go_wp2; clear q0 q1 q2 q3 q4 q5 q6 q7 q8 q9 q10 q11 q12 q13 q14 q15; refine Pu.regionW (fun Wq => Below (W2).drew.heap.size (W2).drew Wq) Se.hmx (by kernel_rfl) (by kernel_rfl) (Below.refl _ _) rfl ?_
 iterate 27 (first
   | (refine Pu.Walk.off (by rfl) ?_; simp only [Act.put, zzA, zzB, zzC])
   | (apply Pu.Walk.on (by rfl)
      · intro V1 h1
        have oA1 := oA.dr h1; have ⟨q0, q1, q2, q3, q4, q5, q6, q7, q8, q9, q10, q11, q12, q13, q14, q15⟩ := oA1.k16 rfl rfl rfl rfl rfl rfl rfl rfl rfl rfl rfl rfl rfl rfl rfl rfl; have k1 := (oF.dr h1).k 0 rfl
        go_wp2_with (first
          | (go_at_call 140; (with_reducible refine (cM.out _).mono ?_); rintro e V2 ⟨rfl, hb9⟩)
          | (go_at_call 301; (with_reducible refine (mright_no ⟨#[97]⟩ 111 _ _ _ _ k1 a_o).mono ?_); rintro e V2 ⟨rfl, rfl⟩)
          | (go_at_call 301; (with_reducible refine (mright_no ⟨#[97]⟩ 105 _ _ _ _ k1 a_i).mono ?_); rintro e V2 ⟨rfl, rfl⟩))
        first
                 | (refine ⟨rfl, ?_, h1⟩; (try simp only [Act.put, zzA, zzB, zzC]); rfl)
                 | (refine ⟨rfl, ?_, h1.trans (hb9.mono h1.size)⟩; (try simp only [Act.put, zzA, zzB, zzC]); rfl)
      simp only [Act.put, zzA, zzB, zzC]))
 refine Pu.Walk.nil (fun Va ha => ?_); have hba := hb.drew.trans (ha.mono hb.size); have oA1 := oA.dr ha; have oF1 := oF.dr ha; clear ha oA oF hb; go_wp2; refine Pu.regionW (fun Wq => Below (Va).drew.heap.size (Va).drew Wq) Se.hmx (by kernel_rfl) (by kernel_rfl) (Below.refl _ _) rfl ?_
 iterate 21 (first
   | (refine Pu.Walk.off (by rfl) ?_; simp only [Act.put, zzA, zzB, zzC])
   | (apply Pu.Walk.on (by rfl)
      · intro V1 h1
        have oA2 := oA1.dr h1; have ⟨q0, q1, q2, q3, q4, q5, q6, q7, q8, q9, q10, q11, q12, q13, q14, q15⟩ := oA2.k16 rfl rfl rfl rfl rfl rfl rfl rfl rfl rfl rfl rfl rfl rfl rfl rfl; have k1 := (oF1.dr h1).k 0 rfl; have hI1 := HI.out.mono (hba.drew.trans (h1.mono hba.size)) (hba.drew.trans (h1.mono hba.size)).size
        go_wp2_with (first
          | (go_at_call 84; (with_reducible refine (amay_calls hI1).mono ?_); rintro e V2 ⟨rfl, hb9⟩)
          | (go_at_call 302; (with_reducible refine (same_no _ _ ⟨_, _, _, rfl⟩).mono ?_); rintro e V2 ⟨rfl, hb9⟩)
          | (go_at_call 301; (with_reducible refine (mright_yes ⟨#[97]⟩ 97 _ _ _ _ k1 a_a).mono ?_); rintro e V2 ⟨rfl, rfl⟩)
          | (go_at_call 303; (with_reducible refine (mayy_no _).mono ?_); rintro e V2 ⟨rfl, hb9⟩)
          | (go_at_call 301; (with_reducible refine (mright_no ⟨#[97]⟩ 121 _ _ _ _ k1 a_y).mono ?_); rintro e V2 ⟨rfl, rfl⟩))
        first
                 | (refine ⟨rfl, ?_, h1⟩; (try simp only [Act.put, zzA, zzB, zzC]); rfl)
                 | (refine ⟨rfl, ?_, h1.trans (hb9.mono h1.size)⟩; (try simp only [Act.put, zzA, zzB, zzC]); rfl)
      simp only [Act.put, zzA, zzB, zzC]))
 refine Pu.Walk.nil (fun Vb hb => ?_); go_wp2; go_ret; exact ⟨rfl, hba.drew.trans (hb.mono hba.size)⟩
theorem mmay_q11 {sv : Value} {w : World} (hI : ItemsAt w 0 w.heap.size sv itm) : Calls Tryz.prog 239 #[mailQ 11 sv] w fun e w' => e = .returned (.bool true) ∧ Below w.heap.size w w' := by
 have hmf : ∀ (fn : Fn) (first cap : Array Value) (w : World), (Instr.makeFunc fn first cap).run Tryz.prog w = .ok (.func fn first cap) w := fun _ _ _ _ => rfl
 have cM := hdd (fun W => may_none W); have HI := hdd hI; obtain ⟨A, c, rfl, hc1⟩ := itm_form hI; clear hI; have oA := (Ob.new w 304 #[vI 11, vO, vN, vO, vI 1, vI 6, vO, vO, vO, vO, vE, .slice A 1 c, vO, vO, vO, vO]).alloc (.cells #[.string ⟨#[97]⟩] 9); have oF := Ob.new (w.alloc (.cells #[vI 11, vO, vN, vO, vI 1, vI 6, vO, vO, vO, vO, vE, .slice A 1 c, vO, vO, vO, vO] 304)) 9 #[.string ⟨#[97]⟩]; rw [World.size_alloc] at oF; have hb : Below w.heap.size w ((w.alloc (.cells #[vI 11, vO, vN, vO, vI 1, vI 6, vO, vO, vO, vO, vE, .slice A 1 c, vO, vO, vO, vO] 304)).alloc (.cells #[.string ⟨#[97]⟩] 9)) := ((Below.refl _ w).alloc (Nat.le_refl _) _).alloc (by simp) _; have HH := hdd (fun W => mhas_q W 11 (by omega))
 go_enter Tryz.func239, Tryz.ntmps239
 go_wp2_with (go_at_call 237; (with_reducible refine (HH.out _).mono ?_); rintro e W ⟨rfl, rfl⟩); generalize ((w.alloc (.cells #[vI 11, vO, vN, vO, vI 1, vI 6, vO, vO, vO, vO, vE, .slice A 1 c, vO, vO, vO, vO] 304)).alloc (.cells #[.string ⟨#[97]⟩] 9)) = W2 at *; have ⟨q0, q1, q2, q3, q4, q5, q6, q7, q8, q9, q10, q11, q12, q13, q14, q15⟩ := oA.k16 rfl rfl rfl rfl rfl rfl rfl rfl rfl rfl rfl rfl rfl rfl rfl rfl; go_wp2; clear q0 q1 q2 q3 q4 q5 q6 q7 q8 q9 q10 q11 q12 q13 q14 q15; refine Pu.regionW (fun Wq => Below (W2).drew.heap.size (W2).drew Wq) Se.hmx (by kernel_rfl) (by kernel_rfl) (Below.refl _ _) rfl ?_
 iterate 27 (first
   | (refine Pu.Walk.off (by rfl) ?_; simp only [Act.put, zzA, zzB, zzC])
   | (apply Pu.Walk.on (by rfl)
      · intro V1 h1
        have oA1 := oA.dr h1; have ⟨q0, q1, q2, q3, q4, q5, q6, q7, q8, q9, q10, q11, q12, q13, q14, q15⟩ := oA1.k16 rfl rfl rfl rfl rfl rfl rfl rfl rfl rfl rfl rfl rfl rfl rfl rfl; have k1 := (oF.dr h1).k 0 rfl
        go_wp2_with (first
          | (go_at_call 140; (with_reducible refine (cM.out _).mono ?_); rintro e V2 ⟨rfl, hb9⟩)
          | (go_at_call 301; (with_reducible refine (mright_no ⟨#[97]⟩ 111 _ _ _ _ k1 a_o).mono ?_); rintro e V2 ⟨rfl, rfl⟩)
          | (go_at_call 301; (with_reducible refine (mright_no ⟨#[97]⟩ 105 _ _ _ _ k1 a_i).mono ?_); rintro e V2 ⟨rfl, rfl⟩))
        first
                 | (refine ⟨rfl, ?_, h1⟩; (try simp only [Act.put, zzA, zzB, zzC]); rfl)
                 | (refine ⟨rfl, ?_, h1.trans (hb9.mono h1.size)⟩; (try simp only [Act.put, zzA, zzB, zzC]); rfl)
      simp only [Act.put, zzA, zzB, zzC]))
 refine Pu.Walk.nil (fun Va ha => ?_); have hba := hb.drew.trans (ha.mono hb.size); have oA1 := oA.dr ha; have oF1 := oF.dr ha; clear ha oA oF hb; go_wp2; refine Pu.regionW (fun Wq => Below (Va).drew.heap.size (Va).drew Wq) Se.hmx (by kernel_rfl) (by kernel_rfl) (Below.refl _ _) rfl ?_
 iterate 21 (first
   | (refine Pu.Walk.off (by rfl) ?_; simp only [Act.put, zzA, zzB, zzC])
   | (apply Pu.Walk.on (by rfl)
      · intro V1 h1
        have oA2 := oA1.dr h1; have ⟨q0, q1, q2, q3, q4, q5, q6, q7, q8, q9, q10, q11, q12, q13, q14, q15⟩ := oA2.k16 rfl rfl rfl rfl rfl rfl rfl rfl rfl rfl rfl rfl rfl rfl rfl rfl; have k1 := (oF1.dr h1).k 0 rfl; have hI1 := HI.out.mono (hba.drew.trans (h1.mono hba.size)) (hba.drew.trans (h1.mono hba.size)).size
        go_wp2_with (first
          | (go_at_call 84; (with_reducible refine (amay_calls hI1).mono ?_); rintro e V2 ⟨rfl, hb9⟩)
          | (go_at_call 302; (with_reducible refine (same_no _ _ ⟨_, _, _, rfl⟩).mono ?_); rintro e V2 ⟨rfl, hb9⟩)
          | (go_at_call 301; (with_reducible refine (mright_yes ⟨#[97]⟩ 97 _ _ _ _ k1 a_a).mono ?_); rintro e V2 ⟨rfl, rfl⟩)
          | (go_at_call 303; (with_reducible refine (mayy_no _).mono ?_); rintro e V2 ⟨rfl, hb9⟩)
          | (go_at_call 301; (with_reducible refine (mright_no ⟨#[97]⟩ 121 _ _ _ _ k1 a_y).mono ?_); rintro e V2 ⟨rfl, rfl⟩))
        first
                 | (refine ⟨rfl, ?_, h1⟩; (try simp only [Act.put, zzA, zzB, zzC]); rfl)
                 | (refine ⟨rfl, ?_, h1.trans (hb9.mono h1.size)⟩; (try simp only [Act.put, zzA, zzB, zzC]); rfl)
      simp only [Act.put, zzA, zzB, zzC]))
 refine Pu.Walk.nil (fun Vb hb => ?_); go_wp2; go_ret; exact ⟨rfl, hba.drew.trans (hb.mono hba.size)⟩
theorem mmay_y2 (w : World) : Calls Tryz.prog 239 #[mailY 2] w fun e w' => e = .returned (.bool true) ∧ Below w.heap.size w w' := by
 have hmf : ∀ (fn : Fn) (first cap : Array Value) (w : World), (Instr.makeFunc fn first cap).run Tryz.prog w = .ok (.func fn first cap) w := fun _ _ _ _ => rfl
 have cM := hdd (fun W => may_none W); have oA := (Ob.new w 304 #[vI 2, vO, vN, vO, vO, vO, vO, vO, vO, vO, vE, vN, vO, vI 1, vO, vO]).alloc (.cells #[.string ⟨#[121]⟩] 9); have oF := Ob.new (w.alloc (.cells #[vI 2, vO, vN, vO, vO, vO, vO, vO, vO, vO, vE, vN, vO, vI 1, vO, vO] 304)) 9 #[.string ⟨#[121]⟩]; rw [World.size_alloc] at oF; have hb : Below w.heap.size w ((w.alloc (.cells #[vI 2, vO, vN, vO, vO, vO, vO, vO, vO, vO, vE, vN, vO, vI 1, vO, vO] 304)).alloc (.cells #[.string ⟨#[121]⟩] 9)) := ((Below.refl _ w).alloc (Nat.le_refl _) _).alloc (by simp) _; have HH := hdd (fun W => mhas_y W 2 (by omega))
 go_enter Tryz.func239, Tryz.ntmps239
 go_wp2_with (go_at_call 237; (with_reducible refine (HH.out _).mono ?_); rintro e W ⟨rfl, rfl⟩); generalize ((w.alloc (.cells #[vI 2, vO, vN, vO, vO, vO, vO, vO, vO, vO, vE, vN, vO, vI 1, vO, vO] 304)).alloc (.cells #[.string ⟨#[121]⟩] 9)) = W2 at *; have ⟨q0, q1, q2, q3, q4, q5, q6, q7, q8, q9, q10, q11, q12, q13, q14, q15⟩ := oA.k16 rfl rfl rfl rfl rfl rfl rfl rfl rfl rfl rfl rfl rfl rfl rfl rfl; go_wp2; clear q0 q1 q2 q3 q4 q5 q6 q7 q8 q9 q10 q11 q12 q13 q14 q15; refine Pu.regionW (fun Wq => Below (W2).drew.heap.size (W2).drew Wq) Se.hmx (by kernel_rfl) (by kernel_rfl) (Below.refl _ _) rfl ?_
 iterate 27 (first
   | (refine Pu.Walk.off (by rfl) ?_; simp only [Act.put, zzA, zzB, zzC])
   | (apply Pu.Walk.on (by rfl)
      · intro V1 h1
        have oA1 := oA.dr h1; have ⟨q0, q1, q2, q3, q4, q5, q6, q7, q8, q9, q10, q11, q12, q13, q14, q15⟩ := oA1.k16 rfl rfl rfl rfl rfl rfl rfl rfl rfl rfl rfl rfl rfl rfl rfl rfl; have k1 := (oF.dr h1).k 0 rfl
        go_wp2_with (first
          | (go_at_call 140; (with_reducible refine (cM.out _).mono ?_); rintro e V2 ⟨rfl, hb9⟩)
          | (go_at_call 301; (with_reducible refine (mright_no ⟨#[121]⟩ 111 _ _ _ _ k1 y_o).mono ?_); rintro e V2 ⟨rfl, rfl⟩)
          | (go_at_call 301; (with_reducible refine (mright_no ⟨#[121]⟩ 105 _ _ _ _ k1 y_i).mono ?_); rintro e V2 ⟨rfl, rfl⟩))
        first
                 | (refine ⟨rfl, ?_, h1⟩; (try simp only [Act.put, zzA, zzB, zzC]); rfl)
                 | (refine ⟨rfl, ?_, h1.trans (hb9.mono h1.size)⟩; (try simp only [Act.put, zzA, zzB, zzC]); rfl)
      simp only [Act.put, zzA, zzB, zzC]))
 refine Pu.Walk.nil (fun Va ha => ?_); have hba := hb.drew.trans (ha.mono hb.size); have oA1 := oA.dr ha; have oF1 := oF.dr ha; clear ha oA oF hb; go_wp2; refine Pu.regionW (fun Wq => Below (Va).drew.heap.size (Va).drew Wq) Se.hmx (by kernel_rfl) (by kernel_rfl) (Below.refl _ _) rfl ?_
 iterate 21 (first
   | (refine Pu.Walk.off (by rfl) ?_; simp only [Act.put, zzA, zzB, zzC])
   | (apply Pu.Walk.on (by rfl)
      · intro V1 h1
        have oA2 := oA1.dr h1; have ⟨q0, q1, q2, q3, q4, q5, q6, q7, q8, q9, q10, q11, q12, q13, q14, q15⟩ := oA2.k16 rfl rfl rfl rfl rfl rfl rfl rfl rfl rfl rfl rfl rfl rfl rfl rfl; have k1 := (oF1.dr h1).k 0 rfl
        go_wp2_with (first
          | (go_at_call 84; (with_reducible refine (amay_none _).mono ?_); rintro e V2 ⟨rfl, hb9⟩)
          | (go_at_call 302; (with_reducible refine (same_yes _).mono ?_); rintro e V2 ⟨rfl, hb9⟩)
          | (go_at_call 301; (with_reducible refine (mright_no ⟨#[121]⟩ 97 _ _ _ _ k1 y_a).mono ?_); rintro e V2 ⟨rfl, rfl⟩)
          | (go_at_call 303; (with_reducible refine (mayy_yes _).mono ?_); rintro e V2 ⟨rfl, hb9⟩)
          | (go_at_call 301; (with_reducible refine (mright_yes ⟨#[121]⟩ 121 _ _ _ _ k1 y_y).mono ?_); rintro e V2 ⟨rfl, rfl⟩))
        first
                 | (refine ⟨rfl, ?_, h1⟩; (try simp only [Act.put, zzA, zzB, zzC]); rfl)
                 | (refine ⟨rfl, ?_, h1.trans (hb9.mono h1.size)⟩; (try simp only [Act.put, zzA, zzB, zzC]); rfl)
      simp only [Act.put, zzA, zzB, zzC]))
 refine Pu.Walk.nil (fun Vb hb => ?_); go_wp2; go_ret; exact ⟨rfl, hba.drew.trans (hb.mono hba.size)⟩
theorem mmay_y12 (w : World) : Calls Tryz.prog 239 #[mailY 12] w fun e w' => e = .returned (.bool true) ∧ Below w.heap.size w w' := by
 have hmf : ∀ (fn : Fn) (first cap : Array Value) (w : World), (Instr.makeFunc fn first cap).run Tryz.prog w = .ok (.func fn first cap) w := fun _ _ _ _ => rfl
 have cM := hdd (fun W => may_none W); have oA := (Ob.new w 304 #[vI 12, vO, vN, vO, vO, vO, vO, vO, vO, vO, vE, vN, vO, vI 1, vO, vO]).alloc (.cells #[.string ⟨#[121]⟩] 9); have oF := Ob.new (w.alloc (.cells #[vI 12, vO, vN, vO, vO, vO, vO, vO, vO, vO, vE, vN, vO, vI 1, vO, vO] 304)) 9 #[.string ⟨#[121]⟩]; rw [World.size_alloc] at oF; have hb : Below w.heap.size w ((w.alloc (.cells #[vI 12, vO, vN, vO, vO, vO, vO, vO, vO, vO, vE, vN, vO, vI 1, vO, vO] 304)).alloc (.cells #[.string ⟨#[121]⟩] 9)) := ((Below.refl _ w).alloc (Nat.le_refl _) _).alloc (by simp) _; have HH := hdd (fun W => mhas_y W 12 (by omega))
 go_enter Tryz.func239, Tryz.ntmps239
 go_wp2_with (go_at_call 237; (with_reducible refine (HH.out _).mono ?_); rintro e W ⟨rfl, rfl⟩); generalize ((w.alloc (.cells #[vI 12, vO, vN, vO, vO, vO, vO, vO, vO, vO, vE, vN, vO, vI 1, vO, vO] 304)).alloc (.cells #[.string ⟨#[121]⟩] 9)) = W2 at *; have ⟨q0, q1, q2, q3, q4, q5, q6, q7, q8, q9, q10, q11, q12, q13, q14, q15⟩ := oA.k16 rfl rfl rfl rfl rfl rfl rfl rfl rfl rfl rfl rfl rfl rfl rfl rfl; go_wp2; clear q0 q1 q2 q3 q4 q5 q6 q7 q8 q9 q10 q11 q12 q13 q14 q15; refine Pu.regionW (fun Wq => Below (W2).drew.heap.size (W2).drew Wq) Se.hmx (by kernel_rfl) (by kernel_rfl) (Below.refl _ _) rfl ?_
 iterate 27 (first
   | (refine Pu.Walk.off (by rfl) ?_; simp only [Act.put, zzA, zzB, zzC])
   | (apply Pu.Walk.on (by rfl)
      · intro V1 h1
        have oA1 := oA.dr h1; have ⟨q0, q1, q2, q3, q4, q5, q6, q7, q8, q9, q10, q11, q12, q13, q14, q15⟩ := oA1.k16 rfl rfl rfl rfl rfl rfl rfl rfl rfl rfl rfl rfl rfl rfl rfl rfl; have k1 := (oF.dr h1).k 0 rfl
        go_wp2_with (first
          | (go_at_call 140; (with_reducible refine (cM.out _).mono ?_); rintro e V2 ⟨rfl, hb9⟩)
          | (go_at_call 301; (with_reducible refine (mright_no ⟨#[121]⟩ 111 _ _ _ _ k1 y_o).mono ?_); rintro e V2 ⟨rfl, rfl⟩)
          | (go_at_call 301; (with_reducible refine (mright_no ⟨#[121]⟩ 105 _ _ _ _ k1 y_i).mono ?_); rintro e V2 ⟨rfl, rfl⟩))
        first
                 | (refine ⟨rfl, ?_, h1⟩; (try simp only [Act.put, zzA, zzB, zzC]); rfl)
                 | (refine ⟨rfl, ?_, h1.trans (hb9.mono h1.size)⟩; (try simp only [Act.put, zzA, zzB, zzC]); rfl)
      simp only [Act.put, zzA, zzB, zzC]))
 refine Pu.Walk.nil (fun Va ha => ?_); have hba := hb.drew.trans (ha.mono hb.size); have oA1 := oA.dr ha; have oF1 := oF.dr ha; clear ha oA oF hb; go_wp2; refine Pu.regionW (fun Wq => Below (Va).drew.heap.size (Va).drew Wq) Se.hmx (by kernel_rfl) (by kernel_rfl) (Below.refl _ _) rfl ?_
 iterate 21 (first
   | (refine Pu.Walk.off (by rfl) ?_; simp only [Act.put, zzA, zzB, zzC])
   | (apply Pu.Walk.on (by rfl)
      · intro V1 h1
        have oA2 := oA1.dr h1; have ⟨q0, q1, q2, q3, q4, q5, q6, q7, q8, q9, q10, q11, q12, q13, q14, q15⟩ := oA2.k16 rfl rfl rfl rfl rfl rfl rfl rfl rfl rfl rfl rfl rfl rfl rfl rfl; have k1 := (oF1.dr h1).k 0 rfl
        go_wp2_with (first
          | (go_at_call 84; (with_reducible refine (amay_none _).mono ?_); rintro e V2 ⟨rfl, hb9⟩)
          | (go_at_call 302; (with_reducible refine (same_yes _).mono ?_); rintro e V2 ⟨rfl, hb9⟩)
          | (go_at_call 301; (with_reducible refine (mright_no ⟨#[121]⟩ 97 _ _ _ _ k1 y_a).mono ?_); rintro e V2 ⟨rfl, rfl⟩)
          | (go_at_call 303; (with_reducible refine (mayy_yes _).mono ?_); rintro e V2 ⟨rfl, hb9⟩)
          | (go_at_call 301; (with_reducible refine (mright_yes ⟨#[121]⟩ 121 _ _ _ _ k1 y_y).mono ?_); rintro e V2 ⟨rfl, rfl⟩))
        first
                 | (refine ⟨rfl, ?_, h1⟩; (try simp only [Act.put, zzA, zzB, zzC]); rfl)
                 | (refine ⟨rfl, ?_, h1.trans (hb9.mono h1.size)⟩; (try simp only [Act.put, zzA, zzB, zzC]); rfl)
      simp only [Act.put, zzA, zzB, zzC]))
 refine Pu.Walk.nil (fun Vb hb => ?_); go_wp2; go_ret; exact ⟨rfl, hba.drew.trans (hb.mono hba.size)⟩
theorem mmay_n (w : World) : Calls Tryz.prog 239 #[mailN] w fun e w' => e = .returned (.bool true) ∧ Below w.heap.size w w' := by
 have hmf : ∀ (fn : Fn) (first cap : Array Value) (w : World), (Instr.makeFunc fn first cap).run Tryz.prog w = .ok (.func fn first cap) w := fun _ _ _ _ => rfl
 have cM := hdd (fun W => may_none W); have oA := (Ob.new w 304 #[vI 14, vO, vN, vO, vO, vO, vO, vO, vO, vO, vE, vN, vO, vO, vO, vO]).alloc (.cells #[vE] 9); have oF := Ob.new (w.alloc (.cells #[vI 14, vO, vN, vO, vO, vO, vO, vO, vO, vO, vE, vN, vO, vO, vO, vO] 304)) 9 #[vE]; rw [World.size_alloc] at oF; have hb : Below w.heap.size w ((w.alloc (.cells #[vI 14, vO, vN, vO, vO, vO, vO, vO, vO, vO, vE, vN, vO, vO, vO, vO] 304)).alloc (.cells #[vE] 9)) := ((Below.refl _ w).alloc (Nat.le_refl _) _).alloc (by simp) _; have HH := hdd (fun W => mhas_n W)
 go_enter Tryz.func239, Tryz.ntmps239
 go_wp2_with (go_at_call 237; (with_reducible refine (HH.out _).mono ?_); rintro e W ⟨rfl, rfl⟩); generalize ((w.alloc (.cells #[vI 14, vO, vN, vO, vO, vO, vO, vO, vO, vO, vE, vN, vO, vO, vO, vO] 304)).alloc (.cells #[vE] 9)) = W2 at *; have ⟨q0, q1, q2, q3, q4, q5, q6, q7, q8, q9, q10, q11, q12, q13, q14, q15⟩ := oA.k16 rfl rfl rfl rfl rfl rfl rfl rfl rfl rfl rfl rfl rfl rfl rfl rfl; go_wp2; clear q0 q1 q2 q3 q4 q5 q6 q7 q8 q9 q10 q11 q12 q13 q14 q15; refine Pu.regionW (fun Wq => Below (W2).drew.heap.size (W2).drew Wq) Se.hmx (by kernel_rfl) (by kernel_rfl) (Below.refl _ _) rfl ?_
 iterate 27 (first
   | (refine Pu.Walk.off (by rfl) ?_; simp only [Act.put, zzA, zzB, zzC])
   | (apply Pu.Walk.on (by rfl)
      · intro V1 h1
        have oA1 := oA.dr h1; have ⟨q0, q1, q2, q3, q4, q5, q6, q7, q8, q9, q10, q11, q12, q13, q14, q15⟩ := oA1.k16 rfl rfl rfl rfl rfl rfl rfl rfl rfl rfl rfl rfl rfl rfl rfl rfl; have k1 := (oF.dr h1).k 0 rfl
        go_wp2_with (first
          | (go_at_call 140; (with_reducible refine (cM.out _).mono ?_); rintro e V2 ⟨rfl, hb9⟩)
          | (go_at_call 301; (with_reducible refine (mright_no ⟨#[]⟩ 111 _ _ _ _ k1 (n_any 111 (.inr (.inl rfl)))).mono ?_); rintro e V2 ⟨rfl, rfl⟩)
          | (go_at_call 301; (with_reducible refine (mright_no ⟨#[]⟩ 105 _ _ _ _ k1 (n_any 105 (.inr (.inr (.inl rfl))))).mono ?_); rintro e V2 ⟨rfl, rfl⟩))
        first
                 | (refine ⟨rfl, ?_, h1⟩; (try simp only [Act.put, zzA, zzB, zzC]); rfl)
                 | (refine ⟨rfl, ?_, h1.trans (hb9.mono h1.size)⟩; (try simp only [Act.put, zzA, zzB, zzC]); rfl)
      simp only [Act.put, zzA, zzB, zzC]))
 refine Pu.Walk.nil (fun Va ha => ?_); have hba := hb.drew.trans (ha.mono hb.size); have oA1 := oA.dr ha; have oF1 := oF.dr ha; clear ha oA oF hb; go_wp2; refine Pu.regionW (fun Wq => Below (Va).drew.heap.size (Va).drew Wq) Se.hmx (by kernel_rfl) (by kernel_rfl) (Below.refl _ _) rfl ?_
 iterate 21 (first
   | (refine Pu.Walk.off (by rfl) ?_; simp only [Act.put, zzA, zzB, zzC])
   | (apply Pu.Walk.on (by rfl)
      · intro V1 h1
        have oA2 := oA1.dr h1; have ⟨q0, q1, q2, q3, q4, q5, q6, q7, q8, q9, q10, q11, q12, q13, q14, q15⟩ := oA2.k16 rfl rfl rfl rfl rfl rfl rfl rfl rfl rfl rfl rfl rfl rfl rfl rfl; have k1 := (oF1.dr h1).k 0 rfl
        go_wp2_with (first
          | (go_at_call 84; (with_reducible refine (amay_none _).mono ?_); rintro e V2 ⟨rfl, hb9⟩)
          | (go_at_call 302; (with_reducible refine (same_yes _).mono ?_); rintro e V2 ⟨rfl, hb9⟩)
          | (go_at_call 301; (with_reducible refine (mright_no ⟨#[]⟩ 97 _ _ _ _ k1 (n_any 97 (.inl rfl))).mono ?_); rintro e V2 ⟨rfl, rfl⟩)
          | (go_at_call 303; (with_reducible refine (mayy_no _).mono ?_); rintro e V2 ⟨rfl, hb9⟩)
          | (go_at_call 301; (with_reducible refine (mright_no ⟨#[]⟩ 121 _ _ _ _ k1 (n_any 121 (.inr (.inr (.inr rfl))))).mono ?_); rintro e V2 ⟨rfl, rfl⟩))
        first
                 | (refine ⟨rfl, ?_, h1⟩; (try simp only [Act.put, zzA, zzB, zzC]); rfl)
                 | (refine ⟨rfl, ?_, h1.trans (hb9.mono h1.size)⟩; (try simp only [Act.put, zzA, zzB, zzC]); rfl)
      simp only [Act.put, zzA, zzB, zzC]))
 refine Pu.Walk.nil (fun Vb hb => ?_); go_wp2; go_ret; exact ⟨rfl, hba.drew.trans (hb.mono hba.size)⟩
end
end Tp
end Go.Proofs.YtgcnhmjpfbbfcaaGreat
