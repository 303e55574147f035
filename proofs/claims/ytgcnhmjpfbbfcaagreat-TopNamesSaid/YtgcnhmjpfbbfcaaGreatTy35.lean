/-
  part of the proof of TopNames.
-/
import Derived.Test.YtgcnhmjpfbbfcaaGreatTy34
set_option linter.unusedVariables false
set_option linter.unusedSimpArgs false
set_option maxRecDepth 100000
set_option maxHeartbeats 8000000
namespace Go.Proofs.YtgcnhmjpfbbfcaaGreat
namespace Tp
section
open Go.RowKit Go.Maps
open Ce It Al Kp
theorem ndot_calls {a : Na} {me now cnt : Nat} {ov : Value} {i0 i1 : List LItem} {t0 m0 t1 m1 : Int} {r : List As} {w : World} (h : St (NodeB a me now cnt ov :: EndA a.e0 i0 t0 m0 :: EndA a.e1 i1 t1 m1 :: r) w) (hn : now ≤ 10) (h0 : i0 = [] ∨ ∃ x, i0 = [x] ∧ (now : Int) + 1 < x.2.2.2) (h1 : i1 = [] ∨ ∃ x, i1 = [x] ∧ (now : Int) + 1 < x.2.2.2) :
   Calls Tryz.prog 74 #[ptr a.nd, vI 1, vO, vN] w fun e w' => e = .returned (.bool true) ∧ St (NodeB a me (now + 1) cnt ov :: EndA a.e0 i0 t0 m0 :: EndA a.e1 i1 t1 m1 :: r) w' := by
 have cT := hdd (ntick_calls h hn h0 h1); clear h h0 h1
 go_enter Tryz.func74, Tryz.ntmps74
 go_wp2_with fail; refine cT.out.mono ?_; rintro e W ⟨rfl, s1⟩; go_wp2; go_ret; exact ⟨rfl, s1⟩
theorem ndoa_calls {a : Na} {now cnt : Nat} {bv : Value} {r : List As} {w : World} (hnow : now ≤ 10) (h : St (NodeB a 1 now cnt vN :: EndA a.e0 [] 0 0 :: BytesA bv askC :: r) w) :
   Calls Tryz.prog 74 #[ptr a.nd, vI 2, vO, bv] w fun e w' => e = .returned (.bool true) ∧ ∃ ov u A c, St (NodeB a 1 now cnt ov :: EndA a.e0 [(1, .slice A codeQ.length c, 1, (now : Int) + 2)] 1 0 :: RowA 181 7 ov 1 (sentP 0 u) :: BytesA u (pkC 1 0 codeQ) :: BytesA bv askC :: r) w' := by
 have cD := hdd (adecode_calls (h.by 2 rfl)); obtain ⟨A, c, rfl, -⟩ := (h.by 2 rfl).form; have HS := hdd h; clear h
 go_enter Tryz.func74, Tryz.ntmps74
 go_wp2_with fail; refine cD.out.mono ?_; rintro e W ⟨⟨sv, rfl, hsv⟩, hb⟩; have s1 : St (ItmA sv :: _) W := (HS.out.rowNew hb hsv (Nat.le_refl _)).rowSl; obtain ⟨Ai, ci, rfl, -⟩ := itm_form (s1.sl 0 rfl); have s2 := s1.obNew 32 (askC9 (.slice Ai 1 ci)); have oA := s2.ob (b := W.heap.size) 0 rfl; have s3 := ((s2).take [0, 1, 1, 0]); simp only [takeOut, zzD, zzE, zzF, zzG, zzH, zzI] at s3; replace s3 := s3.drop; have cR := hdd (nrequest_calls hnow s3); clear HS hsv hb s1 s2 s3 cD; go_wp2_with (first | (refine wpList_load_obg (by rfl) _ _ rfl rfl _ oA Tryz.underlying32 rfl (by kernel_rfl) ?_)); refine cR.out.mono ?_; rintro e W2 ⟨rfl, ov, u, A2, c2, s4⟩; go_wp2; go_ret; exact ⟨rfl, _, _, _, _, s4⟩
theorem ndoq_calls {a : Na} {now cnt : Nat} {bv : Value} {r : List As} {w : World} (hnow : now ≤ 10) (h : St (NodeB a 0 now cnt vN :: EndA a.e1 [] 0 0 :: BytesA bv (pkC 1 0 codeQ) :: DeskN a.dk 0 :: RegA a.rg 0 [] :: r) w) :
   Calls Tryz.prog 74 #[ptr a.nd, vI 3, vI 1, bv] w fun e w' => e = .returned (.bool true) ∧ ∃ ov u1 u2 u3 A1 c1 A2 c2, St (NodeB a 0 now cnt ov :: EndA a.e1 [(1, .slice A1 codeN.length c1, 1, (now : Int) + 2), (2, .slice A2 codeY.length c2, 1, (now : Int) + 2)] 2 1 :: RowA 181 7 ov 3 (sentP 1 u1 ++ sentP 1 u2 ++ sentP 1 u3) :: BytesA u1 (pkC 1 1 codeN) :: BytesA u2 (pkC 2 1 codeY) :: BytesA u3 (pkC 0 1 []) :: DeskA a.dk 0 :: RegA a.rg 0 stk1 :: r) w' := by
 have cD := hdd (ldecode_calls (s := 1) (a := 0) (l := codeQ) (h.by 2 rfl) (by omega) (by omega) (by omega) (by omega) (by decide) (by simp)); obtain ⟨A, c, rfl, -⟩ := (h.by 2 rfl).form; have HS := hdd h; clear h
 go_enter Tryz.func74, Tryz.ntmps74
 go_wp2_with fail; refine cD.out.mono ?_; rintro e W ⟨⟨u, rfl, hu⟩, hb⟩; have s1 := HS.out.bytesAt hb hu (Nat.le_refl _); obtain ⟨A1, c1, rfl⟩ : ∃ A1 c1, u = .slice A1 (codeQ : List UInt8).length c1 := by obtain ⟨A1, c1, h9, -⟩ := hu.form; exact ⟨A1, c1, h9⟩
 have s2 := s1.obNew 233 #[vI 1, vO, .slice A1 (codeQ : List UInt8).length c1]; have oP := s2.ob (b := W.heap.size) 0 rfl; have F := s2.nf 2 rfl; have g0 := F.n.k 0 rfl; have cI := hdd (nisr_calls F 1 (by omega) (by omega)); have s3 := ((s2).take [0, 3, 1, 1, 0]); simp only [takeOut, zzD, zzE, zzF, zzG, zzH, zzI] at s3; replace s3 := s3.drop.drop; have cC := hdd (cameq_calls hnow s3); clear HS hu hb s1 s2 s3 cD F; go_wp2_with (first | (refine wpList_load_obg (by rfl) _ _ rfl rfl _ oP Tryz.underlying233 rfl (by kernel_rfl) ?_) | (go_at_call 119; (with_reducible refine (cI.out).mono ?_); rintro e2 W2 ⟨rfl, rfl⟩) | (go_at_call 120; (with_reducible refine (cC.out).mono ?_); rintro e2 W3 ⟨rfl, ov, u1, u2, u3, D1, d1, D2, d2, s5⟩)); go_ret; exact ⟨rfl, _, _, _, _, _, _, _, _, s5⟩
theorem ndon_calls {a : Na} {now cnt : Nat} {bv : Value} {A0 : Option Addr} {n0 c0 : Nat} {du0 : Int} {r : List As} {w : World} (hnow : now ≤ 10) (h : St (NodeB a 1 now cnt vN :: EndA a.e0 [(1, .slice A0 n0 c0, 1, du0)] 1 0 :: BytesA bv (pkC 1 1 codeN) :: DeskA a.dk 1 :: r) w) :
   Calls Tryz.prog 74 #[ptr a.nd, vI 3, vO, bv] w fun e w' => e = .returned (.bool true) ∧ ∃ ov u1, St (NodeB a 1 now cnt ov :: EndA a.e0 [] 1 1 :: RowA 181 7 ov 1 (sentP 0 u1) :: BytesA u1 (pkC 0 1 []) :: DeskA a.dk 1 :: r) w' := by
 have cD := hdd (ldecode_calls (s := 1) (a := 1) (l := codeN) (h.by 2 rfl) (by omega) (by omega) (by omega) (by omega) (by decide) (by simp)); obtain ⟨A, c, rfl, -⟩ := (h.by 2 rfl).form; have HS := hdd h; clear h
 go_enter Tryz.func74, Tryz.ntmps74
 go_wp2_with fail; refine cD.out.mono ?_; rintro e W ⟨⟨u, rfl, hu⟩, hb⟩; have s1 := HS.out.bytesAt hb hu (Nat.le_refl _); obtain ⟨A1, c1, rfl⟩ : ∃ A1 c1, u = .slice A1 (codeN : List UInt8).length c1 := by obtain ⟨A1, c1, h9, -⟩ := hu.form; exact ⟨A1, c1, h9⟩
 have s2 := s1.obNew 233 #[vI 1, vI 1, .slice A1 (codeN : List UInt8).length c1]; have oP := s2.ob (b := W.heap.size) 0 rfl; have F := s2.nf 2 rfl; have g0 := F.n.k 0 rfl; have cI := hdd (nisr_calls F 0 (by omega) (by omega)); have s3 := ((s2).take [0, 3, 1, 1, 0]); simp only [takeOut, zzD, zzE, zzF, zzG, zzH, zzI] at s3; replace s3 := s3.drop.drop; have cC := hdd (camen_calls hnow s3); clear HS hu hb s1 s2 s3 cD F; go_wp2_with (first | (refine wpList_load_obg (by rfl) _ _ rfl rfl _ oP Tryz.underlying233 rfl (by kernel_rfl) ?_) | (go_at_call 119; (with_reducible refine (cI.out).mono ?_); rintro e2 W2 ⟨rfl, rfl⟩) | (go_at_call 120; (with_reducible refine (cC.out).mono ?_); rintro e2 W3 ⟨rfl, ov, u1, s5⟩)); go_ret; exact ⟨rfl, _, _, s5⟩
theorem ndoy_calls {a : Na} {now cnt : Nat} {bv : Value} {r : List As} {w : World} (hnow : now ≤ 10) (h : St (NodeB a 1 now cnt vN :: EndA a.e0 [] 1 1 :: BytesA bv (pkC 2 1 codeY) :: r) w) :
   Calls Tryz.prog 74 #[ptr a.nd, vI 3, vO, bv] w fun e w' => e = .returned (.bool true) ∧ ∃ ov u1, St (NodeB a 1 now cnt ov :: EndA a.e0 [] 1 2 :: RowA 181 7 ov 2 (sentY ++ sentP 0 u1) :: BytesA u1 (pkC 0 2 []) :: r) w' := by
 have cD := hdd (ldecode_calls (s := 2) (a := 1) (l := codeY) (h.by 2 rfl) (by omega) (by omega) (by omega) (by omega) (by decide) (by simp)); obtain ⟨A, c, rfl, -⟩ := (h.by 2 rfl).form; have HS := hdd h; clear h
 go_enter Tryz.func74, Tryz.ntmps74
 go_wp2_with fail; refine cD.out.mono ?_; rintro e W ⟨⟨u, rfl, hu⟩, hb⟩; have s1 := HS.out.bytesAt hb hu (Nat.le_refl _); obtain ⟨A1, c1, rfl⟩ : ∃ A1 c1, u = .slice A1 (codeY : List UInt8).length c1 := by obtain ⟨A1, c1, h9, -⟩ := hu.form; exact ⟨A1, c1, h9⟩
 have s2 := s1.obNew 233 #[vI 2, vI 1, .slice A1 (codeY : List UInt8).length c1]; have oP := s2.ob (b := W.heap.size) 0 rfl; have F := s2.nf 2 rfl; have g0 := F.n.k 0 rfl; have cI := hdd (nisr_calls F 0 (by omega) (by omega)); have s3 := ((s2).take [0, 3, 1, 1, 0]); simp only [takeOut, zzD, zzE, zzF, zzG, zzH, zzI] at s3; replace s3 := s3.drop.drop; have cC := hdd (camey_calls hnow s3); clear HS hu hb s1 s2 s3 cD F; go_wp2_with (first | (refine wpList_load_obg (by rfl) _ _ rfl rfl _ oP Tryz.underlying233 rfl (by kernel_rfl) ?_) | (go_at_call 119; (with_reducible refine (cI.out).mono ?_); rintro e2 W2 ⟨rfl, rfl⟩) | (go_at_call 120; (with_reducible refine (cC.out).mono ?_); rintro e2 W3 ⟨rfl, ov, u1, s5⟩)); go_ret; exact ⟨rfl, _, _, s5⟩
theorem ndok0_calls {a : Na} {now cnt : Nat} {bv : Value} {its its' : List LItem} {sent mark ack : Int} {r : List As} {w : World} (hnow : now ≤ 10) (hd : LDel ack its its') (h3 : 0 ≤ ack) (h4 : ack ≤ 5) (h : St (NodeB a 0 now cnt vN :: EndA a.e1 its sent mark :: BytesA bv (pkC 0 ack []) :: r) w) :
   Calls Tryz.prog 74 #[ptr a.nd, vI 3, vI 1, bv] w fun e w' => e = .returned (.bool true) ∧ St (NodeB a 0 now cnt vN :: EndA a.e1 its' sent mark :: r) w' := by
 have cD := hdd (ldecode_calls (s := 0) (a := ack) (l := []) (h.by 2 rfl) (by omega) (by omega) (by omega) (by omega) (by decide) (by simp)); obtain ⟨A, c, rfl, -⟩ := (h.by 2 rfl).form; have HS := hdd h; clear h
 go_enter Tryz.func74, Tryz.ntmps74
 go_wp2_with fail; refine cD.out.mono ?_; rintro e W ⟨⟨u, rfl, hu⟩, hb⟩; have s1 := HS.out.bytesAt hb hu (Nat.le_refl _); obtain ⟨A1, c1, rfl⟩ : ∃ A1 c1, u = .slice A1 0 c1 := by obtain ⟨A1, c1, h9, -⟩ := hu.form; exact ⟨A1, c1, h9⟩
 have s2 := s1.obNew 233 #[vO, vI ack, .slice A1 0 c1]; have oP := s2.ob (b := W.heap.size) 0 rfl; have F := s2.nf 2 rfl; have g0 := F.n.k 0 rfl; have cI := hdd (nisr_calls F 1 (by omega) (by omega)); have s3 := ((s2).take [0, 3, 1, 1, 0]); simp only [takeOut, zzD, zzE, zzF, zzG, zzH, zzI] at s3; replace s3 := s3.drop.drop; have cC := hdd (camea0_calls hnow hd h3 h4 s3); clear HS hu hb s1 s2 s3 cD F; go_wp2_with (first | (refine wpList_load_obg (by rfl) _ _ rfl rfl _ oP Tryz.underlying233 rfl (by kernel_rfl) ?_) | (go_at_call 119; (with_reducible refine (cI.out).mono ?_); rintro e2 W2 ⟨rfl, rfl⟩) | (go_at_call 120; (with_reducible refine (cC.out).mono ?_); rintro e2 W3 ⟨rfl, s5⟩)); go_ret; exact ⟨rfl, s5⟩
theorem ndok1_calls {a : Na} {now cnt : Nat} {bv : Value} {its its' : List LItem} {sent mark ack : Int} {r : List As} {w : World} (hnow : now ≤ 10) (hd : LDel ack its its') (h3 : 0 ≤ ack) (h4 : ack ≤ 5) (h : St (NodeB a 1 now cnt vN :: EndA a.e0 its sent mark :: BytesA bv (pkC 0 ack []) :: r) w) :
   Calls Tryz.prog 74 #[ptr a.nd, vI 3, vO, bv] w fun e w' => e = .returned (.bool true) ∧ St (NodeB a 1 now cnt vN :: EndA a.e0 its' sent mark :: r) w' := by
 have cD := hdd (ldecode_calls (s := 0) (a := ack) (l := []) (h.by 2 rfl) (by omega) (by omega) (by omega) (by omega) (by decide) (by simp)); obtain ⟨A, c, rfl, -⟩ := (h.by 2 rfl).form; have HS := hdd h; clear h
 go_enter Tryz.func74, Tryz.ntmps74
 go_wp2_with fail; refine cD.out.mono ?_; rintro e W ⟨⟨u, rfl, hu⟩, hb⟩; have s1 := HS.out.bytesAt hb hu (Nat.le_refl _); obtain ⟨A1, c1, rfl⟩ : ∃ A1 c1, u = .slice A1 0 c1 := by obtain ⟨A1, c1, h9, -⟩ := hu.form; exact ⟨A1, c1, h9⟩
 have s2 := s1.obNew 233 #[vO, vI ack, .slice A1 0 c1]; have oP := s2.ob (b := W.heap.size) 0 rfl; have F := s2.nf 2 rfl; have g0 := F.n.k 0 rfl; have cI := hdd (nisr_calls F 0 (by omega) (by omega)); have s3 := ((s2).take [0, 3, 1, 1, 0]); simp only [takeOut, zzD, zzE, zzF, zzG, zzH, zzI] at s3; replace s3 := s3.drop.drop; have cC := hdd (camea1_calls hnow hd h3 h4 s3); clear HS hu hb s1 s2 s3 cD F; go_wp2_with (first | (refine wpList_load_obg (by rfl) _ _ rfl rfl _ oP Tryz.underlying233 rfl (by kernel_rfl) ?_) | (go_at_call 119; (with_reducible refine (cI.out).mono ?_); rintro e2 W2 ⟨rfl, rfl⟩) | (go_at_call 120; (with_reducible refine (cC.out).mono ?_); rintro e2 W3 ⟨rfl, s5⟩)); go_ret; exact ⟨rfl, s5⟩
theorem LogA.up {b u u2 : Nat} {r : List As} {w : World} (h : St (LogA b u :: r) w) (hu : u ≤ u2) : St (LogA b u2 :: r) w := by
 refine h.turn fun A hA => ?_
 obtain ⟨base, d, sb, mb, Xm, Y, D, L, h1, h2, h3, h4, h5⟩ := hA; exact ⟨base, d, sb, mb, Xm, Y, D, L, h1, h2, h3, Nat.le_trans h4 hu, h5⟩
theorem told_calls {a : Na} {me now now' cnt u : Nat} {k f : Int} {bv : Value} {l : List UInt8} {r : List As} {Φ : Value → Nat → List Value → List As → Prop} {w : World}
   (h : St (NodeB a me now cnt vN :: LogA a.lg u :: BytesA bv l :: r) w) (hu : u ≤ 40000) (hl : l.length ≤ 100) (hk0 : 0 ≤ k) (hk1 : k ≤ 10) (hf0 : 0 ≤ f) (hf1 : f ≤ 10) (hc : cnt ≤ 100)
   (hdo : ∀ W, St (NodeB a me now cnt vN :: LogA a.lg (u + 300) :: BytesA bv l :: r) W → Calls Tryz.prog 74 #[ptr a.nd, vI k, vI f, bv] W fun e w' => (∃ b, e = .returned (.bool b)) ∧ ∃ ov n xs R, Φ ov n xs R ∧ St (NodeB a me now' cnt ov :: RowA 181 7 ov n xs :: R) w') :
   Calls Tryz.prog 77 #[ptr a.nd, vI k, vI f, bv] w fun e w' => ∃ ov n xs R, Φ ov n xs R ∧ e = .returned (.tuple #[ov, vO]) ∧ St (NodeB a me now' (cnt + 1) vN :: RowA 181 7 ov n xs :: R) w' := by
 have cI := hdd (ninput_calls (h.by 2 rfl) hk0 hk1 hf0 hf1 hl); have HS := hdd h; have HD := hdd hdo; obtain ⟨A, c, rfl, -⟩ := (h.by 2 rfl).form; have n1 := numC_len k; have n2 := numC_len f; have n3 := numC_len l.length; have hlen : (inC k f l).length ≤ 200 := by simp only [inC, List.length_append]; omega
 clear h hdo n1 n2 n3
 go_enter Tryz.func77, Tryz.ntmps77
 go_wp2_with fail; refine cI.out.mono ?_; rintro e W ⟨⟨x, rfl, hx⟩, hb⟩; have s1 := HS.out.bytes hb hx; obtain ⟨Ax, cx, rfl, -⟩ := (BytesAt.of_own hx).form; have s2 := ((s1).take [1, 1, 0]); simp only [takeOut, zzD, zzE, zzF, zzG, zzH, zzI] at s2; have cA := hdd (nappend_calls s2 (by omega)); clear HS cI hx hb s1 s2; go_wp2_with fail; refine cA.out.mono ?_; rintro e W2 ⟨rfl, s3⟩; have g2 := (s3.nf 0 rfl).n.k 2 rfl; have s4 := ((s3).take [2, 1, 0, 0]); simp only [takeOut, zzD, zzE, zzF, zzG, zzH, zzI] at s4; replace s4 := s4.drop; have s5 := LogA.up s4 (u2 := u + 300) (by omega); have cS := hdd (log_sync s5); clear s3 s4 s5 cA; go_wp2_with fail; refine cS.out.mono ?_; rintro e W3 ⟨rfl, s6⟩; have s7 := ((s6).take [1, 0, 0]); simp only [takeOut, zzD, zzE, zzF, zzG, zzH, zzI] at s7; have cD := hdd (HD.out W3 s7); clear s6 s7 cS HD g2; go_wp2_with fail; refine cD.out.mono ?_; rintro e W4 ⟨⟨b, rfl⟩, ov, n, xs, R, hΦ, s8⟩; have HΦ := hdd hΦ; obtain ⟨Ao, co, rfl, -⟩ := (Sl.of_own (s8.own 1 rfl)).at_; have oN := (s8.nf 0 rfl).n; have g8 := oN.k 8 rfl; have f8 := oN.frozen 8; have g9 := oN.k 9 rfl; have f9 := oN.frozen 9; have s9 : St (NodeB a me now' (cnt + 1) (.slice Ao n co) :: _) _ := s8.nset 8 (vI ((cnt : Int) + 1)) (by simp [nodeV]); have s10 : St (NodeB a me now' (cnt + 1) vN :: _) _ := s9.nset 9 vN rfl; clear cD hΦ s8 s9 oN; go_wp2; go_ret2; exact ⟨_, _, _, _, HΦ.out, rfl, s10⟩
end
section
open Go.RowKit Go.Maps
open Ce It Al Kp
def LForm : List (Int × Int) → List LItem → Prop
 | [], [] => True
 | (s, d) :: r, (s', v, t, d') :: r' => s' = s ∧ d' = d ∧ t = 1 ∧ (∃ A n c, v = .slice A n c) ∧ LForm r r'
 | _, _ => False
theorem LForm.nil {l : List LItem} (h : LForm [] l) : l = [] := by
 cases l with
 | nil => rfl
 | cons x r => exact h.elim
theorem LForm.one {s d : Int} {l : List LItem} (h : LForm [(s, d)] l) : ∃ A n c, l = [(s, .slice A n c, 1, d)] := by
 match l, h with
 | [(s', v, t, d')], h =>
   obtain ⟨rfl, rfl, rfl, ⟨A, n, c, rfl⟩, -⟩ := h; exact ⟨A, n, c, rfl⟩
theorem LForm.two {s d s2 d2 : Int} {l : List LItem} (h : LForm [(s, d), (s2, d2)] l) : ∃ A n c A2 n2 c2, l = [(s, .slice A n c, 1, d), (s2, .slice A2 n2 c2, 1, d2)] := by
 match l, h with
 | [(s', v, t, d'), (s2', v2, t2, d2')], h =>
   obtain ⟨rfl, rfl, rfl, ⟨A, n, c, rfl⟩, rfl, rfl, rfl, ⟨A2, n2, c2, rfl⟩, -⟩ := h; exact ⟨A, n, c, A2, n2, c2, rfl⟩
def NodeZ (D : Nat → Int → As) (nd now cnt u : Nat) (q : List (Int × Int)) (sent mark : Int) (s : Sk.Stk) : As :=
 exA fun p : Na × List LItem => factA (p.1.nd = nd ∧ LForm q p.2) (sepA [NodeB p.1 0 now cnt vN, LogA p.1.lg u, D p.1.dk 0, RegA p.1.rg 0 s, EndA p.1.e0 [] 0 0, EndA p.1.e1 p.2 sent mark])
def NodeU (D : Nat → Int → As) (nd now cnt u : Nat) (q : List (Int × Int)) (sent mark : Int) (s : Sk.Stk) : As :=
 exA fun p : Na × List LItem => factA (p.1.nd = nd ∧ LForm q p.2) (sepA [NodeB p.1 1 now cnt vN, LogA p.1.lg u, D p.1.dk 1, RegA p.1.rg 1 s, EndA p.1.e0 p.2 sent mark, EndA p.1.e1 [] 0 0])
section
variable {w : World} {r : List As} {D : Nat → Int → As} {nd now cnt u : Nat} {q : List (Int × Int)} {sent mark : Int} {s : Sk.Stk}
theorem NodeZ.mk {a : Na} {its : List LItem} (h : St (NodeB a 0 now cnt vN :: LogA a.lg u :: D a.dk 0 :: RegA a.rg 0 s :: EndA a.e0 [] 0 0 :: EndA a.e1 its sent mark :: r) w) (hq : LForm q its) : St (NodeZ D a.nd now cnt u q sent mark s :: r) w :=
 St.pack (P := fun p : Na × List LItem => factA (p.1.nd = a.nd ∧ LForm q p.2) (sepA [NodeB p.1 0 now cnt vN, LogA p.1.lg u, D p.1.dk 0, RegA p.1.rg 0 s, EndA p.1.e0 [] 0 0, EndA p.1.e1 p.2 sent mark])) (a, its) (St.facted ⟨rfl, hq⟩ (St.fold (l := [_, _, _, _, _, _]) h))
theorem NodeZ.out (h : St (NodeZ D nd now cnt u q sent mark s :: r) w) : ∃ a its, a.nd = nd ∧ LForm q its ∧ St (NodeB a 0 now cnt vN :: LogA a.lg u :: D a.dk 0 :: RegA a.rg 0 s :: EndA a.e0 [] 0 0 :: EndA a.e1 its sent mark :: r) w := by
 obtain ⟨⟨a, its⟩, h⟩ := h.ex; obtain ⟨⟨h1, h2⟩, h⟩ := h.fact; exact ⟨a, its, h1, h2, h.flat⟩
theorem NodeU.mk {a : Na} {its : List LItem} (h : St (NodeB a 1 now cnt vN :: LogA a.lg u :: D a.dk 1 :: RegA a.rg 1 s :: EndA a.e0 its sent mark :: EndA a.e1 [] 0 0 :: r) w) (hq : LForm q its) : St (NodeU D a.nd now cnt u q sent mark s :: r) w :=
 St.pack (P := fun p : Na × List LItem => factA (p.1.nd = a.nd ∧ LForm q p.2) (sepA [NodeB p.1 1 now cnt vN, LogA p.1.lg u, D p.1.dk 1, RegA p.1.rg 1 s, EndA p.1.e0 p.2 sent mark, EndA p.1.e1 [] 0 0])) (a, its) (St.facted ⟨rfl, hq⟩ (St.fold (l := [_, _, _, _, _, _]) h))
theorem NodeU.out (h : St (NodeU D nd now cnt u q sent mark s :: r) w) : ∃ a its, a.nd = nd ∧ LForm q its ∧ St (NodeB a 1 now cnt vN :: LogA a.lg u :: D a.dk 1 :: RegA a.rg 1 s :: EndA a.e0 its sent mark :: EndA a.e1 [] 0 0 :: r) w := by
 obtain ⟨⟨a, its⟩, h⟩ := h.ex; obtain ⟨⟨h1, h2⟩, h⟩ := h.fact; exact ⟨a, its, h1, h2, h.flat⟩
end
theorem non_calls {a : Na} {me now now' cnt u : Nat} {k s ack : Int} {bv : Value} {l : List UInt8} {r : List As} {Φ : Value → Nat → List Value → List As → Prop} {w : World}
   (h : St (NodeB a me now cnt vN :: LogA a.lg u :: BytesA bv (pkC s ack l) :: r) w) (hu : u ≤ 40000) (hl : l.length ≤ 60) (h1 : 0 ≤ s) (h2 : s ≤ 10) (h3 : 0 ≤ ack) (h4 : ack ≤ 10) (h0 : 1 ≤ s ∨ l = []) (hf0 : 0 ≤ k) (hf1 : k < 2) (hm : (k == ((me : Nat) : Int)) = false) (hc : cnt ≤ 100)
   (hdo : ∀ W, St (NodeB a me now cnt vN :: LogA a.lg (u + 300) :: BytesA bv (pkC s ack l) :: r) W → Calls Tryz.prog 74 #[ptr a.nd, vI 3, vI k, bv] W fun e w' => (∃ b, e = .returned (.bool b)) ∧ ∃ ov n xs R, Φ ov n xs R ∧ St (NodeB a me now' cnt ov :: RowA 181 7 ov n xs :: R) w') :
   Calls Tryz.prog 75 #[ptr a.nd, vI k, bv] w fun e w' => ∃ ov n xs R, Φ ov n xs R ∧ e = .returned (.tuple #[ov, vO]) ∧ St (NodeB a me now' (cnt + 1) vN :: RowA 181 7 ov n xs :: R) w' := by
 have F := h.nf 0 rfl; have g0 := F.n.k 0 rfl; have cI := hdd (nisr_calls F k hf0 hf1); have cD := hdd (ldecode_calls (h.by 2 rfl) h1 (by omega) h3 (by omega) (by omega) h0); have HS := hdd h; have HD := hdd hdo; obtain ⟨A, c, rfl, -⟩ := (h.by 2 rfl).form; have n1 := numC_len s; have n2 := numC_len ack; have n3 := numC_len l.length; have hlen : (pkC s ack l).length ≤ 100 := by simp only [pkC, List.length_append]; omega
 clear h hdo F n1 n2 n3
 go_enter Tryz.func75, Tryz.ntmps75
 go_wp2_with fail; refine cI.out.mono ?_; rintro e W ⟨rfl, rfl⟩; go_wp2_with fail; refine cD.out.mono ?_; rintro e W ⟨⟨x, rfl, hx⟩, hb⟩; obtain ⟨Ax, cx, rfl, -⟩ := hx.form; have s1 := (HS.out.same hb).alloc (.cells #[vI s, vI ack, .slice Ax l.length cx] 233); have cT := hdd (told_calls (k := 3) s1 hu hlen (by omega) (by omega) hf0 (by omega) hc HD.out); clear HS HD hx hb s1 cD cI; go_wp2_with fail; refine cT.out.mono ?_; rintro e W4 ⟨ov, n, xs, R, hΦ, rfl, s8⟩; have HΦ := hdd hΦ; clear hΦ cT; go_wp2; go_ret2; exact ⟨_, _, _, _, HΦ.out, rfl, s8⟩
theorem zon_q {nd cnt u : Nat} {bv : Value} {r : List As} {w : World} (h : St (NodeZ DeskN nd 1 cnt u [] 0 0 [] :: BytesA bv (pkC 1 0 codeQ) :: r) w) (hu : u ≤ 40000) (hc : cnt ≤ 100) :
   Calls Tryz.prog 75 #[ptr nd, vI 1, bv] w fun e w' => ∃ ov u1 u2 u3, e = .returned (.tuple #[ov, vO]) ∧ St (NodeZ DeskA nd 1 (cnt + 1) (u + 300) [(1, 3), (2, 3)] 2 1 stk1 :: RowA 181 7 ov 3 (sentP 1 u1 ++ sentP 1 u2 ++ sentP 1 u3) :: BytesA u1 (pkC 1 1 codeN) :: BytesA u2 (pkC 2 1 codeY) :: BytesA u3 (pkC 0 1 []) :: r) w' := by
 obtain ⟨a, its, rfl, hq, s1⟩ := NodeZ.out h; obtain rfl := hq.nil; have s2 := ((s1).take [0, 0, 4, 0, 0, 0, 0]); simp only [takeOut, zzD, zzE, zzF, zzG, zzH, zzI] at s2; refine (non_calls (now' := 1) (Φ := fun ov n xs R => ∃ u1 u2 u3 A1 c1 A2 c2, n = 3 ∧ xs = sentP 1 u1 ++ sentP 1 u2 ++ sentP 1 u3 ∧ R = [EndA a.e1 [(1, .slice A1 codeN.length c1, 1, 3), (2, .slice A2 codeY.length c2, 1, 3)] 2 1, BytesA u1 (pkC 1 1 codeN), BytesA u2 (pkC 2 1 codeY), BytesA u3 (pkC 0 1 []), DeskA a.dk 0, RegA a.rg 0 stk1, LogA a.lg (u + 300), EndA a.e0 [] 0 0] ++ r) s2 hu (by decide) (by omega) (by omega) (by omega) (by omega) (by decide) (by omega) (by omega) (by decide) hc ?_).mono ?_
 · intro W s3
   have s4 := ((s3).take [0, 5, 1, 1, 1, 0, 0]); simp only [takeOut, zzD, zzE, zzF, zzG, zzH, zzI] at s4; refine (ndoq_calls (by omega) s4).mono ?_; rintro e w' ⟨rfl, ov, u1, u2, u3, A1, c1, A2, c2, s5⟩; have s6 := ((s5).take [0, 1, 0, 0, 0, 0, 0, 0, 0, 0]); simp only [takeOut, zzD, zzE, zzF, zzG, zzH, zzI] at s6; exact ⟨⟨_, rfl⟩, ov, 3, _, _, ⟨u1, u2, u3, A1, c1, A2, c2, rfl, rfl, rfl⟩, s6⟩
 · rintro e w' ⟨ov, n, xs, R, ⟨u1, u2, u3, A1, c1, A2, c2, rfl, rfl, rfl⟩, rfl, s5⟩
   simp only [zzH, zzI, zzG, zzF, List.length_cons, List.length_nil] at s5; have s6 := ((s5).take [0, 7, 5, 5, 5, 1, 0, 0, 0, 0]); simp only [takeOut, zzD, zzE, zzF, zzG, zzH, zzI] at s6; exact ⟨ov, u1, u2, u3, rfl, NodeZ.mk s6 ⟨rfl, rfl, rfl, ⟨_, _, _, rfl⟩, rfl, rfl, rfl, ⟨_, _, _, rfl⟩, trivial⟩⟩
theorem zon_k {D : Nat → Int → As} {nd cnt u : Nat} {q q' : List (Int × Int)} {sent mark ack : Int} {st : Sk.Stk} {bv : Value} {r : List As} {w : World} (h : St (NodeZ D nd 1 cnt u q sent mark st :: BytesA bv (pkC 0 ack []) :: r) w) (hu : u ≤ 40000) (hc : cnt ≤ 100) (h3 : 0 ≤ ack) (h4 : ack ≤ 5)
   (hd : ∀ its, LForm q its → ∃ its', LDel ack its its' ∧ LForm q' its') :
   Calls Tryz.prog 75 #[ptr nd, vI 1, bv] w fun e w' => e = .returned (.tuple #[vN, vO]) ∧ St (NodeZ D nd 1 (cnt + 1) (u + 300) q' sent mark st :: r) w' := by
 obtain ⟨a, its, rfl, hq, s1⟩ := NodeZ.out h; obtain ⟨its', hl, hq'⟩ := hd its hq; have s2 := ((s1).take [0, 0, 4, 0, 0, 0, 0]); simp only [takeOut, zzD, zzE, zzF, zzG, zzH, zzI] at s2; refine (non_calls (now' := 1) (Φ := fun ov n xs R => ov = vN ∧ n = 0 ∧ R = [EndA a.e1 its' sent mark, D a.dk 0, RegA a.rg 0 st, LogA a.lg (u + 300), EndA a.e0 [] 0 0] ++ r) s2 hu (by simp) (by omega) (by omega) h3 (by omega) (.inr rfl) (by omega) (by omega) (by decide) hc ?_).mono ?_
 · intro W s3
   have s4 := ((s3).take [0, 5, 1, 1, 1, 0, 0]); simp only [takeOut, zzD, zzE, zzF, zzG, zzH, zzI] at s4; refine (ndok0_calls (by omega) hl h3 h4 s4).mono ?_; rintro e w' ⟨rfl, s5⟩; have s6 := (((s5.rowNil 181 7)).take [1, 0, 0, 0, 0, 0, 0]); simp only [takeOut, zzD, zzE, zzF, zzG, zzH, zzI] at s6; exact ⟨⟨_, rfl⟩, _, 0, _, _, ⟨rfl, rfl, rfl⟩, s6⟩
 · rintro e w' ⟨ov, n, xs, R, ⟨rfl, rfl, rfl⟩, rfl, s5⟩
   simp only [zzH, zzI, zzG, zzF, List.length_cons, List.length_nil] at s5; have s6 := ((s5).take [1, 0, 3, 1, 1, 1, 0]); simp only [takeOut, zzD, zzE, zzF, zzG, zzH, zzI] at s6; replace s6 := s6.drop; exact ⟨rfl, NodeZ.mk s6 hq'⟩
theorem uon_k {D : Nat → Int → As} {nd cnt u : Nat} {q q' : List (Int × Int)} {sent mark ack : Int} {st : Sk.Stk} {bv : Value} {r : List As} {w : World} (h : St (NodeU D nd 1 cnt u q sent mark st :: BytesA bv (pkC 0 ack []) :: r) w) (hu : u ≤ 40000) (hc : cnt ≤ 100) (h3 : 0 ≤ ack) (h4 : ack ≤ 5)
   (hd : ∀ its, LForm q its → ∃ its', LDel ack its its' ∧ LForm q' its') :
   Calls Tryz.prog 75 #[ptr nd, vO, bv] w fun e w' => e = .returned (.tuple #[vN, vO]) ∧ St (NodeU D nd 1 (cnt + 1) (u + 300) q' sent mark st :: r) w' := by
 obtain ⟨a, its, rfl, hq, s1⟩ := NodeU.out h; obtain ⟨its', hl, hq'⟩ := hd its hq; have s2 := ((s1).take [0, 0, 4, 0, 0, 0, 0]); simp only [takeOut, zzD, zzE, zzF, zzG, zzH, zzI] at s2; refine (non_calls (now' := 1) (Φ := fun ov n xs R => ov = vN ∧ n = 0 ∧ R = [EndA a.e0 its' sent mark, D a.dk 1, RegA a.rg 1 st, LogA a.lg (u + 300), EndA a.e1 [] 0 0] ++ r) s2 hu (by simp) (by omega) (by omega) h3 (by omega) (.inr rfl) (by omega) (by omega) (by decide) hc ?_).mono ?_
 · intro W s3
   have s4 := ((s3).take [0, 4, 1, 1, 1, 0, 0]); simp only [takeOut, zzD, zzE, zzF, zzG, zzH, zzI] at s4; refine (ndok1_calls (by omega) hl h3 h4 s4).mono ?_; rintro e w' ⟨rfl, s5⟩; have s6 := (((s5.rowNil 181 7)).take [1, 0, 0, 0, 0, 0, 0]); simp only [takeOut, zzD, zzE, zzF, zzG, zzH, zzI] at s6; exact ⟨⟨_, rfl⟩, _, 0, _, _, ⟨rfl, rfl, rfl⟩, s6⟩
 · rintro e w' ⟨ov, n, xs, R, ⟨rfl, rfl, rfl⟩, rfl, s5⟩
   simp only [zzH, zzI, zzG, zzF, List.length_cons, List.length_nil] at s5; have s6 := ((s5).take [1, 0, 3, 1, 1, 0, 0]); simp only [takeOut, zzD, zzE, zzF, zzG, zzH, zzI] at s6; replace s6 := s6.drop; exact ⟨rfl, NodeU.mk s6 hq'⟩
theorem uon_n {nd cnt u : Nat} {st : Sk.Stk} {bv : Value} {r : List As} {w : World} (h : St (NodeU DeskN nd 1 cnt u [(1, 2)] 1 0 st :: BytesA bv (pkC 1 1 codeN) :: r) w) (hu : u ≤ 40000) (hc : cnt ≤ 100) :
   Calls Tryz.prog 75 #[ptr nd, vO, bv] w fun e w' => ∃ ov u1, e = .returned (.tuple #[ov, vO]) ∧ St (NodeU DeskA nd 1 (cnt + 1) (u + 300) [] 1 1 st :: RowA 181 7 ov 1 (sentP 0 u1) :: BytesA u1 (pkC 0 1 []) :: r) w' := by
 obtain ⟨a, its, rfl, hq, s1⟩ := NodeU.out h; obtain ⟨A0, n0, c0, rfl⟩ := hq.one; have s2 := ((s1).take [2, 0, 0, 3, 0, 0, 0]); simp only [takeOut, zzD, zzE, zzF, zzG, zzH, zzI] at s2; have s2' := DeskN.desk s2; have s3 := ((s2').take [1, 1, 1, 0, 0, 0, 0]); simp only [takeOut, zzD, zzE, zzF, zzG, zzH, zzI] at s3; refine (non_calls (now' := 1) (Φ := fun ov n xs R => ∃ u1, n = 1 ∧ xs = sentP 0 u1 ∧ R = [EndA a.e0 [] 1 1, BytesA u1 (pkC 0 1 []), DeskA a.dk 1, LogA a.lg (u + 300), RegA a.rg 1 st, EndA a.e1 [] 0 0] ++ r) s3 hu (by decide) (by omega) (by omega) (by omega) (by omega) (by decide) (by omega) (by omega) (by decide) hc ?_).mono ?_
 · intro W s3
   have s4 := ((s3).take [0, 4, 1, 1, 0, 0, 0]); simp only [takeOut, zzD, zzE, zzF, zzG, zzH, zzI] at s4; refine (ndon_calls (by omega) s4).mono ?_; rintro e w' ⟨rfl, ov, u1, s5⟩; have s6 := ((s5).take [0, 1, 0, 0, 0, 0, 0, 0]); simp only [takeOut, zzD, zzE, zzF, zzG, zzH, zzI] at s6; exact ⟨⟨_, rfl⟩, ov, 1, _, _, ⟨u1, rfl, rfl, rfl⟩, s6⟩
 · rintro e w' ⟨ov, n, xs, R, ⟨u1, rfl, rfl, rfl⟩, rfl, s5⟩
   simp only [zzH, zzI, zzG, zzF, List.length_cons, List.length_nil] at s5; have s6 := ((s5).take [0, 4, 3, 3, 1, 2, 0, 0]); simp only [takeOut, zzD, zzE, zzF, zzG, zzH, zzI] at s6; exact ⟨ov, u1, rfl, NodeU.mk s6 trivial⟩
theorem uon_y {D : Nat → Int → As} {nd cnt u : Nat} {st : Sk.Stk} {bv : Value} {r : List As} {w : World} (h : St (NodeU D nd 1 cnt u [] 1 1 st :: BytesA bv (pkC 2 1 codeY) :: r) w) (hu : u ≤ 40000) (hc : cnt ≤ 100) :
   Calls Tryz.prog 75 #[ptr nd, vO, bv] w fun e w' => ∃ ov u1, e = .returned (.tuple #[ov, vO]) ∧ St (NodeU D nd 1 (cnt + 1) (u + 300) [] 1 2 st :: RowA 181 7 ov 2 (sentY ++ sentP 0 u1) :: BytesA u1 (pkC 0 2 []) :: r) w' := by
 obtain ⟨a, its, rfl, hq, s1⟩ := NodeU.out h; obtain rfl := hq.nil; have s3 := ((s1).take [0, 0, 4, 0, 0, 0, 0]); simp only [takeOut, zzD, zzE, zzF, zzG, zzH, zzI] at s3; refine (non_calls (now' := 1) (Φ := fun ov n xs R => ∃ u1, n = 2 ∧ xs = sentY ++ sentP 0 u1 ∧ R = [EndA a.e0 [] 1 2, BytesA u1 (pkC 0 2 []), D a.dk 1, LogA a.lg (u + 300), RegA a.rg 1 st, EndA a.e1 [] 0 0] ++ r) s3 hu (by decide) (by omega) (by omega) (by omega) (by omega) (by decide) (by omega) (by omega) (by decide) hc ?_).mono ?_
 · intro W s3
   have s4 := ((s3).take [0, 4, 1, 1, 0, 0, 0]); simp only [takeOut, zzD, zzE, zzF, zzG, zzH, zzI] at s4; refine (ndoy_calls (by omega) s4).mono ?_; rintro e w' ⟨rfl, ov, u1, s5⟩; have s6 := ((s5).take [0, 1, 0, 0, 0, 0, 0, 0]); simp only [takeOut, zzD, zzE, zzF, zzG, zzH, zzI] at s6; exact ⟨⟨_, rfl⟩, ov, 2, _, _, ⟨u1, rfl, rfl, rfl⟩, s6⟩
 · rintro e w' ⟨ov, n, xs, R, ⟨u1, rfl, rfl, rfl⟩, rfl, s5⟩
   simp only [zzH, zzI, zzG, zzF, List.length_cons, List.length_nil] at s5; have s6 := ((s5).take [0, 4, 3, 3, 1, 2, 0, 0]); simp only [takeOut, zzD, zzE, zzF, zzG, zzH, zzI] at s6; exact ⟨ov, u1, rfl, NodeU.mk s6 trivial⟩
theorem ticky_calls {a : Na} {me now cnt u : Nat} {i0 i1 : List LItem} {t0 m0 t1 m1 : Int} {r : List As} {w : World} (h : St (NodeB a me now cnt vN :: LogA a.lg u :: EndA a.e0 i0 t0 m0 :: EndA a.e1 i1 t1 m1 :: r) w) (hn : now ≤ 10) (hu : u ≤ 40000) (hc : cnt ≤ 100) (h0 : i0 = [] ∨ ∃ x, i0 = [x] ∧ (now : Int) + 1 < x.2.2.2) (h1 : i1 = [] ∨ ∃ x, i1 = [x] ∧ (now : Int) + 1 < x.2.2.2) :
   Calls Tryz.prog 41 #[ptr a.nd] w fun e w' => e = .returned (.tuple #[vN, vO]) ∧ St (NodeB a me (now + 1) (cnt + 1) vN :: EndA a.e0 i0 t0 m0 :: EndA a.e1 i1 t1 m1 :: LogA a.lg (u + 300) :: r) w' := by
 have s0 : St (BytesA vN [] :: _) w := h.born (Below.refl _ _) (A := fun _ => False) ⟨(Wa.EntAt.of (BytesAt.nil w 0 0) (Nat.zero_le _)).mono (fun i hi => by omega), fun i hi => hi.elim⟩ (fun i hi => hi.elim); have s1 := ((s0).take [1, 1, 0]); simp only [takeOut, zzD, zzE, zzF, zzG, zzH, zzI] at s1
 have cT := hdd (told_calls (now' := now + 1) (k := 1) (f := 0) (Φ := fun ov n xs R => ov = vN ∧ n = 0 ∧ R = [EndA a.e0 i0 t0 m0, EndA a.e1 i1 t1 m1, LogA a.lg (u + 300)] ++ r) s1 hu (by simp) (by omega) (by omega) (by omega) (by omega) hc (fun W s3 => by
   have s4 := ((s3).take [2, 0, 1, 1, 0]); simp only [takeOut, zzD, zzE, zzF, zzG, zzH, zzI] at s4; replace s4 := s4.drop; refine (ndot_calls s4 hn h0 h1).mono ?_; rintro e w' ⟨rfl, s5⟩; have s6 := (((s5.rowNil 181 7)).take [1, 0, 0, 0, 0]); simp only [takeOut, zzD, zzE, zzF, zzG, zzH, zzI] at s6; exact ⟨⟨_, rfl⟩, _, 0, _, _, ⟨rfl, rfl, rfl⟩, s6⟩))
 clear h s0 s1
 go_enter Tryz.func41, Tryz.ntmps41
 go_wp2_with fail; refine cT.out.mono ?_; rintro e W4 ⟨ov, n, xs, R, ⟨rfl, rfl, rfl⟩, rfl, s8⟩; simp only [zzH, zzI, zzG, zzF, List.length_cons, List.length_nil] at s8; have s9 := ((s8).take [1, 0, 0, 0, 0]); simp only [takeOut, zzD, zzE, zzF, zzG, zzH, zzI] at s9; replace s9 := s9.drop; clear s8 cT; go_wp2; go_ret2; exact ⟨rfl, s9⟩
theorem ztick_calls {D : Nat → Int → As} {nd cnt u : Nat} {sent mark : Int} {st : Sk.Stk} {r : List As} {w : World} (h : St (NodeZ D nd 0 cnt u [] sent mark st :: r) w) (hu : u ≤ 40000) (hc : cnt ≤ 100) :
   Calls Tryz.prog 41 #[ptr nd] w fun e w' => e = .returned (.tuple #[vN, vO]) ∧ St (NodeZ D nd 1 (cnt + 1) (u + 300) [] sent mark st :: r) w' := by
 obtain ⟨a, its, rfl, hq, s1⟩ := NodeZ.out h; obtain rfl := hq.nil; have s2 := ((s1).take [0, 0, 2, 2, 0, 0]); simp only [takeOut, zzD, zzE, zzF, zzG, zzH, zzI] at s2; refine (ticky_calls s2 (by omega) hu hc (.inl rfl) (.inl rfl)).mono ?_; rintro e w' ⟨rfl, s5⟩; have s6 := ((s5).take [0, 2, 2, 2, 0, 0]); simp only [takeOut, zzD, zzE, zzF, zzG, zzH, zzI] at s6; exact ⟨rfl, NodeZ.mk s6 trivial⟩
theorem utick_calls {D : Nat → Int → As} {nd cnt u : Nat} {sent mark : Int} {st : Sk.Stk} {r : List As} {w : World} (h : St (NodeU D nd 0 cnt u [(1, 2)] sent mark st :: r) w) (hu : u ≤ 40000) (hc : cnt ≤ 100) :
   Calls Tryz.prog 41 #[ptr nd] w fun e w' => e = .returned (.tuple #[vN, vO]) ∧ St (NodeU D nd 1 (cnt + 1) (u + 300) [(1, 2)] sent mark st :: r) w' := by
 obtain ⟨a, its, rfl, hq, s1⟩ := NodeU.out h; obtain ⟨A0, n0, c0, rfl⟩ := hq.one; have s2 := ((s1).take [0, 0, 2, 2, 0, 0]); simp only [takeOut, zzD, zzE, zzF, zzG, zzH, zzI] at s2; refine (ticky_calls s2 (by omega) hu hc (.inr ⟨_, rfl, by show (0 : Int) + 1 < 2; omega⟩) (.inl rfl)).mono ?_; rintro e w' ⟨rfl, s5⟩; have s6 := ((s5).take [0, 2, 2, 2, 0, 0]); simp only [takeOut, zzD, zzE, zzF, zzG, zzH, zzI] at s6; exact ⟨rfl, NodeU.mk s6 hq⟩
theorem uask_calls {nd cnt u : Nat} {bv : Value} {r : List As} {w : World} (h : St (NodeU DeskN nd 0 cnt u [] 0 0 [] :: BytesA bv askC :: r) w) (hu : u ≤ 40000) (hc : cnt ≤ 100) :
   Calls Tryz.prog 47 #[ptr nd, bv] w fun e w' => ∃ ov pu, e = .returned (.tuple #[ov, vO]) ∧ St (NodeU DeskN nd 0 (cnt + 1) (u + 300) [(1, 2)] 1 0 [] :: RowA 181 7 ov 1 (sentP 0 pu) :: BytesA pu (pkC 1 0 codeQ) :: BytesA bv askC :: r) w' := by
 obtain ⟨a, its, rfl, hq, s1⟩ := NodeU.out h; obtain rfl := hq.nil; have cD := hdd (adecode_calls (h.by 1 rfl)); have HS := hdd s1; obtain ⟨A, c, rfl, -⟩ := (h.by 1 rfl).form; clear h s1
 go_enter Tryz.func47, Tryz.ntmps47
 go_wp2_with fail; refine cD.out.mono ?_; rintro e W ⟨⟨sv, rfl, hsv⟩, hb⟩; obtain ⟨Ai, ci, rfl⟩ : ∃ Ai ci, sv = .slice Ai 1 ci := by obtain ⟨Ai, ci, h9, -⟩ := (Sl.of_own hsv).at_; exact ⟨Ai, ci, h9⟩
 have s2 := (HS.out.same hb).alloc (.cells (askC9 (.slice Ai 1 ci)) 32); have cL := hdd (nlate_calls (s2.nf 0 rfl)); have s3 := ((s2).take [0, 0, 4, 0, 0, 0, 0]); simp only [takeOut, zzD, zzE, zzF, zzG, zzH, zzI] at s3
 have cT := hdd (told_calls (now' := 0) (k := 2) (f := 0) (Φ := fun ov n xs R => ∃ pu A c, n = 1 ∧ xs = sentP 0 pu ∧ R = [EndA a.e0 [(1, .slice A codeQ.length c, 1, 2)] 1 0, BytesA pu (pkC 1 0 codeQ), BytesA _ askC, LogA a.lg (u + 300), DeskN a.dk 1, RegA a.rg 1 [], EndA a.e1 [] 0 0] ++ r) s3 hu (by decide) (by omega) (by omega) (by omega) (by omega) hc (fun W s4 => by
   have s5 := ((s4).take [0, 4, 1, 0]); simp only [takeOut, zzD, zzE, zzF, zzG, zzH, zzI] at s5; refine (ndoa_calls (by omega) s5).mono ?_; rintro e w' ⟨rfl, ov, pu, A, c, s6⟩; have s7 := ((s6).take [0, 1, 0, 0, 0, 0, 0, 0, 0]); simp only [takeOut, zzD, zzE, zzF, zzG, zzH, zzI] at s7; exact ⟨⟨_, rfl⟩, _, 1, _, _, ⟨pu, A, c, rfl, rfl, rfl⟩, s7⟩))
 clear HS hsv hb s2 s3 cD; go_wp2_with fail; refine cL.out.mono ?_; rintro e W2 ⟨rfl, rfl⟩; go_wp2_with fail; refine cT.out.mono ?_; rintro e W4 ⟨ov, n, xs, R, ⟨pu, A2, c2, rfl, rfl, rfl⟩, rfl, s8⟩; simp only [zzH, zzI, zzG, zzF, List.length_cons, List.length_nil] at s8; have s9 := ((s8).take [0, 4, 4, 4, 1, 3, 0, 0, 0]); simp only [takeOut, zzD, zzE, zzF, zzG, zzH, zzI] at s9; have s10 := NodeU.mk (q := [(1, 2)]) s9 ⟨rfl, rfl, rfl, ⟨_, _, _, rfl⟩, trivial⟩; clear s8 s9 cT cL; go_wp2; go_ret2; exact ⟨_, _, rfl, s10⟩
end
end Tp
end Go.Proofs.YtgcnhmjpfbbfcaaGreat
