/-
  part of the proof of TopNames.
-/
import Derived.Test.YtgcnhmjpfbbfcaaGreatTy16
set_option linter.unusedVariables false
set_option linter.unusedSimpArgs false
set_option maxRecDepth 100000
set_option maxHeartbeats 8000000
namespace Go.Proofs.YtgcnhmjpfbbfcaaGreat
namespace Tp
section
open Go.RowKit Go.Maps
open Ce
theorem wait_calls (w : World) : Calls Tryz.prog 299 #[vI 2, vI 16, vO] w fun e w' => e = .returned (vI 2) ∧ w = w' := by
 go_enter Tryz.func299, Tryz.ntmps299
 go_wp2
 go_loop [2, 7] (fun t u => t = vO ∧ u = vI 2) (fun _ _ => 1)
 case atStart => exact ⟨rfl, rfl⟩
 case round =>
   obtain ⟨rfl, rfl⟩ := hrel; go_wp2; go_ret; exact ⟨rfl, rfl⟩
theorem next_calls (n : Nat) (hn : n ≤ 10) (w : World) : Calls Tryz.prog 231 #[vI n, vI 2, vI 16, vO] w fun e w' => e = .returned (vI ((n : Int) + 2)) ∧ w = w' := by
 have hd : decide ((n : Int) > 9223372036854775805) = false := by simp; omega
 go_enter Tryz.func231, Tryz.ntmps231
 go_wp2_with fail; refine (wait_calls _).mono ?_; rintro e W ⟨rfl, rfl⟩; go_wp2; go_ret; exact ⟨rfl, rfl⟩
theorem pmay_calls (s a : Int) (v : Value) (l : List UInt8) (w : World) (lo hi : Nat) (hI : BytesAt w lo hi v l) (h1 : 0 ≤ s) (h2 : s ≤ 10) (h3 : 0 ≤ a) (h4 : a ≤ 10) (hl : l.length ≤ 100) (h0 : 1 ≤ s ∨ l = []) :
   Calls Tryz.prog 182 #[.agg #[vI s, vI a, v]] w fun e w' => e = .returned (.bool true) ∧ Below w.heap.size w w' := by
 obtain ⟨A, c, rfl, hc1, hc2⟩ := hI.form; unfold maxLen at hc2; have hb := (Below.refl w.heap.size w).alloc (Nat.le_refl _) (.cells #[vI s, vI a, .slice A l.length c] 233); clear hI; rcases h0 with h0 | rfl
 · go_enter Tryz.func182, Tryz.ntmps182
   go_wp2; go_ret; exact ⟨rfl, hb⟩
 · by_cases h9 : 0 < s
   · go_enter Tryz.func182, Tryz.ntmps182
     go_wp2; go_ret; exact ⟨rfl, hb⟩
   · obtain rfl : s = 0 := by omega
     go_enter Tryz.func182, Tryz.ntmps182
     go_wp2; go_ret; exact ⟨rfl, hb⟩
theorem link_new (w : World) : Calls Tryz.prog 65 #[] w fun e w' => e = .returned (ptr w.heap.size) ∧ w.alloc (.cells #[vN, vO, vO] 200) = w' := by
 go_enter Tryz.func65, Tryz.ntmps65
 go_wp2; go_ret; exact ⟨rfl, rfl⟩
theorem lencode_calls (s a : Int) (v : Value) (l : List UInt8) (w : World) (hI : BytesAt w 0 w.heap.size v l) (h1 : 0 ≤ s) (h2 : s ≤ 10) (h3 : 0 ≤ a) (h4 : a ≤ 10) (hl : l.length ≤ 100) (h0 : 1 ≤ s ∨ l = []) :
   Calls Tryz.prog 232 #[.agg #[vI s, vI a, v]] w fun e w' => (∃ u, e = .returned (.tuple #[u, vO]) ∧ w'.ownsRow w.heap.size 5 1 u (pkC s a l).length (bytesV (pkC s a l))) ∧ Below w.heap.size w w' := by
 have hb := (Below.refl w.heap.size w).alloc (Nat.le_refl _) (.cells #[vI s, vI a, v] 233); have oP := Ob.new w 233 #[vI s, vI a, v]; have cP := hdd (pmay_calls s a v l _ 0 _ (hI.mono hb hb.size) h1 h2 h3 h4 hl h0); obtain ⟨A, c, rfl, hc1, hc2⟩ := hI.form; have HS := hdd (fun V (h : Below w.heap.size w V) => run_string_at (P := Tryz.prog) (src := 35) (dst := 9) Tryz.underlying35 Tryz.underlying5 Tryz.underlying9 (hI.below h)); have H0 := hdd h0; have HK := hdd (fun (V : World) (h : Ob V w.heap.size 233 #[vI s, vI a, .slice A l.length c]) => (⟨h.k 0 rfl, h.k 1 rfl, h.k 2 rfl⟩ : V.cell? ⟨w.heap.size, 0, none⟩ = some (vI s) ∧ V.cell? ⟨w.heap.size, 1, none⟩ = some (vI a) ∧ V.cell? ⟨w.heap.size, 2, none⟩ = some (.slice A l.length c))); clear hI h0
 go_enter Tryz.func232, Tryz.ntmps232
 go_wp2_with fail; refine (cP.out).mono ?_; rintro e W ⟨rfl, hb1⟩; have hBX : Below w.heap.size w W.drew := (hb.trans (hb1.mono hb.size)).drew; have oX : Ob W.drew w.heap.size 233 #[vI s, vI a, .slice A l.length c] := (show Ob W w.heap.size 233 #[vI s, vI a, .slice A l.length c] from oP.same hb1); have hlt : w.heap.size < W.heap.size := oX.lt; have n1 := numC_len s; have n2 := numC_len a; have n3 := numC_len l.length; clear cP oP hb1 hb; have q0 : W.cell? ⟨w.heap.size, 0, none⟩ = _ := oX.k 0 rfl; have q1 : W.cell? ⟨w.heap.size, 1, none⟩ = _ := oX.k 1 rfl; have q2 : W.cell? ⟨w.heap.size, 2, none⟩ = _ := oX.k 2 rfl; have kc := HS.out _ hBX
 have hts : (⟨l.toArray⟩ : ByteArray).size < 128 := by
   show l.toArray.size < 128; simp; omega
 go_wp2_with fail
 go_region_held3 (fun V => V.cell? ⟨w.heap.size, 0, none⟩ = some (vI s) ∧ V.cell? ⟨w.heap.size, 1, none⟩ = some (vI a) ∧ V.cell? ⟨w.heap.size, 2, none⟩ = some (.slice A l.length c) ∧ (convert 35 9 (.slice A l.length c)).run Tryz.prog V = .ok (.string ⟨l.toArray⟩) V) (first | ((try dsimp only); exact ⟨oX.k 0 rfl, oX.k 1 rfl, oX.k 2 rfl, HS.out _ hBX⟩) | go_keep) ((first
     | (go_at_call 85; (with_reducible refine (new_calls _).mono ?_); rintro e V1 ⟨rfl, rfl⟩); have hMX : Mk (W.alloc (.cells #[vN, .bool false] 250)).drew W.heap.size (fun i => i < W.heap.size) ([], false) := Mk.new W.drew (fun i => i < W.heap.size) (fun i h => h); have oX : Ob (W.alloc (.cells #[vN, .bool false] 250)).drew w.heap.size 233 #[vI s, vI a, .slice A l.length c] := oX.alloc (.cells #[vN, .bool false] 250); have hBX : Below w.heap.size w (W.alloc (.cells #[vN, .bool false] 250)).drew := hBX.alloc hBX.size (.cells #[vN, .bool false] 250)
     | (go_at_call 86; (with_reducible refine (mnum_s hMX (by simp only [List.length_append, List.length_nil]; omega) (by omega) (by omega)).mono ?_); rintro e V1 ⟨rfl, hMX, hKX⟩); have oX := hKX.ob oX hlt; have hBX := hBX.trans (hKX.below (fun i hi => by omega))
     | (go_at_call 130; (with_reducible refine (mtext_s hMX (by simp only [List.length_append, List.length_nil]; omega) hts).mono ?_); rintro e V1 ⟨rfl, hMX, hKX⟩); have oX := hKX.ob oX hlt; have hBX := hBX.trans (hKX.below (fun i hi => by omega))
     | (go_at_call 88; (with_reducible refine (mdone_calls _ _ _ _ hMX rfl).mono ?_); rintro e V1 ⟨⟨u, rfl, hu⟩, hbX⟩); have oX := oX.same hbX; have hWX := hBX.size; have hBX := hBX.trans (hbX.mono hBX.size)))
 have e : [] ++ numC s ++ numC a ++ (numC (⟨l.toArray⟩ : ByteArray).size ++ (⟨l.toArray⟩ : ByteArray).data.toList) = pkC s a l := by simp [pkC, ByteArray.size]
 rw [e] at hu; go_wp2; go_ret2; exact ⟨⟨_, rfl, Wa.ownsRow_wide hu hWX⟩, hBX⟩
theorem ldecode_calls {s a : Int} {v : Value} {l : List UInt8} {w : World} (hI : BytesAt w 0 w.heap.size v (pkC s a l)) (h1 : 0 ≤ s) (h2 : s ≤ 10) (h3 : 0 ≤ a) (h4 : a ≤ 10) (hl : l.length ≤ 100) (h0 : 1 ≤ s ∨ l = []) :
   Calls Tryz.prog 118 #[v] w fun e w' => (∃ u, e = .returned (.tuple #[.agg #[vI s, vI a, u], vO]) ∧ BytesAt w' w.heap.size w'.heap.size u l) ∧ Below w.heap.size w w' := by
 have n1 := numC_len s; have n2 := numC_len a; have n3 := numC_len l.length; have hlen : (pkC s a l).length ≤ 200 := by simp only [pkC, List.length_append]; omega
 have hal := (Below.refl w.heap.size w).alloc (Nat.le_refl _) (.cells #[vO, vO, vN] 233); have oR := Ob.new w 233 #[vO, vO, vN]; have cT := hdd (take_calls (pkC s a l) v _ (hI.mono hal hal.size) (by omega)); obtain ⟨A, c, rfl, -⟩ := hI.form
 have hP : pkC s a l = UInt8.ofNat s.toNat :: UInt8.ofNat a.toNat :: UInt8.ofNat (l.length : Int).toNat :: (l ++ []) := by
   unfold pkC; rw [numC_s h1 (by omega), numC_s h3 (by omega), numC_s (by omega) (by omega)]; simp
 have HP := hdd hP; have H0 := hdd h0; clear hI n1 n2 n3 hP h0
 go_enter Tryz.func118, Tryz.ntmps118
 go_wp2_with fail; refine (cT.out).mono ?_; rintro e W1 ⟨⟨bt, rfl, hb1, hb2, hT⟩, hB1⟩; rw [HP.out] at hT; have hs0 : (w.alloc (.cells #[vO, vO, vN] 233)).heap.size = w.heap.size + 1 := by simp
 have hbt : w.heap.size < bt := by omega
 clear hs0 hb1; have oR1 := oR.same hB1; have hw1 := hal.trans (hB1.mono hal.size); clear hB1 oR hal; go_wp2_with fail; refine (tnum_s hT (ofN h1 (by omega)) (ofN_lt h1 (by omega)) (by omega) (by omega)).mono ?_; rintro e W2 ⟨rfl, hT2, hg2⟩; have oR2 := oR1.kept hg2 (by intro e; injection e with e; omega); have hw2 := hw1.grown hg2 hw1.size (by rintro k ⟨⟩; omega); clear hT hg2 oR1 hw1; go_wp2_with fail; refine (tnum_s hT2 (ofN h3 (by omega)) (ofN_lt h3 (by omega)) (by omega) (by omega)).mono ?_; rintro e W3 ⟨rfl, hT3, hg3⟩; have oR3 := oR2.kept hg3 (by intro e; injection e with e; omega); have hw3 := hw2.grown hg3 hw2.size (by rintro k ⟨⟩; omega); clear hT2 hg3 oR2 hw2; go_wp2_with fail; have hal3 := (Below.refl W3.heap.size W3).alloc (Nat.le_refl _) (.cells #[vI s, vI a, vN] 233); have oP := Ob.new W3 233 #[vI s, vI a, vN]; refine (ttext_s (hT3.same hal3) (by rw [toNat_ofNat (by omega)]; omega) (ofN_lt (by omega) (by omega)) (by omega)).mono ?_; rintro e W4 ⟨rfl, hT4, hg4⟩; have z0 := hw3.size
 have hb3 : bt < W3.heap.size := by
   obtain ⟨_, v, _, _, _, h, _⟩ := hT3; exact h.lt
 have oP4 := oP.kept hg4 (by intro e; injection e with e; omega); have oR4 := (oR3.same hal3).kept hg4 (by intro e; injection e with e; omega); have hw4 := (hw3.trans (hal3.mono hw3.size)).grown hg4 (by simp; omega) (by rintro k ⟨⟩; omega); have hlt4 : W3.heap.size < W4.heap.size := oP4.lt; clear hT3 hg4 oR3 hw3 oP hal3; obtain ⟨cc, W5, hrun, hby, hbl⟩ := conv_at (P := Tryz.prog) (src := 9) (dst := 35) Tryz.underlying9 Tryz.underlying35 Tryz.underlying5 (bs l) W4 (by rw [bs_size]; omega); rw [bs_size] at hrun hby; rw [bs_data] at hby; have oP5 := oP4.same hbl; have oR5 := oR4.same hbl; have hT5 := hT4.same hbl; have hw5 := hw4.trans (hbl.mono hw4.size); have z5 := hbl.size; have HBY := hdd hby; clear hT4 hbl oR4 hw4 oP4 hby; have g5 := oP5.k 2 rfl; have f5 := oP5.frozen 2; have hgs := grownBy_set W5 W3.heap.size 2 (.slice (some ⟨W4.heap.size, 0, none⟩) l.length cc); have cD := hdd (tdone_s (hT5.kept hgs (by intro e; injection e with e; omega) (by rintro g ⟨⟩; omega))); have oP6 : Ob _ _ _ #[vI s, vI a, .slice (some ⟨W4.heap.size, 0, none⟩) l.length cc] := oP5.set 2 (.slice (some ⟨W4.heap.size, 0, none⟩) l.length cc); have oR6 := oR5.kept hgs (by intro e; injection e with e; omega); have hw6 := hw5.grown hgs hw5.size (by rintro k ⟨⟩; omega); have hby6 : BytesAt (W5.setCell ⟨W3.heap.size, 2, none⟩ (.slice (some ⟨W4.heap.size, 0, none⟩) l.length cc)) W4.heap.size W5.heap.size (.slice (some ⟨W4.heap.size, 0, none⟩) l.length cc) l := Sl.grown HBY.out hgs (Nat.le_refl _) (by rintro k ⟨⟩; omega)
 have z6 : (W5.setCell ⟨W3.heap.size, 2, none⟩ (.slice (some ⟨W4.heap.size, 0, none⟩) l.length cc)).heap.size = W5.heap.size := by simp
 have HBY6 := hdd hby6; have cP := hdd (fun W hI => pmay_calls s a (.slice (some ⟨W4.heap.size, 0, none⟩) l.length cc) l W W4.heap.size W5.heap.size hI h1 h2 h3 h4 hl H0.out); have Z6 := hdd z6; clear hgs hT5 oP5 oR5 hw5 hby6 z6; have r0 := oP6.k 0 rfl; have r1 := oP6.k 1 rfl; have r2 := oP6.k 2 rfl; go_wp2_with fail; refine (cD.out).mono ?_; rintro e W6 ⟨rfl, rfl⟩; go_wp2_with fail; refine (cP.out _ HBY6.out).mono ?_; rintro e W7 ⟨rfl, hb7⟩; have oP7 := oP6.same hb7; have oR7 := oR6.same hb7; have hw7 := hw6.trans (hb7.mono hw6.size); have hby7 := HBY6.out.mono (hb7.mono (by rw [Z6.out]; exact Nat.le_refl _)) (by have := hb7.size; rw [Z6.out] at this; exact this); clear hb7 oP6 oR6 hw6 r0 r1 r2; have r0 := oP7.k 0 rfl; have r1 := oP7.k 1 rfl; have r2 := oP7.k 2 rfl; have t0 := oR7.k 0 rfl; have t1 := oR7.k 1 rfl; have t2 := oR7.k 2 rfl; have u0 := oR7.frozen 0; have u1 := oR7.frozen 1; have u2 := oR7.frozen 2; go_wp2; have oR8 : Ob _ _ _ #[vI s, vI a, .slice (some ⟨W4.heap.size, 0, none⟩) l.length cc] := ((oR7.set 0 (vI s)).set 1 (vI a)).set 2 (.slice (some ⟨W4.heap.size, 0, none⟩) l.length cc); have v0 := oR8.k 0 rfl; have v1 := oR8.k 1 rfl; have v2 := oR8.k 2 rfl; have hw8 := ((hw7.setCell (p := ⟨w.heap.size, 0, none⟩) (Nat.le_refl _) (vI s)).setCell (p := ⟨w.heap.size, 1, none⟩) (Nat.le_refl _) (vI a)).setCell (p := ⟨w.heap.size, 2, none⟩) (Nat.le_refl _) (.slice (some ⟨W4.heap.size, 0, none⟩) l.length cc)
 have hby8 : BytesAt (((W7.setCell ⟨w.heap.size, 0, none⟩ (vI s)).setCell ⟨w.heap.size, 1, none⟩ (vI a)).setCell ⟨w.heap.size, 2, none⟩ (.slice (some ⟨W4.heap.size, 0, none⟩) l.length cc)) W4.heap.size W7.heap.size (.slice (some ⟨W4.heap.size, 0, none⟩) l.length cc) l :=
   sl_sets (b := w.heap.size) (sl_sets (b := w.heap.size) (sl_sets (b := w.heap.size) hby7 (.inl (by omega)) 0 _) (.inl (by omega)) 1 _) (.inl (by omega)) 2 _
 have hsz : (((W7.setCell ⟨w.heap.size, 0, none⟩ (vI s)).setCell ⟨w.heap.size, 1, none⟩ (vI a)).setCell ⟨w.heap.size, 2, none⟩ (.slice (some ⟨W4.heap.size, 0, none⟩) l.length cc)).heap.size = W7.heap.size := by simp
 refine bodyPost_ret (v := .tuple #[.agg #[vI s, vI a, .slice (some ⟨W4.heap.size, 0, none⟩) l.length cc], vO]) ?_ rfl ⟨⟨_, rfl, hby8.wide (by omega) (by rw [hsz]; exact Nat.le_refl _)⟩, hw8⟩; simp [results, Tryz.f118, go_sem, v0, v1, v2]
theorem packet_calls {e : Nat} {v : Value} {sent mark sq tr du : Int} {bv : Value} {l : List UInt8} {w : World} (ho : Ob w e 200 #[v, vI sent, vI mark]) (hI : BytesAt w 0 w.heap.size bv l) (hl : l.length ≤ 100) :
   Calls Tryz.prog 230 #[ptr e, .agg #[vI sq, bv, vI tr, vI du]] w fun e w' => (∃ u, e = .returned (.agg #[vI sq, vI mark, u]) ∧ w'.ownsRow w.heap.size 5 1 u l.length (bytesV l)) ∧ Below w.heap.size w w' := by
 have hal := ((Below.refl w.heap.size w).alloc (Nat.le_refl _) (.cells #[vI sq, bv, vI tr, vI du] 317)).alloc (by simp) (.cells #[vO, vO, vN] 233); have oI := (Ob.new w 317 #[vI sq, bv, vI tr, vI du]).alloc (.cells #[vO, vO, vN] 233); have oR := Ob.new (w.alloc (.cells #[vI sq, bv, vI tr, vI du] 317)) 233 #[vO, vO, vN]; rw [World.size_alloc] at oR; have oE := ho.below hal ho.lt; have elt := ho.lt; have HI := hdd (hI.below hal); obtain ⟨A, c, rfl, -⟩ := hI.form; clear hI ho
 go_enter Tryz.func230, Tryz.ntmps230
 go_wp2; generalize ((w.alloc (.cells #[vI sq, .slice A l.length c, vI tr, vI du] 317)).alloc (.cells #[vO, vO, vN] 233)) = W at *; have oI' : Ob W.drew w.heap.size 317 #[vI sq, .slice A l.length c, vI tr, vI du] := oI; have hw : Below w.heap.size w W.drew := hal.drew; have cC := hdd (cloneb_calls l (.slice A l.length c) W.drew (HI.out.mono (B := w.heap.size) (Below.refl w.heap.size W).drew hw.size) (by omega)); have HIX := hdd oI'; have HRX := hdd (show Ob W.drew (w.heap.size + 1) 233 #[vO, vO, vN] from oR); have HEX := hdd (show Ob W.drew e 200 #[v, vI sent, vI mark] from oE); have q0 := oI.k 0 rfl; have q1 := oI.k 1 rfl; have m2 := oE.k 2 rfl; have r0 := oR.k 0 rfl; have r1 := oR.k 1 rfl; have r2 := oR.k 2 rfl; have hs : w.heap.size ≤ W.drew.heap.size := hw.size; have ne1 : e ≠ w.heap.size + 1 := by omega
 have hlr : w.heap.size + 1 < W.drew.heap.size := oR.lt; have ne2 : w.heap.size + 1 ≠ e := by omega
 clear oI oI' oE oR hal
 go_region_held3 (fun V => V.cell? ⟨w.heap.size, 0, none⟩ = some (vI sq) ∧ V.cell? ⟨w.heap.size, 1, none⟩ = some (.slice A l.length c) ∧ V.cell? ⟨e, 2, none⟩ = some (vI mark)) (first | ((try dsimp only); exact ⟨(HIX.out.same hbX).k 0 rfl, (HIX.out.same hbX).k 1 rfl, (HEX.out.same hbX).k 2 rfl⟩) | go_keep) ((first | (go_at_call 112; (with_reducible refine (cC.out).mono ?_); rintro e2 V1 ⟨⟨u, rfl, hu⟩, hbX⟩); obtain ⟨Au, cu, rfl, -⟩ := (BytesAt.of_own hu).form; have r0 := (HRX.out.same hbX).k 0 rfl; have r1 := (HRX.out.same hbX).k 1 rfl; have r2 := (HRX.out.same hbX).k 2 rfl; have x0 := (HIX.out.same hbX).k 0 rfl; have x1 := (HIX.out.same hbX).k 1 rfl; have x2 := (HEX.out.same hbX).k 2 rfl; have f0 := (HRX.out.same hbX).frozen 0; have f1 := (HRX.out.same hbX).frozen 1; have f2 := (HRX.out.same hbX).frozen 2))
 go_wp2; have oR9 : Ob _ _ _ #[vI sq, vI mark, .slice Au l.length cu] := (((HRX.out.same hbX).set 0 (vI sq)).set 1 (vI mark)).set 2 (.slice Au l.length cu); have v0 := oR9.k 0 rfl; have v1 := oR9.k 1 rfl; have v2 := oR9.k 2 rfl; have hw9 := (((hw.trans (hbX.mono hs)).setCell (p := ⟨w.heap.size + 1, 0, none⟩) (by simp) (vI sq)).setCell (p := ⟨w.heap.size + 1, 1, none⟩) (by simp) (vI mark)).setCell (p := ⟨w.heap.size + 1, 2, none⟩) (by simp) (.slice Au l.length cu); have hu9 := ownsRow_set (ownsRow_set (ownsRow_set hu hlr (j := 0) (u := vI sq)) hlr (j := 1) (u := vI mark)) hlr (j := 2) (u := .slice Au l.length cu); refine bodyPost_ret (v := .agg #[vI sq, vI mark, .slice Au l.length cu]) ?_ rfl ⟨⟨_, rfl, Wa.ownsRow_wide hu9 hs⟩, hw9⟩; simp [results, Tryz.f230, go_sem, v0, v1, v2]
theorem item_info : (Tryz.prog.info? 317).map (fun i => (i.zero, i.size, i.bytes)) = some (some (.agg #[vO, vN, vO, vO]), 4, 48) := by kernel_rfl
theorem send_calls {e : Nat} {its : List LItem} {sent mark : Nat} {bv : Value} {l : List UInt8} {r : List As} {w : World} (now : Nat) (h : St (EndA e its sent mark :: BytesA bv l :: r) w) (hn : now ≤ 10) (hs : sent ≤ 5) (hi : its.length ≤ 5) (hl : l.length ≤ 100) :
   Calls Tryz.prog 229 #[ptr e, bv, vI now] w fun e' w' => ∃ u A c, e' = .returned (.tuple #[.agg #[vI ((sent : Int) + 1), vI mark, u], vO]) ∧ St (EndA e (its ++ [((sent : Int) + 1, .slice A l.length c, 1, (now : Int) + 2)]) ((sent : Int) + 1) mark :: BytesA u l :: BytesA bv l :: r) w' := by
 obtain ⟨v, s0⟩ := h.ex; have s := s0.flat; simp only [zzH, zzI, zzG, zzF, List.length_cons, List.length_nil] at s; have hI := s.by 2 rfl
 obtain ⟨A, c, rfl, -⟩ := hI.form; clear h s0 hI; have s1 := s.obNew 233 #[vO, vO, vN]; have hown := s1.own 2 rfl; obtain ⟨Av, cv, rfl, -⟩ := (Sl.of_own hown).at_; clear hown s; have oE := s1.ob (b := e) 1 rfl; have g0 := oE.k 0 rfl; have g1 := oE.k 1 rfl; have f1 := oE.frozen 1; have s2 : St (ObA e 200 #[.slice Av its.length cv, vI ((sent : Int) + 1), vI mark] :: _) _ := (s1.front 1 rfl).set 1 (vI ((sent : Int) + 1)); simp only [zzH, zzI, zzG, zzF, List.length_cons, List.length_nil] at s2; clear oE
 go_enter Tryz.func229, Tryz.ntmps229
 go_wp2; generalize (w.alloc (.cells #[vO, vO, vN] 233)).setCell ⟨e, 1, none⟩ (vI ((sent : Int) + 1)) = W at *; clear s1 g0 g1 f1; have sB := s2.obNew 317 #[vO, vN, vO, vO]; have cA := hdd (cloneb_calls l (.slice A l.length c) W.drew (s2.drew.by 3 rfl) (by omega)); have cB := hdd (cloneb_calls l (.slice A l.length c) (W.alloc (.cells #[vO, vN, vO, vO] 317)).drew (sB.drew.by 4 rfl) (by omega)); have elt := (s2.ob (b := e) 0 rfl).lt; have ne1 : e ≠ W.heap.size := by omega
 have ne2 : W.heap.size ≠ e := by omega
 have g1 := (s2.ob (b := e) 0 rfl).k 1 rfl
 go_cut [8] (fun q V => ∃ qb cl, q = ptr qb ∧ St (ObA qb 317 #[vI ((sent : Int) + 1), cl, vI 1, vI ((now : Int) + 2)] :: BytesA cl l :: ObA e 200 #[.slice Av its.length cv, vI ((sent : Int) + 1), vI mark] :: ObA w.heap.size 233 #[vO, vO, vN] :: RowA 317 4 (.slice Av its.length cv) its.length (its.flatMap litC) :: BytesA (.slice A l.length c) l :: r) V)
 case first =>
   go_region_held3 (fun V => V.cell? ⟨e, 1, none⟩ = some (vI ((sent : Int) + 1))) (go_keep) ((first
       | (go_at_call 112; (with_reducible refine (cA.out).mono ?_); rintro e2 V1 ⟨⟨u, rfl, hu⟩, hbX⟩); obtain ⟨Au, cu, rfl, -⟩ := (BytesAt.of_own hu).form; have s3 := s2.drew.bytes hbX hu; have x1 := (s3.ob (b := e) 1 rfl).k 1 rfl; have elt1 := (s3.ob (b := e) 1 rfl).lt; have ne3 : e ≠ V1.heap.size := Nat.ne_of_lt elt1; have ne4 : V1.heap.size ≠ e := Ne.symm ne3
       | (go_at_call 112; (with_reducible refine (cB.out).mono ?_); rintro e2 V1 ⟨⟨u, rfl, hu⟩, hbX⟩); obtain ⟨Au, cu, rfl, -⟩ := (BytesAt.of_own hu).form; have s3 := sB.drew.bytes hbX hu; have x1 := (s3.ob (b := e) 2 rfl).k 1 rfl; have oq := s3.ob (b := W.heap.size) 1 rfl; have ⟨r0, r1, r2, r3⟩ := oq.k4 rfl rfl rfl rfl; have f0 := oq.frozen 0; have f1 := oq.frozen 1; have f2 := oq.frozen 2; have f3 := oq.frozen 3
       | (go_at_call 231; (with_reducible refine (next_calls now hn _).mono ?_); rintro e2 V2 ⟨rfl, rfl⟩)))
   all_goals
     go_wp2_with fail
     go_meet
     case rel => first | exact ⟨_, _, rfl, s3.obNew _ _⟩ | exact ⟨_, _, rfl, ((((s3.front 1 rfl).set 0 _).set 1 _).set 2 _).set 3 _⟩
 clear g1 cA cB s2 sB; obtain ⟨qb, cl, rfl, s4⟩ := hcut; obtain ⟨Ac, cc, rfl, -⟩ := (s4.by 1 rfl).form; go_wp2_with fail; refine Pq.regionT (.look 0 (.look 1 (.look 2 (.look 3 (.look 4 (.look 5 (.look 8 (.look 9 (.make 6 (.make 7 (.make 10 .nil))))))))))) (fun V => Ob V e 200 #[.slice Av its.length cv, vI ((sent : Int) + 1), vI mark] ∧ Ob V qb 317 #[vI ((sent : Int) + 1), .slice Ac l.length cc, vI 1, vI ((now : Int) + 2)]) Se.hmx (by kernel_rfl) (by kernel_rfl) (by kernel_rfl) ⟨((s4).drew.ob 2 rfl), ((s4).drew.ob 0 rfl)⟩ rfl ?_; simp only [Pq.named, Pq.rest, zzJ, zzK, zzL, zzM]
 iterate 8 (
   apply Pq.WalkT.on (by rfl)
   · rintro V ⟨hO0, hO1⟩
     have e0 := hO0.k 0 rfl; have e1 := hO0.k 1 rfl; have e2 := hO0.k 2 rfl; have ⟨q0, q1, q2, q3⟩ := hO1.k4 rfl rfl rfl rfl; go_wp2_with fail; refine ⟨rfl, ?_, rfl⟩
     try simp only [Act.put, zzA, zzB, zzC]
     rfl
   simp only [Act.put, zzA, zzB, zzC])
 have sA0 := ((s4).drew).alloc (.cells #[vI ((sent : Int) + 1), .slice Ac l.length cc, vI 1, vI ((now : Int) + 2)] 317); have hSl0 := Sl.new ((wc).drew) #[vI ((sent : Int) + 1), .slice Ac l.length cc, vI 1, vI ((now : Int) + 2)] 317 (n := 1) (size := 4) rfl (by unfold maxLen; omega); obtain ⟨iA, hiA, hzA0, hzA1, hzA2⟩ := inf3 item_info; refine Pq.WalkT.make (by rfl) ?_; rintro T1 hq; replace hq := hq.symm; subst hq; go_wp2_with fail; refine Pq.mk3 (.slice (some ⟨((wc).drew).heap.size, 0, none⟩) 1 1) ⟨sA0.ob 2 rfl, sA0.ob 0 rfl⟩ ?_ ?_
 · try simp only [Act.put, zzA, zzB, zzC]
   try rfl
 simp only [Act.put, zzA, zzB, zzC]; refine Pq.WalkT.make (by rfl) ?_; rintro T2 hq; replace hq := hq.symm; subst hq; refine wpList_append_sl _ rfl (.tmp 46) (.tmp 48) _ rfl 0 317 iA _ 4 48 Tryz.underlying198 hiA hzA0 hzA1 hzA2 rfl (by omega) (.slice Av its.length cv) its.length (its.flatMap litC) rfl (sA0.own 4 rfl) _ _ _ 1 (#[vI ((sent : Int) + 1), .slice Ac l.length cc, vI 1, vI ((now : Int) + 2)]).toList rfl hSl0 (by simp [Value.oneCell']) (by unfold maxLen; omega) (by omega) (by simp) ?_; intro v1 T3 hv1 hg1 hat1; obtain ⟨A9, c9, hv9, -⟩ := (Sl.of_own hv1).at_; subst hv9; have sA1 := (sA0.front 4 rfl).row hv1 hg1 hat1; refine Pq.mk3 (.slice A9 (its.length + 1) c9) ⟨sA1.ob 3 rfl, sA1.ob 1 rfl⟩ ?_ ?_
 · try simp only [Act.put, zzA, zzB, zzC]
   try rfl
 simp only [Act.put, zzA, zzB, zzC]; refine Pq.WalkT.make (by rfl) ?_; rintro T4 hq; replace hq := hq.symm; subst hq; have gA := (sA1.ob 3 rfl).k 0 rfl; have fA := (sA1.ob 3 rfl).frozen 0; have sA2 := (sA1.front 3 rfl).set 0 (.slice A9 (its.length + 1) c9); go_wp2_with fail; refine ⟨rfl, undef, (fun _ => True), (fun V => V = _), rfl, rfl, (fun _ _ => trivial), (.inl (by kernel_rfl)), Pq.WalkT.nil ?_⟩; rintro V rfl; simp only [Act.put]; clear gA fA; simp only [zzH, zzI, zzG, zzF, List.length_cons, List.length_nil] at sA2; have oE9 : Ob _ e 200 #[.slice A9 (its.length + 1) c9, vI ((sent : Int) + 1), vI mark] := sA2.ob 0 rfl; have cK := hdd (packet_calls (sq := (sent : Int) + 1) (tr := 1) (du := (now : Int) + 2) oE9 (sA2.by 3 rfl) hl); have oq := sA2.ob (b := qb) 2 rfl; have ⟨q0, q1, q2, q3⟩ := oq.k4 rfl rfl rfl rfl; clear oE9 oq s4 sA0 sA1 hg1 hat1 hv1 hSl0; go_wp2_with fail; refine (cK.out).mono ?_; rintro e2 V5 ⟨⟨u, rfl, hu⟩, hb5⟩; obtain ⟨Au, cu, rfl, -⟩ := (BytesAt.of_own hu).form; have s5 := sA2.bytes hb5 hu; have oR := s5.ob (b := w.heap.size) 5 rfl; have t0 := oR.k 0 rfl; have t1 := oR.k 1 rfl; have t2 := oR.k 2 rfl; have f0 := oR.frozen 0; have f1 := oR.frozen 1; have f2 := oR.frozen 2; clear hu hb5 cK q0 q1 q2 q3 sA2; go_wp2; have s6 := (((s5.front 5 rfl).set 0 (vI ((sent : Int) + 1))).set 1 (vI mark)).set 2 (.slice Au l.length cu); have oR9 : Ob _ _ _ #[vI ((sent : Int) + 1), vI mark, .slice Au l.length cu] := ((oR.set 0 (vI ((sent : Int) + 1))).set 1 (vI mark)).set 2 (.slice Au l.length cu)
 have v0 := oR9.k 0 rfl; have v1 := oR9.k 1 rfl; have v2 := oR9.k 2 rfl; have s7 := ((s6).take [0, 3, 3, 1, 1, 0, 0]); simp only [takeOut, zzD, zzE, zzF, zzG, zzH, zzI] at s7; replace s7 := s7.drop.drop.drop; have s8 : St (EndA e (its ++ [((sent : Int) + 1, .slice Ac l.length cc, 1, (now : Int) + 2)]) ((sent : Int) + 1) mark :: BytesA (.slice Au l.length cu) l :: BytesA (.slice A l.length c) l :: r) _ := EndA.mk s7 (by simp) (by rw [List.flatMap_append]; rfl); refine bodyPost_ret (v := .tuple #[.agg #[vI ((sent : Int) + 1), vI mark, .slice Au l.length cu], vO]) ?_ rfl ⟨_, _, _, rfl, s8⟩; simp [results, Tryz.f229, go_sem, v0, v1, v2]
end
section
open Go.RowKit Go.Maps
open Ce It
theorem open_calls {e n : Nat} {A : Option Addr} {c : Nat} {sent mark : Value} {w : World} (ho : Ob w e 200 #[.slice A n c, sent, mark]) : Calls Tryz.prog 55 #[ptr e] w fun e' w' => e' = .returned (vI n) ∧ w = w' := by
 have g0 : w.cell? ⟨e, 0, none⟩ = some (.slice A n c) := ho.k 0 rfl
 go_enter Tryz.func55, Tryz.ntmps55
 go_wp2; go_ret; exact ⟨rfl, rfl⟩
theorem tick_nil {e : Nat} {A : Option Addr} {c : Nat} {sent mark : Value} {w : World} (now : Int) (ho : Ob w e 200 #[.slice A 0 c, sent, mark]) : Calls Tryz.prog 178 #[ptr e, vI now] w fun e' w' => e' = .returned vN ∧ w = w' := by
 have g0 : w.cell? ⟨e, 0, none⟩ = some (.slice A 0 c) := ho.k 0 rfl
 go_enter Tryz.func178, Tryz.ntmps178
 go_wp2; refine wp_loop_rounds 1 ?_; rw [rounds_succ]; go_wp2; go_ret; exact ⟨rfl, rfl⟩
theorem tick_one {e b o : Nat} {c : Nat} {sent mark : Value} {due now : Int} {w : World} (hd : now < due) (ho : Ob w e 200 #[.slice (some ⟨b, o, none⟩) 1 c, sent, mark]) (hc : w.cell? ⟨b, o + 3, none⟩ = some (vI due)) : Calls Tryz.prog 178 #[ptr e, vI now] w fun e' w' => e' = .returned vN ∧ w = w' := by
 have g0 : w.cell? ⟨e, 0, none⟩ = some (.slice (some ⟨b, o, none⟩) 1 c) := ho.k 0 rfl; have hd' : decide (due ≤ now) = false := by simp; omega
 go_enter Tryz.func178, Tryz.ntmps178
 go_wp2; refine wp_loop_rounds 2 ?_; rw [rounds_succ]; go_wp2; rw [rounds_succ]; go_wp2; go_ret; exact ⟨rfl, rfl⟩
theorem hold_new {r : List As} {w : World} (h : St r w) : Calls Tryz.prog 102 #[] w fun e w' => ∃ b sb mb, e = .returned (ptr b) ∧ St (ObA b 197 #[ptr sb, .map (some mb)] :: StkA sb [] :: r) w' := by
 have hmm := @run_makeMap Tryz.prog; have cN := hdd (stk_new h); clear h
 go_enter Tryz.func102, Tryz.ntmps102
 go_wp2_with fail; refine (cN.out).mono ?_; rintro e W ⟨sb, rfl, s1⟩; have s2 := (s1.alloc (.map #[] 0)).obNew 197 #[ptr sb, .map (some W.heap.size)]; rw [World.size_alloc] at s2; clear s1 cN; go_wp2; go_ret; exact ⟨_, _, _, rfl, s2⟩
theorem smade_calls {b sb mb : Nat} {w : World} (ho : Ob w b 197 #[ptr sb, .map (some mb)]) : Calls Tryz.prog 90 #[ptr b] w fun e w' => e = .returned (.bool true) ∧ w = w' := by
 have g0 : w.cell? ⟨b, 0, none⟩ = some (ptr sb) := ho.k 0 rfl; have g1 : w.cell? ⟨b, 1, none⟩ = some (.map (some mb)) := ho.k 1 rfl; have hn := fun (w : World) (r : Option Nat) => run_neq_map_nil (P := Tryz.prog) w 195 _ _ r Tryz.underlying195
 go_enter Tryz.func90, Tryz.ntmps90
 go_wp2; go_ret; exact ⟨rfl, rfl⟩
end
section
open Go.RowKit Go.Maps
open Ce
theorem fork_calls {b : Nat} {s : Sk.Stk} {r : List As} {w : World} (h : St r w) (k : Nat) (hk : r[k]? = some (StkA b s)) : Calls Tryz.prog 91 #[ptr b] w fun e w' => ∃ b', e = .returned (ptr b') ∧ St (StkA b' s :: r) w' := by
 obtain ⟨mb, hs⟩ := stk_at h k hk; have g0 : w.cell? ⟨b, 0, none⟩ = some (.map (some mb)) := hs.ob.k 0 rfl; have cM := hdd (Sk.made_calls b mb w g0); have cC := hdd (Sk.clone_calls mb _ w hs.map); have HS := hdd hs; have H := hdd h; clear hs h
 go_enter Tryz.func91, Tryz.ntmps91
 go_wp2_with fail; refine (cM.out).mono ?_; rintro e w' ⟨rfl, rfl⟩; go_wp2_with fail; refine cC.out.mono ?_; rintro e W ⟨rfl, hg, hlt, hb⟩
 have s1 : St (StkA W.heap.size s :: r) (W.alloc (.cells #[.map (some w.heap.size)] 135)) := by
   have hal := (Below.refl W.heap.size W).alloc (Nat.le_refl _) (.cells #[.map (some w.heap.size)] 135); refine H.out.born (hb.trans (hal.mono hb.size)) (A := fun i => i = W.heap.size ∨ i = w.heap.size) ⟨w.heap.size, ⟨Ob.new _ _ _, hg.kept (World.grownBy_alloc _ _ none) (by simp), HS.out.ok, by omega, ⟨Nat.zero_le _, Nat.zero_le _⟩, HS.out.len⟩, fun i => Iff.rfl⟩ fun i hi => by have := hb.size; omega
 go_wp2; go_ret; exact ⟨_, rfl, s1⟩
theorem stock_calls {b sb mb : Nat} {s : Sk.Stk} {r : List As} {w : World} (h : St (ObA b 197 #[ptr sb, .map (some mb)] :: StkA sb s :: r) w) : Calls Tryz.prog 51 #[ptr b] w fun e w' => ∃ b', e = .returned (ptr b') ∧ St (StkA b' s :: ObA b 197 #[ptr sb, .map (some mb)] :: StkA sb s :: r) w' := by
 have oB := h.ob 0 rfl; have g0 : w.cell? ⟨b, 0, none⟩ = some (ptr sb) := oB.k 0 rfl; have cM := hdd (smade_calls oB); have cF := hdd (fork_calls h 1 rfl); clear h oB
 go_enter Tryz.func51, Tryz.ntmps51
 go_wp2_with fail; refine (cM.out).mono ?_; rintro e w' ⟨rfl, rfl⟩; go_wp2_with fail; refine (cF.out).mono ?_; rintro e W ⟨b', rfl, s1⟩; go_wp2; go_ret; exact ⟨_, rfl, s1⟩
theorem sdo_calls {b sb mb : Nat} {s : Sk.Stk} {r : List As} {w : World} {L : List It.Item} {sv : Value} (h : St (ObA b 197 #[ptr sb, .map (some mb)] :: StkA sb s :: SlA 2 sv L.length (It.itemCells L) :: r) w) (hF : It.Fits L) :
   Calls Tryz.prog 392 #[ptr b, vI 1, sv] w fun e w' => e = .returned (vI (Sk.doS s 1 L).2) ∧ St (ObA b 197 #[ptr sb, .map (some mb)] :: StkA sb (Sk.doS s 1 L).1 :: SlA 2 sv L.length (It.itemCells L) :: r) w' := by
 have oB := h.ob 0 rfl; have g0 : w.cell? ⟨b, 0, none⟩ = some (ptr sb) := oB.k 0 rfl; have cM := hdd (smade_calls oB); have s1 := ((h).take [1, 1]); simp only [takeOut, zzD, zzE, zzF, zzG, zzH, zzI] at s1; have cD := hdd (stk_do s1 hF 1)
 obtain ⟨A, n, c, rfl⟩ : ∃ A n c, sv = .slice A n c := by
   obtain ⟨A, c, hv, -⟩ := (h.sl 2 rfl).at_; exact ⟨A, _, c, hv⟩
 clear h oB s1
 go_enter Tryz.func392, Tryz.ntmps392
 go_wp2_with fail; refine (cM.out).mono ?_; rintro e w' ⟨rfl, rfl⟩; go_wp2_with fail; refine cD.out.mono ?_; rintro e W ⟨rfl, s2⟩; have s3 := ((s2).take [2, 0, 0]); simp only [takeOut, zzD, zzE, zzF, zzG, zzH, zzI] at s3; go_wp2; go_ret; exact ⟨rfl, s3⟩
theorem backlog_new (w : World) : Calls Tryz.prog 100 #[] w fun e w' => e = .returned (ptr w.heap.size) ∧ w.alloc (.cells #[vN, vO] 278) = w' := by
 go_enter Tryz.func100, Tryz.ntmps100
 go_wp2; go_ret; exact ⟨rfl, rfl⟩
theorem news_calls {b : Nat} {w : World} (h : Ob w b 278 #[vN, vO]) : Calls Tryz.prog 320 #[ptr b] w fun e w' => e = .returned (.tuple #[]) ∧ w = w' := by
 have g0 := h.k 0 rfl; clear h
 go_enter Tryz.func320, Tryz.ntmps320
 go_wp2
 go_loop [11] (fun i => i = vO) (fun _ => 1)
 case atStart => rfl
 case round =>
   subst hrel; go_wp2; go_end0; exact ⟨rfl, rfl⟩
theorem findex_calls (w : World) : Calls Tryz.prog 420 #[vN, .func (.func 446) #[] #[]] w fun e w' => e = .returned (vI (-1)) ∧ w = w' := by
 go_enter Tryz.func420, Tryz.ntmps420
 go_wp2
 go_loop [8] (fun i => i = vO) (fun _ => 1)
 case atStart => rfl
 case round =>
   subst hrel; go_wp2; go_ret; exact ⟨rfl, rfl⟩
theorem try_calls {b : Nat} {w : World} (h : Ob w b 278 #[vN, vO]) : Calls Tryz.prog 396 #[ptr b] w fun e w' => e = .returned (.tuple #[vO, .bool false]) ∧ w = w' := by
 have g0 := h.k 0 rfl; have g1 := h.k 1 rfl; clear h; have hmf : ∀ (fn : Fn) (first cap : Array Value) (w : World), (Instr.makeFunc fn first cap).run Tryz.prog w = .ok (.func fn first cap) w := fun _ _ _ _ => rfl
 go_enter Tryz.func396, Tryz.ntmps396
 go_wp2_with fail; refine (findex_calls _).mono ?_; rintro e W ⟨rfl, rfl⟩; go_wp2; go_ret2; exact ⟨rfl, rfl⟩
theorem kindof_calls (w : World) : Calls Tryz.prog 391 #[vI 6] w fun e w' => e = .returned (.tuple #[vI 1, .bool true]) ∧ w = w' := by
 go_enter Tryz.func391, Tryz.ntmps391
 go_wp2; go_ret2; exact ⟨rfl, rfl⟩
theorem dis_calls (dk : Nat) (i : Int) (w : World) (h0 : 0 ≤ i) (h1 : i < 2) (h : w.cell? ⟨dk, 1, none⟩ = some (vI 2)) : Calls Tryz.prog 304 #[ptr dk, vI i] w fun e w' => e = .returned (.bool true) ∧ w = w' := by
 go_enter Tryz.func304, Tryz.ntmps304
 go_wp2; go_ret; exact ⟨rfl, rfl⟩
theorem nis_calls (n : Nat) (i : Int) (w : World) (h0 : 0 ≤ i) (h1 : i < 2) (h : w.cell? ⟨n, 1, none⟩ = some (vI 2)) : Calls Tryz.prog 119 #[ptr n, vI i] w fun e w' => e = .returned (.bool true) ∧ w = w' := by
 go_enter Tryz.func119, Tryz.ntmps119
 go_wp2; go_ret; exact ⟨rfl, rfl⟩
theorem parcel_new (w : World) : Calls Tryz.prog 101 #[] w fun e w' => e = .returned (ptr (w.heap.size + 1)) ∧ (w.alloc (.map #[] 0)).alloc (.cells #[.map (some w.heap.size)] 281) = w' := by
 have hmm := @run_makeMap Tryz.prog
 go_enter Tryz.func101, Tryz.ntmps101
 go_wp2; go_ret; exact ⟨rfl, rfl⟩
theorem move_new (w : World) : Calls Tryz.prog 103 #[] w fun e w' => e = .returned (ptr (w.heap.size + 1)) ∧ (w.alloc (.map #[] 0)).alloc (.cells #[.map (some w.heap.size)] 284) = w' := by
 have hmm := @run_makeMap Tryz.prog
 go_enter Tryz.func103, Tryz.ntmps103
 go_wp2; go_ret; exact ⟨rfl, rfl⟩
theorem region_new {r : List As} {w : World} (h : St r w) (me : Int) (h0 : 0 ≤ me) (h1 : me < 2) : Calls Tryz.prog 63 #[vI me, vI 2] w fun e w' => ∃ rg, e = .returned (.tuple #[ptr rg, vO]) ∧ St (RegA rg me [] :: r) w' := by
 have hd0 : decide (me < 0) = false := by simp; omega
 have hd1 : decide (me ≥ 2) = false := by simp; omega
 have cH := hdd (hold_new h); clear h
 go_enter Tryz.func63, Tryz.ntmps63
 go_wp2_with fail; refine cH.out.mono ?_; rintro e W1 ⟨hb, sb, mb, rfl, s1⟩; clear cH; go_wp2_with fail; refine (move_new W1).mono ?_; rintro e W2 ⟨rfl, rfl⟩; have s2 := ((s1.alloc (.map #[] 0)).alloc (.cells #[.map (some W1.heap.size)] 284)).obNew 130 #[vI me, vI 2, ptr hb, ptr (W1.heap.size + 1), vN]; simp only [World.size_alloc] at s2; clear s1; go_wp2; go_ret2; exact ⟨_, rfl, St.pack (P := fun a : Nat × Nat × Nat × Nat => sepA [ObA (W1.heap.size + 1 + 1) 130 #[vI me, vI 2, ptr a.1, ptr a.2.1, vN], ObA a.1 197 #[ptr a.2.2.1, .map (some a.2.2.2)], StkA a.2.2.1 []]) (hb, W1.heap.size + 1, sb, mb) (St.fold (l := [_, _, _]) s2)⟩
theorem away_calls {rg : Nat} {me : Int} {s : Sk.Stk} {r : List As} {w : World} (h : St (RegA rg me s :: r) w) : Calls Tryz.prog 317 #[ptr rg] w fun e w' => e = .returned (.tuple #[]) ∧ St (RegA rg me s :: r) w' := by
 obtain ⟨sh, mv, st, hm, s0⟩ := RegA.out h; have oR := s0.ob (b := rg) 0 rfl; have g4 : w.cell? ⟨rg, 4, none⟩ = some vN := oR.k 4 rfl; have f4 := oR.frozen 4; have s1 : St (ObA rg 130 #[vI me, vI 2, ptr sh, ptr mv, vN] :: _) _ := s0.set 4 vN; have HS := hdd s1; clear h s0 s1 oR
 go_enter Tryz.func317, Tryz.ntmps317
 go_wp2; refine wp_loop_rounds 1 ?_; rw [rounds_succ]; go_wp2; go_end0; exact ⟨rfl, RegA.mk HS.out⟩
end
end Tp
end Go.Proofs.YtgcnhmjpfbbfcaaGreat
