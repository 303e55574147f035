/-
  part of the proof of TopNames.
-/
import Derived.Test.YtgcnhmjpfbbfcaaGreatTy25
set_option linter.unusedVariables false
set_option linter.unusedSimpArgs false
set_option maxRecDepth 100000
set_option maxHeartbeats 8000000
namespace Go.Proofs.YtgcnhmjpfbbfcaaGreat
namespace Tp
section
open Go.RowKit Go.Maps
open Ce It
attribute [local go_sem] Oper.semAt_some
theorem aencode_none (w : World) : Calls Tryz.prog 46 #[ask0] w fun e w' => e = .returned (.tuple #[vN, vI 1]) ∧ Below w.heap.size w w' := by
 have hb := (Below.refl w.heap.size w).alloc (Nat.le_refl _) (.cells #[vO, vO, vO, vO, vO, vO, vO, vE, vN] 32)
 go_enter Tryz.func46, Tryz.ntmps46
 go_wp2_with fail; refine (amay_none _).mono ?_; rintro e W ⟨rfl, hb1⟩; go_wp2; go_ret2; exact ⟨rfl, hb.trans (hb1.mono hb.size)⟩
theorem new_s (w : World) : Calls Tryz.prog 85 #[] w fun e w' => ∃ bm, e = .returned (ptr bm) ∧ w.heap.size ≤ bm ∧ Mk w' bm (fun i => i < w.heap.size) ([], false) ∧ Below w.heap.size w w' :=
 (new_calls w).mono fun e w' h => by
   obtain ⟨rfl, rfl⟩ := h; exact ⟨_, rfl, Nat.le_refl _, Mk.new w _ (fun i h => h), (Below.refl _ w).alloc (Nat.le_refl _) _⟩
theorem mk_box {w : World} {bm n : Nat} {Fr : Nat → Prop} {s : List UInt8 × Bool} (h : Mk w bm Fr s) (hF : ∀ i, i < n → Fr i) (o : Obj) : ∃ Fr' : Nat → Prop, (∀ i, i < n → Fr' i) ∧ Fr' w.heap.size ∧ Mk (w.alloc o) bm Fr' s :=
 ⟨fun i => Fr i ∨ i = w.heap.size, fun i hi => .inl (hF i hi), .inr rfl, h.later ((Below.refl _ w).alloc (Nat.le_refl _) o) (fun i hi => ⟨hi.elim .inl (fun e => .inr (by omega)), by rcases hi with q | q <;> first | (have := h.2.2.1 i q; rw [World.size_alloc]; omega) | (rw [World.size_alloc]; omega)⟩)⟩
theorem mk_off {w : World} {bm b : Nat} {Fr : Nat → Prop} {s : List UInt8 × Bool} (h : Mk w bm Fr s) (hb : Fr b) (j : Nat) (u : Value) : Mk (w.setCell ⟨b, j, none⟩ u) bm Fr s := by
 obtain ⟨h1, h2, h3, v, hO, hR, hG⟩ := h; have hk : Kept (fun i => i ≠ b) w (w.setCell ⟨b, j, none⟩ u) := ⟨rfl, rfl, rfl, Nat.le_of_eq (by simp), fun i hi => Below.heap_setCell w ⟨b, j, none⟩ u i hi⟩; exact ⟨h1, h2, fun i hi => Nat.lt_of_lt_of_le (h3 i hi) hk.size, v, hk.ob hO (fun e => h2 (e ▸ hb)), ⟨hR.1, hR.2.imp id fun ⟨g, cap, cur, q1, q2, q3, q4⟩ => ⟨g, cap, cur, q1, q2, (hk.block g (fun e => hG g (by rw [q1]; rfl) (e ▸ hb))).trans q3, q4⟩⟩, hG⟩
theorem nil_str (V : World) : (convert 35 9 vN).run Tryz.prog V = .ok vE V := run_string_at (P := Tryz.prog) (src := 35) (dst := 9) Tryz.underlying35 Tryz.underlying5 Tryz.underlying9 (BytesAt.nil V 0 0)
theorem mencode_q {sv : Value} {w : World} (hI : ItemsAt w 0 w.heap.size sv itm) : Calls Tryz.prog 233 #[mailQ 1 sv] w fun e w' => (∃ u, e = .returned (.tuple #[u, vO]) ∧ w'.ownsRow w.heap.size 5 1 u codeQ.length (bytesV codeQ)) ∧ Below w.heap.size w w' := by
 have HI := hdd hI; obtain ⟨A, c, rfl, hc1⟩ := itm_form hI; clear hI; have hb0 := (Below.refl w.heap.size w).alloc (Nat.le_refl _) (.cells #[vI 1, vO, vN, vO, vI 1, vI 6, vO, vO, vO, vO, vE, .slice A 1 c, vO, vO, vO, vO] 304); have oA := Ob.new w 304 #[vI 1, vO, vN, vO, vI 1, vI 6, vO, vO, vO, vO, vE, .slice A 1 c, vO, vO, vO, vO]; have cM := hdd (mmay_q1 (HI.out.mono hb0 hb0.size)); refine (callsIn_wide (n := 6)).1 ?_; refine callsIn_of_wp_marks Tryz.func233 rfl trivial ?_ rfl; simp only [Tryz.ntmps233, List.size_toArray, List.length_cons, List.length_nil, Nat.reduceAdd, Nat.reduceSub, Array.replicate_succ, Array.replicate_zero, List.push_toArray, List.append_toArray, List.nil_append, List.cons_append]
 gi_wp2_with (refine ⟨trivial, ?_⟩; gi_at_call 239; refine (callsIn_wide.2 cM.out).mono ?_; rintro e W ⟨rfl, hb1⟩)
 have oW := oA.same hb1; have hbW := hb0.trans (hb1.mono hb0.size); have hlt : w.heap.size < W.heap.size := oW.lt; clear oA cM hb1 hb0; refine wpIn_wide.2 ?_; have oX : Ob W.drew w.heap.size 304 #[vI 1, vO, vN, vO, vI 1, vI 6, vO, vO, vO, vO, vE, .slice A 1 c, vO, vO, vO, vO] := oW; have hbX : Below W.heap.size W W.drew := (Below.refl _ _).drew; have q0 := oW.k 0 rfl; have q1 := oW.k 1 rfl; have q2 := oW.k 2 rfl; refine Code.wp_mono (Q := fun e a V => ∃ kb bm, e = .normal ∧ a = { tmps := #[mailQ 1 (.slice A 1 c), ptr w.heap.size, vN, vO, ptr kb, undef, undef, undef, undef, .agg #[vI 1, vO, vN, vO, vI 1, vI 6, vO, vO, vO, vO, vE, .slice A 1 c, vO, vO, vO, vO], .bool true, .bool false, ptr bm, .pointer (some ⟨w.heap.size, 0, none⟩), vI 1, ptr bm, .pointer (some ⟨w.heap.size, 1, none⟩), vO, ptr bm, .pointer (some ⟨w.heap.size, 2, none⟩), vN, vO, ptr bm, undef, undef, undef, undef, undef, undef, undef, undef, undef, undef, undef, undef, undef, undef, undef, undef, undef, undef, undef, undef, undef, undef, undef, undef, undef, undef, undef, undef, undef, undef, undef, undef, undef, undef, undef, undef, undef, undef, undef, undef, undef, undef, undef, undef, undef], defers := [] } ∧ ∃ Fr : Nat → Prop, (∀ i, i < W.heap.size → Fr i) ∧ Fr kb ∧ Mk V bm Fr ([] ++ numC 1 ++ numC 0 ++ numC 0, false) ∧ Ob V kb 190 #[ptr bm] ∧ Ob V w.heap.size 304 #[vI 1, vO, vN, vO, vI 1, vI 6, vO, vO, vO, vO, vE, .slice A 1 c, vO, vO, vO, vO] ∧ Below W.heap.size W V) ?imp ?reg
 case reg =>
   clear hbW HI
   go_region_held3 (fun V => V.cell? ⟨w.heap.size, 0, none⟩ = some (vI 1) ∧ V.cell? ⟨w.heap.size, 1, none⟩ = some vO ∧ V.cell? ⟨w.heap.size, 2, none⟩ = some vN) (first | ((try dsimp only); exact ⟨oX.k 0 rfl, oX.k 1 rfl, oX.k 2 rfl⟩) | ((try dsimp only); exact ⟨(oX.alloc (.cells #[.pointer none] 190)).k 0 rfl, (oX.alloc (.cells #[.pointer none] 190)).k 1 rfl, (oX.alloc (.cells #[.pointer none] 190)).k 2 rfl⟩) | ((try dsimp only); exact ⟨(oX.alloc (.cells #[ptr bm] 190)).k 0 rfl, (oX.alloc (.cells #[ptr bm] 190)).k 1 rfl, (oX.alloc (.cells #[ptr bm] 190)).k 2 rfl⟩) | ((try dsimp only); exact ⟨(oX.other kx 0 (ptr bm)).k 0 rfl, (oX.other kx 0 (ptr bm)).k 1 rfl, (oX.other kx 0 (ptr bm)).k 2 rfl⟩) | go_keep) ((first
       | (go_at_call 86; (with_reducible refine (mnum_s hMX (by simp [numC]) (by omega) (by omega)).mono ?_); rintro e V1 ⟨rfl, hMX, hK1⟩); have oX := hK1.ob oX (hF0 _ hlt); have oK := hK1.ob oK kF; have hbX := hbX.trans (hK1.below hF0); have kc := oK.k 0 rfl; have kf := oK.frozen 0
       | (go_at_call 86; (with_reducible refine (mnum_s hMX (by simp [numC]) (by omega) (by omega)).mono ?_); rintro e V1 ⟨rfl, hMX, hK1⟩); have oX := hK1.ob oX (hF0 _ hlt); have hbX := hbX.trans (hK1.below hF0)
       | have kx : w.heap.size ≠ V1.heap.size := Nat.ne_of_lt oX.lt; have kg : W.heap.size ≤ V1.heap.size := hbX.size; have oK := Ob.new V1 190 #[.pointer none]; obtain ⟨Fr, hF0, kF, hM0⟩ := mk_box hMX hF0 (.cells #[.pointer none] 190); (go_at_call 86; (with_reducible refine (mnum_s hM0 (by simp [numC]) (by omega) (by omega)).mono ?_); rintro e V2 ⟨rfl, hMX, hK1⟩); have oX := hK1.ob (oX.alloc (.cells #[.pointer none] 190)) (hF0 _ hlt); have oK := hK1.ob oK kF; have hbX := (hbX.alloc hbX.size (.cells #[.pointer none] 190)).trans (hK1.below hF0); have kc := oK.k 0 rfl; have kf := oK.frozen 0
       | (go_at_call 85; (with_reducible refine (new_s _).mono ?_); rintro e V1 ⟨bm, rfl, hge, hMX, hb1⟩); have hF0 : ∀ i, i < W.heap.size → i < W.drew.heap.size := fun i h => h; have oX := oX.below hb1 hlt; have hbX := hbX.trans hb1
       | (go_at_call 85; (with_reducible refine (new_s _).mono ?_); rintro e V1 ⟨bm, rfl, hge, hMX, hb1⟩); have oK0 : Ob (W.alloc (.cells #[.pointer none] 190)).drew W.heap.size 190 #[.pointer none] := Ob.new W _ _; have oX0 : Ob (W.alloc (.cells #[.pointer none] 190)).drew w.heap.size 304 #[vI 1, vO, vN, vO, vI 1, vI 6, vO, vO, vO, vO, vE, .slice A 1 c, vO, vO, vO, vO] := oW.alloc (.cells #[.pointer none] 190); have hbX0 : Below W.heap.size W (W.alloc (.cells #[.pointer none] 190)).drew := ((Below.refl W.heap.size W).alloc (Nat.le_refl _) (.cells #[.pointer none] 190)).drew; have oK := oK0.same hb1; have kF : W.heap.size < (W.alloc (.cells #[.pointer none] 190)).drew.heap.size := oK0.lt; have kx : w.heap.size ≠ W.heap.size := Nat.ne_of_lt hlt; have kg : W.heap.size ≤ W.heap.size := Nat.le_refl _; have hF0 : ∀ i, i < W.heap.size → i < (W.alloc (.cells #[.pointer none] 190)).drew.heap.size := fun i h => Nat.lt_trans h kF; have oX := oX0.same hb1; have hbX := hbX0.trans (hb1.mono (Nat.le_of_lt kF)); have kc := oK.k 0 rfl; have kf := oK.frozen 0))
   all_goals refine ⟨_, _, rfl, rfl, ?_⟩
   all_goals first
     | exact ⟨_, hF0, kF, mk_off hMX kF 0 _, oK.set 0 _, oX.other kx 0 _, hbX.setCell (p := ⟨_, 0, none⟩) kg _⟩
     | (obtain ⟨Fr, hF0', kF, hM0⟩ := mk_box hMX hF0 (.cells #[ptr bm] 190); exact ⟨Fr, hF0', kF, hM0, Ob.new _ _ _, oX.alloc _, hbX.alloc hbX.size _⟩)
 case imp =>
   rintro e a V ⟨kb, bm, rfl, rfl, Fr, hF0, kF, hM, oK, oM, hb⟩; dsimp only [Exit.then]; have hbV := hbW.trans (hb.mono (Nat.le_of_lt hlt)); have zV := hb.size; have c2 := oM.k 2 rfl; clear q0 q1 q2 oX hbX oW hbW hb
   gi_wp2_with (refine ⟨trivial, ?_⟩; gi_at_call 144; refine (callsIn_wide.2 (all_calls none 0 0 _)).mono ?_; rintro e w' ⟨rfl, rfl⟩)
   have bS : Boxed (V.alloc (.cells #[vN] 30)) V.heap.size 30 vN := Boxed.new V _ _; have hal := (Below.refl V.heap.size V).alloc (Nat.le_refl _) (.cells #[vN] 30); have hM := hM.same hal; have oK := oK.same hal; have oM := oM.same hal; have hbV := hbV.trans (hal.mono (by omega)); have hsz : V.heap.size < (V.alloc (.cells #[vN] 30)).heap.size := by simp
   clear hal c2; generalize V.alloc (.cells #[vN] 30) = V4 at *
   refine range_allK (n := 6) rfl trivial (by omega) (Bs := V.heap.size) (lo := 0) (hi := 0) (v := vN) (L := []) rfl rfl (fun i => Fr i) hM.2.2.1 (fun i h1 h2 => by omega) hsz bS.cell (ItemsAt.nil _ _ _) (by omega)
     (fun pre X => Mk X bm Fr ([] ++ numC 1 ++ numC 0 ++ numC 0, false) ∧ Ob X kb 190 #[ptr bm] ∧ Ob X w.heap.size 304 #[vI 1, vO, vN, vO, vI 1, vI 6, vO, vO, vO, vO, vE, .slice A 1 c, vO, vO, vO, vO] ∧ Below w.heap.size w X)
     (fun _ _ _ => False)
     (fun s A B row hs hg hr => ⟨hs.1.keep hg (fun r e => (hr r e).2), hs.2.1.kept hg (fun e => by have := (hr kb e.symm).1; have := hM.2.2.1 kb kF; omega), hs.2.2.1.kept hg (fun e => by have := (hr _ e.symm).1; omega), hs.2.2.2.grown hg hs.2.2.2.size (fun r e => by have := (hr r e).1; omega)⟩)
     (fun c s A B row hs hg hr => hs.elim)
     ⟨hM, oK, oM, hbV⟩
     (fun _ => { tmps := #[], defers := [] }) ?assign ?body ?done ?stop
   case assign => rintro l ⟨x, hx⟩; cases hx
   case body => rintro l pre ⟨x, hx⟩; cases hx
   case stop => rintro D c pre W hD hpre h; exact h.elim
   case done =>
     clear hM oK oM hbV bS; rintro D X hD ⟨hM, oK, oM, hbV⟩ hKD; obtain ⟨Fr', hF1, hF2, hMw⟩ := hM.wide; have FD := hF2 D _ hKD rfl; have FK := hF1 _ kF; have FM := hF1 _ (hF0 _ hlt); have FB : ∀ i, i < w.heap.size → Fr' i := fun i hi => hF1 _ (hF0 _ (by omega))
     have hlX : X.heap.size ≤ X.heap.size := Nat.le_refl _; have DX : D < X.heap.size := (Array.getElem?_eq_some_iff.1 hKD).1; have cE := hdd (aencode_calls ((HI.out.below hbV).wide (Nat.le_refl _) hbV.size)); have ⟨q0, q1, q2, q3, q4, q5, q6, q7, q8, q9, q10, q11⟩ := oM.k12 rfl rfl rfl rfl rfl rfl rfl rfl rfl rfl rfl rfl; clear hM hF2
     gi_wp2_with fail
     refine ⟨trivial, ?_⟩
     gi_at_call 46
     refine (callsIn_wide.2 cE.out).mono ?_; rintro e X1 ⟨⟨u, rfl, hu⟩, hb1⟩; obtain ⟨A1, c1, rfl, -⟩ := (BytesAt.of_own hu).form; have hMw := hMw.same hb1; have oK := oK.same hb1; have oM := oM.same hb1; have hKD := (hb1.block D DX).trans hKD; have hbV := hbV.trans (hb1.mono hbV.size); have k0 := oK.k 0 rfl; clear q0 q1 q2 q3 q4 q5 q6 q7 q8 q9 q10 q11; have hstr := run_string_at (P := Tryz.prog) (src := 35) (dst := 9) Tryz.underlying35 Tryz.underlying5 Tryz.underlying9 (BytesAt.of_own hu)
     gi_wp2_with fail
     refine ⟨trivial, ?_⟩
     gi_at_call 130
     refine (callsIn_wide.2 (mtext_s (t := ⟨askC.toArray⟩) hMw (by simp [numC]) (by decide))).mono ?_; rintro e X2 ⟨rfl, hM2, hK2⟩; have oK := hK2.ob oK FK; have oM := hK2.ob oM FM; have hKD := (hK2.block D FD).trans hKD; have hbV := hbV.trans (hK2.below FB); have q0 := oM.k 0 rfl; have k1 := oK.k 0 rfl; clear k0 hb1
     gi_wp2_with (refine ⟨trivial, ?_⟩; gi_at_call 237; refine (callsIn_wide.2 (mhas_q _ 1 (.inl rfl))).mono ?_; rintro e w' ⟨rfl, rfl⟩)
     refine ⟨trivial, ?_⟩
     gi_at_call 88
     refine (callsIn_wide.2 (mdone_calls _ _ _ _ hM2 rfl)).mono ?_; rintro e X4 ⟨⟨u4, rfl, hu4⟩, hb4⟩; have hKD := (hb4.block D (Array.getElem?_eq_some_iff.1 hKD).1).trans hKD; have hbV4 := hbV.trans (hb4.mono hbV.size); have zX := hbV.size; gi_wp2; have hgp := grownBy_putObj' X4 D (.deferred none); refine ⟨by simp, .inl ⟨_, _, rfl, run_takeDeferred hKD, ?_⟩⟩; refine ⟨.tuple #[u4, vO], ?_, ⟨u4, rfl, ?_⟩, hbV4.grown hgp hbV4.size (fun r e => by cases e; omega)⟩
     · simp [results, Tryz.f233, go_sem]
     · refine row_keep (Wa.ownsRow_wide ?_ zX) hgp (fun r e => by cases e; exact ⟨_, hKD, rfl⟩)
       exact (show ([] ++ numC 1 ++ numC 0 ++ numC 0 ++ (numC ((⟨askC.toArray⟩ : ByteArray).size : Nat) ++ (⟨askC.toArray⟩ : ByteArray).data.toList)) = codeQ from rfl) ▸ hu4
theorem mencode_y (w : World) : Calls Tryz.prog 233 #[mailY 2] w fun e w' => (∃ u, e = .returned (.tuple #[u, vO]) ∧ w'.ownsRow w.heap.size 5 1 u codeY.length (bytesV codeY)) ∧ Below w.heap.size w w' := by
 have hb0 := (Below.refl w.heap.size w).alloc (Nat.le_refl _) (.cells #[vI 2, vO, vN, vO, vO, vO, vO, vO, vO, vO, vE, vN, vO, vI 1, vO, vO] 304); have oA := Ob.new w 304 #[vI 2, vO, vN, vO, vO, vO, vO, vO, vO, vO, vE, vN, vO, vI 1, vO, vO]; have cM := hdd (fun W => mmay_y2 W); refine (callsIn_wide (n := 6)).1 ?_; refine callsIn_of_wp_marks Tryz.func233 rfl trivial ?_ rfl; simp only [Tryz.ntmps233, List.size_toArray, List.length_cons, List.length_nil, Nat.reduceAdd, Nat.reduceSub, Array.replicate_succ, Array.replicate_zero, List.push_toArray, List.append_toArray, List.nil_append, List.cons_append]
 gi_wp2_with (refine ⟨trivial, ?_⟩; gi_at_call 239; refine (callsIn_wide.2 (cM.out _)).mono ?_; rintro e W ⟨rfl, hb1⟩)
 have oW := oA.same hb1; have hbW := hb0.trans (hb1.mono hb0.size); have hlt : w.heap.size < W.heap.size := oW.lt; clear oA cM hb1 hb0; refine wpIn_wide.2 ?_; have oX : Ob W.drew w.heap.size 304 #[vI 2, vO, vN, vO, vO, vO, vO, vO, vO, vO, vE, vN, vO, vI 1, vO, vO] := oW; have hbX : Below W.heap.size W W.drew := (Below.refl _ _).drew; have q0 := oW.k 0 rfl; have q1 := oW.k 1 rfl; have q2 := oW.k 2 rfl; refine Code.wp_mono (Q := fun e a V => ∃ kb bm, e = .normal ∧ a = { tmps := #[mailY 2, ptr w.heap.size, vN, vO, ptr kb, undef, undef, undef, undef, .agg #[vI 2, vO, vN, vO, vO, vO, vO, vO, vO, vO, vE, vN, vO, vI 1, vO, vO], .bool true, .bool false, ptr bm, .pointer (some ⟨w.heap.size, 0, none⟩), vI 2, ptr bm, .pointer (some ⟨w.heap.size, 1, none⟩), vO, ptr bm, .pointer (some ⟨w.heap.size, 2, none⟩), vN, vO, ptr bm, undef, undef, undef, undef, undef, undef, undef, undef, undef, undef, undef, undef, undef, undef, undef, undef, undef, undef, undef, undef, undef, undef, undef, undef, undef, undef, undef, undef, undef, undef, undef, undef, undef, undef, undef, undef, undef, undef, undef, undef, undef, undef, undef, undef, undef], defers := [] } ∧ ∃ Fr : Nat → Prop, (∀ i, i < W.heap.size → Fr i) ∧ Fr kb ∧ Mk V bm Fr ([] ++ numC 2 ++ numC 0 ++ numC 0, false) ∧ Ob V kb 190 #[ptr bm] ∧ Ob V w.heap.size 304 #[vI 2, vO, vN, vO, vO, vO, vO, vO, vO, vO, vE, vN, vO, vI 1, vO, vO] ∧ Below W.heap.size W V) ?imp ?reg
 case reg =>
   clear hbW
   go_region_held3 (fun V => V.cell? ⟨w.heap.size, 0, none⟩ = some (vI 2) ∧ V.cell? ⟨w.heap.size, 1, none⟩ = some vO ∧ V.cell? ⟨w.heap.size, 2, none⟩ = some vN) (first | ((try dsimp only); exact ⟨oX.k 0 rfl, oX.k 1 rfl, oX.k 2 rfl⟩) | ((try dsimp only); exact ⟨(oX.alloc (.cells #[.pointer none] 190)).k 0 rfl, (oX.alloc (.cells #[.pointer none] 190)).k 1 rfl, (oX.alloc (.cells #[.pointer none] 190)).k 2 rfl⟩) | ((try dsimp only); exact ⟨(oX.alloc (.cells #[ptr bm] 190)).k 0 rfl, (oX.alloc (.cells #[ptr bm] 190)).k 1 rfl, (oX.alloc (.cells #[ptr bm] 190)).k 2 rfl⟩) | ((try dsimp only); exact ⟨(oX.other kx 0 (ptr bm)).k 0 rfl, (oX.other kx 0 (ptr bm)).k 1 rfl, (oX.other kx 0 (ptr bm)).k 2 rfl⟩) | go_keep) ((first
       | (go_at_call 86; (with_reducible refine (mnum_s hMX (by simp [numC]) (by omega) (by omega)).mono ?_); rintro e V1 ⟨rfl, hMX, hK1⟩); have oX := hK1.ob oX (hF0 _ hlt); have oK := hK1.ob oK kF; have hbX := hbX.trans (hK1.below hF0); have kc := oK.k 0 rfl; have kf := oK.frozen 0
       | (go_at_call 86; (with_reducible refine (mnum_s hMX (by simp [numC]) (by omega) (by omega)).mono ?_); rintro e V1 ⟨rfl, hMX, hK1⟩); have oX := hK1.ob oX (hF0 _ hlt); have hbX := hbX.trans (hK1.below hF0)
       | have kx : w.heap.size ≠ V1.heap.size := Nat.ne_of_lt oX.lt; have kg : W.heap.size ≤ V1.heap.size := hbX.size; have oK := Ob.new V1 190 #[.pointer none]; obtain ⟨Fr, hF0, kF, hM0⟩ := mk_box hMX hF0 (.cells #[.pointer none] 190); (go_at_call 86; (with_reducible refine (mnum_s hM0 (by simp [numC]) (by omega) (by omega)).mono ?_); rintro e V2 ⟨rfl, hMX, hK1⟩); have oX := hK1.ob (oX.alloc (.cells #[.pointer none] 190)) (hF0 _ hlt); have oK := hK1.ob oK kF; have hbX := (hbX.alloc hbX.size (.cells #[.pointer none] 190)).trans (hK1.below hF0); have kc := oK.k 0 rfl; have kf := oK.frozen 0
       | (go_at_call 85; (with_reducible refine (new_s _).mono ?_); rintro e V1 ⟨bm, rfl, hge, hMX, hb1⟩); have hF0 : ∀ i, i < W.heap.size → i < W.drew.heap.size := fun i h => h; have oX := oX.below hb1 hlt; have hbX := hbX.trans hb1
       | (go_at_call 85; (with_reducible refine (new_s _).mono ?_); rintro e V1 ⟨bm, rfl, hge, hMX, hb1⟩); have oK0 : Ob (W.alloc (.cells #[.pointer none] 190)).drew W.heap.size 190 #[.pointer none] := Ob.new W _ _; have oX0 : Ob (W.alloc (.cells #[.pointer none] 190)).drew w.heap.size 304 #[vI 2, vO, vN, vO, vO, vO, vO, vO, vO, vO, vE, vN, vO, vI 1, vO, vO] := oW.alloc (.cells #[.pointer none] 190); have hbX0 : Below W.heap.size W (W.alloc (.cells #[.pointer none] 190)).drew := ((Below.refl W.heap.size W).alloc (Nat.le_refl _) (.cells #[.pointer none] 190)).drew; have oK := oK0.same hb1; have kF : W.heap.size < (W.alloc (.cells #[.pointer none] 190)).drew.heap.size := oK0.lt; have kx : w.heap.size ≠ W.heap.size := Nat.ne_of_lt hlt; have kg : W.heap.size ≤ W.heap.size := Nat.le_refl _; have hF0 : ∀ i, i < W.heap.size → i < (W.alloc (.cells #[.pointer none] 190)).drew.heap.size := fun i h => Nat.lt_trans h kF; have oX := oX0.same hb1; have hbX := hbX0.trans (hb1.mono (Nat.le_of_lt kF)); have kc := oK.k 0 rfl; have kf := oK.frozen 0))
   all_goals refine ⟨_, _, rfl, rfl, ?_⟩
   all_goals first
     | exact ⟨_, hF0, kF, mk_off hMX kF 0 _, oK.set 0 _, oX.other kx 0 _, hbX.setCell (p := ⟨_, 0, none⟩) kg _⟩
     | (obtain ⟨Fr, hF0', kF, hM0⟩ := mk_box hMX hF0 (.cells #[ptr bm] 190); exact ⟨Fr, hF0', kF, hM0, Ob.new _ _ _, oX.alloc _, hbX.alloc hbX.size _⟩)
 case imp =>
   rintro e a V ⟨kb, bm, rfl, rfl, Fr, hF0, kF, hM, oK, oM, hb⟩; dsimp only [Exit.then]; have hbV := hbW.trans (hb.mono (Nat.le_of_lt hlt)); have zV := hb.size; have c2 := oM.k 2 rfl; clear q0 q1 q2 oX hbX oW hbW hb
   gi_wp2_with (refine ⟨trivial, ?_⟩; gi_at_call 144; refine (callsIn_wide.2 (all_calls none 0 0 _)).mono ?_; rintro e w' ⟨rfl, rfl⟩)
   have bS : Boxed (V.alloc (.cells #[vN] 30)) V.heap.size 30 vN := Boxed.new V _ _; have hal := (Below.refl V.heap.size V).alloc (Nat.le_refl _) (.cells #[vN] 30); have hM := hM.same hal; have oK := oK.same hal; have oM := oM.same hal; have hbV := hbV.trans (hal.mono (by omega)); have hsz : V.heap.size < (V.alloc (.cells #[vN] 30)).heap.size := by simp
   clear hal c2; generalize V.alloc (.cells #[vN] 30) = V4 at *
   refine range_allK (n := 6) rfl trivial (by omega) (Bs := V.heap.size) (lo := 0) (hi := 0) (v := vN) (L := []) rfl rfl (fun i => Fr i) hM.2.2.1 (fun i h1 h2 => by omega) hsz bS.cell (ItemsAt.nil _ _ _) (by omega)
     (fun pre X => Mk X bm Fr ([] ++ numC 2 ++ numC 0 ++ numC 0, false) ∧ Ob X kb 190 #[ptr bm] ∧ Ob X w.heap.size 304 #[vI 2, vO, vN, vO, vO, vO, vO, vO, vO, vO, vE, vN, vO, vI 1, vO, vO] ∧ Below w.heap.size w X)
     (fun _ _ _ => False)
     (fun s A B row hs hg hr => ⟨hs.1.keep hg (fun r e => (hr r e).2), hs.2.1.kept hg (fun e => by have := (hr kb e.symm).1; have := hM.2.2.1 kb kF; omega), hs.2.2.1.kept hg (fun e => by have := (hr _ e.symm).1; omega), hs.2.2.2.grown hg hs.2.2.2.size (fun r e => by have := (hr r e).1; omega)⟩)
     (fun c s A B row hs hg hr => hs.elim)
     ⟨hM, oK, oM, hbV⟩
     (fun _ => { tmps := #[], defers := [] }) ?assign ?body ?done ?stop
   case assign => rintro l ⟨x, hx⟩; cases hx
   case body => rintro l pre ⟨x, hx⟩; cases hx
   case stop => rintro D c pre W hD hpre h; exact h.elim
   case done =>
     clear hM oK oM hbV bS; rintro D X hD ⟨hM, oK, oM, hbV⟩ hKD; obtain ⟨Fr', hF1, hF2, hMw⟩ := hM.wide; have FD := hF2 D _ hKD rfl; have FK := hF1 _ kF; have FM := hF1 _ (hF0 _ hlt); have FB : ∀ i, i < w.heap.size → Fr' i := fun i hi => hF1 _ (hF0 _ (by omega))
     have hlX : X.heap.size ≤ X.heap.size := Nat.le_refl _; have DX : D < X.heap.size := (Array.getElem?_eq_some_iff.1 hKD).1; have cE := hdd (aencode_none X); have ⟨q0, q1, q2, q3, q4, q5, q6, q7, q8, q9, q10, q11⟩ := oM.k12 rfl rfl rfl rfl rfl rfl rfl rfl rfl rfl rfl rfl; clear hM hF2
     gi_wp2_with fail
     refine ⟨trivial, ?_⟩
     gi_at_call 46
     refine (callsIn_wide.2 cE.out).mono ?_; rintro e X1 ⟨rfl, hb1⟩; have hMw := hMw.same hb1; have oK := oK.same hb1; have oM := oM.same hb1; have hKD := (hb1.block D DX).trans hKD; have hbV := hbV.trans (hb1.mono hbV.size); have k0 := oK.k 0 rfl; clear q0 q1 q2 q3 q4 q5 q6 q7 q8 q9 q10 q11; have hstr := nil_str X1
     gi_wp2_with fail
     refine ⟨trivial, ?_⟩
     gi_at_call 130
     refine (callsIn_wide.2 (mtext_s (t := ⟨#[]⟩) hMw (by simp [numC]) (by decide))).mono ?_; rintro e X2 ⟨rfl, hM2, hK2⟩; have oK := hK2.ob oK FK; have oM := hK2.ob oM FM; have hKD := (hK2.block D FD).trans hKD; have hbV := hbV.trans (hK2.below FB); have q0 := oM.k 0 rfl; have k1 := oK.k 0 rfl; clear k0 hb1
     gi_wp2_with (refine ⟨trivial, ?_⟩; gi_at_call 237; refine (callsIn_wide.2 (mhas_y _ 2 (.inl rfl))).mono ?_; rintro e w' ⟨rfl, rfl⟩)
     have hX2 : Mk X2.drew bm Fr' ([] ++ numC 2 ++ numC 0 ++ numC 0 ++ (numC ((⟨#[]⟩ : ByteArray).size : Nat) ++ (⟨#[]⟩ : ByteArray).data.toList), false) := hM2; have oX : Ob X2.drew w.heap.size 304 #[vI 2, vO, vN, vO, vO, vO, vO, vO, vO, vO, vE, vN, vO, vI 1, vO, vO] := oM; have oK : Ob X2.drew kb 190 #[ptr bm] := oK; have hKK : Kept Fr' X2.drew X2.drew := Kept.refl _ _; have hM2 := hX2; have zl : ([] ++ numC 2 ++ numC 0 ++ numC 0 ++ (numC ((⟨#[]⟩ : ByteArray).size : Nat) ++ (⟨#[]⟩ : ByteArray).data.toList)).length ≤ 800 := by decide
     clear q0 k1; have q12 := oX.k 12 rfl; have q13 := oX.k 13 rfl; have q14 := oX.k 14 rfl; have q15 := oX.k 15 rfl; have k1 := oK.k 0 rfl; refine wpIn_wide.2 ?_
     go_region_held3 (fun V => V.cell? ⟨kb, 0, none⟩ = some (ptr bm) ∧ V.cell? ⟨w.heap.size, 12, none⟩ = some vO ∧ V.cell? ⟨w.heap.size, 13, none⟩ = some (vI 1) ∧ V.cell? ⟨w.heap.size, 14, none⟩ = some vO ∧ V.cell? ⟨w.heap.size, 15, none⟩ = some vO) (first | ((try dsimp only); exact ⟨oK.k 0 rfl, oX.k 12 rfl, oX.k 13 rfl, oX.k 14 rfl, oX.k 15 rfl⟩) | go_keep) ((first | (go_at_call 86; (with_reducible refine (mnum_s hM2 (by decide) (by omega) (by omega)).mono ?_); rintro e V1 ⟨rfl, hM2, hK1⟩); have oX := hK1.ob oX FM; have oK := hK1.ob oK FK; have hKK := hKK.trans hK1))
     have hKD := (hKK.block D FD).trans (show X2.drew.heap[D]? = _ from hKD); have hbV := (hbV.drew).trans (hKK.below FB); have k9 := oK.k 0 rfl
     gi_wp2_with fail
     refine ⟨trivial, ?_⟩
     gi_at_call 88
     refine (callsIn_wide.2 (mdone_calls _ _ _ _ hM2 rfl)).mono ?_; rintro e X4 ⟨⟨u4, rfl, hu4⟩, hb4⟩; have hKD := (hb4.block D (Array.getElem?_eq_some_iff.1 hKD).1).trans hKD; have hbV4 := hbV.trans (hb4.mono hbV.size); have zX := hbV.size; gi_wp2; have hgp := grownBy_putObj' X4 D (.deferred none); refine ⟨by simp, .inl ⟨_, _, rfl, run_takeDeferred hKD, ?_⟩⟩; refine ⟨.tuple #[u4, vO], ?_, ⟨u4, rfl, ?_⟩, hbV4.grown hgp hbV4.size (fun r e => by cases e; omega)⟩
     · simp [results, Tryz.f233, go_sem]
     · refine row_keep (Wa.ownsRow_wide ?_ zX) hgp (fun r e => by cases e; exact ⟨_, hKD, rfl⟩)
       exact (show ([] ++ numC 2 ++ numC 0 ++ numC 0 ++ (numC ((⟨#[]⟩ : ByteArray).size : Nat) ++ (⟨#[]⟩ : ByteArray).data.toList) ++ numC 0 ++ numC 1 ++ numC 0 ++ numC 0) = codeY from rfl) ▸ hu4
theorem mencode_n (w : World) : Calls Tryz.prog 233 #[mailN] w fun e w' => (∃ u, e = .returned (.tuple #[u, vO]) ∧ w'.ownsRow w.heap.size 5 1 u codeN.length (bytesV codeN)) ∧ Below w.heap.size w w' := by
 have hb0 := (Below.refl w.heap.size w).alloc (Nat.le_refl _) (.cells #[vI 14, vO, vN, vO, vO, vO, vO, vO, vO, vO, vE, vN, vO, vO, vO, vO] 304); have oA := Ob.new w 304 #[vI 14, vO, vN, vO, vO, vO, vO, vO, vO, vO, vE, vN, vO, vO, vO, vO]; have cM := hdd (fun W => mmay_n W); refine (callsIn_wide (n := 6)).1 ?_; refine callsIn_of_wp_marks Tryz.func233 rfl trivial ?_ rfl; simp only [Tryz.ntmps233, List.size_toArray, List.length_cons, List.length_nil, Nat.reduceAdd, Nat.reduceSub, Array.replicate_succ, Array.replicate_zero, List.push_toArray, List.append_toArray, List.nil_append, List.cons_append]
 gi_wp2_with (refine ⟨trivial, ?_⟩; gi_at_call 239; refine (callsIn_wide.2 (cM.out _)).mono ?_; rintro e W ⟨rfl, hb1⟩)
 have oW := oA.same hb1; have hbW := hb0.trans (hb1.mono hb0.size); have hlt : w.heap.size < W.heap.size := oW.lt; clear oA cM hb1 hb0; refine wpIn_wide.2 ?_; have oX : Ob W.drew w.heap.size 304 #[vI 14, vO, vN, vO, vO, vO, vO, vO, vO, vO, vE, vN, vO, vO, vO, vO] := oW; have hbX : Below W.heap.size W W.drew := (Below.refl _ _).drew; have q0 := oW.k 0 rfl; have q1 := oW.k 1 rfl; have q2 := oW.k 2 rfl; refine Code.wp_mono (Q := fun e a V => ∃ kb bm, e = .normal ∧ a = { tmps := #[mailN, ptr w.heap.size, vN, vO, ptr kb, undef, undef, undef, undef, .agg #[vI 14, vO, vN, vO, vO, vO, vO, vO, vO, vO, vE, vN, vO, vO, vO, vO], .bool true, .bool false, ptr bm, .pointer (some ⟨w.heap.size, 0, none⟩), vI 14, ptr bm, .pointer (some ⟨w.heap.size, 1, none⟩), vO, ptr bm, .pointer (some ⟨w.heap.size, 2, none⟩), vN, vO, ptr bm, undef, undef, undef, undef, undef, undef, undef, undef, undef, undef, undef, undef, undef, undef, undef, undef, undef, undef, undef, undef, undef, undef, undef, undef, undef, undef, undef, undef, undef, undef, undef, undef, undef, undef, undef, undef, undef, undef, undef, undef, undef, undef, undef, undef, undef], defers := [] } ∧ ∃ Fr : Nat → Prop, (∀ i, i < W.heap.size → Fr i) ∧ Fr kb ∧ Mk V bm Fr ([] ++ numC 14 ++ numC 0 ++ numC 0, false) ∧ Ob V kb 190 #[ptr bm] ∧ Ob V w.heap.size 304 #[vI 14, vO, vN, vO, vO, vO, vO, vO, vO, vO, vE, vN, vO, vO, vO, vO] ∧ Below W.heap.size W V) ?imp ?reg
 case reg =>
   clear hbW
   go_region_held3 (fun V => V.cell? ⟨w.heap.size, 0, none⟩ = some (vI 14) ∧ V.cell? ⟨w.heap.size, 1, none⟩ = some vO ∧ V.cell? ⟨w.heap.size, 2, none⟩ = some vN) (first | ((try dsimp only); exact ⟨oX.k 0 rfl, oX.k 1 rfl, oX.k 2 rfl⟩) | ((try dsimp only); exact ⟨(oX.alloc (.cells #[.pointer none] 190)).k 0 rfl, (oX.alloc (.cells #[.pointer none] 190)).k 1 rfl, (oX.alloc (.cells #[.pointer none] 190)).k 2 rfl⟩) | ((try dsimp only); exact ⟨(oX.alloc (.cells #[ptr bm] 190)).k 0 rfl, (oX.alloc (.cells #[ptr bm] 190)).k 1 rfl, (oX.alloc (.cells #[ptr bm] 190)).k 2 rfl⟩) | ((try dsimp only); exact ⟨(oX.other kx 0 (ptr bm)).k 0 rfl, (oX.other kx 0 (ptr bm)).k 1 rfl, (oX.other kx 0 (ptr bm)).k 2 rfl⟩) | go_keep) ((first
       | (go_at_call 86; (with_reducible refine (mnum_s hMX (by simp [numC]) (by omega) (by omega)).mono ?_); rintro e V1 ⟨rfl, hMX, hK1⟩); have oX := hK1.ob oX (hF0 _ hlt); have oK := hK1.ob oK kF; have hbX := hbX.trans (hK1.below hF0); have kc := oK.k 0 rfl; have kf := oK.frozen 0
       | (go_at_call 86; (with_reducible refine (mnum_s hMX (by simp [numC]) (by omega) (by omega)).mono ?_); rintro e V1 ⟨rfl, hMX, hK1⟩); have oX := hK1.ob oX (hF0 _ hlt); have hbX := hbX.trans (hK1.below hF0)
       | have kx : w.heap.size ≠ V1.heap.size := Nat.ne_of_lt oX.lt; have kg : W.heap.size ≤ V1.heap.size := hbX.size; have oK := Ob.new V1 190 #[.pointer none]; obtain ⟨Fr, hF0, kF, hM0⟩ := mk_box hMX hF0 (.cells #[.pointer none] 190); (go_at_call 86; (with_reducible refine (mnum_s hM0 (by simp [numC]) (by omega) (by omega)).mono ?_); rintro e V2 ⟨rfl, hMX, hK1⟩); have oX := hK1.ob (oX.alloc (.cells #[.pointer none] 190)) (hF0 _ hlt); have oK := hK1.ob oK kF; have hbX := (hbX.alloc hbX.size (.cells #[.pointer none] 190)).trans (hK1.below hF0); have kc := oK.k 0 rfl; have kf := oK.frozen 0
       | (go_at_call 85; (with_reducible refine (new_s _).mono ?_); rintro e V1 ⟨bm, rfl, hge, hMX, hb1⟩); have hF0 : ∀ i, i < W.heap.size → i < W.drew.heap.size := fun i h => h; have oX := oX.below hb1 hlt; have hbX := hbX.trans hb1
       | (go_at_call 85; (with_reducible refine (new_s _).mono ?_); rintro e V1 ⟨bm, rfl, hge, hMX, hb1⟩); have oK0 : Ob (W.alloc (.cells #[.pointer none] 190)).drew W.heap.size 190 #[.pointer none] := Ob.new W _ _; have oX0 : Ob (W.alloc (.cells #[.pointer none] 190)).drew w.heap.size 304 #[vI 14, vO, vN, vO, vO, vO, vO, vO, vO, vO, vE, vN, vO, vO, vO, vO] := oW.alloc (.cells #[.pointer none] 190); have hbX0 : Below W.heap.size W (W.alloc (.cells #[.pointer none] 190)).drew := ((Below.refl W.heap.size W).alloc (Nat.le_refl _) (.cells #[.pointer none] 190)).drew; have oK := oK0.same hb1; have kF : W.heap.size < (W.alloc (.cells #[.pointer none] 190)).drew.heap.size := oK0.lt; have kx : w.heap.size ≠ W.heap.size := Nat.ne_of_lt hlt; have kg : W.heap.size ≤ W.heap.size := Nat.le_refl _; have hF0 : ∀ i, i < W.heap.size → i < (W.alloc (.cells #[.pointer none] 190)).drew.heap.size := fun i h => Nat.lt_trans h kF; have oX := oX0.same hb1; have hbX := hbX0.trans (hb1.mono (Nat.le_of_lt kF)); have kc := oK.k 0 rfl; have kf := oK.frozen 0))
   all_goals refine ⟨_, _, rfl, rfl, ?_⟩
   all_goals first
     | exact ⟨_, hF0, kF, mk_off hMX kF 0 _, oK.set 0 _, oX.other kx 0 _, hbX.setCell (p := ⟨_, 0, none⟩) kg _⟩
     | (obtain ⟨Fr, hF0', kF, hM0⟩ := mk_box hMX hF0 (.cells #[ptr bm] 190); exact ⟨Fr, hF0', kF, hM0, Ob.new _ _ _, oX.alloc _, hbX.alloc hbX.size _⟩)
 case imp =>
   rintro e a V ⟨kb, bm, rfl, rfl, Fr, hF0, kF, hM, oK, oM, hb⟩; dsimp only [Exit.then]; have hbV := hbW.trans (hb.mono (Nat.le_of_lt hlt)); have zV := hb.size; have c2 := oM.k 2 rfl; clear q0 q1 q2 oX hbX oW hbW hb
   gi_wp2_with (refine ⟨trivial, ?_⟩; gi_at_call 144; refine (callsIn_wide.2 (all_calls none 0 0 _)).mono ?_; rintro e w' ⟨rfl, rfl⟩)
   have bS : Boxed (V.alloc (.cells #[vN] 30)) V.heap.size 30 vN := Boxed.new V _ _; have hal := (Below.refl V.heap.size V).alloc (Nat.le_refl _) (.cells #[vN] 30); have hM := hM.same hal; have oK := oK.same hal; have oM := oM.same hal; have hbV := hbV.trans (hal.mono (by omega)); have hsz : V.heap.size < (V.alloc (.cells #[vN] 30)).heap.size := by simp
   clear hal c2; generalize V.alloc (.cells #[vN] 30) = V4 at *
   refine range_allK (n := 6) rfl trivial (by omega) (Bs := V.heap.size) (lo := 0) (hi := 0) (v := vN) (L := []) rfl rfl (fun i => Fr i) hM.2.2.1 (fun i h1 h2 => by omega) hsz bS.cell (ItemsAt.nil _ _ _) (by omega)
     (fun pre X => Mk X bm Fr ([] ++ numC 14 ++ numC 0 ++ numC 0, false) ∧ Ob X kb 190 #[ptr bm] ∧ Ob X w.heap.size 304 #[vI 14, vO, vN, vO, vO, vO, vO, vO, vO, vO, vE, vN, vO, vO, vO, vO] ∧ Below w.heap.size w X)
     (fun _ _ _ => False)
     (fun s A B row hs hg hr => ⟨hs.1.keep hg (fun r e => (hr r e).2), hs.2.1.kept hg (fun e => by have := (hr kb e.symm).1; have := hM.2.2.1 kb kF; omega), hs.2.2.1.kept hg (fun e => by have := (hr _ e.symm).1; omega), hs.2.2.2.grown hg hs.2.2.2.size (fun r e => by have := (hr r e).1; omega)⟩)
     (fun c s A B row hs hg hr => hs.elim)
     ⟨hM, oK, oM, hbV⟩
     (fun _ => { tmps := #[], defers := [] }) ?assign ?body ?done ?stop
   case assign => rintro l ⟨x, hx⟩; cases hx
   case body => rintro l pre ⟨x, hx⟩; cases hx
   case stop => rintro D c pre W hD hpre h; exact h.elim
   case done =>
     clear hM oK oM hbV bS; rintro D X hD ⟨hM, oK, oM, hbV⟩ hKD; obtain ⟨Fr', hF1, hF2, hMw⟩ := hM.wide; have FD := hF2 D _ hKD rfl; have FK := hF1 _ kF; have FM := hF1 _ (hF0 _ hlt); have FB : ∀ i, i < w.heap.size → Fr' i := fun i hi => hF1 _ (hF0 _ (by omega))
     have hlX : X.heap.size ≤ X.heap.size := Nat.le_refl _; have DX : D < X.heap.size := (Array.getElem?_eq_some_iff.1 hKD).1; have cE := hdd (aencode_none X); have ⟨q0, q1, q2, q3, q4, q5, q6, q7, q8, q9, q10, q11⟩ := oM.k12 rfl rfl rfl rfl rfl rfl rfl rfl rfl rfl rfl rfl; clear hM hF2
     gi_wp2_with fail
     refine ⟨trivial, ?_⟩
     gi_at_call 46
     refine (callsIn_wide.2 cE.out).mono ?_; rintro e X1 ⟨rfl, hb1⟩; have hMw := hMw.same hb1; have oK := oK.same hb1; have oM := oM.same hb1; have hKD := (hb1.block D DX).trans hKD; have hbV := hbV.trans (hb1.mono hbV.size); have k0 := oK.k 0 rfl; clear q0 q1 q2 q3 q4 q5 q6 q7 q8 q9 q10 q11; have hstr := nil_str X1
     gi_wp2_with fail
     refine ⟨trivial, ?_⟩
     gi_at_call 130
     refine (callsIn_wide.2 (mtext_s (t := ⟨#[]⟩) hMw (by simp [numC]) (by decide))).mono ?_; rintro e X2 ⟨rfl, hM2, hK2⟩; have oK := hK2.ob oK FK; have oM := hK2.ob oM FM; have hKD := (hK2.block D FD).trans hKD; have hbV := hbV.trans (hK2.below FB); have q0 := oM.k 0 rfl; have k1 := oK.k 0 rfl; clear k0 hb1
     gi_wp2_with (refine ⟨trivial, ?_⟩; gi_at_call 237; refine (callsIn_wide.2 (mhas_n _)).mono ?_; rintro e w' ⟨rfl, rfl⟩)
     refine ⟨trivial, ?_⟩
     gi_at_call 88
     refine (callsIn_wide.2 (mdone_calls _ _ _ _ hM2 rfl)).mono ?_; rintro e X4 ⟨⟨u4, rfl, hu4⟩, hb4⟩; have hKD := (hb4.block D (Array.getElem?_eq_some_iff.1 hKD).1).trans hKD; have hbV4 := hbV.trans (hb4.mono hbV.size); have zX := hbV.size; gi_wp2; have hgp := grownBy_putObj' X4 D (.deferred none); refine ⟨by simp, .inl ⟨_, _, rfl, run_takeDeferred hKD, ?_⟩⟩; refine ⟨.tuple #[u4, vO], ?_, ⟨u4, rfl, ?_⟩, hbV4.grown hgp hbV4.size (fun r e => by cases e; omega)⟩
     · simp [results, Tryz.f233, go_sem]
     · refine row_keep (Wa.ownsRow_wide ?_ zX) hgp (fun r e => by cases e; exact ⟨_, hKD, rfl⟩)
       exact (show ([] ++ numC 14 ++ numC 0 ++ numC 0 ++ (numC ((⟨#[]⟩ : ByteArray).size : Nat) ++ (⟨#[]⟩ : ByteArray).data.toList)) = codeN from rfl) ▸ hu4
end
end Tp
end Go.Proofs.YtgcnhmjpfbbfcaaGreat
