/-
  part of the proof of TopNames.
-/
import Derived.Test.YtgcnhmjpfbbfcaaGreatTy41
import Derived.Great.BuildSlice
set_option linter.unusedVariables false
set_option linter.unusedSimpArgs false
set_option maxRecDepth 100000
set_option maxHeartbeats 8000000
namespace Go.Proofs.YtgcnhmjpfbbfcaaGreat
namespace Sk
section
open Go.RowKit Go.Maps
open It Al Kp
attribute [local go_sem] Oper.semAt_some
def kpS (ss : List Stk) (k : Key) : Bool := keptT (at_ (totR ss k) 0) (at_ (totR ss k) 1) (at_ (totR ss k) 2) (at_ (totR ss k) 3) (at_ (totR ss k) 4) (at_ (totR ss k) 5) (at_ (totR ss k) 6) (at_ (totR ss k) 7) (at_ (totR ss k) 8) (at_ (totR ss k) 9) (at_ (totR ss k) 10) (wayT (totR ss k))
def allS (ss : List Stk) : Bool := (allKeys ss).all (kpS ss)
theorem all1_calls (ss : List Stk) (k : Key) (w : World) :
   Calls Tryz.prog 60 #[.agg (totL ss k).toArray] w fun e w' => e = .returned (.bool (!kpS ss k)) ∧ Below w.heap.size w w' := by
 have hC : totL ss k = [.string ⟨k.toArray⟩, vI (at_ (totR ss k) 0), vI (at_ (totR ss k) 1), vI (at_ (totR ss k) 2), vI (at_ (totR ss k) 3), vI (at_ (totR ss k) 4), vI (at_ (totR ss k) 5), vI (at_ (totR ss k) 6), vI (at_ (totR ss k) 7), vI (at_ (totR ss k) 8), vI (at_ (totR ss k) 9), vI (at_ (totR ss k) 10), vI (wayT (totR ss k))] := rfl; rw [hC]; unfold kpS; clear hC; have cK := hdd (fun W => kept_calls ⟨k.toArray⟩ (at_ (totR ss k) 0) (at_ (totR ss k) 1) (at_ (totR ss k) 2) (at_ (totR ss k) 3) (at_ (totR ss k) 4) (at_ (totR ss k) 5) (at_ (totR ss k) 6) (at_ (totR ss k) 7) (at_ (totR ss k) 8) (at_ (totR ss k) 9) (at_ (totR ss k) 10) (wayT (totR ss k)) W); generalize keptT (at_ (totR ss k) 0) (at_ (totR ss k) 1) (at_ (totR ss k) 2) (at_ (totR ss k) 3) (at_ (totR ss k) 4) (at_ (totR ss k) 5) (at_ (totR ss k) 6) (at_ (totR ss k) 7) (at_ (totR ss k) 8) (at_ (totR ss k) 9) (at_ (totR ss k) 10) (wayT (totR ss k)) = b at *; generalize wayT (totR ss k) = wy at *; generalize totR ss k = r at *; generalize at_ r 0 = a0 at *; generalize at_ r 1 = a1 at *; generalize at_ r 2 = a2 at *; generalize at_ r 3 = a3 at *; generalize at_ r 4 = a4 at *; generalize at_ r 5 = a5 at *; generalize at_ r 6 = a6 at *; generalize at_ r 7 = a7 at *; generalize at_ r 8 = a8 at *; generalize at_ r 9 = a9 at *; generalize at_ r 10 = a10 at *; have hB : Below w.heap.size w (w.alloc (.cells #[.string ⟨k.toArray⟩, vI a0, vI a1, vI a2, vI a3, vI a4, vI a5, vI a6, vI a7, vI a8, vI a9, vI a10, vI wy] 49)) := (Below.refl _ w).alloc (Nat.le_refl _) _
 have o1 := Ob.new w 49 #[.string ⟨k.toArray⟩, vI a0, vI a1, vI a2, vI a3, vI a4, vI a5, vI a6, vI a7, vI a8, vI a9, vI a10, vI wy]
 go_enter Tryz.func60, Tryz.ntmps60
 go_wp2_with (first | (refine wpList_load_ob rfl 49 (.tmp 1) rfl rfl Tryz.underlying49 o1 rfl rfl (by kernel_rfl) ?_) | (go_at_call 61; refine (cK.out _).mono ?_; rintro e w' ⟨rfl, hb⟩)); have hBF := hB.trans (hb.mono hB.size); go_wp2; go_ret; exact ⟨rfl, hBF⟩
def okS (ss : List Stk) (ks : List Key) (j : Nat) : Prop := ∀ i (hi : i < ks.length), i < j → kpS ss ks[i] = true
theorem index_calls (ss : List Stk) (ks : List Key) (v : Value) (lo : Nat) (w : World) (hv : Sl w lo w.heap.size 13 v ks.length (ks.flatMap (totL ss))) :
   Calls Tryz.prog 97 #[v, .func (.func 60) #[] #[]] w fun e w' => (∃ r : Int, e = .returned (vI r) ∧ (0 ≤ r ↔ ¬ okS ss ks ks.length)) ∧ Below w.heap.size w w' := by
 obtain ⟨A, c, rfl, hc1, hc2, hc⟩ := hv.at_; clear hv; unfold maxLen at hc2
 go_enter Tryz.func97, Tryz.ntmps97
 go_wp2
 go_loopw [8] (fun i wr => ∃ k : Nat, k ≤ ks.length ∧ i = vI k ∧ okS ss ks k ∧ Below w.heap.size w wr) (fun i _ => ks.length - (intOf i).toNat)
 case atStart => exact ⟨0, by omega, rfl, fun i hi h => by omega, Below.refl _ _⟩
 case round =>
   obtain ⟨k, hk, rfl, hN, hb⟩ := hrel; have HN := hdd hN; clear hN
   by_cases hlt : k < ks.length
   · obtain ⟨b, o, rfl, _, hbB, hcell⟩ := hc (by omega)
     have hR : wr.rangeAt b (o + k * 13) (totL ss ks[k]) := by
       intro j x hj; have hj13 : j < 13 := by have := (List.getElem?_eq_some_iff.1 hj).1; rwa [totL_len] at this
       have h1 := hcell (k * 13 + j) (by omega); rw [flat_get ss ks k hlt j hj13, hj] at h1; rw [hb.cell (p := ⟨b, o + k * 13 + j, none⟩) hbB, Nat.add_assoc]; exact h1
     clear hcell hc; have HKK := hdd (show ∀ i, i < ks.length → i = k → kpS ss ks[k] = true → ∀ (hi : i < ks.length), kpS ss ks[i] = true from fun i _ e h hi => by subst e; exact h); have cN := hdd (fun W => all1_calls ss ks[k] W); have hL : (totL ss ks[k]).length = 13 := rfl; have HKE := hdd (show ∃ g, g = kpS ss ks[k] ∧ ∀ (hi : k < ks.length), kpS ss ks[k] = g from ⟨_, rfl, fun _ => rfl⟩); generalize ho : kpS ss ks[k] = ok at cN; have HO := hdd ho; clear ho; generalize totL ss ks[k] = tl at *; go_wp2_with (first | (refine wpList_load_mid rfl 49 (.tmp 14) rfl b (o + k * 13) rfl tl _ hR Tryz.underlying49 rfl (by rw [hL]; kernel_rfl) ?_)); refine (cN.out _).mono ?_; rintro e w' ⟨rfl, hb2⟩; have hbn := hb.trans (hb2.mono hb.size)
     cases ok with
     | true =>
       go_wp2_with fail
       go_roundw
       case rel =>
         refine ⟨k + 1, by omega, by go_num, fun i hi hik => ?_, hbn⟩; rcases Nat.lt_or_ge i k with h | h
         · exact HN.out i hi h
         · exact HKK.out i hi (by omega) HO.out hi
       case measure => simp [intOf]; omega
     | false =>
       go_wp2_with fail; go_ret; refine ⟨⟨k, rfl, ⟨fun _ h => ?_, fun _ => by omega⟩⟩, hbn⟩; have := h k hlt hlt; rw [HO.out] at this
       cases this
   · clear hc
     obtain rfl : k = ks.length := by omega
     go_wp2; go_ret; exact ⟨⟨-1, rfl, Iff.intro (fun h => by omega) (fun h => absurd HN.out h)⟩, hb⟩
theorem okS_all (ss : List Stk) (ks : List Key) : okS ss ks ks.length ↔ ks.all (kpS ss) = true := by
 unfold okS; rw [List.all_eq_true]
 constructor
 · intro h x hx
   obtain ⟨j, hj, rfl⟩ := List.getElem_of_mem hx; exact h j hj hj
 · exact fun h i hi _ => h _ (List.getElem_mem hi)
theorem contains_calls (ss : List Stk) (ks : List Key) (v : Value) (lo : Nat) (w : World) (hv : Sl w lo w.heap.size 13 v ks.length (ks.flatMap (totL ss))) :
   Calls Tryz.prog 58 #[v, .func (.func 60) #[] #[]] w fun e w' => e = .returned (.bool (!(ks.all (kpS ss)))) ∧ Below w.heap.size w w' := by
 have cI := hdd (index_calls ss ks v lo w hv); obtain ⟨A, c, rfl, hc1, hc2, hc⟩ := hv.at_; clear hc hv
 go_enter Tryz.func58, Tryz.ntmps58
 go_wp2_with fail; refine cI.out.mono ?_; rintro e w' ⟨⟨r, rfl, hr⟩, hb⟩
 have HR := hdd (show (!(ks.all (kpS ss))) = decide (r ≥ 0) by
   rw [okS_all] at hr
   cases h : ks.all (kpS ss) <;> simp [h] at hr ⊢ <;> omega)
 clear hr; go_wp2; go_ret; exact ⟨ret1 (boo HR.out.symm), hb⟩
theorem all_calls (ss : List Stk) (v : Value) (w : World) (base : Nat) (h : StsAt w base v ss) (hl : ss.length ≤ 1000) :
   Calls Tryz.prog 36 #[v] w fun e w' => e = .returned (.bool (allS ss)) ∧ Below w.heap.size w w' := by
 have cT := hdd (totals_calls ss v w base h hl); have HA := hdd (show allS ss = (allKeys ss).all (kpS ss) from rfl); obtain ⟨ps, hpl, hsl, hps⟩ := h.at_; obtain ⟨A, c, rfl, hc1, hc2, -⟩ := hsl.at_; clear hsl hps hpl h
 go_enter Tryz.func36, Tryz.ntmps36
 go_wp2_with fail; refine cT.out.mono ?_; rintro e W1 ⟨⟨u, rfl, hu⟩, hb1⟩; have hsl := Sl.of_own hu; have cC := hdd (contains_calls ss (allKeys ss) u w.heap.size W1 hsl); obtain ⟨A1, c1, rfl, -⟩ := hsl.at_; clear hsl hu; go_wp2_with fail; refine cC.out.mono ?_; rintro e W2 ⟨rfl, hb2⟩; have hbn := hb1.trans (hb2.mono hb1.size); generalize (allKeys ss).all (kpS ss) = b at *; go_wp2; go_ret; exact ⟨by rw [HA.out]; rfl, hbn⟩
end
end Sk
namespace Tp
section
open Go.RowKit Go.Maps
open Ce It Al Kp
structure Sks (V : World) (ss : List Sk.Stk) (ps : List Value) : Prop where
 len : ps.length = ss.length
 at_ : ∀ i (h : i < ss.length), ∃ b mb, ps[i]? = some (ptr b) ∧ Sk.StkAt V 0 b mb ss[i]
section
variable {V V' : World} {ss : List Sk.Stk} {ps : List Value}
theorem Sks.nil (V : World) : Sks V [] [] := ⟨rfl, fun i h => by simp at h⟩
theorem Sks.turn (h : Sks V ss ps) (hk : ∀ b mb s, Sk.StkAt V 0 b mb s → Sk.StkAt V' 0 b mb s) : Sks V' ss ps := ⟨h.len, fun i hi => by
 obtain ⟨b, mb, h1, h2⟩ := h.at_ i hi; exact ⟨b, mb, h1, hk _ _ _ h2⟩⟩
theorem Sks.same (h : Sks V ss ps) (hb : Below V.heap.size V V') : Sks V' ss ps := h.turn fun _ _ _ hs => hs.same hb
theorem Sks.snoc {b mb : Nat} {s : Sk.Stk} (h : Sks V ss ps) (hs : Sk.StkAt V 0 b mb s) : Sks V (ss ++ [s]) (ps ++ [ptr b]) := by
 refine ⟨by simp [h.len], fun i hi => ?_⟩
 by_cases hlt : i < ss.length
 · obtain ⟨b1, mb1, h1, h2⟩ := h.at_ i hlt
   refine ⟨b1, mb1, ?_, ?_⟩
   · rw [List.getElem?_append_left (by rw [h.len]; exact hlt)]; exact h1
   · rw [List.getElem_append_left hlt]; exact h2
 · have hi2 : i = ss.length := by rw [List.length_append, List.length_singleton] at hi; omega
   subst hi2; refine ⟨b, mb, ?_, ?_⟩
   · rw [← h.len]; simp
   · simpa using hs
theorem Sks.grown {lo size n : Nat} {v : Value} {xs : List Value} (h : Sks V ss ps) (hown : V.ownsRow lo 72 size v n xs) (hg : V.grownBy V' v.ownBlock) : Sks V' ss ps := h.turn fun b mb s hs =>
 hs.kept (Fr := fun i => i < V.heap.size ∧ some i ≠ v.ownBlock) (Kept.of_grown hg fun i hi => hi) ⟨hs.ob.lt, by
   rcases hown.2 with ⟨rfl, -⟩ | ⟨g, cap, cur, rfl, -, hg, -⟩
   · simp [Value.ownBlock]
   · intro e2
     have e3 : b = g := Option.some.inj e2; subst e3; have h2 : V.heap[b]? = _ := hs.ob; rw [h2] at hg
     cases hg⟩ ⟨hs.map.lt, by
   rcases hown.2 with ⟨rfl, -⟩ | ⟨g, cap, cur, rfl, -, hg, -⟩
   · simp [Value.ownBlock]
   · intro e2
     have e3 : mb = g := Option.some.inj e2; subst e3; obtain ⟨es, clock, h1, -⟩ := hs.map; have h1 : V.heap[mb]? = _ := h1; rw [h1] at hg
     cases hg⟩
theorem Sks.box {ob : Nat} {u u' : Value} (h : Sks V ss ps) (ho : Ob V ob 42 #[u]) : Sks (V.setCell ⟨ob, 0, none⟩ u') ss ps := h.turn fun b mb s hs => by
 refine hs.kept (Fr := fun i => i < V.heap.size ∧ i ≠ ob) (Kept.of_grown (grownBy_set V ob 0 u') fun i hi => ⟨hi.1, fun e => hi.2 (by cases e; rfl)⟩) ⟨hs.ob.lt, ?_⟩ ⟨hs.map.lt, ?_⟩
 · rintro rfl
   have h1 : V.heap[b]? = _ := ho; have h2 : V.heap[b]? = _ := hs.ob; rw [h1] at h2
   cases h2
 · rintro rfl
   have h1 : V.heap[mb]? = _ := ho; obtain ⟨es, clock, h2, -⟩ := hs.map; have h2 : V.heap[mb]? = _ := h2; rw [h1] at h2
   cases h2
theorem Sks.loop {row : Option Nat} (h : Sks V ss ps) (hg : V.grownBy V' row) (hr : ∀ r, row = some r → ∃ o : Obj, V.heap[r]? = some o ∧ o.isCells = false ∧ o.isWalk = false) : Sks V' ss ps := h.turn fun b mb s hs => by
 refine hs.kept (Fr := fun i => i < V.heap.size ∧ some i ≠ row) (Kept.of_grown hg fun i hi => hi) ⟨hs.ob.lt, fun e => ?_⟩ ⟨hs.map.lt, fun e => ?_⟩
 · obtain ⟨o, h1, h2, h3⟩ := hr b e.symm
   have h4 : V.heap[b]? = _ := hs.ob; rw [h4] at h1
   cases h1
   cases h2
 · obtain ⟨o, h1, h2, h3⟩ := hr mb e.symm
   obtain ⟨es, clock, h4, -⟩ := hs.map; have h4 : V.heap[mb]? = _ := h4; rw [h4] at h1
   cases h1
   cases h3
theorem Sks.sts {v : Value} (h : Sks V ss ps) (hv : Sl V 0 V.heap.size 1 v ss.length ps) : Sk.StsAt V 0 v ss :=
 ⟨ps, h.len, hv, fun i hi => by
   obtain ⟨b, mb, h1, h2⟩ := h.at_ i hi; exact ⟨_, h1, .inr ⟨b, mb, rfl, h2⟩⟩⟩
end
end
section
open Go.RowKit Go.Maps
open Ce It Al Kp
attribute [local go_sem] Oper.semAt_some
theorem stkp_info : (Tryz.prog.info? 72).map (fun i => (i.zero, i.size, i.bytes)) = some (some (.pointer none), 1, 8) := by kernel_rfl
def Kw (w : World) (Bs : Nat) (p : Value) (A B : World) : Prop := Below w.heap.size A B ∧ (Ob A Bs 26 #[p] → Ob B Bs 26 #[p])
theorem Kw.loop {w : World} {Bs l : Nat} {p : Value} {W : World} {r r' : Loop} (hl : w.heap.size ≤ l) (h : W.heap[l]? = some (.loop r)) : Kw w Bs p W (W.putObj l (.loop r')) :=
 ⟨belowK_b (w := w) (Nat.le_refl _) W l _ _ hl h rfl rfl, fun ho => (World.putObj_heap_other (fun e => by
   subst e; have h2 : W.heap[Bs]? = _ := ho; rw [h] at h2
   cases h2)).trans ho⟩
structure NS1 (a : Wd) (ss : List Sk.Stk) (w : World) : Prop where
 at_ : ∀ k, (h : k < ss.length) → ∃ (A : Na) (me now cnt : Nat), A.nd = nodeAt a k ∧ NX A me now cnt ss[k] w
theorem shelves_calls {a : Wd} {wy ak : Value} {ss : List Sk.Stk} {w : World} (F : WF a wy ak w) (hl2 : ss.length = 2) (HN0 : NS1 a ss w) :
   Calls Tryz.prog 9 #[ptr a.wb] w fun e w' => (∃ v, e = .returned v ∧ Sk.StsAt w' 0 v ss ∧ ∃ A c, v = .slice A 2 c) ∧ Below w.heap.size w w' := by
 have hB1 : Below w.heap.size w (w.alloc (.cells #[vN] 42)) := (Below.refl _ w).alloc (Nat.le_refl _) _; have oO := Ob.new w 42 #[vN]; have hs1 : (w.alloc (.cells #[vN] 42)).heap.size = w.heap.size + 1 := by simp
 have cU := hdd (up_made (ptr a.wb) rfl (w.alloc (.cells #[vN] 42))); have F1 := F.same hB1; have HF0 := hdd F; have HN := hdd HN0; clear F HN0; refine (callsIn_wide (n := 6)).1 ?_; refine callsIn_of_wp_marks Tryz.func9 rfl trivial ?_ rfl; simp only [Tryz.ntmps9, List.size_toArray, List.length_cons, List.length_nil, Nat.reduceAdd, Nat.reduceSub, Array.replicate_succ, Array.replicate_zero, List.push_toArray, List.append_toArray, List.nil_append, List.cons_append]
 gi_wp2_with (refine ⟨trivial, ?_⟩; gi_at_call 20; refine (callsIn_wide.2 cU.out).mono ?_; rintro e W' ⟨rfl, rfl⟩)
 generalize (w.alloc (.cells #[vN] 42)) = w1 at *; clear cU; have hal := (Below.refl w1.heap.size w1).alloc (Nat.le_refl _) (.cells #[ptr a.wb] 26); have F2 := F1.same hal; have e4 := Ob.new w1 26 #[ptr a.wb]; rw [hs1] at e4; have oO2 := oO.alloc (.cells #[ptr a.wb] 26); have hB2 := hB1.trans (hal.mono hB1.size); have hs2 : (w1.alloc (.cells #[ptr a.wb] 26)).heap.size = w1.heap.size + 1 := by simp
 generalize (w1.alloc (.cells #[ptr a.wb] 26)) = w2 at *; have hs3 : w2.heap.size = w.heap.size + 2 := by omega
 clear oO hal hs1 hs2 F1 hB1; obtain ⟨hwl, hnl⟩ := And.intro HF0.out.n.lt HF0.out.e.lt
 refine Ru.range_reads (n := 6) rfl (by omega) (gf := 49) rfl trivial (enters_of Tryz.func49 (by kernel_rfl) rfl)
   (up_reads 5 (by omega) (w.heap.size + 1) F2 e4 (Kw w (w.heap.size + 1) (ptr a.wb)) (fun A B hF hO hk => ⟨⟨(hk.1.block _ hwl).trans hF.n, (hk.1.block _ hnl).trans hF.e, hF.c⟩, hk.2 hO⟩)) (Below.refl _ _) (fun h k => ⟨h.1.trans k.1, fun x => k.2 (h.2 x)⟩) (fun W l r r' hl h => Kw.loop (by omega) h) (fun d v W h => by rw [h]; rfl)
   (fun pre V => ∃ u ps, pre.length ≤ 2 ∧ Ob V w.heap.size 42 #[u] ∧ V.ownsRow (w.heap.size + 2) 72 1 u pre.length ps ∧ Sks V (ss.take pre.length) ps ∧ Below w.heap.size w V ∧ w.heap.size + 2 ≤ V.heap.size)
   (fun _ _ _ => False)
   (fun s A B row hs hg hr => by
     obtain ⟨u, ps, h0, h1, h2, h3, h4, h5⟩ := hs; have hr2 : ∀ r, row = some r → ∃ o : Obj, A.heap[r]? = some o ∧ o.isCells = false := fun r e => let ⟨o, k1, k2, _⟩ := (hr r e).2; ⟨o, k1, k2⟩
     exact ⟨u, ps, h0, ob_keep h1 hg hr2, row_keep h2 hg hr2, h3.loop hg (fun r e => (hr r e).2), h4.grown hg (by omega) (fun k e => by have := (hr k e).1; omega), by have := hg.size; omega⟩)
   (fun c s A B row hs hg hr => hs.elim)
   ⟨vN, [], by simp, oO2, World.ownsRow_nil _ _ _ _, Sks.nil _, hB2, by omega⟩ ?round ?done ?stop
 case stop => exact fun D c pre W _ _ h => h.elim
 case round =>
   rintro l pre k v V hl ⟨u, ps, hpl, i0, i1, i2, i3, i4⟩ ⟨rfl, hlt⟩ rfl; obtain ⟨A, me, now, cnt, hnd, hnx⟩ := HN.out.at_ pre.length (by omega); rw [← hnd]; clear hnd; gi_wp2; refine ⟨keeps_below _ (Below.refl _ V), ⟨Below.refl _ V, fun h => h⟩, fun V2 hg2 ho2 => ?_⟩; have ho3 : ∃ o : Obj, V.heap[l]? = some o ∧ o.isCells = false := let ⟨o, k1, k2, _⟩ := ho2; ⟨o, k1, k2⟩; replace i0 := ob_keep i0 hg2 (fun r e => by cases e; exact ho3); replace i1 := row_keep i1 hg2 (fun r e => by cases e; exact ho3); replace i2 := i2.loop hg2 (fun r e => by cases e; exact ho2); replace i3 := i3.grown hg2 (by omega) (fun k e => by have := Option.some.inj e; omega); replace i4 : w.heap.size + 2 ≤ V2.heap.size := by have := hg2.size; omega
   clear hg2 ho2 ho3; have hnx2 := hnx.same i3.drew; have cR := hdd (nregion_calls hnx2.nf); have cS := hdd (rshelf_below hnx2); clear hnx hnx2; have HTK := hdd (show ss.take (pre.length + 1) = ss.take pre.length ++ [ss[pre.length]] from List.take_succ_eq_append_getElem (by omega)); have HPL := hdd (show (pre ++ [pre.length]).length = pre.length + 1 by simp); obtain ⟨ti, hi0, hz0, hz1, hz2⟩ := inf3 stkp_info; generalize ss[pre.length] = sk at *; obtain ⟨Au, cu, rfl, -⟩ := (Sl.of_own i1).at_; gi_wp2; refine Pi.regionIn [(0, false), (1, false), (2, true), (3, true), (4, true), (5, true), (6, true)] (fun V => Ob V w.heap.size 42 #[.slice Au pre.length cu]) Se.hmx (by kernel_rfl) (by kernel_rfl) (by kernel_rfl) (by kernel_rfl) i0 rfl ?_; simp only [Pu.named, List.filterMap_cons, List.filterMap_nil, zzJ, zzK, zzL, zzM]
   iterate 2 (
     apply Pu.WalkM.on (by rfl)
     · intro V hV
       have z0 := hV.k 0 rfl; go_wp2_with fail; refine ⟨rfl, ?_, rfl⟩
       try simp only [Act.put, zzA, zzB, zzC]
       rfl
     simp only [Act.put, zzA, zzB, zzC])
   have j0 : Ob V2.drew w.heap.size 42 #[.slice Au pre.length cu] := i0; have j1 : V2.drew.ownsRow (w.heap.size + 2) 72 1 (.slice Au pre.length cu) pre.length ps := i1; have j2 : Sks V2.drew (ss.take pre.length) ps := i2.same (Below.refl _ V2).drew; have j3 : Below w.heap.size w V2.drew := i3.drew; have hD0 : Below V2.drew.heap.size V2 V2.drew := (Below.refl _ V2).drew; have hds : V2.drew.heap.size = V2.heap.size := rfl; clear i0 i1 i2 i3; generalize hWD : V2.drew = WD at *; clear hWD; refine Pu.WalkM.make (by rfl) ?_; intro V hV; rw [hV]; clear hV V; go_wp2_with (go_at_call 21; refine cR.out.mono ?_; rintro e W3 ⟨rfl, rfl⟩); refine Pu.mk3 (ptr A.rg) j0 ?_ ?_
   · try simp only [Act.put, zzA, zzB, zzC]
   simp only [Act.put, zzA, zzB, zzC]; refine Pu.WalkM.make (by rfl) ?_; intro V hV; rw [hV]; clear hV V; go_wp2_with (go_at_call 22; refine cS.out.mono ?_; rintro e W3 ⟨⟨sb, smb, rfl, hst⟩, hb3⟩); have l0 := j0.same hb3; have l1 := Sk.rowb j1 hb3; have l2 := (j2.same hb3).snoc hst; have l3 := j3.trans (hb3.mono j3.size); have hD3 := hD0.trans hb3; have hs3' := hb3.size; clear hb3 j0 j1 j2 j3 hst cR cS hD0; refine Pu.mk3 (ptr sb) l0 ?_ ?_
   · try simp only [Act.put, zzA, zzB, zzC]
   simp only [Act.put, zzA, zzB, zzC]; refine Pu.WalkM.make (by rfl) ?_; intro V hV; rw [hV]; clear hV V; go_wp2_with fail; have hal4 := (Below.refl W3.heap.size W3).alloc (Nat.le_refl _) (.cells #[ptr sb] 72); have m0 := l0.alloc (.cells #[ptr sb] 72); have m1 := l1.alloc (.cells #[ptr sb] 72); have m2 := l2.same hal4; have m3 := l3.trans (hal4.mono l3.size); have hsl := Sl.new W3 #[ptr sb] 72 (n := 1) (size := 1) rfl (by unfold maxLen; omega); have hs4 : (W3.alloc (.cells #[ptr sb] 72)).heap.size = W3.heap.size + 1 := by simp
   have hD4 := hD3.trans (hal4.mono hs3'); clear l0 l1 l2 l3 hal4 hD3; generalize W3.alloc (.cells #[ptr sb] 72) = W4 at *; refine Pu.mk3 (.slice (some ⟨W3.heap.size, 0, none⟩) 1 1) m0 ?_ ?_
   · try simp only [Act.put, zzA, zzB, zzC]
   simp only [Act.put, zzA, zzB, zzC]; refine Pu.WalkM.make (by rfl) ?_; intro V hV; rw [hV]; clear hV V; go_wp2_with (at_builtin; refine wpList_append_sl _ rfl (.tmp 10) (.tmp 14) _ rfl (w.heap.size + 2) 72 ti _ 1 8 Tryz.underlying42 hi0 hz0 hz1 hz2 rfl (by omega) (.slice Au pre.length cu) pre.length ps rfl m1 W3.heap.size (W3.heap.size + 1) (.slice (some ⟨W3.heap.size, 0, none⟩) 1 1) 1 [ptr sb] rfl hsl (by simp [Value.oneCell']) (by unfold maxLen; omega) (by omega) (by omega) ?_; intro u5 W5 hown5 hg5 hat5); clear hz0 hz1 hz2 hi0 hsl; have hub : (Value.slice Au pre.length cu).ownBlock ≠ some w.heap.size := fun e => by have := m1.lt _ e; omega
   have n0 := m0.kept hg5 (fun e => hub e.symm); have n2 := m2.grown m1 hg5; have n3 := m3.grown hg5 (by omega) (fun k e => by have := m1.lt k e; omega); have hKF := Sk.keeps_row (c := w2.heap.size) m1 hg5; have hKO : Ob W4 (w.heap.size + 1) 26 #[ptr a.wb] → Ob W5 (w.heap.size + 1) 26 #[ptr a.wb] := fun h => h.kept hg5 (fun e => by have := m1.lt _ e.symm; omega)
   have hBw4 : Below w.heap.size W4 W5 := (Below.refl _ W4).grown hg5 (by omega) (fun k e => by have := m1.lt k e; omega); have hs5 := hg5.size; clear m0 m1 hat5 m2 m3; obtain ⟨A5, c5, rfl, -⟩ := (Sl.of_own hown5).at_; refine Pu.mk3 (.slice A5 (pre.length + 1) c5) n0 ?_ ?_
   · try simp only [Act.put, zzA, zzB, zzC]
   simp only [Act.put, zzA, zzB, zzC]; refine Pu.WalkM.make (by rfl) ?_; intro X hX; rw [hX]; clear hX X; have z1 := n0.k 0 rfl; have f1 := n0.frozen 0; go_wp2_with fail; refine ⟨rfl, undef, (fun _ => True), (fun V => V = W5.setCell ⟨w.heap.size, 0, none⟩ (.slice A5 (pre.length + 1) c5)), rfl, rfl, (fun _ _ => trivial), (.inl (by kernel_rfl)), Pu.WalkM.nil ?_⟩; intro V hV; rw [hV]; clear hV V; have q0 := n0.set 0 (.slice A5 (pre.length + 1) c5); have hgs := grownBy_set W5 w.heap.size 0 (.slice A5 (pre.length + 1) c5); refine Pi.OnlyN.out ?_; have hb24 : Below V2.heap.size V2 W4 := hD4.mono (by omega); have hK2 := keeps_set ((keeps_below w2.heap.size hb24).trans hKF) ⟨w.heap.size, 0, none⟩ (.slice A5 (pre.length + 1) c5); have hBk : Below w.heap.size V2 (W5.setCell ⟨w.heap.size, 0, none⟩ (.slice A5 (pre.length + 1) c5)) := ((hb24.mono (by omega)).trans hBw4).grown hgs (by omega) (fun k e => by have := Option.some.inj e; omega); have hOk : Ob V2 (w.heap.size + 1) 26 #[ptr a.wb] → Ob (W5.setCell ⟨w.heap.size, 0, none⟩ (.slice A5 (pre.length + 1) c5)) (w.heap.size + 1) 26 #[ptr a.wb] := fun h => ((hKO (h.same hb24)).other (show w.heap.size + 1 ≠ w.heap.size by omega) 0 _)
   have hR6 := Sk.row_far hown5 hgs (by omega); have hB6 := n3.grown hgs (by omega) (fun k e => by have := Option.some.inj e; omega); have hsz : w.heap.size + 2 ≤ (W5.setCell ⟨w.heap.size, 0, none⟩ (.slice A5 (pre.length + 1) c5)).heap.size := by have := hgs.size; omega
   have hS6 := n2.box (u' := .slice A5 (pre.length + 1) c5) n0; refine ⟨hK2, ⟨hBk, hOk⟩, .slice A5 (pre.length + 1) c5, ps ++ [ptr sb], by rw [HPL.out]; omega, q0, ?_, ?_, hB6, hsz⟩
   · rw [HPL.out]; exact hR6
   · rw [HPL.out, HTK.out]; exact hS6
 case done =>
   rintro D xs V hl rfl ⟨u, ps, h0, i1, i2, i3, i4, i5⟩ hK; have z1 := i1.cell (j := 0) (v := u) rfl; have htk : ss.take [0, 1].length = ss := by rw [show [0, 1].length = ss.length from hl2.symm, List.take_length]
   rw [htk] at i3; gi_wp2; refine ⟨by simp, .inl ⟨_, _, rfl, run_takeDeferred hK, ?_⟩⟩; have hBF := below_end i4 (by omega) hK; have hR := row_keep i2 (grownBy_putObj' V D (.deferred none)) (fun r e => by cases e; exact ⟨_, hK, rfl⟩); have hS := i3.loop (grownBy_putObj' V D (.deferred none)) (fun r e => by cases e; exact ⟨_, hK, rfl, rfl⟩); have hSl := (Sl.of_own hR).wide (Nat.zero_le _) (Nat.le_refl _); obtain ⟨Ar, cr, rfl, -⟩ := hSl.at_; refine ⟨_, ?_, ⟨_, rfl, hS.sts (by rw [hl2]; exact hSl), _, _, rfl⟩, hBF⟩; simp [results, Tryz.f9, go_sem]
end
section
open Go.RowKit Go.Maps
open Ce It Al Kp
def nums : List Int := [0, 1, 2, 3, 4, 5, 6, 10, 30, 50, 51, 60, 70, 71, 80, 90, 91, 200, 270, 280, 262144, 65536, 16, 64, 16384, 1099511627776, 72057594037927936, 8, 16, 16, 64, 1099511627776, 256, 64, 4294967296, 128, 8, 2, 16, 64, 2048, 100, 256, 256, 32, 4096, 4096, 128, 64, 4096, 15, 4096, 1073741824, 1, 2, 3, 4, 5, 6, 7, 8, 9, 10, 11, 1, 2, 3, 4, 5, 6, 1, 2, 3, 4, 5, 6, 7, 8, 9, 10, 11, 1, 2, 3, 4, 5, 6, 7, 8, 9, 10, 11, 12, 13, 14, 1, 2, 3, 4, 5, 6, 7, 8, 9, 10, 1, 2, 3, 4, 5, 6, 7, 8, 1, 2, 3, 4, 5, 6, 7, 8, 9, 10, 11]
def NS : Array Value := (nums.map (Value.int .i64)).toArray
theorem nums_len : nums.length = 124 := by rfl
theorem NS_get (k : Nat) (hk : k < 124) : NS[k]? = some (vI (nums.getD k 0)) := by
 have hl := nums_len; unfold NS; rw [List.getElem?_toArray, List.getElem?_map, List.getElem?_eq_getElem (by omega)]; simp [List.getD, List.getElem?_eq_getElem (show k < nums.length by omega)]
theorem names_calls (w : World) : Calls Tryz.prog 4 #[] w fun e w' => e = .returned (.tuple #[.slice (some ⟨w.heap.size, 0, none⟩) 124 124, .slice (some ⟨w.heap.size + 1, 0, none⟩) 124 124]) ∧ (w.alloc (.cells NS 3)).alloc (.cells NS 3) = w' := by
 go_enter Tryz.func4, Tryz.ntmps4
 go_wp2_with (first
   | (refine wpList_buildFlatAt rfl 22 3 124 _ rfl .i64 nums w.heap.size rfl (some 4) rfl Tryz.underlying22 (by kernel_rfl) (by kernel_rfl) nums_len.symm (by decide) (by decide) (by kernel_rfl) ?_; rw [← NS])
   | (refine wpList_buildFlatAt rfl 22 3 124 _ rfl .i64 nums (w.heap.size + 1) (by simp) (some 5) rfl Tryz.underlying22 (by kernel_rfl) (by kernel_rfl) nums_len.symm (by decide) (by decide) (by kernel_rfl) ?_; rw [← NS]))
 go_ret2; exact ⟨rfl, rfl⟩
theorem top_of (hl : ∀ W, Calls Tryz.prog 5 #[] W fun e w' => e = .returned (.bool true) ∧ Below W.heap.size W w') (w : World) : Calls Tryz.prog 3 #[] w fun e w' => e = .returned (.bool true) ∧ Below w.heap.size w w' := by
 have o1 := (Ob.new w 3 NS).alloc (.cells NS 3); have o2 := Ob.new (w.alloc (.cells NS 3)) 3 NS; have hb := ((Below.refl w.heap.size w).alloc (Nat.le_refl _) (.cells NS 3)).alloc (by simp) (.cells NS 3); simp only [World.size_alloc] at o2; have cN := hdd (names_calls w); generalize hW : (w.alloc (.cells NS 3)).alloc (.cells NS 3) = W at *; have HL := hdd hl; have C1 := hdd (fun k hk wr (hb : Below W.heap.size W wr) => (hb.cell (p := ⟨w.heap.size, k, none⟩) o1.lt).trans (o1.cell (j := k) (NS_get k hk))); have C2 := hdd (fun k hk wr (hb : Below W.heap.size W wr) => (hb.cell (p := ⟨w.heap.size + 1, k, none⟩) o2.lt).trans (o2.cell (j := k) (NS_get k hk))); have HB := hdd hb; clear hl o1 o2 hW hb
 go_enter Tryz.func3, Tryz.ntmps3
 go_wp2_with fail; refine cN.out.mono ?_; rintro e W0 ⟨rfl, rfl⟩; clear cN; go_wp2
 go_loopw [3] (fun i wr => ∃ k : Nat, k ≤ 124 ∧ i = vI k ∧ Below W.heap.size W wr) (fun i _ => 124 - (intOf i).toNat)
 case atStart => exact ⟨0, by omega, rfl, Below.refl _ _⟩
 case round =>
   obtain ⟨k, hk, rfl, hbr⟩ := hrel
   by_cases hlt : k < 124
   · have hd : decide ((k : Int) < 124) = true := by simp; omega
     have l1 : (0 : Int) ≤ (k : Int) := by omega
     have l2 : (k : Int) < 124 := by omega
     have g1 := C1.out k hlt wr hbr; have g2 := C2.out k hlt wr hbr; generalize nums.getD k 0 = v at *; go_wp2_with fail
     go_region
     all_goals
       go_wp2
       go_roundw
       case rel => exact ⟨k + 1, by omega, by go_num, hbr.drew⟩
       case measure => simp [intOf]; omega
   · obtain rfl : k = 124 := by omega
     have cL := hdd (HL.out wr); go_wp2_with fail; refine cL.out.mono ?_; rintro e W2 ⟨rfl, hb2⟩; have hb3 := (HB.out.trans (hbr.mono HB.out.size)).trans (hb2.mono (HB.out.trans (hbr.mono HB.out.size)).size); go_wp2; go_ret; exact ⟨rfl, hb3⟩
theorem NodeZ.nx {nd now cnt u : Nat} {sent mark : Int} {s : Sk.Stk} {r : List As} {w : World} (h : St (NodeZ DeskA nd now cnt u [] sent mark s :: r) w) : ∃ a, a.nd = nd ∧ NX a 0 now cnt s w := by
 obtain ⟨a, its, e, hq, s1⟩ := NodeZ.out h; obtain rfl := hq.nil; have s2 := ((s1).take [0, 1, 1, 1, 1, 0]); simp only [takeOut, zzD, zzE, zzF, zzG, zzH, zzI] at s2; exact ⟨a, e, NX.of s2⟩
theorem NodeU.nx {nd now cnt u : Nat} {sent mark : Int} {s : Sk.Stk} {r : List As} {w : World} (h : St (NodeU DeskA nd now cnt u [] sent mark s :: r) w) : ∃ a, a.nd = nd ∧ NX a 1 now cnt s w := by
 obtain ⟨a, its, e, hq, s1⟩ := NodeU.out h; obtain rfl := hq.nil; have s2 := ((s1).take [0, 1, 1, 1, 1, 0]); simp only [takeOut, zzD, zzE, zzF, zzG, zzH, zzI] at s2; exact ⟨a, e, NX.of s2⟩
def runS : List Sk.Stk := [stk1, []]
theorem run_all : Sk.allS runS = true := by decide +kernel
theorem kept_calls {a : Wd} {wy ak : Value} {w : World} (F : WF a wy ak w) (HN : NS1 a runS w) : Calls Tryz.prog 12 #[ptr a.wb] w fun e w' => e = .returned (.bool true) ∧ Below w.heap.size w w' := by
 have cW := hdd (whole_calls F); have cS := hdd (shelves_calls F rfl HN); clear F HN
 go_enter Tryz.func12, Tryz.ntmps12
 go_wp2_with fail; refine cW.out.mono ?_; rintro e W ⟨rfl, rfl⟩
 go_wp2_with (first
   | (go_at_call 9; (with_reducible refine (cS.out).mono ?_); rintro e W1 ⟨⟨v, rfl, hv, A, c, rfl⟩, hb1⟩)
   | (go_at_call 36; (with_reducible refine (Sk.all_calls runS _ W1 0 hv (by decide)).mono ?_); rintro e W2 ⟨rfl, hb2⟩))
 rw [run_all] at *; have hb3 := hb1.trans (hb2.mono hb1.size); go_ret; exact ⟨rfl, hb3⟩
theorem run_tot : Sk.totR runS [97] = [5, 0, 0, 0, 5, 0, 0, 0, 0, 0, 0] := by decide +kernel
theorem run_totV : Sk.totV ⟨#[97]⟩ runS = .agg #[.string ⟨#[97]⟩, vI 5, vO, vO, vO, vI 5, vO, vO, vO, vO, vO, vO, vO] := by
 unfold Sk.totV Sk.totC; rw [show (⟨#[97]⟩ : ByteArray).data.toList = [97] from rfl, run_tot, show Sk.wayT [5, 0, 0, 0, 5, 0, 0, 0, 0, 0, 0] = 0 by decide +kernel]
 rfl
theorem run_f1 (W : World) : (Instr.field 49 (.agg #[.string ⟨#[97]⟩, vI 5, vO, vO, vO, vI 5, vO, vO, vO, vO, vO, vO, vO]) 1).run Tryz.prog W = .ok (.agg #[vI 5, vO, vO, vO]) W := by kernel_rfl
theorem run_f2 (W : World) : (Instr.field 45 (.agg #[vI 5, vO, vO, vO]) 0).run Tryz.prog W = .ok (vI 5) W := by kernel_rfl
theorem lives_calls (w : World) : Calls Tryz.prog 5 #[] w fun e w' => e = .returned (.bool true) ∧ Below w.heap.size w w' := by
 have cB := hdd (begin_calls (St.old w))
 go_enter Tryz.func5, Tryz.ntmps5
 go_wp2_with fail; refine cB.out.mono ?_; rintro e W1 ⟨a, hc, rfl, s1⟩; clear cB; have s2 := (s1.slNew 29 #[.string ⟨#[97]⟩, vI 5] (n := 1) (size := 2) rfl (by unfold maxLen; omega)).obNew 32 (askC9 (.slice (some ⟨W1.heap.size, 0, none⟩) 1 1)); simp only [World.size_alloc] at s2; clear s1; have oK := s2.ob (b := W1.heap.size + 1) 0 rfl; have s3 := ((s2).take [0, 1, 1, 1, 2, 0, 0, 0, 0]); simp only [takeOut, zzD, zzE, zzF, zzG, zzH, zzI] at s3; replace s3 := s3.drop; have s4 : St (_ :: _ :: _ :: _ :: ItmA (.slice (some ⟨W1.heap.size, 0, none⟩) 1 1) :: _) _ := s3; have cQ := hdd (wdoq_calls hc s4); clear s2 s3 s4; go_wp2_with (refine wpList_load_obg (by rfl) _ _ rfl rfl _ oK Tryz.underlying32 rfl (by kernel_rfl) ?_); refine cQ.out.mono ?_; rintro e W2 ⟨rfl, wy, ak, pu, s5⟩; clear cQ oK; have s6 := ((s5).take [0, 0, 0, 2, 0, 0, 0, 0]); simp only [takeOut, zzD, zzE, zzF, zzG, zzH, zzI] at s6; have cR := hdd (wdor_calls hc (by omega) (by omega) (by omega) (by omega) s6); clear s5 s6; go_wp2_with fail; refine cR.out.mono ?_; rintro e W3 ⟨rfl, wy2, d0, d1, v0, v1, s7⟩; clear cR; have F3 : WF a wy2 ak W3 := ⟨s7.ob (b := a.wb) 0 rfl, s7.ob (b := a.nb) 2 rfl, hc⟩; have cA := hdd (Answer_calls F3 (s7.gmap 5 rfl)); obtain ⟨A0, e0, x0⟩ := NodeZ.nx (s7.front 3 rfl); obtain ⟨A1, e1, x1⟩ := NodeU.nx (s7.front 4 rfl); have HO := hdd (s7.below 6 rfl); have HQ := hdd (fun V (hb : Below W3.heap.size W3 V) => quiet_calls (F3.same hb) e0 e1 (x0.same hb) (x1.same hb))
 have HN : NS1 a runS W3 := ⟨fun k hk => by
   match k, hk with
   | 0, _ => exact ⟨A0, _, _, _, e0, x0⟩
   | 1, _ => exact ⟨A1, _, _, _, e1, x1⟩⟩
 have HS := hdd (fun V (hb : Below W3.heap.size W3 V) => shelves_calls (F3.same hb) (ss := runS) rfl ⟨fun k hk => by
   obtain ⟨A, me, now, cnt, q1, q2⟩ := HN.at_ k hk; exact ⟨A, me, now, cnt, q1, q2.same hb⟩⟩)
 have HK := hdd (fun V (hb : Below W3.heap.size W3 V) => kept_calls (F3.same hb) ⟨fun k hk => by
   obtain ⟨A, me, now, cnt, q1, q2⟩ := HN.at_ k hk; exact ⟨A, me, now, cnt, q1, q2.same hb⟩⟩)
 clear F3 e0 e1 x0 x1 HN s7 hc; go_wp2_with fail; refine cA.out.mono ?_; rintro e W4 ⟨rfl, hb4⟩; clear cA; have hal := (Below.refl W4.heap.size W4).alloc (Nat.le_refl _) (.cells answC 39); have oY := Ob.new W4 39 answC; have hb5 := hb4.trans (hal.mono hb4.size); have cS := hdd (HS.out _ hb5); clear hal hb4 HS; go_wp2_with fail; refine cS.out.mono ?_; rintro e W6 ⟨⟨v, rfl, hv, A, c, rfl⟩, hb6⟩; have oY6 := oY.below hb6 oY.lt; have y2 := oY6.k 2 rfl; have hb36 := hb5.trans (hb6.mono hb5.size); have cT := Sk.total_calls runS ⟨#[97]⟩ (by decide) _ W6 0 hv; rw [run_totV] at cT; have CT := hdd cT; have hf1 := run_f1; have hf2 := run_f2; clear cT cS hb5 hb6 oY oY6 hv
 go_wp2_with (first
   | (go_at_call 10; (with_reducible refine (CT.out).mono ?_); rintro e W7 ⟨rfl, hb7⟩)
   | (go_at_call 11; (with_reducible refine (HQ.out _ (hb36.trans (hb7.mono hb36.size))).mono ?_); rintro e W8 ⟨rfl, hb8⟩)
   | (go_at_call 12; (with_reducible refine (HK.out _ ((hb36.trans (hb7.mono hb36.size)).trans (hb8.mono (hb36.trans (hb7.mono hb36.size)).size))).mono ?_); rintro e W9 ⟨rfl, hb9⟩))
 have hb37 := hb36.trans (hb7.mono hb36.size); have hb38 := hb37.trans (hb8.mono hb37.size); have hb39 := hb38.trans (hb9.mono hb38.size); have hbw := HO.out.trans (hb39.mono HO.out.size); go_ret; exact ⟨rfl, hbw⟩
theorem top_law (w : World) : Calls Tryz.prog 3 #[] w fun e w' => e = .returned (.bool true) ∧ Below w.heap.size w w' := top_of lives_calls w
end
end Tp
end Go.Proofs.YtgcnhmjpfbbfcaaGreat
