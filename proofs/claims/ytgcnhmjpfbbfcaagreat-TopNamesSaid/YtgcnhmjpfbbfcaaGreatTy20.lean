/-
  part of the proof of TopNames.
-/
import Derived.Test.YtgcnhmjpfbbfcaaGreatTy19
import Derived.Test.YtgcnhmjpfbbfcaaGreatTy17
import Derived.WalkMore
import Derived.Sort.MapsRangeIn
set_option linter.unusedVariables false
set_option linter.unusedSimpArgs false
set_option maxRecDepth 100000
set_option maxHeartbeats 8000000
namespace Go.Proofs.YtgcnhmjpfbbfcaaGreat
namespace Sk
section
open Go.RowKit Go.Maps
open It Al Kp
attribute [local go_sem] Oper.semAt_some
theorem ggoods_calls (v : Value) (hv : v.oneCell' = true) (w : World) :
   Calls Tryz.prog 98 #[v] w fun e w' => e = .returned (.func (.func 154) #[] #[.pointer (some ⟨w.heap.size, 0, none⟩)]) ∧ w' = w.alloc (.cells #[v] 42) := by
 have hmf : ∀ (fn : Fn) (first cap : Array Value) (w : World), (Instr.makeFunc fn first cap).run Tryz.prog w = .ok (.func fn first cap) w := fun _ _ _ _ => rfl
 go_enter Tryz.func98, Tryz.ntmps98
 go_wp2; go_ret; exact ⟨rfl, rfl⟩
def totL (ss : List Stk) (g : Key) : List Value := (totC ⟨g.toArray⟩ (totR ss g) (wayT (totR ss g))).toList
theorem totL_len (ss : List Stk) (g : Key) : (totL ss g).length = 13 := rfl
theorem flat_get (ss : List Stk) : ∀ (ks : List Key) (j : Nat) (hj : j < ks.length) (i : Nat), i < 13 → (ks.flatMap (totL ss))[j * 13 + i]? = (totL ss ks[j])[i]?
 | [], j, hj, _, _ => absurd hj (by simp)
 | k :: r, 0, _, i, hi => by
   rw [List.flatMap_cons, List.getElem?_append_left (by rw [totL_len]; omega)]; simp
 | k :: r, j + 1, hj, i, hi => by
   rw [List.flatMap_cons, List.getElem?_append_right (by rw [totL_len]; omega), totL_len]; rw [show (j + 1) * 13 + i - 13 = j * 13 + i by omega, List.getElem_cons_succ]; exact flat_get ss r j (by simpa using hj) i hi
theorem KpO.append {X : Nat → Prop} {ob : Nat} {A B : World} {t : TypeId} {u u' : Value} (hA : Ob A ob t #[u]) (hg : A.grownBy B u.ownBlock) (hat : u'.ownBlock = u.ownBlock ∨ u'.ownBlock = some A.heap.size) (hne : u.ownBlock ≠ some ob) (hX : X ob) : KpO X ob A (B.setCell ⟨ob, 0, none⟩ u') := by
 have hB := hA.kept hg (fun e => hne e.symm); have h2 := grownBy_set B ob 0 u'; have hO : own (B.setCell ⟨ob, 0, none⟩ u') ob = u'.ownBlock := own_of (t := t) (hB.set 0 u'); refine ⟨Nat.le_trans hg.size h2.size, fun b o hb hx ho _ => ?_, fun g hgo => ?_⟩
 · rw [own_of hA] at ho
   have hb1 := (hg.block b (Array.getElem?_eq_some_iff.1 hb).1 (fun e => ho e.symm)).trans hb; exact (h2.block b (Array.getElem?_eq_some_iff.1 hb1).1 (fun e => hx (by have := Option.some.inj e; subst this; exact hX))).trans hb1
 · rw [hO] at hgo
   rw [own_of hA]; rcases hat with h | h
   · exact .inl (h ▸ hgo)
   · rw [h] at hgo
     exact .inr (Nat.le_of_eq (Option.some.inj hgo))
theorem row_far {w w' : World} {lo b : Nat} {e : TypeId} {size n : Nat} {v : Value} {xs : List Value} (h : w.ownsRow lo e size v n xs) (hg : w.grownBy w' (some b)) (hb : b < lo) : w'.ownsRow lo e size v n xs :=
 h.kept hg (by
   cases hv : v.ownBlock with
   | none => simp
   | some g => have := (h.lt g hv).1; exact .inr (by simp; omega))
theorem row_mono {w : World} {lo lo' : Nat} {e : TypeId} {size n : Nat} {v : Value} {xs : List Value} (h : w.ownsRow lo e size v n xs) (hb : lo' ≤ lo) : w.ownsRow lo' e size v n xs :=
 ⟨h.1, h.2.imp id fun ⟨g, cap, cur, h1, h2, h3⟩ => ⟨g, cap, cur, h1, Nat.le_trans hb h2, h3⟩⟩
theorem rowb {A B : World} {lo : Nat} {e : TypeId} {size n : Nat} {v : Value} {xs : List Value} (h : A.ownsRow lo e size v n xs) (hb : Below A.heap.size A B) : B.ownsRow lo e size v n xs := by
 refine ⟨h.1, h.2.elim Or.inl fun hx => .inr ?_⟩
 revert hx
 rintro ⟨g, cap, cur, rfl, hbg, hg, hnc⟩; exact ⟨g, cap, cur, rfl, hbg, (hb.block g (Array.getElem?_eq_some_iff.1 hg).1).trans hg, hnc⟩
theorem keeps_row {A B : World} {lo n c : Nat} {e : TypeId} {size : Nat} {u : Value} {xs : List Value} (h : A.ownsRow lo e size u n xs) (hg : A.grownBy B u.ownBlock) : KeepsFrom c A B := by
 refine ⟨hg.size, fun k o _ hk ho => (hg.block k (Array.getElem?_eq_some_iff.1 hk).1 (fun e2 => ?_)).trans hk⟩; rcases h.2 with ⟨rfl, _⟩ | ⟨g', cap, cur, rfl, _, hg', _⟩
 · simp [Value.ownBlock] at e2
 · simp [Value.ownBlock] at e2
   subst e2; rw [hg'] at hk
   cases hk
   cases ho
theorem allKeys_mem : ∀ (ss : List Stk) (k : Key), k ∈ allKeys ss → ∃ s ∈ ss, k ∈ keysS s := by
 have hput : ∀ (ks : List Key) (m : List (Key × Unit)) (k : Key), k ∈ (putKeys m ks).map (·.1) → k ∈ ks ∨ k ∈ m.map (·.1) := by
   intro ks
   induction ks with
   | nil => exact fun m k h => .inr h
   | cons x r ih =>
     intro m k h; rcases ih (aPut strK m x ()) k h with h | h
     · exact .inl (List.mem_cons_of_mem _ h)
     · obtain ⟨q, hq, rfl⟩ := List.mem_map.1 h
       rcases aPut_mem.1 hq with rfl | ⟨h1, -⟩
       · exact .inl (by simp)
       · exact .inr (List.mem_map.2 ⟨q, h1, rfl⟩)
 have hall : ∀ (ss : List Stk) (m : List (Key × Unit)) (k : Key), k ∈ (ss.foldl (fun m s => putKeys m (keysS s)) m).map (·.1) → (∃ s ∈ ss, k ∈ keysS s) ∨ k ∈ m.map (·.1) := by
   intro ss
   induction ss with
   | nil => exact fun m k h => .inr h
   | cons s r ih =>
     intro m k h; rcases ih _ k h with ⟨s', h1, h2⟩ | h
     · exact .inl ⟨s', List.mem_cons_of_mem _ h1, h2⟩
     · rcases hput _ _ k h with h | h
       · exact .inl ⟨s, by simp, h⟩
       · exact .inr h
 intro ss k h; rcases hall ss [] k h with h | h
 · exact h
 · cases h
theorem StsAt.keys {w : World} {base : Nat} {v : Value} {ss : List Stk} (h : StsAt w base v ss) : (∀ k ∈ allKeys ss, k.length ≤ maxLen) ∧ (allKeys ss).length ≤ 64 * ss.length := by
 obtain ⟨ps, -, -, h3⟩ := h.at_
 have hs : ∀ s ∈ ss, (∀ k ∈ keysS s, k.length ≤ maxLen) ∧ (keysS s).length ≤ 64 := fun s hs => by
   obtain ⟨i, hi, rfl⟩ := List.getElem_of_mem hs; obtain ⟨p, -, hp⟩ := h3 i hi; exact ⟨hp.keys.1, hp.keys.2.1⟩
 refine ⟨fun k hk => ?_, ?_⟩
 · obtain ⟨s, h1, h2⟩ := allKeys_mem ss k hk
   exact (hs s h1).1 k h2
 · have : ∀ (ss : List Stk) (m : List (Key × Unit)), (∀ s ∈ ss, (keysS s).length ≤ 64) → (ss.foldl (fun m s => putKeys m (keysS s)) m).length ≤ m.length + 64 * ss.length := by
     intro ss
     induction ss with
     | nil => intro m _; simp
     | cons s r ih =>
       intro m hk; have h1 := ih (putKeys m (keysS s)) (fun s' hs' => hk s' (List.mem_cons_of_mem _ hs')); have h2 := putKeys_len (keysS s) m; have h3 := hk s (by simp); simp only [List.foldl_cons, List.length_cons]; omega
   have := this ss [] (fun s h => (hs s h).2); unfold allKeys allMap; rw [List.length_map]; simpa using this
theorem total_info : (Tryz.prog.info? 49).map (fun i => (i.zero, i.size, i.bytes)) = some (some (.agg #[vE, vO, vO, vO, vO, vO, vO, vO, vO, vO, vO, vO, vO]), 13, 112) := by kernel_rfl
theorem totals_calls (ss : List Stk) (v : Value) (w : World) (base : Nat) (h : StsAt w base v ss) (hl : ss.length ≤ 1000) :
   Calls Tryz.prog 59 #[v] w fun e w' => (∃ u, e = .returned u ∧ w'.ownsRow w.heap.size 49 13 u (allKeys ss).length ((allKeys ss).flatMap (totL ss))) ∧ Below w.heap.size w w' := by
 obtain ⟨ps, hpl, hsl, hps⟩ := h.at_; obtain ⟨A, c, rfl, hc1, hc2, -⟩ := hsl.at_; clear hsl hps hpl; refine (callsIn_wide (n := 6)).1 ?_; refine callsIn_of_wp_marks Tryz.func59 rfl trivial ?_ rfl; simp only [Tryz.ntmps59, List.size_toArray, List.length_cons, List.length_nil, Nat.reduceAdd, Nat.reduceSub, Array.replicate_succ, Array.replicate_zero, List.push_toArray, List.append_toArray, List.nil_append, List.cons_append]
 gi_wp2_with (refine ⟨trivial, ?_⟩; gi_at_call 98; refine (callsIn_wide.2 (ggoods_calls _ rfl _)).mono ?_; rintro e w' ⟨rfl, rfl⟩)
 have hB3 : Below w.heap.size w (((w.alloc (.cells #[.slice A ss.length c] 42)).alloc (.cells #[vN] 152)).alloc (.cells #[.slice A ss.length c] 42)) := (((Below.refl _ w).alloc (Nat.le_refl _) _).alloc (by simp) _).alloc (by simp; omega) _; have b0 := ((Ob.new w 42 #[.slice A ss.length c]).alloc (.cells #[vN] 152)).alloc (.cells #[.slice A ss.length c] 42); have b1 := (Ob.new (w.alloc (.cells #[.slice A ss.length c] 42)) 152 #[vN]).alloc (.cells #[.slice A ss.length c] 42); have b2 := Ob.new ((w.alloc (.cells #[.slice A ss.length c] 42)).alloc (.cells #[vN] 152)) 42 #[.slice A ss.length c]; simp only [World.size_alloc] at b1 b2; have hs3 : (((w.alloc (.cells #[.slice A ss.length c] 42)).alloc (.cells #[vN] 152)).alloc (.cells #[.slice A ss.length c] 42)).heap.size = w.heap.size + 3 := by simp
 generalize (((w.alloc (.cells #[.slice A ss.length c] 42)).alloc (.cells #[vN] 152)).alloc (.cells #[.slice A ss.length c] 42)) = w3 at *; have hM := h.same hB3; obtain ⟨hkeys, hkn⟩ := h.keys; have HH := hdd h; have HB3 := hdd hB3; have HKS := hdd hkeys; have HKN := hdd hkn; clear h hB3 hkeys
 refine Ro.range_reads (n := 6) rfl (by omega) (gf := 154) rfl trivial (enters_of Tryz.func154 (by kernel_rfl) rfl)
   (greads 5 (by omega) (w.heap.size + 1 + 1) (w.heap.size + 1) (fun i => i = w.heap.size + 1) hM (by omega) b2 (fun i hi => by omega) (by omega) (fun g hg => by rw [own_of b1] at hg; cases hg)) (Below.refl _ _) (fun h k => h.trans k) (fun W l r r' _ h => KpO.loop h) rfl
   (fun pre V => ∃ u, Ob V w.heap.size 42 #[.slice A ss.length c] ∧ Ob V (w.heap.size + 1) 152 #[u] ∧ V.ownsRow (w.heap.size + 3) 49 13 u pre.length (pre.flatMap (totL ss)) ∧ Below w.heap.size w V ∧ w.heap.size + 3 ≤ V.heap.size)
   (fun c pre V => False)
   (fun s A B row hs hg hr => by
     obtain ⟨u, h1, h2, h3, h4, h5⟩ := hs; exact ⟨u, ob_keep h1 hg (fun r e => (hr r e).2), ob_keep h2 hg (fun r e => (hr r e).2), row_keep h3 hg (fun r e => (hr r e).2), h4.grown hg (by omega) (fun k e => by have := (hr k e).1; omega), by have := hg.size; omega⟩)
   (fun c s A B row hs hg hr => hs.elim)
   ⟨vN, b0, b1, World.ownsRow_nil _ _ _ _, HB3.out, by omega⟩ ?round ?done ?stop
 case stop => exact fun D c pre X _ _ h _ => h.elim
 case round =>
   rintro l pre dd v V hl ⟨u, i0, i1, i2, i3, i4⟩ hpre rfl
   have hdm : dd ∈ allKeys ss := by
     obtain ⟨r, hr⟩ := hpre; rw [← hr]; simp
   have hdl := HKS.out dd hdm
   have hpl : pre.length < 64 * ss.length := by
     obtain ⟨r, hr⟩ := hpre; have := congrArg List.length hr; simp only [List.length_append, List.length_cons, List.length_nil] at this; have := HKN.out; omega
   have HFL := hdd (show (pre ++ [dd]).flatMap (totL ss) = pre.flatMap (totL ss) ++ totL ss dd by rw [List.flatMap_append]; simp); have HPL := hdd (show (pre ++ [dd]).length = pre.length + 1 by simp); clear hpre hdm; gi_wp2; refine ⟨keeps_below _ (Below.refl _ V), KpO.refl _ _ _, fun V2 hg2 ho2 => ?_⟩; replace i0 := ob_keep i0 hg2 (fun r e => by cases e; exact ho2); replace i1 := ob_keep i1 hg2 (fun r e => by cases e; exact ho2); replace i2 := row_keep i2 hg2 (fun r e => by cases e; exact ho2); replace i3 := i3.grown hg2 (by omega) (fun k e => by have := Option.some.inj e; omega); replace i4 : w.heap.size + 3 ≤ V2.heap.size := by have := hg2.size; omega
   clear hg2 ho2; have hSt := HH.out.same i3.drew; have cT := total_calls ss ⟨dd.toArray⟩ (by show dd.toArray.size ≤ maxLen; simpa using hdl) (.slice A ss.length c) V2.drew base hSt; have HTL := hdd (show totL ss dd = (totC ⟨dd.toArray⟩ (totR ss dd) (wayT (totR ss dd))).toList from rfl); have hTV : totV ⟨dd.toArray⟩ ss = .agg (totC ⟨dd.toArray⟩ (totR ss dd) (wayT (totR ss dd))) := by unfold totV; simp
   rw [hTV] at cT; have hro := totR_ok ss dd; generalize totR ss dd = rr at *; obtain ⟨a0, a1, a2, a3, a4, a5, a6, a7, a8, a9, a10, rfl⟩ := row_eleven hro; generalize wayT [a0, a1, a2, a3, a4, a5, a6, a7, a8, a9, a10] = wy at *; have CT := hdd (show Calls Tryz.prog 10 #[.slice A ss.length c, encStr dd] V2.drew fun e w' => e = .returned (.agg #[.string ⟨dd.toArray⟩, vI a0, vI a1, vI a2, vI a3, vI a4, vI a5, vI a6, vI a7, vI a8, vI a9, vI a10, vI wy]) ∧ Below V2.drew.heap.size V2.drew w' from cT); have HTL2 := hdd (show totL ss dd = [.string ⟨dd.toArray⟩, vI a0, vI a1, vI a2, vI a3, vI a4, vI a5, vI a6, vI a7, vI a8, vI a9, vI a10, vI wy] from HTL.out); clear cT hTV hro hSt hdl; gi_wp2; refine Pi.regionIn [(0, false), (1, false), (2, false), (3, true), (4, true), (5, true), (6, true)] (fun V => Ob V w.heap.size 42 #[.slice A ss.length c] ∧ Ob V (w.heap.size + 1) 152 #[u]) hmx (by kernel_rfl) (by kernel_rfl) (by kernel_rfl) (by kernel_rfl) ⟨i0, i1⟩ rfl ?_; simp only [Pu.named, List.filterMap_cons, List.filterMap_nil, zzJ, zzK, zzL, zzM]
   iterate 3 (first
     | (refine Pu.WalkM.off (by rfl) ?_; simp only [Act.put, zzA, zzB, zzC])
     | (apply Pu.WalkM.on (by rfl)
        · intro V hV
          obtain ⟨k0, k1⟩ := hV; have z0 := k0.cell (j := 0) (v := .slice A ss.length c) rfl; have z1 := k1.cell (j := 0) (v := u) rfl; go_wp2_with fail; refine ⟨rfl, ?_, rfl⟩
          try simp only [Act.put, zzA, zzB, zzC]
          rfl
        simp only [Act.put, zzA, zzB, zzC]))
   have hD0 : Below V2.drew.heap.size V2 V2.drew := (Below.refl _ V2).drew; have j0 : Ob V2.drew w.heap.size 42 #[.slice A ss.length c] := i0; have j1 : Ob V2.drew (w.heap.size + 1) 152 #[u] := i1; have j2 : V2.drew.ownsRow (w.heap.size + 3) 49 13 u pre.length (pre.flatMap (totL ss)) := i2; have hds : V2.drew.heap.size = V2.heap.size := rfl; have HV2 := hdd i3; clear i0 i1 i2 i3; generalize hWD : V2.drew = WD at *; clear hWD; refine Pu.WalkM.make (by rfl) ?_; intro V hV; rw [hV]; clear hV V; go_wp2_with (go_at_call 10; refine CT.out.mono ?_; rintro e W3 ⟨rfl, hb3⟩); have l0 := j0.same hb3; have l1 := j1.same hb3; have l2 := rowb j2 hb3; have HB3' := hdd hb3; have hs3' := hb3.size; clear hb3 j0 j1 j2; refine Pu.mk3 (.agg #[.string ⟨dd.toArray⟩, vI a0, vI a1, vI a2, vI a3, vI a4, vI a5, vI a6, vI a7, vI a8, vI a9, vI a10, vI wy]) ⟨l0, l1⟩ ?_ ?_
   · try simp only [Act.put, zzA, zzB, zzC]
   try simp only [Act.put, zzA, zzB, zzC]
   refine Pu.WalkM.make (by rfl) ?_; intro V hV; rw [hV]; clear hV V; go_wp2_with fail; have hal4 := (Below.refl W3.heap.size W3).alloc (Nat.le_refl _) (.cells #[.string ⟨dd.toArray⟩, vI a0, vI a1, vI a2, vI a3, vI a4, vI a5, vI a6, vI a7, vI a8, vI a9, vI a10, vI wy] 49); have m0 := l0.alloc (.cells #[.string ⟨dd.toArray⟩, vI a0, vI a1, vI a2, vI a3, vI a4, vI a5, vI a6, vI a7, vI a8, vI a9, vI a10, vI wy] 49); have m1 := l1.alloc (.cells #[.string ⟨dd.toArray⟩, vI a0, vI a1, vI a2, vI a3, vI a4, vI a5, vI a6, vI a7, vI a8, vI a9, vI a10, vI wy] 49); have m2 := l2.alloc (.cells #[.string ⟨dd.toArray⟩, vI a0, vI a1, vI a2, vI a3, vI a4, vI a5, vI a6, vI a7, vI a8, vI a9, vI a10, vI wy] 49); have hsl := Sl.new W3 #[.string ⟨dd.toArray⟩, vI a0, vI a1, vI a2, vI a3, vI a4, vI a5, vI a6, vI a7, vI a8, vI a9, vI a10, vI wy] 49 (n := 1) (size := 13) rfl (by unfold maxLen; omega); have hs4 : (W3.alloc (.cells #[.string ⟨dd.toArray⟩, vI a0, vI a1, vI a2, vI a3, vI a4, vI a5, vI a6, vI a7, vI a8, vI a9, vI a10, vI wy] 49)).heap.size = W3.heap.size + 1 := by simp
   have HB4' := hdd (HB3'.out.trans (hal4.mono hs3')); clear l0 l1 l2 hal4; generalize W3.alloc (.cells #[.string ⟨dd.toArray⟩, vI a0, vI a1, vI a2, vI a3, vI a4, vI a5, vI a6, vI a7, vI a8, vI a9, vI a10, vI wy] 49) = W4 at *; refine Pu.mk3 (.slice (some ⟨W3.heap.size, 0, none⟩) 1 1) ⟨m0, m1⟩ ?_ ?_
   · try simp only [Act.put, zzA, zzB, zzC]
   try simp only [Act.put, zzA, zzB, zzC]
   refine Pu.WalkM.make (by rfl) ?_; intro V hV; rw [hV]; clear hV V; obtain ⟨ti, hi0, hz0, hz1, hz2⟩ := inf3 total_info; go_wp2_with (at_builtin; refine wpList_append_sl _ rfl (.tmp 8) (.tmp 12) _ rfl (w.heap.size + 3) 49 ti _ 13 112 Tryz.underlying152 hi0 hz0 hz1 hz2 rfl (by omega) u pre.length _ rfl m2 W3.heap.size (W3.heap.size + 1) (.slice (some ⟨W3.heap.size, 0, none⟩) 1 1) 1 [.string ⟨dd.toArray⟩, vI a0, vI a1, vI a2, vI a3, vI a4, vI a5, vI a6, vI a7, vI a8, vI a9, vI a10, vI wy] rfl hsl (by simp [Value.oneCell']) (by unfold maxLen; omega) (by omega) (by omega) ?_; intro u5 W5 hown5 hg5 hat5); clear hz0 hz1 hz2 hi0 hsl; have hub : u.ownBlock ≠ some w.heap.size ∧ u.ownBlock ≠ some (w.heap.size + 1) := ⟨fun e => by have := m2.lt _ e; omega, fun e => by have := m2.lt _ e; omega⟩; have n0 := m0.kept hg5 (fun e => hub.1 e.symm); have n1 := m1.kept hg5 (fun e => hub.2 e.symm); have HKO := hdd (KpO.append (X := fun i => i = w.heap.size + 1) m1 hg5 hat5 hub.2 rfl); have HKF := hdd (keeps_row (c := w3.heap.size) m2 hg5); have HBL := hdd (fun (h : Below w.heap.size w W4) => h.grown hg5 (by omega) (fun k e => by have := m2.lt k e; omega)); have hs5 := hg5.size; clear m0 m1 hat5; obtain ⟨A5, c5, rfl, -⟩ := (Sl.of_own hown5).at_; refine Pu.mk3 (.slice A5 (pre.length + 1) c5) ⟨n0, n1⟩ ?_ ?_
   · try simp only [Act.put, zzA, zzB, zzC]
   try simp only [Act.put, zzA, zzB, zzC]
   refine Pu.WalkM.make (by rfl) ?_; intro X hX; rw [hX]; clear hX X; have z1 := n1.cell (j := 0) (v := u) rfl; have f1 := n1.frozen 0; go_wp2_with fail; refine ⟨rfl, undef, (fun _ => True), (fun V => V = W5.setCell ⟨w.heap.size + 1, 0, none⟩ (.slice A5 (pre.length + 1) c5)), rfl, rfl, (fun _ _ => trivial), (.inl (by kernel_rfl)), Pu.WalkM.nil ?_⟩; intro V hV; rw [hV]; clear hV V; have q0 := n0.other (b' := w.heap.size + 1) (by omega) 0 (.slice A5 (pre.length + 1) c5); have q1 := n1.set 0 (.slice A5 (pre.length + 1) c5); refine Pi.OnlyN.out ?_; have hb24 : Below V2.heap.size V2 W4 := (hD0.trans HB4'.out).mono (by omega); have hK1 := ((keeps_below w3.heap.size hb24).trans HKF.out); have hK2 := keeps_set hK1 ⟨w.heap.size + 1, 0, none⟩ (.slice A5 (pre.length + 1) c5); have hKO := (KpO.below (X := fun i => i = w.heap.size + 1) hb24 (ob := w.heap.size + 1) (by omega)).trans HKO.out; have hBw := HBL.out (HV2.out.trans (hb24.mono (by have := HV2.out.size; omega))); have hB6 := hBw.grown (grownBy_set W5 (w.heap.size + 1) 0 (.slice A5 (pre.length + 1) c5)) (by omega) (fun k e => by have := Option.some.inj e; omega); have hR6 := row_far hown5 (grownBy_set W5 (w.heap.size + 1) 0 (.slice A5 (pre.length + 1) c5)) (by omega); have hsz : w.heap.size + 3 ≤ (W5.setCell ⟨w.heap.size + 1, 0, none⟩ (.slice A5 (pre.length + 1) c5)).heap.size := by have := (grownBy_set W5 (w.heap.size + 1) 0 (.slice A5 (pre.length + 1) c5)).size; omega
   rw [← HTL2.out, ← HFL.out] at hR6; exact ⟨hK2, hKO, .slice A5 (pre.length + 1) c5, q0, q1, by rw [HPL.out]; exact hR6, hB6, hsz⟩
 case done =>
   rintro D xs V hl rfl ⟨u, i0, i1, i2, i3, i4⟩ hK; have z1 := i1.cell (j := 0) (v := u) rfl; gi_wp2; refine ⟨by simp, .inl ⟨_, _, rfl, run_takeDeferred hK, ?_⟩⟩; have hBF := below_end i3 (by omega) hK; have hR := row_mono (row_keep i2 (grownBy_putObj' V D (.deferred none)) (fun r e => by cases e; exact ⟨_, hK, rfl⟩)) (lo' := w.heap.size) (by omega); refine ⟨u, ?_, ⟨u, rfl, hR⟩, hBF⟩; simp [results, Tryz.f59, go_sem]
end
end Sk
namespace Tp
section
open Go.RowKit Go.Maps
open Ce It Al Kp
attribute [local go_sem] Oper.semAt_some
def frees (s : Sk.Stk) (ks : List Sk.Key) : List (Sk.Key × Int) := ks.foldl (fun m k => aPut strK m k (Sk.at_ ((aGet s k).getD Sk.row0) 0)) []
theorem frees_snoc (s : Sk.Stk) (ks : List Sk.Key) (k : Sk.Key) : frees s (ks ++ [k]) = aPut strK (frees s ks) k (Sk.at_ ((aGet s k).getD Sk.row0) 0) := by
 unfold frees; rw [List.foldl_append]
 rfl
theorem frees_len (s : Sk.Stk) : ∀ (ks : List Sk.Key) (m : List (Sk.Key × Int)), (List.foldl (fun (m : List (Sk.Key × Int)) k => aPut strK m k (Sk.at_ ((aGet s k).getD Sk.row0) 0)) m ks).length ≤ m.length + ks.length
 | [], m => by simp
 | k :: r, m => by
   have h1 := frees_len s r (aPut strK m k (Sk.at_ ((aGet s k).getD Sk.row0) 0)); have h2 := aPut_length_le (K := strK) m k (Sk.at_ ((aGet s k).getD Sk.row0) 0); rw [List.foldl_cons, List.length_cons]; omega
theorem frees_le (s : Sk.Stk) (ks : List Sk.Key) : (frees s ks).length ≤ ks.length := by
 have := frees_len s ks []; simpa [frees] using this
theorem KpX_of {X : Nat → Prop} {A B : World} (h : Below A.heap.size A B) : KpX X A B := ⟨h.os, h.tape, h.output, h.size, fun b o h1 _ _ => (h.block b (Array.getElem?_eq_some_iff.1 h1).1).trans h1⟩
abbrev iV (n : Int) : Value := vI n
theorem free_calls {rg : Nat} {me : Int} {s : Sk.Stk} {r : List As} {w : World} (h : St (RegA rg me s :: r) w) :
   Calls Tryz.prog 315 #[ptr rg] w fun e w' => ∃ mb, e = .returned (.map (some mb)) ∧ St (MapA strK 9 mb (gm iV (frees s (Sk.keysS s))) :: RegA rg me s :: r) w' := by
 have hmm := @run_makeMap Tryz.prog; obtain ⟨sh, mv, st, hm, s0⟩ := RegA.out h; have g2 : w.cell? ⟨rg, 2, none⟩ = some (ptr sh) := (s0.ob 0 rfl).k 2 rfl; have s1 := ((s0).take [1, 1, 0]); simp only [takeOut, zzD, zzE, zzF, zzG, zzH, zzI] at s1; have cS := hdd (stock_calls s1); clear h s0 s1; refine (callsIn_wide (n := 6)).1 ?_; refine callsIn_of_wp_marks Tryz.func315 rfl trivial ?_ rfl; simp only [Tryz.ntmps315, List.size_toArray, List.length_cons, List.length_nil, Nat.reduceAdd, Nat.reduceSub, Array.replicate_succ, Array.replicate_zero, List.push_toArray, List.append_toArray, List.nil_append, List.cons_append]; gi_wp2; refine ⟨trivial, (callsIn_wide.2 cS.out).mono ?_⟩; rintro e W1 ⟨b', rfl, s2⟩; obtain ⟨mb, hst⟩ := stk_at s2 0 rfl; have s3 := ((s2).take [0, 2, 0, 0]); simp only [takeOut, zzD, zzE, zzF, zzG, zzH, zzI] at s3; replace s3 := s3.drop; have HR := hdd (RegA.mk s3); clear s2 s3 cS; gi_wp2; refine ⟨trivial, (callsIn_wide.2 (Sk.goods_calls _ rfl _)).mono ?_⟩; rintro e w' ⟨rfl, rfl⟩; have hB3 : Below W1.heap.size W1 ((((W1.alloc (.map #[] 0)).alloc (.cells #[ptr b'] 72)).alloc (.cells #[.map (some W1.heap.size)] 452)).alloc (.cells #[ptr b'] 72)) := ((((Below.refl _ W1).alloc (Nat.le_refl _) _).alloc (by simp) _).alloc (by simp; omega) _).alloc (by simp; omega) _
 have hG : GMap strK ((((W1.alloc (.map #[] 0)).alloc (.cells #[ptr b'] 72)).alloc (.cells #[.map (some W1.heap.size)] 452)).alloc (.cells #[ptr b'] 72)) Tryz.prog 9 W1.heap.size (gm iV []) :=
   (((GMap.made (K := strK) W1 Tryz.prog 9).kept (World.grownBy_alloc _ _ none) (by simp)).kept (World.grownBy_alloc _ _ none) (by simp)).kept (World.grownBy_alloc _ _ none) (by simp)
 have b0 := ((Ob.new (W1.alloc (.map #[] 0)) 72 #[ptr b']).alloc (.cells #[.map (some W1.heap.size)] 452)).alloc (.cells #[ptr b'] 72); have b1 := (Ob.new ((W1.alloc (.map #[] 0)).alloc (.cells #[ptr b'] 72)) 452 #[.map (some W1.heap.size)]).alloc (.cells #[ptr b'] 72); have b2 := Ob.new (((W1.alloc (.map #[] 0)).alloc (.cells #[ptr b'] 72)).alloc (.cells #[.map (some W1.heap.size)] 452)) 72 #[ptr b']; simp only [World.size_alloc] at b0 b1 b2; have hs3 : ((((W1.alloc (.map #[] 0)).alloc (.cells #[ptr b'] 72)).alloc (.cells #[.map (some W1.heap.size)] 452)).alloc (.cells #[ptr b'] 72)).heap.size = W1.heap.size + 4 := by simp
 gi_wp2; generalize ((((W1.alloc (.map #[] 0)).alloc (.cells #[ptr b'] 72)).alloc (.cells #[.map (some W1.heap.size)] 452)).alloc (.cells #[ptr b'] 72)) = w3 at *; have hM := hst.same hB3; have HST := hdd hst; have HB3 := hdd hB3
 have HKL := hdd (show ∀ d ∈ Sk.keysS s, d.length ≤ maxLen from fun d hd => by
   obtain ⟨q, hq, rfl⟩ := List.mem_map.1 hd; exact (hst.ok q hq).key)
 have hkn : (Sk.keysS s).length ≤ 64 := hst.short; clear hB3 hst hmm
 refine Ro.range_reads (n := 6) rfl (by omega) (gf := 209) rfl trivial (enters_of Tryz.func209 (by kernel_rfl) rfl)
   (Sk.goods_reads 5 (by omega) (W1.heap.size + 1 + 1 + 1) (fun i => i = W1.heap.size) hM b2 (fun i hi => by omega)) (Below.refl _ _) (fun h k => h.trans k) (fun W l r r' _ h => KpX.loop h) rfl
   (fun pre V => Ob V (W1.heap.size + 1) 72 #[ptr b'] ∧ Ob V (W1.heap.size + 1 + 1) 452 #[.map (some W1.heap.size)] ∧ GMap strK V Tryz.prog 9 W1.heap.size (gm iV (frees s pre)) ∧ Below W1.heap.size W1 V ∧ w3.heap.size ≤ V.heap.size)
   (fun c pre V => False)
   (fun q A B row hs hg hr => ⟨ob_keep hs.1 hg (fun r e => (hr r e).2), ob_keep hs.2.1 hg (fun r e => (hr r e).2), hs.2.2.1.kept hg (fun e => by have := (hr _ e.symm).1; omega), hs.2.2.2.1.grown hg (by omega) (fun k e => by have := (hr k e).1; omega), by have := hg.size; omega⟩)
   (fun c s A B row hs hg hr => hs.elim)
   ⟨b0, b1, hG, HB3.out, Nat.le_refl _⟩ ?round ?done ?stop
 case stop => exact fun D c pre X _ _ h _ => h.elim
 case round =>
   rintro l pre d v V hl ⟨i0, i1, i2, i3, i4⟩ hpre rfl
   have hdm : d ∈ Sk.keysS s := by
     obtain ⟨q, hq⟩ := hpre; rw [← hq]; simp
   have hdl := HKL.out d hdm
   have hpl : pre.length < 64 := by
     obtain ⟨q, hq⟩ := hpre; have := congrArg List.length hq; simp only [List.length_append, List.length_cons, List.length_nil] at this; omega
   have hfl := frees_le s pre; have HSN := hdd (frees_snoc s pre d)
   have hkey := hdd (show keyOf Tryz.prog 9 (encStr d) = some (strK.lit d) from by
     have := key_str (s := ⟨d.toArray⟩) (by show d.toArray.size ≤ maxLen; simpa using hdl); simpa using this)
   clear hpre hdm; gi_wp2; refine ⟨keeps_below _ (Below.refl _ V), KpX.refl _ _, fun V2 hg2 ho2 => ?_⟩; replace i0 := ob_keep i0 hg2 (fun r e => by cases e; exact ho2); replace i1 := ob_keep i1 hg2 (fun r e => by cases e; exact ho2); replace i2 := i2.kept hg2 (fun e => by have := Option.some.inj e; omega); replace i3 := i3.grown hg2 (by omega) (fun k e => by have := Option.some.inj e; omega); replace i4 : w3.heap.size ≤ V2.heap.size := by have := hg2.size; omega
   clear hg2 ho2; have cL := Sk.level_calls (HST.out.same i3.drew) ⟨d.toArray⟩ (by show d.toArray.size ≤ maxLen; simpa using hdl); simp only [Sk.lvV] at cL; generalize (aGet s d).getD Sk.row0 = rr at *; generalize Sk.at_ rr 0 = q0 at *; generalize Sk.at_ rr 1 = q1 at *; generalize Sk.at_ rr 2 = q2 at *; generalize Sk.at_ rr 3 = q3 at *; have CL := hdd (show Calls Tryz.prog 24 #[ptr b', encStr d] V2.drew fun e w' => e = .returned (.agg #[vI q0, vI q1, vI q2, vI q3]) ∧ Below V2.drew.heap.size V2.drew w' from by simpa using cL); clear cL hdl hM b2 hG; gi_wp2; refine Pi.regionIn [(0, false), (1, false), (2, false), (3, false), (4, true), (5, true), (6, true)] (fun V => Ob V (W1.heap.size + 1) 72 #[ptr b'] ∧ Ob V (W1.heap.size + 1 + 1) 452 #[.map (some W1.heap.size)]) Se.hmx (by kernel_rfl) (by kernel_rfl) (by kernel_rfl) (by kernel_rfl) ⟨i0, i1⟩ rfl ?_; simp only [Pu.named, List.filterMap_cons, List.filterMap_nil, zzJ, zzK, zzL, zzM]
   iterate 4 (first
     | (refine Pu.WalkM.off (by rfl) ?_; simp only [Act.put, zzA, zzB, zzC])
     | (apply Pu.WalkM.on (by rfl)
        · intro V hV
          obtain ⟨k0, k1⟩ := hV; have z0 := k0.cell (j := 0) (v := ptr b') rfl; have z1 := k1.cell (j := 0) (v := .map (some W1.heap.size)) rfl; go_wp2_with fail; refine ⟨rfl, ?_, rfl⟩
          try simp only [Act.put, zzA, zzB, zzC]
          rfl
        simp only [Act.put, zzA, zzB, zzC]))
   have hD0 : Below V2.heap.size V2 V2.drew := (Below.refl _ V2).drew; have j0 : Ob V2.drew (W1.heap.size + 1) 72 #[ptr b'] := i0; have j1 : Ob V2.drew (W1.heap.size + 1 + 1) 452 #[.map (some W1.heap.size)] := i1; have j2 : GMap strK V2.drew Tryz.prog 9 W1.heap.size (gm iV (frees s pre)) := i2.below hD0 i2.lt; have hds : V2.drew.heap.size = V2.heap.size := rfl; have HV2 := hdd (i3.drew); clear i0 i1 i2 i3; generalize hWD : V2.drew = WD at *; clear hWD; refine Pu.WalkM.make (by rfl) ?_; intro V hV; rw [hV]; clear hV V; go_wp2_with (go_at_call 24; refine CL.out.mono ?_; rintro e W3 ⟨rfl, hb3⟩); have l0 := j0.same hb3; have l1 := j1.same hb3; have l2 := j2.below hb3 j2.lt; have hb24 := hdd (hD0.trans (hb3.mono (by omega))); have HB3' := hdd (HV2.out.trans (hb3.mono (by have := HV2.out.size; omega))); have hs3' := hb3.size; clear hb3 j0 j1 j2 hD0; refine Pu.mk3 (.agg #[vI q0, vI q1, vI q2, vI q3]) ⟨l0, l1⟩ ?_ ?_
   · try simp only [Act.put, zzA, zzB, zzC]
   try simp only [Act.put, zzA, zzB, zzC]
   refine Pu.WalkM.make (by rfl) ?_; intro V hV; rw [hV]; clear hV V; have hfd : ∀ W, (Instr.field 45 (.agg #[vI q0, vI q1, vI q2, vI q3]) 0).run Tryz.prog W = .ok (vI q0) W := fun _ => rfl
   go_wp2_with fail; refine Pu.mk3 (vI q0) ⟨l0, l1⟩ ?_ ?_
   · try simp only [Act.put, zzA, zzB, zzC]
   try simp only [Act.put, zzA, zzB, zzC]
   refine Pu.WalkM.make (by rfl) ?_; intro V hV; rw [hV]; clear hV V; have hml2 : (gm iV (frees s pre)).length < maxLen := by rw [gm_length]; unfold maxLen; omega
   obtain ⟨X3, hput, hgm3, hg3⟩ := l2.put keyedS Tryz.underlying452 hml2 (val := vI q0) hkey.out; go_wp2_with fail; refine ⟨rfl, undef, (fun _ => True), (fun V => V = X3), rfl, rfl, (fun _ _ => trivial), (.inl (by kernel_rfl)), Pu.WalkM.nil ?_⟩; intro V hV; rw [hV]; clear hV V; refine Pi.OnlyN.out ?_
   have hgm3' : GMap strK X3 Tryz.prog 9 W1.heap.size (gm iV (frees s (pre ++ [d]))) := by
     rw [HSN.out, ← gm_put]; exact hgm3
   have hz3 := hg3.size; have hb := hb24.out; refine ⟨(keeps_below w3.heap.size hb).trans ⟨hz3, fun i _ hi ho _ => (hg3.block i (Array.getElem?_eq_some_iff.1 ho).1 (fun e => by have := Option.some.inj e; omega)).trans ho⟩, (KpX_of hb).trans (KpX.of_grown hg3 (fun g e => (Option.some.inj e).symm)), l0.kept hg3 (fun e => by have := Option.some.inj e; omega), l1.kept hg3 (fun e => by have := Option.some.inj e; omega), hgm3', HB3'.out.grown hg3 (by omega) (fun k e => by have := Option.some.inj e; omega), by omega⟩
 case done =>
   rintro D xs V hl rfl ⟨i0, i1, i2, i3, i4⟩ hK; have z1 := i1.cell (j := 0) (v := .map (some W1.heap.size)) rfl; gi_wp2; refine ⟨by simp, .inl ⟨_, _, rfl, run_takeDeferred hK, ?_⟩⟩; have hBF : Below W1.heap.size W1 (V.putObj D (.deferred none)) := below_end i3 (by omega) hK; have hGF : GMap strK (V.putObj D (.deferred none)) Tryz.prog 9 W1.heap.size (gm iV (frees s (Sk.keysS s))) := i2.kept (grownBy_putObj' V D (.deferred none)) (fun e => by have := Option.some.inj e; omega); refine ⟨.map (some W1.heap.size), ?_, _, rfl, HR.out.born hBF (A := fun i => i = W1.heap.size) ⟨hGF, fun i => Iff.rfl⟩ fun i hi => by omega⟩; simp [results, Tryz.f315, go_sem]
end
section
open Go.RowKit Go.Maps
open Ce It Al Kp
theorem one_range {w : World} {b : Nat} {k0 : List UInt8} {v0 : Value} (h : GMap strK w Tryz.prog 9 b [(k0, v0)]) (ty : TypeId) :
   ∃ w1 w2 s, (Instr.range 452 (.map (some b))).run Tryz.prog w = .ok (ptr w.heap.size) w1 ∧ (Instr.next (ptr w.heap.size) false ty).run Tryz.prog w1 = .ok (.tuple #[.bool true, .string s, v0]) w2 ∧
     (Instr.entry (ptr w.heap.size)).run Tryz.prog w2 = .ok (.tuple #[.string s, v0]) w2 ∧ (Instr.next (ptr w.heap.size) false ty).run Tryz.prog w2 = .ok (.tuple #[.bool false]) w2 ∧ Below w.heap.size w w2 ∧ keyOf Tryz.prog 9 (.string s) = some (strK.lit s.data.toList) := by
 obtain ⟨w1, hr, hrg, hg1, hs1⟩ := World.ownsMap.range h keyedS Tryz.underlying452; have hsz : Maps.size (DataW.map (mEs strK [(k0, v0)])) = 1 := by simp [Maps.size, mEs]
 rw [hsz] at hrg; rcases World.ranges.next hrg keyedS ty with ⟨h0, _⟩ | ⟨key, v, kl, y, w2, cnt', hkey, hleft, hy, hat, hrun, hrg2, hlt, hg2, hs2, hen⟩
 · omega
 obtain rfl : cnt' = 0 := by omega
 rcases World.ranges.next hrg2 keyedS ty with ⟨_, _, hrun2⟩ | ⟨_, _, _, _, _, _, _, _, _, _, _, _, hlt2, _⟩
 case inr => omega
 obtain ⟨s, rfl⟩ := Maps.keyOf_string_inv Tryz.underlying9 hkey
 have hkl : kl = strK.lit s.data.toList := by
   have hss : s.size ≤ maxLen := by
     apply Classical.byContradiction; intro hn; simp [keyOf_string Tryz.underlying9, mapKey, hn] at hkey
   have := Go.WideMaps.keyOf_string_mk (P := Tryz.prog) Tryz.underlying9 hss; rw [this] at hkey; exact (Option.some.inj hkey).symm
 subst hkl
 have hv : v = v0 := by
   have h1 := hat (.held undef); change (DataW.map (mEs strK [(k0, v0)])).atKey (strK.lit s.data.toList) (.held undef) = y.1 at h1; rw [mEs_get] at h1; change Maps.has (DataW.map (mEs strK [(k0, v0)])) (strK.lit s.data.toList) = true at hleft; rw [mEs_has] at hleft; obtain ⟨x, hx⟩ := Option.isSome_iff_exists.1 hleft
   have hx0 : x = v0 := by
     unfold mGet at hx; simp only [List.find?_cons, List.find?_nil] at hx
     split at hx <;> simp_all
   rw [hx] at h1; simp only [hold, Option.some.injEq] at hy; rw [← hy, hx0] at h1; simpa using h1.symm
 subst hv; exact ⟨w1, w2, s, hr, hrun, hen, hrun2, ((Below.refl w.heap.size w).grown hg1 (Nat.le_refl _) (fun k e => by cases e)).grown hg2 (by omega) (fun k e => by cases e; omega), hkey⟩
theorem post_info : (Tryz.prog.info? 306).map (fun i => (i.zero, i.size, i.bytes)) = some (some (.agg #[vO, vO, vO, vN, vO, vO, vO, vO, vO, vO, vO, vE, vN, vO, vO, vO, vO]), 17, 176) := by kernel_rfl
theorem rnews_calls {rg mb0 : Nat} {me n : Int} {k : Sk.Key} {s : Sk.Stk} {r : List As} {w : World} (h : St (RegA rg me s :: MapA strK 9 mb0 [] :: r) w) (hs : gm iV (frees s (Sk.keysS s)) = [(k, iV n)]) (hn : 0 < n) :
   Calls Tryz.prog 318 #[ptr rg, .map (some mb0)] w fun e w' => ∃ v, e = .returned v ∧ St (RowA 306 17 v 2 (postN 0 ++ postN 1) :: RegA rg me s :: r) w' := by
 have cF := hdd (free_calls h); have hzi : ∀ W, (zeroValue 3).run Tryz.prog W = .ok vO W := fun _ => rfl
 clear h
 go_enter Tryz.func318, Tryz.ntmps318
 go_wp2_with fail; refine (cF.out).mono ?_; rintro e W ⟨mb, rfl, s1⟩; rw [hs] at s1; obtain ⟨w1, w2, ks, hr1, hr2, hr3, hr4, hb, hkey⟩ := one_range (s1.gmap 0 rfl) 0; have hlk := ((s1.same hb).gmap 2 rfl).look keyedS Tryz.underlying452 (hzi w2) hkey; simp only [mGet, List.find?_nil, Option.map_none, Option.getD_none] at hlk; have hd : decide (n > 0) = true := by simpa using hn
 have s2 := s1.same hb; have HS := hdd s2
 have g1 : w2.cell? ⟨rg, 1, none⟩ = some (vI 2) := by
   obtain ⟨sh, mv, st, hm, s9⟩ := RegA.out s2.drop; exact (s9.ob (b := rg) 0 rfl).k 1 rfl
 clear s1 s2 hb hkey hzi hs cF; go_wp2; refine wp_loop_rounds 2 ?_; rw [rounds_succ]; go_wp2; rw [rounds_succ]; go_wp2; clear hr1 hr2 hr3 hr4 hlk; refine wp_loop_rounds 3 ?_; rw [rounds_succ]; have s3 := HS.out.drop.rowNil 306 17; have sL0 := (s3).alloc (.cells #[vO, vI 14, vO, vN, vO, vO, vO, vO, vO, vO, vO, vE, vN, vO, vO, vO, vO] 306); have slL := Sl.new (w2) #[vO, vI 14, vO, vN, vO, vO, vO, vO, vO, vO, vO, vE, vN, vO, vO, vO, vO] 306 (n := 1) (size := 17) rfl (by unfold maxLen; omega); obtain ⟨iL, hiL, hzL0, hzL1, hzL2⟩ := inf3 post_info; go_wp2_with (first | (at_builtin; refine wpList_append_sl _ rfl (.tmp 34) (.tmp 38) _ rfl 0 306 iL _ 17 176 Tryz.underlying143 hiL hzL0 hzL1 hzL2 rfl (by omega) vN 0 [] rfl (sL0.own 0 rfl) _ _ _ 1 [vO, vI 14, vO, vN, vO, vO, vO, vO, vO, vO, vO, vE, vN, vO, vO, vO, vO] rfl slL (by simp [Value.oneCell']) (by unfold maxLen; omega) (by omega) (by simp) ?_; intro v9 W9 hv9 hg9 hat9; simp only [Nat.zero_add, List.nil_append] at hv9; obtain ⟨A9, c9, hv9e, -⟩ := (Sl.of_own hv9).at_; subst hv9e; have sL1 := (sL0.front 0 rfl).row hv9 hg9 hat9; clear hg9 hat9 hv9 slL sL0)); rw [rounds_succ]; have sL0b := (sL1).alloc (.cells #[vI 1, vI 14, vO, vN, vO, vO, vO, vO, vO, vO, vO, vE, vN, vO, vO, vO, vO] 306); have slLb := Sl.new (W9) #[vI 1, vI 14, vO, vN, vO, vO, vO, vO, vO, vO, vO, vE, vN, vO, vO, vO, vO] 306 (n := 1) (size := 17) rfl (by unfold maxLen; omega); obtain ⟨iLb, hiLb, hzL0b, hzL1b, hzL2b⟩ := inf3 post_info; go_wp2_with (first | (at_builtin; refine wpList_append_sl _ rfl (.tmp 34) (.tmp 38) _ rfl 0 306 iLb _ 17 176 Tryz.underlying143 hiLb hzL0b hzL1b hzL2b rfl (by omega) (.slice A9 1 c9) 1 (postN 0) rfl (sL0b.own 0 rfl) _ _ _ 1 [vI 1, vI 14, vO, vN, vO, vO, vO, vO, vO, vO, vO, vE, vN, vO, vO, vO, vO] rfl slLb (by simp [Value.oneCell']) (by unfold maxLen; omega) (by omega) (by simp) ?_; intro v9b W9b hv9b hg9b hat9b; obtain ⟨A9b, c9b, hv9eb, -⟩ := (Sl.of_own hv9b).at_; subst hv9eb; have sL1b := (sL0b.front 0 rfl).row hv9b hg9b hat9b; clear hg9b hat9b hv9b slLb sL0b))
 rw [rounds_succ]; have s9 := ((sL1b).take [2, 0, 0]); simp only [takeOut, zzD, zzE, zzF, zzG, zzH, zzI] at s9; replace s9 := s9.drop; go_wp2; go_ret; exact ⟨_, rfl, s9⟩
end
end Tp
end Go.Proofs.YtgcnhmjpfbbfcaaGreat
