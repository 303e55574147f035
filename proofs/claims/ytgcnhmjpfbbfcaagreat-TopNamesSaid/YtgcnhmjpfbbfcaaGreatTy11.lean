/-
  part of the proof of TopNames.
-/
import Derived.Test.YtgcnhmjpfbbfcaaGreatTy10
set_option linter.unusedVariables false
set_option linter.unusedSimpArgs false
set_option maxRecDepth 100000
set_option maxHeartbeats 8000000
namespace Go.Proofs.YtgcnhmjpfbbfcaaGreat
namespace Sk
section
open Go.RowKit Go.Maps
open It Al Kp
attribute [local go_sem] Oper.semAt_some
def goStep (k : Int) (o : Option Stk) (x : It.Item) : Option Stk := o.bind fun s => let q := stepR k ((aGet s (key x)).getD row0) x.2; if rightR q = true then some (aPut strK s (key x) q) else none
def doGo (k : Int) (s : Stk) (l : List It.Item) : Option Stk := l.foldl (goStep k) (some s)
def doS (s : Stk) (k : Int) (l : List It.Item) : Stk × Int :=
 if k < 1 ∨ 11 < k then (s, 1) else if It.may l = false then (s, 60) else if mayS s k l ≠ 0 then (s, mayS s k l) else match doGo k s l with
   | none => (s, 50)
   | some s' => if 64 < s'.length then (s, 2) else (s', 0)
theorem doGo_snoc (k : Int) (s : Stk) (l : List It.Item) (x : It.Item) : doGo k s (l ++ [x]) = goStep k (doGo k s l) x := by
 unfold doGo; rw [List.foldl_append]
 rfl
theorem doGo_none (k : Int) : ∀ l : List It.Item, l.foldl (goStep k) none = none
 | [] => rfl
 | _ :: r => doGo_none k r
theorem doGo_prefix {k : Int} {s : Stk} {p l : List It.Item} (h : p <+: l) (hp : doGo k s p = none) : doGo k s l = none := by
 obtain ⟨r, rfl⟩ := h; unfold doGo at hp ⊢; rw [List.foldl_append, hp]; exact doGo_none k r
def DoKept (b : Nat) (w w' : World) : Prop := Kept (fun i => i < w.heap.size ∧ i ≠ b) w w'
theorem DoKept.of_below {b : Nat} {w w' : World} (h : Below w.heap.size w w') : DoKept b w w' := Kept.of_below h fun _ hi => hi.1
theorem clone_calls (mb : Nat) (m : List (Key × Value)) (w : World) (h : GMap strK w Tryz.prog 9 mb m) :
   Calls Tryz.prog 145 #[.map (some mb)] w fun e w' => e = .returned (.map (some w.heap.size)) ∧ GMap strK w' Tryz.prog 9 w.heap.size m ∧ w.heap.size < w'.heap.size ∧ Below w.heap.size w w' := by
 have hcon := AnyW.maps_Clone_owns Tryz.clone145 9 hold mb m.length _ w h; refine hcon.mono ?_; rintro e w' ⟨rfl, h1, -, hb⟩; exact ⟨rfl, h1, World.ownsMap.lt h1, hb⟩
theorem StkAt.out {w w' : World} {base b mb : Nat} {s : Stk} (h : StkAt w base b mb s) (hb : Below w.heap.size w w') : (∃ mb', StkAt w' base b mb' s ∧ (mb' = mb ∨ w.heap.size ≤ mb')) ∧ DoKept b w w' := ⟨⟨mb, h.same hb, .inl rfl⟩, DoKept.of_below hb⟩
section
variable {w : World} {base b mb : Nat} {s : Stk}
theorem do_arg (h : StkAt w base b mb s) (k : Int) (v : Value) (hk : k < 1 ∨ 11 < k) :
   Calls Tryz.prog 385 #[.pointer (some ⟨b, 0, none⟩), vI k, v] w fun e w' => e = .returned (vI 1) ∧ Below w.heap.size w w' := by
 refine (callsIn_wide (n := 6)).1 ?_; refine callsIn_of_wp_marks Tryz.func385 rfl trivial ?_ rfl; simp only [Tryz.ntmps385, List.size_toArray, List.length_cons, List.length_nil, Nat.reduceAdd, Nat.reduceSub, Array.replicate_succ, Array.replicate_zero, List.push_toArray, List.append_toArray, List.nil_append, List.cons_append]; gi_wp2; have o0 := (Ob.new w 3 #[vI k]).alloc (.cells #[vO] 33); have o1 := Ob.new (w.alloc (.cells #[vI k] 3)) 33 #[vO]; have hB2 : Below w.heap.size w ((w.alloc (.cells #[vI k] 3)).alloc (.cells #[vO] 33)) := ((Below.refl _ w).alloc (Nat.le_refl _) _).alloc (by simp) _; simp only [World.size_alloc] at o1; have hs2 : w.heap.size + 2 = ((w.alloc (.cells #[vI k] 3)).alloc (.cells #[vO] 33)).heap.size := by simp
 generalize ((w.alloc (.cells #[vI k] 3)).alloc (.cells #[vO] 33)) = w2 at *; have h2 := h.same hB2; refine ⟨trivial, (callsIn_wide.2 (made_calls b mb w2 (h2.ob.k 0 rfl))).mono ?_⟩; rintro e W' ⟨rfl, rfl⟩
 have hcs : decide (k < 1) = true ∨ (decide (k < 1) = false ∧ decide (k > 11) = true) := by
   by_cases h : k < 1
   · exact .inl (by simpa using h)
   · exact .inr ⟨by simpa using h, by simp; omega⟩
 have c0 := o0.cell (j := 0) (v := vI k) rfl; have c1 := o1.cell (j := 0) (v := vO) rfl; have f1 := o1.frozen 0; have p1 := o1.set 0 (vI 1); have hBB := hB2.grown (grownBy_set w2 (w.heap.size + 1) 0 (vI 1)) (by have := hB2.size; omega) (fun k e => by cases e; omega); have C2 := (show Ob (w2.setCell ⟨w.heap.size + 1, 0, none⟩ (vI 1)) (w.heap.size + 1) 33 #[vI 1] from p1).cell (j := 0) (v := vI 1) rfl; have HC2 := hdd C2; clear C2 hk; rcases hcs with q1 | ⟨q1, q2⟩
 · gi_wp2
   refine ⟨vI 1, ?_, rfl, hBB⟩; clear c0 c1 f1; simp [results, Tryz.f385, go_sem, HC2.out]
 · gi_wp2
   refine ⟨vI 1, ?_, rfl, hBB⟩; clear c0 c1 f1; simp [results, Tryz.f385, go_sem, HC2.out]
theorem do_items (h : StkAt w base b mb s) (k : Int) (L : List It.Item) (v : Value) (hI : ItemsAt w 0 w.heap.size v L) (hF : Fits L) (hk : ¬ (k < 1 ∨ 11 < k)) (hm : It.may L = false) :
   Calls Tryz.prog 385 #[.pointer (some ⟨b, 0, none⟩), vI k, v] w fun e w' => e = .returned (vI 60) ∧ Below w.heap.size w w' := by
 refine (callsIn_wide (n := 6)).1 ?_; refine callsIn_of_wp_marks Tryz.func385 rfl trivial ?_ rfl; simp only [Tryz.ntmps385, List.size_toArray, List.length_cons, List.length_nil, Nat.reduceAdd, Nat.reduceSub, Array.replicate_succ, Array.replicate_zero, List.push_toArray, List.append_toArray, List.nil_append, List.cons_append]; gi_wp2; have o0 := (Ob.new w 3 #[vI k]).alloc (.cells #[vO] 33); have o1 := Ob.new (w.alloc (.cells #[vI k] 3)) 33 #[vO]; have hB2 : Below w.heap.size w ((w.alloc (.cells #[vI k] 3)).alloc (.cells #[vO] 33)) := ((Below.refl _ w).alloc (Nat.le_refl _) _).alloc (by simp) _; simp only [World.size_alloc] at o1; have hs2 : w.heap.size + 2 = ((w.alloc (.cells #[vI k] 3)).alloc (.cells #[vO] 33)).heap.size := by simp
 generalize ((w.alloc (.cells #[vI k] 3)).alloc (.cells #[vO] 33)) = w2 at *; have h2 := h.same hB2; refine ⟨trivial, (callsIn_wide.2 (made_calls b mb w2 (h2.ob.k 0 rfl))).mono ?_⟩; rintro e W' ⟨rfl, rfl⟩; have q1 : decide (k < 1) = false := by simp; omega
 have q2 : decide (k > 11) = false := by simp; omega
 have c0 := o0.cell (j := 0) (v := vI k) rfl; have cM := It.may_calls L v w2 (hI.mono hB2 hB2.size) hF; rw [hm] at cM; clear hk; gi_wp2; refine ⟨trivial, (callsIn_wide.2 cM).mono ?_⟩; rintro e w3 ⟨rfl, hb3⟩; have o3 := o1.same hb3; have hB3 := hB2.trans (hb3.mono hB2.size); clear c0 o0 o1 hb3 cM h2 hB2; have c1 := o3.cell (j := 0) (v := vO) rfl; have f1 := o3.frozen 0; have p1 := o3.set 0 (vI 60); have hBB := hB3.grown (grownBy_set w3 (w.heap.size + 1) 0 (vI 60)) (by have := hB3.size; omega) (fun k e => by cases e; omega); have C2 := (show Ob (w3.setCell ⟨w.heap.size + 1, 0, none⟩ (vI 60)) (w.heap.size + 1) 33 #[vI 60] from p1).cell (j := 0) (v := vI 60) rfl; have HC2 := hdd C2; clear C2; gi_wp2; refine ⟨vI 60, ?_, rfl, hBB⟩; clear c1 f1; simp [results, Tryz.f385, go_sem, HC2.out]
theorem do_may (h : StkAt w base b mb s) (k : Int) (L : List It.Item) (v : Value) (hI : ItemsAt w 0 w.heap.size v L) (hF : Fits L) (hk : ¬ (k < 1 ∨ 11 < k)) (hm : It.may L = true) (hc : mayS s k L ≠ 0) :
   Calls Tryz.prog 385 #[.pointer (some ⟨b, 0, none⟩), vI k, v] w fun e w' => e = .returned (vI (mayS s k L)) ∧ Below w.heap.size w w' := by
 refine (callsIn_wide (n := 6)).1 ?_; refine callsIn_of_wp_marks Tryz.func385 rfl trivial ?_ rfl; simp only [Tryz.ntmps385, List.size_toArray, List.length_cons, List.length_nil, Nat.reduceAdd, Nat.reduceSub, Array.replicate_succ, Array.replicate_zero, List.push_toArray, List.append_toArray, List.nil_append, List.cons_append]; gi_wp2; have o0 := (Ob.new w 3 #[vI k]).alloc (.cells #[vO] 33); have o1 := Ob.new (w.alloc (.cells #[vI k] 3)) 33 #[vO]; have hB2 : Below w.heap.size w ((w.alloc (.cells #[vI k] 3)).alloc (.cells #[vO] 33)) := ((Below.refl _ w).alloc (Nat.le_refl _) _).alloc (by simp) _; simp only [World.size_alloc] at o1; have hs2 : w.heap.size + 2 = ((w.alloc (.cells #[vI k] 3)).alloc (.cells #[vO] 33)).heap.size := by simp
 generalize ((w.alloc (.cells #[vI k] 3)).alloc (.cells #[vO] 33)) = w2 at *; have h2 := h.same hB2; refine ⟨trivial, (callsIn_wide.2 (made_calls b mb w2 (h2.ob.k 0 rfl))).mono ?_⟩; rintro e W' ⟨rfl, rfl⟩; have q1 : decide (k < 1) = false := by simp; omega
 have q2 : decide (k > 11) = false := by simp; omega
 have c0 := o0.cell (j := 0) (v := vI k) rfl; have cM := It.may_calls L v w2 (hI.mono hB2 hB2.size) hF; rw [hm] at cM; clear hk; gi_wp2; refine ⟨trivial, (callsIn_wide.2 cM).mono ?_⟩; rintro e w3 ⟨rfl, hb3⟩; have o3 := o1.same hb3; have hB3 := hB2.trans (hb3.mono hB2.size); have c0' := (o0.same hb3).cell (j := 0) (v := vI k) rfl; have cY := may_calls (h.same hB3) k L v (hI.mono hB3 hB3.size) hF; obtain ⟨M, hM⟩ : ∃ M, M = mayS s k L := ⟨_, rfl⟩; rw [← hM] at cY hc; have HM := hdd hM; have hd : (M != 0) = true := by rw [bne_iff_ne]; exact hc
 clear c0 o1 hb3 cM h2 hB2 hM; gi_wp2; refine ⟨trivial, (callsIn_wide.2 cY).mono ?_⟩; rintro e w4 ⟨rfl, hb4⟩; have o4 := o3.same hb4; have hB4 := hB3.trans (hb4.mono hB3.size); clear c0' o3 hb4 cY hB3; have c1 := o4.cell (j := 0) (v := vO) rfl; have f1 := o4.frozen 0; have p1 := o4.set 0 (vI M); have hBB := hB4.grown (grownBy_set w4 (w.heap.size + 1) 0 (vI M)) (by have := hB4.size; omega) (fun k e => by cases e; omega); have C2 := (show Ob (w4.setCell ⟨w.heap.size + 1, 0, none⟩ (vI M)) (w.heap.size + 1) 33 #[vI M] from p1).cell (j := 0) (v := vI M) rfl; have HC2 := hdd C2; clear C2; gi_wp2; refine ⟨vI M, ?_, by rw [HM.out], hBB⟩; clear c1 f1; simp [results, Tryz.f385, go_sem, HC2.out]
def goS (s : Stk) (k : Int) (l : List It.Item) : Stk × Int := match doGo k s l with
   | none => (s, 50)
   | some s' => if 64 < s'.length then (s, 2) else (s', 0)
theorem OkRow.put {s : Stk} (h : ∀ p ∈ s, OkP p) {g : Key} {r : Row} (hr : OkRow r) (hg : g.length ≤ maxLen) : ∀ p ∈ aPut strK s g r, OkP p := fun p hp => by
 rcases aPut_mem.1 hp with rfl | ⟨h1, -⟩
 · exact ⟨hr, hg⟩
 · exact h p h1
theorem get_row {s : Stk} (h : ∀ p ∈ s, OkP p) (g : Key) : OkRow ((aGet s g).getD row0) := by
 cases hg : aGet s g with
 | none => exact OkRow.zero
 | some r => exact (h _ (aGet_mem hg)).row
theorem do_go (h : StkAt w base b mb s) (k : Int) (L : List It.Item) (v : Value) (hI : ItemsAt w 0 w.heap.size v L) (hF : Fits L) (hk : ¬ (k < 1 ∨ 11 < k)) (hm : It.may L = true) (hc : mayS s k L = 0) :
   Calls Tryz.prog 385 #[.pointer (some ⟨b, 0, none⟩), vI k, v] w fun e w' => e = .returned (vI (goS s k L).2) ∧ (∃ mb', StkAt w' base b mb' (goS s k L).1 ∧ (mb' = mb ∨ w.heap.size ≤ mb')) ∧ DoKept b w w' := by
 obtain ⟨A, c, rfl, hcl1, hcl2⟩ := hI.form; unfold maxLen at hcl2; have hML := (It.may_iff L).1 hm; have hMok := hdd hML.ok; have hMlen := hML.len; clear hML; refine (callsIn_wide (n := 6)).1 ?_; refine callsIn_of_wp_marks Tryz.func385 rfl trivial ?_ rfl; simp only [Tryz.ntmps385, List.size_toArray, List.length_cons, List.length_nil, Nat.reduceAdd, Nat.reduceSub, Array.replicate_succ, Array.replicate_zero, List.push_toArray, List.append_toArray, List.nil_append, List.cons_append]; gi_wp2; have o0 := (Ob.new w 3 #[vI k]).alloc (.cells #[vO] 33); have o1 := Ob.new (w.alloc (.cells #[vI k] 3)) 33 #[vO]; have hB2 : Below w.heap.size w ((w.alloc (.cells #[vI k] 3)).alloc (.cells #[vO] 33)) := ((Below.refl _ w).alloc (Nat.le_refl _) _).alloc (by simp) _; simp only [World.size_alloc] at o1; have hs2 : w.heap.size + 2 = ((w.alloc (.cells #[vI k] 3)).alloc (.cells #[vO] 33)).heap.size := by simp
 generalize ((w.alloc (.cells #[vI k] 3)).alloc (.cells #[vO] 33)) = w2 at *; have h2 := h.same hB2; refine ⟨trivial, (callsIn_wide.2 (made_calls b mb w2 (h2.ob.k 0 rfl))).mono ?_⟩; rintro e W' ⟨rfl, rfl⟩; have q1 : decide (k < 1) = false := by simp; omega
 have q2 : decide (k > 11) = false := by simp; omega
 have c0 := o0.cell (j := 0) (v := vI k) rfl; have cM := It.may_calls L _ w2 (hI.mono hB2 hB2.size) hF; rw [hm] at cM; clear hk; gi_wp2; refine ⟨trivial, (callsIn_wide.2 cM).mono ?_⟩; rintro e w3 ⟨rfl, hb3⟩; have o3 := o1.same hb3; have o03 := o0.same hb3; have hB3 := hB2.trans (hb3.mono hB2.size); have c0' := o03.cell (j := 0) (v := vI k) rfl; have cY := may_calls (h.same hB3) k L _ (hI.mono hB3 hB3.size) hF; rw [hc] at cY; clear c0 o1 o0 hb3 cM h2 hB2 hc hm; gi_wp2; refine ⟨trivial, (callsIn_wide.2 cY).mono ?_⟩; rintro e w4 ⟨rfl, hb4⟩; have o4 := o3.same hb4; have o04 := o03.same hb4; have hB4 := hB3.trans (hb4.mono hB3.size); clear c0' o3 o03 hb4 cY hB3; have h4 := h.same hB4; have z4 := h4.ob.cell (j := 0) (v := .map (some mb)) rfl; gi_wp2; refine ⟨trivial, (callsIn_wide.2 (clone_calls mb _ w4 h4.map)).mono ?_⟩; rintro e w5 ⟨rfl, hg5, hlt5, hb5⟩; have o5 := o4.same hb5; have o05 := o04.same hb5; have hB5 := hB4.trans (hb5.mono hB4.size); have hs45 : w.heap.size ≤ w4.heap.size := hB4.size; have hs4' : w.heap.size + 1 < w4.heap.size := o4.lt; clear o4 o04 hb5 hB4 h4 z4; generalize w4.heap.size = mb2 at *
 gi_wp2_with (refine ⟨trivial, ?_⟩; gi_at_call 144; refine (callsIn_wide.2 (all_calls A _ c _)).mono ?_; rintro e w' ⟨rfl, rfl⟩)
 have a6 := hB5.alloc hB5.size (.cells #[.map (some mb2)] 133); have o6 := (o5.alloc (.cells #[.map (some mb2)] 133)).alloc (.cells #[.slice A L.length c] 30); have o06 := (o05.alloc (.cells #[.map (some mb2)] 133)).alloc (.cells #[.slice A L.length c] 30); have v6 := (Ob.new w5 133 #[.map (some mb2)]).alloc (.cells #[.slice A L.length c] 30); have s6 := Ob.new (w5.alloc (.cells #[.map (some mb2)] 133)) 30 #[.slice A L.length c]; have g6 := (hg5.kept (World.grownBy_alloc w5 (.cells #[.map (some mb2)] 133) none) (by simp)).kept (World.grownBy_alloc (w5.alloc (.cells #[.map (some mb2)] 133)) (.cells #[.slice A L.length c] 30) none) (by simp); have hB6 := a6.alloc a6.size (.cells #[.slice A L.length c] 30); have hsz6 : ((w5.alloc (.cells #[.map (some mb2)] 133)).alloc (.cells #[.slice A L.length c] 30)).heap.size = w5.heap.size + 2 := by simp
 simp only [World.size_alloc] at s6; clear o5 o05 hg5 a6; generalize (w5.alloc (.cells #[.map (some mb2)] 133)).alloc (.cells #[.slice A L.length c] 30) = w6 at *; generalize w5.heap.size = vb at *; have HB6 := hdd hB6; have HH := hdd h; clear hB6 h hB5; have HL64 := hdd HH.out.len; have HOKS := hdd HH.out.ok
 apply (range_all (n := 6) rfl trivial (by omega) (Bs := vb + 1) (n₀ := w.heap.size) (v := .slice A L.length c) (L := L) rfl rfl (by omega) (by omega) (s6.k 0 rfl) (hI.below HB6.out)
   (fun pre W => Ob W w.heap.size 3 #[vI k] ∧ Ob W (w.heap.size + 1) 33 #[vO] ∧ Ob W vb 133 #[.map (some mb2)] ∧ ∃ s', doGo k s (vals pre) = some s' ∧ GMap strK W Tryz.prog 9 mb2 (gm rowV s') ∧ (∀ p ∈ s', OkP p) ∧ s'.length ≤ s.length + pre.length)
   (fun c pre W => c = .ret ∧ doGo k s (vals pre) = none ∧ Ob W (w.heap.size + 1) 33 #[vI 50])
   (fun s A B row hs hg hr => ⟨ob_keep hs.1 hg (fun r e => (hr r e).2), ob_keep hs.2.1 hg (fun r e => (hr r e).2), ob_keep hs.2.2.1 hg (fun r e => (hr r e).2), by
     obtain ⟨s', h1, h2, h3⟩ := hs.2.2.2; exact ⟨s', h1, h2.kept hg (fun e => by have := (hr _ e.symm).1; omega), h3⟩⟩)
   (fun c s A B row hs hg hr => ⟨hs.1, hs.2.1, ob_keep hs.2.2 hg (fun r e => (hr r e).2)⟩)
   ⟨o06, o6, v6, s, rfl, g6, HOKS.out, by simp⟩)
 case hassign =>
   intro l x W K hK; dsimp only [enc2]; gi_wp2; exact hK
 case hbody =>
   rintro l pre ⟨⟨xs, xn⟩, hx⟩ W ⟨p0, p1, pv, s', hgo, hgm, hok, hsl⟩ hB hsz hlen; have hfit := hF _ hx; have hMx := hMok.out _ hx; have hkey := hdd (key_str hfit.1); have hro := hdd (get_row hok (key (xs, xn))); obtain ⟨hl1, -⟩ := look_row s' (key (xs, xn)); have hS := hdd (show doGo k s (vals (pre ++ [⟨(xs, xn), hx⟩])) = if rightR (stepR k ((aGet s' (key (xs, xn))).getD row0) xn) = true then some (aPut strK s' (key (xs, xn)) (stepR k ((aGet s' (key (xs, xn))).getD row0) xn)) else none by rw [vals_snoc, doGo_snoc, hgo]; rfl); have hxn1 : 1 ≤ xn := hMx.2.1; have HKL := hdd (show (key (xs, xn)).length ≤ maxLen from by have := hfit.1; unfold key; simpa using this); have hxn2 : xn ≤ 1099511627776 := hMx.2.2; have HOK := hdd hok; have hpl : (pre ++ [(⟨(xs, xn), hx⟩ : Of L)]).length = pre.length + 1 := by simp
   have HPL := hdd hpl; clear hgo hMx hfit hok hpl; generalize (aGet s' (key (xs, xn))).getD row0 = r at *; have HL1 := hdd hl1; clear hl1; have y0 := p0.cell (j := 0) (v := vI k) rfl; have yv := pv.cell (j := 0) (v := .map (some mb2)) rfl; have hsl6 := hB.size; have oN := Ob.new W 132 #[vO, vO, vO, vO, vO, vO, vO, vO, vO, vO, vO]; have HNB := hdd (fun (W3 : World) (hg3 : (W.alloc (.cells #[vO, vO, vO, vO, vO, vO, vO, vO, vO, vO, vO] 132)).grownBy W3 (some W.heap.size)) => (((Below.refl W.heap.size W).alloc (Nat.le_refl _) _).grown hg3 (by simp) (fun k e => by cases e; exact Nat.le_refl _) : Below W.heap.size W W3)); have hp1 := p1.lt; have hpv := pv.lt; have hlm := hgm.lt; dsimp only at hkey ⊢
   gi_wp2_with (first
     | (gi_at_lookup; refine wpListIn_look_g rfl (.tmp 46) (.tmp 47) _ rfl 9 _ keyedS Tryz.underlying133 rfl hgm (zeroRow _) _ _ rfl hkey.out _ HL1.out ?_)
     | (refine wpListIn_store_ob rfl 132 (.tmp 11) (.tmp 48) rfl rfl rfl oN (by rw [rowC_size hro.out]; rfl) (row_size hro.out) (rowC_one r) ?_; intro W3 hO3 hg3; have hb3 := HNB.out _ hg3; have y3 := (p0.same hb3).cell (j := 0) (v := vI k) rfl))
   refine ⟨trivial, (CallsIn.inRound l (callsIn_wide.2 (road_calls k W.heap.size W3))).mono ?_⟩; rintro e W4 ⟨rfl, h4⟩; have hb4 := hb3.trans (h4.mono hb3.size); have hO4 := hO3.same h4; clear y0 yv y3 hb3 hg3 h4 hO3 oN HNB; have hlt := road_lt k; have HST := hdd (show addR (addR (addR r (road k).1 (-xn)) (road k).2.1 xn) (road k).2.2 xn = stepR k r xn from rfl); generalize (road k).1 = j1 at *; generalize (road k).2.1 = j2 at *; generalize (road k).2.2 = j3 at *; obtain ⟨d1, d2, d3⟩ := hlt; have hneg : wrap64 (-xn) = -xn := by unfold wrap64; omega
   have HNEG := hdd hneg; clear hneg; have cA1 := fun V (hV : Ob V W.heap.size 132 (rowC r)) => add_calls W.heap.size j1 (-xn) hro.out d1 hV
   have hr1 := hdd (hro.out.add j1 (-xn)); have cA2 := fun V (hV : Ob V W.heap.size 132 (rowC (addR r j1 (-xn)))) => add_calls W.heap.size j2 xn hr1.out d2 hV
   have hr2 := hdd (hr1.out.add j2 xn); have cA3 := fun V (hV : Ob V W.heap.size 132 (rowC (addR (addR r j1 (-xn)) j2 xn))) => add_calls W.heap.size j3 xn hr2.out d3 hV
   have hr3 := hdd (hr2.out.add j3 xn); generalize ptr W.heap.size j1 = v1 at *; generalize ptr W.heap.size j2 = v2 at *; generalize ptr W.heap.size j3 = v3 at *; have C1 := hdd cA1; have C2 := hdd cA2; have C3 := hdd cA3; clear cA1 cA2 cA3 d1 d2 d3; gi_wp2; refine ⟨trivial, (CallsIn.inRound l (callsIn_wide.2 (C1.out _ hO4))).mono ?_⟩; rintro e W5 ⟨rfl, hO5, hg5⟩; have hb5 := hb4.grown hg5 hb4.size (fun k e => by cases e; exact Nat.le_refl _); clear hg5 hO4 hb4; gi_wp2; refine ⟨trivial, (CallsIn.inRound l (callsIn_wide.2 (C2.out _ hO5))).mono ?_⟩; rintro e W6 ⟨rfl, hO6, hg6⟩; have hb6 := hb5.grown hg6 hb5.size (fun k e => by cases e; exact Nat.le_refl _); clear hg6 hO5 hb5; gi_wp2; refine ⟨trivial, (CallsIn.inRound l (callsIn_wide.2 (C3.out _ hO6))).mono ?_⟩; rintro e W7 ⟨rfl, hO7, hg7⟩; have hb7 := hb6.grown hg7 hb6.size (fun k e => by cases e; exact Nat.le_refl _); clear hg7 hO6 hb6; have hrq := hr3.out; rw [HST.out] at hO7 hrq; generalize stepR k r xn = q at *; have HRQ := hdd hrq; have cRT := right_calls W.heap.size hrq hO7; clear C1 C2 C3 hr1 hr2 hr3 HST HNEG hrq; gi_wp2; refine ⟨trivial, (CallsIn.inRound l (callsIn_wide.2 cRT)).mono ?_⟩; rintro e W8 ⟨rfl, hb8⟩; have hO8 := hO7.same hb8; have hbb := hb7.trans (hb8.mono hb7.size); clear cRT hO7 hb7 hb8; have hWs := hbb.size
   cases hrt : rightR q with
   | false =>
     have HS2 := hdd (show doGo k s (vals (pre ++ [⟨(xs, xn), hx⟩])) = none by rw [hS.out, hrt]; rfl); have c1 := (p1.same hbb).cell (j := 0) (v := vO) rfl; have f1 := (p1.same hbb).frozen 0; gi_wp2; exact ⟨keeps_set (keeps_below _ hbb) _ _, (hbb.mono (B' := w.heap.size) (by omega)).setCell (p := ⟨w.heap.size + 1, 0, none⟩) (by simp) _, rfl, HS2.out, (p1.same hbb).set 0 _⟩
   | true =>
     have HS2 := hdd (show doGo k s (vals (pre ++ [⟨(xs, xn), hx⟩])) = some (aPut strK s' (key (xs, xn)) q) by rw [hS.out, hrt]; rfl); have yv := (pv.same hbb).cell (j := 0) (v := .map (some mb2)) rfl; have hgm8 := hgm.below hbb hlm; have hsl2 := aPut_length_le (K := strK) s' (key (xs, xn)) q; have hml : (gm rowV s').length < maxLen := by rw [gm_length]; have := HL64.out; unfold maxLen; omega
     have hrv : rowV q = .agg (rowC q) := rfl; have HPUT := hdd (gm_put (f := rowV) (K := strK) s' (key (xs, xn)) q); have hOb8 := hdd hO8; clear hrv hgm
     gi_wp2_with (first
       | (refine wpListIn_load_ob rfl 132 (.tmp 11) rfl rfl _ hO8 Tryz.underlying132 rfl (row_size HRQ.out) ?_)
       | (gi_at_mapUpdate; refine wpListIn_put_g rfl (.tmp 67) (.tmp 68) (.tmp 69) _ rfl 9 _ keyedS Tryz.underlying133 rfl hgm8 hml _ _ _ rfl rfl hkey.out ?_; intro W9 hgm9 hg9))
     have hgm9' : GMap strK W9 Tryz.prog 9 mb2 (gm rowV (aPut strK s' (key (xs, xn)) q)) := by
       rw [← HPUT.out]; exact hgm9
     have hsz9 := hg9.size
     refine ⟨⟨Nat.le_trans hWs hsz9, fun i _ hi ho _ => (hg9.block i (Nat.lt_of_lt_of_le (Array.getElem?_eq_some_iff.1 ho).1 hWs) (fun e => by have := Option.some.inj e; omega)).trans ((hbb.block i (Array.getElem?_eq_some_iff.1 ho).1).trans ho)⟩,
       (hbb.mono (B' := w.heap.size) (by omega)).grown hg9 (by omega) (fun g hg => by have := Option.some.inj hg; omega), (p0.same hbb).kept hg9 (fun e => by have := Option.some.inj e; omega), (p1.same hbb).kept hg9 (fun e => by have := Option.some.inj e; omega), (pv.same hbb).kept hg9 (fun e => by have := Option.some.inj e; omega), _, HS2.out, hgm9', (fun a b hab => OkRow.put HOK.out HRQ.out HKL.out (a, b) hab), by rw [HPL.out]; omega⟩
 case hstop =>
   rintro D c pre X hD hpre ⟨rfl, hgo, p1⟩ hB hK; have HC := hdd (show goS s k L = (s, 50) by unfold goS; rw [doGo_prefix (vals_prefix hpre) hgo]); clear hgo; gi_wp2; refine ⟨by simp, .inl ⟨_, _, rfl, run_takeDeferred hK, ?_⟩⟩; have c4 := (boxed_end (show Boxed X (w.heap.size + 1) 33 (vI 50) from p1) hK).cell; have hBF := below_end (HB6.out.trans hB) (by omega) hK; refine ⟨vI 50, ?_, by rw [HC.out], by rw [HC.out]; exact HH.out.out hBF⟩; simp [results, Tryz.f385, go_sem, c4]
 case hdone =>
   rintro D X hD ⟨p0, p1, pv, s', hgo, hgm, hok, hsl⟩ hB hK; rw [vals_all] at hgo; have HC := hdd (show goS s k L = if 64 < s'.length then (s, 2) else (s', 0) by unfold goS; rw [hgo]); clear hgo; have yv := pv.cell (j := 0) (v := .map (some mb2)) rfl; have hln := fun ty => hgm.len Tryz.underlying133 ty
   simp only [gm_length] at hln; have c1 := p1.cell (j := 0) (v := vO) rfl; have f1 := p1.frozen 0; have hlm := hgm.lt
   by_cases hbig : 64 < s'.length
   · have HC2 := hdd (show goS s k L = (s, 2) by rw [HC.out, if_pos hbig])
     have hd : decide ((s'.length : Int) > 64) = true := by simp; omega
     gi_wp2; have hp3 := p1.set 0 (vI 2); have g1 := grownBy_set X (w.heap.size + 1) 0 (vI 2); have hB3 := (HB6.out.trans hB).grown g1 (by have := hB.size; omega) (fun k e => by cases e; omega); have hK3 := (g1.block D (Array.getElem?_eq_some_iff.1 hK).1 (fun e => by have := Option.some.inj e; omega)).trans hK; refine ⟨by simp, .inl ⟨_, _, rfl, run_takeDeferred hK3, ?_⟩⟩; have c4 := (boxed_end (show Boxed (X.setCell ⟨w.heap.size + 1, 0, none⟩ (vI 2)) (w.heap.size + 1) 33 (vI 2) from hp3) hK3).cell; have hBF := below_end hB3 (by omega) hK3; refine ⟨vI 2, ?_, by rw [HC2.out], by rw [HC2.out]; exact HH.out.out hBF⟩; simp [results, Tryz.f385, go_sem, c4]
   · have HC2 := hdd (show goS s k L = (s', 0) by rw [HC.out, if_neg hbig])
     have hd : decide ((s'.length : Int) > 64) = false := by simp; omega
     have hX := HH.out.same (HB6.out.trans hB); have zb := hX.ob.cell (j := 0) (v := .map (some mb)) rfl; have fb := hX.ob.frozen 0; have hbl := HH.out.ob.lt; have hlo := HH.out.lo; have c1' := (p1.other (b' := b) (by omega) 0 (.map (some mb2))).cell (j := 0) (v := vO) rfl; have f1' := (p1.other (b' := b) (by omega) 0 (.map (some mb2))).frozen 0; gi_wp2; have ob9 := (hX.ob.set 0 (.map (some mb2))).other (b' := w.heap.size + 1) (by omega) 0 vO; have p19 := (p1.other (b' := b) (by omega) 0 (.map (some mb2))).set 0 vO; have ga := grownBy_set X b 0 (.map (some mb2)); have gb := grownBy_set (X.setCell ⟨b, 0, none⟩ (.map (some mb2))) (w.heap.size + 1) 0 vO; have hgm9 := (hgm.kept ga (fun e => by have := Option.some.inj e; omega)).kept gb (fun e => by have := Option.some.inj e; omega)
     have hKp : Kept (fun i => i < w.heap.size ∧ i ≠ b) w ((X.setCell ⟨b, 0, none⟩ (.map (some mb2))).setCell ⟨w.heap.size + 1, 0, none⟩ vO) :=
       ((Kept.of_below (HB6.out.trans hB) (Fr := fun i => i < w.heap.size ∧ i ≠ b) fun _ hi => hi.1).trans (Kept.of_grown ga fun i hi => ⟨by have := (HB6.out.trans hB).size; omega, fun e => hi.2 (Option.some.inj e)⟩)).trans (Kept.of_grown gb fun i hi => ⟨by have := (HB6.out.trans hB).size; have := ga.size; omega, fun e => by have := Option.some.inj e; omega⟩)
     have hK8 := (ga.block D (Array.getElem?_eq_some_iff.1 hK).1 (fun e => by have := Option.some.inj e; omega)).trans hK; have hK9 := (gb.block D (Array.getElem?_eq_some_iff.1 hK8).1 (fun e => by have := Option.some.inj e; omega)).trans hK8; clear zb fb c1 f1 c1' f1' yv hln ga gb hK hK8; generalize (X.setCell ⟨b, 0, none⟩ (.map (some mb2))).setCell ⟨w.heap.size + 1, 0, none⟩ vO = Y at *; refine ⟨by simp, .inl ⟨_, _, rfl, run_takeDeferred hK9, ?_⟩⟩; have c4 := (boxed_end (show Boxed Y (w.heap.size + 1) 33 vO from p19) hK9).cell; have gD := grownBy_putObj' Y D (.deferred none); refine ⟨vO, ?_, by rw [HC2.out], ?_⟩
     · simp [results, Tryz.f385, go_sem, c4]
     · rw [HC2.out]
       refine ⟨⟨mb2, ⟨ob9.kept gD (fun e => by have := Option.some.inj e; omega), hgm9.kept gD (fun e => by have := Option.some.inj e; omega), hok, by omega, by omega, by dsimp only; omega⟩, .inr (by omega)⟩, hKp.trans (Kept.of_grown gD fun i hi => ⟨by have := hKp.size; omega, fun e => by have := Option.some.inj e; omega⟩)⟩
theorem do_calls (h : StkAt w base b mb s) (k : Int) (L : List It.Item) (v : Value) (hI : ItemsAt w 0 w.heap.size v L) (hF : Fits L) :
   Calls Tryz.prog 385 #[.pointer (some ⟨b, 0, none⟩), vI k, v] w fun e w' => e = .returned (vI (doS s k L).2) ∧ (∃ mb', StkAt w' base b mb' (doS s k L).1 ∧ (mb' = mb ∨ w.heap.size ≤ mb')) ∧ DoKept b w w' := by
 by_cases hk : k < 1 ∨ 11 < k
 · have e : doS s k L = (s, 1) := by unfold doS; rw [if_pos hk]
   rw [e]; refine (do_arg h k v hk).mono ?_; rintro e W ⟨rfl, hb⟩; exact ⟨rfl, h.out hb⟩
 · cases hm : It.may L with
   | false =>
     have e : doS s k L = (s, 60) := by unfold doS; rw [if_neg hk, if_pos hm]
     rw [e]; refine (do_items h k L v hI hF hk hm).mono ?_; rintro e W ⟨rfl, hb⟩; exact ⟨rfl, h.out hb⟩
   | true =>
     by_cases hc : mayS s k L = 0
     · have e : doS s k L = goS s k L := by unfold doS; rw [if_neg hk, if_neg (by rw [hm]; simp), if_neg (by simp [hc])]; rfl
       rw [e]; exact do_go h k L v hI hF hk hm hc
     · have e : doS s k L = (s, mayS s k L) := by unfold doS; rw [if_neg hk, if_neg (by rw [hm]; simp), if_pos hc]
       rw [e]; refine (do_may h k L v hI hF hk hm hc).mono ?_; rintro e W ⟨rfl, hb⟩; exact ⟨rfl, h.out hb⟩
end
end
section
open Go.RowKit Go.Maps
open It Al
def lvV (r : Row) : Value := .agg #[vI (at_ r 0), vI (at_ r 1), vI (at_ r 2), vI (at_ r 3)]
def flV (r : Row) : Value := .agg #[vI (at_ r 4), vI (at_ r 5), vI (at_ r 6), vI (at_ r 7), vI (at_ r 8), vI (at_ r 9), vI (at_ r 10)]
theorem row_eleven {r : Row} (h : OkRow r) : ∃ a0 a1 a2 a3 a4 a5 a6 a7 a8 a9 a10, r = [a0, a1, a2, a3, a4, a5, a6, a7, a8, a9, a10] := by
 have hl := h.len
 match r, hl with
 | [a0, a1, a2, a3, a4, a5, a6, a7, a8, a9, a10], _ => exact ⟨a0, a1, a2, a3, a4, a5, a6, a7, a8, a9, a10, rfl⟩
section
variable {w : World} {base b mb : Nat} {s : Stk}
theorem level_field (a0 a1 a2 a3 a4 a5 a6 a7 a8 a9 a10 : Int) (W : World) : (Instr.field 132 (.agg #[vI a0, vI a1, vI a2, vI a3, vI a4, vI a5, vI a6, vI a7, vI a8, vI a9, vI a10]) 0).run Tryz.prog W = .ok (.agg #[vI a0, vI a1, vI a2, vI a3]) W := by kernel_rfl
theorem level_calls (h : StkAt w base b mb s) (g : ByteArray) (hg : g.size ≤ maxLen) :
   Calls Tryz.prog 24 #[.pointer (some ⟨b, 0, none⟩), .string g] w fun e w' => e = .returned (lvV ((aGet s g.data.toList).getD row0)) ∧ Below w.heap.size w w' := by
 have hro := h.row g.data.toList; obtain ⟨hl1, -⟩ := look_row s g.data.toList; have hkey := hdd (key_str hg); obtain ⟨r, hr⟩ : ∃ r, r = (aGet s g.data.toList).getD row0 := ⟨_, rfl⟩; rw [← hr] at hro hl1 ⊢; obtain ⟨a0, a1, a2, a3, a4, a5, a6, a7, a8, a9, a10, rfl⟩ := row_eleven hro; have HL1 := hdd (show (mGet (gm rowV s) g.data.toList).getD (rowV row0) = .agg #[vI a0, vI a1, vI a2, vI a3, vI a4, vI a5, vI a6, vI a7, vI a8, vI a9, vI a10] from hl1); have hal := (Below.refl w.heap.size w).alloc (Nat.le_refl _) (.cells #[vO, vO, vO, vO] 45); have h2 := h.same hal; have z0 := h2.ob.cell (j := 0) (v := .map (some mb)) rfl; have hgm := h2.map; have hO := Ob.new w 45 #[vO, vO, vO, vO]; have cM := hdd (made_calls b mb _ z0); clear hr hl1 hro h
 go_enter Tryz.func24, Tryz.ntmps24
 go_wp2_with fail; refine cM.out.mono ?_; rintro e W ⟨rfl, rfl⟩; clear cM; generalize w.alloc (.cells #[vO, vO, vO, vO] 45) = w2 at *; have f0 := hO.frozen 0; have g0 := hO.cell (j := 0) (v := vO) rfl; have g1 := hO.cell (j := 1) (v := vO) rfl; have g2 := hO.cell (j := 2) (v := vO) rfl; have g3 := hO.cell (j := 3) (v := vO) rfl; have hfld := fun W => level_field a0 a1 a2 a3 a4 a5 a6 a7 a8 a9 a10 W
 go_wp2_with (first
   | (at_lookup; refine wpList_look_g rfl (.tmp 12) (.tmp 13) _ rfl 9 _ keyedS Tryz.underlying133 rfl hgm (zeroRow _) _ _ rfl hkey.out _ HL1.out ?_)
   | (refine wpList_store_ob rfl 45 (.tmp 4) (.tmp 15) rfl rfl rfl hO rfl (by kernel_rfl) (by simp [Value.oneCell']) ?_; intro w4 hO4 hg4))
 have hb4 := hal.grown hg4 hal.size (fun k e => by cases e; exact Nat.le_refl _); refine bodyPost_ret (v := .agg #[vI a0, vI a1, vI a2, vI a3]) ?_ rfl ⟨rfl, hb4⟩; clear f0 g0 g1 g2 g3; have c0 := hO4.cell (j := 0) (v := vI a0) rfl; have c1 := hO4.cell (j := 1) (v := vI a1) rfl; have c2 := hO4.cell (j := 2) (v := vI a2) rfl; have c3 := hO4.cell (j := 3) (v := vI a3) rfl; simp [results, Tryz.f24, go_sem, c0, c1, c2, c3]
theorem level_nil (g : ByteArray) (w : World) : Calls Tryz.prog 24 #[.pointer none, .string g] w fun e w' => e = .returned (lvV row0) ∧ Below w.heap.size w w' := by
 have cM := hdd (made_nil (w.alloc (.cells #[vO, vO, vO, vO] 45))); have hal := (Below.refl w.heap.size w).alloc (Nat.le_refl _) (.cells #[vO, vO, vO, vO] 45); have hO := Ob.new w 45 #[vO, vO, vO, vO]
 go_enter Tryz.func24, Tryz.ntmps24
 go_wp2_with fail; refine cM.out.mono ?_; rintro e W ⟨rfl, rfl⟩; clear cM; generalize w.alloc (.cells #[vO, vO, vO, vO] 45) = w2 at *; have f0 := hO.frozen 0; have g0 := hO.cell (j := 0) (v := vO) rfl; have g1 := hO.cell (j := 1) (v := vO) rfl; have g2 := hO.cell (j := 2) (v := vO) rfl; have g3 := hO.cell (j := 3) (v := vO) rfl; go_wp2_with (refine wpList_store_ob rfl 45 (.tmp 4) (.tmp 8) rfl rfl rfl hO rfl (by kernel_rfl) (by simp [Value.oneCell']) ?_; intro w4 hO4 hg4); have hb4 := hal.grown hg4 hal.size (fun k e => by cases e; exact Nat.le_refl _); refine bodyPost_ret (v := .agg #[vO, vO, vO, vO]) ?_ rfl ⟨rfl, hb4⟩; clear f0 g0 g1 g2 g3; have c0 := hO4.cell (j := 0) (v := vO) rfl; have c1 := hO4.cell (j := 1) (v := vO) rfl; have c2 := hO4.cell (j := 2) (v := vO) rfl; have c3 := hO4.cell (j := 3) (v := vO) rfl; simp [results, Tryz.f24, go_sem, c0, c1, c2, c3]
theorem flow_field (a0 a1 a2 a3 a4 a5 a6 a7 a8 a9 a10 : Int) (W : World) : (Instr.field 132 (.agg #[vI a0, vI a1, vI a2, vI a3, vI a4, vI a5, vI a6, vI a7, vI a8, vI a9, vI a10]) 1).run Tryz.prog W = .ok (.agg #[vI a4, vI a5, vI a6, vI a7, vI a8, vI a9, vI a10]) W := by kernel_rfl
theorem flow_calls (h : StkAt w base b mb s) (g : ByteArray) (hg : g.size ≤ maxLen) :
   Calls Tryz.prog 26 #[.pointer (some ⟨b, 0, none⟩), .string g] w fun e w' => e = .returned (flV ((aGet s g.data.toList).getD row0)) ∧ Below w.heap.size w w' := by
 have hro := h.row g.data.toList; obtain ⟨hl1, -⟩ := look_row s g.data.toList; have hkey := hdd (key_str hg); obtain ⟨r, hr⟩ : ∃ r, r = (aGet s g.data.toList).getD row0 := ⟨_, rfl⟩; rw [← hr] at hro hl1 ⊢; obtain ⟨a0, a1, a2, a3, a4, a5, a6, a7, a8, a9, a10, rfl⟩ := row_eleven hro; have HL1 := hdd (show (mGet (gm rowV s) g.data.toList).getD (rowV row0) = .agg #[vI a0, vI a1, vI a2, vI a3, vI a4, vI a5, vI a6, vI a7, vI a8, vI a9, vI a10] from hl1); have hal := (Below.refl w.heap.size w).alloc (Nat.le_refl _) (.cells #[vO, vO, vO, vO, vO, vO, vO] 47); have h2 := h.same hal; have z0 := h2.ob.cell (j := 0) (v := .map (some mb)) rfl; have hgm := h2.map; have hO := Ob.new w 47 #[vO, vO, vO, vO, vO, vO, vO]; have cM := hdd (made_calls b mb _ z0); clear hr hl1 hro h
 go_enter Tryz.func26, Tryz.ntmps26
 go_wp2_with fail; refine cM.out.mono ?_; rintro e W ⟨rfl, rfl⟩; clear cM; generalize w.alloc (.cells #[vO, vO, vO, vO, vO, vO, vO] 47) = w2 at *; have f0 := hO.frozen 0; have g0 := hO.cell (j := 0) (v := vO) rfl; have g1 := hO.cell (j := 1) (v := vO) rfl; have g2 := hO.cell (j := 2) (v := vO) rfl; have g3 := hO.cell (j := 3) (v := vO) rfl; have g4 := hO.cell (j := 4) (v := vO) rfl; have g5 := hO.cell (j := 5) (v := vO) rfl; have g6 := hO.cell (j := 6) (v := vO) rfl; have hfld := fun W => flow_field a0 a1 a2 a3 a4 a5 a6 a7 a8 a9 a10 W
 go_wp2_with (first
   | (at_lookup; refine wpList_look_g rfl (.tmp 12) (.tmp 13) _ rfl 9 _ keyedS Tryz.underlying133 rfl hgm (zeroRow _) _ _ rfl hkey.out _ HL1.out ?_)
   | (refine wpList_store_ob rfl 47 (.tmp 4) (.tmp 15) rfl rfl rfl hO rfl (by kernel_rfl) (by simp [Value.oneCell']) ?_; intro w4 hO4 hg4))
 have hb4 := hal.grown hg4 hal.size (fun k e => by cases e; exact Nat.le_refl _); refine bodyPost_ret (v := .agg #[vI a4, vI a5, vI a6, vI a7, vI a8, vI a9, vI a10]) ?_ rfl ⟨rfl, hb4⟩; clear f0 g0 g1 g2 g3 g4 g5 g6; have c0 := hO4.cell (j := 0) (v := vI a4) rfl; have c1 := hO4.cell (j := 1) (v := vI a5) rfl; have c2 := hO4.cell (j := 2) (v := vI a6) rfl; have c3 := hO4.cell (j := 3) (v := vI a7) rfl; have c4 := hO4.cell (j := 4) (v := vI a8) rfl; have c5 := hO4.cell (j := 5) (v := vI a9) rfl; have c6 := hO4.cell (j := 6) (v := vI a10) rfl; simp [results, Tryz.f26, go_sem, c0, c1, c2, c3, c4, c5, c6]
theorem flow_nil (g : ByteArray) (w : World) : Calls Tryz.prog 26 #[.pointer none, .string g] w fun e w' => e = .returned (flV row0) ∧ Below w.heap.size w w' := by
 have cM := hdd (made_nil (w.alloc (.cells #[vO, vO, vO, vO, vO, vO, vO] 47))); have hal := (Below.refl w.heap.size w).alloc (Nat.le_refl _) (.cells #[vO, vO, vO, vO, vO, vO, vO] 47); have hO := Ob.new w 47 #[vO, vO, vO, vO, vO, vO, vO]
 go_enter Tryz.func26, Tryz.ntmps26
 go_wp2_with fail; refine cM.out.mono ?_; rintro e W ⟨rfl, rfl⟩; clear cM; generalize w.alloc (.cells #[vO, vO, vO, vO, vO, vO, vO] 47) = w2 at *; have f0 := hO.frozen 0; have g0 := hO.cell (j := 0) (v := vO) rfl; have g1 := hO.cell (j := 1) (v := vO) rfl; have g2 := hO.cell (j := 2) (v := vO) rfl; have g3 := hO.cell (j := 3) (v := vO) rfl; have g4 := hO.cell (j := 4) (v := vO) rfl; have g5 := hO.cell (j := 5) (v := vO) rfl; have g6 := hO.cell (j := 6) (v := vO) rfl; go_wp2_with (refine wpList_store_ob rfl 47 (.tmp 4) (.tmp 8) rfl rfl rfl hO rfl (by kernel_rfl) (by simp [Value.oneCell']) ?_; intro w4 hO4 hg4); have hb4 := hal.grown hg4 hal.size (fun k e => by cases e; exact Nat.le_refl _); refine bodyPost_ret (v := .agg #[vO, vO, vO, vO, vO, vO, vO]) ?_ rfl ⟨rfl, hb4⟩; clear f0 g0 g1 g2 g3 g4 g5 g6; have c0 := hO4.cell (j := 0) (v := vO) rfl; have c1 := hO4.cell (j := 1) (v := vO) rfl; have c2 := hO4.cell (j := 2) (v := vO) rfl; have c3 := hO4.cell (j := 3) (v := vO) rfl; have c4 := hO4.cell (j := 4) (v := vO) rfl; have c5 := hO4.cell (j := 5) (v := vO) rfl; have c6 := hO4.cell (j := 6) (v := vO) rfl; simp [results, Tryz.f26, go_sem, c0, c1, c2, c3, c4, c5, c6]
end
end
section
open Go.RowKit Go.Maps
open It Al
section
variable {w : World} {base b mb : Nat} {s : Stk}
end
end
section
open Go.RowKit Go.Maps
open It Al
def keptT (a0 a1 a2 a3 a4 a5 a6 _a7 a8 a9 _a10 way : Int) : Bool := decide (0 ≤ way) && (wrap64 (wrap64 (wrap64 (wrap64 (a0 + a1) + a2) + a3) + way) == wrap64 (wrap64 (wrap64 (wrap64 (a4 + a5) + a6) - a8) - a9))
theorem glevel_calls (a0 a1 a2 a3 b0 b1 b2 b3 : Int) (w : World) :
   Calls Tryz.prog 23 #[.agg #[vI a0, vI a1, vI a2, vI a3], .agg #[vI b0, vI b1, vI b2, vI b3]] w fun e w' => e = .returned (.agg #[vI (wrap64 (a0 + b0)), vI (wrap64 (a1 + b1)), vI (wrap64 (a2 + b2)), vI (wrap64 (a3 + b3))]) ∧ Below w.heap.size w w' := by
 have o2 := ((Ob.new w 45 #[vI a0, vI a1, vI a2, vI a3]).alloc (.cells #[vI b0, vI b1, vI b2, vI b3] 45)).alloc (.cells #[vO, vO, vO, vO] 45); have o3 := (Ob.new (w.alloc (.cells #[vI a0, vI a1, vI a2, vI a3] 45)) 45 #[vI b0, vI b1, vI b2, vI b3]).alloc (.cells #[vO, vO, vO, vO] 45); have o4 := Ob.new ((w.alloc (.cells #[vI a0, vI a1, vI a2, vI a3] 45)).alloc (.cells #[vI b0, vI b1, vI b2, vI b3] 45)) 45 #[vO, vO, vO, vO]; have hB : Below w.heap.size w (((w.alloc (.cells #[vI a0, vI a1, vI a2, vI a3] 45)).alloc (.cells #[vI b0, vI b1, vI b2, vI b3] 45)).alloc (.cells #[vO, vO, vO, vO] 45)) := (((Below.refl _ w).alloc (Nat.le_refl _) _).alloc (by simp) _).alloc (by simp; omega) _; simp only [World.size_alloc] at o3 o4; have hs : (((w.alloc (.cells #[vI a0, vI a1, vI a2, vI a3] 45)).alloc (.cells #[vI b0, vI b1, vI b2, vI b3] 45)).alloc (.cells #[vO, vO, vO, vO] 45)).heap.size = w.heap.size + 3 := by simp
 have HB := hdd hB; clear hB
 go_enter Tryz.func23, Tryz.ntmps23
 go_wp2_with (refine wpList_store_ob rfl 45 (.tmp 4) (.tmp 25) rfl rfl rfl o4 rfl (by kernel_rfl) (by simp [Value.oneCell']) ?_; intro w4 hO hg); have hb := HB.out.grown hg HB.out.size (fun k e => by cases e; omega); refine bodyPost_ret (v := .agg #[vI (wrap64 (a0 + b0)), vI (wrap64 (a1 + b1)), vI (wrap64 (a2 + b2)), vI (wrap64 (a3 + b3))]) ?_ rfl ⟨rfl, hb⟩; have c0 := hO.cell (j := 0) (v := vI (wrap64 (a0 + b0))) rfl; have c1 := hO.cell (j := 1) (v := vI (wrap64 (a1 + b1))) rfl; have c2 := hO.cell (j := 2) (v := vI (wrap64 (a2 + b2))) rfl; have c3 := hO.cell (j := 3) (v := vI (wrap64 (a3 + b3))) rfl; simp [results, Tryz.f23, go_sem, c0, c1, c2, c3]
theorem gflow_calls (a0 a1 a2 a3 a4 a5 a6 b0 b1 b2 b3 b4 b5 b6 : Int) (w : World) :
   Calls Tryz.prog 25 #[.agg #[vI a0, vI a1, vI a2, vI a3, vI a4, vI a5, vI a6], .agg #[vI b0, vI b1, vI b2, vI b3, vI b4, vI b5, vI b6]] w fun e w' => e = .returned (.agg #[vI (wrap64 (a0 + b0)), vI (wrap64 (a1 + b1)), vI (wrap64 (a2 + b2)), vI (wrap64 (a3 + b3)), vI (wrap64 (a4 + b4)), vI (wrap64 (a5 + b5)), vI (wrap64 (a6 + b6))]) ∧ Below w.heap.size w w' := by
 have o2 := ((Ob.new w 47 #[vI a0, vI a1, vI a2, vI a3, vI a4, vI a5, vI a6]).alloc (.cells #[vI b0, vI b1, vI b2, vI b3, vI b4, vI b5, vI b6] 47)).alloc (.cells #[vO, vO, vO, vO, vO, vO, vO] 47); have o3 := (Ob.new (w.alloc (.cells #[vI a0, vI a1, vI a2, vI a3, vI a4, vI a5, vI a6] 47)) 47 #[vI b0, vI b1, vI b2, vI b3, vI b4, vI b5, vI b6]).alloc (.cells #[vO, vO, vO, vO, vO, vO, vO] 47); have o4 := Ob.new ((w.alloc (.cells #[vI a0, vI a1, vI a2, vI a3, vI a4, vI a5, vI a6] 47)).alloc (.cells #[vI b0, vI b1, vI b2, vI b3, vI b4, vI b5, vI b6] 47)) 47 #[vO, vO, vO, vO, vO, vO, vO]; have hB : Below w.heap.size w (((w.alloc (.cells #[vI a0, vI a1, vI a2, vI a3, vI a4, vI a5, vI a6] 47)).alloc (.cells #[vI b0, vI b1, vI b2, vI b3, vI b4, vI b5, vI b6] 47)).alloc (.cells #[vO, vO, vO, vO, vO, vO, vO] 47)) := (((Below.refl _ w).alloc (Nat.le_refl _) _).alloc (by simp) _).alloc (by simp; omega) _; simp only [World.size_alloc] at o3 o4; have hs : (((w.alloc (.cells #[vI a0, vI a1, vI a2, vI a3, vI a4, vI a5, vI a6] 47)).alloc (.cells #[vI b0, vI b1, vI b2, vI b3, vI b4, vI b5, vI b6] 47)).alloc (.cells #[vO, vO, vO, vO, vO, vO, vO] 47)).heap.size = w.heap.size + 3 := by simp
 have HSZ := hdd hs; clear hs
 go_enter Tryz.func25, Tryz.ntmps25
 go_upto_region 1 with (fail)
 generalize (((w.alloc (.cells #[vI a0, vI a1, vI a2, vI a3, vI a4, vI a5, vI a6] 47)).alloc (.cells #[vI b0, vI b1, vI b2, vI b3, vI b4, vI b5, vI b6] 47)).alloc (.cells #[vO, vO, vO, vO, vO, vO, vO] 47)) = w0 at *; have p0 := o2.cell (j := 0) (v := vI a0) rfl; have f0 := o2.frozen 0; have q0 := o3.cell (j := 0) (v := vI b0) rfl
 go_upto_region 2 with (fail)
 clear p0 f0 q0; have g0 := grownBy_set w0 w.heap.size 0 (vI (wrap64 (a0 + b0))); replace o2 : Ob (w0.setCell ⟨w.heap.size, 0, none⟩ (vI (wrap64 (a0 + b0)))) w.heap.size 47 #[vI (wrap64 (a0 + b0)), vI a1, vI a2, vI a3, vI a4, vI a5, vI a6] := o2.set 0 (vI (wrap64 (a0 + b0))); replace o3 := o3.kept g0 (fun e => by have := Option.some.inj e; omega); replace o4 := o4.kept g0 (fun e => by have := Option.some.inj e; omega); replace hB := hB.grown g0 hB.size (fun k e => by cases e; exact Nat.le_refl _); clear g0; generalize w0.setCell ⟨w.heap.size, 0, none⟩ (vI (wrap64 (a0 + b0))) = w1 at *; have p1 := o2.cell (j := 1) (v := vI a1) rfl; have f1 := o2.frozen 1; have q1 := o3.cell (j := 1) (v := vI b1) rfl
 go_upto_region 3 with (fail)
 clear p1 f1 q1; have g1 := grownBy_set w1 w.heap.size 1 (vI (wrap64 (a1 + b1))); replace o2 : Ob (w1.setCell ⟨w.heap.size, 1, none⟩ (vI (wrap64 (a1 + b1)))) w.heap.size 47 #[vI (wrap64 (a0 + b0)), vI (wrap64 (a1 + b1)), vI a2, vI a3, vI a4, vI a5, vI a6] := o2.set 1 (vI (wrap64 (a1 + b1))); replace o3 := o3.kept g1 (fun e => by have := Option.some.inj e; omega); replace o4 := o4.kept g1 (fun e => by have := Option.some.inj e; omega); replace hB := hB.grown g1 hB.size (fun k e => by cases e; exact Nat.le_refl _); clear g1; generalize w1.setCell ⟨w.heap.size, 1, none⟩ (vI (wrap64 (a1 + b1))) = w2 at *; have p2 := o2.cell (j := 2) (v := vI a2) rfl; have f2 := o2.frozen 2; have q2 := o3.cell (j := 2) (v := vI b2) rfl
 go_upto_region 4 with (fail)
 clear p2 f2 q2; have g2 := grownBy_set w2 w.heap.size 2 (vI (wrap64 (a2 + b2))); replace o2 : Ob (w2.setCell ⟨w.heap.size, 2, none⟩ (vI (wrap64 (a2 + b2)))) w.heap.size 47 #[vI (wrap64 (a0 + b0)), vI (wrap64 (a1 + b1)), vI (wrap64 (a2 + b2)), vI a3, vI a4, vI a5, vI a6] := o2.set 2 (vI (wrap64 (a2 + b2))); replace o3 := o3.kept g2 (fun e => by have := Option.some.inj e; omega); replace o4 := o4.kept g2 (fun e => by have := Option.some.inj e; omega); replace hB := hB.grown g2 hB.size (fun k e => by cases e; exact Nat.le_refl _); clear g2; generalize w2.setCell ⟨w.heap.size, 2, none⟩ (vI (wrap64 (a2 + b2))) = w3 at *; have p3 := o2.cell (j := 3) (v := vI a3) rfl; have f3 := o2.frozen 3; have q3 := o3.cell (j := 3) (v := vI b3) rfl
 go_upto_region 5 with (fail)
 clear p3 f3 q3; have g3 := grownBy_set w3 w.heap.size 3 (vI (wrap64 (a3 + b3))); replace o2 : Ob (w3.setCell ⟨w.heap.size, 3, none⟩ (vI (wrap64 (a3 + b3)))) w.heap.size 47 #[vI (wrap64 (a0 + b0)), vI (wrap64 (a1 + b1)), vI (wrap64 (a2 + b2)), vI (wrap64 (a3 + b3)), vI a4, vI a5, vI a6] := o2.set 3 (vI (wrap64 (a3 + b3))); replace o3 := o3.kept g3 (fun e => by have := Option.some.inj e; omega); replace o4 := o4.kept g3 (fun e => by have := Option.some.inj e; omega); replace hB := hB.grown g3 hB.size (fun k e => by cases e; exact Nat.le_refl _); clear g3; generalize w3.setCell ⟨w.heap.size, 3, none⟩ (vI (wrap64 (a3 + b3))) = w4 at *; have p4 := o2.cell (j := 4) (v := vI a4) rfl; have f4 := o2.frozen 4; have q4 := o3.cell (j := 4) (v := vI b4) rfl
 go_upto_region 6 with (fail)
 clear p4 f4 q4; have g4 := grownBy_set w4 w.heap.size 4 (vI (wrap64 (a4 + b4))); replace o2 : Ob (w4.setCell ⟨w.heap.size, 4, none⟩ (vI (wrap64 (a4 + b4)))) w.heap.size 47 #[vI (wrap64 (a0 + b0)), vI (wrap64 (a1 + b1)), vI (wrap64 (a2 + b2)), vI (wrap64 (a3 + b3)), vI (wrap64 (a4 + b4)), vI a5, vI a6] := o2.set 4 (vI (wrap64 (a4 + b4))); replace o3 := o3.kept g4 (fun e => by have := Option.some.inj e; omega); replace o4 := o4.kept g4 (fun e => by have := Option.some.inj e; omega); replace hB := hB.grown g4 hB.size (fun k e => by cases e; exact Nat.le_refl _); clear g4; generalize w4.setCell ⟨w.heap.size, 4, none⟩ (vI (wrap64 (a4 + b4))) = w5 at *; have p5 := o2.cell (j := 5) (v := vI a5) rfl; have f5 := o2.frozen 5; have q5 := o3.cell (j := 5) (v := vI b5) rfl
 go_upto_region 7 with (fail)
 clear p5 f5 q5; have g5 := grownBy_set w5 w.heap.size 5 (vI (wrap64 (a5 + b5))); replace o2 : Ob (w5.setCell ⟨w.heap.size, 5, none⟩ (vI (wrap64 (a5 + b5)))) w.heap.size 47 #[vI (wrap64 (a0 + b0)), vI (wrap64 (a1 + b1)), vI (wrap64 (a2 + b2)), vI (wrap64 (a3 + b3)), vI (wrap64 (a4 + b4)), vI (wrap64 (a5 + b5)), vI a6] := o2.set 5 (vI (wrap64 (a5 + b5))); replace o3 := o3.kept g5 (fun e => by have := Option.some.inj e; omega); replace o4 := o4.kept g5 (fun e => by have := Option.some.inj e; omega); replace hB := hB.grown g5 hB.size (fun k e => by cases e; exact Nat.le_refl _); clear g5; generalize w5.setCell ⟨w.heap.size, 5, none⟩ (vI (wrap64 (a5 + b5))) = w6 at *; have p6 := o2.cell (j := 6) (v := vI a6) rfl; have f6 := o2.frozen 6; have q6 := o3.cell (j := 6) (v := vI b6) rfl
 go_upto_region 8 with (fail)
 clear p6 f6 q6; have g6 := grownBy_set w6 w.heap.size 6 (vI (wrap64 (a6 + b6))); replace o2 : Ob (w6.setCell ⟨w.heap.size, 6, none⟩ (vI (wrap64 (a6 + b6)))) w.heap.size 47 #[vI (wrap64 (a0 + b0)), vI (wrap64 (a1 + b1)), vI (wrap64 (a2 + b2)), vI (wrap64 (a3 + b3)), vI (wrap64 (a4 + b4)), vI (wrap64 (a5 + b5)), vI (wrap64 (a6 + b6))] := o2.set 6 (vI (wrap64 (a6 + b6))); replace o3 := o3.kept g6 (fun e => by have := Option.some.inj e; omega); replace o4 := o4.kept g6 (fun e => by have := Option.some.inj e; omega); replace hB := hB.grown g6 hB.size (fun k e => by cases e; exact Nat.le_refl _); clear g6; generalize w6.setCell ⟨w.heap.size, 6, none⟩ (vI (wrap64 (a6 + b6))) = w7 at *; have p0 := o2.cell (j := 0) (v := vI (wrap64 (a0 + b0))) rfl; have p1 := o2.cell (j := 1) (v := vI (wrap64 (a1 + b1))) rfl; have p2 := o2.cell (j := 2) (v := vI (wrap64 (a2 + b2))) rfl; have p3 := o2.cell (j := 3) (v := vI (wrap64 (a3 + b3))) rfl; have p4 := o2.cell (j := 4) (v := vI (wrap64 (a4 + b4))) rfl; have p5 := o2.cell (j := 5) (v := vI (wrap64 (a5 + b5))) rfl; have p6 := o2.cell (j := 6) (v := vI (wrap64 (a6 + b6))) rfl; go_wp2_with (refine wpList_store_ob rfl 47 (.tmp 4) (.tmp 47) rfl rfl rfl o4 rfl (by kernel_rfl) (by simp [Value.oneCell']) ?_; intro w9 hO hg); have hb := hB.grown hg hB.size (fun k e => by cases e; omega); refine bodyPost_ret (v := .agg #[vI (wrap64 (a0 + b0)), vI (wrap64 (a1 + b1)), vI (wrap64 (a2 + b2)), vI (wrap64 (a3 + b3)), vI (wrap64 (a4 + b4)), vI (wrap64 (a5 + b5)), vI (wrap64 (a6 + b6))]) ?_ rfl ⟨rfl, hb⟩
 have c0 := hO.cell (j := 0) (v := vI (wrap64 (a0 + b0))) rfl; have c1 := hO.cell (j := 1) (v := vI (wrap64 (a1 + b1))) rfl; have c2 := hO.cell (j := 2) (v := vI (wrap64 (a2 + b2))) rfl; have c3 := hO.cell (j := 3) (v := vI (wrap64 (a3 + b3))) rfl; have c4 := hO.cell (j := 4) (v := vI (wrap64 (a4 + b4))) rfl; have c5 := hO.cell (j := 5) (v := vI (wrap64 (a5 + b5))) rfl; have c6 := hO.cell (j := 6) (v := vI (wrap64 (a6 + b6))) rfl; simp [results, Tryz.f25, go_sem, c0, c1, c2, c3, c4, c5, c6]
theorem kept_calls (g : ByteArray) (a0 a1 a2 a3 a4 a5 a6 a7 a8 a9 a10 way : Int) (w : World) :
   Calls Tryz.prog 61 #[.agg #[.string g, vI a0, vI a1, vI a2, vI a3, vI a4, vI a5, vI a6, vI a7, vI a8, vI a9, vI a10, vI way]] w fun e w' => e = .returned (.bool (keptT a0 a1 a2 a3 a4 a5 a6 a7 a8 a9 a10 way)) ∧ Below w.heap.size w w' := by
 have o1 := Ob.new w 49 #[.string g, vI a0, vI a1, vI a2, vI a3, vI a4, vI a5, vI a6, vI a7, vI a8, vI a9, vI a10, vI way]; have hB : Below w.heap.size w (w.alloc (.cells #[.string g, vI a0, vI a1, vI a2, vI a3, vI a4, vI a5, vI a6, vI a7, vI a8, vI a9, vI a10, vI way] 49)) := (Below.refl _ w).alloc (Nat.le_refl _) _; have HB := hdd hB; have HK := hdd (show keptT a0 a1 a2 a3 a4 a5 a6 a7 a8 a9 a10 way = (decide (0 ≤ way) && (wrap64 (wrap64 (wrap64 (wrap64 (a0 + a1) + a2) + a3) + way) == wrap64 (wrap64 (wrap64 (wrap64 (a4 + a5) + a6) - a8) - a9))) from rfl); clear hB
 by_cases h0 : 0 ≤ way
 · have hd : decide (way ≥ 0) = true := by simpa using h0
   have HT := hdd (show keptT a0 a1 a2 a3 a4 a5 a6 a7 a8 a9 a10 way = (wrap64 (wrap64 (wrap64 (wrap64 (a0 + a1) + a2) + a3) + way) == wrap64 (wrap64 (wrap64 (wrap64 (a4 + a5) + a6) - a8) - a9)) by rw [HK.out, decide_eq_true h0]; rfl); clear h0
   go_enter Tryz.func61, Tryz.ntmps61
   go_wp2; go_ret; exact ⟨ret1 (boo (by rw [HT.out])), HB.out⟩
 · have hd : decide (way ≥ 0) = false := by simpa using h0
   have HT := hdd (show keptT a0 a1 a2 a3 a4 a5 a6 a7 a8 a9 a10 way = false by rw [HK.out, decide_eq_false h0]; rfl); clear h0
   go_enter Tryz.func61, Tryz.ntmps61
   go_wp2; go_ret; exact ⟨ret1 (boo HT.out.symm), HB.out⟩
def SpAt (w : World) (base : Nat) (p : Value) (s : Stk) : Prop := (p = .pointer none ∧ s = []) ∨ ∃ b mb, p = .pointer (some ⟨b, 0, none⟩) ∧ StkAt w base b mb s
theorem SpAt.same {w w' : World} {base : Nat} {p : Value} {s : Stk} (h : SpAt w base p s) (hb : Below w.heap.size w w') : SpAt w' base p s := by
 rcases h with h | ⟨b, mb, h1, h2⟩
 · exact .inl h
 · exact .inr ⟨b, mb, h1, h2.same hb⟩
structure StsAt (w : World) (base : Nat) (v : Value) (ss : List Stk) : Prop where
 at_ : ∃ ps : List Value, ps.length = ss.length ∧ Sl w 0 w.heap.size 1 v ss.length ps ∧ ∀ i (h : i < ss.length), ∃ p, ps[i]? = some p ∧ SpAt w base p ss[i]
theorem StsAt.same {w w' : World} {base : Nat} {v : Value} {ss : List Stk} (h : StsAt w base v ss) (hb : Below w.heap.size w w') : StsAt w' base v ss := by
 obtain ⟨ps, h1, h2, h3⟩ := h.at_; refine ⟨ps, h1, h2.mono hb hb.size, fun i hi => ?_⟩; obtain ⟨p, k1, k2⟩ := h3 i hi; exact ⟨p, k1, k2.same hb⟩
def addRow (a b : Row) : Row := (List.range 11).map fun j => wrap64 (at_ a j + at_ b j)
def totR (ss : List Stk) (g : Key) : Row := ss.foldl (fun acc s => addRow acc ((aGet s g).getD row0)) row0
theorem totR_snoc (ss : List Stk) (s : Stk) (g : Key) : totR (ss ++ [s]) g = addRow (totR ss g) ((aGet s g).getD row0) := by
 unfold totR; rw [List.foldl_append]
 rfl
theorem addRow_ok (a b : Row) : OkRow (addRow a b) := by
 refine ⟨by simp [addRow], fun x hx => ?_⟩; obtain ⟨j, -, rfl⟩ := List.mem_map.1 hx; exact wrap_bd _
theorem totR_ok (ss : List Stk) (g : Key) : OkRow (totR ss g) := by
 rcases List.eq_nil_or_concat ss with rfl | ⟨q, x, rfl⟩
 · exact OkRow.zero
 · rw [List.concat_eq_append, totR_snoc]
   exact addRow_ok _ _
theorem SpAt.row {w : World} {base : Nat} {p : Value} {s : Stk} (h : SpAt w base p s) (k : Key) : OkRow ((aGet s k).getD row0) := by
 rcases h with ⟨-, rfl⟩ | ⟨b, mb, -, h2⟩
 · exact OkRow.zero
 · exact h2.row k
theorem level_any {w : World} {base : Nat} {p : Value} {s : Stk} (h : SpAt w base p s) (g : ByteArray) (hg : g.size ≤ maxLen) :
   Calls Tryz.prog 24 #[p, .string g] w fun e w' => e = .returned (lvV ((aGet s g.data.toList).getD row0)) ∧ Below w.heap.size w w' := by
 rcases h with ⟨rfl, rfl⟩ | ⟨b, mb, rfl, h2⟩
 · exact level_nil g w
 · exact level_calls h2 g hg
theorem flow_any {w : World} {base : Nat} {p : Value} {s : Stk} (h : SpAt w base p s) (g : ByteArray) (hg : g.size ≤ maxLen) :
   Calls Tryz.prog 26 #[p, .string g] w fun e w' => e = .returned (flV ((aGet s g.data.toList).getD row0)) ∧ Below w.heap.size w w' := by
 rcases h with ⟨rfl, rfl⟩ | ⟨b, mb, rfl, h2⟩
 · exact flow_nil g w
 · exact flow_calls h2 g hg
def wayT (r : Row) : Int := wrap64 (at_ r 10 - at_ r 7)
def totC (g : ByteArray) (r : Row) (way : Int) : Array Value := #[.string g, vI (at_ r 0), vI (at_ r 1), vI (at_ r 2), vI (at_ r 3), vI (at_ r 4), vI (at_ r 5), vI (at_ r 6), vI (at_ r 7), vI (at_ r 8), vI (at_ r 9), vI (at_ r 10), vI way]
def totV (g : ByteArray) (ss : List Stk) : Value := .agg (totC g (totR ss g.data.toList) (wayT (totR ss g.data.toList)))
theorem total_calls (ss : List Stk) (g : ByteArray) (hg : g.size ≤ maxLen) (v : Value) (w : World) (base : Nat) (h : StsAt w base v ss) :
   Calls Tryz.prog 10 #[v, .string g] w fun e w' => e = .returned (totV g ss) ∧ Below w.heap.size w w' := by
 obtain ⟨ps, hpl, hsl, hps⟩ := h.at_; obtain ⟨A, c, rfl, hc1, hc2, hc3⟩ := hsl.at_; unfold maxLen at hc2; have HPS := hdd hps; have HSL := hdd hsl; have HPL := hdd hpl; clear hps hsl hpl hc3 h; have z0 := (Ob.new w 49 #[vE, vO, vO, vO, vO, vO, vO, vO, vO, vO, vO, vO, vO]).alloc (.cells #[.string g, vO, vO, vO, vO, vO, vO, vO, vO, vO, vO, vO, vO] 49); have o1 := Ob.new (w.alloc (.cells #[vE, vO, vO, vO, vO, vO, vO, vO, vO, vO, vO, vO, vO] 49)) 49 #[.string g, vO, vO, vO, vO, vO, vO, vO, vO, vO, vO, vO, vO]; have hB : Below w.heap.size w ((w.alloc (.cells #[vE, vO, vO, vO, vO, vO, vO, vO, vO, vO, vO, vO, vO] 49)).alloc (.cells #[.string g, vO, vO, vO, vO, vO, vO, vO, vO, vO, vO, vO, vO] 49)) := ((Below.refl _ w).alloc (Nat.le_refl _) _).alloc (by simp) _; simp only [World.size_alloc] at o1; have HO := hdd o1; have HZ := hdd z0; have HB := hdd hB; have HS := hdd (show ((w.alloc (.cells #[vE, vO, vO, vO, vO, vO, vO, vO, vO, vO, vO, vO, vO] 49)).alloc (.cells #[.string g, vO, vO, vO, vO, vO, vO, vO, vO, vO, vO, vO, vO] 49)).heap.size = w.heap.size + 2 by simp); clear o1 hB z0
 go_enter Tryz.func10, Tryz.ntmps10
 go_wp2; have o1 := HO.out; have z1 := HZ.out; have hB := HB.out; have hs := HS.out; clear HO HZ HB HS; generalize (w.alloc (.cells #[vE, vO, vO, vO, vO, vO, vO, vO, vO, vO, vO, vO, vO] 49)).alloc (.cells #[.string g, vO, vO, vO, vO, vO, vO, vO, vO, vO, vO, vO, vO] 49) = w2 at *
 go_loopw [7, 12] (fun _ i wr => ∃ k : Nat, k ≤ ss.length ∧ i = vI k ∧ Ob wr (w.heap.size + 1) 49 (totC g (totR (ss.take k) g.data.toList) 0) ∧ Ob wr w.heap.size 49 #[vE, vO, vO, vO, vO, vO, vO, vO, vO, vO, vO, vO, vO] ∧ Below w.heap.size w wr ∧ w.heap.size + 2 ≤ wr.heap.size) (fun _ i _ => ss.length - (intOf i).toNat)
 case atStart => exact ⟨0, by omega, rfl, o1, z1, hB, by omega⟩
 case round =>
   obtain ⟨k, hk, rfl, hO, hZ, hBr, hsz⟩ := hrel; clear o1 z1 hB hs
   by_cases hlt : k < ss.length
   · obtain ⟨p, hp1, hp2⟩ := HPS.out k hlt
     obtain ⟨A', c', he, _, _, h3⟩ := HSL.out.at_
     cases he
     obtain ⟨pb, po, rfl, -, hpb, hcell⟩ := h3 (by omega); have hck := (hBr.cell (p := ⟨pb, po + k, none⟩) hpb).trans ((hcell k (by omega)).trans hp1); have hSn := hdd (show totR (ss.take (k + 1)) g.data.toList = addRow (totR (ss.take k) g.data.toList) ((aGet ss[k] g.data.toList).getD row0) by rw [List.take_succ_eq_append_getElem hlt, totR_snoc]); have hro := hp2.row g.data.toList; have hra := totR_ok (ss.take k) g.data.toList; have HSP := hdd hp2; have HLV := hdd (fun (V : World) (hb : Below w.heap.size w V) => level_any (hp2.same hb) g hg); have HFL := hdd (fun (V : World) (hb : Below w.heap.size w V) => flow_any (hp2.same hb) g hg); generalize (aGet ss[k] g.data.toList).getD row0 = r at *; generalize totR (ss.take k) g.data.toList = acc at *; obtain ⟨a0, a1, a2, a3, a4, a5, a6, a7, a8, a9, a10, rfl⟩ := row_eleven hra; obtain ⟨b0, b1, b2, b3, b4, b5, b6, b7, b8, b9, b10, rfl⟩ := row_eleven hro; replace hO : Ob wr (w.heap.size + 1) 49 #[.string g, vI a0, vI a1, vI a2, vI a3, vI a4, vI a5, vI a6, vI a7, vI a8, vI a9, vI a10, vO] := hO; replace HLV := hdd (show ∀ (V : World) (hb : Below w.heap.size w V), Calls Tryz.prog 24 #[p, .string g] V fun e w' => e = .returned (.agg #[vI b0, vI b1, vI b2, vI b3]) ∧ Below V.heap.size V w' from HLV.out); replace HFL := hdd (show ∀ (V : World) (hb : Below w.heap.size w V), Calls Tryz.prog 26 #[p, .string g] V fun e w' => e = .returned (.agg #[vI b4, vI b5, vI b6, vI b7, vI b8, vI b9, vI b10]) ∧ Below V.heap.size V w' from HFL.out); have HSN := hdd (show totR (ss.take (k + 1)) g.data.toList = [(wrap64 (a0 + b0)), (wrap64 (a1 + b1)), (wrap64 (a2 + b2)), (wrap64 (a3 + b3)), (wrap64 (a4 + b4)), (wrap64 (a5 + b5)), (wrap64 (a6 + b6)), (wrap64 (a7 + b7)), (wrap64 (a8 + b8)), (wrap64 (a9 + b9)), (wrap64 (a10 + b10))] from hSn.out)
     have hd : decide ((k : Int) < (ss.length : Int)) = true := by simp; omega
     have l1 : (0 : Int) ≤ (k : Int) := by omega
     have l2 : (k : Int) < (ss.length : Int) := by omega
     clear hcell hp1 hp2 hro hra hSn h3; have hd0 : Ob wr.drew (w.heap.size + 1) 49 #[.string g, vI a0, vI a1, vI a2, vI a3, vI a4, vI a5, vI a6, vI a7, vI a8, vI a9, vI a10, vO] := hO; have hbd := hBr.drew; have htb : w.heap.size ≤ w.heap.size + 1 := by omega
     have hZk := hdd hZ; have hZd : Ob wr.drew w.heap.size 49 #[vE, vO, vO, vO, vO, vO, vO, vO, vO, vO, vO, vO, vO] := hZ; have hsd : w.heap.size + 1 ≤ wr.drew.heap.size := by show _ ≤ wr.heap.size; omega
     generalize htbe : w.heap.size + 1 = tb at *; go_wp2_with fail; refine Pq.regionT (.look 0 (.look 1 (.look 2 (.look 3 (.look 6 (.look 7 (.look 8 (.look 9 (.look 12 (.make 4 (.make 5 (.make 10 (.make 11 (.make 13 (.look 14 (.make 15 .nil)))))))))))))))) (fun V => Ob V tb 49 #[.string g, vI a0, vI a1, vI a2, vI a3, vI a4, vI a5, vI a6, vI a7, vI a8, vI a9, vI a10, vO]) hmx (by kernel_rfl) (by kernel_rfl) (by kernel_rfl) hd0 rfl ?_; simp only [Pq.named, Pq.rest, List.getElem?_toArray, List.getElem?_cons_succ, List.getElem?_cons_zero]
     iterate 9 (first
       | (refine Pq.WalkT.off (by rfl) ?_; simp only [Act.put, zzA, zzB, zzC])
       | (apply Pq.WalkT.on (by rfl)
          · intro V hV
            have y0 := hV.cell (j := 1) (v := vI a0) rfl; have y1 := hV.cell (j := 2) (v := vI a1) rfl; have y2 := hV.cell (j := 3) (v := vI a2) rfl; have y3 := hV.cell (j := 4) (v := vI a3) rfl; have y4 := hV.cell (j := 5) (v := vI a4) rfl; have y5 := hV.cell (j := 6) (v := vI a5) rfl; have y6 := hV.cell (j := 7) (v := vI a6) rfl; have y7 := hV.cell (j := 8) (v := vI a7) rfl; have y8 := hV.cell (j := 9) (v := vI a8) rfl; have y9 := hV.cell (j := 10) (v := vI a9) rfl; have y10 := hV.cell (j := 11) (v := vI a10) rfl; go_wp2_with fail; refine ⟨rfl, ?_, rfl⟩
            try simp only [Act.put, zzA, zzB, zzC]
            rfl
          simp only [Act.put, zzA, zzB, zzC]))
     generalize hWD : wr.drew = WD at *; clear hWD; refine Pq.WalkT.make (by rfl) ?_; intro V hV; rw [hV]; clear hV V; go_wp2_with (go_at_call 24; refine (HLV.out WD hbd).mono ?_; rintro e W1 ⟨rfl, hb1⟩); have hO1 := hd0.same hb1; have hB1 := hb1.mono hsd; clear hb1 hd0; have hq1 := hB1.size; refine Pq.mk3 (.agg #[vI b0, vI b1, vI b2, vI b3]) hO1 ?_ ?_
     · try simp only [Act.put, zzA, zzB, zzC]
     try simp only [Act.put, zzA, zzB, zzC]
     refine Pq.WalkT.make (by rfl) ?_; intro V hV; rw [hV]; clear hV V; go_wp2_with (go_at_call 23; refine (glevel_calls a0 a1 a2 a3 b0 b1 b2 b3 W1).mono ?_; rintro e W2 ⟨rfl, hb2⟩); have hO2 := hO1.same hb2; have hB2 := hB1.trans (hb2.mono (by omega)); have hq2 := hB2.size; clear hb2 hO1 hB1; refine Pq.mk3 (.agg #[vI (wrap64 (a0 + b0)), vI (wrap64 (a1 + b1)), vI (wrap64 (a2 + b2)), vI (wrap64 (a3 + b3))]) hO2 ?_ ?_
     · try simp only [Act.put, zzA, zzB, zzC]
     try simp only [Act.put, zzA, zzB, zzC]
     refine Pq.WalkT.make (by rfl) ?_; intro V hV; rw [hV]; clear hV V; go_wp2_with (go_at_call 26; refine (HFL.out W2 (hbd.trans (hB2.mono htb))).mono ?_; rintro e W3 ⟨rfl, hb3⟩); have hO3 := hO2.same hb3; have hB3 := hB2.trans (hb3.mono (by omega)); have hq3 := hB3.size; clear hb3 hO2 hB2; refine Pq.mk3 (.agg #[vI b4, vI b5, vI b6, vI b7, vI b8, vI b9, vI b10]) hO3 ?_ ?_
     · try simp only [Act.put, zzA, zzB, zzC]
     try simp only [Act.put, zzA, zzB, zzC]
     refine Pq.WalkT.make (by rfl) ?_; intro V hV; rw [hV]; clear hV V; go_wp2_with (go_at_call 25; refine (gflow_calls a4 a5 a6 a7 a8 a9 a10 b4 b5 b6 b7 b8 b9 b10 W3).mono ?_; rintro e W4 ⟨rfl, hb4⟩); have hO4 := hO3.same hb4; have hB4 := hB3.trans (hb4.mono (by omega)); have hq4 := hB4.size; clear hb4 hO3 hB3; refine Pq.mk3 (.agg #[vI (wrap64 (a4 + b4)), vI (wrap64 (a5 + b5)), vI (wrap64 (a6 + b6)), vI (wrap64 (a7 + b7)), vI (wrap64 (a8 + b8)), vI (wrap64 (a9 + b9)), vI (wrap64 (a10 + b10))]) hO4 ?_ ?_
     · try simp only [Act.put, zzA, zzB, zzC]
     try simp only [Act.put, zzA, zzB, zzC]
     refine Pq.WalkT.make (by rfl) ?_; intro V hV; rw [hV]; clear hV V; have hth := hO4.there (o := 1) (n := 4) (by simp); have hO5 : Ob (W4.setCells tb 1 [vI (wrap64 (a0 + b0)), vI (wrap64 (a1 + b1)), vI (wrap64 (a2 + b2)), vI (wrap64 (a3 + b3))]) tb 49 #[.string g, vI (wrap64 (a0 + b0)), vI (wrap64 (a1 + b1)), vI (wrap64 (a2 + b2)), vI (wrap64 (a3 + b3)), vI a4, vI a5, vI a6, vI a7, vI a8, vI a9, vI a10, vO] := hO4.seg [vI (wrap64 (a0 + b0)), vI (wrap64 (a1 + b1)), vI (wrap64 (a2 + b2)), vI (wrap64 (a3 + b3))] 1; have hg5 := grownBy_segs (b := tb) [vI (wrap64 (a0 + b0)), vI (wrap64 (a1 + b1)), vI (wrap64 (a2 + b2)), vI (wrap64 (a3 + b3))] W4 1; go_wp2_with (refine wpList_store_mid rfl 45 (.tmp 28) (.tmp 21) rfl tb 1 _ rfl rfl hth (by kernel_rfl) (by simp [Value.oneCell']) ?_); have hB5 := hB4.grown hg5 (by have := hB4.size; omega) (fun k e => by cases e; exact Nat.le_refl _); have he5 : W4.setCells tb 1 (Array.toList (#[vI (wrap64 (a0 + b0)), vI (wrap64 (a1 + b1)), vI (wrap64 (a2 + b2)), vI (wrap64 (a3 + b3))] : Array Value)) = W4.setCells tb 1 [vI (wrap64 (a0 + b0)), vI (wrap64 (a1 + b1)), vI (wrap64 (a2 + b2)), vI (wrap64 (a3 + b3))] := rfl; rw [he5]; clear hth hg5 he5 hO4 hB4; generalize W4.setCells tb 1 [vI (wrap64 (a0 + b0)), vI (wrap64 (a1 + b1)), vI (wrap64 (a2 + b2)), vI (wrap64 (a3 + b3))] = W5 at *; refine ⟨rfl, undef, (fun V => Ob V tb 49 #[.string g, vI (wrap64 (a0 + b0)), vI (wrap64 (a1 + b1)), vI (wrap64 (a2 + b2)), vI (wrap64 (a3 + b3)), vI a4, vI a5, vI a6, vI a7, vI a8, vI a9, vI a10, vO]), (fun V => V = W5), rfl, rfl, (fun V h => by rw [h]; exact hO5), (.inl (by kernel_rfl)), ?_⟩
     simp only [Act.put]
     iterate 1 (first
       | (refine Pq.WalkT.off (by rfl) ?_; simp only [Act.put, zzA, zzB, zzC])
       | (apply Pq.WalkT.on (by rfl)
          · intro V hV
            go_wp2_with fail; refine ⟨rfl, ?_, rfl⟩
            try simp only [Act.put, zzA, zzB, zzC]
            rfl
          simp only [Act.put, zzA, zzB, zzC]))
     refine Pq.WalkT.make (by rfl) ?_; intro V hV; rw [hV]; clear hV V; have hth := hO5.there (o := 5) (n := 7) (by simp); have hO6 : Ob (W5.setCells tb 5 [vI (wrap64 (a4 + b4)), vI (wrap64 (a5 + b5)), vI (wrap64 (a6 + b6)), vI (wrap64 (a7 + b7)), vI (wrap64 (a8 + b8)), vI (wrap64 (a9 + b9)), vI (wrap64 (a10 + b10))]) tb 49 #[.string g, vI (wrap64 (a0 + b0)), vI (wrap64 (a1 + b1)), vI (wrap64 (a2 + b2)), vI (wrap64 (a3 + b3)), vI (wrap64 (a4 + b4)), vI (wrap64 (a5 + b5)), vI (wrap64 (a6 + b6)), vI (wrap64 (a7 + b7)), vI (wrap64 (a8 + b8)), vI (wrap64 (a9 + b9)), vI (wrap64 (a10 + b10)), vO] := hO5.seg [vI (wrap64 (a4 + b4)), vI (wrap64 (a5 + b5)), vI (wrap64 (a6 + b6)), vI (wrap64 (a7 + b7)), vI (wrap64 (a8 + b8)), vI (wrap64 (a9 + b9)), vI (wrap64 (a10 + b10))] 5; have hg6 := grownBy_segs (b := tb) [vI (wrap64 (a4 + b4)), vI (wrap64 (a5 + b5)), vI (wrap64 (a6 + b6)), vI (wrap64 (a7 + b7)), vI (wrap64 (a8 + b8)), vI (wrap64 (a9 + b9)), vI (wrap64 (a10 + b10))] W5 5; go_wp2_with (refine wpList_store_mid rfl 47 (.tmp 29) (.tmp 27) rfl tb 5 _ rfl rfl hth (by kernel_rfl) (by simp [Value.oneCell']) ?_); have hB6 := hB5.grown hg6 (by have := hB5.size; omega) (fun k e => by cases e; exact Nat.le_refl _); have he6 : W5.setCells tb 5 (Array.toList (#[vI (wrap64 (a4 + b4)), vI (wrap64 (a5 + b5)), vI (wrap64 (a6 + b6)), vI (wrap64 (a7 + b7)), vI (wrap64 (a8 + b8)), vI (wrap64 (a9 + b9)), vI (wrap64 (a10 + b10))] : Array Value)) = W5.setCells tb 5 [vI (wrap64 (a4 + b4)), vI (wrap64 (a5 + b5)), vI (wrap64 (a6 + b6)), vI (wrap64 (a7 + b7)), vI (wrap64 (a8 + b8)), vI (wrap64 (a9 + b9)), vI (wrap64 (a10 + b10))] := rfl
     rw [he6]; clear hth hg6 he6 hO5 hB5; generalize W5.setCells tb 5 [vI (wrap64 (a4 + b4)), vI (wrap64 (a5 + b5)), vI (wrap64 (a6 + b6)), vI (wrap64 (a7 + b7)), vI (wrap64 (a8 + b8)), vI (wrap64 (a9 + b9)), vI (wrap64 (a10 + b10))] = W6 at *; refine ⟨rfl, undef, (fun _ => True), (fun V => V = W6), rfl, rfl, (fun _ _ => trivial), (.inl (by kernel_rfl)), Pq.WalkT.nil ?_⟩; intro V hV; rw [hV]; clear hV V; simp only [Act.put]; have hZ6 := hZd.below hB6 (by omega); have hb6 := hbd.trans (hB6.mono htb); have hsz6 : tb ≤ W6.heap.size := by have := hB6.size; omega
     have HO6 := hdd (show Ob W6 tb 49 (totC g (totR (ss.take (k + 1)) g.data.toList) 0) by rw [HSN.out]; exact hO6); have hl6 := hO6.lt; clear hO6 hB6 hbd; go_wp2
     go_roundw
     case rel => exact ⟨k + 1, by omega, by go_num, HO6.out, hZ6, hb6, by omega⟩
     case measure => simp [intOf]; omega
   · obtain rfl : k = ss.length := by omega
     rw [List.take_length] at hO; have hd : decide ((ss.length : Int) < (ss.length : Int)) = false := by simp
     have hd' : decide (ss.length < ss.length) = false := by simp
     have hra := totR_ok ss g.data.toList; have HTV := hdd (show totV g ss = .agg (totC g (totR ss g.data.toList) (wayT (totR ss g.data.toList))) from rfl); generalize totR ss g.data.toList = acc at *; obtain ⟨a0, a1, a2, a3, a4, a5, a6, a7, a8, a9, a10, rfl⟩ := row_eleven hra; replace hO : Ob wr (w.heap.size + 1) 49 #[.string g, vI a0, vI a1, vI a2, vI a3, vI a4, vI a5, vI a6, vI a7, vI a8, vI a9, vI a10, vO] := hO; have y6 := hO.cell (j := 11) (v := vI a10) rfl; have y3 := hO.cell (j := 8) (v := vI a7) rfl; have yw := hO.cell (j := 12) (v := vO) rfl; have fw := hO.frozen 12; have hO7 : Ob (wr.setCell ⟨w.heap.size + 1, 12, none⟩ (vI (wrap64 (a10 - a7)))) (w.heap.size + 1) 49 #[.string g, vI a0, vI a1, vI a2, vI a3, vI a4, vI a5, vI a6, vI a7, vI a8, vI a9, vI a10, vI (wrap64 (a10 - a7))] := hO.set 12 (vI (wrap64 (a10 - a7))); have hZ7 := hZ.other (b' := w.heap.size + 1) (by omega) 12 (vI (wrap64 (a10 - a7))); have hB7 := hBr.grown (grownBy_set wr (w.heap.size + 1) 12 (vI (wrap64 (a10 - a7)))) (by omega) (fun k e => by cases e; omega); clear hra
     go_wp2_with (first
       | (refine wpList_load_ob rfl 49 (.tmp 5) rfl rfl _ hO7 Tryz.underlying49 rfl (by kernel_rfl) ?_)
       | (refine wpList_store_ob rfl 49 (.tmp 4) (.tmp 39) rfl rfl rfl hZ7 rfl (by kernel_rfl) (by simp [Value.oneCell']) ?_; intro w9 hO9 hg9))
     have hb9 := hB7.grown hg9 hB7.size (fun k e => by cases e; exact Nat.le_refl _); refine bodyPost_ret (v := .agg #[.string g, vI a0, vI a1, vI a2, vI a3, vI a4, vI a5, vI a6, vI a7, vI a8, vI a9, vI a10, vI (wrap64 (a10 - a7))]) ?_ rfl ⟨by rw [HTV.out]; rfl, hb9⟩; clear y6 y3 yw fw; have c0 := hO9.cell (j := 0) (v := .string g) rfl; have c1 := hO9.cell (j := 1) (v := vI a0) rfl; have c2 := hO9.cell (j := 2) (v := vI a1) rfl; have c3 := hO9.cell (j := 3) (v := vI a2) rfl; have c4 := hO9.cell (j := 4) (v := vI a3) rfl; have c5 := hO9.cell (j := 5) (v := vI a4) rfl; have c6 := hO9.cell (j := 6) (v := vI a5) rfl; have c7 := hO9.cell (j := 7) (v := vI a6) rfl; have c8 := hO9.cell (j := 8) (v := vI a7) rfl; have c9 := hO9.cell (j := 9) (v := vI a8) rfl; have c10 := hO9.cell (j := 10) (v := vI a9) rfl; have c11 := hO9.cell (j := 11) (v := vI a10) rfl; have c12 := hO9.cell (j := 12) (v := vI (wrap64 (a10 - a7))) rfl; simp [results, Tryz.f10, go_sem, c0, c1, c2, c3, c4, c5, c6, c7, c8, c9, c10, c11, c12]
end
end Sk
end Go.Proofs.YtgcnhmjpfbbfcaaGreat
