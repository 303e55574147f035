/-
  a stock of goods: Do.
-/
import Derived.Test.YtlhpdalfnjhokaaSkD
import Derived.Test.YtlhpdalfnjhokaaLayed
namespace Go.Proofs.Ytlhpdalfnjhokaa
open Go.RowKit Go.Maps
namespace Sk
open It Al Kp
attribute [local go_sem] Oper.semAt_some
def goStep (k : Int) (o : Option Stk) (x : It.Item) : Option Stk := o.bind fun s => let q := stepR k ((aGet s (key x)).getD row0) x.2; if rightR q = true then some (aPut strK s (key x) q) else none
def doGo (k : Int) (s : Stk) (l : List It.Item) : Option Stk := l.foldl (goStep k) (some s)
def doS (s : Stk) (k : Int) (l : List It.Item) : Stk × Int :=
  if k < 1 ∨ 11 < k then (s, 1) else if It.may l = false then (s, 60) else if mayS s k l ≠ 0 then (s, mayS s k l) else match doGo k s l with
    | none => (s, 50)
    | some s' => if 64 < s'.length then (s, 2) else (s', 0)
theorem doGo_snoc (k : Int) (s : Stk) (l : List It.Item) (x : It.Item) : doGo k s (l ++ [x]) = goStep k (doGo k s l) x := by
  unfold doGo
  rw [List.foldl_append]
  rfl
theorem doGo_none (k : Int) : ∀ l : List It.Item, l.foldl (goStep k) none = none
  | [] => rfl
  | _ :: r => doGo_none k r
theorem doGo_prefix {k : Int} {s : Stk} {p l : List It.Item} (h : p <+: l) (hp : doGo k s p = none) : doGo k s l = none := by
  obtain ⟨r, rfl⟩ := h
  unfold doGo at hp ⊢
  rw [List.foldl_append, hp]
  exact doGo_none k r
/-- what Do leaves alone -/
def DoKept (b : Nat) (w w' : World) : Prop := Kept (fun i => i < w.heap.size ∧ i ≠ b) w w'
theorem DoKept.of_below {b : Nat} {w w' : World} (h : Below w.heap.size w w') : DoKept b w w' := Kept.of_below h fun _ hi => hi.1
theorem clone_calls (mb : Nat) (m : List (Key × Value)) (w : World) (h : GMap strK w Try.prog 9 mb m) :
    Calls Try.prog 41 #[.map (some mb)] w fun e w' => e = .returned (.map (some w.heap.size)) ∧ GMap strK w' Try.prog 9 w.heap.size m ∧ w.heap.size < w'.heap.size ∧ Below w.heap.size w w' := by
  have hcon := AnyW.maps_Clone_owns Try.clone41 9 hold mb m.length _ w h
  refine hcon.mono ?_
  rintro e w' ⟨rfl, h1, -, hb⟩
  exact ⟨rfl, h1, World.ownsMap.lt h1, hb⟩
theorem StkAt.out {w w' : World} {base b mb : Nat} {s : Stk} (h : StkAt w base b mb s) (hb : Below w.heap.size w w') : (∃ mb', StkAt w' base b mb' s ∧ (mb' = mb ∨ w.heap.size ≤ mb')) ∧ DoKept b w w' := ⟨⟨mb, h.same hb, .inl rfl⟩, DoKept.of_below hb⟩
section
variable {w : World} {base b mb : Nat} {s : Stk}
set_option maxRecDepth 100000 in
set_option maxHeartbeats 4000000 in
theorem do_arg (h : StkAt w base b mb s) (k : Int) (v : Value) (hk : k < 1 ∨ 11 < k) :
    Calls Try.prog 24 #[.pointer (some ⟨b, 0, none⟩), .int .i64 k, v] w fun e w' => e = .returned (.int .i64 1) ∧ Below w.heap.size w w' := by
  refine (callsIn_wide (n := 6)).1 ?_
  refine callsIn_of_wp_marks Try.func24 rfl trivial ?_ rfl
  simp only [Try.ntmps24, List.size_toArray, List.length_cons, List.length_nil, Nat.reduceAdd, Nat.reduceSub, Array.replicate_succ, Array.replicate_zero, List.push_toArray, List.append_toArray, List.nil_append, List.cons_append]
  gi_wp2
  have o0 := (Ob.new w 3 #[.int .i64 k]).alloc (.cells #[.int .i64 0] 58)
  have o1 := Ob.new (w.alloc (.cells #[.int .i64 k] 3)) 58 #[.int .i64 0]
  have hB2 : Below w.heap.size w ((w.alloc (.cells #[.int .i64 k] 3)).alloc (.cells #[.int .i64 0] 58)) := ((Below.refl _ w).alloc (Nat.le_refl _) _).alloc (by simp) _
  simp only [World.size_alloc] at o1
  have hs2 : w.heap.size + 2 = ((w.alloc (.cells #[.int .i64 k] 3)).alloc (.cells #[.int .i64 0] 58)).heap.size := by simp
  generalize ((w.alloc (.cells #[.int .i64 k] 3)).alloc (.cells #[.int .i64 0] 58)) = w2 at *
  have h2 := h.same hB2
  refine ⟨trivial, (callsIn_wide.2 (made_calls b mb w2 (h2.ob.cell (j := 0) rfl))).mono ?_⟩
  rintro e W' ⟨rfl, rfl⟩
  have hcs : decide (k < 1) = true ∨ (decide (k < 1) = false ∧ decide (k > 11) = true) := by
    by_cases h : k < 1
    · exact .inl (by simpa using h)
    · exact .inr ⟨by simpa using h, by simp; omega⟩
  have c0 := o0.cell (j := 0) (v := .int .i64 k) rfl
  have c1 := o1.cell (j := 0) (v := .int .i64 0) rfl
  have f1 := o1.frozen 0
  have p1 := o1.set 0 (.int .i64 1)
  have hBB := hB2.grown (grownBy_set w2 (w.heap.size + 1) 0 (.int .i64 1)) (by have := hB2.size; omega) (fun k e => by cases e; omega)
  have C2 := (show Ob (w2.setCell ⟨w.heap.size + 1, 0, none⟩ (.int .i64 1)) (w.heap.size + 1) 58 #[.int .i64 1] from p1).cell (j := 0) (v := .int .i64 1) rfl
  have HC2 := Lib.hid C2
  clear C2 hk
  rcases hcs with q1 | ⟨q1, q2⟩
  · gi_wp2
    refine ⟨.int .i64 1, ?_, rfl, hBB⟩
    clear c0 c1 f1
    simp [results, Try.f24, go_sem, HC2.out]
  · gi_wp2
    refine ⟨.int .i64 1, ?_, rfl, hBB⟩
    clear c0 c1 f1
    simp [results, Try.f24, go_sem, HC2.out]
set_option maxRecDepth 100000 in
set_option maxHeartbeats 4000000 in
theorem do_items (h : StkAt w base b mb s) (k : Int) (L : List It.Item) (v : Value) (hI : ItemsAt w 0 w.heap.size v L) (hF : Fits L) (hk : ¬ (k < 1 ∨ 11 < k)) (hm : It.may L = false) :
    Calls Try.prog 24 #[.pointer (some ⟨b, 0, none⟩), .int .i64 k, v] w fun e w' => e = .returned (.int .i64 60) ∧ Below w.heap.size w w' := by
  refine (callsIn_wide (n := 6)).1 ?_
  refine callsIn_of_wp_marks Try.func24 rfl trivial ?_ rfl
  simp only [Try.ntmps24, List.size_toArray, List.length_cons, List.length_nil, Nat.reduceAdd, Nat.reduceSub, Array.replicate_succ, Array.replicate_zero, List.push_toArray, List.append_toArray, List.nil_append, List.cons_append]
  gi_wp2
  have o0 := (Ob.new w 3 #[.int .i64 k]).alloc (.cells #[.int .i64 0] 58)
  have o1 := Ob.new (w.alloc (.cells #[.int .i64 k] 3)) 58 #[.int .i64 0]
  have hB2 : Below w.heap.size w ((w.alloc (.cells #[.int .i64 k] 3)).alloc (.cells #[.int .i64 0] 58)) := ((Below.refl _ w).alloc (Nat.le_refl _) _).alloc (by simp) _
  simp only [World.size_alloc] at o1
  have hs2 : w.heap.size + 2 = ((w.alloc (.cells #[.int .i64 k] 3)).alloc (.cells #[.int .i64 0] 58)).heap.size := by simp
  generalize ((w.alloc (.cells #[.int .i64 k] 3)).alloc (.cells #[.int .i64 0] 58)) = w2 at *
  have h2 := h.same hB2
  refine ⟨trivial, (callsIn_wide.2 (made_calls b mb w2 (h2.ob.cell (j := 0) rfl))).mono ?_⟩
  rintro e W' ⟨rfl, rfl⟩
  have q1 : decide (k < 1) = false := by simp; omega
  have q2 : decide (k > 11) = false := by simp; omega
  have c0 := o0.cell (j := 0) (v := .int .i64 k) rfl
  have cM := It.may_calls L v w2 (hI.mono hB2 hB2.size) hF
  rw [hm] at cM
  clear hk
  gi_wp2
  refine ⟨trivial, (callsIn_wide.2 cM).mono ?_⟩
  rintro e w3 ⟨rfl, hb3⟩
  have o3 := o1.same hb3
  have hB3 := hB2.trans (hb3.mono hB2.size)
  clear c0 o0 o1 hb3 cM h2 hB2
  have c1 := o3.cell (j := 0) (v := .int .i64 0) rfl
  have f1 := o3.frozen 0
  have p1 := o3.set 0 (.int .i64 60)
  have hBB := hB3.grown (grownBy_set w3 (w.heap.size + 1) 0 (.int .i64 60)) (by have := hB3.size; omega) (fun k e => by cases e; omega)
  have C2 := (show Ob (w3.setCell ⟨w.heap.size + 1, 0, none⟩ (.int .i64 60)) (w.heap.size + 1) 58 #[.int .i64 60] from p1).cell (j := 0) (v := .int .i64 60) rfl
  have HC2 := Lib.hid C2
  clear C2
  gi_wp2
  refine ⟨.int .i64 60, ?_, rfl, hBB⟩
  clear c1 f1
  simp [results, Try.f24, go_sem, HC2.out]
set_option maxRecDepth 100000 in
set_option maxHeartbeats 4000000 in
theorem do_may (h : StkAt w base b mb s) (k : Int) (L : List It.Item) (v : Value) (hI : ItemsAt w 0 w.heap.size v L) (hF : Fits L) (hk : ¬ (k < 1 ∨ 11 < k)) (hm : It.may L = true) (hc : mayS s k L ≠ 0) :
    Calls Try.prog 24 #[.pointer (some ⟨b, 0, none⟩), .int .i64 k, v] w fun e w' => e = .returned (.int .i64 (mayS s k L)) ∧ Below w.heap.size w w' := by
  refine (callsIn_wide (n := 6)).1 ?_
  refine callsIn_of_wp_marks Try.func24 rfl trivial ?_ rfl
  simp only [Try.ntmps24, List.size_toArray, List.length_cons, List.length_nil, Nat.reduceAdd, Nat.reduceSub, Array.replicate_succ, Array.replicate_zero, List.push_toArray, List.append_toArray, List.nil_append, List.cons_append]
  gi_wp2
  have o0 := (Ob.new w 3 #[.int .i64 k]).alloc (.cells #[.int .i64 0] 58)
  have o1 := Ob.new (w.alloc (.cells #[.int .i64 k] 3)) 58 #[.int .i64 0]
  have hB2 : Below w.heap.size w ((w.alloc (.cells #[.int .i64 k] 3)).alloc (.cells #[.int .i64 0] 58)) := ((Below.refl _ w).alloc (Nat.le_refl _) _).alloc (by simp) _
  simp only [World.size_alloc] at o1
  have hs2 : w.heap.size + 2 = ((w.alloc (.cells #[.int .i64 k] 3)).alloc (.cells #[.int .i64 0] 58)).heap.size := by simp
  generalize ((w.alloc (.cells #[.int .i64 k] 3)).alloc (.cells #[.int .i64 0] 58)) = w2 at *
  have h2 := h.same hB2
  refine ⟨trivial, (callsIn_wide.2 (made_calls b mb w2 (h2.ob.cell (j := 0) rfl))).mono ?_⟩
  rintro e W' ⟨rfl, rfl⟩
  have q1 : decide (k < 1) = false := by simp; omega
  have q2 : decide (k > 11) = false := by simp; omega
  have c0 := o0.cell (j := 0) (v := .int .i64 k) rfl
  have cM := It.may_calls L v w2 (hI.mono hB2 hB2.size) hF
  rw [hm] at cM
  clear hk
  gi_wp2
  refine ⟨trivial, (callsIn_wide.2 cM).mono ?_⟩
  rintro e w3 ⟨rfl, hb3⟩
  have o3 := o1.same hb3
  have hB3 := hB2.trans (hb3.mono hB2.size)
  have c0' := (o0.same hb3).cell (j := 0) (v := .int .i64 k) rfl
  have cY := may_calls (h.same hB3) k L v (hI.mono hB3 hB3.size) hF
  obtain ⟨M, hM⟩ : ∃ M, M = mayS s k L := ⟨_, rfl⟩
  rw [← hM] at cY hc
  have HM := Lib.hid hM
  have hd : (M != 0) = true := by rw [bne_iff_ne]; exact hc
  clear c0 o1 hb3 cM h2 hB2 hM
  gi_wp2
  refine ⟨trivial, (callsIn_wide.2 cY).mono ?_⟩
  rintro e w4 ⟨rfl, hb4⟩
  have o4 := o3.same hb4
  have hB4 := hB3.trans (hb4.mono hB3.size)
  clear c0' o3 hb4 cY hB3
  have c1 := o4.cell (j := 0) (v := .int .i64 0) rfl
  have f1 := o4.frozen 0
  have p1 := o4.set 0 (.int .i64 M)
  have hBB := hB4.grown (grownBy_set w4 (w.heap.size + 1) 0 (.int .i64 M)) (by have := hB4.size; omega) (fun k e => by cases e; omega)
  have C2 := (show Ob (w4.setCell ⟨w.heap.size + 1, 0, none⟩ (.int .i64 M)) (w.heap.size + 1) 58 #[.int .i64 M] from p1).cell (j := 0) (v := .int .i64 M) rfl
  have HC2 := Lib.hid C2
  clear C2
  gi_wp2
  refine ⟨.int .i64 M, ?_, by rw [HM.out], hBB⟩
  clear c1 f1
  simp [results, Try.f24, go_sem, HC2.out]
def goS (s : Stk) (k : Int) (l : List It.Item) : Stk × Int := match doGo k s l with
    | none => (s, 50)
    | some s' => if 64 < s'.length then (s, 2) else (s', 0)
theorem OkRow.put {s : Stk} (h : ∀ p ∈ s, OkP p) {g : Key} {r : Row} (hr : OkRow r) (hg : g.length ≤ maxLen) : ∀ p ∈ aPut strK s g r, OkP p := fun p hp => by
  rcases aPut_mem.1 hp with rfl | ⟨h1, -⟩
  · exact ⟨hr, hg⟩
  · exact h p h1
theorem get_row {s : Stk} (h : ∀ p ∈ s, OkP p) (g : Key) : OkRow ((aGet s g).getD row0) := by
  cases hg : aGet s g with
  | none => exact OkRow.zero
  | some r => exact (h _ (aGet_mem hg)).row
set_option maxRecDepth 100000 in
set_option maxHeartbeats 16000000 in
theorem do_go (h : StkAt w base b mb s) (k : Int) (L : List It.Item) (v : Value) (hI : ItemsAt w 0 w.heap.size v L) (hF : Fits L) (hk : ¬ (k < 1 ∨ 11 < k)) (hm : It.may L = true) (hc : mayS s k L = 0) :
    Calls Try.prog 24 #[.pointer (some ⟨b, 0, none⟩), .int .i64 k, v] w fun e w' => e = .returned (.int .i64 (goS s k L).2) ∧ (∃ mb', StkAt w' base b mb' (goS s k L).1 ∧ (mb' = mb ∨ w.heap.size ≤ mb')) ∧ DoKept b w w' := by
  obtain ⟨A, c, rfl, hcl1, hcl2⟩ := hI.form
  unfold maxLen at hcl2
  have hML := (It.may_iff L).1 hm
  have hMok := Lib.hid hML.ok
  have hMlen := hML.len
  clear hML
  refine (callsIn_wide (n := 6)).1 ?_
  refine callsIn_of_wp_marks Try.func24 rfl trivial ?_ rfl
  simp only [Try.ntmps24, List.size_toArray, List.length_cons, List.length_nil, Nat.reduceAdd, Nat.reduceSub, Array.replicate_succ, Array.replicate_zero, List.push_toArray, List.append_toArray, List.nil_append, List.cons_append]
  gi_wp2
  have o0 := (Ob.new w 3 #[.int .i64 k]).alloc (.cells #[.int .i64 0] 58)
  have o1 := Ob.new (w.alloc (.cells #[.int .i64 k] 3)) 58 #[.int .i64 0]
  have hB2 : Below w.heap.size w ((w.alloc (.cells #[.int .i64 k] 3)).alloc (.cells #[.int .i64 0] 58)) := ((Below.refl _ w).alloc (Nat.le_refl _) _).alloc (by simp) _
  simp only [World.size_alloc] at o1
  have hs2 : w.heap.size + 2 = ((w.alloc (.cells #[.int .i64 k] 3)).alloc (.cells #[.int .i64 0] 58)).heap.size := by simp
  generalize ((w.alloc (.cells #[.int .i64 k] 3)).alloc (.cells #[.int .i64 0] 58)) = w2 at *
  have h2 := h.same hB2
  refine ⟨trivial, (callsIn_wide.2 (made_calls b mb w2 (h2.ob.cell (j := 0) rfl))).mono ?_⟩
  rintro e W' ⟨rfl, rfl⟩
  have q1 : decide (k < 1) = false := by simp; omega
  have q2 : decide (k > 11) = false := by simp; omega
  have c0 := o0.cell (j := 0) (v := .int .i64 k) rfl
  have cM := It.may_calls L _ w2 (hI.mono hB2 hB2.size) hF
  rw [hm] at cM
  clear hk
  gi_wp2
  refine ⟨trivial, (callsIn_wide.2 cM).mono ?_⟩
  rintro e w3 ⟨rfl, hb3⟩
  have o3 := o1.same hb3
  have o03 := o0.same hb3
  have hB3 := hB2.trans (hb3.mono hB2.size)
  have c0' := o03.cell (j := 0) (v := .int .i64 k) rfl
  have cY := may_calls (h.same hB3) k L _ (hI.mono hB3 hB3.size) hF
  rw [hc] at cY
  clear c0 o1 o0 hb3 cM h2 hB2 hc hm
  gi_wp2
  refine ⟨trivial, (callsIn_wide.2 cY).mono ?_⟩
  rintro e w4 ⟨rfl, hb4⟩
  have o4 := o3.same hb4
  have o04 := o03.same hb4
  have hB4 := hB3.trans (hb4.mono hB3.size)
  clear c0' o3 o03 hb4 cY hB3
  have h4 := h.same hB4
  have z4 := h4.ob.cell (j := 0) (v := .map (some mb)) rfl
  gi_wp2
  refine ⟨trivial, (callsIn_wide.2 (clone_calls mb _ w4 h4.map)).mono ?_⟩
  rintro e w5 ⟨rfl, hg5, hlt5, hb5⟩
  have o5 := o4.same hb5
  have o05 := o04.same hb5
  have hB5 := hB4.trans (hb5.mono hB4.size)
  have hs45 : w.heap.size ≤ w4.heap.size := hB4.size
  have hs4' : w.heap.size + 1 < w4.heap.size := o4.lt
  clear o4 o04 hb5 hB4 h4 z4
  generalize w4.heap.size = mb2 at *
  gi_wp2_with (refine ⟨trivial, ?_⟩; gi_at_call 42; refine (callsIn_wide.2 (all_calls A _ c _)).mono ?_; rintro e w' ⟨rfl, rfl⟩)
  have a6 := hB5.alloc hB5.size (.cells #[.map (some mb2)] 80)
  have o6 := (o5.alloc (.cells #[.map (some mb2)] 80)).alloc (.cells #[.slice A L.length c] 55)
  have o06 := (o05.alloc (.cells #[.map (some mb2)] 80)).alloc (.cells #[.slice A L.length c] 55)
  have v6 := (Ob.new w5 80 #[.map (some mb2)]).alloc (.cells #[.slice A L.length c] 55)
  have s6 := Ob.new (w5.alloc (.cells #[.map (some mb2)] 80)) 55 #[.slice A L.length c]
  have g6 := (hg5.kept (World.grownBy_alloc w5 (.cells #[.map (some mb2)] 80) none) (by simp)).kept (World.grownBy_alloc (w5.alloc (.cells #[.map (some mb2)] 80)) (.cells #[.slice A L.length c] 55) none) (by simp)
  have hB6 := a6.alloc a6.size (.cells #[.slice A L.length c] 55)
  have hsz6 : ((w5.alloc (.cells #[.map (some mb2)] 80)).alloc (.cells #[.slice A L.length c] 55)).heap.size = w5.heap.size + 2 := by simp
  simp only [World.size_alloc] at s6
  clear o5 o05 hg5 a6
  generalize (w5.alloc (.cells #[.map (some mb2)] 80)).alloc (.cells #[.slice A L.length c] 55) = w6 at *
  generalize w5.heap.size = vb at *
  have HB6 := Lib.hid hB6
  have HH := Lib.hid h
  clear hB6 h hB5
  have HL64 := Lib.hid HH.out.len
  have HOKS := Lib.hid HH.out.ok
  apply (range_all (n := 6) rfl trivial (by omega) (Bs := vb + 1) (n₀ := w.heap.size) (v := .slice A L.length c) (L := L) rfl rfl (by omega) (by omega) (s6.cell (j := 0) rfl) (hI.below HB6.out)
    (fun pre W => Ob W w.heap.size 3 #[.int .i64 k] ∧ Ob W (w.heap.size + 1) 58 #[.int .i64 0] ∧ Ob W vb 80 #[.map (some mb2)] ∧ ∃ s', doGo k s (vals pre) = some s' ∧ GMap strK W Try.prog 9 mb2 (gm rowV s') ∧ (∀ p ∈ s', OkP p) ∧ s'.length ≤ s.length + pre.length)
    (fun c pre W => c = .ret ∧ doGo k s (vals pre) = none ∧ Ob W (w.heap.size + 1) 58 #[.int .i64 50])
    (fun s A B row hs hg hr => ⟨ob_keep hs.1 hg (fun r e => (hr r e).2), ob_keep hs.2.1 hg (fun r e => (hr r e).2), ob_keep hs.2.2.1 hg (fun r e => (hr r e).2), by
      obtain ⟨s', h1, h2, h3⟩ := hs.2.2.2
      exact ⟨s', h1, h2.kept hg (fun e => by have := (hr _ e.symm).1; omega), h3⟩⟩)
    (fun c s A B row hs hg hr => ⟨hs.1, hs.2.1, ob_keep hs.2.2 hg (fun r e => (hr r e).2)⟩)
    ⟨o06, o6, v6, s, rfl, g6, HOKS.out, by simp⟩)
  case hassign =>
    intro l x W K hK
    dsimp only [enc2]
    gi_wp2
    exact hK
  case hbody =>
    rintro l pre ⟨⟨xs, xn⟩, hx⟩ W ⟨p0, p1, pv, s', hgo, hgm, hok, hsl⟩ hB hsz hlen
    have hfit := hF _ hx
    have hMx := hMok.out _ hx
    have hkey := Lib.hid (key_str hfit.1)
    have hro := Lib.hid (get_row hok (key (xs, xn)))
    obtain ⟨hl1, -⟩ := look_row s' (key (xs, xn))
    have hS := Lib.hid (show doGo k s (vals (pre ++ [⟨(xs, xn), hx⟩])) = if rightR (stepR k ((aGet s' (key (xs, xn))).getD row0) xn) = true then some (aPut strK s' (key (xs, xn)) (stepR k ((aGet s' (key (xs, xn))).getD row0) xn)) else none by rw [vals_snoc, doGo_snoc, hgo]; rfl)
    have hxn1 : 1 ≤ xn := hMx.2.1
    have HKL := Lib.hid (show (key (xs, xn)).length ≤ maxLen from by have := hfit.1; unfold key; simpa using this)
    have hxn2 : xn ≤ 1099511627776 := hMx.2.2
    have HOK := Lib.hid hok
    have hpl : (pre ++ [(⟨(xs, xn), hx⟩ : Of L)]).length = pre.length + 1 := by simp
    have HPL := Lib.hid hpl
    clear hgo hMx hfit hok hpl
    generalize (aGet s' (key (xs, xn))).getD row0 = r at *
    have HL1 := Lib.hid hl1
    clear hl1
    have y0 := p0.cell (j := 0) (v := .int .i64 k) rfl
    have yv := pv.cell (j := 0) (v := .map (some mb2)) rfl
    have hsl6 := hB.size
    have oN := Ob.new W 84 #[.int .i64 0, .int .i64 0, .int .i64 0, .int .i64 0, .int .i64 0, .int .i64 0, .int .i64 0, .int .i64 0, .int .i64 0, .int .i64 0, .int .i64 0]
    have HNB := Lib.hid (fun (W3 : World) (hg3 : (W.alloc (.cells #[.int .i64 0, .int .i64 0, .int .i64 0, .int .i64 0, .int .i64 0, .int .i64 0, .int .i64 0, .int .i64 0, .int .i64 0, .int .i64 0, .int .i64 0] 84)).grownBy W3 (some W.heap.size)) => (((Below.refl W.heap.size W).alloc (Nat.le_refl _) _).grown hg3 (by simp) (fun k e => by cases e; exact Nat.le_refl _) : Below W.heap.size W W3))
    have hp1 := p1.lt
    have hpv := pv.lt
    have hlm := hgm.lt
    dsimp only at hkey ⊢
    gi_wp2_with (first
      | (gi_at_lookup; refine wpListIn_look_g rfl (.tmp 46) (.tmp 47) _ rfl 9 _ keyedS Try.underlying80 rfl hgm (zeroRow _) _ _ rfl hkey.out _ HL1.out ?_)
      | (refine wpListIn_store_ob rfl 84 (.tmp 11) (.tmp 48) rfl rfl rfl oN (by rw [rowC_size hro.out]; rfl) (row_size hro.out) (rowC_one r) ?_; intro W3 hO3 hg3; have hb3 := HNB.out _ hg3; have y3 := (p0.same hb3).cell (j := 0) (v := .int .i64 k) rfl))
    refine ⟨trivial, (CallsIn.inRound l (callsIn_wide.2 (road_calls k W.heap.size W3))).mono ?_⟩
    rintro e W4 ⟨rfl, h4⟩
    have hb4 := hb3.trans (h4.mono hb3.size)
    have hO4 := hO3.same h4
    clear y0 yv y3 hb3 hg3 h4 hO3 oN HNB
    have hlt := road_lt k
    have HST := Lib.hid (show addR (addR (addR r (road k).1 (-xn)) (road k).2.1 xn) (road k).2.2 xn = stepR k r xn from rfl)
    generalize (road k).1 = j1 at *
    generalize (road k).2.1 = j2 at *
    generalize (road k).2.2 = j3 at *
    obtain ⟨d1, d2, d3⟩ := hlt
    have hneg : wrap64 (-xn) = -xn := by unfold wrap64; omega
    have HNEG := Lib.hid hneg
    clear hneg
    have cA1 := fun V (hV : Ob V W.heap.size 84 (rowC r)) => add_calls W.heap.size j1 (-xn) hro.out d1 hV
    have hr1 := Lib.hid (hro.out.add j1 (-xn))
    have cA2 := fun V (hV : Ob V W.heap.size 84 (rowC (addR r j1 (-xn)))) => add_calls W.heap.size j2 xn hr1.out d2 hV
    have hr2 := Lib.hid (hr1.out.add j2 xn)
    have cA3 := fun V (hV : Ob V W.heap.size 84 (rowC (addR (addR r j1 (-xn)) j2 xn))) => add_calls W.heap.size j3 xn hr2.out d3 hV
    have hr3 := Lib.hid (hr2.out.add j3 xn)
    generalize ptr W.heap.size j1 = v1 at *
    generalize ptr W.heap.size j2 = v2 at *
    generalize ptr W.heap.size j3 = v3 at *
    have C1 := Lib.hid cA1
    have C2 := Lib.hid cA2
    have C3 := Lib.hid cA3
    clear cA1 cA2 cA3 d1 d2 d3
    gi_wp2
    refine ⟨trivial, (CallsIn.inRound l (callsIn_wide.2 (C1.out _ hO4))).mono ?_⟩
    rintro e W5 ⟨rfl, hO5, hg5⟩
    have hb5 := hb4.grown hg5 hb4.size (fun k e => by cases e; exact Nat.le_refl _)
    clear hg5 hO4 hb4
    gi_wp2
    refine ⟨trivial, (CallsIn.inRound l (callsIn_wide.2 (C2.out _ hO5))).mono ?_⟩
    rintro e W6 ⟨rfl, hO6, hg6⟩
    have hb6 := hb5.grown hg6 hb5.size (fun k e => by cases e; exact Nat.le_refl _)
    clear hg6 hO5 hb5
    gi_wp2
    refine ⟨trivial, (CallsIn.inRound l (callsIn_wide.2 (C3.out _ hO6))).mono ?_⟩
    rintro e W7 ⟨rfl, hO7, hg7⟩
    have hb7 := hb6.grown hg7 hb6.size (fun k e => by cases e; exact Nat.le_refl _)
    clear hg7 hO6 hb6
    have hrq := hr3.out
    rw [HST.out] at hO7 hrq
    generalize stepR k r xn = q at *
    have HRQ := Lib.hid hrq
    have cRT := right_calls W.heap.size hrq hO7
    clear C1 C2 C3 hr1 hr2 hr3 HST HNEG hrq
    gi_wp2
    refine ⟨trivial, (CallsIn.inRound l (callsIn_wide.2 cRT)).mono ?_⟩
    rintro e W8 ⟨rfl, hb8⟩
    have hO8 := hO7.same hb8
    have hbb := hb7.trans (hb8.mono hb7.size)
    clear cRT hO7 hb7 hb8
    have hWs := hbb.size
    cases hrt : rightR q with
    | false =>
      have HS2 := Lib.hid (show doGo k s (vals (pre ++ [⟨(xs, xn), hx⟩])) = none by rw [hS.out, hrt]; rfl)
      have c1 := (p1.same hbb).cell (j := 0) (v := .int .i64 0) rfl
      have f1 := (p1.same hbb).frozen 0
      gi_wp2
      exact ⟨keeps_set (keeps_below _ hbb) _ _, (hbb.mono (B' := w.heap.size) (by omega)).setCell (p := ⟨w.heap.size + 1, 0, none⟩) (by simp) _, rfl, HS2.out, (p1.same hbb).set 0 _⟩
    | true =>
      have HS2 := Lib.hid (show doGo k s (vals (pre ++ [⟨(xs, xn), hx⟩])) = some (aPut strK s' (key (xs, xn)) q) by rw [hS.out, hrt]; rfl)
      have yv := (pv.same hbb).cell (j := 0) (v := .map (some mb2)) rfl
      have hgm8 := hgm.below hbb hlm
      have hsl2 := aPut_length_le (K := strK) s' (key (xs, xn)) q
      have hml : (gm rowV s').length < maxLen := by rw [gm_length]; have := HL64.out; unfold maxLen; omega
      have hrv : rowV q = .agg (rowC q) := rfl
      have HPUT := Lib.hid (gm_put (f := rowV) (K := strK) s' (key (xs, xn)) q)
      have hOb8 := Lib.hid hO8
      clear hrv hgm
      gi_wp2_with (first
        | (refine wpListIn_load_ob rfl 84 (.tmp 11) rfl rfl _ hO8 Try.underlying84 rfl (row_size HRQ.out) ?_)
        | (gi_at_mapUpdate; refine wpListIn_put_g rfl (.tmp 67) (.tmp 68) (.tmp 69) _ rfl 9 _ keyedS Try.underlying80 rfl hgm8 hml _ _ _ rfl rfl hkey.out ?_; intro W9 hgm9 hg9))
      have hgm9' : GMap strK W9 Try.prog 9 mb2 (gm rowV (aPut strK s' (key (xs, xn)) q)) := by
        rw [← HPUT.out]
        exact hgm9
      have hsz9 := hg9.size
      refine ⟨⟨Nat.le_trans hWs hsz9, fun i _ hi ho _ => (hg9.block i (Nat.lt_of_lt_of_le (Array.getElem?_eq_some_iff.1 ho).1 hWs) (fun e => by have := Option.some.inj e; omega)).trans ((hbb.block i (Array.getElem?_eq_some_iff.1 ho).1).trans ho)⟩,
        (hbb.mono (B' := w.heap.size) (by omega)).grown hg9 (by omega) (fun g hg => by have := Option.some.inj hg; omega), (p0.same hbb).kept hg9 (fun e => by have := Option.some.inj e; omega), (p1.same hbb).kept hg9 (fun e => by have := Option.some.inj e; omega), (pv.same hbb).kept hg9 (fun e => by have := Option.some.inj e; omega), _, HS2.out, hgm9', (fun a b hab => OkRow.put HOK.out HRQ.out HKL.out (a, b) hab), by rw [HPL.out]; omega⟩
  case hstop =>
    rintro D c pre X hD hpre ⟨rfl, hgo, p1⟩ hB hK
    have HC := Lib.hid (show goS s k L = (s, 50) by unfold goS; rw [doGo_prefix (vals_prefix hpre) hgo])
    clear hgo
    gi_wp2
    refine ⟨by simp, .inl ⟨_, _, rfl, run_takeDeferred hK, ?_⟩⟩
    have c4 := (boxed_end (show Boxed X (w.heap.size + 1) 58 (.int .i64 50) from p1) hK).cell
    have hBF := below_end (HB6.out.trans hB) (by omega) hK
    refine ⟨.int .i64 50, ?_, by rw [HC.out], by rw [HC.out]; exact HH.out.out hBF⟩
    simp [results, Try.f24, go_sem, c4]
  case hdone =>
    rintro D X hD ⟨p0, p1, pv, s', hgo, hgm, hok, hsl⟩ hB hK
    rw [vals_all] at hgo
    have HC := Lib.hid (show goS s k L = if 64 < s'.length then (s, 2) else (s', 0) by unfold goS; rw [hgo])
    clear hgo
    have yv := pv.cell (j := 0) (v := .map (some mb2)) rfl
    have hln := fun ty => hgm.len Try.underlying80 ty
    simp only [gm_length] at hln
    have c1 := p1.cell (j := 0) (v := .int .i64 0) rfl
    have f1 := p1.frozen 0
    have hlm := hgm.lt
    by_cases hbig : 64 < s'.length
    · have HC2 := Lib.hid (show goS s k L = (s, 2) by rw [HC.out, if_pos hbig])
      have hd : decide ((s'.length : Int) > 64) = true := by simp; omega
      gi_wp2
      have hp3 := p1.set 0 (.int .i64 2)
      have g1 := grownBy_set X (w.heap.size + 1) 0 (.int .i64 2)
      have hB3 := (HB6.out.trans hB).grown g1 (by have := hB.size; omega) (fun k e => by cases e; omega)
      have hK3 := (g1.block D (Array.getElem?_eq_some_iff.1 hK).1 (fun e => by have := Option.some.inj e; omega)).trans hK
      refine ⟨by simp, .inl ⟨_, _, rfl, run_takeDeferred hK3, ?_⟩⟩
      have c4 := (boxed_end (show Boxed (X.setCell ⟨w.heap.size + 1, 0, none⟩ (.int .i64 2)) (w.heap.size + 1) 58 (.int .i64 2) from hp3) hK3).cell
      have hBF := below_end hB3 (by omega) hK3
      refine ⟨.int .i64 2, ?_, by rw [HC2.out], by rw [HC2.out]; exact HH.out.out hBF⟩
      simp [results, Try.f24, go_sem, c4]
    · have HC2 := Lib.hid (show goS s k L = (s', 0) by rw [HC.out, if_neg hbig])
      have hd : decide ((s'.length : Int) > 64) = false := by simp; omega
      have hX := HH.out.same (HB6.out.trans hB)
      have zb := hX.ob.cell (j := 0) (v := .map (some mb)) rfl
      have fb := hX.ob.frozen 0
      have hbl := HH.out.ob.lt
      have hlo := HH.out.lo
      have c1' := (p1.other (b' := b) (by omega) 0 (.map (some mb2))).cell (j := 0) (v := .int .i64 0) rfl
      have f1' := (p1.other (b' := b) (by omega) 0 (.map (some mb2))).frozen 0
      gi_wp2
      have ob9 := (hX.ob.set 0 (.map (some mb2))).other (b' := w.heap.size + 1) (by omega) 0 (.int .i64 0)
      have p19 := (p1.other (b' := b) (by omega) 0 (.map (some mb2))).set 0 (.int .i64 0)
      have ga := grownBy_set X b 0 (.map (some mb2))
      have gb := grownBy_set (X.setCell ⟨b, 0, none⟩ (.map (some mb2))) (w.heap.size + 1) 0 (.int .i64 0)
      have hgm9 := (hgm.kept ga (fun e => by have := Option.some.inj e; omega)).kept gb (fun e => by have := Option.some.inj e; omega)
      have hKp : Kept (fun i => i < w.heap.size ∧ i ≠ b) w ((X.setCell ⟨b, 0, none⟩ (.map (some mb2))).setCell ⟨w.heap.size + 1, 0, none⟩ (.int .i64 0)) :=
        ((Kept.of_below (HB6.out.trans hB) (Fr := fun i => i < w.heap.size ∧ i ≠ b) fun _ hi => hi.1).trans (Kept.of_grown ga fun i hi => ⟨by have := (HB6.out.trans hB).size; omega, fun e => hi.2 (Option.some.inj e)⟩)).trans (Kept.of_grown gb fun i hi => ⟨by have := (HB6.out.trans hB).size; have := ga.size; omega, fun e => by have := Option.some.inj e; omega⟩)
      have hK8 := (ga.block D (Array.getElem?_eq_some_iff.1 hK).1 (fun e => by have := Option.some.inj e; omega)).trans hK
      have hK9 := (gb.block D (Array.getElem?_eq_some_iff.1 hK8).1 (fun e => by have := Option.some.inj e; omega)).trans hK8
      clear zb fb c1 f1 c1' f1' yv hln ga gb hK hK8
      generalize (X.setCell ⟨b, 0, none⟩ (.map (some mb2))).setCell ⟨w.heap.size + 1, 0, none⟩ (.int .i64 0) = Y at *
      refine ⟨by simp, .inl ⟨_, _, rfl, run_takeDeferred hK9, ?_⟩⟩
      have c4 := (boxed_end (show Boxed Y (w.heap.size + 1) 58 (.int .i64 0) from p19) hK9).cell
      have gD := grownBy_putObj' Y D (.deferred none)
      refine ⟨.int .i64 0, ?_, by rw [HC2.out], ?_⟩
      · simp [results, Try.f24, go_sem, c4]
      · rw [HC2.out]
        refine ⟨⟨mb2, ⟨ob9.kept gD (fun e => by have := Option.some.inj e; omega), hgm9.kept gD (fun e => by have := Option.some.inj e; omega), hok, by omega, by omega, by dsimp only; omega⟩, .inr (by omega)⟩, hKp.trans (Kept.of_grown gD fun i hi => ⟨by have := hKp.size; omega, fun e => by have := Option.some.inj e; omega⟩)⟩
theorem do_calls (h : StkAt w base b mb s) (k : Int) (L : List It.Item) (v : Value) (hI : ItemsAt w 0 w.heap.size v L) (hF : Fits L) :
    Calls Try.prog 24 #[.pointer (some ⟨b, 0, none⟩), .int .i64 k, v] w fun e w' => e = .returned (.int .i64 (doS s k L).2) ∧ (∃ mb', StkAt w' base b mb' (doS s k L).1 ∧ (mb' = mb ∨ w.heap.size ≤ mb')) ∧ DoKept b w w' := by
  by_cases hk : k < 1 ∨ 11 < k
  · have e : doS s k L = (s, 1) := by unfold doS; rw [if_pos hk]
    rw [e]
    refine (do_arg h k v hk).mono ?_
    rintro e W ⟨rfl, hb⟩
    exact ⟨rfl, h.out hb⟩
  · cases hm : It.may L with
    | false =>
      have e : doS s k L = (s, 60) := by unfold doS; rw [if_neg hk, if_pos hm]
      rw [e]
      refine (do_items h k L v hI hF hk hm).mono ?_
      rintro e W ⟨rfl, hb⟩
      exact ⟨rfl, h.out hb⟩
    | true =>
      by_cases hc : mayS s k L = 0
      · have e : doS s k L = goS s k L := by unfold doS; rw [if_neg hk, if_neg (by rw [hm]; simp), if_neg (by simp [hc])]; rfl
        rw [e]
        exact do_go h k L v hI hF hk hm hc
      · have e : doS s k L = (s, mayS s k L) := by unfold doS; rw [if_neg hk, if_neg (by rw [hm]; simp), if_pos hc]
        rw [e]
        refine (do_may h k L v hI hF hk hm hc).mono ?_
        rintro e W ⟨rfl, hb⟩
        exact ⟨rfl, h.out hb⟩
end
end Sk
end Go.Proofs.Ytlhpdalfnjhokaa
