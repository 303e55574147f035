/-
  moves: what they are in memory; New, made, is, Len.
-/
import Derived.Test.YtdbkkldgobkjcaaItM
import Derived.Test.YtdbkkldgobkjcaaToAt
import Derived.Test.YtdbkkldgobkjcaaMem
import Derived.Test.YtdbkkldgobkjcaaPm
import Derived.Lib.SliceRun
import Derived.Laws.EntriesVeiled
namespace Go.Proofs.Ytdbkkldgobkjcaa
open Go.RowKit Go.Maps
namespace Mv
open It

section
variable {κ : Type} [DecidableEq κ] {K : KeyK κ} {P : Program} {w : World} {b : Nat} {m : List (κ × Value)} {ops : Array Oper} {rest : List Oper} {o : Oper} {a : Act} {Q : Exit → Act → World → Prop}
theorem _root_.Go.Proofs.Ytdbkkldgobkjcaa.wpList_look_ok_g (hg : o.guard = none) (x y : Operand) (tm : TypeId) (hop : o.op = Op.lookup tm x y true) (t e : TypeId) (KK : Keyed P t) (ht : P.underlying tm = some (.map t e))
    (hm : a.eval x = .map (some b)) (h : GMap K w P t b m) {z : Value} (hz : (zeroValue e).run P w = .ok z w) (key : Value) (k : κ) (hx : a.eval y = key) (hkey : keyOf P t key = some (K.lit k))
    (r : Value) (c : Bool) (hr : (mGet m k).getD z = r) (hc : (mGet m k).isSome = c) (hK : wpList P ops Q rest (a.put o.dst (.tuple #[r, .bool c])) w) :
    wpList P ops Q (o :: rest) a w := by
  refine wpList_plain hg fun K' hK' => ?_
  have hrun := h.look_ok KK ht hz hkey
  rw [hr, hc] at hrun
  unfold Oper.wp
  simp [execOp, hop, hm, hx, hrun, Result.andThen]
  exact hK' _ _ hK
end

/-- a move -/
structure Way where
  mv : Int
  fr : Int
  to_ : Int
  l : List It.Item
  came : Bool
def wayV (d : Way) (v : Value) : Value := .agg #[.int .i64 d.mv, .int .i64 d.fr, .int .i64 d.to_, v, .bool d.came]
def way0 : Way := ⟨0, 0, 0, [], false⟩
def isR (r : Int) : Bool := decide (0 ≤ r) && decide (r < 8)
/-- what may stand in a table of moves -/
structure OkW (d : Way) : Prop where
  mv : 1 ≤ d.mv ∧ d.mv ≤ 1099511627776
  fr : 0 ≤ d.fr ∧ d.fr ≤ 7
  to_ : 0 ≤ d.to_ ∧ d.to_ ≤ 7
  ne : d.fr ≠ d.to_
  l : may d.l = true
  some : d.l ≠ []

/-- a value that is a move, its list in the blocks of F -/
def WayAt (w : World) (F : Nat → Prop) (val : Value) (d : Way) : Prop := ∃ v lo B, val = wayV d v ∧ ItemsAt w lo B v d.l ∧ B ≤ w.heap.size ∧ ∀ i, lo ≤ i → i < B → F i
theorem WayAt.kept {w w' : World} {F F' : Nat → Prop} {val : Value} {d : Way} {row : Option Nat} (h : WayAt w F val d) (hg : w.grownBy w' row) (hr : ∀ g, row = some g → ¬ F g ∨ w.heap.size ≤ g) (hF : ∀ i, i < w.heap.size → F i → F' i) : WayAt w' F' val d := by
  obtain ⟨v, lo, B, e, h1, h2, h3⟩ := h
  refine ⟨v, lo, B, e, h1.keep fun b o hb1 hb2 => World.cell?_of_block (hg.block b (by omega) fun e => ?_), Nat.le_trans h2 hg.size, fun i a b => hF i (by omega) (h3 i a b)⟩
  rcases hr b e.symm with h | h
  · exact h (h3 b hb1 hb2)
  · omega
theorem WayAt.items {w : World} {F : Nat → Prop} {val : Value} {d : Way} (h : WayAt w F val d) : ∃ v, val = wayV d v ∧ ItemsAt w 0 w.heap.size v d.l := by
  obtain ⟨v, lo, B, e, h1, h2, h3⟩ := h
  exact ⟨v, e, h1.wide (Nat.zero_le _) h2⟩

/-- a map's entries and the moves that they are -/
def Rel (w : World) (F : Nat → Prop) : List (Int × Value) → List Way → Prop
  | [], [] => True
  | p :: m, d :: ds => p.1 = d.mv ∧ WayAt w F p.2 d ∧ Rel w F m ds
  | _, _ => False
theorem Rel.kept {w w' : World} {F F' : Nat → Prop} {row : Option Nat} (hg : w.grownBy w' row) (hr : ∀ g, row = some g → ¬ F g ∨ w.heap.size ≤ g) (hF : ∀ i, i < w.heap.size → F i → F' i) : ∀ {m : List (Int × Value)} {ds : List Way}, Rel w F m ds → Rel w' F' m ds
  | [], [], _ => trivial
  | _ :: _, _ :: _, h => ⟨h.1, h.2.1.kept hg hr hF, Rel.kept hg hr hF h.2.2⟩
  | [], _ :: _, h => h.elim
  | _ :: _, [], h => h.elim
theorem Rel.length {w : World} {F : Nat → Prop} : ∀ {m : List (Int × Value)} {ds : List Way}, Rel w F m ds → m.length = ds.length
  | [], [], _ => rfl
  | _ :: _, _ :: _, h => congrArg (· + 1) (Rel.length h.2.2)
  | [], _ :: _, h => h.elim
  | _ :: _, [], h => h.elim
theorem Rel.keys {w : World} {F : Nat → Prop} : ∀ {m : List (Int × Value)} {ds : List Way}, Rel w F m ds → m.map (·.1) = ds.map (·.mv)
  | [], [], _ => rfl
  | _ :: _, _ :: _, h => by simp only [List.map_cons]; rw [h.1, Rel.keys h.2.2]
  | [], _ :: _, h => h.elim
  | _ :: _, [], h => h.elim
def findW (ds : List Way) (k : Int) : Option Way := ds.find? fun d => decide (d.mv = k)
theorem findW_cons (d : Way) (ds : List Way) (k : Int) : findW (d :: ds) k = if d.mv = k then some d else findW ds k := by
  unfold findW
  rw [List.find?_cons]
  by_cases h : d.mv = k <;> simp [h]
theorem Rel.none {w : World} {F : Nat → Prop} {k : Int} : ∀ {m : List (Int × Value)} {ds : List Way}, Rel w F m ds → findW ds k = none → mGet m k = none
  | [], [], _, _ => rfl
  | p :: m, d :: ds, h, hf => by
    rw [findW_cons] at hf
    rw [mGet_cons]
    by_cases e : d.mv = k
    · rw [if_pos e] at hf; cases hf
    · rw [if_neg e] at hf
      rw [if_neg (by rw [h.1]; exact e)]
      exact Rel.none h.2.2 hf
  | [], _ :: _, h, _ => h.elim
  | _ :: _, [], h, _ => h.elim
theorem Rel.some {w : World} {F : Nat → Prop} {k : Int} {d : Way} : ∀ {m : List (Int × Value)} {ds : List Way}, Rel w F m ds → findW ds k = some d → ∃ val, mGet m k = some val ∧ WayAt w F val d
  | [], [], _, h => by cases h
  | p :: m, c :: ds, h, hf => by
    rw [findW_cons] at hf
    rw [mGet_cons]
    by_cases e : c.mv = k
    · rw [if_pos e] at hf
      cases hf
      rw [if_pos (by rw [h.1]; exact e)]
      exact ⟨_, rfl, h.2.1⟩
    · rw [if_neg e] at hf
      rw [if_neg (by rw [h.1]; exact e)]
      exact Rel.some h.2.2 hf
  | [], _ :: _, h, _ => h.elim
  | _ :: _, [], h, _ => h.elim
def insW (d : Way) : List Way → List Way
  | [] => [d]
  | c :: r => if d.mv < c.mv then d :: c :: r else c :: insW d r
def delW (ds : List Way) (k : Int) : List Way := ds.filter fun d => !decide (d.mv = k)
def putW (ds : List Way) (d : Way) : List Way := insW d (delW ds d.mv)
theorem Rel.del {w : World} {F : Nat → Prop} (k : Int) : ∀ {m : List (Int × Value)} {ds : List Way}, Rel w F m ds → Rel w F (mDel m k) (delW ds k)
  | [], [], _ => trivial
  | p :: m, d :: ds, h => by
    have ih := Rel.del k h.2.2
    unfold mDel delW at ih ⊢
    rw [List.filter_cons, List.filter_cons, h.1]
    split
    · exact ⟨h.1, h.2.1, ih⟩
    · exact ih
  | [], _ :: _, h => h.elim
  | _ :: _, [], h => h.elim
theorem Rel.ins {w : World} {F : Nat → Prop} {d : Way} {val : Value} (hv : WayAt w F val d) : ∀ {m : List (Int × Value)} {ds : List Way}, Rel w F m ds → Rel w F (mIns intK d.mv val m) (insW d ds)
  | [], [], _ => ⟨rfl, hv, trivial⟩
  | p :: m, c :: ds, h => by
    unfold mIns insW
    have e : intK.lt d.mv p.1 = decide (d.mv < c.mv) := by rw [h.1]; rfl
    rw [e]
    by_cases hlt : d.mv < c.mv
    · rw [if_pos (by simpa using hlt), if_pos hlt]
      exact ⟨rfl, hv, h⟩
    · rw [if_neg (by simpa using hlt), if_neg hlt]
      exact ⟨h.1, h.2.1, Rel.ins hv h.2.2⟩
  | [], _ :: _, h => h.elim
  | _ :: _, [], h => h.elim
theorem Rel.put {w : World} {F : Nat → Prop} {d : Way} {val : Value} (hv : WayAt w F val d) {m : List (Int × Value)} {ds : List Way} (h : Rel w F m ds) : Rel w F (mPut intK m d.mv val) (putW ds d) :=
  Rel.ins hv (Rel.del _ h)

/-- the moves of the program, in block b, the map in mb; X: blocks that others may write -/
structure MvAt (w : World) (b mb : Nat) (X : Nat → Prop) (ds : List Way) : Prop where
  ob : Ob w b 81 #[.map (some mb)]
  map : ∃ m, GMap intK w Try.prog 3 mb m ∧ Rel w (fun i => i ≠ b ∧ i ≠ mb ∧ ¬ X i) m ds
  ne : b ≠ mb
  nx : ¬ X b ∧ ¬ X mb
  xl : ∀ i, X i → i < w.heap.size
  ok : ∀ d ∈ ds, OkW d
  len : ds.length ≤ 256
theorem MvAt.kept {w w' : World} {b mb : Nat} {X : Nat → Prop} {ds : List Way} {row : Option Nat} (h : MvAt w b mb X ds) (hg : w.grownBy w' row) (hr : ∀ g, row = some g → X g ∨ w.heap.size ≤ g) : MvAt w' b mb X ds := by
  obtain ⟨m, hm, hR⟩ := h.map
  have hb := h.ob.lt
  have hmb := hm.lt
  have hne : ∀ i, i < w.heap.size → ¬ X i → some i ≠ row := fun i hi hx e => by
    rcases hr i e.symm with h | h
    · exact hx h
    · omega
  refine ⟨h.ob.kept hg (hne b hb h.nx.1), ⟨m, hm.kept hg (hne mb hmb h.nx.2), hR.kept hg (fun g e => ?_) (fun _ _ h => h)⟩, h.ne, h.nx, fun i hi => Nat.lt_of_lt_of_le (h.xl i hi) hg.size, h.ok, h.len⟩
  rcases hr g e with h | h
  · exact .inl fun k => k.2.2 h
  · exact .inr h
theorem MvAt.same {w w' : World} {b mb : Nat} {X : Nat → Prop} {ds : List Way} (h : MvAt w b mb X ds) (hb : Below w.heap.size w w') : MvAt w' b mb X ds := h.kept (only_of_below hb none) (by simp)
/-- others may write more blocks, if they are new to it -/
theorem MvAt.more {w w' : World} {b mb : Nat} {X X' : Nat → Prop} {ds : List Way} (h : MvAt w b mb X ds) (hb : Below w.heap.size w w') (hX : ∀ i, X' i → (X i ∨ w.heap.size ≤ i) ∧ i < w'.heap.size) : MvAt w' b mb X' ds := by
  have h1 := h.same hb
  obtain ⟨m, hm, hR⟩ := h.map
  have hb1 := h.ob.lt
  have hb2 := hm.lt
  have hn : ∀ i, i < w.heap.size → ¬ X i → ¬ X' i := fun i hi hx hx' => by
    rcases (hX i hx').1 with h | h
    · exact hx h
    · omega
  exact ⟨h1.ob, ⟨m, hm.below hb hb2, hR.kept (only_of_below hb none) (by simp) (fun i hi h => ⟨h.1, h.2.1, hn i hi h.2.2⟩)⟩, h.ne, ⟨hn b hb1 h.nx.1, hn mb hb2 h.nx.2⟩, fun i hi => (hX i hi).2, h.ok, h.len⟩
theorem keyedI : Keyed Try.prog 3 := int_keyed Try.underlying3
theorem zeroW (w : World) : (zeroValue 42).run Try.prog w = .ok (wayV way0 (.slice none 0 0)) w := by kernel_rfl
theorem keyI {k : Int} (h0 : -9223372036854775808 ≤ k) (h1 : k ≤ 9223372036854775807) : keyOf Try.prog 3 (.int .i64 k) = some (intK.lit k) :=
  keyOf_int_mk Try.underlying3 (WalkArith.wf_i64 (by omega))

theorem new_calls (w : World) :
    Calls Try.prog 10 #[] w fun e w' => (∃ b mb, e = .returned (.pointer (some ⟨b, 0, none⟩)) ∧ w.heap.size ≤ b ∧ w.heap.size ≤ mb ∧ ∀ X : Nat → Prop, (∀ i, X i → i < w.heap.size) → MvAt w' b mb X []) ∧ Below w.heap.size w w' := by
  have hmm := @run_makeMap Try.prog
  go_enter Try.func10, Try.ntmps10
  go_wp2
  go_ret
  have h1 : Below w.heap.size w ((w.alloc (.map #[] 0)).alloc (.cells #[.map (some w.heap.size)] 81)) := ((Below.refl _ w).alloc (Nat.le_refl _) _).alloc (by simp) _
  refine ⟨⟨_, _, rfl, by omega, Nat.le_refl _, fun X hX => ⟨?_, ⟨[], ?_, trivial⟩, by omega, ⟨fun h => by have := hX _ h; omega, fun h => by have := hX _ h; omega⟩, fun i hi => by have := hX i hi; have := h1.size; omega, fun d hd => (by cases hd), by simp⟩⟩, h1⟩
  · have := Ob.new (w.alloc (.map #[] 0)) 81 #[.map (some w.heap.size)]
    rwa [World.size_alloc] at this
  · exact (GMap.made (K := intK) w Try.prog 3).below ((Below.refl (w.heap.size + 1) _).alloc (by simp) _) (by omega)

theorem made_calls (b mb : Nat) (w : World) (h : w.cell? ⟨b, 0, none⟩ = some (.map (some mb))) :
    Calls Try.prog 39 #[.pointer (some ⟨b, 0, none⟩)] w fun e w' => e = .returned (.bool true) ∧ w = w' := by
  have hn := fun (w : World) (r : Option Nat) => run_neq_map_nil (P := Try.prog) w 79 _ _ r Try.underlying79
  go_enter Try.func39, Try.ntmps39
  go_wp2
  go_ret
  exact ⟨rfl, rfl⟩
theorem made_nil (w : World) :
    Calls Try.prog 39 #[.pointer none] w fun e w' => e = .returned (.bool false) ∧ w = w' := by
  go_enter Try.func39, Try.ntmps39
  go_wp2
  go_ret
  exact ⟨rfl, rfl⟩
theorem is_calls (r : Int) (w : World) :
    Calls Try.prog 40 #[.int .i64 r] w fun e w' => e = .returned (.bool (isR r)) ∧ w = w' := by
  have HO := Lib.hid (show isR r = (decide (0 ≤ r) && decide (r < 8)) from rfl)
  by_cases h1 : 0 ≤ r
  all_goals
    go_enter Try.func40, Try.ntmps40
    go_wp2
    go_ret
    first
      | exact ⟨ret1 (boo (by rw [HO.out, decide_eq_true h1]; rfl)), rfl⟩
      | exact ⟨ret1 (boo (by rw [HO.out, decide_eq_false (p := 0 ≤ r) (by omega)]; rfl)), rfl⟩
theorem len_calls (b mb : Nat) (X : Nat → Prop) (ds : List Way) (w : World) (h : MvAt w b mb X ds) :
    Calls Try.prog 27 #[.pointer (some ⟨b, 0, none⟩)] w fun e w' => e = .returned (.int .i64 ds.length) ∧ w = w' := by
  obtain ⟨m, hm, hR⟩ := h.map
  have g0 : w.cell? ⟨b, 0, none⟩ = some (.map (some mb)) := h.ob.cell (j := 0) rfl
  have hl := fun ty => hm.len (tm := 79) Try.underlying79 ty
  rw [hR.length] at hl
  have cM := Lib.hid (made_calls b mb w g0)
  clear hR hm h
  go_enter Try.func27, Try.ntmps27
  go_wp2_with fail
  refine cM.out.mono ?_
  rintro e W ⟨rfl, rfl⟩
  go_wp2
  go_ret
  exact ⟨rfl, rfl⟩

set_option maxRecDepth 100000 in
set_option maxHeartbeats 1000000 in
theorem clonei_calls (l : List It.Item) (v : Value) (w : World) (h : ItemsAt w 0 w.heap.size v l) (hl : l.length ≤ 1000000) :
    Calls Try.prog 42 #[v] w fun e w' => (∃ v', e = .returned v' ∧ w'.ownsRow w.heap.size 36 2 v' l.length (itemCells l)) ∧ Below w.heap.size w w' := by
  obtain ⟨i0, hi0, hz0⟩ := Option.map_eq_some_iff.1 item_info
  simp only [Prod.mk.injEq] at hz0
  obtain ⟨hz0, hz1, hz2⟩ := hz0
  have h0 := h
  obtain ⟨A, c, rfl, hc1, hc2⟩ := h.form
  unfold maxLen at hc2
  have heq := Lib.run_eql_slice_nil (P := Try.prog) w 30 36 A l.length c 0 0 Try.underlying30
  rcases A with _ | ad
  · have hl0 : l = [] := by
      rcases l with _ | ⟨x, r⟩
      · rfl
      · obtain ⟨b, o, e, _⟩ := h.cellAt (j := 0) (by simp)
        cases e
    subst hl0
    simp only [List.length_nil] at heq ⊢
    go_enter Try.func42, Try.ntmps42
    go_wp2
    go_ret
    exact ⟨⟨_, rfl, World.ownsRow_nil _ _ _ _⟩, Below.refl _ _⟩
  · go_enter Try.func42, Try.ntmps42
    go_wp2_with (at_builtin
                 refine wpList_append_sl _ rfl (.tmp 5) (.tmp 6) _ rfl w.heap.size 36 i0 _ 2 24 Try.underlying30 hi0 hz0 hz1 hz2 rfl (by omega) (.slice (some ⟨w.heap.size, 0, none⟩) 0 0) 0 [] rfl (World.ownsRow_lit w #[] 0 (Nat.le_refl _) (Nat.zero_le _) rfl) 0 w.heap.size _ l.length (itemCells l) rfl (Sl.below h0 ((Below.refl _ w).alloc (Nat.le_refl _) _)) (itemCells_one l) (by unfold maxLen; omega) (by omega) (by simp) ?_
                 intro v1 w1 hv1 hg1 hat1
                 have hB : Below w.heap.size w w1 := ((Below.refl _ w).alloc (Nat.le_refl _) (.cells #[] 36)).grown hg1 (by simp) (fun g hg => by cases hg; exact Nat.le_refl _)
                 clear hg1 hat1)
    have hown : w1.ownsRow w.heap.size 36 2 v1 l.length (itemCells l) := by simpa using hv1
    obtain ⟨A1, c1, rfl, -⟩ := (ItemsAt.of_own hown).form
    clear hv1
    go_wp2
    go_ret
    exact ⟨⟨_, rfl, hown⟩, hB⟩
end Mv
end Go.Proofs.Ytdbkkldgobkjcaa
