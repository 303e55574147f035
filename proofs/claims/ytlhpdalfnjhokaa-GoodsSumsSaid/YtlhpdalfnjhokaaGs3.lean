/-
  objects in memory: a block of some cells that may be written; what else is kept.
  A region that draws its order, some of whose operations make or write memory, one behind the other: walked once, in an order in which whatever comes behind such an operation is bound to it.
  objects in memory: several cells stored at once.
  a stock of goods in memory; its small functions.
  a stock of goods: each, right.
  laws for whole objects that are loaded and stored, and for look-ups with ok, at the walk's lists of operations.
  from world to world: what a round of a range may write, and what stays.
-/
import Derived.Test.YtlhpdalfnjhokaaGs1
import Derived.RangeFuncNested
import Derived.Test.YtlhpdalfnjhokaaGs2
import Derived.Deep.MidRow
import Derived.BigQuiet

set_option linter.unusedVariables false
set_option linter.unusedSimpArgs false
namespace Go.Proofs.Ytlhpdalfnjhokaa
open Go.RowKit

/-- block b holds an object of type t, whose cells are cs -/
def Ob (w : World) (b : Nat) (t : TypeId) (cs : Array Value) : Prop := w.heap[b]? = some (.cells cs t (0, 0))
section
variable {w w' : World} {b b' j B : Nat} {t : TypeId} {cs : Array Value} {row : Option Nat}
theorem Ob.lt (h : Ob w b t cs) : b < w.heap.size := (Array.getElem?_eq_some_iff.1 h).1
theorem Ob.cell (h : Ob w b t cs) {v : Value} (hj : cs[j]? = some v) : w.cell? ⟨b, j, none⟩ = some v := by
  simp [World.cell?, show w.heap[b]? = _ from h, hj]
theorem Ob.frozen (h : Ob w b t cs) (j : Nat) : w.frozen? ⟨b, j, none⟩ = false := by simp [World.frozen?, show w.heap[b]? = _ from h]
theorem Ob.new (w : World) (t : TypeId) (cs : Array Value) : Ob (w.alloc (.cells cs t)) w.heap.size t cs := heap_alloc_new w _
theorem Ob.kept (h : Ob w b t cs) (hg : w.grownBy w' row) (hne : some b ≠ row) : Ob w' b t cs := (hg.block b h.lt hne).trans h
theorem Ob.alloc (h : Ob w b t cs) (o : Obj) : Ob (w.alloc o) b t cs := h.kept (World.grownBy_alloc w o none) (by simp)
theorem Ob.below (h : Ob w b t cs) (hb : Below B w w') (hB : b < B) : Ob w' b t cs := (hb.block b hB).trans h
theorem Ob.same (h : Ob w b t cs) (hb : Below w.heap.size w w') : Ob w' b t cs := h.below hb h.lt
theorem Ob.set (h : Ob w b t cs) (j : Nat) (v : Value) : Ob (w.setCell ⟨b, j, none⟩ v) b t (cs.setIfInBounds j v) := by
  obtain ⟨hlt, hk⟩ := Array.getElem?_eq_some_iff.1 h
  show (w.heap.modify b _)[b]? = _
  rw [Array.getElem?_eq_getElem (by rw [Array.size_modify]; exact hlt), Array.getElem_modify_self, hk]
  simp
theorem grownBy_set (w : World) (b j : Nat) (v : Value) : w.grownBy (w.setCell ⟨b, j, none⟩ v) (some b) :=
  ⟨rfl, rfl, rfl, (KeepsWalks.setCell w _ v).size, fun k _ hk => Below.heap_setCell _ _ _ k (fun e => hk (by rw [e]))⟩
theorem Ob.other (h : Ob w b t cs) (hne : b ≠ b') (j : Nat) (v : Value) : Ob (w.setCell ⟨b', j, none⟩ v) b t cs := h.kept (grownBy_set w b' j v) (fun e => hne (by cases e; rfl))
end

/-- the blocks of Fr are as they were -/
structure Kept (Fr : Nat → Prop) (w w' : World) : Prop where
  os : w'.os = w.os
  tape : w'.tape = w.tape
  output : w'.output = w.output
  size : w.heap.size ≤ w'.heap.size
  block : ∀ k, Fr k → w'.heap[k]? = w.heap[k]?
section
variable {Fr Fr' : Nat → Prop} {a b c w w' : World} {B : Nat} {row : Option Nat}
theorem Kept.refl (Fr : Nat → Prop) (w : World) : Kept Fr w w := ⟨rfl, rfl, rfl, Nat.le_refl _, fun _ _ => rfl⟩
theorem Kept.trans (h : Kept Fr a b) (k : Kept Fr b c) : Kept Fr a c :=
  ⟨k.os.trans h.os, k.tape.trans h.tape, k.output.trans h.output, Nat.le_trans h.size k.size, fun i hi => (k.block i hi).trans (h.block i hi)⟩
theorem Kept.mono (h : Kept Fr a b) (hF : ∀ i, Fr' i → Fr i) : Kept Fr' a b := ⟨h.os, h.tape, h.output, h.size, fun i hi => h.block i (hF i hi)⟩
theorem Kept.of_below (h : Below B w w') (hF : ∀ i, Fr i → i < B) : Kept Fr w w' := ⟨h.os, h.tape, h.output, h.size, fun i hi => h.block i (hF i hi)⟩
theorem Kept.of_grown (h : w.grownBy w' row) (hF : ∀ i, Fr i → i < w.heap.size ∧ some i ≠ row) : Kept Fr w w' := ⟨h.os, h.tape, h.output, h.size, fun i hi => h.block i (hF i hi).1 (hF i hi).2⟩
theorem Kept.below (h : Kept Fr w w') (hF : ∀ i, i < B → Fr i) : Below B w w' := ⟨h.os, h.tape, h.output, h.size, fun i hi => h.block i (hF i hi)⟩
theorem Kept.ob {b : Nat} {t : TypeId} {cs : Array Value} (h : Kept Fr w w') (ho : Ob w b t cs) (hF : Fr b) : Ob w' b t cs := (h.block b hF).trans ho
theorem Kept.sl {lo B size n : Nat} {v : Value} {xs : List Value} (h : Kept Fr w w') (hs : Sl w lo B size v n xs) (hF : ∀ i, lo ≤ i → i < B → Fr i) : Sl w' lo B size v n xs :=
  hs.keep fun b _ h1 h2 => World.cell?_of_block (h.block b (hF b h1 h2))
end
end Go.Proofs.Ytlhpdalfnjhokaa

namespace Go.Proofs.Ytlhpdalfnjhokaa
open Go.RowKit
namespace Pu
section
variable {P : Program} {ops : Array Oper} {Q : Exit → Act → World → Prop} {md : Region.Mode}

theorem put_fix {A : Act} {t : Nat} {u : Value} : A.put (some t) u = A ↔ ∀ h : t < A.tmps.size, A.tmps[t] = u := by
  constructor
  · intro h hl
    have h1 := congrArg (fun b : Act => b.tmps[t]?) h
    simp only [Act.put, Array.getElem?_setIfInBounds_self, hl, if_true] at h1
    rw [Array.getElem?_eq_getElem hl] at h1
    exact (Option.some.inj h1).symm
  · intro h
    refine put_of ?_
    by_cases hl : t < A.tmps.size
    · rw [if_pos hl, Array.getElem?_eq_getElem hl, h hl]
    · rw [if_neg hl, Array.getElem?_eq_none (by omega)]

/-- an operation at another act that it looks at alike -/
theorem shift {o : Oper} {a A a2 A2 : Act} {w : World} {R : World → Prop} (hop : (match o.op with | .select .. => false | .defer _ => false | _ => true) = true) (heval : ∀ x ∈ o.op.operands, A.eval x = a.eval x)
    (hwant : Region.wanted o (yielded ops A.tmps) = Region.wanted o (yielded ops a.tmps)) (hd : a2.defers = a.defers) (hp : ∀ u, a.put o.dst u = a2 → A.put o.dst u = A2)
    (ho : wpList P ops (fun e a' w' => e = .normal ∧ a' = a2 ∧ R w') [o] a w) : wpList P ops (fun e a' w' => e = .normal ∧ a' = A2 ∧ R w') [o] A w := by
  unfold wpList at ho ⊢
  rw [hwant]
  split
  · rename_i hw
    simp only [hw, if_true] at ho
    rcases ho with ho | ⟨_, _, _, ho, _⟩
    case inr => cases ho
    refine .inl ?_
    have f1 : ∀ cs b, o.op ≠ .select cs b := fun cs b e => by rw [e] at hop; cases hop
    unfold Oper.wp at ho ⊢
    rw [execOp_congr o f1 heval]
    generalize (execOp a.eval o).run P w = r at *
    cases r with
    | ok x w' =>
      cases x <;> simp only [Oper.upon] at ho ⊢
      case value u => exact ⟨rfl, hp _ ho.2.1, ho.2.2⟩
      case skip => exact ⟨rfl, hp _ ho.2.1, ho.2.2⟩
      case defer d =>
        have := congrArg (fun b : Act => b.defers.length) ho.2.1
        simp only [hd] at this
        cases hod : o.dst <;> simp [Act.put, hod] at this
      case enter f args =>
        refine Calls.mono ho fun e w'' he => ?_
        cases e with
        | returned u => exact ⟨rfl, hp _ he.2.1, he.2.2⟩
        | panicked c => cases he.1
        | outgrown => obtain ⟨_, _, h, _⟩ := he; cases h
      case row row args => exact Rows.mono ho fun u w'' he => ⟨rfl, hp _ he.2.1, he.2.2⟩
    | halt x w' =>
      cases x <;> simp only [Oper.upon] at ho ⊢
      case panic u => cases ho.1
  · rename_i hw
    simp only [hw] at ho
    exact ⟨rfl, hp _ ho.2.1, ho.2.2⟩

/-- is this operation behind all others, by its own edges? -/
def endsAll (ops : Array Oper) (o : Oper) : Bool := decide (((List.range ops.size).filter fun j => !(o.after.any fun e => Region.binds .any e && e.on == j)).length ≤ 1)

/-- walked in an order: what only looks (false), what makes or writes (true) -/
def SeqM (P : Program) (ops : Array Oper) (Q : Exit → Act → World → Prop) : List (Oper × Bool) → Act → (World → Prop) → (World → Prop) → Prop
  | [], a, _, J => ∀ w, J w → Q .normal a w
  | (o, false) :: r, a, B, J =>
    if Region.wanted o (yielded ops a.tmps) = true then
      ∃ v, (∀ w, B w → wpList P ops (fun e a' w' => e = .normal ∧ a' = a.put o.dst v ∧ w' = w) [o] a w) ∧ SeqM P ops Q r (a.put o.dst v) B J
    else SeqM P ops Q r (a.put o.dst undef) B J
  | (o, true) :: r, a, B, J =>
    if Region.wanted o (yielded ops a.tmps) = true then
      ∀ w, J w → wpList P ops (fun e a' w' => e = .normal ∧ ∃ v B' J', a' = a.put o.dst v ∧ J' w' ∧ SeqM P ops Q r (a.put o.dst v) B' J' ∧ (∀ w, J' w → B' w) ∧ (endsAll ops o = true ∨ ∀ w, B' w → B w)) [o] a w
    else SeqM P ops Q r (a.put o.dst undef) B J

/-- the order fits: indices; what is looked at is written by none that comes behind; each that comes behind a making one is bound to it or to one between -/
def bound (md : Region.Mode) (ops : Array Oper) (i : Nat) (js : List Nat) : Bool := match ops[i]? with
  | none => false
  | some o => o.after.any fun e => Region.binds md e && js.contains e.on
def okM (md : Region.Mode) (ops : Array Oper) : List (Nat × Bool) → Bool
  | [] => true
  | (i, b) :: r =>
    (match ops[i]? with
      | none => false
      | some o =>
        (match o.op with | .select .. => false | .defer _ => false | _ => true) &&
        ((o.looksAt ops).all fun t => o.dst != some t && r.all fun p => match ops[p.1]? with | some q => q.dst != some t | none => false) &&
        (match o.dst with | none => true | some d => r.all fun p => match ops[p.1]? with | some q => q.dst != some d | none => false)) &&
    (r.all fun p => p.1 != i) &&
    (!b || (List.range r.length).all fun k => bound md ops ((r.getD k (0, false)).1) (i :: (r.take k).map (·.1))) &&
    okM md ops r
def whole (ops : Array Oper) (ord : List (Nat × Bool)) : Bool := (List.range ops.size).all fun i => ord.any fun p => p.1 == i
def named (ops : Array Oper) (ord : List (Nat × Bool)) : List (Oper × Bool) := ord.filterMap fun p => (ops[p.1]?).map fun o => (o, p.2)

theorem put_put (A : Act) (d : Option Tmp) (u v : Value) : (A.put d v).put d u = A.put d u := by
  cases d with
  | none => rfl
  | some d => simp [Act.put]
theorem put_comm (A : Act) {d e : Option Tmp} (h : ∀ t, d = some t → e ≠ some t) (u v : Value) : (A.put d v).put e u = (A.put e u).put d v := by
  cases d with
  | none => rfl
  | some d =>
    cases e with
    | none => rfl
    | some e =>
      have : d ≠ e := fun x => h d rfl (by rw [x])
      simp [Act.put, Array.setIfInBounds_comm _ _ this]
theorem put_defers (A : Act) (d : Option Tmp) (v : Value) : (A.put d v).defers = A.defers := by cases d <;> rfl
theorem put_size (A : Act) (d : Option Tmp) (v : Value) : (A.put d v).tmps.size = A.tmps.size := by cases d <;> simp [Act.put]
theorem put_at (A : Act) {d : Option Tmp} {t : Nat} (h : d ≠ some t) (v : Value) : (A.put d v).tmps[t]? = A.tmps[t]? := by
  cases d with
  | none => rfl
  | some d =>
    have : d ≠ t := fun x => h (by rw [x])
    simp [Act.put, Array.getElem?_setIfInBounds_ne this]
theorem put_eval (A : Act) {o : Oper} {d : Option Tmp} (h : ∀ t ∈ o.looksAt ops, d ≠ some t) (v : Value) : ∀ x ∈ o.op.operands, (A.put d v).eval x = A.eval x := by
  intro x hx
  cases x with
  | tmp t =>
    have hm : t ∈ o.looksAt ops := List.mem_append_left _ (List.mem_filterMap.2 ⟨.tmp t, by simpa using hx, rfl⟩)
    have := put_at A (h t hm) v
    simp [Act.eval, this]
  | _ => rfl
theorem put_wanted (A : Act) {o : Oper} {d : Option Tmp} (h : ∀ t ∈ o.looksAt ops, d ≠ some t) (v : Value) : Region.wanted o (yielded ops (A.put d v).tmps) = Region.wanted o (yielded ops A.tmps) := by
  unfold Region.wanted
  cases hg : o.guard with
  | none => rfl
  | some gw =>
    obtain ⟨g, want⟩ := gw
    have hy : yielded ops (A.put d v).tmps g = yielded ops A.tmps g := by
      unfold yielded
      cases ht : (ops[g]?).bind (·.dst) with
      | none => rfl
      | some t =>
        have hm : t ∈ o.looksAt ops := by simp [Oper.looksAt, hg, ht]
        simp [put_at A (h t hm) v]
    simp only [hy]

/-- what is known between two operations -/
structure St (P : Program) (ops : Array Oper) (Q : Exit → Act → World → Prop) (md : Region.Mode) (post : List (Nat × Bool)) (pre : List Nat) (A : Act) (B J : World → Prop) : Prop where
  sub : ∀ w, J w → B w
  op : ∀ i ∈ pre, ∀ o, ops[i]? = some o → (match o.op with | .select .. => false | .defer _ => false | _ => true) = true
  fact : ∀ i ∈ pre, ∀ o, ops[i]? = some o → ∀ w, B w → wpList P ops (fun e a' w' => e = .normal ∧ a' = A ∧ w' = w) [o] A w
  looks : ∀ i ∈ pre, ∀ o, ops[i]? = some o → ∀ t ∈ o.looksAt ops, ∀ p ∈ post, ∀ q, ops[p.1]? = some q → q.dst ≠ some t
  dst : ∀ i ∈ pre, ∀ o, ops[i]? = some o → ∀ d, o.dst = some d → ∀ p ∈ post, ∀ q, ops[p.1]? = some q → q.dst ≠ some d
  ok : okM md ops post = true
  seq : SeqM P ops Q (named ops post) A B J

theorem okM_cons {i : Nat} {b : Bool} {r : List (Nat × Bool)} (h : okM md ops ((i, b) :: r) = true) : ∃ o, ops[i]? = some o ∧ (match o.op with | .select .. => false | .defer _ => false | _ => true) = true ∧
    (∀ t ∈ o.looksAt ops, o.dst ≠ some t ∧ ∀ p ∈ r, ∀ q, ops[p.1]? = some q → q.dst ≠ some t) ∧ (∀ d, o.dst = some d → ∀ p ∈ r, ∀ q, ops[p.1]? = some q → q.dst ≠ some d) ∧
    (∀ p ∈ r, p.1 ≠ i) ∧ (b = true → ∀ k, k < r.length → bound md ops ((r.getD k (0, false)).1) (i :: (r.take k).map (·.1)) = true) ∧ okM md ops r = true := by
  simp only [okM, Bool.and_eq_true] at h
  obtain ⟨⟨⟨h1, h2⟩, h3⟩, h4⟩ := h
  cases ho : ops[i]? with
  | none => rw [ho] at h1; cases h1
  | some o =>
    rw [ho] at h1
    simp only [Bool.and_eq_true] at h1
    obtain ⟨⟨g1, g2⟩, g3⟩ := h1
    refine ⟨o, rfl, g1, fun t ht => ?_, fun d hd p hp q hq => ?_, fun p hp => ?_, fun hb k hk => ?_, h4⟩
    · have := List.all_eq_true.1 g2 t ht
      simp only [Bool.and_eq_true, bne_iff_ne, List.all_eq_true] at this
      refine ⟨this.1, fun p hp q hq => ?_⟩
      have h5 := this.2 p hp
      rw [hq] at h5
      simpa using h5
    · rw [hd] at g3
      have h5 := List.all_eq_true.1 g3 p hp
      rw [hq] at h5
      simpa using h5
    · have := List.all_eq_true.1 h2 p hp
      simpa using this
    · rw [hb] at h3
      simp only [Bool.not_true, Bool.false_or] at h3
      exact List.all_eq_true.1 h3 k (List.mem_range.2 hk)
theorem named_cons {i : Nat} {b : Bool} {r : List (Nat × Bool)} {o : Oper} (h : ops[i]? = some o) : named ops ((i, b) :: r) = (o, b) :: named ops r := by
  unfold named
  rw [List.filterMap_cons]
  simp [h]

/-- one more operation is seen through -/
theorem St.step {i : Nat} {b : Bool} {r : List (Nat × Bool)} {pre : List Nat} {A : Act} {B J B' J' : World → Prop} {o : Oper} {v : Value} (h : St P ops Q md ((i, b) :: r) pre A B J) (ho : ops[i]? = some o) (hB : ∀ w, B' w → B w) (hJ : ∀ w, J' w → B' w)
    (hs : SeqM P ops Q (named ops r) (A.put o.dst v) B' J') : St P ops Q md r pre (A.put o.dst v) B' J' := by
  obtain ⟨o', ho', g1, g2, g3, g4, g5, g6⟩ := okM_cons h.ok
  rw [ho] at ho'
  cases ho'
  refine ⟨hJ, h.op, fun k hk ok hok w hw => ?_, fun k hk ok hok t ht p hp => h.looks k hk ok hok t ht p (List.mem_cons_of_mem _ hp), fun k hk ok hok d hd p hp => h.dst k hk ok hok d hd p (List.mem_cons_of_mem _ hp), g6, hs⟩
  have hl : ∀ t ∈ ok.looksAt ops, o.dst ≠ some t := fun t ht => h.looks k hk ok hok t ht (i, b) (by simp) o ho
  refine shift (h.op k hk ok hok) (put_eval A hl v) (put_wanted A hl v) rfl (fun u hu => ?_) (h.fact k hk ok hok w (hB w hw))
  rw [put_comm A (d := o.dst) (e := ok.dst) (fun t ht he => h.dst k hk ok hok t he (i, b) (by simp) o ho ht) u v, hu]
theorem St.still {i : Nat} {b : Bool} {r : List (Nat × Bool)} {pre : List Nat} {A : Act} {B J : World → Prop} {o : Oper} {v : Value} (h : St P ops Q md ((i, b) :: r) pre A B J) (ho : ops[i]? = some o)
    (hv : ∀ w, B w → wpList P ops (fun e a' w' => e = .normal ∧ a' = A.put o.dst v ∧ w' = w) [o] A w)
    (hs : SeqM P ops Q (named ops r) (A.put o.dst v) B J) : St P ops Q md r (i :: pre) (A.put o.dst v) B J := by
  have h1 := h.step ho (fun _ h => h) h.sub hs
  obtain ⟨o', ho', g1, g2, g3, g4, g5, g6⟩ := okM_cons h.ok
  rw [ho] at ho'
  cases ho'
  refine ⟨h.sub, fun k hk ok hok => ?_, fun k hk ok hok w hw => ?_, fun k hk ok hok t ht p hp q hq => ?_, fun k hk ok hok d hd p hp q hq => ?_, h1.ok, h1.seq⟩
  · rcases List.mem_cons.1 hk with rfl | hk
    · rw [ho] at hok; cases hok; exact g1
    · exact h1.op k hk ok hok
  · rcases List.mem_cons.1 hk with rfl | hk
    · rw [ho] at hok; cases hok
      have hl : ∀ t ∈ o.looksAt ops, o.dst ≠ some t := fun t ht => (g2 t ht).1
      refine shift g1 (put_eval A hl v) (put_wanted A hl v) (put_defers _ _ _) (fun u hu => ?_) (hv w hw)
      rw [put_put, hu]
    · exact h1.fact k hk ok hok w hw
  · rcases List.mem_cons.1 hk with rfl | hk
    · rw [ho] at hok; cases hok; exact (g2 t ht).2 p hp q hq
    · exact h1.looks k hk ok hok t ht p hp q hq
  · rcases List.mem_cons.1 hk with rfl | hk
    · rw [ho] at hok; cases hok; exact g3 d hd p hp q hq
    · exact h1.dst k hk ok hok d hd p hp q hq

theorem Agree.more {A a : Act} {listed : Array Bool} {i : Nat} {o : Oper} {v : Value} (h : Agree ops A listed a) (ho : ops[i]? = some o) (hl : listed.getD i true = false) : Agree ops (A.put o.dst v) listed a := by
  refine ⟨by rw [put_defers]; exact h.defers, by rw [put_size]; exact h.size, fun t ht => ?_⟩
  rw [put_at A (fun e => by have := ht i o ho e; rw [hl] at this; cases this) v]
  exact h.at' t ht

theorem advance {a : Act} {listed : Array Bool} {B J : World → Prop} : ∀ (post : List (Nat × Bool)) (pre : List Nat) (A : Act), St P ops Q md post pre A B J → Agree ops A listed a → (∀ p ∈ post, listed.getD p.1 true = false) →
    ∃ post' pre' A', St P ops Q md post' pre' A' B J ∧ Agree ops A' listed a ∧ (∀ p ∈ post', listed.getD p.1 true = false) ∧ (∀ j, (j ∈ pre ∨ ∃ p ∈ post, p.1 = j) → j ∈ pre' ∨ ∃ p ∈ post', p.1 = j) ∧
      (post' = [] ∨ ∃ c o r, post' = (c, true) :: r ∧ ops[c]? = some o ∧ Region.wanted o (yielded ops A'.tmps) = true)
  | [], pre, A, h, ha, hu => ⟨[], pre, A, h, ha, hu, fun _ h => h, .inl rfl⟩
  | (i, b) :: r, pre, A, h, ha, hu => by
    obtain ⟨o, ho, g1, g2, g3, g4, g5, g6⟩ := okM_cons h.ok
    have hs := h.seq
    rw [named_cons ho] at hs
    have hi := hu (i, b) (by simp)
    have key : ∀ v, (∀ w, B w → wpList P ops (fun e a' w' => e = .normal ∧ a' = A.put o.dst v ∧ w' = w) [o] A w) → SeqM P ops Q (named ops r) (A.put o.dst v) B J →
        ∃ post' pre' A', St P ops Q md post' pre' A' B J ∧ Agree ops A' listed a ∧ (∀ p ∈ post', listed.getD p.1 true = false) ∧ (∀ j, (j ∈ pre ∨ ∃ p ∈ (i, b) :: r, p.1 = j) → j ∈ pre' ∨ ∃ p ∈ post', p.1 = j) ∧
          (post' = [] ∨ ∃ c o r, post' = (c, true) :: r ∧ ops[c]? = some o ∧ Region.wanted o (yielded ops A'.tmps) = true) := by
      intro v hv hs2
      obtain ⟨post', pre', A', k1, k2, k3, k4, k5⟩ := advance r (i :: pre) _ (h.still ho hv hs2) (ha.more ho hi) (fun p hp => hu p (List.mem_cons_of_mem _ hp))
      refine ⟨post', pre', A', k1, k2, k3, fun j hj => k4 j ?_, k5⟩
      rcases hj with hj | ⟨p, hp, rfl⟩
      · exact .inl (List.mem_cons_of_mem _ hj)
      · rcases List.mem_cons.1 hp with rfl | hp
        · exact .inl (by simp)
        · exact .inr ⟨p, hp, rfl⟩
    by_cases hw : Region.wanted o (yielded ops A.tmps) = true
    · cases b with
      | true => exact ⟨_, pre, A, h, ha, hu, fun _ h => h, .inr ⟨i, o, r, rfl, ho, hw⟩⟩
      | false =>
        simp only [SeqM, hw, if_true] at hs
        obtain ⟨v, hv, hs2⟩ := hs
        exact key v hv hs2
    · have hoff : ∀ w, B w → wpList P ops (fun e a' w' => e = .normal ∧ a' = A.put o.dst undef ∧ w' = w) [o] A w := fun w _ => by
        unfold wpList
        rw [if_neg hw]
        exact ⟨rfl, rfl, rfl⟩
      cases b with
      | true =>
        simp only [SeqM, hw] at hs
        exact key undef hoff hs
      | false =>
        simp only [SeqM, hw] at hs
        exact key undef hoff hs

theorem ready_some (hf : fine md ops = true) (left : List Nat) (listed : Array Bool) (hsz : listed.size = ops.size) (hl : ∀ j, j ∈ left ↔ listed.getD j true = false) (hr : Region.ready md ops listed = []) : left = [] := by
  have : ∀ k j, j < k → listed.getD j true = false → False := by
    intro k
    induction k with
    | zero => intro j h; omega
    | succ k ih =>
      intro j hj hjl
      have hjs : j < ops.size := by
        rcases Nat.lt_or_ge j ops.size with h | h
        · exact h
        · simp [Array.getElem?_eq_none (show listed.size ≤ j by omega)] at hjl
      obtain ⟨o, ho⟩ : ∃ o, ops[j]? = some o := ⟨ops[j], by simp [hjs]⟩
      have hmem : j ∈ Region.ready md ops listed := by
        rw [mem_ready]
        refine ⟨hjl, o, ho, fun e he hb => ?_⟩
        have hlt := (fine_at hf ho).2.2.1 e he hb
        cases hx : listed.getD e.on true with
        | false => exact (ih e.on (by omega) hx).elim
        | true =>
          have hes : e.on < listed.size := by omega
          simp [hes] at hx ⊢
          exact hx
      rw [hr] at hmem
      cases hmem
  cases left with
  | nil => rfl
  | cons j l => exact (this (j + 1) j (by omega) ((hl j).1 (by simp))).elim

theorem St.step0 {i : Nat} {b : Bool} {r : List (Nat × Bool)} {pre : List Nat} {A : Act} {B J B' J' : World → Prop} {v : Value} {o : Oper} (h : St P ops Q md ((i, b) :: r) pre A B J) (hJ : ∀ w, J' w → B' w)
    (hs : SeqM P ops Q (named ops r) (A.put o.dst v) B' J') : St P ops Q md r [] (A.put o.dst v) B' J' := by
  obtain ⟨o', ho', g1, g2, g3, g4, g5, g6⟩ := okM_cons h.ok
  exact ⟨hJ, fun k hk => (by cases hk), fun k hk => (by cases hk), fun k hk => (by cases hk), fun k hk => (by cases hk), g6, hs⟩
theorem endsAll_at {o : Oper} {i : Nat} {listed : Array Bool} (h : endsAll ops o = true) (hsz : listed.size = ops.size) (hi : i < ops.size) (hun : listed.getD i true = false)
    (hall : ∀ e ∈ o.after, Region.binds .any e = true → listed.getD e.on true = true) : ∀ j, listed.getD j true = false → j = i := by
  intro j hj
  have hjs : j < ops.size := by
    rcases Nat.lt_or_ge j ops.size with h | h
    · exact h
    · simp [show ¬ j < listed.size by omega] at hj
  have free : ∀ k, listed.getD k true = false → (o.after.any fun e => Region.binds .any e && e.on == k) = false := fun k hk => by
    cases hx : o.after.any fun e => Region.binds .any e && e.on == k with
    | false => rfl
    | true =>
      obtain ⟨e, he, hbe⟩ := Array.any_eq_true'.1 hx
      simp only [Bool.and_eq_true, beq_iff_eq] at hbe
      have := hall e he hbe.1
      rw [hbe.2, hk] at this
      cases this
  unfold endsAll at h
  have hlen := of_decide_eq_true h
  have mi : i ∈ (List.range ops.size).filter fun j => !(o.after.any fun e => Region.binds .any e && e.on == j) := List.mem_filter.2 ⟨List.mem_range.2 hi, by rw [free i hun]; rfl⟩
  have mj : j ∈ (List.range ops.size).filter fun j => !(o.after.any fun e => Region.binds .any e && e.on == j) := List.mem_filter.2 ⟨List.mem_range.2 hjs, by rw [free j hj]; rfl⟩
  generalize ((List.range ops.size).filter fun j => !(o.after.any fun e => Region.binds .any e && e.on == j)) = F at *
  match F, hlen with
  | [], _ => cases mi
  | [x], _ =>
    rw [List.mem_singleton] at mi mj
    rw [mi, mj]
  | _ :: _ :: _, h => simp at h
theorem run_made (hmd : md = .any) (hf : fine md ops = true) : ∀ (m : Nat) (left : List Nat) (listed : Array Bool) (a A : Act) (w : World) (B J : World → Prop) (post : List (Nat × Bool)) (pre : List Nat), left.length = m → listed.size = ops.size → left.Nodup → (∀ j, j ∈ left ↔ listed.getD j true = false) →
    (∀ j, listed.getD j true = false → j ∈ pre ∨ ∃ p ∈ post, p.1 = j) → (∀ p ∈ post, listed.getD p.1 true = false) → Agree ops A listed a → J w → St P ops Q md post pre A B J → wpAny P md ops Q m listed a w := by
  intro m
  induction m with
  | zero =>
    intro left listed a A w B J post pre hm hsz hnd hl hc hu ha hJ hS
    have hn : left = [] := List.length_eq_zero_iff.1 hm
    subst hn
    obtain ⟨post', pre', A', k1, k2, k3, k4, k5⟩ := advance post pre A hS ha hu
    have hp : post' = [] := by
      cases post' with
      | nil => rfl
      | cons p r => have := (hl p.1).2 (k3 p (by simp)); cases this
    subst hp
    have ht : a = A' := by
      have ht : a.tmps = A'.tmps := by
        refine Array.ext k2.size fun t h1 h2 => ?_
        have := k2.at' t fun j o _ _ => by
          have := (hl j).2
          cases hx : listed.getD j true with
          | true => rfl
          | false => cases this hx
        simpa [h1, h2] using this
      have hd := k2.defers
      cases a; cases A'
      simp only at ht hd
      rw [ht, hd]
    subst ht
    refine ⟨?_, k1.seq w hJ⟩
    cases hr : Region.ready md ops listed with
    | nil => rfl
    | cons i rs =>
      have : i ∈ Region.ready md ops listed := by rw [hr]; simp
      have := (hl i).2 (mem_ready.1 this).1
      cases this
  | succ m ih =>
    intro left listed a A w B J post pre hm hsz hnd hl hc hu ha hJ hS
    refine ⟨fun hr => ?_, fun i hi => ?_⟩
    · rw [ready_some hf left listed hsz hl hr] at hm; simp at hm
    obtain ⟨post', pre', A', k1, k2, k3, k4, k5⟩ := advance post pre A hS ha hu
    obtain ⟨hun, o, ho, hall⟩ := mem_ready.1 hi
    obtain ⟨f1, f2, f3, f4⟩ := fine_at hf ho
    have his : i < ops.size := (Array.getElem?_eq_some_iff.1 ho).1
    have hlook : ∀ t ∈ o.looksAt ops, ∀ j p, ops[j]? = some p → p.dst = some t → listed.getD j true = true := by
      intro t ht j p hj hp
      obtain ⟨e, he, hb, rfl⟩ := f4 t ht j p hj hp
      have h1 := hall e he hb
      have hes : e.on < listed.size := by have := (Array.getElem?_eq_some_iff.1 hj).1; omega
      simp [hes] at h1 ⊢
      exact h1
    have heval := k2.eval hlook
    have hwant := k2.wanted hlook
    have hmem : i ∈ left := (hl i).2 hun
    have hnext : ∀ (A1 : Act) (B1 J1 : World → Prop) (post1 : List (Nat × Bool)) (pre1 : List Nat) (v : Value) (w' : World), A1.put o.dst v = A1 → Agree ops A1 listed a → J1 w' → St P ops Q md post1 pre1 A1 B1 J1 →
        (∀ j, listed.getD j true = false → j ≠ i → j ∈ pre1 ∨ ∃ p ∈ post1, p.1 = j) → (∀ p ∈ post1, listed.getD p.1 true = false ∧ p.1 ≠ i) → wpAny P md ops Q m (listed.setIfInBounds i true) (a.put o.dst v) w' := by
      intro A1 B1 J1 post1 pre1 v w' hv hag hJ1 hS1 hc1 hu1
      refine ih (left.erase i) _ _ A1 w' B1 J1 post1 pre1 (by rw [List.length_erase_of_mem hmem, hm]; rfl) (by simpa using hsz) (hnd.erase i) (fun j => ?_) (fun j hj => ?_) (fun p hp => ?_) (hag.put ho hv) hJ1 hS1
      · rw [hnd.mem_erase_iff, hl j]
        by_cases e : i = j
        · subst e
          simp [show i < listed.size by omega]
        · rw [getD_set_ne true e]
          exact ⟨fun h => h.2, fun h => ⟨fun h' => e h'.symm, h⟩⟩
      · by_cases e : i = j
        · subst e
          simp [show i < listed.size by omega] at hj
        · rw [getD_set_ne true e] at hj
          exact hc1 j hj (fun h => e h.symm)
      · rw [getD_set_ne true (fun e => (hu1 p hp).2 e.symm)]
        exact (hu1 p hp).1
    have hcase : i ∈ pre' ∨ ∃ p ∈ post', p.1 = i := k4 i (hc i hun)
    have hkeep : ∀ v w', A'.put o.dst v = A' → w' = w → (∀ p ∈ post', p.1 ≠ i) → wpAny P md ops Q m (listed.setIfInBounds i true) (a.put o.dst v) w' := fun v w' hv hw hn =>
      hnext A' B J post' pre' v w' hv k2 (hw ▸ hJ) k1 (fun j hj hne => k4 j (hc j hj)) (fun p hp => ⟨k3 p hp, hn p hp⟩)
    by_cases hpost : ∃ p ∈ post', p.1 = i
    · rcases k5 with rfl | ⟨c, oc, r, rfl, hoc, hwc⟩
      · obtain ⟨p, hp, _⟩ := hpost; cases hp
      obtain ⟨o', ho', g1, g2, g3, g4, g5, g6⟩ := okM_cons k1.ok
      have hci : i = c := by
        obtain ⟨p, hp, rfl⟩ := hpost
        rcases List.mem_cons.1 hp with rfl | hp
        · rfl
        · exfalso
          obtain ⟨k, hk, hpk⟩ := List.getElem_of_mem hp
          have hb := g5 rfl k hk
          rw [List.getD_eq_getElem?_getD, List.getElem?_eq_getElem hk, Option.getD_some, hpk] at hb
          unfold bound at hb
          rw [ho] at hb
          obtain ⟨e, he, hbe⟩ := Array.any_eq_true'.1 hb
          simp only [Bool.and_eq_true, List.contains_iff_mem] at hbe
          have h1 := hall e he hbe.1
          have hun2 : listed.getD e.on true = false := by
            rcases List.mem_cons.1 hbe.2 with h | h
            · rw [h]; exact k3 (c, true) (by simp)
            · obtain ⟨q, hq, hqe⟩ := List.mem_map.1 h
              rw [← hqe]
              exact k3 q (List.mem_cons_of_mem _ (List.mem_of_mem_take hq))
          have hes : e.on < listed.size := by
            have := f3 e he hbe.1
            omega
          simp [hes] at h1 hun2
          rw [h1] at hun2
          cases hun2
      subst hci
      rw [ho] at hoc ho'
      cases hoc
      cases ho'
      have hs := k1.seq
      rw [named_cons ho] at hs
      simp only [SeqM, hwc, if_true] at hs
      have h := hs w hJ
      have hmake : ∀ u w', (∃ v B' J', A'.put o.dst u = A'.put o.dst v ∧ J' w' ∧ SeqM P ops Q (named ops r) (A'.put o.dst v) B' J' ∧ (∀ w, J' w → B' w) ∧ (endsAll ops o = true ∨ ∀ w, B' w → B w)) → wpAny P md ops Q m (listed.setIfInBounds i true) (a.put o.dst u) w' := by
        rintro u w' ⟨v, B', J', h1, h2, h3, h4, h5⟩
        rw [← h1] at h3
        rcases h5 with h5 | h5
        · have hend := endsAll_at (listed := listed) h5 hsz his hun (fun e he hb => by
            have h1 := hall e he (by rw [hmd]; exact hb)
            rcases Nat.lt_or_ge e.on listed.size with hes | hes
            · simp [hes] at h1 ⊢
              exact h1
            · simp [show ¬ e.on < listed.size by omega])
          exact hnext (A'.put o.dst u) B' J' r [] u w' (put_put _ _ _ _) (k2.more ho (k3 (i, true) (by simp))) h2 (k1.step0 h4 h3) (fun j hj hne => (hne (hend j hj)).elim) (fun p hp => ⟨k3 p (List.mem_cons_of_mem _ hp), g4 p hp⟩)
        refine hnext (A'.put o.dst u) B' J' r pre' u w' (put_put _ _ _ _) (k2.more ho (k3 (i, true) (by simp))) h2 (k1.step ho h5 h4 h3) (fun j hj hne => ?_) (fun p hp => ⟨k3 p (List.mem_cons_of_mem _ hp), g4 p hp⟩)
        rcases k4 j (hc j hj) with h | ⟨p, hp, rfl⟩
        · exact .inl h
        · rcases List.mem_cons.1 hp with rfl | hp
          · exact (hne rfl).elim
          · exact .inr ⟨p, hp, rfl⟩
      unfold wpOp
      simp only [ho]
      unfold wpList at h
      rw [hwant]
      simp only [hwc, if_true] at h ⊢
      rcases h with h | ⟨_, _, _, h, _⟩
      case inr => cases h
      refine .inl ?_
      unfold Oper.wp at h ⊢
      rw [execOp_congr o f1 heval]
      generalize (execOp A'.eval o).run P w = x at *
      cases x with
      | ok x w' =>
        cases x <;> simp only [Oper.upon] at h ⊢
        case value v => exact hmake v w' h.2
        case skip => exact hmake _ w' h.2
        case defer d =>
          obtain ⟨v, B', J', h1, _⟩ := h.2
          have := congrArg (fun b : Act => b.defers.length) h1
          simp only [put_defers] at this
          simp at this
        case enter f args =>
          refine Calls.mono h fun e w'' he => ?_
          cases e with
          | returned v => exact hmake v w'' he.2
          | panicked c => cases he.1
          | outgrown => obtain ⟨_, _, h, _⟩ := he; cases h
        case row row args => exact Rows.mono h fun v w'' he => hmake v w'' he.2
      | halt x w' =>
        cases x <;> simp only [Oper.upon] at h ⊢
        case panic u => cases h.1
    · have hpre : i ∈ pre' := hcase.resolve_right hpost
      have hne : ∀ p ∈ post', p.1 ≠ i := fun p hp e => hpost ⟨p, hp, e⟩
      have h := k1.fact i hpre o ho w (k1.sub w hJ)
      unfold wpOp
      simp only [ho]
      unfold wpList at h
      rw [hwant]
      split
      · rename_i hw
        simp only [hw, if_true] at h
        rcases h with h | ⟨_, _, _, h, _⟩
        case inr => cases h
        refine .inl ?_
        unfold Oper.wp at h ⊢
        rw [execOp_congr o f1 heval]
        generalize (execOp A'.eval o).run P w = r at *
        cases r with
        | ok x w' =>
          cases x <;> simp only [Oper.upon] at h ⊢
          case value v => exact hkeep v w' h.2.1 h.2.2 hne
          case skip => exact hkeep _ w' h.2.1 h.2.2 hne
          case defer d =>
            have := congrArg List.length (put_self h.2.1).1
            simp at this
          case enter f args =>
            refine Calls.mono h fun e w'' he => ?_
            cases e with
            | returned v => exact hkeep v w'' he.2.1 he.2.2 hne
            | panicked c => cases he.1
            | outgrown => obtain ⟨_, _, h, _⟩ := he; cases h
          case row row args => exact Rows.mono h fun v w'' he => hkeep v w'' he.2.1 he.2.2 hne
        | halt x w' =>
          cases x <;> simp only [Oper.upon] at h ⊢
          case panic u => cases h.1
      · rename_i hw
        simp only [hw] at h
        exact hkeep _ w h.2.1 rfl hne

/-- the walk, behind a name that nothing unfolds; J: the world as it stands; B: what is known in whatever world there may be from here on -/
structure WalkM (P : Program) (ops : Array Oper) (Q : Exit → Act → World → Prop) (l : List (Oper × Bool)) (a : Act) (B J : World → Prop) : Prop where
  go : SeqM P ops Q l a B J
theorem WalkM.nil {a : Act} {B J : World → Prop} (h : ∀ w, J w → Q .normal a w) : WalkM P ops Q [] a B J := ⟨h⟩
theorem WalkM.off {a : Act} {B J : World → Prop} {o : Oper} {b : Bool} {r : List (Oper × Bool)} (hw : asks ops.toList o a.tmps.toList = false) (h : WalkM P ops Q r (a.put o.dst undef) B J) : WalkM P ops Q ((o, b) :: r) a B J := by
  have hw' : Region.wanted o (yielded ops a.tmps) = false := (asks_eq _ _ _).trans hw
  refine ⟨?_⟩
  cases b <;> (simp only [SeqM, hw']; exact h.go)
/-- where an operation ends that leaves the world alone -/
structure Lets (A : Act) (w : World) (e : Exit) (a' : Act) (w' : World) : Prop where
  e : e = .normal
  a : a' = A
  i : w' = w
theorem Lets.eq {A : Act} {w : World} : Lets A w = fun e a' w' => e = .normal ∧ a' = A ∧ w' = w := by
  funext e a' w'
  exact propext ⟨fun h => ⟨h.e, h.a, h.i⟩, fun h => ⟨h.1, h.2.1, h.2.2⟩⟩
theorem WalkM.on {a : Act} {B J : World → Prop} {o : Oper} {r : List (Oper × Bool)} (hw : asks ops.toList o a.tmps.toList = true) {v : Value}
    (h1 : ∀ w, B w → wpList P ops (Lets (a.put o.dst v) w) [o] a w) (h : WalkM P ops Q r (a.put o.dst v) B J) : WalkM P ops Q ((o, false) :: r) a B J := by
  have hw' : Region.wanted o (yielded ops a.tmps) = true := (asks_eq _ _ _).trans hw
  refine ⟨?_⟩
  simp only [SeqM, hw', if_true]
  exact ⟨v, fun w hB => Lets.eq ▸ h1 w hB, h.go⟩
/-- where an operation ends that makes or writes memory: the walk goes on there; one that stands behind all others (endsAll) need not keep what the others rely on -/
structure Made (P : Program) (ops : Array Oper) (Q : Exit → Act → World → Prop) (r : List (Oper × Bool)) (a : Act) (o : Oper) (B : World → Prop) (e : Exit) (a' : Act) (w' : World) : Prop where
  e : e = .normal
  on : ∃ v B' J', a' = a.put o.dst v ∧ J' w' ∧ (∀ w, J' w → B' w) ∧ (endsAll ops o = true ∨ ∀ w, B' w → B w) ∧ WalkM P ops Q r (a.put o.dst v) B' J'
theorem WalkM.make {a : Act} {B J : World → Prop} {o : Oper} {r : List (Oper × Bool)} (hw : asks ops.toList o a.tmps.toList = true)
    (h1 : ∀ w, J w → wpList P ops (Made P ops Q r a o B) [o] a w) : WalkM P ops Q ((o, true) :: r) a B J := by
  have hw' : Region.wanted o (yielded ops a.tmps) = true := (asks_eq _ _ _).trans hw
  have he : Made P ops Q r a o B = fun e a' w' => e = .normal ∧ ∃ v B' J', a' = a.put o.dst v ∧ J' w' ∧ SeqM P ops Q r (a.put o.dst v) B' J' ∧ (∀ w, J' w → B' w) ∧ (endsAll ops o = true ∨ ∀ w, B' w → B w) := by
    funext e a' w'
    exact propext ⟨fun h => ⟨h.e, let ⟨v, B', J', h1, h2, h3, h4, h5⟩ := h.on; ⟨v, B', J', h1, h2, h5.go, h3, h4⟩⟩, fun h => ⟨h.1, let ⟨v, B', J', h1, h2, h3, h4, h5⟩ := h.2; ⟨v, B', J', h1, h2, h4, h5, ⟨h3⟩⟩⟩⟩
  refine ⟨?_⟩
  simp only [SeqM, hw', if_true]
  exact fun w hJ => he ▸ h1 w hJ

theorem regionM {id : Nat} {a : Act} {w : World} (ord : List (Nat × Bool)) (B : World → Prop) (hm : P.follows .mixedOrders = true) (hf : fine .any ops = true) (hok : okM .any ops ord = true) (hwh : whole ops ord = true) (hB : B w.drew)
    {l : List (Oper × Bool)} (hl : named ops ord = l) (hs : WalkM P ops Q l a B (fun W => W = w.drew)) : (Code.region id ops true).wp P Q a w := by
  subst hl
  refine wp_region_any hm ?_
  have h := run_made (md := .any) (P := P) (Q := Q) rfl hf ops.size (List.range ops.size) (Array.replicate ops.size false) a a w.drew B (fun W => W = w.drew) ord [] (by simp) (by simp) List.nodup_range (fun j => ?_) (fun j hj => ?_) (fun p hp => ?_) ⟨rfl, rfl, fun _ _ => rfl⟩ rfl
    ⟨fun W h => h ▸ hB, (fun i hi => nomatch hi), (fun i hi => nomatch hi), (fun i hi => nomatch hi), (fun i hi => nomatch hi), hok, hs.go⟩
  · exact h
  · rw [List.mem_range]
    by_cases h : j < ops.size
    · simp [h]
    · simp [h]
  · right
    have hjs : j < ops.size := by
      rcases Nat.lt_or_ge j ops.size with h | h
      · exact h
      · simp [h] at hj
    have := List.all_eq_true.1 hwh j (List.mem_range.2 hjs)
    obtain ⟨p, hp, hpj⟩ := List.any_eq_true.1 this
    exact ⟨p, hp, by simpa using hpj⟩
  · have hlt : p.1 < ops.size := by
      clear hs hwh
      induction ord with
      | nil => cases hp
      | cons q r ih =>
        obtain ⟨o, ho, _, _, _, _, _, g6⟩ := okM_cons (i := q.1) (b := q.2) hok
        rcases List.mem_cons.1 hp with rfl | hp
        · exact (Array.getElem?_eq_some_iff.1 ho).1
        · exact ih g6 hp
    simp [hlt]
end
end Pu
end Go.Proofs.Ytlhpdalfnjhokaa

namespace Go.Proofs.Ytlhpdalfnjhokaa
open Go.RowKit
theorem grownBy_segs {b : Nat} : ∀ (vs : List Value) (w : World) (o : Nat), w.grownBy (w.setCells b o vs) (some b)
  | [], w, _ => ⟨rfl, rfl, rfl, Nat.le_refl _, fun _ _ _ => rfl⟩
  | v :: r, w, o => by
    rw [World.setCells]
    exact (grownBy_set w b o v).andThen (grownBy_segs r _ (o + 1)) (fun j e => .inr e)
def putSeg (cs : Array Value) (o : Nat) : List Value → Array Value
  | [] => cs
  | v :: r => putSeg (cs.setIfInBounds o v) (o + 1) r
theorem putSeg_eq : ∀ (vs : List Value) (cs : Array Value) (o : Nat), o + vs.length ≤ cs.size → putSeg cs o vs = (cs.toList.take o ++ vs ++ cs.toList.drop (o + vs.length)).toArray
  | [], cs, o, _ => by simp [putSeg]
  | v :: r, cs, o, h => by
    simp only [List.length_cons] at h
    rw [putSeg, putSeg_eq r _ (o + 1) (by simp; omega)]
    congr 1
    rw [Array.toList_setIfInBounds]
    apply List.ext_getElem?
    intro i
    have hl : (cs.toList.take o).length = o := by rw [List.length_take]; simp; omega
    have hl2 : ((cs.toList.set o v).take (o + 1)).length = o + 1 := by rw [List.length_take, List.length_set]; simp; omega
    rcases Nat.lt_trichotomy i o with h1 | h1 | h1
    · rw [List.getElem?_append_left (by simp [hl2]; omega), List.getElem?_append_left (by omega), List.getElem?_append_left (by simp [hl]; omega), List.getElem?_append_left (by omega)]
      rw [List.getElem?_take, if_pos (by omega), List.getElem?_take, if_pos h1, List.getElem?_set_ne (by omega)]
    · subst h1
      rw [List.getElem?_append_left (by simp [hl2]; omega), List.getElem?_append_left (by omega), List.getElem?_append_left (by simp [hl]), List.getElem?_append_right (by omega)]
      rw [List.getElem?_take, if_pos (by omega), List.getElem?_set_self (by simp; omega), hl]
      simp
    · by_cases h2 : i < o + 1 + r.length
      · rw [List.getElem?_append_left (by simp [hl2]; omega), List.getElem?_append_right (by omega), hl2, List.getElem?_append_left (by simp [hl]; omega), List.getElem?_append_right (by omega), hl]
        rw [show i - o = (i - (o + 1)) + 1 by omega, List.getElem?_cons_succ]
      · rw [List.getElem?_append_right (by simp [hl2]; omega), List.getElem?_append_right (by simp [hl]; omega)]
        simp only [List.length_append, hl2, hl, List.length_cons, List.getElem?_drop]
        rw [List.getElem?_set_ne (by omega)]
        congr 1
        omega
theorem Ob.seg {g : Nat} {t : TypeId} : ∀ (vs : List Value) {w : World} {cs : Array Value} (o : Nat), Ob w g t cs → Ob (w.setCells g o vs) g t (putSeg cs o vs)
  | [], _, _, _, h => h
  | v :: r, w, cs, o, h => by
    rw [World.setCells, putSeg]
    exact Ob.seg r (o + 1) (h.set o v)
theorem Ob.all {w : World} {g : Nat} {t : TypeId} {cs : Array Value} (h : Ob w g t cs) (vs : List Value) (hl : vs.length = cs.size) : Ob (w.setCells g 0 vs) g t vs.toArray := by
  have := Ob.seg vs 0 h
  rw [putSeg_eq vs cs 0 (by omega)] at this
  have e : cs.toList.take 0 ++ vs ++ cs.toList.drop (0 + vs.length) = vs := by
    rw [Nat.zero_add, hl, List.take_zero, List.nil_append, List.drop_of_length_le (by simp), List.append_nil]
  rw [e] at this
  exact this
theorem Ob.there {w : World} {g : Nat} {t : TypeId} {cs : Array Value} (h : Ob w g t cs) {o n : Nat} (hn : o + n ≤ cs.size) : w.there g o n := fun j hj => by
  refine ⟨?_, h.frozen _⟩
  rw [h.cell (j := o + j) (v := cs[o + j]'(by omega)) (by rw [Array.getElem?_eq_getElem (by omega)])]
  rfl
theorem Ob.range {w : World} {g : Nat} {t : TypeId} {cs : Array Value} (h : Ob w g t cs) {o : Nat} {vs : List Value} (hv : ∀ j v, vs[j]? = some v → cs[o + j]? = some v) : w.rangeAt g o vs := fun j v hj => h.cell (hv j v hj)
theorem Ob.store {P : Program} {w : World} {g : Nat} {t : TypeId} {cs : Array Value} (h : Ob w g t cs) (o : Nat) (vs : List Value) (hn : o + vs.length ≤ cs.size) (h1 : ∀ v ∈ vs, v.oneCell' = true) : (storeCells ⟨g, o, none⟩ vs).run P w = .ok () (w.setCells g o vs) := by
  have ht := h.there hn
  have := run_storeCells_cells (P := P) g o vs 0 w (fun j hj => by simpa using (ht j hj).1) (fun j hj => by simpa using (ht j hj).2) h1
  simpa using this
end Go.Proofs.Ytlhpdalfnjhokaa

namespace Go.Proofs.Ytlhpdalfnjhokaa
open Go.RowKit Go.Maps
namespace Sk
open It Al
theorem hmx : Try.prog.follows .mixedOrders = true := by kernel_rfl
/-- a good and its row -/
structure OkP (p : Key × Row) : Prop where
  row : OkRow p.2
  key : p.1.length ≤ maxLen
/-- a stock of the program's: its struct b, its map mb -/
structure StkAt (w : World) (base b mb : Nat) (s : Stk) : Prop where
  ob : Ob w b 82 #[.map (some mb)]
  map : GMap strK w Try.prog 9 mb (gm rowV s)
  ok : ∀ p ∈ s, OkP p
  ne : b ≠ mb
  lo : base ≤ b ∧ base ≤ mb
  len : s.length ≤ 64
theorem StkAt.kept {w w' : World} {base b mb : Nat} {s : Stk} {Fr : Nat → Prop} (h : StkAt w base b mb s) (hk : Kept Fr w w') (hb : Fr b) (hm : Fr mb) : StkAt w' base b mb s := by
  refine ⟨hk.ob h.ob hb, ?_, h.ok, h.ne, h.lo, h.len⟩
  obtain ⟨es, clock, h1, F, h2, e⟩ := h.map
  exact ⟨es, clock, (hk.block mb hm).trans h1, F, h2, e⟩
theorem StkAt.same {w w' : World} {base b mb : Nat} {s : Stk} (h : StkAt w base b mb s) (hb : Below w.heap.size w w') : StkAt w' base b mb s :=
  h.kept (Kept.of_below hb (Fr := fun i => i < w.heap.size) fun _ hi => hi) h.ob.lt h.map.lt
theorem mapnil (w : World) (r : Option Nat) : (binOp .neq 80 (.map r) (.map none)).run Try.prog w = .ok (.bool r.isSome) w := by
  have := run_neq_map_nil (P := Try.prog) w 80 _ _ r Try.underlying80
  cases r <;> simpa using this
theorem new_calls (w : World) : Calls Try.prog 22 #[] w fun e w' => (∃ b mb, e = .returned (.pointer (some ⟨b, 0, none⟩)) ∧ StkAt w' w.heap.size b mb []) ∧ Below w.heap.size w w' := by
  have hmm := @run_makeMap Try.prog
  go_enter Try.func22, Try.ntmps22
  go_wp2
  go_ret
  have ha1 := (Below.refl w.heap.size w).alloc (Nat.le_refl _) (.map #[] 0)
  have ha2 := ha1.alloc ha1.size (.cells #[.map (some w.heap.size)] 82)
  refine ⟨⟨w.heap.size + 1, w.heap.size, rfl, ?_⟩, ha2⟩
  have hob := Ob.new (w.alloc (.map #[] 0)) 82 #[.map (some w.heap.size)]
  rw [World.size_alloc] at hob
  exact ⟨hob, (GMap.made (K := strK) w Try.prog 9).kept (World.grownBy_alloc _ _ none) (by simp), (fun p hp => by cases hp), by omega, by omega, by simp⟩
theorem made_calls (b mb : Nat) (w : World) (h : w.cell? ⟨b, 0, none⟩ = some (.map (some mb))) :
    Calls Try.prog 36 #[.pointer (some ⟨b, 0, none⟩)] w fun e w' => e = .returned (.bool true) ∧ w = w' := by
  have hn := mapnil
  go_enter Try.func36, Try.ntmps36
  go_wp2
  go_ret
  exact ⟨rfl, rfl⟩
theorem made_nil (w : World) :
    Calls Try.prog 36 #[.pointer none] w fun e w' => e = .returned (.bool false) ∧ w = w' := by
  go_enter Try.func36, Try.ntmps36
  go_wp2
  go_ret
  exact ⟨rfl, rfl⟩
set_option maxRecDepth 100000 in
set_option maxHeartbeats 4000000 in
theorem numbers_calls (g : Nat) (w : World) :
    Calls Try.prog 68 #[.pointer (some ⟨g, 0, none⟩)] w fun e w' => e = .returned (.agg #[.pointer (some ⟨g, 0, none⟩), .pointer (some ⟨g, 1, none⟩), .pointer (some ⟨g, 2, none⟩), .pointer (some ⟨g, 3, none⟩), .pointer (some ⟨g, 4, none⟩), .pointer (some ⟨g, 5, none⟩), .pointer (some ⟨g, 6, none⟩), .pointer (some ⟨g, 7, none⟩), .pointer (some ⟨g, 8, none⟩), .pointer (some ⟨g, 9, none⟩), .pointer (some ⟨g, 10, none⟩)]) ∧ Below w.heap.size w w' := by
  go_enter Try.func68, Try.ntmps68
  go_wp2_with fail
  have hO := Ob.new w 113 #[.pointer none, .pointer none, .pointer none, .pointer none, .pointer none, .pointer none, .pointer none, .pointer none, .pointer none, .pointer none, .pointer none]
  have hal := (Below.refl w.heap.size w).alloc (Nat.le_refl _) (.cells #[.pointer none, .pointer none, .pointer none, .pointer none, .pointer none, .pointer none, .pointer none, .pointer none, .pointer none, .pointer none, .pointer none] 113)
  generalize hV : w.alloc (.cells #[.pointer none, .pointer none, .pointer none, .pointer none, .pointer none, .pointer none, .pointer none, .pointer none, .pointer none, .pointer none, .pointer none] 113) = V0 at *
  clear hV
  have hdd := hal.drew
  have hOd : Ob V0.drew w.heap.size 113 #[.pointer none, .pointer none, .pointer none, .pointer none, .pointer none, .pointer none, .pointer none, .pointer none, .pointer none, .pointer none, .pointer none] := hO
  refine Pu.regionM [(0, false), (1, false), (2, false), (3, false), (4, false), (5, false), (6, false), (7, false), (8, false), (9, false), (10, false), (11, false), (12, false), (13, false), (14, false), (15, false), (16, false), (17, false), (18, false), (19, false), (20, false), (21, false), (22, false), (23, false), (24, false), (25, false), (26, false), (27, false), (28, false), (29, false), (30, false), (31, false), (32, false), (33, false), (34, false), (35, false), (36, false), (37, false), (38, false), (39, false), (40, false), (41, false), (42, false), (43, false), (44, false), (45, true)] (fun V => V = V0.drew) hmx (by kernel_rfl) (by kernel_rfl) (by kernel_rfl) rfl rfl ?_
  simp only [Pu.named, List.filterMap_cons, List.filterMap_nil, List.getElem?_toArray, List.getElem?_cons_succ, List.getElem?_cons_zero, Option.map_some]
  iterate 45 (first
    | (refine Pu.WalkM.off (by rfl) ?_; simp only [Act.put, List.setIfInBounds_toArray, List.set_cons_succ, List.set_cons_zero])
    | (apply Pu.WalkM.on (by rfl)
       · rintro V rfl
         go_wp2_with fail
         refine ⟨rfl, ?_, rfl⟩
         try simp only [Act.put, List.setIfInBounds_toArray, List.set_cons_succ, List.set_cons_zero]
         rfl
       simp only [Act.put, List.setIfInBounds_toArray, List.set_cons_succ, List.set_cons_zero]))
  refine Pu.WalkM.make (by rfl) ?_
  intro V hV
  rw [hV]
  clear hV V
  have hO2 := hOd.all [.pointer (some ⟨g, 0, none⟩), .pointer (some ⟨g, 1, none⟩), .pointer (some ⟨g, 2, none⟩), .pointer (some ⟨g, 3, none⟩), .pointer (some ⟨g, 4, none⟩), .pointer (some ⟨g, 5, none⟩), .pointer (some ⟨g, 6, none⟩), .pointer (some ⟨g, 7, none⟩), .pointer (some ⟨g, 8, none⟩), .pointer (some ⟨g, 9, none⟩), .pointer (some ⟨g, 10, none⟩)] (by simp)
  have hbb := hdd.grown (grownBy_segs (b := w.heap.size) [.pointer (some ⟨g, 0, none⟩), .pointer (some ⟨g, 1, none⟩), .pointer (some ⟨g, 2, none⟩), .pointer (some ⟨g, 3, none⟩), .pointer (some ⟨g, 4, none⟩), .pointer (some ⟨g, 5, none⟩), .pointer (some ⟨g, 6, none⟩), .pointer (some ⟨g, 7, none⟩), .pointer (some ⟨g, 8, none⟩), .pointer (some ⟨g, 9, none⟩), .pointer (some ⟨g, 10, none⟩)] V0.drew 0) hdd.size (fun k e => by cases e; exact Nat.le_refl _)
  have hth := hOd.there (o := 0) (n := 11) (by simp)
  have hone : Array.all (#[.pointer (some ⟨g, 0, none⟩), .pointer (some ⟨g, 1, none⟩), .pointer (some ⟨g, 2, none⟩), .pointer (some ⟨g, 3, none⟩), .pointer (some ⟨g, 4, none⟩), .pointer (some ⟨g, 5, none⟩), .pointer (some ⟨g, 6, none⟩), .pointer (some ⟨g, 7, none⟩), .pointer (some ⟨g, 8, none⟩), .pointer (some ⟨g, 9, none⟩), .pointer (some ⟨g, 10, none⟩)] : Array Value) (fun x => x.oneCell') = true := by simp [Value.oneCell']
  go_wp2_with (refine wpList_store_mid rfl 113 (.tmp 2) (.tmp 47) rfl w.heap.size 0 #[.pointer (some ⟨g, 0, none⟩), .pointer (some ⟨g, 1, none⟩), .pointer (some ⟨g, 2, none⟩), .pointer (some ⟨g, 3, none⟩), .pointer (some ⟨g, 4, none⟩), .pointer (some ⟨g, 5, none⟩), .pointer (some ⟨g, 6, none⟩), .pointer (some ⟨g, 7, none⟩), .pointer (some ⟨g, 8, none⟩), .pointer (some ⟨g, 9, none⟩), .pointer (some ⟨g, 10, none⟩)] rfl rfl hth (by kernel_rfl) hone ?_)
  obtain ⟨V2, hV2⟩ : ∃ V2, V2 = V0.drew.setCells w.heap.size 0 [.pointer (some ⟨g, 0, none⟩), .pointer (some ⟨g, 1, none⟩), .pointer (some ⟨g, 2, none⟩), .pointer (some ⟨g, 3, none⟩), .pointer (some ⟨g, 4, none⟩), .pointer (some ⟨g, 5, none⟩), .pointer (some ⟨g, 6, none⟩), .pointer (some ⟨g, 7, none⟩), .pointer (some ⟨g, 8, none⟩), .pointer (some ⟨g, 9, none⟩), .pointer (some ⟨g, 10, none⟩)] := ⟨_, rfl⟩
  rw [← hV2] at hO2 hbb
  have hV2' : V0.drew.setCells w.heap.size 0 (Array.toList (#[.pointer (some ⟨g, 0, none⟩), .pointer (some ⟨g, 1, none⟩), .pointer (some ⟨g, 2, none⟩), .pointer (some ⟨g, 3, none⟩), .pointer (some ⟨g, 4, none⟩), .pointer (some ⟨g, 5, none⟩), .pointer (some ⟨g, 6, none⟩), .pointer (some ⟨g, 7, none⟩), .pointer (some ⟨g, 8, none⟩), .pointer (some ⟨g, 9, none⟩), .pointer (some ⟨g, 10, none⟩)] : Array Value)) = V2 := by rw [hV2]
  rw [hV2']
  clear hV2 hV2' hth hone
  refine ⟨rfl, undef, (fun _ => True), (fun V => V = V2), rfl, rfl, (fun _ _ => trivial), (.inl (by kernel_rfl)), Pu.WalkM.nil ?_⟩
  intro V hV
  rw [hV]
  clear hV V
  simp only [Act.put]
  go_wp2
  refine bodyPost_ret (v := .agg #[.pointer (some ⟨g, 0, none⟩), .pointer (some ⟨g, 1, none⟩), .pointer (some ⟨g, 2, none⟩), .pointer (some ⟨g, 3, none⟩), .pointer (some ⟨g, 4, none⟩), .pointer (some ⟨g, 5, none⟩), .pointer (some ⟨g, 6, none⟩), .pointer (some ⟨g, 7, none⟩), .pointer (some ⟨g, 8, none⟩), .pointer (some ⟨g, 9, none⟩), .pointer (some ⟨g, 10, none⟩)]) ?_ rfl ⟨rfl, hbb⟩
  have c0 := hO2.cell (j := 0) (v := .pointer (some ⟨g, 0, none⟩)) rfl
  have c1 := hO2.cell (j := 1) (v := .pointer (some ⟨g, 1, none⟩)) rfl
  have c2 := hO2.cell (j := 2) (v := .pointer (some ⟨g, 2, none⟩)) rfl
  have c3 := hO2.cell (j := 3) (v := .pointer (some ⟨g, 3, none⟩)) rfl
  have c4 := hO2.cell (j := 4) (v := .pointer (some ⟨g, 4, none⟩)) rfl
  have c5 := hO2.cell (j := 5) (v := .pointer (some ⟨g, 5, none⟩)) rfl
  have c6 := hO2.cell (j := 6) (v := .pointer (some ⟨g, 6, none⟩)) rfl
  have c7 := hO2.cell (j := 7) (v := .pointer (some ⟨g, 7, none⟩)) rfl
  have c8 := hO2.cell (j := 8) (v := .pointer (some ⟨g, 8, none⟩)) rfl
  have c9 := hO2.cell (j := 9) (v := .pointer (some ⟨g, 9, none⟩)) rfl
  have c10 := hO2.cell (j := 10) (v := .pointer (some ⟨g, 10, none⟩)) rfl
  simp [results, Try.f68, go_sem, c0, c1, c2, c3, c4, c5, c6, c7, c8, c9, c10]
set_option maxRecDepth 100000 in
set_option maxHeartbeats 4000000 in
theorem add_none (n : Int) (w : World) : Calls Try.prog 44 #[.pointer none, .int .i64 n] w fun e w' => e = .returned (.tuple #[]) ∧ w = w' := by
  go_enter Try.func44, Try.ntmps44
  go_wp2
  go_end0
  exact ⟨rfl, rfl⟩
theorem add_some (g j : Nat) (x n : Int) (w : World) (hc : w.cell? ⟨g, j, none⟩ = some (.int .i64 x)) (hz : w.frozen? ⟨g, j, none⟩ = false) :
    Calls Try.prog 44 #[.pointer (some ⟨g, j, none⟩), .int .i64 n] w fun e w' => e = .returned (.tuple #[]) ∧ w' = w.setCell ⟨g, j, none⟩ (.int .i64 (wrap64 (x + n))) := by
  go_enter Try.func44, Try.ntmps44
  go_wp2
  go_end0
  exact ⟨rfl, rfl⟩
def ptr (g : Nat) : Option Nat → Value
  | none => .pointer none
  | some j => .pointer (some ⟨g, j, none⟩)
theorem add_calls (g : Nat) (j : Option Nat) (n : Int) {r : Row} {w : World} (hr : OkRow r) (hj : ∀ k, j = some k → k < 11) (h : Ob w g 84 (rowC r)) :
    Calls Try.prog 44 #[ptr g j, .int .i64 n] w fun e w' => e = .returned (.tuple #[]) ∧ Ob w' g 84 (rowC (addR r j n)) ∧ w.grownBy w' (some g) := by
  cases j with
  | none =>
    refine (add_none n w).mono ?_
    rintro e W ⟨rfl, rfl⟩
    exact ⟨rfl, h, World.grownBy.refl _ _⟩
  | some j =>
    have hj := hj j rfl
    refine (add_some g j _ n w (h.cell (rowC_get (by rw [hr.len]; exact hj))) (h.frozen j)).mono ?_
    rintro e W ⟨rfl, rfl⟩
    refine ⟨rfl, ?_, grownBy_set _ _ _ _⟩
    have := h.set j (.int .i64 (wrap64 (at_ r j + n)))
    rw [rowC_set] at this
    exact this
theorem road_cases (k : Int) : (k = 1 ∨ k = 2 ∨ k = 3 ∨ k = 4 ∨ k = 5 ∨ k = 6 ∨ k = 7 ∨ k = 8 ∨ k = 9 ∨ k = 10 ∨ k = 11) ∨ road k = (none, none, none) := by
  by_cases h : 1 ≤ k ∧ k ≤ 11
  · exact .inl (by omega)
  · refine .inr ?_
    unfold road
    simp only [show ¬ k = 1 by omega, show ¬ k = 2 by omega, show ¬ k = 3 by omega, show ¬ k = 4 by omega, show ¬ k = 5 by omega, show ¬ k = 6 by omega, show ¬ k = 7 by omega, show ¬ k = 8 by omega, show ¬ k = 9 by omega, show ¬ k = 10 by omega, show ¬ k = 11 by omega, if_false]
def lt11 (j : Option Nat) : Bool := j.all fun j => decide (j < 11)
theorem lt11_lt {j : Option Nat} (h : lt11 j = true) : ∀ k, j = some k → k < 11 := by
  rintro k rfl
  simpa [lt11] using h
theorem road_lt (k : Int) : (∀ j, (road k).1 = some j → j < 11) ∧ (∀ j, (road k).2.1 = some j → j < 11) ∧ (∀ j, (road k).2.2 = some j → j < 11) := by
  have h : lt11 (road k).1 = true ∧ lt11 (road k).2.1 = true ∧ lt11 (road k).2.2 = true := by
    rcases road_cases k with h | h
    · rcases h with rfl | rfl | rfl | rfl | rfl | rfl | rfl | rfl | rfl | rfl | rfl <;> decide
    · rw [h]; decide
  exact ⟨lt11_lt h.1, lt11_lt h.2.1, lt11_lt h.2.2⟩
theorem below_drewN (w : World) (n : Nat) : Below w.heap.size w (w.drewN n) := ⟨rfl, rfl, rfl, Nat.le_refl _, fun _ _ => rfl⟩
set_option maxRecDepth 100000 in
set_option maxHeartbeats 8000000 in
theorem road_calls (k : Int) (g : Nat) (w : World) :
    Calls Try.prog 43 #[.int .i64 k, .pointer (some ⟨g, 0, none⟩)] w fun e w' => e = .returned (.tuple #[ptr g (road k).1, ptr g (road k).2.1, ptr g (road k).2.2]) ∧ Below w.heap.size w w' := by
  by_cases e1 : k = 1
  · subst e1
    go_enter Try.func43, Try.ntmps43
    go_wp2
    go_quiet (fail)
    go_wp2
    go_ret3
    exact ⟨rfl, below_drewN _ _⟩
  have f1 : (k == 1) = false := by simpa using e1
  by_cases e2 : k = 2
  · subst e2
    go_enter Try.func43, Try.ntmps43
    go_wp2
    go_quiet (fail)
    go_wp2
    go_ret3
    exact ⟨rfl, below_drewN _ _⟩
  have f2 : (k == 2) = false := by simpa using e2
  by_cases e3 : k = 3
  · subst e3
    go_enter Try.func43, Try.ntmps43
    go_wp2
    go_quiet (fail)
    go_wp2
    go_ret3
    exact ⟨rfl, below_drewN _ _⟩
  have f3 : (k == 3) = false := by simpa using e3
  by_cases e4 : k = 4
  · subst e4
    go_enter Try.func43, Try.ntmps43
    go_wp2
    go_quiet (fail)
    go_wp2
    go_ret3
    exact ⟨rfl, below_drewN _ _⟩
  have f4 : (k == 4) = false := by simpa using e4
  by_cases e5 : k = 5
  · subst e5
    go_enter Try.func43, Try.ntmps43
    go_wp2
    go_quiet (fail)
    go_wp2
    go_ret3
    exact ⟨rfl, below_drewN _ _⟩
  have f5 : (k == 5) = false := by simpa using e5
  by_cases e6 : k = 6
  · subst e6
    go_enter Try.func43, Try.ntmps43
    go_wp2
    go_quiet (fail)
    go_wp2
    go_ret3
    exact ⟨rfl, below_drewN _ _⟩
  have f6 : (k == 6) = false := by simpa using e6
  by_cases e7 : k = 7
  · subst e7
    go_enter Try.func43, Try.ntmps43
    go_wp2
    go_quiet (fail)
    go_wp2
    go_ret3
    exact ⟨rfl, below_drewN _ _⟩
  have f7 : (k == 7) = false := by simpa using e7
  by_cases e8 : k = 8
  · subst e8
    go_enter Try.func43, Try.ntmps43
    go_wp2
    go_quiet (fail)
    go_wp2
    go_ret3
    exact ⟨rfl, below_drewN _ _⟩
  have f8 : (k == 8) = false := by simpa using e8
  by_cases e9 : k = 9
  · subst e9
    go_enter Try.func43, Try.ntmps43
    go_wp2
    go_quiet (fail)
    go_wp2
    go_ret3
    exact ⟨rfl, below_drewN _ _⟩
  have f9 : (k == 9) = false := by simpa using e9
  by_cases e10 : k = 10
  · subst e10
    go_enter Try.func43, Try.ntmps43
    go_wp2
    go_quiet (fail)
    go_wp2
    go_ret3
    exact ⟨rfl, below_drewN _ _⟩
  have f10 : (k == 10) = false := by simpa using e10
  by_cases e11 : k = 11
  · subst e11
    go_enter Try.func43, Try.ntmps43
    go_wp2
    go_quiet (fail)
    go_wp2
    go_ret3
    exact ⟨rfl, below_drewN _ _⟩
  have f11 : (k == 11) = false := by simpa using e11
  have hr : road k = (none, none, none) := by unfold road; simp [*]
  rw [hr]
  clear e1
  clear e2
  clear e3
  clear e4
  clear e5
  clear e6
  clear e7
  clear e8
  clear e9
  clear e10
  clear e11
  go_enter Try.func43, Try.ntmps43
  go_wp2
  go_ret3
  exact ⟨rfl, Below.refl _ w⟩
end Sk
end Go.Proofs.Ytlhpdalfnjhokaa

namespace Go.Proofs.Ytlhpdalfnjhokaa
open Go.RowKit Go.Maps
namespace Sk
open It Al
theorem okAt_lo {k : Nat} (h : k < 4) (x : Int) : okAt k x = countOk x := by unfold okAt; rw [if_pos h]
theorem okAt_six (x : Int) : okAt 6 x = true := rfl
theorem okAt_hi {k : Nat} (h : ¬ k < 4) (h2 : k ≠ 6) (x : Int) : okAt k x = flowOk x := by unfold okAt; rw [if_neg h, if_neg h2]
theorem flowOk_no {x : Int} (h : x < 0 ∨ 72057594037927936 < x) : flowOk x = false := by
  unfold flowOk
  rcases h with h | h
  · rw [decide_eq_false (p := 0 ≤ x) (by omega)]; rfl
  · rw [decide_eq_false (p := x ≤ 72057594037927936) (by omega)]; simp
theorem flowOk_yes {x : Int} (h : 0 ≤ x) (h2 : x ≤ 72057594037927936) : flowOk x = true := by
  unfold flowOk
  rw [decide_eq_true h, decide_eq_true h2]
  rfl
theorem ix0 (g : Nat) (W : World) : (Instr.index 113 (.agg #[.pointer (some ⟨g, 0, none⟩), .pointer (some ⟨g, 1, none⟩), .pointer (some ⟨g, 2, none⟩), .pointer (some ⟨g, 3, none⟩), .pointer (some ⟨g, 4, none⟩), .pointer (some ⟨g, 5, none⟩), .pointer (some ⟨g, 6, none⟩), .pointer (some ⟨g, 7, none⟩), .pointer (some ⟨g, 8, none⟩), .pointer (some ⟨g, 9, none⟩), .pointer (some ⟨g, 10, none⟩)]) (.int .i64 0)).run Try.prog W = .ok (.pointer (some ⟨g, 0, none⟩)) W := by kernel_rfl
theorem ix1 (g : Nat) (W : World) : (Instr.index 113 (.agg #[.pointer (some ⟨g, 0, none⟩), .pointer (some ⟨g, 1, none⟩), .pointer (some ⟨g, 2, none⟩), .pointer (some ⟨g, 3, none⟩), .pointer (some ⟨g, 4, none⟩), .pointer (some ⟨g, 5, none⟩), .pointer (some ⟨g, 6, none⟩), .pointer (some ⟨g, 7, none⟩), .pointer (some ⟨g, 8, none⟩), .pointer (some ⟨g, 9, none⟩), .pointer (some ⟨g, 10, none⟩)]) (.int .i64 1)).run Try.prog W = .ok (.pointer (some ⟨g, 1, none⟩)) W := by kernel_rfl
theorem ix2 (g : Nat) (W : World) : (Instr.index 113 (.agg #[.pointer (some ⟨g, 0, none⟩), .pointer (some ⟨g, 1, none⟩), .pointer (some ⟨g, 2, none⟩), .pointer (some ⟨g, 3, none⟩), .pointer (some ⟨g, 4, none⟩), .pointer (some ⟨g, 5, none⟩), .pointer (some ⟨g, 6, none⟩), .pointer (some ⟨g, 7, none⟩), .pointer (some ⟨g, 8, none⟩), .pointer (some ⟨g, 9, none⟩), .pointer (some ⟨g, 10, none⟩)]) (.int .i64 2)).run Try.prog W = .ok (.pointer (some ⟨g, 2, none⟩)) W := by kernel_rfl
theorem ix3 (g : Nat) (W : World) : (Instr.index 113 (.agg #[.pointer (some ⟨g, 0, none⟩), .pointer (some ⟨g, 1, none⟩), .pointer (some ⟨g, 2, none⟩), .pointer (some ⟨g, 3, none⟩), .pointer (some ⟨g, 4, none⟩), .pointer (some ⟨g, 5, none⟩), .pointer (some ⟨g, 6, none⟩), .pointer (some ⟨g, 7, none⟩), .pointer (some ⟨g, 8, none⟩), .pointer (some ⟨g, 9, none⟩), .pointer (some ⟨g, 10, none⟩)]) (.int .i64 3)).run Try.prog W = .ok (.pointer (some ⟨g, 3, none⟩)) W := by kernel_rfl
theorem ix4 (g : Nat) (W : World) : (Instr.index 113 (.agg #[.pointer (some ⟨g, 0, none⟩), .pointer (some ⟨g, 1, none⟩), .pointer (some ⟨g, 2, none⟩), .pointer (some ⟨g, 3, none⟩), .pointer (some ⟨g, 4, none⟩), .pointer (some ⟨g, 5, none⟩), .pointer (some ⟨g, 6, none⟩), .pointer (some ⟨g, 7, none⟩), .pointer (some ⟨g, 8, none⟩), .pointer (some ⟨g, 9, none⟩), .pointer (some ⟨g, 10, none⟩)]) (.int .i64 4)).run Try.prog W = .ok (.pointer (some ⟨g, 4, none⟩)) W := by kernel_rfl
theorem ix5 (g : Nat) (W : World) : (Instr.index 113 (.agg #[.pointer (some ⟨g, 0, none⟩), .pointer (some ⟨g, 1, none⟩), .pointer (some ⟨g, 2, none⟩), .pointer (some ⟨g, 3, none⟩), .pointer (some ⟨g, 4, none⟩), .pointer (some ⟨g, 5, none⟩), .pointer (some ⟨g, 6, none⟩), .pointer (some ⟨g, 7, none⟩), .pointer (some ⟨g, 8, none⟩), .pointer (some ⟨g, 9, none⟩), .pointer (some ⟨g, 10, none⟩)]) (.int .i64 5)).run Try.prog W = .ok (.pointer (some ⟨g, 5, none⟩)) W := by kernel_rfl
theorem ix6 (g : Nat) (W : World) : (Instr.index 113 (.agg #[.pointer (some ⟨g, 0, none⟩), .pointer (some ⟨g, 1, none⟩), .pointer (some ⟨g, 2, none⟩), .pointer (some ⟨g, 3, none⟩), .pointer (some ⟨g, 4, none⟩), .pointer (some ⟨g, 5, none⟩), .pointer (some ⟨g, 6, none⟩), .pointer (some ⟨g, 7, none⟩), .pointer (some ⟨g, 8, none⟩), .pointer (some ⟨g, 9, none⟩), .pointer (some ⟨g, 10, none⟩)]) (.int .i64 6)).run Try.prog W = .ok (.pointer (some ⟨g, 6, none⟩)) W := by kernel_rfl
theorem ix7 (g : Nat) (W : World) : (Instr.index 113 (.agg #[.pointer (some ⟨g, 0, none⟩), .pointer (some ⟨g, 1, none⟩), .pointer (some ⟨g, 2, none⟩), .pointer (some ⟨g, 3, none⟩), .pointer (some ⟨g, 4, none⟩), .pointer (some ⟨g, 5, none⟩), .pointer (some ⟨g, 6, none⟩), .pointer (some ⟨g, 7, none⟩), .pointer (some ⟨g, 8, none⟩), .pointer (some ⟨g, 9, none⟩), .pointer (some ⟨g, 10, none⟩)]) (.int .i64 7)).run Try.prog W = .ok (.pointer (some ⟨g, 7, none⟩)) W := by kernel_rfl
theorem ix8 (g : Nat) (W : World) : (Instr.index 113 (.agg #[.pointer (some ⟨g, 0, none⟩), .pointer (some ⟨g, 1, none⟩), .pointer (some ⟨g, 2, none⟩), .pointer (some ⟨g, 3, none⟩), .pointer (some ⟨g, 4, none⟩), .pointer (some ⟨g, 5, none⟩), .pointer (some ⟨g, 6, none⟩), .pointer (some ⟨g, 7, none⟩), .pointer (some ⟨g, 8, none⟩), .pointer (some ⟨g, 9, none⟩), .pointer (some ⟨g, 10, none⟩)]) (.int .i64 8)).run Try.prog W = .ok (.pointer (some ⟨g, 8, none⟩)) W := by kernel_rfl
theorem ix9 (g : Nat) (W : World) : (Instr.index 113 (.agg #[.pointer (some ⟨g, 0, none⟩), .pointer (some ⟨g, 1, none⟩), .pointer (some ⟨g, 2, none⟩), .pointer (some ⟨g, 3, none⟩), .pointer (some ⟨g, 4, none⟩), .pointer (some ⟨g, 5, none⟩), .pointer (some ⟨g, 6, none⟩), .pointer (some ⟨g, 7, none⟩), .pointer (some ⟨g, 8, none⟩), .pointer (some ⟨g, 9, none⟩), .pointer (some ⟨g, 10, none⟩)]) (.int .i64 9)).run Try.prog W = .ok (.pointer (some ⟨g, 9, none⟩)) W := by kernel_rfl
theorem ix10 (g : Nat) (W : World) : (Instr.index 113 (.agg #[.pointer (some ⟨g, 0, none⟩), .pointer (some ⟨g, 1, none⟩), .pointer (some ⟨g, 2, none⟩), .pointer (some ⟨g, 3, none⟩), .pointer (some ⟨g, 4, none⟩), .pointer (some ⟨g, 5, none⟩), .pointer (some ⟨g, 6, none⟩), .pointer (some ⟨g, 7, none⟩), .pointer (some ⟨g, 8, none⟩), .pointer (some ⟨g, 9, none⟩), .pointer (some ⟨g, 10, none⟩)]) (.int .i64 10)).run Try.prog W = .ok (.pointer (some ⟨g, 10, none⟩)) W := by kernel_rfl
theorem index11 (g k : Nat) (hk : k < 11) (W : World) : (Instr.index 113 (.agg #[.pointer (some ⟨g, 0, none⟩), .pointer (some ⟨g, 1, none⟩), .pointer (some ⟨g, 2, none⟩), .pointer (some ⟨g, 3, none⟩), .pointer (some ⟨g, 4, none⟩), .pointer (some ⟨g, 5, none⟩), .pointer (some ⟨g, 6, none⟩), .pointer (some ⟨g, 7, none⟩), .pointer (some ⟨g, 8, none⟩), .pointer (some ⟨g, 9, none⟩), .pointer (some ⟨g, 10, none⟩)]) (.int .i64 (k : Int))).run Try.prog W = .ok (.pointer (some ⟨g, k, none⟩)) W := by
  have h : k = 0 ∨ k = 1 ∨ k = 2 ∨ k = 3 ∨ k = 4 ∨ k = 5 ∨ k = 6 ∨ k = 7 ∨ k = 8 ∨ k = 9 ∨ k = 10 := by omega
  rcases h with rfl | rfl | rfl | rfl | rfl | rfl | rfl | rfl | rfl | rfl | rfl
  · exact ix0 g W
  · exact ix1 g W
  · exact ix2 g W
  · exact ix3 g W
  · exact ix4 g W
  · exact ix5 g W
  · exact ix6 g W
  · exact ix7 g W
  · exact ix8 g W
  · exact ix9 g W
  · exact ix10 g W
set_option maxRecDepth 100000 in
set_option maxHeartbeats 4000000 in
theorem each_calls (g : Nat) {r : Row} {w : World} (hr : OkRow r) (h : Ob w g 84 (rowC r)) :
    Calls Try.prog 57 #[.pointer (some ⟨g, 0, none⟩)] w fun e w' => e = .returned (.bool (eachR r)) ∧ Below w.heap.size w w' := by
  go_enter Try.func57, Try.ntmps57
  go_wp2_with fail
  refine (numbers_calls g w).mono ?_
  rintro e W ⟨rfl, hb⟩
  have H1 := Lib.hid (h.same hb)
  have HR := Lib.hid hr
  clear h hr
  go_wp2
  go_loop [7] (fun i => ∃ k : Nat, k ≤ 11 ∧ i = .int .i64 k ∧ ∀ j, j < k → okAt j (at_ r j) = true) (fun i => 11 - (intOf i).toNat)
  case atStart => exact ⟨0, by omega, rfl, fun j hj => by omega⟩
  case round =>
    obtain ⟨k, hk, rfl, hN⟩ := hrel
    have HN := Lib.hid hN
    clear hN
    by_cases hlt : k < 11
    · have hcell := H1.out.cell (rowC_get (j := k) (by rw [HR.out.len]; exact hlt))
      have hidx := fun W => index11 g k hlt W
      have HX := Lib.hid (show ∀ x, at_ r k = x → okAt k x = true → ∀ j, j < k + 1 → okAt j (at_ r j) = true from fun x hx h j hj => by
        rcases Nat.lt_or_ge j k with h1 | h1
        · exact HN.out j h1
        · obtain rfl : j = k := by omega
          rw [hx]; exact h)
      have HNO := Lib.hid (show ∀ x, at_ r k = x → okAt k x = false → eachR r = false from fun x hx h => eachR_no hlt (by rw [hx]; exact h))
      have hbx := HR.out.at_ k
      obtain ⟨x, hx⟩ : ∃ x, at_ r k = x := ⟨_, rfl⟩
      rw [hx] at hcell hbx
      have HX1 := Lib.hid (HX.out x hx)
      have HNO1 := Lib.hid (HNO.out x hx)
      clear hx HX HNO
      have dk : decide ((k : Int) < 11) = true := by simp; omega
      by_cases h4 : k < 4
      · have d1 : decide ((k : Int) < 4) = true := by simp; omega
        have d2 : decide ((k : Int) ≥ 4) = false := by simp; omega
        have HOK := Lib.hid (okAt_lo h4 x)
        have cN := Lib.hid (fun W => count_calls x W)
        generalize countOk x = c at *
        cases c with
        | false =>
          go_wp2_with (go_at_call 37; refine (cN.out _).mono ?_; rintro e W2 ⟨rfl, rfl⟩)
          go_ret
          exact ⟨ret1 (boo (HNO1.out HOK.out).symm), hb⟩
        | true =>
          have HFIN := Lib.hid (HX1.out HOK.out)
          go_wp2_with (go_at_call 37; refine (cN.out _).mono ?_; rintro e W2 ⟨rfl, rfl⟩)
          go_round
          case rel => exact ⟨k + 1, by omega, by go_num, HFIN.out⟩
          case measure => simp [intOf]; omega
      · have d1 : decide ((k : Int) < 4) = false := by simp; omega
        have d2 : decide ((k : Int) ≥ 4) = true := by simp; omega
        by_cases h6 : k = 6
        · have d3 : ((k : Int) != 6) = false := by simp; omega
          have HFIN := Lib.hid (HX1.out (by rw [h6]; exact okAt_six x))
          clear h4 h6
          go_wp2
          go_round
          case rel => exact ⟨k + 1, by omega, by go_num, HFIN.out⟩
          case measure => simp [intOf]; omega
        · have d3 : ((k : Int) != 6) = true := by rw [bne_iff_ne]; omega
          have HOK := Lib.hid (okAt_hi h4 h6 x)
          clear h4 h6
          by_cases hx0 : x < 0
          · have HNN := Lib.hid (HNO1.out (HOK.out.trans (flowOk_no (.inl hx0))))
            go_wp2
            go_ret
            exact ⟨ret1 (boo HNN.out.symm), hb⟩
          · by_cases hx1 : x > 72057594037927936
            · have HNN := Lib.hid (HNO1.out (HOK.out.trans (flowOk_no (.inr hx1))))
              go_wp2
              go_ret
              exact ⟨ret1 (boo HNN.out.symm), hb⟩
            · have HFIN := Lib.hid (HX1.out (HOK.out.trans (flowOk_yes (by omega) (by omega))))
              go_wp2
              go_round
              case rel => exact ⟨k + 1, by omega, by go_num, HFIN.out⟩
              case measure => simp [intOf]; omega
    · obtain rfl : k = 11 := by omega
      have HT := Lib.hid (eachR_all HN.out)
      go_wp2
      go_ret
      exact ⟨ret1 (boo HT.out.symm), hb⟩
set_option maxRecDepth 100000 in
set_option maxHeartbeats 4000000 in
theorem right_calls (g : Nat) {r : Row} {w : World} (hr : OkRow r) (h : Ob w g 84 (rowC r)) :
    Calls Try.prog 38 #[.pointer (some ⟨g, 0, none⟩)] w fun e w' => e = .returned (.bool (rightR r)) ∧ Below w.heap.size w w' := by
  have HRT := Lib.hid (show rightR r = (eachR r && countOk (at_ r 0 + at_ r 1 + at_ r 2 + at_ r 3)) from rfl)
  have hdr := (Below.refl w.heap.size w).drew
  have hd : Ob w.drew g 84 (rowC r) := h
  have cE := Lib.hid (each_calls g hr hd)
  have HB := Lib.hid (fun (he : eachR r = true) => (⟨eachR_four he (show 0 < 4 by omega), eachR_four he (show 1 < 4 by omega), eachR_four he (show 2 < 4 by omega), eachR_four he (show 3 < 4 by omega)⟩ : (_ ∧ _) ∧ (_ ∧ _) ∧ (_ ∧ _) ∧ (_ ∧ _)))
  have hl := hr.len
  have HC := Lib.hid (fun (V : World) (hV : Ob V g 84 (rowC r)) => (⟨hV.cell (rowC_get (j := 0) (by omega)), hV.cell (rowC_get (j := 1) (by omega)), hV.cell (rowC_get (j := 2) (by omega)), hV.cell (rowC_get (j := 3) (by omega))⟩ : _ ∧ _ ∧ _ ∧ _))
  generalize at_ r 0 = x0 at *
  generalize at_ r 1 = x1 at *
  generalize at_ r 2 = x2 at *
  generalize at_ r 3 = x3 at *
  have cN := Lib.hid (fun W => count_calls (x0 + x1 + x2 + x3) W)
  generalize countOk (x0 + x1 + x2 + x3) = cc at *
  have HO := Lib.hid hd
  clear hl h hr
  go_enter Try.func38, Try.ntmps38
  go_wp2_with fail
  cases hE : eachR r with
  | false =>
    rw [hE] at cE HRT
    clear HB hE
    refine Pu.regionM [(0, false), (1, true), (2, false), (3, false), (4, false), (5, false), (6, false), (7, false), (8, false), (9, false), (10, false), (11, false), (12, false), (13, false), (14, false), (15, false), (16, false), (17, false), (18, false), (19, false), (20, false), (21, false), (22, false), (23, false), (24, false), (25, false), (26, false), (27, false), (28, false)] (fun V => Ob V g 84 (rowC r)) hmx (by kernel_rfl) (by kernel_rfl) (by kernel_rfl) hd rfl ?_
    simp only [Pu.named, List.filterMap_cons, List.filterMap_nil, List.getElem?_toArray, List.getElem?_cons_succ, List.getElem?_cons_zero, Option.map_some]
    iterate 1 (first
      | (refine Pu.WalkM.off (by rfl) ?_; simp only [Act.put, List.setIfInBounds_toArray, List.set_cons_succ, List.set_cons_zero])
      | (apply Pu.WalkM.on (by rfl)
         · intro V hV
           go_wp2_with fail
           refine ⟨rfl, ?_, rfl⟩
           try simp only [Act.put, List.setIfInBounds_toArray, List.set_cons_succ, List.set_cons_zero]
           rfl
         simp only [Act.put, List.setIfInBounds_toArray, List.set_cons_succ, List.set_cons_zero]))
    refine Pu.WalkM.make (by rfl) ?_
    intro V hV
    rw [hV]
    clear hV V
    go_wp2_with (go_at_call 57; refine cE.out.mono ?_; rintro e W2 ⟨rfl, hb⟩)
    have hO2 := HO.out.below (hb.mono (Nat.le_refl _)) HO.out.lt
    have HBL := Lib.hid (hdr.trans (hb.mono (Nat.le_refl _)))
    clear hb cE hdr
    refine ⟨rfl, .bool false, (fun V => Ob V g 84 (rowC r)), (fun V => V = W2), ?_, rfl, (fun V h => by rw [h]; exact hO2), (.inr (fun _ h => h)), ?_⟩
    · try simp only [Act.put, List.setIfInBounds_toArray, List.set_cons_succ, List.set_cons_zero]
    try simp only [Act.put, List.setIfInBounds_toArray, List.set_cons_succ, List.set_cons_zero]
    iterate 27 (first
      | (refine Pu.WalkM.off (by rfl) ?_; simp only [Act.put, List.setIfInBounds_toArray, List.set_cons_succ, List.set_cons_zero])
      | (apply Pu.WalkM.on (by rfl)
         · intro V hV
           go_wp2_with fail
           refine ⟨rfl, ?_, rfl⟩
           try simp only [Act.put, List.setIfInBounds_toArray, List.set_cons_succ, List.set_cons_zero]
           rfl
         simp only [Act.put, List.setIfInBounds_toArray, List.set_cons_succ, List.set_cons_zero]))
    refine Pu.WalkM.nil ?_
    intro V hV
    rw [hV]
    clear hV V
    clear hO2
    go_wp2
    go_ret
    exact ⟨ret1 (boo (by rw [HRT.out]; rfl)), HBL.out⟩
  | true =>
    obtain ⟨⟨b0, c0⟩, ⟨b1, c1⟩, ⟨b2, c2⟩, b3, c3⟩ := HB.out hE
    rw [hE] at cE HRT
    clear HB hE
    refine Pu.regionM [(0, false), (1, true), (2, false), (3, false), (4, false), (5, false), (6, false), (7, false), (8, false), (9, false), (10, false), (11, false), (12, false), (13, false), (14, false), (15, false), (16, false), (17, false), (18, false), (19, false), (20, false), (21, false), (22, false), (23, false), (24, false), (25, false), (26, false), (27, false), (28, false)] (fun V => Ob V g 84 (rowC r)) hmx (by kernel_rfl) (by kernel_rfl) (by kernel_rfl) hd rfl ?_
    simp only [Pu.named, List.filterMap_cons, List.filterMap_nil, List.getElem?_toArray, List.getElem?_cons_succ, List.getElem?_cons_zero, Option.map_some]
    iterate 1 (first
      | (refine Pu.WalkM.off (by rfl) ?_; simp only [Act.put, List.setIfInBounds_toArray, List.set_cons_succ, List.set_cons_zero])
      | (apply Pu.WalkM.on (by rfl)
         · intro V hV
           go_wp2_with fail
           refine ⟨rfl, ?_, rfl⟩
           try simp only [Act.put, List.setIfInBounds_toArray, List.set_cons_succ, List.set_cons_zero]
           rfl
         simp only [Act.put, List.setIfInBounds_toArray, List.set_cons_succ, List.set_cons_zero]))
    refine Pu.WalkM.make (by rfl) ?_
    intro V hV
    rw [hV]
    clear hV V
    go_wp2_with (go_at_call 57; refine cE.out.mono ?_; rintro e W2 ⟨rfl, hb⟩)
    have hO2 := HO.out.below (hb.mono (Nat.le_refl _)) HO.out.lt
    have HBL := Lib.hid (hdr.trans (hb.mono (Nat.le_refl _)))
    clear hb cE hdr
    refine ⟨rfl, .bool true, (fun V => Ob V g 84 (rowC r)), (fun V => V = W2), ?_, rfl, (fun V h => by rw [h]; exact hO2), (.inr (fun _ h => h)), ?_⟩
    · try simp only [Act.put, List.setIfInBounds_toArray, List.set_cons_succ, List.set_cons_zero]
    try simp only [Act.put, List.setIfInBounds_toArray, List.set_cons_succ, List.set_cons_zero]
    iterate 27 (first
      | (refine Pu.WalkM.off (by rfl) ?_; simp only [Act.put, List.setIfInBounds_toArray, List.set_cons_succ, List.set_cons_zero])
      | (apply Pu.WalkM.on (by rfl)
         · intro V hV
           obtain ⟨y0, y1, y2, y3⟩ := HC.out V hV
           go_wp2_with (go_at_call 37; refine (cN.out _).mono ?_; rintro e W3 ⟨rfl, rfl⟩)
           refine ⟨rfl, ?_, rfl⟩
           try simp only [Act.put, List.setIfInBounds_toArray, List.set_cons_succ, List.set_cons_zero]
           rfl
         simp only [Act.put, List.setIfInBounds_toArray, List.set_cons_succ, List.set_cons_zero]))
    refine Pu.WalkM.nil ?_
    intro V hV
    rw [hV]
    clear hV V
    clear hO2
    go_wp2
    go_ret
    exact ⟨ret1 (boo (by rw [HRT.out]; rfl)), HBL.out⟩
end Sk
end Go.Proofs.Ytlhpdalfnjhokaa

namespace Go.Proofs.Ytlhpdalfnjhokaa
open Go.RowKit Go.Maps
section
variable {P : Program} {w : World} {ops : Array Oper} {rest : List Oper} {o : Oper} {a : Act} {Q : Exit → Act → World → Prop} {F : Fence} {N : Nat}
theorem store_ob_run {g : Nat} {t ty : TypeId} {cs0 cells : Array Value} (h : Ob w g t cs0) (hs : cells.size = cs0.size) (hi : (P.info? ty).map (·.size) = some cells.size) (h1 : cells.all (·.oneCell') = true) :
    ∃ w', (Instr.storeAt ty (.pointer (some ⟨g, 0, none⟩)) (.agg cells)).run P w = .ok () w' ∧ Ob w' g t cells ∧ w.grownBy w' (some g) :=
  ⟨_, run_storeAt_mid w g 0 ty cells (h.there (by omega)) hi h1, by have := h.all cells.toList (by simpa using hs); simpa using this, grownBy_segs _ _ _⟩
theorem load_ob_run {g : Nat} {t ty : TypeId} {cells : Array Value} {d : TypeDesc} (h : Ob w g t cells) (hu : P.underlying ty = some d) (hd : d.isRow = true) (hi : (P.info? ty).map (·.size) = some cells.size) :
    (Instr.loadAt ty (.pointer (some ⟨g, 0, none⟩))).run P w = .ok (.agg cells) w := by
  have := run_loadAt_mid (P := P) w g 0 ty cells.toList d (h.range (fun j v hv => by simpa using hv)) hu hd (by simpa using hi)
  simpa using this
theorem wpListIn_store_ob (hgd : o.guard = none) (ty : TypeId) (x y : Operand) (hop : o.op = .store ty x y) {g : Nat} {t : TypeId} {cs0 cells : Array Value} (hx : a.eval x = .pointer (some ⟨g, 0, none⟩)) (hy : a.eval y = .agg cells)
    (h : Ob w g t cs0) (hs : cells.size = cs0.size) (hi : (P.info? ty).map (·.size) = some cells.size) (h1 : cells.all (·.oneCell') = true)
    (hK : ∀ w', Ob w' g t cells → w.grownBy w' (some g) → wpListIn F N P ops Q rest (a.put o.dst undef) w') : wpListIn F N P ops Q (o :: rest) a w := by
  refine wpListIn_plain hgd fun K' hK' => ?_
  obtain ⟨w', hrun, r1, r2⟩ := store_ob_run (P := P) h hs hi h1
  unfold Oper.wpIn
  refine ⟨by simp [Oper.about, hop], ?_⟩
  rw [Oper.semAt_eq _ _ _ (by rw [hop]; intro c hc; cases hc)]
  simp [execOp, hop, hx, hy, hrun, Result.andThen]
  exact hK' _ _ (hK w' r1 r2)
theorem wpList_store_ob (hgd : o.guard = none) (ty : TypeId) (x y : Operand) (hop : o.op = .store ty x y) {g : Nat} {t : TypeId} {cs0 cells : Array Value} (hx : a.eval x = .pointer (some ⟨g, 0, none⟩)) (hy : a.eval y = .agg cells)
    (h : Ob w g t cs0) (hs : cells.size = cs0.size) (hi : (P.info? ty).map (·.size) = some cells.size) (h1 : cells.all (·.oneCell') = true)
    (hK : ∀ w', Ob w' g t cells → w.grownBy w' (some g) → wpList P ops Q rest (a.put o.dst undef) w') : wpList P ops Q (o :: rest) a w := by
  refine wpList_plain hgd fun K' hK' => ?_
  obtain ⟨w', hrun, r1, r2⟩ := store_ob_run (P := P) h hs hi h1
  unfold Oper.wp
  simp [execOp, hop, hx, hy, hrun, Result.andThen]
  exact hK' _ _ (hK w' r1 r2)
theorem wpListIn_load_ob (hgd : o.guard = none) (ty : TypeId) (x : Operand) (hop : o.op = .load ty x) {g : Nat} {t : TypeId} {cells : Array Value} (hx : a.eval x = .pointer (some ⟨g, 0, none⟩)) (d : TypeDesc)
    (h : Ob w g t cells) (hu : P.underlying ty = some d) (hd : d.isRow = true) (hi : (P.info? ty).map (·.size) = some cells.size)
    (hK : wpListIn F N P ops Q rest (a.put o.dst (.agg cells)) w) : wpListIn F N P ops Q (o :: rest) a w := by
  refine wpListIn_plain hgd fun K' hK' => ?_
  have hrun := load_ob_run (P := P) h hu hd hi
  unfold Oper.wpIn
  refine ⟨by simp [Oper.about, hop], ?_⟩
  rw [Oper.semAt_eq _ _ _ (by rw [hop]; intro c hc; cases hc)]
  simp [execOp, hop, hx, hrun, Result.andThen]
  exact hK' _ _ hK
theorem wpList_load_ob (hgd : o.guard = none) (ty : TypeId) (x : Operand) (hop : o.op = .load ty x) {g : Nat} {t : TypeId} {cells : Array Value} (hx : a.eval x = .pointer (some ⟨g, 0, none⟩)) (d : TypeDesc)
    (h : Ob w g t cells) (hu : P.underlying ty = some d) (hd : d.isRow = true) (hi : (P.info? ty).map (·.size) = some cells.size)
    (hK : wpList P ops Q rest (a.put o.dst (.agg cells)) w) : wpList P ops Q (o :: rest) a w := by
  refine wpList_plain hgd fun K' hK' => ?_
  have hrun := load_ob_run (P := P) h hu hd hi
  unfold Oper.wp
  simp [execOp, hop, hx, hrun, Result.andThen]
  exact hK' _ _ hK
end
section
variable {κ : Type} [DecidableEq κ] {K : KeyK κ} {P : Program} {w : World} {b : Nat} {m : List (κ × Value)} {ops : Array Oper} {rest : List Oper} {o : Oper} {a : Act} {Q : Exit → Act → World → Prop} {F : Fence} {N : Nat}
theorem wpListIn_look_ok_g (hg : o.guard = none) (x y : Operand) (tm : TypeId) (hop : o.op = Op.lookup tm x y true) (t e : TypeId) (KK : Keyed P t) (ht : P.underlying tm = some (.map t e))
    (hm : a.eval x = .map (some b)) (h : GMap K w P t b m) {z : Value} (hz : (zeroValue e).run P w = .ok z w) (key : Value) (k : κ) (hx : a.eval y = key) (hkey : keyOf P t key = some (K.lit k))
    (r : Value) (bb : Bool) (hr : (mGet m k).getD z = r) (hb : (mGet m k).isSome = bb) (hK : wpListIn F N P ops Q rest (a.put o.dst (.tuple #[r, .bool bb])) w) :
    wpListIn F N P ops Q (o :: rest) a w := by
  refine wpListIn_plain hg fun K' hK' => ?_
  have hrun := h.look_ok KK ht hz hkey
  rw [hr, hb] at hrun
  unfold Oper.wpIn
  refine ⟨by simp [Oper.about, hop], ?_⟩
  rw [Oper.semAt_eq _ _ _ (by rw [hop]; intro c hc; cases hc)]
  simp [execOp, hop, hm, hx, hrun, Result.andThen]
  exact hK' _ _ hK
theorem wpList_look_ok_g (hg : o.guard = none) (x y : Operand) (tm : TypeId) (hop : o.op = Op.lookup tm x y true) (t e : TypeId) (KK : Keyed P t) (ht : P.underlying tm = some (.map t e))
    (hm : a.eval x = .map (some b)) (h : GMap K w P t b m) {z : Value} (hz : (zeroValue e).run P w = .ok z w) (key : Value) (k : κ) (hx : a.eval y = key) (hkey : keyOf P t key = some (K.lit k))
    (r : Value) (bb : Bool) (hr : (mGet m k).getD z = r) (hb : (mGet m k).isSome = bb) (hK : wpList P ops Q rest (a.put o.dst (.tuple #[r, .bool bb])) w) :
    wpList P ops Q (o :: rest) a w := by
  refine wpList_plain hg fun K' hK' => ?_
  have hrun := h.look_ok KK ht hz hkey
  rw [hr, hb] at hrun
  unfold Oper.wp
  simp [execOp, hop, hm, hx, hrun, Result.andThen]
  exact hK' _ _ hK
end
end Go.Proofs.Ytlhpdalfnjhokaa

namespace Go.Proofs.Ytlhpdalfnjhokaa
open Go.RowKit
namespace Kp
/-- whatever is not in X, and no loop's record, is as it was -/
structure KpX (X : Nat → Prop) (A B : World) : Prop where
  os : B.os = A.os
  tape : B.tape = A.tape
  output : B.output = A.output
  size : A.heap.size ≤ B.heap.size
  same : ∀ b o, A.heap[b]? = some o → ¬ X b → (∀ r, o ≠ .loop r) → B.heap[b]? = some o
theorem KpX.refl (X : Nat → Prop) (A : World) : KpX X A A := ⟨rfl, rfl, rfl, Nat.le_refl _, fun _ _ h _ _ => h⟩
theorem KpX.trans {X : Nat → Prop} {A B C : World} (h : KpX X A B) (k : KpX X B C) : KpX X A C :=
  ⟨k.os.trans h.os, k.tape.trans h.tape, k.output.trans h.output, Nat.le_trans h.size k.size, fun b o h1 h2 h3 => k.same b o (h.same b o h1 h2 h3) h2 h3⟩
theorem KpX.loop {X : Nat → Prop} {W : World} {l : Nat} {r r' : Loop} (h : W.heap[l]? = some (.loop r)) : KpX X W (W.putObj l (.loop r')) := by
  refine ⟨rfl, rfl, rfl, by simp, fun b _ hb _ hn => ?_⟩
  by_cases e : b = l
  · subst e
    rw [h] at hb
    cases hb
    exact (hn r rfl).elim
  · exact (World.putObj_heap_other e).trans hb
theorem KpX.of_grown {X : Nat → Prop} {A B : World} {row : Option Nat} (h : A.grownBy B row) (hr : ∀ g, row = some g → X g) : KpX X A B :=
  ⟨h.os, h.tape, h.output, h.size, fun b _ hb hx _ => (h.block b (Array.getElem?_eq_some_iff.1 hb).1 (fun e => hx (hr b e.symm))).trans hb⟩
theorem KpX.ob {X : Nat → Prop} {A B : World} {b : Nat} {t : TypeId} {cs : Array Value} (h : KpX X A B) (ho : Ob A b t cs) (hx : ¬ X b) : Ob B b t cs := h.same b _ ho hx (fun r e => by cases e)
theorem KpX.cell {X : Nat → Prop} {A B : World} {b j : Nat} {v : Value} (h : KpX X A B) (hc : A.cell? ⟨b, j, none⟩ = some v) (hx : ¬ X b) : B.cell? ⟨b, j, none⟩ = some v := by
  have h2 := hc
  unfold World.cell? at h2
  split at h2
  · rename_i c t _ hb
    have := h.same b _ hb hx (fun r e => by cases e)
    exact (World.cell?_of_block (w := A) (w' := B) (a := ⟨b, j, none⟩) (this.trans hb.symm)).trans hc
  · cases h2
theorem KpX.sl {X : Nat → Prop} {A B : World} {lo hi size n : Nat} {v : Value} {xs : List Value} (h : KpX X A B) (hs : Sl A lo hi size v n xs) (hx : ∀ i, lo ≤ i → i < hi → ¬ X i) : Sl B lo hi size v n xs := by
  refine ⟨hs.len, ?_⟩
  obtain ⟨A', c, e, h1, h2, h3⟩ := hs.at_
  refine ⟨A', c, e, h1, h2, fun hn => ?_⟩
  obtain ⟨b, o, ea, hl, hb, hc⟩ := h3 hn
  refine ⟨b, o, ea, hl, hb, fun j hj => ?_⟩
  have hj2 : j < xs.length := by rw [hs.len]; exact hj
  have e2 : xs[j]? = some xs[j] := List.getElem?_eq_getElem hj2
  rw [e2]
  exact h.cell ((hc j hj).trans e2) (hx b hl hb)
/-- a write that hits no cells leaves cells as they are -/
theorem ob_keep {A B : World} {row : Option Nat} {b : Nat} {t : TypeId} {cs : Array Value} (h : Ob A b t cs) (hg : A.grownBy B row) (hr : ∀ r, row = some r → ∃ o : Obj, A.heap[r]? = some o ∧ o.isCells = false) : Ob B b t cs :=
  h.kept hg fun e => by
    obtain ⟨o, h1, h2⟩ := hr b e.symm
    rw [show A.heap[b]? = _ from h] at h1
    cases h1
    cases h2
end Kp
end Go.Proofs.Ytlhpdalfnjhokaa
