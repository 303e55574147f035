/-
  objects in memory: a block of some cells that may be written; what else is kept.
-/
import Derived.Test.YtlhpdalfnjhokaaWords
import Derived.RangeFuncNested
namespace Go.Proofs.Ytlhpdalfnjhokaa
open Go.RowKit

/-- block b holds an object of type t, whose cells are cs -/
def Ob (w : World) (b : Nat) (t : TypeId) (cs : Array Value) : Prop := w.heap[b]? = some (.cells cs t (0, 0))
section
variable {w w' : World} {b b' j B : Nat} {t : TypeId} {cs : Array Value} {row : Option Nat}
theorem Ob.lt (h : Ob w b t cs) : b < w.heap.size := (Array.getElem?_eq_some_iff.1 h).1
theorem Ob.cell (h : Ob w b t cs) {v : Value} (hj : cs[j]? = some v) : w.cell? ⟨b, j, none⟩ = some v := by
  simp [World.cell?, show w.heap[b]? = _ from h, hj]
theorem Ob.frozen (h : Ob w b t cs) (j : Nat) : w.frozen? ⟨b, j, none⟩ = false := by simp [World.frozen?, show w.heap[b]? = _ from h]
theorem Ob.new (w : World) (t : TypeId) (cs : Array Value) : Ob (w.alloc (.cells cs t)) w.heap.size t cs := heap_alloc_new w _
theorem Ob.kept (h : Ob w b t cs) (hg : w.grownBy w' row) (hne : some b ≠ row) : Ob w' b t cs := (hg.block b h.lt hne).trans h
theorem Ob.alloc (h : Ob w b t cs) (o : Obj) : Ob (w.alloc o) b t cs := h.kept (World.grownBy_alloc w o none) (by simp)
theorem Ob.below (h : Ob w b t cs) (hb : Below B w w') (hB : b < B) : Ob w' b t cs := (hb.block b hB).trans h
theorem Ob.same (h : Ob w b t cs) (hb : Below w.heap.size w w') : Ob w' b t cs := h.below hb h.lt
theorem Ob.set (h : Ob w b t cs) (j : Nat) (v : Value) : Ob (w.setCell ⟨b, j, none⟩ v) b t (cs.setIfInBounds j v) := by
  obtain ⟨hlt, hk⟩ := Array.getElem?_eq_some_iff.1 h
  show (w.heap.modify b _)[b]? = _
  rw [Array.getElem?_eq_getElem (by rw [Array.size_modify]; exact hlt), Array.getElem_modify_self, hk]
  simp
theorem grownBy_set (w : World) (b j : Nat) (v : Value) : w.grownBy (w.setCell ⟨b, j, none⟩ v) (some b) :=
  ⟨rfl, rfl, rfl, (KeepsWalks.setCell w _ v).size, fun k _ hk => Below.heap_setCell _ _ _ k (fun e => hk (by rw [e]))⟩
theorem Ob.other (h : Ob w b t cs) (hne : b ≠ b') (j : Nat) (v : Value) : Ob (w.setCell ⟨b', j, none⟩ v) b t cs := h.kept (grownBy_set w b' j v) (fun e => hne (by cases e; rfl))
end

/-- the blocks of Fr are as they were -/
structure Kept (Fr : Nat → Prop) (w w' : World) : Prop where
  os : w'.os = w.os
  tape : w'.tape = w.tape
  output : w'.output = w.output
  size : w.heap.size ≤ w'.heap.size
  block : ∀ k, Fr k → w'.heap[k]? = w.heap[k]?
section
variable {Fr Fr' : Nat → Prop} {a b c w w' : World} {B : Nat} {row : Option Nat}
theorem Kept.refl (Fr : Nat → Prop) (w : World) : Kept Fr w w := ⟨rfl, rfl, rfl, Nat.le_refl _, fun _ _ => rfl⟩
theorem Kept.trans (h : Kept Fr a b) (k : Kept Fr b c) : Kept Fr a c :=
  ⟨k.os.trans h.os, k.tape.trans h.tape, k.output.trans h.output, Nat.le_trans h.size k.size, fun i hi => (k.block i hi).trans (h.block i hi)⟩
theorem Kept.mono (h : Kept Fr a b) (hF : ∀ i, Fr' i → Fr i) : Kept Fr' a b := ⟨h.os, h.tape, h.output, h.size, fun i hi => h.block i (hF i hi)⟩
theorem Kept.of_below (h : Below B w w') (hF : ∀ i, Fr i → i < B) : Kept Fr w w' := ⟨h.os, h.tape, h.output, h.size, fun i hi => h.block i (hF i hi)⟩
theorem Kept.of_grown (h : w.grownBy w' row) (hF : ∀ i, Fr i → i < w.heap.size ∧ some i ≠ row) : Kept Fr w w' := ⟨h.os, h.tape, h.output, h.size, fun i hi => h.block i (hF i hi).1 (hF i hi).2⟩
theorem Kept.below (h : Kept Fr w w') (hF : ∀ i, i < B → Fr i) : Below B w w' := ⟨h.os, h.tape, h.output, h.size, fun i hi => h.block i (hF i hi)⟩
theorem Kept.ob {b : Nat} {t : TypeId} {cs : Array Value} (h : Kept Fr w w') (ho : Ob w b t cs) (hF : Fr b) : Ob w' b t cs := (h.block b hF).trans ho
theorem Kept.sl {lo B size n : Nat} {v : Value} {xs : List Value} (h : Kept Fr w w') (hs : Sl w lo B size v n xs) (hF : ∀ i, lo ≤ i → i < B → Fr i) : Sl w' lo B size v n xs :=
  hs.keep fun b _ h1 h2 => World.cell?_of_block (h.block b (hF b h1 h2))
end
end Go.Proofs.Ytlhpdalfnjhokaa
