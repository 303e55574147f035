/-
  from world to world: what a round of a range may write, and what stays.
-/
import Derived.Test.YtlhpdalfnjhokaaMem
import Derived.Test.YtlhpdalfnjhokaaItC
namespace Go.Proofs.Ytlhpdalfnjhokaa
open Go.RowKit
namespace Kp
/-- whatever is not in X, and no loop's record, is as it was -/
structure KpX (X : Nat → Prop) (A B : World) : Prop where
  os : B.os = A.os
  tape : B.tape = A.tape
  output : B.output = A.output
  size : A.heap.size ≤ B.heap.size
  same : ∀ b o, A.heap[b]? = some o → ¬ X b → (∀ r, o ≠ .loop r) → B.heap[b]? = some o
theorem KpX.refl (X : Nat → Prop) (A : World) : KpX X A A := ⟨rfl, rfl, rfl, Nat.le_refl _, fun _ _ h _ _ => h⟩
theorem KpX.trans {X : Nat → Prop} {A B C : World} (h : KpX X A B) (k : KpX X B C) : KpX X A C :=
  ⟨k.os.trans h.os, k.tape.trans h.tape, k.output.trans h.output, Nat.le_trans h.size k.size, fun b o h1 h2 h3 => k.same b o (h.same b o h1 h2 h3) h2 h3⟩
theorem KpX.loop {X : Nat → Prop} {W : World} {l : Nat} {r r' : Loop} (h : W.heap[l]? = some (.loop r)) : KpX X W (W.putObj l (.loop r')) := by
  refine ⟨rfl, rfl, rfl, by simp, fun b _ hb _ hn => ?_⟩
  by_cases e : b = l
  · subst e
    rw [h] at hb
    cases hb
    exact (hn r rfl).elim
  · exact (World.putObj_heap_other e).trans hb
theorem KpX.of_grown {X : Nat → Prop} {A B : World} {row : Option Nat} (h : A.grownBy B row) (hr : ∀ g, row = some g → X g) : KpX X A B :=
  ⟨h.os, h.tape, h.output, h.size, fun b _ hb hx _ => (h.block b (Array.getElem?_eq_some_iff.1 hb).1 (fun e => hx (hr b e.symm))).trans hb⟩
theorem KpX.ob {X : Nat → Prop} {A B : World} {b : Nat} {t : TypeId} {cs : Array Value} (h : KpX X A B) (ho : Ob A b t cs) (hx : ¬ X b) : Ob B b t cs := h.same b _ ho hx (fun r e => by cases e)
theorem KpX.cell {X : Nat → Prop} {A B : World} {b j : Nat} {v : Value} (h : KpX X A B) (hc : A.cell? ⟨b, j, none⟩ = some v) (hx : ¬ X b) : B.cell? ⟨b, j, none⟩ = some v := by
  have h2 := hc
  unfold World.cell? at h2
  split at h2
  · rename_i c t _ hb
    have := h.same b _ hb hx (fun r e => by cases e)
    exact (World.cell?_of_block (w := A) (w' := B) (a := ⟨b, j, none⟩) (this.trans hb.symm)).trans hc
  · cases h2
theorem KpX.sl {X : Nat → Prop} {A B : World} {lo hi size n : Nat} {v : Value} {xs : List Value} (h : KpX X A B) (hs : Sl A lo hi size v n xs) (hx : ∀ i, lo ≤ i → i < hi → ¬ X i) : Sl B lo hi size v n xs := by
  refine ⟨hs.len, ?_⟩
  obtain ⟨A', c, e, h1, h2, h3⟩ := hs.at_
  refine ⟨A', c, e, h1, h2, fun hn => ?_⟩
  obtain ⟨b, o, ea, hl, hb, hc⟩ := h3 hn
  refine ⟨b, o, ea, hl, hb, fun j hj => ?_⟩
  have hj2 : j < xs.length := by rw [hs.len]; exact hj
  have e2 : xs[j]? = some xs[j] := List.getElem?_eq_getElem hj2
  rw [e2]
  exact h.cell ((hc j hj).trans e2) (hx b hl hb)
/-- a write that hits no cells leaves cells as they are -/
theorem ob_keep {A B : World} {row : Option Nat} {b : Nat} {t : TypeId} {cs : Array Value} (h : Ob A b t cs) (hg : A.grownBy B row) (hr : ∀ r, row = some r → ∃ o : Obj, A.heap[r]? = some o ∧ o.isCells = false) : Ob B b t cs :=
  h.kept hg fun e => by
    obtain ⟨o, h1, h2⟩ := hr b e.symm
    rw [show A.heap[b]? = _ from h] at h1
    cases h1
    cases h2
end Kp
end Go.Proofs.Ytlhpdalfnjhokaa
