/-
  from world to world: what a round of a range may write that appends to a slice which a variable holds.
-/
import Derived.Test.YtlhpdalfnjhokaaKpx
namespace Go.Proofs.Ytlhpdalfnjhokaa
open Go.RowKit
namespace Kp
/-- the block of the slice that the variable at ob holds -/
def own (W : World) (ob : Nat) : Option Nat := (W.cell? ⟨ob, 0, none⟩).bind (·.ownBlock)
theorem own_of {W : World} {ob : Nat} {t : TypeId} {v : Value} (h : Ob W ob t #[v]) : own W ob = v.ownBlock := by
  unfold own
  rw [h.cell (j := 0) (v := v) rfl]
  rfl
theorem own_same {A B : World} {ob : Nat} (h : B.heap[ob]? = A.heap[ob]?) : own B ob = own A ob := by
  unfold own
  rw [World.cell?_of_block (w := A) (w' := B) (a := ⟨ob, 0, none⟩) h]
/-- whatever is not in X, not in the variable's slice, and no loop's record, is as it was; the slice lies where it lay, or in a new block -/
structure KpO (X : Nat → Prop) (ob : Nat) (A B : World) : Prop where
  size : A.heap.size ≤ B.heap.size
  same : ∀ b o, A.heap[b]? = some o → ¬ X b → own A ob ≠ some b → (∀ r, o ≠ .loop r) → B.heap[b]? = some o
  next : ∀ g, own B ob = some g → own A ob = some g ∨ A.heap.size ≤ g
theorem KpO.refl (X : Nat → Prop) (ob : Nat) (A : World) : KpO X ob A A := ⟨Nat.le_refl _, fun _ _ h _ _ _ => h, fun _ h => .inl h⟩
theorem KpO.trans {X : Nat → Prop} {ob : Nat} {A B C : World} (h : KpO X ob A B) (k : KpO X ob B C) : KpO X ob A C := by
  refine ⟨Nat.le_trans h.size k.size, fun b o h1 h2 h3 h4 => k.same b o (h.same b o h1 h2 h3 h4) h2 (fun e => ?_) h4, fun g hg => ?_⟩
  · rcases h.next b e with h5 | h5
    · exact h3 h5
    · have := (Array.getElem?_eq_some_iff.1 h1).1
      omega
  · rcases k.next g hg with h5 | h5
    · exact h.next g h5
    · exact .inr (Nat.le_trans h.size h5)
theorem KpO.loop {X : Nat → Prop} {ob : Nat} {W : World} {l : Nat} {r r' : Loop} (h : W.heap[l]? = some (.loop r)) : KpO X ob W (W.putObj l (.loop r')) := by
  have hcell : own (W.putObj l (.loop r')) ob = own W ob := by
    by_cases e : ob = l
    · subst e
      unfold own World.cell?
      rw [h, World.putObj_heap_same (Array.getElem?_eq_some_iff.1 h).1]
    · exact own_same (World.putObj_heap_other e)
  refine ⟨by simp, fun b _ hb _ _ hn => ?_, fun g hg => .inl (by rw [← hcell]; exact hg)⟩
  by_cases e : b = l
  · subst e
    rw [h] at hb
    cases hb
    exact (hn r rfl).elim
  · exact (World.putObj_heap_other e).trans hb
/-- a write to X alone, the variable's block being as it was -/
theorem KpO.of_grown {X : Nat → Prop} {ob : Nat} {A B : World} {row : Option Nat} (h : A.grownBy B row) (hr : ∀ g, row = some g → X g) (ho : ob < A.heap.size) (hne : row ≠ some ob) : KpO X ob A B :=
  ⟨h.size, fun b _ hb hx _ _ => (h.block b (Array.getElem?_eq_some_iff.1 hb).1 (fun e => hx (hr b e.symm))).trans hb, fun g hg => .inl (by rw [← own_same (h.block ob ho (fun e => hne e.symm))]; exact hg)⟩
theorem KpO.below {X : Nat → Prop} {ob : Nat} {A B : World} (h : Below A.heap.size A B) (ho : ob < A.heap.size) : KpO X ob A B :=
  ⟨h.size, fun b _ hb _ _ _ => (h.block b (Array.getElem?_eq_some_iff.1 hb).1).trans hb, fun g hg => .inl (by rw [← own_same (h.block ob ho)]; exact hg)⟩
theorem KpO.cell {X : Nat → Prop} {ob : Nat} {A B : World} {b j : Nat} {v : Value} (h : KpO X ob A B) (hc : A.cell? ⟨b, j, none⟩ = some v) (hx : ¬ X b) (ho : own A ob ≠ some b) : B.cell? ⟨b, j, none⟩ = some v := by
  have h2 := hc
  unfold World.cell? at h2
  split at h2
  · rename_i c t _ hb
    have := h.same b _ hb hx ho (fun r e => by cases e)
    exact (World.cell?_of_block (w := A) (w' := B) (a := ⟨b, j, none⟩) (this.trans hb.symm)).trans hc
  · cases h2
theorem KpO.sl {X : Nat → Prop} {ob : Nat} {A B : World} {lo hi size n : Nat} {v : Value} {xs : List Value} (h : KpO X ob A B) (hs : Sl A lo hi size v n xs) (hx : ∀ i, lo ≤ i → i < hi → ¬ X i ∧ own A ob ≠ some i) : Sl B lo hi size v n xs := by
  refine ⟨hs.len, ?_⟩
  obtain ⟨A', c, e, h1, h2, h3⟩ := hs.at_
  refine ⟨A', c, e, h1, h2, fun hn => ?_⟩
  obtain ⟨b, o, ea, hl, hb, hc⟩ := h3 hn
  refine ⟨b, o, ea, hl, hb, fun j hj => ?_⟩
  have hj2 : j < xs.length := by rw [hs.len]; exact hj
  have e2 : xs[j]? = some xs[j] := List.getElem?_eq_getElem hj2
  rw [e2]
  exact h.cell ((hc j hj).trans e2) (hx b hl hb).1 (hx b hl hb).2
end Kp
end Go.Proofs.Ytlhpdalfnjhokaa
