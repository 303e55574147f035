/-
  items: a range over All as one law; the walk of May.
-/
import Derived.Test.YteiniahikhiadaaItB
namespace Go.Proofs.Yteiniahikhiadaa
open Go.RowKit
namespace It
attribute [local go_sem] Oper.semAt_some

/-- how the body of a round may be left -/
def rpost {α : Type} (B n₀ : Nat) (C : List α → World → Prop) (Cx : Code → List α → World → Prop) (xs : List α) (W : World) : Exit → Act → World → Prop
  | .normal, _, W' => KeepsFrom B W W' ∧ Below n₀ W W' ∧ C xs W'
  | .ret, _, W' => KeepsFrom B W W' ∧ Below n₀ W W' ∧ Cx .ret xs W'
  | .exit id, _, W' => KeepsFrom B W W' ∧ Below n₀ W W' ∧ Cx (.exit id) xs W'
  | .goto t, _, W' => KeepsFrom B W W' ∧ Below n₀ W W' ∧ Cx (.goto t) xs W'
  | .panic _, _, _ => False
  | .outgrown, _, _ => False

theorem boxed_keep {A B : World} {row : Option Nat} {b : Nat} {t : TypeId} {v : Value} (h : Boxed A b t v) (hg : A.grownBy B row) (hr : ∀ r, row = some r → ∃ o : Obj, A.heap[r]? = some o ∧ o.isCells = false) : Boxed B b t v :=
  boxed_own b t (fun _ : Unit => v) () A B row h hg hr
theorem row_keep {A B : World} {row : Option Nat} {lo : Nat} {e : TypeId} {size n : Nat} {v : Value} {xs : List Value} (h : A.ownsRow lo e size v n xs) (hg : A.grownBy B row) (hr : ∀ r, row = some r → ∃ o : Obj, A.heap[r]? = some o ∧ o.isCells = false) : B.ownsRow lo e size v n xs := by
  refine h.kept hg ?_
  cases hv : v.ownBlock with
  | none => exact .inl rfl
  | some g =>
    refine .inr fun e => ?_
    obtain ⟨o, ho, hc⟩ := hr g e.symm
    rcases h.2 with ⟨rfl, _⟩ | ⟨g', cap, cur, rfl, _, hg', _⟩
    · simp [Value.ownBlock] at hv
    · simp [Value.ownBlock] at hv
      subst hv
      rw [hg'] at ho
      cases ho
      cases hc
theorem boxed_below {A B : World} {b : Nat} {t : TypeId} {v : Value} (h : Boxed A b t v) (hb : Below A.heap.size A B) : Boxed B b t v := (hb.block b h.lt).trans h
theorem keeps_below {A B : World} (n : Nat) (hb : Below A.heap.size A B) : KeepsFrom n A B :=
  ⟨hb.size, fun k _ _ hk _ => (hb.block k (Array.getElem?_eq_some_iff.1 hk).1).trans hk⟩
theorem keeps_set {A B : World} {n : Nat} (h : KeepsFrom n A B) (a : Addr) (v : Value) : KeepsFrom n A (B.setCell a v) := h.trans ((KeepsOthers.setCell _ _ _).from _)
/-- behind the function's return: the block of the rounds' deferred calls is let go -/
theorem boxed_end {W : World} {D b : Nat} {t : TypeId} {v : Value} (h : Boxed W b t v) (hK : W.heap[D]? = some (.deferred (some []))) : Boxed (W.putObj D (.deferred none)) b t v :=
  boxed_keep h (grownBy_putObj' _ D (.deferred none)) (fun r e => by cases e; exact ⟨_, hK, rfl⟩)
theorem below_end {w W : World} {D : Nat} (h : Below w.heap.size w W) (hD : w.heap.size ≤ D) (hK : W.heap[D]? = some (.deferred (some []))) : Below w.heap.size w (W.putObj D (.deferred none)) :=
  h.trans (belowK_b (w := w) (Nat.le_refl _) W D _ _ hD hK rfl rfl)
end It
end Go.Proofs.Yteiniahikhiadaa
