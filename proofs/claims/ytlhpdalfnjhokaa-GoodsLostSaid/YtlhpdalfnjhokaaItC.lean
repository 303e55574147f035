/-
  items: a range over All as one law; the walk of May.
-/
import Derived.Test.YtlhpdalfnjhokaaItB
namespace Go.Proofs.Ytlhpdalfnjhokaa
open Go.RowKit
namespace It
attribute [local go_sem] Oper.semAt_some

/-- how the body of a round may be left -/
def rpost {α : Type} (B n₀ : Nat) (C : List α → World → Prop) (Cx : Code → List α → World → Prop) (xs : List α) (W : World) : Exit → Act → World → Prop
  | .normal, _, W' => KeepsFrom B W W' ∧ Below n₀ W W' ∧ C xs W'
  | .ret, _, W' => KeepsFrom B W W' ∧ Below n₀ W W' ∧ Cx .ret xs W'
  | .exit id, _, W' => KeepsFrom B W W' ∧ Below n₀ W W' ∧ Cx (.exit id) xs W'
  | .goto t, _, W' => KeepsFrom B W W' ∧ Below n₀ W W' ∧ Cx (.goto t) xs W'
  | .panic _, _, _ => False
  | .outgrown, _, _ => False

/-- 'for good, n := range items.All(l) { .. }': what was below n₀ stays; C says what the call's own cells hold between two rounds -/
theorem range_all {F : Fence} {n : Nat} {g : Operand} {ps : Array Tmp} {assign body : Code} {Q : Exit → Act → World → Prop} {a : Act} {w : World}
    (hro : F.round = none) (hf : F.fn 60) (hn : 2 ≤ n) {Bs n₀ : Nat} {v : Value} {L : List Item} (hg : a.eval g = .func (.func 60) #[] #[.pointer (some ⟨Bs, 0, none⟩)]) (hps : ps.size = 2)
    (hBs : Bs < w.heap.size) (hn₀ : n₀ ≤ w.heap.size) (hc : w.cell? ⟨Bs, 0, none⟩ = some v) (hI : ItemsAt w 0 n₀ v L)
    (C : List (Of L) → World → Prop) (Cx : Code → List (Of L) → World → Prop) (hC : OwnFrom w.heap.size C) (hCx : ∀ c, OwnFrom w.heap.size (Cx c)) (h0 : C [] w) (a₁ : Of L → Act)
    (hassign : ∀ (l : Nat) (x : Of L) (W : World) (K : Act → World → Prop), K (a₁ x) W →
      assign.wpIn (F.inRound l) (n - 1 - 1) Try.prog (Exit.then K (fun _ _ _ => False)) { tmps := (ps.zip (enc2 x)).foldl (fun t (p, v) => t.setIfInBounds p v) a.tmps, defers := [] } W)
    (hbody : ∀ (l : Nat) (pre : List (Of L)) (x : Of L) (W : World), C pre W → Below n₀ w W → w.heap.size ≤ W.heap.size → pre.length < L.length → body.wpIn (F.inRound l) (n - 1 - 1) Try.prog (rpost w.heap.size n₀ C Cx (pre ++ [x]) W) (a₁ x) W)
    (hdone : ∀ (D : Nat) (W : World), w.heap.size ≤ D → C L.attach W → Below n₀ w W → W.heap[D]? = some (.deferred (some [])) → Q .normal { a with defers := { target := .collected D, args := #[] } :: a.defers } W)
    (hstop : ∀ (D : Nat) (c : Code) (pre : List (Of L)) (W : World), w.heap.size ≤ D → pre <+: L.attach → Cx c pre W → Below n₀ w W → W.heap[D]? = some (.deferred (some [])) → c.wpIn F n Try.prog Q { a with defers := { target := .collected D, args := #[] } :: a.defers } W) :
    (Code.rangeFunc g ps assign body).wpIn F n Try.prog Q a w :=
  wpIn_rangeFunc_ownG hro (by omega) hg hf (enters_of Try.func60 (by kernel_rfl) rfl)
    (all_stops F (n - 1) hf hro (by omega) Bs n₀ v L w hBs hn₀ hc hI) belowK_t (belowK_b hn₀) (Below.refl _ _) (fun _ => hps.symm)
    (fun pre W => C pre W ∧ Below n₀ w W) (fun c pre W => Cx c pre W ∧ Below n₀ w W)
    (OwnFrom.and hC (ownFrom_below hn₀ hn₀)) (fun c => OwnFrom.and (hCx c) (ownFrom_below hn₀ hn₀))
    ⟨h0, Below.refl _ _⟩ a₁ hassign
    (fun l pre x W ⟨hc, hb⟩ hl => wpIn_mono (hbody l pre x W hc hb hb.size hl) (fun e a' W' h => by
      cases e with
      | normal => exact ⟨h.1, h.2.1, h.2.2, hb.trans h.2.1⟩
      | ret => exact ⟨h.1, h.2.2, hb.trans h.2.1⟩
      | exit id => exact ⟨h.1, h.2.2, hb.trans h.2.1⟩
      | goto t => exact ⟨h.1, h.2.2, hb.trans h.2.1⟩
      | panic ch => exact h.elim
      | outgrown => exact h.elim))
    (fun D xs W hD hS ⟨hc, hb⟩ hK => by subst hS; exact hdone D W hD hc hb hK)
    (fun D c pre W hD hp ⟨hc, hb⟩ hK => hstop D c pre W hD hp hc hb hK)
theorem boxed_keep {A B : World} {row : Option Nat} {b : Nat} {t : TypeId} {v : Value} (h : Boxed A b t v) (hg : A.grownBy B row) (hr : ∀ r, row = some r → ∃ o : Obj, A.heap[r]? = some o ∧ o.isCells = false) : Boxed B b t v :=
  boxed_own b t (fun _ : Unit => v) () A B row h hg hr
theorem row_keep {A B : World} {row : Option Nat} {lo : Nat} {e : TypeId} {size n : Nat} {v : Value} {xs : List Value} (h : A.ownsRow lo e size v n xs) (hg : A.grownBy B row) (hr : ∀ r, row = some r → ∃ o : Obj, A.heap[r]? = some o ∧ o.isCells = false) : B.ownsRow lo e size v n xs := by
  refine h.kept hg ?_
  cases hv : v.ownBlock with
  | none => exact .inl rfl
  | some g =>
    refine .inr fun e => ?_
    obtain ⟨o, ho, hc⟩ := hr g e.symm
    rcases h.2 with ⟨rfl, _⟩ | ⟨g', cap, cur, rfl, _, hg', _⟩
    · simp [Value.ownBlock] at hv
    · simp [Value.ownBlock] at hv
      subst hv
      rw [hg'] at ho
      cases ho
      cases hc
theorem boxed_below {A B : World} {b : Nat} {t : TypeId} {v : Value} (h : Boxed A b t v) (hb : Below A.heap.size A B) : Boxed B b t v := (hb.block b h.lt).trans h
theorem keeps_below {A B : World} (n : Nat) (hb : Below A.heap.size A B) : KeepsFrom n A B :=
  ⟨hb.size, fun k _ _ hk _ => (hb.block k (Array.getElem?_eq_some_iff.1 hk).1).trans hk⟩
theorem keeps_set {A B : World} {n : Nat} (h : KeepsFrom n A B) (a : Addr) (v : Value) : KeepsFrom n A (B.setCell a v) := h.trans ((KeepsOthers.setCell _ _ _).from _)
/-- behind the function's return: the block of the rounds' deferred calls is let go -/
theorem boxed_end {W : World} {D b : Nat} {t : TypeId} {v : Value} (h : Boxed W b t v) (hK : W.heap[D]? = some (.deferred (some []))) : Boxed (W.putObj D (.deferred none)) b t v :=
  boxed_keep h (grownBy_putObj' _ D (.deferred none)) (fun r e => by cases e; exact ⟨_, hK, rfl⟩)
theorem below_end {w W : World} {D : Nat} (h : Below w.heap.size w W) (hD : w.heap.size ≤ D) (hK : W.heap[D]? = some (.deferred (some []))) : Below w.heap.size w (W.putObj D (.deferred none)) :=
  h.trans (belowK_b (w := w) (Nat.le_refl _) W D _ _ hD hK rfl rfl)
end It
end Go.Proofs.Ytlhpdalfnjhokaa
