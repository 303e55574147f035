/-
  objects in memory: several cells stored at once.
-/
import Derived.Test.YtlhpdalfnjhokaaMem
import Derived.Deep.MidRow
namespace Go.Proofs.Ytlhpdalfnjhokaa
open Go.RowKit
theorem grownBy_segs {b : Nat} : ∀ (vs : List Value) (w : World) (o : Nat), w.grownBy (w.setCells b o vs) (some b)
  | [], w, _ => ⟨rfl, rfl, rfl, Nat.le_refl _, fun _ _ _ => rfl⟩
  | v :: r, w, o => by
    rw [World.setCells]
    exact (grownBy_set w b o v).andThen (grownBy_segs r _ (o + 1)) (fun j e => .inr e)
def putSeg (cs : Array Value) (o : Nat) : List Value → Array Value
  | [] => cs
  | v :: r => putSeg (cs.setIfInBounds o v) (o + 1) r
theorem putSeg_eq : ∀ (vs : List Value) (cs : Array Value) (o : Nat), o + vs.length ≤ cs.size → putSeg cs o vs = (cs.toList.take o ++ vs ++ cs.toList.drop (o + vs.length)).toArray
  | [], cs, o, _ => by simp [putSeg]
  | v :: r, cs, o, h => by
    simp only [List.length_cons] at h
    rw [putSeg, putSeg_eq r _ (o + 1) (by simp; omega)]
    congr 1
    rw [Array.toList_setIfInBounds]
    apply List.ext_getElem?
    intro i
    have hl : (cs.toList.take o).length = o := by rw [List.length_take]; simp; omega
    have hl2 : ((cs.toList.set o v).take (o + 1)).length = o + 1 := by rw [List.length_take, List.length_set]; simp; omega
    rcases Nat.lt_trichotomy i o with h1 | h1 | h1
    · rw [List.getElem?_append_left (by simp [hl2]; omega), List.getElem?_append_left (by omega), List.getElem?_append_left (by simp [hl]; omega), List.getElem?_append_left (by omega)]
      rw [List.getElem?_take, if_pos (by omega), List.getElem?_take, if_pos h1, List.getElem?_set_ne (by omega)]
    · subst h1
      rw [List.getElem?_append_left (by simp [hl2]; omega), List.getElem?_append_left (by omega), List.getElem?_append_left (by simp [hl]), List.getElem?_append_right (by omega)]
      rw [List.getElem?_take, if_pos (by omega), List.getElem?_set_self (by simp; omega), hl]
      simp
    · by_cases h2 : i < o + 1 + r.length
      · rw [List.getElem?_append_left (by simp [hl2]; omega), List.getElem?_append_right (by omega), hl2, List.getElem?_append_left (by simp [hl]; omega), List.getElem?_append_right (by omega), hl]
        rw [show i - o = (i - (o + 1)) + 1 by omega, List.getElem?_cons_succ]
      · rw [List.getElem?_append_right (by simp [hl2]; omega), List.getElem?_append_right (by simp [hl]; omega)]
        simp only [List.length_append, hl2, hl, List.length_cons, List.getElem?_drop]
        rw [List.getElem?_set_ne (by omega)]
        congr 1
        omega
theorem Ob.seg {g : Nat} {t : TypeId} : ∀ (vs : List Value) {w : World} {cs : Array Value} (o : Nat), Ob w g t cs → Ob (w.setCells g o vs) g t (putSeg cs o vs)
  | [], _, _, _, h => h
  | v :: r, w, cs, o, h => by
    rw [World.setCells, putSeg]
    exact Ob.seg r (o + 1) (h.set o v)
theorem Ob.all {w : World} {g : Nat} {t : TypeId} {cs : Array Value} (h : Ob w g t cs) (vs : List Value) (hl : vs.length = cs.size) : Ob (w.setCells g 0 vs) g t vs.toArray := by
  have := Ob.seg vs 0 h
  rw [putSeg_eq vs cs 0 (by omega)] at this
  have e : cs.toList.take 0 ++ vs ++ cs.toList.drop (0 + vs.length) = vs := by
    rw [Nat.zero_add, hl, List.take_zero, List.nil_append, List.drop_of_length_le (by simp), List.append_nil]
  rw [e] at this
  exact this
theorem Ob.there {w : World} {g : Nat} {t : TypeId} {cs : Array Value} (h : Ob w g t cs) {o n : Nat} (hn : o + n ≤ cs.size) : w.there g o n := fun j hj => by
  refine ⟨?_, h.frozen _⟩
  rw [h.cell (j := o + j) (v := cs[o + j]'(by omega)) (by rw [Array.getElem?_eq_getElem (by omega)])]
  rfl
theorem Ob.range {w : World} {g : Nat} {t : TypeId} {cs : Array Value} (h : Ob w g t cs) {o : Nat} {vs : List Value} (hv : ∀ j v, vs[j]? = some v → cs[o + j]? = some v) : w.rangeAt g o vs := fun j v hj => h.cell (hv j v hj)
theorem Ob.store {P : Program} {w : World} {g : Nat} {t : TypeId} {cs : Array Value} (h : Ob w g t cs) (o : Nat) (vs : List Value) (hn : o + vs.length ≤ cs.size) (h1 : ∀ v ∈ vs, v.oneCell' = true) : (storeCells ⟨g, o, none⟩ vs).run P w = .ok () (w.setCells g o vs) := by
  have ht := h.there hn
  have := run_storeCells_cells (P := P) g o vs 0 w (fun j hj => by simpa using (ht j hj).1) (fun j hj => by simpa using (ht j hj).2) h1
  simpa using this
end Go.Proofs.Ytlhpdalfnjhokaa
