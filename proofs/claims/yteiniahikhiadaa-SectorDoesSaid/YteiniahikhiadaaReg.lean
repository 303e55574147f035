/-
  append onto a row of the call's own from a slice that is known, as one step of a region that draws its order.
-/
import Derived.Test.YteiniahikhiadaaWords
import Derived.Deep.RegionLaw
namespace Go.Proofs.Yteiniahikhiadaa
open Go.RowKit

theorem step_append_sl {P : Program} (w : World) {ops : Array Oper} {o : Oper} {a : Act} {K : Act → World → Prop} {Q : Exit → Act → World → Prop} {E : Prop} (hgd : o.guard = none) (s x : Operand) (t : TypeId)
    (ho : o.op = .call { callee := .builtin .append, args := #[s, x], argTypes := #[t, t] })
    (base : Nat) (e : TypeId) (i : TypeInfo) (z : Value) (size bytes : Nat) (ht : P.underlying t = some (.slice e)) (hi : P.info? e = some i) (hz : i.zero = some z)
    (hsize : i.size = size) (hby : i.bytes = bytes) (hzs : z.cells.size = size) (hsz : 0 < size)
    (v : Value) (n : Nat) (xs : List Value) (hs : a.eval s = v) (hown : w.ownsRow base e size v n xs)
    (lo B : Nat) (u : Value) (m : Nat) (ys : List Value) (hx : a.eval x = u) (hu : Sl w lo B size u m ys) (h1 : ∀ y ∈ ys, y.oneCell' = true)
    (h63 : n + m ≤ maxLen) (hbytes : (n + m) * bytes ≤ 140737488355328) (hbase : base ≤ w.heap.size)
    (h : ∀ v' w', w'.ownsRow base e size v' (n + m) (xs ++ ys) → w.grownBy w' v.ownBlock → (v'.ownBlock = v.ownBlock ∨ v'.ownBlock = some w.heap.size) → K (a.put o.dst v') w') :
    if Region.wanted o (yielded ops a.tmps) = true then Oper.wp P o a w K Q else E := by
  have hw : Region.wanted o (yielded ops a.tmps) = true := by simp [Region.wanted, hgd]
  rw [if_pos hw]
  obtain ⟨v', w', hrun, h2, h3, h4⟩ := run_append_sl (P := P) w base t o.type e i z size bytes ht hi hz hsize hby hzs hsz v n xs hown lo B u m ys hu h1 h63 hbytes hbase
  unfold Oper.wp execOp
  simp only [ho, resolve, invoke, builtin, Sem.run_bind, Sem.run_pure, Result.andThen_ok, List.map_toArray, List.map_cons, List.map_nil, hs, hx, hrun]
  exact h v' w' h2 h3 h4
theorem Sl.zero {w : World} {lo B size c : Nat} {A : Option Addr} (h : c ≤ maxLen) : Sl w lo B size (.slice A 0 c) 0 [] := ⟨by simp, _, _, rfl, Nat.zero_le _, h, fun h => by omega⟩
/-- a slice's first k elements -/
theorem Sl.upTo {w : World} {lo B size n k c : Nat} {A : Option Addr} {xs : List Value} (h : Sl w lo B size (.slice A n c) n xs) (hk : k ≤ n) : Sl w lo B size (.slice A k c) k (xs.take (k * size)) := by
  obtain ⟨A', c', e, h1, h2, h3⟩ := h.at_
  cases e
  have hl := h.len
  have hm : k * size ≤ n * size := Nat.mul_le_mul_right _ hk
  refine ⟨by rw [List.length_take]; omega, _, _, rfl, by omega, h2, fun hn => ?_⟩
  obtain ⟨b, o, e, h4, h5, h6⟩ := h3 (by omega)
  exact ⟨b, o, e, h4, h5, fun j hj => by rw [h6 j (by omega), List.getElem?_take, if_pos hj]⟩
/-- a slice from its element k on: at its very end the address stays -/
theorem Sl.onFrom {w : World} {lo B size n k c : Nat} {b o : Nat} {xs : List Value} (h : Sl w lo B size (.slice (some ⟨b, o, none⟩) n c) n xs) (hk : k ≤ n) :
    Sl w lo B size (.slice (if c = k then some ⟨b, o, none⟩ else some ⟨b, o + k * size, none⟩) (n - k) (c - k)) (n - k) (xs.drop (k * size)) := by
  obtain ⟨A', c', e, h1, h2, h3⟩ := h.at_
  cases e
  have hl := h.len
  have hm : (n - k) * size + k * size = n * size := by rw [← Nat.add_mul]; congr 1; omega
  refine ⟨by rw [List.length_drop]; omega, _, _, rfl, by omega, by omega, fun hn => ?_⟩
  obtain ⟨b', o', e, h4, h5, h6⟩ := h3 (by omega)
  cases e
  rw [if_neg (by omega)]
  exact ⟨_, _, rfl, h4, h5, fun j hj => by rw [Nat.add_assoc, h6 _ (by omega), List.getElem?_drop]⟩
end Go.Proofs.Yteiniahikhiadaa
