/-
  words for memory: a slice value that reads as a list of cells; append onto a row of the call's own from such a slice.
-/
import Derived.Test.YtlhpdalfnjhokaaRows
import Derived.WalkKit
import Derived.WalkSpells
import Derived.WalkLawsBesides
import Derived.Maps.AppendAt
import Derived.OwnWalkIn
import Derived.Deep.Draws
import Derived.Lib.Hide
namespace Go.Proofs.Ytlhpdalfnjhokaa
open Go.RowKit

/-- the value v is a slice of n elements, and its cells (size of them an element) are xs, in a block from lo on and below B -/
structure Sl (w : World) (lo B size : Nat) (v : Value) (n : Nat) (xs : List Value) : Prop where
  len : xs.length = n * size
  at_ : ∃ A c, v = .slice A n c ∧ n ≤ c ∧ c ≤ maxLen ∧ (0 < n → ∃ b o, A = some ⟨b, o, none⟩ ∧ lo ≤ b ∧ b < B ∧ ∀ j, j < n * size → w.cell? ⟨b, o + j, none⟩ = xs[j]?)

section
variable {w w' : World} {lo lo' B B' size n : Nat} {v : Value} {xs : List Value}
/-- what was known of the cells of the blocks from lo to B is known still -/
theorem Sl.keep (h : Sl w lo B size v n xs) (hk : ∀ b o, lo ≤ b → b < B → w'.cell? ⟨b, o, none⟩ = w.cell? ⟨b, o, none⟩) : Sl w' lo B size v n xs := by
  refine ⟨h.len, ?_⟩
  obtain ⟨A, c, e, h1, h2, h3⟩ := h.at_
  refine ⟨A, c, e, h1, h2, fun hn => ?_⟩
  obtain ⟨b, o, ea, hl, hb2, hc⟩ := h3 hn
  exact ⟨b, o, ea, hl, hb2, fun j hj => (hk b _ hl hb2).trans (hc j hj)⟩
theorem Sl.wide (h : Sl w lo B size v n xs) (hl : lo' ≤ lo) (hB : B ≤ B') : Sl w lo' B' size v n xs := by
  refine ⟨h.len, ?_⟩
  obtain ⟨A, c, e, h1, h2, h3⟩ := h.at_
  refine ⟨A, c, e, h1, h2, fun hn => ?_⟩
  obtain ⟨b, o, ea, hl', hb2, hc⟩ := h3 hn
  exact ⟨b, o, ea, by omega, by omega, hc⟩
theorem Sl.below (h : Sl w lo B size v n xs) (hb : Below B w w') : Sl w' lo B size v n xs := h.keep fun b o _ h2 => hb.cell (p := ⟨b, o, none⟩) h2
theorem Sl.mono (h : Sl w lo B size v n xs) (hb : Below B w w') (hB : B ≤ B') : Sl w' lo B' size v n xs := (h.below hb).wide (Nat.le_refl _) hB
theorem Sl.grown {row : Option Nat} (h : Sl w lo B size v n xs) (hg : w.grownBy w' row) (hB : B ≤ w.heap.size) (hr : ∀ k, row = some k → k < lo ∨ B ≤ k) : Sl w' lo B size v n xs :=
  h.keep fun b o h1 h2 => World.cell?_of_block (w := w) (hg.block b (by omega) (fun e => by have := hr b e.symm; omega))
theorem Sl.nil (w : World) (lo B size : Nat) : Sl w lo B size (.slice none 0 0) 0 [] := ⟨by simp, none, 0, rfl, by omega, by unfold maxLen; omega, fun h => by omega⟩
theorem Sl.of_own {e : TypeId} (h : w.ownsRow lo e size v n xs) : Sl w lo w.heap.size size v n xs := by
  refine ⟨h.1, ?_⟩
  rcases h.2 with ⟨rfl, rfl⟩ | ⟨g, cap, cur, rfl, hbg, hg, hnc, hcm, hcs, htake⟩
  · exact ⟨none, 0, rfl, by omega, by unfold maxLen; omega, fun h => by omega⟩
  · refine ⟨_, cap, rfl, hnc, hcm, fun _ => ⟨g, 0, rfl, hbg, (Array.getElem?_eq_some_iff.1 hg).1, fun j hj => ?_⟩⟩
    rw [← htake, List.getElem?_take, if_pos hj, Array.getElem?_toList]
    simp [World.cell?, hg]
end

/-- append onto a row of the call's own, from a slice that is known -/
theorem run_append_sl {P : Program} (w : World) (base : Nat) (t ty e : TypeId) (i : TypeInfo) (z : Value) (size bytes : Nat) (ht : P.underlying t = some (.slice e)) (hi : P.info? e = some i) (hz : i.zero = some z)
    (hsize : i.size = size) (hby : i.bytes = bytes) (hzs : z.cells.size = size) (hsz : 0 < size)
    (v : Value) (n : Nat) (xs : List Value) (hown : w.ownsRow base e size v n xs)
    (lo B : Nat) (u : Value) (m : Nat) (ys : List Value) (hu : Sl w lo B size u m ys) (h1 : ∀ y ∈ ys, y.oneCell' = true)
    (h63 : n + m ≤ maxLen) (hbytes : (n + m) * bytes ≤ 140737488355328) (hbase : base ≤ w.heap.size) :
    ∃ v' w', (Builtin.append_ #[t, t] ty #[v, u]).run P w = .ok v' w' ∧ w'.ownsRow base e size v' (n + m) (xs ++ ys) ∧ w.grownBy w' v.ownBlock ∧
      (v'.ownBlock = v.ownBlock ∨ v'.ownBlock = some w.heap.size) := by
  obtain ⟨A, c, rfl, hc1, hc2, hc3⟩ := hu.at_
  rcases Nat.eq_zero_or_pos m with hm | hm
  · subst hm
    obtain rfl : ys = [] := List.eq_nil_of_length_eq_zero (by simpa using hu.len)
    rcases A with _ | ad
    · refine ⟨v, w, ?_, by simpa using hown, World.grownBy.refl w _, .inl rfl⟩
      rcases hown.2 with ⟨rfl, rfl⟩ | ⟨g, cap, cur, rfl, _, _, hnc, _⟩
      · simp [Builtin.append_, run_underlying ht, sizeOf, typeInfo, hi, Builtin.lenOf, Builtin.firstCells]
      · simp [Builtin.append_, run_underlying ht, sizeOf, typeInfo, hi, Builtin.lenOf, Builtin.firstCells, hnc, storeCells]
    · obtain ⟨v', w', q1, q2, q3, _, q5⟩ := run_append_own_at (P := P) w base t ty e i z size bytes ht hi hz hsize hby hzs hsz v n xs hown ad 0 c [] (by simp) (by simp) (by simp) h63 hbytes hbase
      exact ⟨v', w', q1, q2, q3, q5⟩
  · obtain ⟨b, o, rfl, _, _, hc⟩ := hc3 hm
    obtain ⟨v', w', q1, q2, q3, _, q5⟩ := run_append_own_at (P := P) w base t ty e i z size bytes ht hi hz hsize hby hzs hsz v n xs hown ⟨b, o, none⟩ m c ys hu.len
      (fun j y hy => by
        have hj : j < ys.length := (List.getElem?_eq_some_iff.1 hy).1
        have e1 : (⟨b, o, none⟩ : Addr).add j = ⟨b, o + j, none⟩ := by unfold Addr.add; split <;> simp_all
        rw [e1, hc j (by rw [← hu.len]; exact hj), hy]) h1 h63 hbytes hbase
    exact ⟨v', w', q1, q2, q3, q5⟩

section
variable {P : Program} (w : World) {ops : Array Oper} {rest : List Oper} {o : Oper} {a : Act} {Q : Exit → Act → World → Prop}
theorem wpList_append_sl (hgd : o.guard = none) (s x : Operand) (t : TypeId)
    (ho : o.op = .call { callee := .builtin .append, args := #[s, x], argTypes := #[t, t] })
    (base : Nat) (e : TypeId) (i : TypeInfo) (z : Value) (size bytes : Nat) (ht : P.underlying t = some (.slice e)) (hi : P.info? e = some i) (hz : i.zero = some z)
    (hsize : i.size = size) (hby : i.bytes = bytes) (hzs : z.cells.size = size) (hsz : 0 < size)
    (v : Value) (n : Nat) (xs : List Value) (hs : a.eval s = v) (hown : w.ownsRow base e size v n xs)
    (lo B : Nat) (u : Value) (m : Nat) (ys : List Value) (hx : a.eval x = u) (hu : Sl w lo B size u m ys) (h1 : ∀ y ∈ ys, y.oneCell' = true)
    (h63 : n + m ≤ maxLen) (hbytes : (n + m) * bytes ≤ 140737488355328) (hbase : base ≤ w.heap.size)
    (h : ∀ v' w', w'.ownsRow base e size v' (n + m) (xs ++ ys) → w.grownBy w' v.ownBlock → (v'.ownBlock = v.ownBlock ∨ v'.ownBlock = some w.heap.size) → wpList P ops Q rest (a.put o.dst v') w') :
    wpList P ops Q (o :: rest) a w :=
  wpList_plain hgd fun K hK => by
    obtain ⟨v', w', hrun, h2, h3, h4⟩ := run_append_sl (P := P) w base t o.type e i z size bytes ht hi hz hsize hby hzs hsz v n xs hown lo B u m ys hu h1 h63 hbytes hbase
    unfold Oper.wp execOp
    simp only [ho, resolve, invoke, builtin, Sem.run_bind, Sem.run_pure, Result.andThen_ok, List.map_toArray, List.map_cons, List.map_nil, hs, hx, hrun]
    exact hK _ _ (h v' w' h2 h3 h4)
theorem wpListIn_append_sl {F : Fence} {N : Nat} (hgd : o.guard = none) (s x : Operand) (t : TypeId)
    (hop : o.op = .call { callee := .builtin .append, args := #[s, x], argTypes := #[t, t] })
    (base : Nat) (e : TypeId) (i : TypeInfo) (z : Value) (size bytes : Nat) (ht : P.underlying t = some (.slice e)) (hi : P.info? e = some i) (hz : i.zero = some z)
    (hsize : i.size = size) (hby : i.bytes = bytes) (hzs : z.cells.size = size) (hsz : 0 < size)
    (v : Value) (n : Nat) (xs : List Value) (hs : a.eval s = v) (hown : w.ownsRow base e size v n xs)
    (lo B : Nat) (u : Value) (m : Nat) (ys : List Value) (hx : a.eval x = u) (hu : Sl w lo B size u m ys) (h1 : ∀ y ∈ ys, y.oneCell' = true)
    (h63 : n + m ≤ maxLen) (hbytes : (n + m) * bytes ≤ 140737488355328) (hbase : base ≤ w.heap.size)
    (h : ∀ v' w', w'.ownsRow base e size v' (n + m) (xs ++ ys) → w.grownBy w' v.ownBlock → (v'.ownBlock = v.ownBlock ∨ v'.ownBlock = some w.heap.size) → wpListIn F N P ops Q rest (a.put o.dst v') w') :
    wpListIn F N P ops Q (o :: rest) a w :=
  wpListIn_plain hgd fun K hK => by
    obtain ⟨v', w', hrun, h2, h3, h4⟩ := run_append_sl (P := P) w base t o.type e i z size bytes ht hi hz hsize hby hzs hsz v n xs hown lo B u m ys hu h1 h63 hbytes hbase
    unfold Oper.wpIn
    refine ⟨?_, ?_⟩
    · simp [Oper.about, hop, resolve, Target.leads, Sem.run_pure]
    · rw [Oper.semAt_plain F _ _ (by rw [hop]; intro c hc'; cases hc')]
      simp [execOp, hop, resolve, invoke, builtin, hs, hx, hrun, Result.andThen]
      exact hK _ _ (h v' w' h2 h3 h4)
end

/-- a slice of ints -/
def ints (l : List Int) : List Value := l.map (Value.int .i64)
theorem ints_one (l : List Int) : ∀ y ∈ ints l, y.oneCell' = true := by
  intro y hy
  obtain ⟨x, _, rfl⟩ := List.mem_map.1 hy
  rfl
theorem ints_append (a b : List Int) : ints (a ++ b) = ints a ++ ints b := by simp [ints]
theorem ints_length (a : List Int) : (ints a).length = a.length := by simp [ints]
def IntsAt (w : World) (lo B : Nat) (v : Value) (l : List Int) : Prop := Sl w lo B 1 v l.length (ints l)
section
variable {w w' : World} {lo lo' B B' : Nat} {v : Value} {l : List Int}
theorem IntsAt.mono (h : IntsAt w lo B v l) (hb : Below B w w') (hB : B ≤ B') : IntsAt w' lo B' v l := Sl.mono h hb hB
theorem IntsAt.wide (h : IntsAt w lo B v l) (hl : lo' ≤ lo) (hB : B ≤ B') : IntsAt w lo' B' v l := Sl.wide h hl hB
theorem IntsAt.nil (w : World) (lo B : Nat) : IntsAt w lo B (.slice none 0 0) [] := Sl.nil w lo B 1
theorem IntsAt.form (h : IntsAt w lo B v l) :
    ∃ A c, v = .slice A l.length c ∧ l.length ≤ c ∧ c ≤ maxLen ∧ (0 < l.length → ∃ b o, A = some ⟨b, o, none⟩ ∧ lo ≤ b ∧ b < B ∧ ∀ j, j < l.length → w.cell? ⟨b, o + j, none⟩ = some (.int .i64 (l.getD j 0))) := by
  obtain ⟨A, c, e, h1, h2, h3⟩ := h.at_
  refine ⟨A, c, e, h1, h2, fun hn => ?_⟩
  obtain ⟨b, o, ea, hl, hb2, hc⟩ := h3 hn
  refine ⟨b, o, ea, hl, hb2, fun j hj => ?_⟩
  rw [hc j (by omega)]
  simp [ints, hj]
theorem IntsAt.of_own {e : TypeId} {n : Nat} (h : w.ownsRow lo e 1 v n (ints l)) : IntsAt w lo w.heap.size v l := by
  have hn : n = l.length := by have := h.1; simpa [ints] using this.symm
  subst hn
  exact Sl.of_own h
end
theorem IntsAt.cellAt {w : World} {lo B j n c : Nat} {A : Option Addr} {l : List Int} (h : IntsAt w lo B (.slice A n c) l) (hj : j < l.length) :
    ∃ b o, A = some ⟨b, o, none⟩ ∧ lo ≤ b ∧ b < B ∧ w.cell? ⟨b, o + j, none⟩ = some (.int .i64 (l.getD j 0)) := by
  obtain ⟨A', c', e, _, _, h3⟩ := h.form
  cases e
  obtain ⟨b, o, e1, e2, e3, e4⟩ := h3 (by omega)
  exact ⟨b, o, e1, e2, e3, e4 j hj⟩
/-- a slice literal -/
theorem Sl.new (w : World) (cs : Array Value) (t : TypeId) {size n : Nat} (h : cs.size = n * size) (hn : n ≤ maxLen) :
    Sl (w.alloc (.cells cs t)) w.heap.size (w.heap.size + 1) size (.slice (some ⟨w.heap.size, 0, none⟩) n n) n cs.toList := by
  refine ⟨by simpa using h, _, n, rfl, Nat.le_refl _, hn, fun _ => ⟨w.heap.size, 0, rfl, Nat.le_refl _, by omega, fun j _ => ?_⟩⟩
  unfold World.cell?
  rw [heap_alloc_new]
  simp
/-- a new block whose first cells are ints -/
theorem ownsRow_cells {w : World} {lo b n c : Nat} {t : TypeId} {cs : Array Value} {xs : List Int} (h : w.heap[b]? = some (.cells cs t (0, 0))) (hlo : lo ≤ b) (hn : n = xs.length) (h1 : n ≤ c) (h2 : c ≤ maxLen) (hs : cs.size = c)
    (hp : cs.toList.take xs.length = ints xs) : w.ownsRow lo t 1 (.slice (some ⟨b, 0, none⟩) n c) n (ints xs) :=
  ⟨by simp [ints, hn], .inr ⟨b, c, cs, rfl, hlo, h, h1, h2, by simpa using hs, by rw [hn, Nat.mul_one]; exact hp⟩⟩
theorem heap_one (w : World) (o : Obj) : (w.alloc o).heap[w.heap.size]? = some o := heap_alloc_new w o
theorem heap_two (w : World) (o o2 : Obj) : ((w.alloc o).alloc o2).heap[w.heap.size + 1]? = some o2 := by
  have := heap_alloc_new (w.alloc o) o2; rwa [World.size_alloc] at this
theorem heap_three (w : World) (o o2 o3 : Obj) : (((w.alloc o).alloc o2).alloc o3).heap[w.heap.size + 1 + 1]? = some o3 := by
  have := heap_alloc_new ((w.alloc o).alloc o2) o3; rwa [World.size_alloc, World.size_alloc] at this
theorem heap_two_one (w : World) (o o2 : Obj) : ((w.alloc o).alloc o2).heap[w.heap.size]? = some o :=
  (Below.heap_alloc _ _ _ (by simp)).trans (heap_one w o)

theorem only_of_below {a w : World} (h : Below a.heap.size a w) (row : Option Nat) : a.grownBy w row := ⟨h.os, h.tape, h.output, h.size, fun i hi _ => h.block i hi⟩
theorem ownsRow_below {w w' : World} {lo : Nat} {e size n} {v : Value} {xs : List Value} (h : w.ownsRow lo e size v n xs) (hb : Below w.heap.size w w') : w'.ownsRow lo e size v n xs :=
  h.kept (only_of_below hb none) (by cases hv : v.ownBlock <;> simp)

theorem ret1 {a b : Value} (h : a = b) : Ending.returned a = .returned b := by rw [h]
theorem ret2 {a b : Value} {c d : Value} (h1 : a = c) (h2 : b = d) : Ending.returned (.tuple #[a, b]) = .returned (.tuple #[c, d]) := by rw [h1, h2]
theorem ret3 {a b a' b' c d : Value} (h1 : a = c) (h2 : b = d) (h3 : a' = b') : Ending.returned (.tuple #[a, b, a']) = .returned (.tuple #[c, d, b']) := by rw [h1, h2, h3]
theorem num {a b : Int} (h : a = b) : Value.int .i64 a = .int .i64 b := by rw [h]
theorem boo {a b : Bool} (h : a = b) : Value.bool a = .bool b := by rw [h]
theorem snoc_all {p : Nat → Prop} {k : Nat} (h : ∀ j, j < k → p j) (hk : p k) : ∀ j, j < k + 1 → p j := fun j hj => by
  rcases Nat.lt_or_ge j k with h1 | h1
  · exact h j h1
  · obtain rfl : j = k := by omega
    exact hk
end Go.Proofs.Ytlhpdalfnjhokaa
