/-
  words for memory: a slice value that reads as a list of cells; append onto a row of the call's own from such a slice.
  words for maps that the program keeps: a block reads as a list of keys and values, in the keys' order.
  maps as lists of keys and of whatever stands at them: what the program's map holds of them.
  items: goods and counts.
  items: lists of items in memory; the iterator All.
  items: a range over All as one law; the walk of May.
  items: the walk of May.
  items: the walks of Of and Total.
-/
import Derived.Test.YtlhpdalfnjhokaaRows
import Derived.WalkKit
import Derived.WalkSpells
import Derived.WalkLawsBesides
import Derived.Maps.AppendAt
import Derived.OwnWalkIn
import Derived.Deep.Draws
import Derived.Lib.Hide
import Derived.Maps.OwnOps
import Derived.Maps.OwnSet
import Derived.Maps.Ext
import Derived.Maps.OwnIn
import Derived.Laws.RangeAny
import Derived.Deep.QuietTactic
import Derived.BigQuiet
import Derived.RangeFuncNested
import Derived.RangeFuncBound
import Derived.RangeFuncCalls
import Derived.RangeFuncLeaves
import Derived.Shelf.Abstract
import Derived.Shelf.RegionOpen
import Derived.TacticsInMore
import Derived.LoopNIn
import Derived.LoopIn

set_option linter.unusedVariables false
set_option linter.unusedSimpArgs false
namespace Go.Proofs.Ytlhpdalfnjhokaa
open Go.RowKit

/-- the value v is a slice of n elements, and its cells (size of them an element) are xs, in a block from lo on and below B -/
structure Sl (w : World) (lo B size : Nat) (v : Value) (n : Nat) (xs : List Value) : Prop where
  len : xs.length = n * size
  at_ : ∃ A c, v = .slice A n c ∧ n ≤ c ∧ c ≤ maxLen ∧ (0 < n → ∃ b o, A = some ⟨b, o, none⟩ ∧ lo ≤ b ∧ b < B ∧ ∀ j, j < n * size → w.cell? ⟨b, o + j, none⟩ = xs[j]?)

section
variable {w w' : World} {lo lo' B B' size n : Nat} {v : Value} {xs : List Value}
/-- what was known of the cells of the blocks from lo to B is known still -/
theorem Sl.keep (h : Sl w lo B size v n xs) (hk : ∀ b o, lo ≤ b → b < B → w'.cell? ⟨b, o, none⟩ = w.cell? ⟨b, o, none⟩) : Sl w' lo B size v n xs := by
  refine ⟨h.len, ?_⟩
  obtain ⟨A, c, e, h1, h2, h3⟩ := h.at_
  refine ⟨A, c, e, h1, h2, fun hn => ?_⟩
  obtain ⟨b, o, ea, hl, hb2, hc⟩ := h3 hn
  exact ⟨b, o, ea, hl, hb2, fun j hj => (hk b _ hl hb2).trans (hc j hj)⟩
theorem Sl.wide (h : Sl w lo B size v n xs) (hl : lo' ≤ lo) (hB : B ≤ B') : Sl w lo' B' size v n xs := by
  refine ⟨h.len, ?_⟩
  obtain ⟨A, c, e, h1, h2, h3⟩ := h.at_
  refine ⟨A, c, e, h1, h2, fun hn => ?_⟩
  obtain ⟨b, o, ea, hl', hb2, hc⟩ := h3 hn
  exact ⟨b, o, ea, by omega, by omega, hc⟩
theorem Sl.below (h : Sl w lo B size v n xs) (hb : Below B w w') : Sl w' lo B size v n xs := h.keep fun b o _ h2 => hb.cell (p := ⟨b, o, none⟩) h2
theorem Sl.mono (h : Sl w lo B size v n xs) (hb : Below B w w') (hB : B ≤ B') : Sl w' lo B' size v n xs := (h.below hb).wide (Nat.le_refl _) hB
theorem Sl.grown {row : Option Nat} (h : Sl w lo B size v n xs) (hg : w.grownBy w' row) (hB : B ≤ w.heap.size) (hr : ∀ k, row = some k → k < lo ∨ B ≤ k) : Sl w' lo B size v n xs :=
  h.keep fun b o h1 h2 => World.cell?_of_block (w := w) (hg.block b (by omega) (fun e => by have := hr b e.symm; omega))
theorem Sl.nil (w : World) (lo B size : Nat) : Sl w lo B size (.slice none 0 0) 0 [] := ⟨by simp, none, 0, rfl, by omega, by unfold maxLen; omega, fun h => by omega⟩
theorem Sl.of_own {e : TypeId} (h : w.ownsRow lo e size v n xs) : Sl w lo w.heap.size size v n xs := by
  refine ⟨h.1, ?_⟩
  rcases h.2 with ⟨rfl, rfl⟩ | ⟨g, cap, cur, rfl, hbg, hg, hnc, hcm, hcs, htake⟩
  · exact ⟨none, 0, rfl, by omega, by unfold maxLen; omega, fun h => by omega⟩
  · refine ⟨_, cap, rfl, hnc, hcm, fun _ => ⟨g, 0, rfl, hbg, (Array.getElem?_eq_some_iff.1 hg).1, fun j hj => ?_⟩⟩
    rw [← htake, List.getElem?_take, if_pos hj, Array.getElem?_toList]
    simp [World.cell?, hg]
end

/-- append onto a row of the call's own, from a slice that is known -/
theorem run_append_sl {P : Program} (w : World) (base : Nat) (t ty e : TypeId) (i : TypeInfo) (z : Value) (size bytes : Nat) (ht : P.underlying t = some (.slice e)) (hi : P.info? e = some i) (hz : i.zero = some z)
    (hsize : i.size = size) (hby : i.bytes = bytes) (hzs : z.cells.size = size) (hsz : 0 < size)
    (v : Value) (n : Nat) (xs : List Value) (hown : w.ownsRow base e size v n xs)
    (lo B : Nat) (u : Value) (m : Nat) (ys : List Value) (hu : Sl w lo B size u m ys) (h1 : ∀ y ∈ ys, y.oneCell' = true)
    (h63 : n + m ≤ maxLen) (hbytes : (n + m) * bytes ≤ 140737488355328) (hbase : base ≤ w.heap.size) :
    ∃ v' w', (Builtin.append_ #[t, t] ty #[v, u]).run P w = .ok v' w' ∧ w'.ownsRow base e size v' (n + m) (xs ++ ys) ∧ w.grownBy w' v.ownBlock ∧
      (v'.ownBlock = v.ownBlock ∨ v'.ownBlock = some w.heap.size) := by
  obtain ⟨A, c, rfl, hc1, hc2, hc3⟩ := hu.at_
  rcases Nat.eq_zero_or_pos m with hm | hm
  · subst hm
    obtain rfl : ys = [] := List.eq_nil_of_length_eq_zero (by simpa using hu.len)
    rcases A with _ | ad
    · refine ⟨v, w, ?_, by simpa using hown, World.grownBy.refl w _, .inl rfl⟩
      rcases hown.2 with ⟨rfl, rfl⟩ | ⟨g, cap, cur, rfl, _, _, hnc, _⟩
      · simp [Builtin.append_, run_underlying ht, sizeOf, typeInfo, hi, Builtin.lenOf, Builtin.firstCells]
      · simp [Builtin.append_, run_underlying ht, sizeOf, typeInfo, hi, Builtin.lenOf, Builtin.firstCells, hnc, storeCells]
    · obtain ⟨v', w', q1, q2, q3, _, q5⟩ := run_append_own_at (P := P) w base t ty e i z size bytes ht hi hz hsize hby hzs hsz v n xs hown ad 0 c [] (by simp) (by simp) (by simp) h63 hbytes hbase
      exact ⟨v', w', q1, q2, q3, q5⟩
  · obtain ⟨b, o, rfl, _, _, hc⟩ := hc3 hm
    obtain ⟨v', w', q1, q2, q3, _, q5⟩ := run_append_own_at (P := P) w base t ty e i z size bytes ht hi hz hsize hby hzs hsz v n xs hown ⟨b, o, none⟩ m c ys hu.len
      (fun j y hy => by
        have hj : j < ys.length := (List.getElem?_eq_some_iff.1 hy).1
        have e1 : (⟨b, o, none⟩ : Addr).add j = ⟨b, o + j, none⟩ := by unfold Addr.add; split <;> simp_all
        rw [e1, hc j (by rw [← hu.len]; exact hj), hy]) h1 h63 hbytes hbase
    exact ⟨v', w', q1, q2, q3, q5⟩

section
variable {P : Program} (w : World) {ops : Array Oper} {rest : List Oper} {o : Oper} {a : Act} {Q : Exit → Act → World → Prop}
theorem wpList_append_sl (hgd : o.guard = none) (s x : Operand) (t : TypeId)
    (ho : o.op = .call { callee := .builtin .append, args := #[s, x], argTypes := #[t, t] })
    (base : Nat) (e : TypeId) (i : TypeInfo) (z : Value) (size bytes : Nat) (ht : P.underlying t = some (.slice e)) (hi : P.info? e = some i) (hz : i.zero = some z)
    (hsize : i.size = size) (hby : i.bytes = bytes) (hzs : z.cells.size = size) (hsz : 0 < size)
    (v : Value) (n : Nat) (xs : List Value) (hs : a.eval s = v) (hown : w.ownsRow base e size v n xs)
    (lo B : Nat) (u : Value) (m : Nat) (ys : List Value) (hx : a.eval x = u) (hu : Sl w lo B size u m ys) (h1 : ∀ y ∈ ys, y.oneCell' = true)
    (h63 : n + m ≤ maxLen) (hbytes : (n + m) * bytes ≤ 140737488355328) (hbase : base ≤ w.heap.size)
    (h : ∀ v' w', w'.ownsRow base e size v' (n + m) (xs ++ ys) → w.grownBy w' v.ownBlock → (v'.ownBlock = v.ownBlock ∨ v'.ownBlock = some w.heap.size) → wpList P ops Q rest (a.put o.dst v') w') :
    wpList P ops Q (o :: rest) a w :=
  wpList_plain hgd fun K hK => by
    obtain ⟨v', w', hrun, h2, h3, h4⟩ := run_append_sl (P := P) w base t o.type e i z size bytes ht hi hz hsize hby hzs hsz v n xs hown lo B u m ys hu h1 h63 hbytes hbase
    unfold Oper.wp execOp
    simp only [ho, resolve, invoke, builtin, Sem.run_bind, Sem.run_pure, Result.andThen_ok, List.map_toArray, List.map_cons, List.map_nil, hs, hx, hrun]
    exact hK _ _ (h v' w' h2 h3 h4)
theorem wpListIn_append_sl {F : Fence} {N : Nat} (hgd : o.guard = none) (s x : Operand) (t : TypeId)
    (hop : o.op = .call { callee := .builtin .append, args := #[s, x], argTypes := #[t, t] })
    (base : Nat) (e : TypeId) (i : TypeInfo) (z : Value) (size bytes : Nat) (ht : P.underlying t = some (.slice e)) (hi : P.info? e = some i) (hz : i.zero = some z)
    (hsize : i.size = size) (hby : i.bytes = bytes) (hzs : z.cells.size = size) (hsz : 0 < size)
    (v : Value) (n : Nat) (xs : List Value) (hs : a.eval s = v) (hown : w.ownsRow base e size v n xs)
    (lo B : Nat) (u : Value) (m : Nat) (ys : List Value) (hx : a.eval x = u) (hu : Sl w lo B size u m ys) (h1 : ∀ y ∈ ys, y.oneCell' = true)
    (h63 : n + m ≤ maxLen) (hbytes : (n + m) * bytes ≤ 140737488355328) (hbase : base ≤ w.heap.size)
    (h : ∀ v' w', w'.ownsRow base e size v' (n + m) (xs ++ ys) → w.grownBy w' v.ownBlock → (v'.ownBlock = v.ownBlock ∨ v'.ownBlock = some w.heap.size) → wpListIn F N P ops Q rest (a.put o.dst v') w') :
    wpListIn F N P ops Q (o :: rest) a w :=
  wpListIn_plain hgd fun K hK => by
    obtain ⟨v', w', hrun, h2, h3, h4⟩ := run_append_sl (P := P) w base t o.type e i z size bytes ht hi hz hsize hby hzs hsz v n xs hown lo B u m ys hu h1 h63 hbytes hbase
    unfold Oper.wpIn
    refine ⟨?_, ?_⟩
    · simp [Oper.about, hop, resolve, Target.leads, Sem.run_pure]
    · rw [Oper.semAt_plain F _ _ (by rw [hop]; intro c hc'; cases hc')]
      simp [execOp, hop, resolve, invoke, builtin, hs, hx, hrun, Result.andThen]
      exact hK _ _ (h v' w' h2 h3 h4)
end

/-- a slice of ints -/
def ints (l : List Int) : List Value := l.map (Value.int .i64)
theorem ints_one (l : List Int) : ∀ y ∈ ints l, y.oneCell' = true := by
  intro y hy
  obtain ⟨x, _, rfl⟩ := List.mem_map.1 hy
  rfl
theorem ints_append (a b : List Int) : ints (a ++ b) = ints a ++ ints b := by simp [ints]
theorem ints_length (a : List Int) : (ints a).length = a.length := by simp [ints]
def IntsAt (w : World) (lo B : Nat) (v : Value) (l : List Int) : Prop := Sl w lo B 1 v l.length (ints l)
section
variable {w w' : World} {lo lo' B B' : Nat} {v : Value} {l : List Int}
theorem IntsAt.mono (h : IntsAt w lo B v l) (hb : Below B w w') (hB : B ≤ B') : IntsAt w' lo B' v l := Sl.mono h hb hB
theorem IntsAt.wide (h : IntsAt w lo B v l) (hl : lo' ≤ lo) (hB : B ≤ B') : IntsAt w lo' B' v l := Sl.wide h hl hB
theorem IntsAt.nil (w : World) (lo B : Nat) : IntsAt w lo B (.slice none 0 0) [] := Sl.nil w lo B 1
theorem IntsAt.form (h : IntsAt w lo B v l) :
    ∃ A c, v = .slice A l.length c ∧ l.length ≤ c ∧ c ≤ maxLen ∧ (0 < l.length → ∃ b o, A = some ⟨b, o, none⟩ ∧ lo ≤ b ∧ b < B ∧ ∀ j, j < l.length → w.cell? ⟨b, o + j, none⟩ = some (.int .i64 (l.getD j 0))) := by
  obtain ⟨A, c, e, h1, h2, h3⟩ := h.at_
  refine ⟨A, c, e, h1, h2, fun hn => ?_⟩
  obtain ⟨b, o, ea, hl, hb2, hc⟩ := h3 hn
  refine ⟨b, o, ea, hl, hb2, fun j hj => ?_⟩
  rw [hc j (by omega)]
  simp [ints, hj]
theorem IntsAt.of_own {e : TypeId} {n : Nat} (h : w.ownsRow lo e 1 v n (ints l)) : IntsAt w lo w.heap.size v l := by
  have hn : n = l.length := by have := h.1; simpa [ints] using this.symm
  subst hn
  exact Sl.of_own h
end
theorem IntsAt.cellAt {w : World} {lo B j n c : Nat} {A : Option Addr} {l : List Int} (h : IntsAt w lo B (.slice A n c) l) (hj : j < l.length) :
    ∃ b o, A = some ⟨b, o, none⟩ ∧ lo ≤ b ∧ b < B ∧ w.cell? ⟨b, o + j, none⟩ = some (.int .i64 (l.getD j 0)) := by
  obtain ⟨A', c', e, _, _, h3⟩ := h.form
  cases e
  obtain ⟨b, o, e1, e2, e3, e4⟩ := h3 (by omega)
  exact ⟨b, o, e1, e2, e3, e4 j hj⟩
/-- a slice literal -/
theorem Sl.new (w : World) (cs : Array Value) (t : TypeId) {size n : Nat} (h : cs.size = n * size) (hn : n ≤ maxLen) :
    Sl (w.alloc (.cells cs t)) w.heap.size (w.heap.size + 1) size (.slice (some ⟨w.heap.size, 0, none⟩) n n) n cs.toList := by
  refine ⟨by simpa using h, _, n, rfl, Nat.le_refl _, hn, fun _ => ⟨w.heap.size, 0, rfl, Nat.le_refl _, by omega, fun j _ => ?_⟩⟩
  unfold World.cell?
  rw [heap_alloc_new]
  simp
/-- a new block whose first cells are ints -/
theorem ownsRow_cells {w : World} {lo b n c : Nat} {t : TypeId} {cs : Array Value} {xs : List Int} (h : w.heap[b]? = some (.cells cs t (0, 0))) (hlo : lo ≤ b) (hn : n = xs.length) (h1 : n ≤ c) (h2 : c ≤ maxLen) (hs : cs.size = c)
    (hp : cs.toList.take xs.length = ints xs) : w.ownsRow lo t 1 (.slice (some ⟨b, 0, none⟩) n c) n (ints xs) :=
  ⟨by simp [ints, hn], .inr ⟨b, c, cs, rfl, hlo, h, h1, h2, by simpa using hs, by rw [hn, Nat.mul_one]; exact hp⟩⟩
theorem heap_one (w : World) (o : Obj) : (w.alloc o).heap[w.heap.size]? = some o := heap_alloc_new w o
theorem heap_two (w : World) (o o2 : Obj) : ((w.alloc o).alloc o2).heap[w.heap.size + 1]? = some o2 := by
  have := heap_alloc_new (w.alloc o) o2; rwa [World.size_alloc] at this
theorem heap_three (w : World) (o o2 o3 : Obj) : (((w.alloc o).alloc o2).alloc o3).heap[w.heap.size + 1 + 1]? = some o3 := by
  have := heap_alloc_new ((w.alloc o).alloc o2) o3; rwa [World.size_alloc, World.size_alloc] at this
theorem heap_two_one (w : World) (o o2 : Obj) : ((w.alloc o).alloc o2).heap[w.heap.size]? = some o :=
  (Below.heap_alloc _ _ _ (by simp)).trans (heap_one w o)

theorem only_of_below {a w : World} (h : Below a.heap.size a w) (row : Option Nat) : a.grownBy w row := ⟨h.os, h.tape, h.output, h.size, fun i hi _ => h.block i hi⟩
theorem ownsRow_below {w w' : World} {lo : Nat} {e size n} {v : Value} {xs : List Value} (h : w.ownsRow lo e size v n xs) (hb : Below w.heap.size w w') : w'.ownsRow lo e size v n xs :=
  h.kept (only_of_below hb none) (by cases hv : v.ownBlock <;> simp)

theorem ret1 {a b : Value} (h : a = b) : Ending.returned a = .returned b := by rw [h]
theorem ret2 {a b : Value} {c d : Value} (h1 : a = c) (h2 : b = d) : Ending.returned (.tuple #[a, b]) = .returned (.tuple #[c, d]) := by rw [h1, h2]
theorem ret3 {a b a' b' c d : Value} (h1 : a = c) (h2 : b = d) (h3 : a' = b') : Ending.returned (.tuple #[a, b, a']) = .returned (.tuple #[c, d, b']) := by rw [h1, h2, h3]
theorem num {a b : Int} (h : a = b) : Value.int .i64 a = .int .i64 b := by rw [h]
theorem boo {a b : Bool} (h : a = b) : Value.bool a = .bool b := by rw [h]
theorem snoc_all {p : Nat → Prop} {k : Nat} (h : ∀ j, j < k → p j) (hk : p k) : ∀ j, j < k + 1 → p j := fun j hj => by
  rcases Nat.lt_or_ge j k with h1 | h1
  · exact h j h1
  · obtain rfl : j = k := by omega
    exact hk
end Go.Proofs.Ytlhpdalfnjhokaa

namespace Go.Proofs.Ytlhpdalfnjhokaa
open Go.RowKit Go.Maps

/-- a kind of keys -/
structure KeyK (κ : Type) [DecidableEq κ] where
  lit : κ → Lit
  lt : κ → κ → Bool
  before : ∀ a b, (lit a).before (lit b) = lt a b
  same : ∀ a b, (lit a).sameKey (lit b) = decide (a = b)
  isKey : ∀ a, WideAt.IsKeyLit (lit a)

def intK : KeyK Int where
  lit := Lit.int .i64
  lt a b := decide (a < b)
  before a b := rfl
  same a b := by simp [Lit.sameKey]
  isKey _ := trivial
def strK : KeyK (List UInt8) where
  lit := Lit.string
  lt a b := bytesBefore a b
  before a b := rfl
  same a b := by
    simp only [Lit.sameKey]
    rw [Bool.eq_iff_iff]; simp
  isKey _ := trivial

section
variable {κ : Type} [DecidableEq κ] (K : KeyK κ)
def mGet (m : List (κ × Value)) (k : κ) : Option Value := (m.find? (fun p => decide (p.1 = k))).map (·.2)
def mIns (k : κ) (v : Value) : List (κ × Value) → List (κ × Value)
  | [] => [(k, v)]
  | p :: r => if K.lt k p.1 then (k, v) :: p :: r else p :: mIns k v r
def mDel (m : List (κ × Value)) (k : κ) : List (κ × Value) := m.filter (fun p => !decide (p.1 = k))
def mPut (m : List (κ × Value)) (k : κ) (v : Value) : List (κ × Value) := mIns K k v (mDel m k)
/-- the map's datum -/
def mEs (m : List (κ × Value)) : List (Lit × DataW Value) := m.map fun p => (K.lit p.1, .held p.2)
def hold (v : Value) : Option (DataW Value × List MemPlace) := some (.held v, [])

theorem mEs_ins (k : κ) (v : Value) (m : List (κ × Value)) : DataW.insert (K.lit k, .held v) (mEs K m) = mEs K (mIns K k v m) := by
  induction m with
  | nil => rfl
  | cons p r ih =>
    simp only [mEs, List.map_cons, DataW.insert, mIns] at ih ⊢
    rw [K.before]
    split
    · simp
    · rw [ih]; simp
theorem mEs_del (k : κ) (m : List (κ × Value)) : (mEs K m).filter (fun p => !p.1.sameKey (K.lit k)) = mEs K (mDel m k) := by
  induction m with
  | nil => rfl
  | cons p r ih =>
    simp only [mEs, List.map_cons, mDel, List.filter_cons, K.same] at ih ⊢
    split <;> simp_all
theorem mEs_put (k : κ) (v : Value) (m : List (κ × Value)) : (DataW.map (mEs K m)).put (K.lit k) (.held v) = .map (mEs K (mPut K m k v)) := by
  simp only [DataW.put, mPut]
  rw [mEs_del, mEs_ins]
theorem mEs_get (k : κ) (z : Value) (m : List (κ × Value)) : (DataW.map (mEs K m)).atKey (K.lit k) (.held z) = .held ((mGet m k).getD z) := by
  induction m with
  | nil => rfl
  | cons p r ih =>
    simp only [mEs, DataW.atKey, mGet, List.map_cons, List.find?_cons, K.same] at ih ⊢
    by_cases h : p.1 = k
    · simp [h]
    · simp only [h, decide_false]; exact ih
theorem mEs_has (k : κ) (m : List (κ × Value)) : Maps.has (DataW.map (mEs K m)) (K.lit k) = (mGet m k).isSome := by
  induction m with
  | nil => rfl
  | cons p r ih =>
    simp only [mEs, List.map_cons, Maps.has, mGet, List.find?_cons, List.any_cons, K.same] at ih ⊢
    by_cases h : p.1 = k <;> simp_all

/-- block b is a map that reads as m -/
def GMap (w : World) (P : Program) (t : TypeId) (b : Nat) (m : List (κ × Value)) : Prop := w.ownsMap (H := Value) P t hold b m.length (.map (mEs K m))

variable {K}
variable {w w' : World} {P : Program} {t : TypeId} {b : Nat} {m : List (κ × Value)}
theorem GMap.of {n : Nat} (h : w.ownsMap (H := Value) P t hold b n (.map (mEs K m))) : GMap K w P t b m := by
  obtain ⟨es, clock, hb, F, _, e⟩ := h
  refine ⟨es, clock, hb, F, ?_, e⟩
  have h1 := congrArg Maps.size e
  simp [Maps.size, length_sorted, mEs] at h1
  omega
theorem GMap.made (w : World) (P : Program) (t : TypeId) : GMap K (w.alloc (.map #[] 0)) P t w.heap.size [] := World.ownsMap_made w P t hold
theorem GMap.kept {row : Option Nat} (h : GMap K w P t b m) (hg : w.grownBy w' row) (hne : some b ≠ row) : GMap K w' P t b m := World.ownsMap.kept h hg hne
theorem GMap.lt (h : GMap K w P t b m) : b < w.heap.size := World.ownsMap.lt h
theorem GMap.below {B : Nat} (h : GMap K w P t b m) (hb : Below B w w') (hB : b < B) : GMap K w' P t b m := by
  obtain ⟨es, clock, h1, F, h2, e⟩ := h
  exact ⟨es, clock, (hb.block b hB).trans h1, F, h2, e⟩
theorem GMap.sorted (h : GMap K w P t b m) (KK : Keyed P t) : m.Pairwise (fun p q => K.lt p.1 q.1 = true) := by
  obtain ⟨es, e, h1, _⟩ := World.ownsMap.canon h KK
  injection e with e
  subst e
  simp only [mEs, List.pairwise_map, K.before] at h1
  exact h1
theorem GMap.look {tm e : TypeId} (h : GMap K w P t b m) (KK : Keyed P t) (ht : P.underlying tm = some (.map t e)) {z : Value} (hz : (zeroValue e).run P w = .ok z w) {key : Value} {k : κ} (hkey : keyOf P t key = some (K.lit k)) :
    (Instr.lookup tm (.map (some b)) key false).run P w = .ok ((mGet m k).getD z) w := by
  obtain ⟨v, ps, hrun, hv⟩ := World.ownsMap.lookup h KK ht hz (zd := .held z) (zp := []) rfl hkey
  rw [mEs_get] at hv
  have e : v = (mGet m k).getD z := by simp only [hold, Option.some.injEq, Prod.mk.injEq, DataW.held.injEq] at hv; exact hv.1
  rw [hrun, e]
theorem GMap.look_ok {tm e : TypeId} (h : GMap K w P t b m) (KK : Keyed P t) (ht : P.underlying tm = some (.map t e)) {z : Value} (hz : (zeroValue e).run P w = .ok z w) {key : Value} {k : κ} (hkey : keyOf P t key = some (K.lit k)) :
    (Instr.lookup tm (.map (some b)) key true).run P w = .ok (.tuple #[(mGet m k).getD z, .bool (mGet m k).isSome]) w := by
  obtain ⟨v, ps, hrun, hv⟩ := World.ownsMap.look_ok h KK ht hz (zd := .held z) (zp := []) rfl hkey
  rw [mEs_get] at hv
  have e : v = (mGet m k).getD z := by simp only [hold, Option.some.injEq, Prod.mk.injEq, DataW.held.injEq] at hv; exact hv.1
  rw [hrun, e, mEs_has]
theorem GMap.put {tm e : TypeId} (h : GMap K w P t b m) (KK : Keyed P t) (ht : P.underlying tm = some (.map t e)) (hn : m.length < maxLen) {key val : Value} {k : κ} (hkey : keyOf P t key = some (K.lit k)) :
    ∃ w', (Instr.mapUpdate tm (.map (some b)) key val).run P w = .ok () w' ∧ GMap K w' P t b (mPut K m k val) ∧ w.grownBy w' (some b) := by
  obtain ⟨w', hrun, h1, h2⟩ := World.ownsMap.update h KK ht hn hkey (val := val) (d := .held val) (ps := []) rfl
  rw [mEs_put] at h1
  exact ⟨w', hrun, GMap.of h1, h2⟩
theorem GMap.del {tm e : TypeId} (h : GMap K w P t b m) (KK : Keyed P t) (ht : P.underlying tm = some (.map t e)) {key : Value} {k : κ} (hkey : keyOf P t key = some (K.lit k)) (ty : TypeId) :
    ∃ w', (Builtin.delete_ #[tm, t] ty #[.map (some b), key]).run P w = .ok (.tuple #[]) w' ∧ GMap K w' P t b (mDel m k) ∧ w.grownBy w' (some b) := by
  obtain ⟨w', hrun, h1, h2⟩ := World.ownsMap.drop h KK ht hkey ty
  simp only [DataW.del] at h1
  rw [mEs_del] at h1
  exact ⟨w', hrun, GMap.of h1, h2.grown⟩
theorem GMap.len {tm e : TypeId} (h : GMap K w P t b m) (ht : P.underlying tm = some (.map t e)) (ty : TypeId) : (Builtin.len_ #[tm] ty #[.map (some b)]).run P w = .ok (.int .i64 m.length) w := by
  rw [World.ownsMap.len h ht ty]
  simp [Maps.size, mEs]
end

section
variable {κ : Type} [DecidableEq κ] {K : KeyK κ} {P : Program} {w : World} {b : Nat} {m : List (κ × Value)} {ops : Array Oper} {rest : List Oper} {o : Oper} {a : Act} {Q : Exit → Act → World → Prop}
theorem wpList_put_g (hg : o.guard = none) (x y z : Operand) (tm : TypeId) (hop : o.op = Op.mapUpdate tm x y z) (t e : TypeId) (KK : Keyed P t) (ht : P.underlying tm = some (.map t e))
    (hm : a.eval x = .map (some b)) (h : GMap K w P t b m) (hn : m.length < maxLen) (key val : Value) (k : κ) (hx : a.eval y = key) (hv : a.eval z = val) (hkey : keyOf P t key = some (K.lit k))
    (hK : ∀ w', GMap K w' P t b (mPut K m k val) → w.grownBy w' (some b) → wpList P ops Q rest (a.put o.dst undef) w') :
    wpList P ops Q (o :: rest) a w := by
  refine wpList_plain hg fun K' hK' => ?_
  obtain ⟨w', hrun, r1, r2⟩ := h.put KK ht hn hkey (val := val)
  unfold Oper.wp
  simp [execOp, hop, hm, hx, hv, hrun, Result.andThen]
  exact hK' _ _ (hK w' r1 r2)
theorem wpList_del_g (hg : o.guard = none) (x y : Operand) (tm t : TypeId) (hop : o.op = Op.call { callee := Callee.builtin Builtin.delete, args := #[x, y], argTypes := #[tm, t] })
    (e : TypeId) (KK : Keyed P t) (ht : P.underlying tm = some (.map t e)) (hm : a.eval x = .map (some b)) (h : GMap K w P t b m) (key : Value) (k : κ) (hx : a.eval y = key) (hkey : keyOf P t key = some (K.lit k))
    (hK : ∀ w', GMap K w' P t b (mDel m k) → w.grownBy w' (some b) → wpList P ops Q rest (a.put o.dst (.tuple #[])) w') :
    wpList P ops Q (o :: rest) a w := by
  refine wpList_plain hg fun K' hK' => ?_
  obtain ⟨w', hrun, r1, r2⟩ := h.del KK ht hkey o.type
  unfold Oper.wp
  simp [execOp, hop, resolve, invoke, builtin, hm, hx, hrun, Result.andThen]
  exact hK' _ _ (hK w' r1 r2)
theorem wpList_look_g (hg : o.guard = none) (x y : Operand) (tm : TypeId) (hop : o.op = Op.lookup tm x y false) (t e : TypeId) (KK : Keyed P t) (ht : P.underlying tm = some (.map t e))
    (hm : a.eval x = .map (some b)) (h : GMap K w P t b m) {z : Value} (hz : (zeroValue e).run P w = .ok z w) (key : Value) (k : κ) (hx : a.eval y = key) (hkey : keyOf P t key = some (K.lit k))
    (r : Value) (hr : (mGet m k).getD z = r) (hK : wpList P ops Q rest (a.put o.dst r) w) :
    wpList P ops Q (o :: rest) a w := by
  refine wpList_plain hg fun K' hK' => ?_
  have hrun := h.look KK ht hz hkey
  rw [hr] at hrun
  unfold Oper.wp
  simp [execOp, hop, hm, hx, hrun, Result.andThen]
  exact hK' _ _ hK
theorem wpListIn_put_g {F : Fence} {N : Nat} (hg : o.guard = none) (x y z : Operand) (tm : TypeId) (hop : o.op = Op.mapUpdate tm x y z) (t e : TypeId) (KK : Keyed P t) (ht : P.underlying tm = some (.map t e))
    (hm : a.eval x = .map (some b)) (h : GMap K w P t b m) (hn : m.length < maxLen) (key val : Value) (k : κ) (hx : a.eval y = key) (hv : a.eval z = val) (hkey : keyOf P t key = some (K.lit k))
    (hK : ∀ w', GMap K w' P t b (mPut K m k val) → w.grownBy w' (some b) → wpListIn F N P ops Q rest (a.put o.dst undef) w') :
    wpListIn F N P ops Q (o :: rest) a w := by
  refine wpListIn_plain hg fun K' hK' => ?_
  obtain ⟨w', hrun, r1, r2⟩ := h.put KK ht hn hkey (val := val)
  unfold Oper.wpIn
  refine ⟨by simp [Oper.about, hop], ?_⟩
  rw [Oper.semAt_eq _ _ _ (by rw [hop]; intro c hc; cases hc)]
  simp [execOp, hop, hm, hx, hv, hrun, Result.andThen]
  exact hK' _ _ (hK w' r1 r2)
theorem wpListIn_look_g {F : Fence} {N : Nat} (hg : o.guard = none) (x y : Operand) (tm : TypeId) (hop : o.op = Op.lookup tm x y false) (t e : TypeId) (KK : Keyed P t) (ht : P.underlying tm = some (.map t e))
    (hm : a.eval x = .map (some b)) (h : GMap K w P t b m) {z : Value} (hz : (zeroValue e).run P w = .ok z w) (key : Value) (k : κ) (hx : a.eval y = key) (hkey : keyOf P t key = some (K.lit k))
    (r : Value) (hr : (mGet m k).getD z = r) (hK : wpListIn F N P ops Q rest (a.put o.dst r) w) :
    wpListIn F N P ops Q (o :: rest) a w := by
  refine wpListIn_plain hg fun K' hK' => ?_
  have hrun := h.look KK ht hz hkey
  rw [hr] at hrun
  unfold Oper.wpIn
  refine ⟨by simp [Oper.about, hop], ?_⟩
  rw [Oper.semAt_eq _ _ _ (by rw [hop]; intro c hc; cases hc)]
  simp [execOp, hop, hm, hx, hrun, Result.andThen]
  exact hK' _ _ hK
end

/-! the lists -/
section
variable {κ : Type} [DecidableEq κ] {K : KeyK κ}
theorem mGet_cons (p : κ × Value) (m : List (κ × Value)) (k : κ) : mGet (p :: m) k = if p.1 = k then some p.2 else mGet m k := by
  unfold mGet
  rw [List.find?_cons]
  by_cases h : p.1 = k <;> simp [h]
theorem mGet_ins_same (m : List (κ × Value)) (k : κ) (v : Value) (h : mGet m k = none) : mGet (mIns K k v m) k = some v := by
  induction m with
  | nil => simp [mIns, mGet]
  | cons p r ih =>
    rw [mGet_cons] at h
    have h1 : p.1 ≠ k := by intro e; rw [if_pos e] at h; cases h
    rw [if_neg h1] at h
    unfold mIns
    split
    · simp [mGet_cons]
    · rw [mGet_cons, if_neg h1]; exact ih h
theorem mGet_ins_other (m : List (κ × Value)) (k k' : κ) (v : Value) (hne : k' ≠ k) : mGet (mIns K k v m) k' = mGet m k' := by
  induction m with
  | nil => simp [mIns, mGet_cons, hne.symm]
  | cons p r ih =>
    unfold mIns
    split
    · rw [mGet_cons, if_neg hne.symm]
    · rw [mGet_cons, mGet_cons, ih]
theorem mGet_del_same (m : List (κ × Value)) (k : κ) : mGet (mDel m k) k = none := by
  induction m with
  | nil => rfl
  | cons p r ih =>
    unfold mDel at ih ⊢
    rw [List.filter_cons]
    split
    · rename_i h
      rw [mGet_cons, if_neg (by simpa using h)]; exact ih
    · exact ih
theorem mGet_del_other (m : List (κ × Value)) (k k' : κ) (hne : k' ≠ k) : mGet (mDel m k) k' = mGet m k' := by
  induction m with
  | nil => rfl
  | cons p r ih =>
    unfold mDel at ih ⊢
    rw [List.filter_cons]
    split
    · rw [mGet_cons, mGet_cons, ih]
    · rename_i h
      rw [mGet_cons, ih, if_neg]
      intro e
      have : p.1 = k := by simpa using h
      exact hne (e.symm.trans this)
theorem mGet_put_same (m : List (κ × Value)) (k : κ) (v : Value) : mGet (mPut K m k v) k = some v := mGet_ins_same _ _ _ (mGet_del_same m k)
theorem mGet_put_other (m : List (κ × Value)) (k k' : κ) (v : Value) (hne : k' ≠ k) : mGet (mPut K m k v) k' = mGet m k' := by
  unfold mPut; rw [mGet_ins_other _ _ _ _ hne, mGet_del_other _ _ _ hne]
theorem mIns_length (m : List (κ × Value)) (k : κ) (v : Value) : (mIns K k v m).length = m.length + 1 := by
  induction m with
  | nil => rfl
  | cons p r ih => unfold mIns; split <;> simp [ih]
theorem mDel_length_le (m : List (κ × Value)) (k : κ) : (mDel m k).length ≤ m.length := List.length_filter_le _ _
theorem mPut_length_le (m : List (κ × Value)) (k : κ) (v : Value) : (mPut K m k v).length ≤ m.length + 1 := by
  unfold mPut; rw [mIns_length]; have := mDel_length_le m k; omega
end
end Go.Proofs.Ytlhpdalfnjhokaa

namespace Go.Proofs.Ytlhpdalfnjhokaa
open Go.RowKit Go.Maps
namespace Al
section
variable {κ α : Type}
/-- as the program's map holds it -/
def gm (f : α → Value) (m : List (κ × α)) : List (κ × Value) := m.map fun p => (p.1, f p.2)
theorem gm_length (f : α → Value) (m : List (κ × α)) : (gm f m).length = m.length := by simp [gm]
theorem gm_keys (f : α → Value) (m : List (κ × α)) : (gm f m).map (·.1) = m.map (·.1) := by simp [gm]
end
section
variable {κ α : Type} [DecidableEq κ]
def aGet (m : List (κ × α)) (k : κ) : Option α := (m.find? fun p => decide (p.1 = k)).map (·.2)
def aDel (m : List (κ × α)) (k : κ) : List (κ × α) := m.filter fun p => !decide (p.1 = k)
def aIns (K : KeyK κ) (k : κ) (a : α) : List (κ × α) → List (κ × α)
  | [] => [(k, a)]
  | p :: r => if K.lt k p.1 then (k, a) :: p :: r else p :: aIns K k a r
def aPut (K : KeyK κ) (m : List (κ × α)) (k : κ) (a : α) : List (κ × α) := aIns K k a (aDel m k)
variable {K : KeyK κ} {f : α → Value}
theorem aGet_cons (p : κ × α) (m : List (κ × α)) (k : κ) : aGet (p :: m) k = if p.1 = k then some p.2 else aGet m k := by
  unfold aGet
  rw [List.find?_cons]
  by_cases h : p.1 = k <;> simp [h]
theorem gm_get (m : List (κ × α)) (k : κ) : mGet (gm f m) k = (aGet m k).map f := by
  induction m with
  | nil => rfl
  | cons p r ih =>
    rw [aGet_cons]
    show mGet ((p.1, f p.2) :: gm f r) k = _
    rw [mGet_cons, ih]
    by_cases h : p.1 = k <;> simp [h]
theorem gm_put (m : List (κ × α)) (k : κ) (a : α) : mPut K (gm f m) k (f a) = gm f (aPut K m k a) := by
  have h1 : mDel (gm f m) k = gm f (aDel m k) := by
    simp only [mDel, gm, aDel, List.filter_map]
    rfl
  unfold mPut aPut
  rw [h1]
  generalize aDel m k = d
  induction d with
  | nil => rfl
  | cons p r ih =>
    simp only [gm, List.map_cons, mIns, aIns] at ih ⊢
    by_cases h : K.lt k p.1
    · simp [h]
    · simp only [h, if_false, Bool.false_eq_true, List.map_cons]
      rw [ih]
theorem aGet_mem {m : List (κ × α)} {k : κ} {a : α} (h : aGet m k = some a) : (k, a) ∈ m := by
  unfold aGet at h
  obtain ⟨p, hp, rfl⟩ := Option.map_eq_some_iff.1 h
  have h1 := List.find?_some hp
  have h2 := List.mem_of_find?_eq_some hp
  simp only [decide_eq_true_eq] at h1
  subst h1
  exact h2
theorem aGet_none {m : List (κ × α)} {k : κ} (h : aGet m k = none) : k ∉ m.map (·.1) := by
  intro hk
  obtain ⟨p, hp, rfl⟩ := List.mem_map.1 hk
  unfold aGet at h
  rw [Option.map_eq_none_iff, List.find?_eq_none] at h
  exact h p hp (by simp)
theorem aGet_some {m : List (κ × α)} {k : κ} (h : k ∈ m.map (·.1)) : ∃ a, aGet m k = some a := by
  cases hg : aGet m k with
  | none => exact (aGet_none hg h).elim
  | some a => exact ⟨a, rfl⟩
theorem aIns_mem {m : List (κ × α)} {k : κ} {a : α} {p : κ × α} : p ∈ aIns K k a m ↔ p = (k, a) ∨ p ∈ m := by
  induction m with
  | nil => simp [aIns]
  | cons q r ih =>
    unfold aIns
    split
    · simp
    · simp only [List.mem_cons, ih]
      constructor
      · rintro (h | h | h)
        · exact .inr (.inl h)
        · exact .inl h
        · exact .inr (.inr h)
      · rintro (h | h | h)
        · exact .inr (.inl h)
        · exact .inl h
        · exact .inr (.inr h)
theorem aPut_mem {m : List (κ × α)} {k : κ} {a : α} {p : κ × α} : p ∈ aPut K m k a ↔ p = (k, a) ∨ (p ∈ m ∧ p.1 ≠ k) := by
  unfold aPut
  rw [aIns_mem]
  unfold aDel
  rw [List.mem_filter]
  simp
theorem aGet_put (m : List (κ × α)) (k j : κ) (a : α) : aGet (aPut K m k a) j = if j = k then some a else aGet m j := by
  have h0 : ∀ d : List (κ × α), (∀ p ∈ d, p.1 ≠ k) → aGet (aIns K k a d) j = if j = k then some a else aGet d j := fun d hd => by
    induction d with
    | nil => by_cases h : j = k <;> simp [aGet, aIns, h, eq_comm]
    | cons p r ih =>
      have ih := ih fun q hq => hd q (List.mem_cons_of_mem _ hq)
      have hp := hd p (by simp)
      unfold aIns
      split
      · rw [aGet_cons]
        by_cases e : j = k
        · simp [e]
        · simp [e, Ne.symm e]
      · rw [aGet_cons, aGet_cons, ih]
        by_cases e : p.1 = j
        · have : j ≠ k := fun e2 => hp (e.trans e2)
          simp [e, this]
        · simp [e]
  unfold aPut
  rw [h0 _ (fun p hp => by unfold aDel at hp; rw [List.mem_filter] at hp; simpa using hp.2)]
  by_cases e : j = k
  · simp [e]
  · simp only [e, if_false]
    unfold aGet aDel
    rw [List.find?_filter]
    congr 2
    funext p
    by_cases h : p.1 = j
    · simp [h, e]
    · simp [h]
theorem aIns_length (m : List (κ × α)) (k : κ) (a : α) : (aIns K k a m).length = m.length + 1 := by
  induction m with
  | nil => rfl
  | cons p r ih => unfold aIns; split <;> simp [ih]
theorem aPut_length_le (m : List (κ × α)) (k : κ) (a : α) : (aPut K m k a).length ≤ m.length + 1 := by
  unfold aPut
  rw [aIns_length]
  have : (aDel m k).length ≤ m.length := List.length_filter_le _ _
  omega
end
end Al
end Go.Proofs.Ytlhpdalfnjhokaa

namespace Go.Proofs.Ytlhpdalfnjhokaa
open Go.RowKit
namespace It

def okB (c : UInt8) : Bool := decide (97 ≤ c.toNat ∧ c.toNat ≤ 122) || decide (48 ≤ c.toNat ∧ c.toNat ≤ 57) || decide (c.toNat = 45)
def good (s : ByteArray) : Bool := s.data.toList.all okB && decide (1 ≤ s.size) && decide (s.size ≤ 16)
def countOk (n : Int) : Bool := decide (0 ≤ n) && decide (n ≤ 1099511627776)

theorem okB_cases (n : Nat) : n < 45 ∨ n = 45 ∨ (45 < n ∧ n < 48) ∨ (48 ≤ n ∧ n ≤ 57) ∨ (57 < n ∧ n < 97) ∨ (97 ≤ n ∧ n ≤ 122) ∨ 122 < n := by omega
theorem good_no {s : ByteArray} {k : Nat} (hk : k < s.size) (h : okB s[k] = false) : good s = false := by
  unfold good
  have : s.data.toList.all okB = false := by
    rw [List.all_eq_false]
    refine ⟨s[k], ?_, by simp [h]⟩
    exact Array.mem_toList_iff.2 (Array.getElem_mem hk)
  rw [this]; rfl
theorem good_all {s : ByteArray} (h : ∀ j, (hj : j < s.size) → okB s[j] = true) : good s = (decide (1 ≤ s.size) && decide (s.size ≤ 16)) := by
  unfold good
  have : s.data.toList.all okB = true := by
    rw [List.all_eq_true]
    intro x hx
    obtain ⟨i, hi, rfl⟩ := List.getElem_of_mem hx
    exact h i (by simpa using hi)
  rw [this]; rfl

theorem len_tests (n : Nat) : (!decide (n = 0) && decide ((n : Int) ≤ 16)) = (decide (1 ≤ n) && decide (n ≤ 16)) := by
  rw [Bool.eq_iff_iff]
  simp only [Bool.and_eq_true, Bool.not_eq_true', decide_eq_false_iff_not, decide_eq_true_eq]
  omega
theorem empty_iff (s : ByteArray) : s.toList.isEmpty = decide (s.size = 0) := by
  rw [ByteArray.toList_eq, Bool.eq_iff_iff]
  simp [← ByteArray.size_data]
set_option maxHeartbeats 1000000 in
theorem good_calls (s : ByteArray) (w : World) (hs : s.size ≤ maxLen) :
    Calls Try.prog 58 #[.string s] w fun e w' => e = .returned (.bool (good s)) ∧ Below w.heap.size w w' := by
  unfold maxLen at hs
  have HNo := Lib.hid (fun k hk h => @good_no s k hk h)
  have HAll := Lib.hid (@good_all s)
  generalize good s = g at *
  have hni := fun (pos : Nat) (ty : TypeId) (h : pos < s.size) => run_next_any (P := Try.prog) w s pos ty h
  go_enter Try.func58, Try.ntmps58
  go_wp2
  go_loopw [4] (fun _ wr => ∃ k : Nat, k ≤ s.size ∧ wr = w.iter s k ∧ ∀ j, (hj : j < s.size) → j < k → okB s[j] = true) (fun _ wr => s.size - wr.iterPos w.heap.size)
  case atStart => exact ⟨0, by omega, rfl, fun j hj h => by omega⟩
  case round =>
    obtain ⟨k, hk, rfl, hN⟩ := hrel
    have HN := Lib.hid hN
    clear hN
    by_cases hlt : k < s.size
    · by_cases ha : (s[k]'hlt).toNat < 128
      · have hn := fun ty => hni k ty hlt
        rw [decode_ascii s k hlt ha] at hn
        have HB := Lib.hid (show okB (s[k]'hlt) = (decide (97 ≤ (s[k]'hlt).toNat ∧ (s[k]'hlt).toNat ≤ 122) || decide (48 ≤ (s[k]'hlt).toNat ∧ (s[k]'hlt).toNat ≤ 57) || decide ((s[k]'hlt).toNat = 45)) from rfl)
        have HC := Lib.hid (fun h => HNo.out k hlt h)
        have HD := Lib.hid (fun (h : okB (s[k]'hlt) = true) => show ∀ j, (hj : j < s.size) → j < k + 1 → okB s[j] = true from fun j hj hjk => by
          rcases Nat.lt_or_ge j k with h1 | h1
          · exact HN.out j hj h1
          · obtain rfl : j = k := by omega
            exact h)
        generalize okB (s[k]'hlt) = ob at *
        generalize (s[k]'hlt).toNat = n at *
        clear hni
        rcases okB_cases n with h | h | h | h | h | h | h
        all_goals try subst h
        case inr.inl | inr.inr.inr.inl | inr.inr.inr.inr.inr.inl =>
          have HT : ob = true := by rw [HB.out]; simp; try omega
          have HT2 := Lib.hid (HD.out HT)
          clear HT
          go_wp2
          go_roundw
          case rel => exact ⟨k + 1, by omega, rfl, HT2.out⟩
          case measure => simp; omega
        all_goals
          have HT : ob = false := by rw [HB.out]; simp; try omega
          have HT2 := Lib.hid (HC.out HT)
          clear HT
          have hne : ((n : Int) != 45) = true := by rw [bne_iff_ne]; omega
          go_wp2
          go_ret
          exact ⟨ret1 (boo HT2.out.symm), (Below.refl _ w).alloc (Nat.le_refl _) _⟩
      · have hn := fun ty => hni k ty hlt
        have hd := (decode_high s k hlt (by omega)).1
        have hd2 := decode_le s k
        have HB := Lib.hid (show okB (s[k]'hlt) = false by
          unfold okB
          simp only [Bool.or_eq_false_iff, decide_eq_false_iff_not]
          omega)
        have HT2 := Lib.hid (HNo.out k hlt HB.out)
        generalize (Utf8.decode s k).1 = r at *
        generalize (Utf8.decode s k).2 = q at *
        clear hni
        have hne : ((r : Int) != 45) = true := by rw [bne_iff_ne]; omega
        go_wp2
        go_ret
        exact ⟨ret1 (boo HT2.out.symm), (Below.refl _ w).alloc (Nat.le_refl _) _⟩
    · obtain rfl : k = s.size := by omega
      have hn := fun ty => run_next_end (P := Try.prog) w s s.size ty (by omega)
      have HT2 := Lib.hid (HAll.out (fun j hj => HN.out j hj hj))
      clear hni
      have HE := Lib.hid (empty_iff s)
      go_wp2
      · have h0 : s.toList = [] := by assumption
        go_ret
        refine ⟨ret1 (boo ?_), (Below.refl _ w).alloc (Nat.le_refl _) _⟩
        have h1 := HE.out
        rw [h0] at h1
        have h2 : s.size = 0 := by simpa using h1
        rw [HT2.out, h2]; rfl
      · go_ret
        refine ⟨ret1 (boo ?_), (Below.refl _ w).alloc (Nat.le_refl _) _⟩
        show (!s.toList.isEmpty && decide ((s.size : Int) ≤ 16)) = g
        rw [HE.out, HT2.out]
        exact len_tests _

set_option maxHeartbeats 1000000 in
theorem refgood_calls (s : ByteArray) (w : World) (hs : s.size ≤ maxLen) :
    Calls Try.prog 67 #[.string s] w fun e w' => e = .returned (.bool (good s)) ∧ w = w' := by
  unfold maxLen at hs
  have HNo := Lib.hid (fun k hk h => @good_no s k hk h)
  have HAll := Lib.hid (@good_all s)
  generalize good s = g at *
  go_enter Try.func67, Try.ntmps67
  go_wp2
  go_loop [3] (fun i => ∃ k : Nat, k ≤ s.size ∧ i = .int .i64 k ∧ ∀ j, (hj : j < s.size) → j < k → okB s[j] = true) (fun i => s.size - (intOf i).toNat)
  case atStart => exact ⟨0, by omega, rfl, fun j hj h => by omega⟩
  case round =>
    obtain ⟨k, hk, rfl, hN⟩ := hrel
    have HN := Lib.hid hN
    clear hN
    by_cases hlt : k < s.size
    · have HB := Lib.hid (show okB (s[k]'hlt) = (decide (97 ≤ (s[k]'hlt).toNat ∧ (s[k]'hlt).toNat ≤ 122) || decide (48 ≤ (s[k]'hlt).toNat ∧ (s[k]'hlt).toNat ≤ 57) || decide ((s[k]'hlt).toNat = 45)) from rfl)
      have HC := Lib.hid (fun h => HNo.out k hlt h)
      have HD := Lib.hid (fun (h : okB (s[k]'hlt) = true) => show ∀ j, (hj : j < s.size) → j < k + 1 → okB s[j] = true from fun j hj hjk => by
        rcases Nat.lt_or_ge j k with h1 | h1
        · exact HN.out j hj h1
        · obtain rfl : j = k := by omega
          exact h)
      have hnb := (s[k]'hlt).toNat_lt
      generalize okB (s[k]'hlt) = ob at *
      rcases okB_cases (s[k]'hlt).toNat with h | h | h | h | h | h | h
      case inr.inl =>
        have HT : ob = true := by rw [HB.out, h]; rfl
        have HT2 := Lib.hid (HD.out HT)
        clear HT
        go_wp2
        go_round
        case rel => exact ⟨k + 1, by omega, by go_num, HT2.out⟩
        case measure => simp [intOf]; omega
      case inr.inr.inr.inl | inr.inr.inr.inr.inr.inl =>
        have HT : ob = true := by rw [HB.out]; simp; try omega
        have HT2 := Lib.hid (HD.out HT)
        clear HT
        go_wp2
        go_round
        case rel => exact ⟨k + 1, by omega, by go_num, HT2.out⟩
        case measure => simp [intOf]; omega
      all_goals
        have HT : ob = false := by rw [HB.out]; simp; try omega
        have HT2 := Lib.hid (HC.out HT)
        clear HT
        have hne : (((s[k]'hlt).toNat : Int) == 45) = false := by rw [beq_eq_false_iff_ne]; omega
        go_wp2
        all_goals first
          | (go_ret; exact ⟨ret1 (boo HT2.out.symm), rfl⟩)
          | (exfalso; simp at *; omega)
    · obtain rfl : k = s.size := by omega
      have HT2 := Lib.hid (HAll.out (fun j hj => HN.out j hj hj))
      by_cases h1 : 1 ≤ s.size
      · go_wp2
        go_ret
        exact ⟨ret1 (boo (by rw [HT2.out, decide_eq_true h1, Bool.true_and]; exact decide_eq_decide.2 (by omega))), rfl⟩
      · go_wp2
        go_ret
        exact ⟨ret1 (boo (by rw [HT2.out, decide_eq_false h1]; rfl)), rfl⟩

theorem countOk_no {n : Int} (h : ¬ (0 ≤ n ∧ n ≤ 1099511627776)) : countOk n = false := by
  unfold countOk
  by_cases h1 : 0 ≤ n
  · rw [decide_eq_false (p := n ≤ 1099511627776) (by omega)]; simp
  · rw [decide_eq_false h1]; rfl
set_option maxHeartbeats 400000 in
theorem count_calls (n : Int) (w : World) :
    Calls Try.prog 37 #[.int .i64 n] w fun e w' => e = .returned (.bool (countOk n)) ∧ w = w' := by
  have HO := Lib.hid (show countOk n = (decide (0 ≤ n) && decide (n ≤ 1099511627776)) from rfl)
  by_cases h1 : 0 ≤ n
  all_goals
    go_enter Try.func37, Try.ntmps37
    go_wp2
    go_ret
    first
      | exact ⟨ret1 (boo (countOk_no (by omega)).symm), rfl⟩
      | exact ⟨ret1 (boo (by rw [HO.out, decide_eq_true h1]; rfl)), rfl⟩
set_option maxHeartbeats 400000 in
theorem refcount_calls (n : Int) (w : World) :
    Calls Try.prog 51 #[.int .i64 n] w fun e w' => e = .returned (.bool (countOk n)) ∧ w = w' := by
  have HO := Lib.hid (show countOk n = (decide (0 ≤ n) && decide (n ≤ 1099511627776)) from rfl)
  by_cases h1 : 0 ≤ n
  all_goals
    go_enter Try.func51, Try.ntmps51
    go_wp2
    go_ret
    first
      | exact ⟨ret1 (boo (countOk_no (by omega)).symm), rfl⟩
      | exact ⟨ret1 (boo (by rw [HO.out, decide_eq_true h1]; rfl)), rfl⟩
end It
end Go.Proofs.Ytlhpdalfnjhokaa

namespace Go.Proofs.Ytlhpdalfnjhokaa
open Go.RowKit
namespace It

attribute [local go_sem] Oper.semAt_some

abbrev Item := ByteArray × Int
def itemCells (l : List Item) : List Value := l.flatMap fun x => [.string x.1, .int .i64 x.2]
theorem itemCells_length (l : List Item) : (itemCells l).length = l.length * 2 := by
  induction l with
  | nil => rfl
  | cons x r ih => simp only [itemCells, List.flatMap_cons, List.length_append, List.length_cons, List.length_nil] at ih ⊢; omega
theorem itemCells_append (a b : List Item) : itemCells (a ++ b) = itemCells a ++ itemCells b := by simp [itemCells]
theorem itemCells_one (l : List Item) : ∀ y ∈ itemCells l, y.oneCell' = true := by
  intro y hy
  obtain ⟨x, _, hx⟩ := List.mem_flatMap.1 hy
  simp only [List.mem_cons, List.not_mem_nil, or_false] at hx
  rcases hx with rfl | rfl <;> rfl
theorem itemCells_get : ∀ (l : List Item) (j : Nat) (hj : j < l.length), (itemCells l)[j * 2]? = some (.string l[j].1) ∧ (itemCells l)[j * 2 + 1]? = some (.int .i64 l[j].2)
  | [], j, hj => absurd hj (by simp)
  | x :: r, 0, _ => by simp [itemCells]
  | x :: r, j + 1, hj => by
    have h := itemCells_get r j (by simpa using hj)
    have e1 : (j + 1) * 2 = j * 2 + 1 + 1 := by omega
    have e2 : (j + 1) * 2 + 1 = j * 2 + 1 + 1 + 1 := by omega
    rw [e1]
    simp only [itemCells, List.flatMap_cons, List.cons_append, List.nil_append, List.getElem?_cons_succ, List.getElem_cons_succ]
    exact h
/-- a slice of items -/
def ItemsAt (w : World) (lo B : Nat) (v : Value) (l : List Item) : Prop := Sl w lo B 2 v l.length (itemCells l)
section
variable {w w' : World} {lo lo' B B' : Nat} {v : Value} {l : List Item}
theorem ItemsAt.below (h : ItemsAt w lo B v l) (hb : Below B w w') : ItemsAt w' lo B v l := Sl.below h hb
theorem ItemsAt.mono (h : ItemsAt w lo B v l) (hb : Below B w w') (hB : B ≤ B') : ItemsAt w' lo B' v l := Sl.mono h hb hB
theorem ItemsAt.wide (h : ItemsAt w lo B v l) (hl : lo' ≤ lo) (hB : B ≤ B') : ItemsAt w lo' B' v l := Sl.wide h hl hB
theorem ItemsAt.nil (w : World) (lo B : Nat) : ItemsAt w lo B (.slice none 0 0) [] := Sl.nil w lo B 2
theorem ItemsAt.form (h : ItemsAt w lo B v l) : ∃ A c, v = .slice A l.length c ∧ l.length ≤ c ∧ c ≤ maxLen := by
  obtain ⟨A, c, e, h1, h2, _⟩ := h.at_
  exact ⟨A, c, e, h1, h2⟩
theorem ItemsAt.cellAt {A : Option Addr} {n c j : Nat} (h : ItemsAt w lo B (.slice A n c) l) (hj : j < l.length) :
    ∃ b o, A = some ⟨b, o, none⟩ ∧ lo ≤ b ∧ b < B ∧ w.cell? ⟨b, o + j * 2, none⟩ = some (.string l[j].1) ∧ w.cell? ⟨b, o + j * 2 + 1, none⟩ = some (.int .i64 l[j].2) := by
  obtain ⟨A', c', e, _, _, h3⟩ := h.at_
  cases e
  obtain ⟨b, o, e1, e2, e3, e4⟩ := h3 (by omega)
  obtain ⟨g1, g2⟩ := itemCells_get l j hj
  exact ⟨b, o, e1, e2, e3, (e4 (j * 2) (by omega)).trans g1, (e4 (j * 2 + 1) (by omega)).trans g2⟩
theorem ItemsAt.of_own {e : TypeId} {n : Nat} (h : w.ownsRow lo e 2 v n (itemCells l)) : ItemsAt w lo w.heap.size v l := by
  have hn : n = l.length := by have := h.1; rw [itemCells_length] at this; omega
  subst hn
  exact Sl.of_own h
end

/-- an item of a list -/
abbrev Of (l : List Item) := { x : Item // x ∈ l }
def enc2 {l : List Item} (x : Of l) : Array Value := #[.string x.1.1, .int .i64 x.1.2]
/-- the first k items -/
def firsts (l : List Item) (k : Nat) : List (Of l) := l.attach.take k
theorem firsts_succ (l : List Item) (k : Nat) (h : k < l.length) : firsts l (k + 1) = firsts l k ++ [⟨l[k], List.getElem_mem h⟩] := by
  unfold firsts
  rw [List.take_succ_eq_append_getElem (by simpa using h)]
  simp
theorem firsts_length (l : List Item) (k : Nat) (h : k ≤ l.length) : (firsts l k).length = k := by
  unfold firsts; simp [h]
theorem firsts_all (l : List Item) : firsts l l.length = l.attach := by
  unfold firsts; rw [List.take_of_length_le (by simp)]

set_option maxRecDepth 100000 in
set_option maxHeartbeats 2000000 in
theorem all1_in (F : Fence) (n : Nat) (hf : F.fn 60) (hro : F.round = none) (hn : 1 ≤ n) (l Bs n₀ c : Nat) (A : Option Addr) (L : List Item) (hc1 : L.length ≤ c) (hc2 : c ≤ maxLen) (J Jx : List (Of L) → World → Prop)
    (W : World) (hn₀ : n₀ ≤ W.heap.size) (hJ : AbidesFrom W.heap.size J)
    (hY : ∀ pre x W, J pre W → pre.length < L.length → YieldAt F (n - 1) Try.prog l (enc2 x) W fun e W' =>
      (e = .returned (.bool true) ∧ J (pre ++ [x]) W' ∧ Below n₀ W W') ∨ (e = .returned (.bool false) ∧ Jx (pre ++ [x]) W'))
    (hBs : W.cell? ⟨Bs, 0, none⟩ = some (.slice A L.length c)) (hI : ItemsAt W 0 n₀ (.slice A L.length c) L) (h0 : J [] W) :
    CallsIn F n Try.prog 60 #[.func (.yield l) #[] #[], .pointer (some ⟨Bs, 0, none⟩)] W fun e W' => (∃ v, e = .returned v) ∧
      ((∃ ys, ys = L.attach ∧ J ys W') ∨ (∃ pre, pre <+: L.attach ∧ Jx pre W')) := by
  unfold maxLen at hc2
  refine callsIn_of_wp Try.func60 rfl hf ?_ hro
  simp only [Try.ntmps60, List.size_toArray, List.length_cons, List.length_nil, Nat.reduceAdd, Nat.reduceSub, Array.replicate_succ, Array.replicate_zero, List.push_toArray, List.append_toArray, List.nil_append, List.cons_append]
  gi_wp2
  gi_loopw [4, 7] (fun _ i wr => ∃ k : Nat, k ≤ L.length ∧ i = .int .i64 k ∧ J (firsts L k) wr ∧ Below n₀ W wr) (fun _ i _ => L.length - (intOf i).toNat)
  case atStart => exact ⟨0, by omega, rfl, h0, Below.refl _ _⟩
  case round =>
    obtain ⟨k, hk, rfl, hJs, hb⟩ := hrel
    by_cases hlt : k < L.length
    · obtain ⟨b, o, rfl, _, hbn, hs, hi⟩ := (hI.below hb).cellAt hlt
      have hsz : n₀ ≤ wr.heap.size := by have := hb.size; omega
      have hJ' : J (firsts L k) (wr.alloc (.cells #[.string L[k].1, .int .i64 L[k].2] 64)) := hJ _ _ _ none hJs (World.grownBy_alloc _ _ none) (fun r e => by cases e)
      obtain ⟨fn, tmps, assign, body, hy, hR⟩ := hY _ ⟨L[k], List.getElem_mem hlt⟩ _ hJ' (by rw [firsts_length _ _ hk]; exact hlt)
      dsimp only [enc2] at hy
      gi_wp2
      refine hR.mono ?_
      rintro e W3 (⟨rfl, hJ3, hk3⟩ | ⟨rfl, hJx3⟩)
      · gi_wp2
        go_roundw
        case rel => exact ⟨k + 1, by omega, by go_num, by rw [firsts_succ L k hlt]; exact hJ3, hb.trans (((Below.refl _ wr).alloc hsz _).trans hk3)⟩
        case measure => simp [intOf]; omega
      · gi_wp2
        refine bodyPost_ret (results_none rfl _ _ _) rfl ?_
        exact ⟨⟨_, rfl⟩, .inr ⟨_, by rw [← firsts_succ L k hlt]; exact List.take_prefix _ _, hJx3⟩⟩
    · obtain rfl : k = L.length := by omega
      gi_wp2
      go_end0
      exact ⟨⟨_, rfl⟩, .inl ⟨_, rfl, by rw [← firsts_all]; exact hJs⟩⟩

/-- items.All: the slice is boxed, the function value captures the box -/
theorem all_calls (A : Option Addr) (n c : Nat) (w : World) :
    Calls Try.prog 42 #[.slice A n c] w fun e w' => e = .returned (.func (.func 60) #[] #[.pointer (some ⟨w.heap.size, 0, none⟩)]) ∧ w.alloc (.cells #[.slice A n c] 55) = w' := by
  go_enter Try.func42, Try.ntmps42
  go_wp2
  go_ret
  exact ⟨rfl, rfl⟩

/-- items.All hands back an iterator over the list -/
theorem all_stops (F : Fence) (n : Nat) (hf : F.fn 60) (hro : F.round = none) (hn : 1 ≤ n) (Bs n₀ : Nat) (v : Value) (L : List Item) (w : World) (hBs : Bs < w.heap.size) (hn₀ : n₀ ≤ w.heap.size)
    (hc : w.cell? ⟨Bs, 0, none⟩ = some v) (hI : ItemsAt w 0 n₀ v L) :
    SeqStopsK F n Try.prog 60 #[.pointer (some ⟨Bs, 0, none⟩)] (enc2 (l := L)) (Below n₀) (fun ys => ys = L.attach) (fun pre => pre <+: L.attach) L.length w := fun l J Jx W hW hJ _ hY h0 => by
  obtain ⟨A, c, rfl, h1, h2⟩ := hI.form
  exact all1_in F n hf hro hn l Bs n₀ c A L h1 h2 J Jx W (Nat.le_trans hn₀ hW.size) hJ hY ((hW.cell (p := ⟨Bs, 0, none⟩) hBs).trans hc) (hI.below (hW.mono hn₀)) h0
end It
end Go.Proofs.Ytlhpdalfnjhokaa

namespace Go.Proofs.Ytlhpdalfnjhokaa
open Go.RowKit
namespace It
attribute [local go_sem] Oper.semAt_some

/-- how the body of a round may be left -/
def rpost {α : Type} (B n₀ : Nat) (C : List α → World → Prop) (Cx : Code → List α → World → Prop) (xs : List α) (W : World) : Exit → Act → World → Prop
  | .normal, _, W' => KeepsFrom B W W' ∧ Below n₀ W W' ∧ C xs W'
  | .ret, _, W' => KeepsFrom B W W' ∧ Below n₀ W W' ∧ Cx .ret xs W'
  | .exit id, _, W' => KeepsFrom B W W' ∧ Below n₀ W W' ∧ Cx (.exit id) xs W'
  | .goto t, _, W' => KeepsFrom B W W' ∧ Below n₀ W W' ∧ Cx (.goto t) xs W'
  | .panic _, _, _ => False
  | .outgrown, _, _ => False

/-- 'for good, n := range items.All(l) { .. }': what was below n₀ stays; C says what the call's own cells hold between two rounds -/
theorem range_all {F : Fence} {n : Nat} {g : Operand} {ps : Array Tmp} {assign body : Code} {Q : Exit → Act → World → Prop} {a : Act} {w : World}
    (hro : F.round = none) (hf : F.fn 60) (hn : 2 ≤ n) {Bs n₀ : Nat} {v : Value} {L : List Item} (hg : a.eval g = .func (.func 60) #[] #[.pointer (some ⟨Bs, 0, none⟩)]) (hps : ps.size = 2)
    (hBs : Bs < w.heap.size) (hn₀ : n₀ ≤ w.heap.size) (hc : w.cell? ⟨Bs, 0, none⟩ = some v) (hI : ItemsAt w 0 n₀ v L)
    (C : List (Of L) → World → Prop) (Cx : Code → List (Of L) → World → Prop) (hC : OwnFrom w.heap.size C) (hCx : ∀ c, OwnFrom w.heap.size (Cx c)) (h0 : C [] w) (a₁ : Of L → Act)
    (hassign : ∀ (l : Nat) (x : Of L) (W : World) (K : Act → World → Prop), K (a₁ x) W →
      assign.wpIn (F.inRound l) (n - 1 - 1) Try.prog (Exit.then K (fun _ _ _ => False)) { tmps := (ps.zip (enc2 x)).foldl (fun t (p, v) => t.setIfInBounds p v) a.tmps, defers := [] } W)
    (hbody : ∀ (l : Nat) (pre : List (Of L)) (x : Of L) (W : World), C pre W → Below n₀ w W → w.heap.size ≤ W.heap.size → pre.length < L.length → body.wpIn (F.inRound l) (n - 1 - 1) Try.prog (rpost w.heap.size n₀ C Cx (pre ++ [x]) W) (a₁ x) W)
    (hdone : ∀ (D : Nat) (W : World), w.heap.size ≤ D → C L.attach W → Below n₀ w W → W.heap[D]? = some (.deferred (some [])) → Q .normal { a with defers := { target := .collected D, args := #[] } :: a.defers } W)
    (hstop : ∀ (D : Nat) (c : Code) (pre : List (Of L)) (W : World), w.heap.size ≤ D → pre <+: L.attach → Cx c pre W → Below n₀ w W → W.heap[D]? = some (.deferred (some [])) → c.wpIn F n Try.prog Q { a with defers := { target := .collected D, args := #[] } :: a.defers } W) :
    (Code.rangeFunc g ps assign body).wpIn F n Try.prog Q a w :=
  wpIn_rangeFunc_ownG hro (by omega) hg hf (enters_of Try.func60 (by kernel_rfl) rfl)
    (all_stops F (n - 1) hf hro (by omega) Bs n₀ v L w hBs hn₀ hc hI) belowK_t (belowK_b hn₀) (Below.refl _ _) (fun _ => hps.symm)
    (fun pre W => C pre W ∧ Below n₀ w W) (fun c pre W => Cx c pre W ∧ Below n₀ w W)
    (OwnFrom.and hC (ownFrom_below hn₀ hn₀)) (fun c => OwnFrom.and (hCx c) (ownFrom_below hn₀ hn₀))
    ⟨h0, Below.refl _ _⟩ a₁ hassign
    (fun l pre x W ⟨hc, hb⟩ hl => wpIn_mono (hbody l pre x W hc hb hb.size hl) (fun e a' W' h => by
      cases e with
      | normal => exact ⟨h.1, h.2.1, h.2.2, hb.trans h.2.1⟩
      | ret => exact ⟨h.1, h.2.2, hb.trans h.2.1⟩
      | exit id => exact ⟨h.1, h.2.2, hb.trans h.2.1⟩
      | goto t => exact ⟨h.1, h.2.2, hb.trans h.2.1⟩
      | panic ch => exact h.elim
      | outgrown => exact h.elim))
    (fun D xs W hD hS ⟨hc, hb⟩ hK => by subst hS; exact hdone D W hD hc hb hK)
    (fun D c pre W hD hp ⟨hc, hb⟩ hK => hstop D c pre W hD hp hc hb hK)
theorem boxed_keep {A B : World} {row : Option Nat} {b : Nat} {t : TypeId} {v : Value} (h : Boxed A b t v) (hg : A.grownBy B row) (hr : ∀ r, row = some r → ∃ o : Obj, A.heap[r]? = some o ∧ o.isCells = false) : Boxed B b t v :=
  boxed_own b t (fun _ : Unit => v) () A B row h hg hr
theorem row_keep {A B : World} {row : Option Nat} {lo : Nat} {e : TypeId} {size n : Nat} {v : Value} {xs : List Value} (h : A.ownsRow lo e size v n xs) (hg : A.grownBy B row) (hr : ∀ r, row = some r → ∃ o : Obj, A.heap[r]? = some o ∧ o.isCells = false) : B.ownsRow lo e size v n xs := by
  refine h.kept hg ?_
  cases hv : v.ownBlock with
  | none => exact .inl rfl
  | some g =>
    refine .inr fun e => ?_
    obtain ⟨o, ho, hc⟩ := hr g e.symm
    rcases h.2 with ⟨rfl, _⟩ | ⟨g', cap, cur, rfl, _, hg', _⟩
    · simp [Value.ownBlock] at hv
    · simp [Value.ownBlock] at hv
      subst hv
      rw [hg'] at ho
      cases ho
      cases hc
theorem boxed_below {A B : World} {b : Nat} {t : TypeId} {v : Value} (h : Boxed A b t v) (hb : Below A.heap.size A B) : Boxed B b t v := (hb.block b h.lt).trans h
theorem keeps_below {A B : World} (n : Nat) (hb : Below A.heap.size A B) : KeepsFrom n A B :=
  ⟨hb.size, fun k _ _ hk _ => (hb.block k (Array.getElem?_eq_some_iff.1 hk).1).trans hk⟩
theorem keeps_set {A B : World} {n : Nat} (h : KeepsFrom n A B) (a : Addr) (v : Value) : KeepsFrom n A (B.setCell a v) := h.trans ((KeepsOthers.setCell _ _ _).from _)
/-- behind the function's return: the block of the rounds' deferred calls is let go -/
theorem boxed_end {W : World} {D b : Nat} {t : TypeId} {v : Value} (h : Boxed W b t v) (hK : W.heap[D]? = some (.deferred (some []))) : Boxed (W.putObj D (.deferred none)) b t v :=
  boxed_keep h (grownBy_putObj' _ D (.deferred none)) (fun r e => by cases e; exact ⟨_, hK, rfl⟩)
theorem below_end {w W : World} {D : Nat} (h : Below w.heap.size w W) (hD : w.heap.size ≤ D) (hK : W.heap[D]? = some (.deferred (some []))) : Below w.heap.size w (W.putObj D (.deferred none)) :=
  h.trans (belowK_b (w := w) (Nat.le_refl _) W D _ _ hD hK rfl rfl)
end It
end Go.Proofs.Ytlhpdalfnjhokaa

namespace Go.Proofs.Ytlhpdalfnjhokaa
open Go.RowKit
namespace It
attribute [local go_sem] Oper.semAt_some

/-- every text and every number is one that a program can hold -/
def Fits (l : List Item) : Prop := ∀ x ∈ l, x.1.size ≤ maxLen ∧ -9223372036854775808 ≤ x.2 ∧ x.2 ≤ 9223372036854775807
def strLe (a b : ByteArray) : Bool := Op.bytesLess a.toList b.toList || a.toList == b.toList
def okItem (x : Item) (last : ByteArray) : Bool := good x.1 && decide (1 ≤ x.2) && countOk x.2 && !strLe x.1 last
def mayTo (last : ByteArray) : List Item → Bool
  | [] => true
  | x :: r => okItem x last && mayTo x.1 r
def lastOf (last : ByteArray) : List Item → ByteArray
  | [] => last
  | x :: r => lastOf x.1 r
def may (l : List Item) : Bool := mayTo ⟨#[]⟩ l && decide (l.length ≤ 16)
theorem mayTo_snoc (last : ByteArray) (l : List Item) (x : Item) : mayTo last (l ++ [x]) = (mayTo last l && okItem x (lastOf last l)) := by
  induction l generalizing last with
  | nil => simp [mayTo, lastOf]
  | cons y r ih => simp only [List.cons_append, mayTo, lastOf, ih, Bool.and_assoc]
theorem lastOf_snoc (last : ByteArray) (l : List Item) (x : Item) : lastOf last (l ++ [x]) = x.1 := by
  induction l generalizing last with
  | nil => rfl
  | cons y r ih => simp only [List.cons_append, lastOf, ih]
theorem mayTo_prefix {last : ByteArray} {p l : List Item} (h : p <+: l) (hp : mayTo last p = false) : mayTo last l = false := by
  obtain ⟨r, rfl⟩ := h
  induction p generalizing last with
  | nil => cases hp
  | cons x p ih =>
    simp only [List.cons_append, mayTo] at hp ⊢
    cases h1 : okItem x last with
    | false => rfl
    | true => rw [h1] at hp; simp only [Bool.true_and] at hp ⊢; exact ih hp
/-- the items behind those of a list that came -/
def vals {L : List Item} (pre : List (Of L)) : List Item := pre.map (·.1)
theorem vals_snoc {L : List Item} (pre : List (Of L)) (x : Of L) : vals (pre ++ [x]) = vals pre ++ [x.1] := by simp [vals]
theorem vals_all (L : List Item) : vals L.attach = L := List.attach_map_subtype_val L
theorem vals_prefix {L : List Item} {pre : List (Of L)} (h : pre <+: L.attach) : vals pre <+: L := by
  have := h.map (f := fun x : Of L => x.1)
  rw [List.attach_map_subtype_val] at this
  exact this

set_option maxRecDepth 100000 in
set_option maxHeartbeats 4000000 in
theorem may_calls (L : List Item) (v : Value) (w : World) (hI : ItemsAt w 0 w.heap.size v L) (hF : Fits L) :
    Calls Try.prog 39 #[v] w fun e w' => e = .returned (.bool (may L)) ∧ Below w.heap.size w w' := by
  obtain ⟨A, c, rfl, hc1, hc2⟩ := hI.form
  unfold maxLen at hc2
  refine (callsIn_wide (n := 6)).1 ?_
  refine callsIn_of_wp_marks Try.func39 rfl trivial ?_ rfl
  simp only [Try.ntmps39, List.size_toArray, List.length_cons, List.length_nil, Nat.reduceAdd, Nat.reduceSub, Array.replicate_succ, Array.replicate_zero, List.push_toArray, List.append_toArray, List.nil_append, List.cons_append]
  gi_wp2_with (refine ⟨trivial, ?_⟩; gi_at_call 42; refine (callsIn_wide.2 (all_calls A _ c _)).mono ?_; rintro e w' ⟨rfl, rfl⟩)
  have b0 : Boxed (((w.alloc (.cells #[.bool false] 4)).alloc (.cells #[.string ⟨#[]⟩] 9)).alloc (.cells #[.slice A L.length c] 55)) w.heap.size 4 (.bool false) := ((Boxed.new w _ _).alloc _).alloc _
  have b1 : Boxed (((w.alloc (.cells #[.bool false] 4)).alloc (.cells #[.string ⟨#[]⟩] 9)).alloc (.cells #[.slice A L.length c] 55)) (w.heap.size + 1) 9 (.string ⟨#[]⟩) := by
    have := (Boxed.new (w.alloc (.cells #[.bool false] 4)) 9 (.string ⟨#[]⟩)).alloc (.cells #[.slice A L.length c] 55)
    rwa [World.size_alloc] at this
  have b2 : Boxed (((w.alloc (.cells #[.bool false] 4)).alloc (.cells #[.string ⟨#[]⟩] 9)).alloc (.cells #[.slice A L.length c] 55)) (w.heap.size + 1 + 1) 55 (.slice A L.length c) := by
    have := Boxed.new ((w.alloc (.cells #[.bool false] 4)).alloc (.cells #[.string ⟨#[]⟩] 9)) 55 (.slice A L.length c)
    rwa [World.size_alloc, World.size_alloc] at this
  have hB0 : Below w.heap.size w (((w.alloc (.cells #[.bool false] 4)).alloc (.cells #[.string ⟨#[]⟩] 9)).alloc (.cells #[.slice A L.length c] 55)) :=
    (((Below.refl _ w).alloc (Nat.le_refl _) _).alloc (by simp) _).alloc (by simp; omega) _
  have hsz0 : w.heap.size + 3 = (((w.alloc (.cells #[.bool false] 4)).alloc (.cells #[.string ⟨#[]⟩] 9)).alloc (.cells #[.slice A L.length c] 55)).heap.size := by simp
  generalize (((w.alloc (.cells #[.bool false] 4)).alloc (.cells #[.string ⟨#[]⟩] 9)).alloc (.cells #[.slice A L.length c] 55)) = w0 at *
  refine range_all (n := 6) rfl trivial (by omega) (Bs := w.heap.size + 1 + 1) (n₀ := w.heap.size) (v := .slice A L.length c) (L := L) rfl rfl (by omega) (by omega) b2.cell (hI.below hB0)
    (fun pre W => mayTo ⟨#[]⟩ (vals pre) = true ∧ Boxed W w.heap.size 4 (.bool false) ∧ Boxed W (w.heap.size + 1) 9 (.string (lastOf ⟨#[]⟩ (vals pre))))
    (fun c pre W => c = .ret ∧ mayTo ⟨#[]⟩ (vals pre) = false ∧ Boxed W w.heap.size 4 (.bool false))
    (Own.from (fun s A B row hs hg hr => ⟨hs.1, boxed_keep hs.2.1 hg hr, boxed_keep hs.2.2 hg hr⟩) _)
    (fun c => Own.from (fun s A B row hs hg hr => ⟨hs.1, hs.2.1, boxed_keep hs.2.2 hg hr⟩) _)
    ⟨rfl, b0, b1⟩
    (fun x => { tmps := #[.slice A L.length c, undef, .pointer (some ⟨w.heap.size, 0, none⟩), .pointer (some ⟨w.heap.size + 1, 0, none⟩), .string x.1.1, .int .i64 x.1.2, .slice A L.length c, .func (.func 60) #[] #[.pointer (some ⟨w.heap.size + 1 + 1, 0, none⟩)], .string x.1.1, .int .i64 x.1.2, undef, undef, undef, undef, undef, undef, undef, undef, undef, undef, undef, undef, undef, undef, undef, undef, undef, undef, undef, undef, undef], defers := [] }) ?assign ?body ?done ?stop
  case assign =>
    intro l x W K hK
    dsimp only [enc2]
    gi_wp2
    exact hK
  case body =>
    rintro l pre ⟨⟨xs, xn⟩, hx⟩ W ⟨hm, hb0, hb1⟩ hB hsz hlen
    have hfit := hF _ hx
    have hS := Lib.hid (show mayTo ⟨#[]⟩ (vals (pre ++ [⟨(xs, xn), hx⟩])) = (mayTo ⟨#[]⟩ (vals pre) && okItem (xs, xn) (lastOf ⟨#[]⟩ (vals pre))) by rw [vals_snoc, mayTo_snoc])
    have hL := Lib.hid (show lastOf ⟨#[]⟩ (vals (pre ++ [⟨(xs, xn), hx⟩])) = xs by rw [vals_snoc, lastOf_snoc])
    have hO := Lib.hid (show ∀ last, okItem (xs, xn) last = (good xs && decide (1 ≤ xn) && countOk xn && !(Op.bytesLess xs.toList last.toList || xs.toList == last.toList)) from fun _ => rfl)
    have HM := Lib.hid hm
    clear hm
    dsimp only at hfit ⊢
    have hc0 := hb0.cell
    have hf0 := hb0.frozen
    have hc1 := hb1.cell
    have hf1 := hb1.frozen
    generalize lastOf ⟨#[]⟩ (vals pre) = last at *
    have hO2 := Lib.hid (hO.out last)
    generalize okItem (xs, xn) last = ok at *
    have cG := Lib.hid (fun W => good_calls xs W hfit.1)
    generalize good xs = g at *
    have cN := Lib.hid (fun W => count_calls xn W)
    generalize countOk xn = cn at *
    by_cases hn1 : xn < 1
    · cases g with
      | false =>
        gi_wp2_with (first | (refine ⟨trivial, ?_⟩; gi_at_call 58; refine (CallsIn.inRound l (callsIn_wide.2 (cG.out _))).mono ?_; rintro e W1 ⟨rfl, h1⟩; have hb0' := boxed_below hb0 h1; have hb1' := boxed_below hb1 h1; have hc0' := hb0'.cell; have hf0' := hb0'.frozen; have hc1' := hb1'.cell; have hf1' := hb1'.frozen; clear hc0 hf0 hc1 hf1) | (refine ⟨trivial, ?_⟩; gi_at_call 37; refine (CallsIn.inRound l (callsIn_wide.2 (cN.out _))).mono ?_; rintro e W2 ⟨rfl, rfl⟩) | (refine ⟨trivial, ?_⟩))
        exact ⟨keeps_set (keeps_below _ h1) _ _, (h1.mono (B' := w.heap.size) (by omega)).setCell (p := ⟨w.heap.size, 0, none⟩) (Nat.le_refl _) _, rfl, by rw [hS.out, hO2.out]; simp [*], hb0'.set _⟩
      | true =>
        gi_wp2_with (first | (refine ⟨trivial, ?_⟩; gi_at_call 58; refine (CallsIn.inRound l (callsIn_wide.2 (cG.out _))).mono ?_; rintro e W1 ⟨rfl, h1⟩; have hb0' := boxed_below hb0 h1; have hb1' := boxed_below hb1 h1; have hc0' := hb0'.cell; have hf0' := hb0'.frozen; have hc1' := hb1'.cell; have hf1' := hb1'.frozen; clear hc0 hf0 hc1 hf1) | (refine ⟨trivial, ?_⟩; gi_at_call 37; refine (CallsIn.inRound l (callsIn_wide.2 (cN.out _))).mono ?_; rintro e W2 ⟨rfl, rfl⟩) | (refine ⟨trivial, ?_⟩))
        have hd : decide (1 ≤ xn) = false := by simp; omega
        exact ⟨keeps_set (keeps_below _ h1) _ _, (h1.mono (B' := w.heap.size) (by omega)).setCell (p := ⟨w.heap.size, 0, none⟩) (Nat.le_refl _) _, rfl, by rw [hS.out, hO2.out]; simp [*], hb0'.set _⟩
    · cases g with
      | false =>
        gi_wp2_with (first | (refine ⟨trivial, ?_⟩; gi_at_call 58; refine (CallsIn.inRound l (callsIn_wide.2 (cG.out _))).mono ?_; rintro e W1 ⟨rfl, h1⟩; have hb0' := boxed_below hb0 h1; have hb1' := boxed_below hb1 h1; have hc0' := hb0'.cell; have hf0' := hb0'.frozen; have hc1' := hb1'.cell; have hf1' := hb1'.frozen; clear hc0 hf0 hc1 hf1) | (refine ⟨trivial, ?_⟩; gi_at_call 37; refine (CallsIn.inRound l (callsIn_wide.2 (cN.out _))).mono ?_; rintro e W2 ⟨rfl, rfl⟩) | (refine ⟨trivial, ?_⟩))
        exact ⟨keeps_set (keeps_below _ h1) _ _, (h1.mono (B' := w.heap.size) (by omega)).setCell (p := ⟨w.heap.size, 0, none⟩) (Nat.le_refl _) _, rfl, by rw [hS.out, hO2.out]; simp [*], hb0'.set _⟩
      | true =>
        cases cn with
        | false =>
          gi_wp2_with (first | (refine ⟨trivial, ?_⟩; gi_at_call 58; refine (CallsIn.inRound l (callsIn_wide.2 (cG.out _))).mono ?_; rintro e W1 ⟨rfl, h1⟩; have hb0' := boxed_below hb0 h1; have hb1' := boxed_below hb1 h1; have hc0' := hb0'.cell; have hf0' := hb0'.frozen; have hc1' := hb1'.cell; have hf1' := hb1'.frozen; clear hc0 hf0 hc1 hf1) | (refine ⟨trivial, ?_⟩; gi_at_call 37; refine (CallsIn.inRound l (callsIn_wide.2 (cN.out _))).mono ?_; rintro e W2 ⟨rfl, rfl⟩) | (refine ⟨trivial, ?_⟩))
          exact ⟨keeps_set (keeps_below _ h1) _ _, (h1.mono (B' := w.heap.size) (by omega)).setCell (p := ⟨w.heap.size, 0, none⟩) (Nat.le_refl _) _, rfl, by rw [hS.out, hO2.out]; simp [*], hb0'.set _⟩
        | true =>
          generalize hle : (Op.bytesLess xs.toList last.toList || xs.toList == last.toList) = le at *
          cases le with
          | true =>
            gi_wp2_with (first | (refine ⟨trivial, ?_⟩; gi_at_call 58; refine (CallsIn.inRound l (callsIn_wide.2 (cG.out _))).mono ?_; rintro e W1 ⟨rfl, h1⟩; have hb0' := boxed_below hb0 h1; have hb1' := boxed_below hb1 h1; have hc0' := hb0'.cell; have hf0' := hb0'.frozen; have hc1' := hb1'.cell; have hf1' := hb1'.frozen; clear hc0 hf0 hc1 hf1) | (refine ⟨trivial, ?_⟩; gi_at_call 37; refine (CallsIn.inRound l (callsIn_wide.2 (cN.out _))).mono ?_; rintro e W2 ⟨rfl, rfl⟩) | (refine ⟨trivial, ?_⟩))
            exact ⟨keeps_set (keeps_below _ h1) _ _, (h1.mono (B' := w.heap.size) (by omega)).setCell (p := ⟨w.heap.size, 0, none⟩) (Nat.le_refl _) _, rfl, by rw [hS.out, hO2.out]; simp [*], hb0'.set _⟩
          | false =>
            have hd : decide (1 ≤ xn) = true := by simp; omega
            have HD := Lib.hid hd
            clear hd
            gi_wp2_with (first | (refine ⟨trivial, ?_⟩; gi_at_call 58; refine (CallsIn.inRound l (callsIn_wide.2 (cG.out _))).mono ?_; rintro e W1 ⟨rfl, h1⟩; have hb0' := boxed_below hb0 h1; have hb1' := boxed_below hb1 h1; have hc0' := hb0'.cell; have hf0' := hb0'.frozen; have hc1' := hb1'.cell; have hf1' := hb1'.frozen; clear hc0 hf0 hc1 hf1) | (refine ⟨trivial, ?_⟩; gi_at_call 37; refine (CallsIn.inRound l (callsIn_wide.2 (cN.out _))).mono ?_; rintro e W2 ⟨rfl, rfl⟩) | (refine ⟨trivial, ?_⟩))
            exact ⟨keeps_set (keeps_below _ h1) _ _, (h1.mono (B' := w.heap.size) (by omega)).setCell (p := ⟨w.heap.size + 1, 0, none⟩) (by simp) _, by rw [hS.out, hO2.out, HM.out, HD.out]; rfl, hb0'.other (by simp) _, by rw [hL.out]; exact hb1'.set _⟩
  case done =>
    rintro D W hD ⟨hm, hb0, hb1⟩ hB hK
    have HM := Lib.hid (show may L = decide (L.length ≤ 16) by unfold may; rw [vals_all] at hm; rw [hm]; rfl)
    clear hm
    have hc0 := hb0.cell
    have hf0 := hb0.frozen
    gi_wp2
    have hb0' := hb0.set (.bool (decide ((L.length : Int) ≤ 16)))
    have hK' := (KeepsOthers.setCell W ⟨w.heap.size, 0, none⟩ (.bool (decide ((L.length : Int) ≤ 16)))).same D _ hK rfl
    refine ⟨by simp, .inl ⟨_, _, rfl, run_takeDeferred hK', ?_⟩⟩
    have hc5 := (boxed_end hb0' hK').cell
    refine ⟨.bool (decide ((L.length : Int) ≤ 16)), ?_, ret1 (boo ?_), below_end ((hB0.trans hB).setCell (p := ⟨w.heap.size, 0, none⟩) (Nat.le_refl _) _) (by omega) hK'⟩
    · simp [results, Try.f39, go_sem, hc5]
    · rw [HM.out]; exact decide_eq_decide.2 (by omega)
  case stop =>
    rintro D c pre W hD hpre ⟨rfl, hm, hb0⟩ hB hK
    have HM := Lib.hid (show may L = false by unfold may; rw [mayTo_prefix (vals_prefix hpre) hm]; rfl)
    clear hm
    gi_wp2
    refine ⟨by simp, .inl ⟨_, _, rfl, run_takeDeferred hK, ?_⟩⟩
    have hc5 := (boxed_end hb0 hK).cell
    refine ⟨.bool false, ?_, ret1 (boo HM.out.symm), below_end (hB0.trans hB) (by omega) hK⟩
    simp [results, Try.f39, go_sem, hc5]
end It
end Go.Proofs.Ytlhpdalfnjhokaa

namespace Go.Proofs.Ytlhpdalfnjhokaa
open Go.RowKit
namespace It
attribute [local go_sem] Oper.semAt_some

def ofStep (good : ByteArray) (s : Int) (x : Item) : Int := if x.1.toList == good.toList then wrap64 (s + x.2) else s
/-- how many of a good, as Go's ints add up -/
def ofSum (good : ByteArray) (l : List Item) : Int := l.foldl (ofStep good) 0
theorem ofSum_snoc (good : ByteArray) (l : List Item) (x : Item) : ofSum good (l ++ [x]) = ofStep good (ofSum good l) x := by simp [ofSum]
def totStep (s : Int) (x : Item) : Int := wrap64 (s + x.2)
def totSum (l : List Item) : Int := l.foldl totStep 0
theorem totSum_snoc (l : List Item) (x : Item) : totSum (l ++ [x]) = totStep (totSum l) x := by simp [totSum]
theorem wrap64_bounds (n : Int) : -9223372036854775808 ≤ wrap64 n ∧ wrap64 n ≤ 9223372036854775807 := by unfold wrap64; omega

theorem vals_in {L : List Item} {pre : List (Of L)} : ∀ x ∈ vals pre, x ∈ L := by
  intro x hx
  obtain ⟨y, _, rfl⟩ := List.mem_map.1 hx
  exact y.2

end It
end Go.Proofs.Ytlhpdalfnjhokaa
