/-
  words for memory: a slice value that reads as a list of cells; append onto a row of the call's own from such a slice.
  items: goods and counts.
  items: lists of items in memory; the iterator All.
  items: a range over All as one law; the walk of May.
  items: the walk of May.
  items: the walks of Of and Total.
  A region that draws its order, each of whose operations only reads what stands before the region, or computes, or calls what answers alike in whatever order: shown once for each operation, at the act that they all end in.
-/
import Derived.Test.YthfpfomifebpbaaRows
import Derived.WalkKit
import Derived.WalkSpells
import Derived.WalkLawsBesides
import Derived.Maps.AppendAt
import Derived.OwnWalkIn
import Derived.Deep.Draws
import Derived.Lib.Hide
import Derived.Laws.RangeAny
import Derived.Deep.QuietTactic
import Derived.BigQuiet
import Derived.RangeFuncNested
import Derived.RangeFuncBound
import Derived.RangeFuncCalls
import Derived.RangeFuncLeaves
import Derived.Shelf.Abstract
import Derived.Shelf.RegionOpen
import Derived.TacticsInMore
import Derived.LoopNIn
import Derived.LoopIn
import Derived.OrdersIn

set_option linter.unusedVariables false
set_option linter.unusedSimpArgs false
namespace Go.Proofs.Ythfpfomifebpbaa
open Go.RowKit

/-- the value v is a slice of n elements, and its cells (size of them an element) are xs, in a block from lo on and below B -/
structure Sl (w : World) (lo B size : Nat) (v : Value) (n : Nat) (xs : List Value) : Prop where
  len : xs.length = n * size
  at_ : ∃ A c, v = .slice A n c ∧ n ≤ c ∧ c ≤ maxLen ∧ (0 < n → ∃ b o, A = some ⟨b, o, none⟩ ∧ lo ≤ b ∧ b < B ∧ ∀ j, j < n * size → w.cell? ⟨b, o + j, none⟩ = xs[j]?)

section
variable {w w' : World} {lo lo' B B' size n : Nat} {v : Value} {xs : List Value}
/-- what was known of the cells of the blocks from lo to B is known still -/
theorem Sl.keep (h : Sl w lo B size v n xs) (hk : ∀ b o, lo ≤ b → b < B → w'.cell? ⟨b, o, none⟩ = w.cell? ⟨b, o, none⟩) : Sl w' lo B size v n xs := by
  refine ⟨h.len, ?_⟩
  obtain ⟨A, c, e, h1, h2, h3⟩ := h.at_
  refine ⟨A, c, e, h1, h2, fun hn => ?_⟩
  obtain ⟨b, o, ea, hl, hb2, hc⟩ := h3 hn
  exact ⟨b, o, ea, hl, hb2, fun j hj => (hk b _ hl hb2).trans (hc j hj)⟩
theorem Sl.wide (h : Sl w lo B size v n xs) (hl : lo' ≤ lo) (hB : B ≤ B') : Sl w lo' B' size v n xs := by
  refine ⟨h.len, ?_⟩
  obtain ⟨A, c, e, h1, h2, h3⟩ := h.at_
  refine ⟨A, c, e, h1, h2, fun hn => ?_⟩
  obtain ⟨b, o, ea, hl', hb2, hc⟩ := h3 hn
  exact ⟨b, o, ea, by omega, by omega, hc⟩
theorem Sl.below (h : Sl w lo B size v n xs) (hb : Below B w w') : Sl w' lo B size v n xs := h.keep fun b o _ h2 => hb.cell (p := ⟨b, o, none⟩) h2
theorem Sl.mono (h : Sl w lo B size v n xs) (hb : Below B w w') (hB : B ≤ B') : Sl w' lo B' size v n xs := (h.below hb).wide (Nat.le_refl _) hB
theorem Sl.grown {row : Option Nat} (h : Sl w lo B size v n xs) (hg : w.grownBy w' row) (hB : B ≤ w.heap.size) (hr : ∀ k, row = some k → k < lo ∨ B ≤ k) : Sl w' lo B size v n xs :=
  h.keep fun b o h1 h2 => World.cell?_of_block (w := w) (hg.block b (by omega) (fun e => by have := hr b e.symm; omega))
theorem Sl.nil (w : World) (lo B size : Nat) : Sl w lo B size (.slice none 0 0) 0 [] := ⟨by simp, none, 0, rfl, by omega, by unfold maxLen; omega, fun h => by omega⟩
theorem Sl.of_own {e : TypeId} (h : w.ownsRow lo e size v n xs) : Sl w lo w.heap.size size v n xs := by
  refine ⟨h.1, ?_⟩
  rcases h.2 with ⟨rfl, rfl⟩ | ⟨g, cap, cur, rfl, hbg, hg, hnc, hcm, hcs, htake⟩
  · exact ⟨none, 0, rfl, by omega, by unfold maxLen; omega, fun h => by omega⟩
  · refine ⟨_, cap, rfl, hnc, hcm, fun _ => ⟨g, 0, rfl, hbg, (Array.getElem?_eq_some_iff.1 hg).1, fun j hj => ?_⟩⟩
    rw [← htake, List.getElem?_take, if_pos hj, Array.getElem?_toList]
    simp [World.cell?, hg]
end

/-- append onto a row of the call's own, from a slice that is known -/
theorem run_append_sl {P : Program} (w : World) (base : Nat) (t ty e : TypeId) (i : TypeInfo) (z : Value) (size bytes : Nat) (ht : P.underlying t = some (.slice e)) (hi : P.info? e = some i) (hz : i.zero = some z)
    (hsize : i.size = size) (hby : i.bytes = bytes) (hzs : z.cells.size = size) (hsz : 0 < size)
    (v : Value) (n : Nat) (xs : List Value) (hown : w.ownsRow base e size v n xs)
    (lo B : Nat) (u : Value) (m : Nat) (ys : List Value) (hu : Sl w lo B size u m ys) (h1 : ∀ y ∈ ys, y.oneCell' = true)
    (h63 : n + m ≤ maxLen) (hbytes : (n + m) * bytes ≤ 140737488355328) (hbase : base ≤ w.heap.size) :
    ∃ v' w', (Builtin.append_ #[t, t] ty #[v, u]).run P w = .ok v' w' ∧ w'.ownsRow base e size v' (n + m) (xs ++ ys) ∧ w.grownBy w' v.ownBlock ∧
      (v'.ownBlock = v.ownBlock ∨ v'.ownBlock = some w.heap.size) := by
  obtain ⟨A, c, rfl, hc1, hc2, hc3⟩ := hu.at_
  rcases Nat.eq_zero_or_pos m with hm | hm
  · subst hm
    obtain rfl : ys = [] := List.eq_nil_of_length_eq_zero (by simpa using hu.len)
    rcases A with _ | ad
    · refine ⟨v, w, ?_, by simpa using hown, World.grownBy.refl w _, .inl rfl⟩
      rcases hown.2 with ⟨rfl, rfl⟩ | ⟨g, cap, cur, rfl, _, _, hnc, _⟩
      · simp [Builtin.append_, run_underlying ht, sizeOf, typeInfo, hi, Builtin.lenOf, Builtin.firstCells]
      · simp [Builtin.append_, run_underlying ht, sizeOf, typeInfo, hi, Builtin.lenOf, Builtin.firstCells, hnc, storeCells]
    · obtain ⟨v', w', q1, q2, q3, _, q5⟩ := run_append_own_at (P := P) w base t ty e i z size bytes ht hi hz hsize hby hzs hsz v n xs hown ad 0 c [] (by simp) (by simp) (by simp) h63 hbytes hbase
      exact ⟨v', w', q1, q2, q3, q5⟩
  · obtain ⟨b, o, rfl, _, _, hc⟩ := hc3 hm
    obtain ⟨v', w', q1, q2, q3, _, q5⟩ := run_append_own_at (P := P) w base t ty e i z size bytes ht hi hz hsize hby hzs hsz v n xs hown ⟨b, o, none⟩ m c ys hu.len
      (fun j y hy => by
        have hj : j < ys.length := (List.getElem?_eq_some_iff.1 hy).1
        have e1 : (⟨b, o, none⟩ : Addr).add j = ⟨b, o + j, none⟩ := by unfold Addr.add; split <;> simp_all
        rw [e1, hc j (by rw [← hu.len]; exact hj), hy]) h1 h63 hbytes hbase
    exact ⟨v', w', q1, q2, q3, q5⟩

section
variable {P : Program} (w : World) {ops : Array Oper} {rest : List Oper} {o : Oper} {a : Act} {Q : Exit → Act → World → Prop}
theorem wpList_append_sl (hgd : o.guard = none) (s x : Operand) (t : TypeId)
    (ho : o.op = .call { callee := .builtin .append, args := #[s, x], argTypes := #[t, t] })
    (base : Nat) (e : TypeId) (i : TypeInfo) (z : Value) (size bytes : Nat) (ht : P.underlying t = some (.slice e)) (hi : P.info? e = some i) (hz : i.zero = some z)
    (hsize : i.size = size) (hby : i.bytes = bytes) (hzs : z.cells.size = size) (hsz : 0 < size)
    (v : Value) (n : Nat) (xs : List Value) (hs : a.eval s = v) (hown : w.ownsRow base e size v n xs)
    (lo B : Nat) (u : Value) (m : Nat) (ys : List Value) (hx : a.eval x = u) (hu : Sl w lo B size u m ys) (h1 : ∀ y ∈ ys, y.oneCell' = true)
    (h63 : n + m ≤ maxLen) (hbytes : (n + m) * bytes ≤ 140737488355328) (hbase : base ≤ w.heap.size)
    (h : ∀ v' w', w'.ownsRow base e size v' (n + m) (xs ++ ys) → w.grownBy w' v.ownBlock → (v'.ownBlock = v.ownBlock ∨ v'.ownBlock = some w.heap.size) → wpList P ops Q rest (a.put o.dst v') w') :
    wpList P ops Q (o :: rest) a w :=
  wpList_plain hgd fun K hK => by
    obtain ⟨v', w', hrun, h2, h3, h4⟩ := run_append_sl (P := P) w base t o.type e i z size bytes ht hi hz hsize hby hzs hsz v n xs hown lo B u m ys hu h1 h63 hbytes hbase
    unfold Oper.wp execOp
    simp only [ho, resolve, invoke, builtin, Sem.run_bind, Sem.run_pure, Result.andThen_ok, List.map_toArray, List.map_cons, List.map_nil, hs, hx, hrun]
    exact hK _ _ (h v' w' h2 h3 h4)
theorem wpListIn_append_sl {F : Fence} {N : Nat} (hgd : o.guard = none) (s x : Operand) (t : TypeId)
    (hop : o.op = .call { callee := .builtin .append, args := #[s, x], argTypes := #[t, t] })
    (base : Nat) (e : TypeId) (i : TypeInfo) (z : Value) (size bytes : Nat) (ht : P.underlying t = some (.slice e)) (hi : P.info? e = some i) (hz : i.zero = some z)
    (hsize : i.size = size) (hby : i.bytes = bytes) (hzs : z.cells.size = size) (hsz : 0 < size)
    (v : Value) (n : Nat) (xs : List Value) (hs : a.eval s = v) (hown : w.ownsRow base e size v n xs)
    (lo B : Nat) (u : Value) (m : Nat) (ys : List Value) (hx : a.eval x = u) (hu : Sl w lo B size u m ys) (h1 : ∀ y ∈ ys, y.oneCell' = true)
    (h63 : n + m ≤ maxLen) (hbytes : (n + m) * bytes ≤ 140737488355328) (hbase : base ≤ w.heap.size)
    (h : ∀ v' w', w'.ownsRow base e size v' (n + m) (xs ++ ys) → w.grownBy w' v.ownBlock → (v'.ownBlock = v.ownBlock ∨ v'.ownBlock = some w.heap.size) → wpListIn F N P ops Q rest (a.put o.dst v') w') :
    wpListIn F N P ops Q (o :: rest) a w :=
  wpListIn_plain hgd fun K hK => by
    obtain ⟨v', w', hrun, h2, h3, h4⟩ := run_append_sl (P := P) w base t o.type e i z size bytes ht hi hz hsize hby hzs hsz v n xs hown lo B u m ys hu h1 h63 hbytes hbase
    unfold Oper.wpIn
    refine ⟨?_, ?_⟩
    · simp [Oper.about, hop, resolve, Target.leads, Sem.run_pure]
    · rw [Oper.semAt_plain F _ _ (by rw [hop]; intro c hc'; cases hc')]
      simp [execOp, hop, resolve, invoke, builtin, hs, hx, hrun, Result.andThen]
      exact hK _ _ (h v' w' h2 h3 h4)
end

/-- a slice of ints -/
def ints (l : List Int) : List Value := l.map (Value.int .i64)
theorem ints_one (l : List Int) : ∀ y ∈ ints l, y.oneCell' = true := by
  intro y hy
  obtain ⟨x, _, rfl⟩ := List.mem_map.1 hy
  rfl
theorem ints_append (a b : List Int) : ints (a ++ b) = ints a ++ ints b := by simp [ints]
theorem ints_length (a : List Int) : (ints a).length = a.length := by simp [ints]
def IntsAt (w : World) (lo B : Nat) (v : Value) (l : List Int) : Prop := Sl w lo B 1 v l.length (ints l)
section
variable {w w' : World} {lo lo' B B' : Nat} {v : Value} {l : List Int}
theorem IntsAt.mono (h : IntsAt w lo B v l) (hb : Below B w w') (hB : B ≤ B') : IntsAt w' lo B' v l := Sl.mono h hb hB
theorem IntsAt.wide (h : IntsAt w lo B v l) (hl : lo' ≤ lo) (hB : B ≤ B') : IntsAt w lo' B' v l := Sl.wide h hl hB
theorem IntsAt.nil (w : World) (lo B : Nat) : IntsAt w lo B (.slice none 0 0) [] := Sl.nil w lo B 1
theorem IntsAt.form (h : IntsAt w lo B v l) :
    ∃ A c, v = .slice A l.length c ∧ l.length ≤ c ∧ c ≤ maxLen ∧ (0 < l.length → ∃ b o, A = some ⟨b, o, none⟩ ∧ lo ≤ b ∧ b < B ∧ ∀ j, j < l.length → w.cell? ⟨b, o + j, none⟩ = some (.int .i64 (l.getD j 0))) := by
  obtain ⟨A, c, e, h1, h2, h3⟩ := h.at_
  refine ⟨A, c, e, h1, h2, fun hn => ?_⟩
  obtain ⟨b, o, ea, hl, hb2, hc⟩ := h3 hn
  refine ⟨b, o, ea, hl, hb2, fun j hj => ?_⟩
  rw [hc j (by omega)]
  simp [ints, hj]
theorem IntsAt.of_own {e : TypeId} {n : Nat} (h : w.ownsRow lo e 1 v n (ints l)) : IntsAt w lo w.heap.size v l := by
  have hn : n = l.length := by have := h.1; simpa [ints] using this.symm
  subst hn
  exact Sl.of_own h
end
theorem IntsAt.cellAt {w : World} {lo B j n c : Nat} {A : Option Addr} {l : List Int} (h : IntsAt w lo B (.slice A n c) l) (hj : j < l.length) :
    ∃ b o, A = some ⟨b, o, none⟩ ∧ lo ≤ b ∧ b < B ∧ w.cell? ⟨b, o + j, none⟩ = some (.int .i64 (l.getD j 0)) := by
  obtain ⟨A', c', e, _, _, h3⟩ := h.form
  cases e
  obtain ⟨b, o, e1, e2, e3, e4⟩ := h3 (by omega)
  exact ⟨b, o, e1, e2, e3, e4 j hj⟩
/-- a slice literal -/
theorem Sl.new (w : World) (cs : Array Value) (t : TypeId) {size n : Nat} (h : cs.size = n * size) (hn : n ≤ maxLen) :
    Sl (w.alloc (.cells cs t)) w.heap.size (w.heap.size + 1) size (.slice (some ⟨w.heap.size, 0, none⟩) n n) n cs.toList := by
  refine ⟨by simpa using h, _, n, rfl, Nat.le_refl _, hn, fun _ => ⟨w.heap.size, 0, rfl, Nat.le_refl _, by omega, fun j _ => ?_⟩⟩
  unfold World.cell?
  rw [heap_alloc_new]
  simp
/-- a new block whose first cells are ints -/
theorem ownsRow_cells {w : World} {lo b n c : Nat} {t : TypeId} {cs : Array Value} {xs : List Int} (h : w.heap[b]? = some (.cells cs t (0, 0))) (hlo : lo ≤ b) (hn : n = xs.length) (h1 : n ≤ c) (h2 : c ≤ maxLen) (hs : cs.size = c)
    (hp : cs.toList.take xs.length = ints xs) : w.ownsRow lo t 1 (.slice (some ⟨b, 0, none⟩) n c) n (ints xs) :=
  ⟨by simp [ints, hn], .inr ⟨b, c, cs, rfl, hlo, h, h1, h2, by simpa using hs, by rw [hn, Nat.mul_one]; exact hp⟩⟩
theorem heap_one (w : World) (o : Obj) : (w.alloc o).heap[w.heap.size]? = some o := heap_alloc_new w o
theorem heap_two (w : World) (o o2 : Obj) : ((w.alloc o).alloc o2).heap[w.heap.size + 1]? = some o2 := by
  have := heap_alloc_new (w.alloc o) o2; rwa [World.size_alloc] at this
theorem heap_three (w : World) (o o2 o3 : Obj) : (((w.alloc o).alloc o2).alloc o3).heap[w.heap.size + 1 + 1]? = some o3 := by
  have := heap_alloc_new ((w.alloc o).alloc o2) o3; rwa [World.size_alloc, World.size_alloc] at this
theorem heap_two_one (w : World) (o o2 : Obj) : ((w.alloc o).alloc o2).heap[w.heap.size]? = some o :=
  (Below.heap_alloc _ _ _ (by simp)).trans (heap_one w o)

theorem only_of_below {a w : World} (h : Below a.heap.size a w) (row : Option Nat) : a.grownBy w row := ⟨h.os, h.tape, h.output, h.size, fun i hi _ => h.block i hi⟩
theorem ownsRow_below {w w' : World} {lo : Nat} {e size n} {v : Value} {xs : List Value} (h : w.ownsRow lo e size v n xs) (hb : Below w.heap.size w w') : w'.ownsRow lo e size v n xs :=
  h.kept (only_of_below hb none) (by cases hv : v.ownBlock <;> simp)

theorem ret1 {a b : Value} (h : a = b) : Ending.returned a = .returned b := by rw [h]
theorem ret2 {a b : Value} {c d : Value} (h1 : a = c) (h2 : b = d) : Ending.returned (.tuple #[a, b]) = .returned (.tuple #[c, d]) := by rw [h1, h2]
theorem ret3 {a b a' b' c d : Value} (h1 : a = c) (h2 : b = d) (h3 : a' = b') : Ending.returned (.tuple #[a, b, a']) = .returned (.tuple #[c, d, b']) := by rw [h1, h2, h3]
theorem num {a b : Int} (h : a = b) : Value.int .i64 a = .int .i64 b := by rw [h]
theorem boo {a b : Bool} (h : a = b) : Value.bool a = .bool b := by rw [h]
theorem snoc_all {p : Nat → Prop} {k : Nat} (h : ∀ j, j < k → p j) (hk : p k) : ∀ j, j < k + 1 → p j := fun j hj => by
  rcases Nat.lt_or_ge j k with h1 | h1
  · exact h j h1
  · obtain rfl : j = k := by omega
    exact hk
end Go.Proofs.Ythfpfomifebpbaa

namespace Go.Proofs.Ythfpfomifebpbaa
open Go.RowKit
namespace It

def okB (c : UInt8) : Bool := decide (97 ≤ c.toNat ∧ c.toNat ≤ 122) || decide (48 ≤ c.toNat ∧ c.toNat ≤ 57) || decide (c.toNat = 45)
def good (s : ByteArray) : Bool := s.data.toList.all okB && decide (1 ≤ s.size) && decide (s.size ≤ 16)
def countOk (n : Int) : Bool := decide (0 ≤ n) && decide (n ≤ 1099511627776)

theorem okB_cases (n : Nat) : n < 45 ∨ n = 45 ∨ (45 < n ∧ n < 48) ∨ (48 ≤ n ∧ n ≤ 57) ∨ (57 < n ∧ n < 97) ∨ (97 ≤ n ∧ n ≤ 122) ∨ 122 < n := by omega
theorem good_no {s : ByteArray} {k : Nat} (hk : k < s.size) (h : okB s[k] = false) : good s = false := by
  unfold good
  have : s.data.toList.all okB = false := by
    rw [List.all_eq_false]
    refine ⟨s[k], ?_, by simp [h]⟩
    exact Array.mem_toList_iff.2 (Array.getElem_mem hk)
  rw [this]; rfl
theorem good_all {s : ByteArray} (h : ∀ j, (hj : j < s.size) → okB s[j] = true) : good s = (decide (1 ≤ s.size) && decide (s.size ≤ 16)) := by
  unfold good
  have : s.data.toList.all okB = true := by
    rw [List.all_eq_true]
    intro x hx
    obtain ⟨i, hi, rfl⟩ := List.getElem_of_mem hx
    exact h i (by simpa using hi)
  rw [this]; rfl

theorem len_tests (n : Nat) : (!decide (n = 0) && decide ((n : Int) ≤ 16)) = (decide (1 ≤ n) && decide (n ≤ 16)) := by
  rw [Bool.eq_iff_iff]
  simp only [Bool.and_eq_true, Bool.not_eq_true', decide_eq_false_iff_not, decide_eq_true_eq]
  omega
theorem empty_iff (s : ByteArray) : s.toList.isEmpty = decide (s.size = 0) := by
  rw [ByteArray.toList_eq, Bool.eq_iff_iff]
  simp [← ByteArray.size_data]
set_option maxHeartbeats 1000000 in
theorem good_calls (s : ByteArray) (w : World) (hs : s.size ≤ maxLen) :
    Calls Try.prog 68 #[.string s] w fun e w' => e = .returned (.bool (good s)) ∧ Below w.heap.size w w' := by
  unfold maxLen at hs
  have HNo := Lib.hid (fun k hk h => @good_no s k hk h)
  have HAll := Lib.hid (@good_all s)
  generalize good s = g at *
  have hni := fun (pos : Nat) (ty : TypeId) (h : pos < s.size) => run_next_any (P := Try.prog) w s pos ty h
  go_enter Try.func68, Try.ntmps68
  go_wp2
  go_loopw [4] (fun _ wr => ∃ k : Nat, k ≤ s.size ∧ wr = w.iter s k ∧ ∀ j, (hj : j < s.size) → j < k → okB s[j] = true) (fun _ wr => s.size - wr.iterPos w.heap.size)
  case atStart => exact ⟨0, by omega, rfl, fun j hj h => by omega⟩
  case round =>
    obtain ⟨k, hk, rfl, hN⟩ := hrel
    have HN := Lib.hid hN
    clear hN
    by_cases hlt : k < s.size
    · by_cases ha : (s[k]'hlt).toNat < 128
      · have hn := fun ty => hni k ty hlt
        rw [decode_ascii s k hlt ha] at hn
        have HB := Lib.hid (show okB (s[k]'hlt) = (decide (97 ≤ (s[k]'hlt).toNat ∧ (s[k]'hlt).toNat ≤ 122) || decide (48 ≤ (s[k]'hlt).toNat ∧ (s[k]'hlt).toNat ≤ 57) || decide ((s[k]'hlt).toNat = 45)) from rfl)
        have HC := Lib.hid (fun h => HNo.out k hlt h)
        have HD := Lib.hid (fun (h : okB (s[k]'hlt) = true) => show ∀ j, (hj : j < s.size) → j < k + 1 → okB s[j] = true from fun j hj hjk => by
          rcases Nat.lt_or_ge j k with h1 | h1
          · exact HN.out j hj h1
          · obtain rfl : j = k := by omega
            exact h)
        generalize okB (s[k]'hlt) = ob at *
        generalize (s[k]'hlt).toNat = n at *
        clear hni
        rcases okB_cases n with h | h | h | h | h | h | h
        all_goals try subst h
        case inr.inl | inr.inr.inr.inl | inr.inr.inr.inr.inr.inl =>
          have HT : ob = true := by rw [HB.out]; simp; try omega
          have HT2 := Lib.hid (HD.out HT)
          clear HT
          go_wp2
          go_roundw
          case rel => exact ⟨k + 1, by omega, rfl, HT2.out⟩
          case measure => simp; omega
        all_goals
          have HT : ob = false := by rw [HB.out]; simp; try omega
          have HT2 := Lib.hid (HC.out HT)
          clear HT
          have hne : ((n : Int) != 45) = true := by rw [bne_iff_ne]; omega
          go_wp2
          go_ret
          exact ⟨ret1 (boo HT2.out.symm), (Below.refl _ w).alloc (Nat.le_refl _) _⟩
      · have hn := fun ty => hni k ty hlt
        have hd := (decode_high s k hlt (by omega)).1
        have hd2 := decode_le s k
        have HB := Lib.hid (show okB (s[k]'hlt) = false by
          unfold okB
          simp only [Bool.or_eq_false_iff, decide_eq_false_iff_not]
          omega)
        have HT2 := Lib.hid (HNo.out k hlt HB.out)
        generalize (Utf8.decode s k).1 = r at *
        generalize (Utf8.decode s k).2 = q at *
        clear hni
        have hne : ((r : Int) != 45) = true := by rw [bne_iff_ne]; omega
        go_wp2
        go_ret
        exact ⟨ret1 (boo HT2.out.symm), (Below.refl _ w).alloc (Nat.le_refl _) _⟩
    · obtain rfl : k = s.size := by omega
      have hn := fun ty => run_next_end (P := Try.prog) w s s.size ty (by omega)
      have HT2 := Lib.hid (HAll.out (fun j hj => HN.out j hj hj))
      clear hni
      have HE := Lib.hid (empty_iff s)
      go_wp2
      · have h0 : s.toList = [] := by assumption
        go_ret
        refine ⟨ret1 (boo ?_), (Below.refl _ w).alloc (Nat.le_refl _) _⟩
        have h1 := HE.out
        rw [h0] at h1
        have h2 : s.size = 0 := by simpa using h1
        rw [HT2.out, h2]; rfl
      · go_ret
        refine ⟨ret1 (boo ?_), (Below.refl _ w).alloc (Nat.le_refl _) _⟩
        show (!s.toList.isEmpty && decide ((s.size : Int) ≤ 16)) = g
        rw [HE.out, HT2.out]
        exact len_tests _

set_option maxHeartbeats 1000000 in
theorem refgood_calls (s : ByteArray) (w : World) (hs : s.size ≤ maxLen) :
    Calls Try.prog 85 #[.string s] w fun e w' => e = .returned (.bool (good s)) ∧ w = w' := by
  unfold maxLen at hs
  have HNo := Lib.hid (fun k hk h => @good_no s k hk h)
  have HAll := Lib.hid (@good_all s)
  generalize good s = g at *
  go_enter Try.func85, Try.ntmps85
  go_wp2
  go_loop [3] (fun i => ∃ k : Nat, k ≤ s.size ∧ i = .int .i64 k ∧ ∀ j, (hj : j < s.size) → j < k → okB s[j] = true) (fun i => s.size - (intOf i).toNat)
  case atStart => exact ⟨0, by omega, rfl, fun j hj h => by omega⟩
  case round =>
    obtain ⟨k, hk, rfl, hN⟩ := hrel
    have HN := Lib.hid hN
    clear hN
    by_cases hlt : k < s.size
    · have HB := Lib.hid (show okB (s[k]'hlt) = (decide (97 ≤ (s[k]'hlt).toNat ∧ (s[k]'hlt).toNat ≤ 122) || decide (48 ≤ (s[k]'hlt).toNat ∧ (s[k]'hlt).toNat ≤ 57) || decide ((s[k]'hlt).toNat = 45)) from rfl)
      have HC := Lib.hid (fun h => HNo.out k hlt h)
      have HD := Lib.hid (fun (h : okB (s[k]'hlt) = true) => show ∀ j, (hj : j < s.size) → j < k + 1 → okB s[j] = true from fun j hj hjk => by
        rcases Nat.lt_or_ge j k with h1 | h1
        · exact HN.out j hj h1
        · obtain rfl : j = k := by omega
          exact h)
      have hnb := (s[k]'hlt).toNat_lt
      generalize okB (s[k]'hlt) = ob at *
      rcases okB_cases (s[k]'hlt).toNat with h | h | h | h | h | h | h
      case inr.inl =>
        have HT : ob = true := by rw [HB.out, h]; rfl
        have HT2 := Lib.hid (HD.out HT)
        clear HT
        go_wp2
        go_round
        case rel => exact ⟨k + 1, by omega, by go_num, HT2.out⟩
        case measure => simp [intOf]; omega
      case inr.inr.inr.inl | inr.inr.inr.inr.inr.inl =>
        have HT : ob = true := by rw [HB.out]; simp; try omega
        have HT2 := Lib.hid (HD.out HT)
        clear HT
        go_wp2
        go_round
        case rel => exact ⟨k + 1, by omega, by go_num, HT2.out⟩
        case measure => simp [intOf]; omega
      all_goals
        have HT : ob = false := by rw [HB.out]; simp; try omega
        have HT2 := Lib.hid (HC.out HT)
        clear HT
        have hne : (((s[k]'hlt).toNat : Int) == 45) = false := by rw [beq_eq_false_iff_ne]; omega
        go_wp2
        all_goals first
          | (go_ret; exact ⟨ret1 (boo HT2.out.symm), rfl⟩)
          | (exfalso; simp at *; omega)
    · obtain rfl : k = s.size := by omega
      have HT2 := Lib.hid (HAll.out (fun j hj => HN.out j hj hj))
      by_cases h1 : 1 ≤ s.size
      · go_wp2
        go_ret
        exact ⟨ret1 (boo (by rw [HT2.out, decide_eq_true h1, Bool.true_and]; exact decide_eq_decide.2 (by omega))), rfl⟩
      · go_wp2
        go_ret
        exact ⟨ret1 (boo (by rw [HT2.out, decide_eq_false h1]; rfl)), rfl⟩

theorem countOk_no {n : Int} (h : ¬ (0 ≤ n ∧ n ≤ 1099511627776)) : countOk n = false := by
  unfold countOk
  by_cases h1 : 0 ≤ n
  · rw [decide_eq_false (p := n ≤ 1099511627776) (by omega)]; simp
  · rw [decide_eq_false h1]; rfl
set_option maxHeartbeats 400000 in
theorem count_calls (n : Int) (w : World) :
    Calls Try.prog 69 #[.int .i64 n] w fun e w' => e = .returned (.bool (countOk n)) ∧ w = w' := by
  have HO := Lib.hid (show countOk n = (decide (0 ≤ n) && decide (n ≤ 1099511627776)) from rfl)
  by_cases h1 : 0 ≤ n
  all_goals
    go_enter Try.func69, Try.ntmps69
    go_wp2
    go_ret
    first
      | exact ⟨ret1 (boo (countOk_no (by omega)).symm), rfl⟩
      | exact ⟨ret1 (boo (by rw [HO.out, decide_eq_true h1]; rfl)), rfl⟩
set_option maxHeartbeats 400000 in
theorem refcount_calls (n : Int) (w : World) :
    Calls Try.prog 86 #[.int .i64 n] w fun e w' => e = .returned (.bool (countOk n)) ∧ w = w' := by
  have HO := Lib.hid (show countOk n = (decide (0 ≤ n) && decide (n ≤ 1099511627776)) from rfl)
  by_cases h1 : 0 ≤ n
  all_goals
    go_enter Try.func86, Try.ntmps86
    go_wp2
    go_ret
    first
      | exact ⟨ret1 (boo (countOk_no (by omega)).symm), rfl⟩
      | exact ⟨ret1 (boo (by rw [HO.out, decide_eq_true h1]; rfl)), rfl⟩
end It
end Go.Proofs.Ythfpfomifebpbaa

namespace Go.Proofs.Ythfpfomifebpbaa
open Go.RowKit
namespace It

attribute [local go_sem] Oper.semAt_some

abbrev Item := ByteArray × Int
def itemCells (l : List Item) : List Value := l.flatMap fun x => [.string x.1, .int .i64 x.2]
theorem itemCells_length (l : List Item) : (itemCells l).length = l.length * 2 := by
  induction l with
  | nil => rfl
  | cons x r ih => simp only [itemCells, List.flatMap_cons, List.length_append, List.length_cons, List.length_nil] at ih ⊢; omega
theorem itemCells_append (a b : List Item) : itemCells (a ++ b) = itemCells a ++ itemCells b := by simp [itemCells]
theorem itemCells_one (l : List Item) : ∀ y ∈ itemCells l, y.oneCell' = true := by
  intro y hy
  obtain ⟨x, _, hx⟩ := List.mem_flatMap.1 hy
  simp only [List.mem_cons, List.not_mem_nil, or_false] at hx
  rcases hx with rfl | rfl <;> rfl
theorem itemCells_get : ∀ (l : List Item) (j : Nat) (hj : j < l.length), (itemCells l)[j * 2]? = some (.string l[j].1) ∧ (itemCells l)[j * 2 + 1]? = some (.int .i64 l[j].2)
  | [], j, hj => absurd hj (by simp)
  | x :: r, 0, _ => by simp [itemCells]
  | x :: r, j + 1, hj => by
    have h := itemCells_get r j (by simpa using hj)
    have e1 : (j + 1) * 2 = j * 2 + 1 + 1 := by omega
    have e2 : (j + 1) * 2 + 1 = j * 2 + 1 + 1 + 1 := by omega
    rw [e1]
    simp only [itemCells, List.flatMap_cons, List.cons_append, List.nil_append, List.getElem?_cons_succ, List.getElem_cons_succ]
    exact h
/-- a slice of items -/
def ItemsAt (w : World) (lo B : Nat) (v : Value) (l : List Item) : Prop := Sl w lo B 2 v l.length (itemCells l)
section
variable {w w' : World} {lo lo' B B' : Nat} {v : Value} {l : List Item}
theorem ItemsAt.below (h : ItemsAt w lo B v l) (hb : Below B w w') : ItemsAt w' lo B v l := Sl.below h hb
theorem ItemsAt.mono (h : ItemsAt w lo B v l) (hb : Below B w w') (hB : B ≤ B') : ItemsAt w' lo B' v l := Sl.mono h hb hB
theorem ItemsAt.wide (h : ItemsAt w lo B v l) (hl : lo' ≤ lo) (hB : B ≤ B') : ItemsAt w lo' B' v l := Sl.wide h hl hB
theorem ItemsAt.nil (w : World) (lo B : Nat) : ItemsAt w lo B (.slice none 0 0) [] := Sl.nil w lo B 2
theorem ItemsAt.form (h : ItemsAt w lo B v l) : ∃ A c, v = .slice A l.length c ∧ l.length ≤ c ∧ c ≤ maxLen := by
  obtain ⟨A, c, e, h1, h2, _⟩ := h.at_
  exact ⟨A, c, e, h1, h2⟩
theorem ItemsAt.cellAt {A : Option Addr} {n c j : Nat} (h : ItemsAt w lo B (.slice A n c) l) (hj : j < l.length) :
    ∃ b o, A = some ⟨b, o, none⟩ ∧ lo ≤ b ∧ b < B ∧ w.cell? ⟨b, o + j * 2, none⟩ = some (.string l[j].1) ∧ w.cell? ⟨b, o + j * 2 + 1, none⟩ = some (.int .i64 l[j].2) := by
  obtain ⟨A', c', e, _, _, h3⟩ := h.at_
  cases e
  obtain ⟨b, o, e1, e2, e3, e4⟩ := h3 (by omega)
  obtain ⟨g1, g2⟩ := itemCells_get l j hj
  exact ⟨b, o, e1, e2, e3, (e4 (j * 2) (by omega)).trans g1, (e4 (j * 2 + 1) (by omega)).trans g2⟩
theorem ItemsAt.of_own {e : TypeId} {n : Nat} (h : w.ownsRow lo e 2 v n (itemCells l)) : ItemsAt w lo w.heap.size v l := by
  have hn : n = l.length := by have := h.1; rw [itemCells_length] at this; omega
  subst hn
  exact Sl.of_own h
end

/-- an item of a list -/
abbrev Of (l : List Item) := { x : Item // x ∈ l }
def enc2 {l : List Item} (x : Of l) : Array Value := #[.string x.1.1, .int .i64 x.1.2]
/-- the first k items -/
def firsts (l : List Item) (k : Nat) : List (Of l) := l.attach.take k
theorem firsts_succ (l : List Item) (k : Nat) (h : k < l.length) : firsts l (k + 1) = firsts l k ++ [⟨l[k], List.getElem_mem h⟩] := by
  unfold firsts
  rw [List.take_succ_eq_append_getElem (by simpa using h)]
  simp
theorem firsts_length (l : List Item) (k : Nat) (h : k ≤ l.length) : (firsts l k).length = k := by
  unfold firsts; simp [h]
theorem firsts_all (l : List Item) : firsts l l.length = l.attach := by
  unfold firsts; rw [List.take_of_length_le (by simp)]

set_option maxRecDepth 100000 in
set_option maxHeartbeats 2000000 in
theorem all1_in (F : Fence) (n : Nat) (hf : F.fn 87) (hro : F.round = none) (hn : 1 ≤ n) (l Bs n₀ c : Nat) (A : Option Addr) (L : List Item) (hc1 : L.length ≤ c) (hc2 : c ≤ maxLen) (J Jx : List (Of L) → World → Prop)
    (W : World) (hn₀ : n₀ ≤ W.heap.size) (hJ : AbidesFrom W.heap.size J)
    (hY : ∀ pre x W, J pre W → pre.length < L.length → YieldAt F (n - 1) Try.prog l (enc2 x) W fun e W' =>
      (e = .returned (.bool true) ∧ J (pre ++ [x]) W' ∧ Below n₀ W W') ∨ (e = .returned (.bool false) ∧ Jx (pre ++ [x]) W'))
    (hBs : W.cell? ⟨Bs, 0, none⟩ = some (.slice A L.length c)) (hI : ItemsAt W 0 n₀ (.slice A L.length c) L) (h0 : J [] W) :
    CallsIn F n Try.prog 87 #[.func (.yield l) #[] #[], .pointer (some ⟨Bs, 0, none⟩)] W fun e W' => (∃ v, e = .returned v) ∧
      ((∃ ys, ys = L.attach ∧ J ys W') ∨ (∃ pre, pre <+: L.attach ∧ Jx pre W')) := by
  unfold maxLen at hc2
  refine callsIn_of_wp Try.func87 rfl hf ?_ hro
  simp only [Try.ntmps87, List.size_toArray, List.length_cons, List.length_nil, Nat.reduceAdd, Nat.reduceSub, Array.replicate_succ, Array.replicate_zero, List.push_toArray, List.append_toArray, List.nil_append, List.cons_append]
  gi_wp2
  gi_loopw [4, 7] (fun _ i wr => ∃ k : Nat, k ≤ L.length ∧ i = .int .i64 k ∧ J (firsts L k) wr ∧ Below n₀ W wr) (fun _ i _ => L.length - (intOf i).toNat)
  case atStart => exact ⟨0, by omega, rfl, h0, Below.refl _ _⟩
  case round =>
    obtain ⟨k, hk, rfl, hJs, hb⟩ := hrel
    by_cases hlt : k < L.length
    · obtain ⟨b, o, rfl, _, hbn, hs, hi⟩ := (hI.below hb).cellAt hlt
      have hsz : n₀ ≤ wr.heap.size := by have := hb.size; omega
      have hJ' : J (firsts L k) (wr.alloc (.cells #[.string L[k].1, .int .i64 L[k].2] 41)) := hJ _ _ _ none hJs (World.grownBy_alloc _ _ none) (fun r e => by cases e)
      obtain ⟨fn, tmps, assign, body, hy, hR⟩ := hY _ ⟨L[k], List.getElem_mem hlt⟩ _ hJ' (by rw [firsts_length _ _ hk]; exact hlt)
      dsimp only [enc2] at hy
      gi_wp2
      refine hR.mono ?_
      rintro e W3 (⟨rfl, hJ3, hk3⟩ | ⟨rfl, hJx3⟩)
      · gi_wp2
        go_roundw
        case rel => exact ⟨k + 1, by omega, by go_num, by rw [firsts_succ L k hlt]; exact hJ3, hb.trans (((Below.refl _ wr).alloc hsz _).trans hk3)⟩
        case measure => simp [intOf]; omega
      · gi_wp2
        refine bodyPost_ret (results_none rfl _ _ _) rfl ?_
        exact ⟨⟨_, rfl⟩, .inr ⟨_, by rw [← firsts_succ L k hlt]; exact List.take_prefix _ _, hJx3⟩⟩
    · obtain rfl : k = L.length := by omega
      gi_wp2
      go_end0
      exact ⟨⟨_, rfl⟩, .inl ⟨_, rfl, by rw [← firsts_all]; exact hJs⟩⟩

/-- items.All: the slice is boxed, the function value captures the box -/
theorem all_calls (A : Option Addr) (n c : Nat) (w : World) :
    Calls Try.prog 67 #[.slice A n c] w fun e w' => e = .returned (.func (.func 87) #[] #[.pointer (some ⟨w.heap.size, 0, none⟩)]) ∧ w.alloc (.cells #[.slice A n c] 22) = w' := by
  go_enter Try.func67, Try.ntmps67
  go_wp2
  go_ret
  exact ⟨rfl, rfl⟩

/-- items.All hands back an iterator over the list -/
theorem all_stops (F : Fence) (n : Nat) (hf : F.fn 87) (hro : F.round = none) (hn : 1 ≤ n) (Bs n₀ : Nat) (v : Value) (L : List Item) (w : World) (hBs : Bs < w.heap.size) (hn₀ : n₀ ≤ w.heap.size)
    (hc : w.cell? ⟨Bs, 0, none⟩ = some v) (hI : ItemsAt w 0 n₀ v L) :
    SeqStopsK F n Try.prog 87 #[.pointer (some ⟨Bs, 0, none⟩)] (enc2 (l := L)) (Below n₀) (fun ys => ys = L.attach) (fun pre => pre <+: L.attach) L.length w := fun l J Jx W hW hJ _ hY h0 => by
  obtain ⟨A, c, rfl, h1, h2⟩ := hI.form
  exact all1_in F n hf hro hn l Bs n₀ c A L h1 h2 J Jx W (Nat.le_trans hn₀ hW.size) hJ hY ((hW.cell (p := ⟨Bs, 0, none⟩) hBs).trans hc) (hI.below (hW.mono hn₀)) h0
end It
end Go.Proofs.Ythfpfomifebpbaa

namespace Go.Proofs.Ythfpfomifebpbaa
open Go.RowKit
namespace It
attribute [local go_sem] Oper.semAt_some

/-- how the body of a round may be left -/
def rpost {α : Type} (B n₀ : Nat) (C : List α → World → Prop) (Cx : Code → List α → World → Prop) (xs : List α) (W : World) : Exit → Act → World → Prop
  | .normal, _, W' => KeepsFrom B W W' ∧ Below n₀ W W' ∧ C xs W'
  | .ret, _, W' => KeepsFrom B W W' ∧ Below n₀ W W' ∧ Cx .ret xs W'
  | .exit id, _, W' => KeepsFrom B W W' ∧ Below n₀ W W' ∧ Cx (.exit id) xs W'
  | .goto t, _, W' => KeepsFrom B W W' ∧ Below n₀ W W' ∧ Cx (.goto t) xs W'
  | .panic _, _, _ => False
  | .outgrown, _, _ => False

/-- 'for good, n := range items.All(l) { .. }': what was below n₀ stays; C says what the call's own cells hold between two rounds -/
theorem range_all {F : Fence} {n : Nat} {g : Operand} {ps : Array Tmp} {assign body : Code} {Q : Exit → Act → World → Prop} {a : Act} {w : World}
    (hro : F.round = none) (hf : F.fn 87) (hn : 2 ≤ n) {Bs n₀ : Nat} {v : Value} {L : List Item} (hg : a.eval g = .func (.func 87) #[] #[.pointer (some ⟨Bs, 0, none⟩)]) (hps : ps.size = 2)
    (hBs : Bs < w.heap.size) (hn₀ : n₀ ≤ w.heap.size) (hc : w.cell? ⟨Bs, 0, none⟩ = some v) (hI : ItemsAt w 0 n₀ v L)
    (C : List (Of L) → World → Prop) (Cx : Code → List (Of L) → World → Prop) (hC : OwnFrom w.heap.size C) (hCx : ∀ c, OwnFrom w.heap.size (Cx c)) (h0 : C [] w) (a₁ : Of L → Act)
    (hassign : ∀ (l : Nat) (x : Of L) (W : World) (K : Act → World → Prop), K (a₁ x) W →
      assign.wpIn (F.inRound l) (n - 1 - 1) Try.prog (Exit.then K (fun _ _ _ => False)) { tmps := (ps.zip (enc2 x)).foldl (fun t (p, v) => t.setIfInBounds p v) a.tmps, defers := [] } W)
    (hbody : ∀ (l : Nat) (pre : List (Of L)) (x : Of L) (W : World), C pre W → Below n₀ w W → w.heap.size ≤ W.heap.size → pre.length < L.length → body.wpIn (F.inRound l) (n - 1 - 1) Try.prog (rpost w.heap.size n₀ C Cx (pre ++ [x]) W) (a₁ x) W)
    (hdone : ∀ (D : Nat) (W : World), w.heap.size ≤ D → C L.attach W → Below n₀ w W → W.heap[D]? = some (.deferred (some [])) → Q .normal { a with defers := { target := .collected D, args := #[] } :: a.defers } W)
    (hstop : ∀ (D : Nat) (c : Code) (pre : List (Of L)) (W : World), w.heap.size ≤ D → pre <+: L.attach → Cx c pre W → Below n₀ w W → W.heap[D]? = some (.deferred (some [])) → c.wpIn F n Try.prog Q { a with defers := { target := .collected D, args := #[] } :: a.defers } W) :
    (Code.rangeFunc g ps assign body).wpIn F n Try.prog Q a w :=
  wpIn_rangeFunc_ownG hro (by omega) hg hf (enters_of Try.func87 (by kernel_rfl) rfl)
    (all_stops F (n - 1) hf hro (by omega) Bs n₀ v L w hBs hn₀ hc hI) belowK_t (belowK_b hn₀) (Below.refl _ _) (fun _ => hps.symm)
    (fun pre W => C pre W ∧ Below n₀ w W) (fun c pre W => Cx c pre W ∧ Below n₀ w W)
    (OwnFrom.and hC (ownFrom_below hn₀ hn₀)) (fun c => OwnFrom.and (hCx c) (ownFrom_below hn₀ hn₀))
    ⟨h0, Below.refl _ _⟩ a₁ hassign
    (fun l pre x W ⟨hc, hb⟩ hl => wpIn_mono (hbody l pre x W hc hb hb.size hl) (fun e a' W' h => by
      cases e with
      | normal => exact ⟨h.1, h.2.1, h.2.2, hb.trans h.2.1⟩
      | ret => exact ⟨h.1, h.2.2, hb.trans h.2.1⟩
      | exit id => exact ⟨h.1, h.2.2, hb.trans h.2.1⟩
      | goto t => exact ⟨h.1, h.2.2, hb.trans h.2.1⟩
      | panic ch => exact h.elim
      | outgrown => exact h.elim))
    (fun D xs W hD hS ⟨hc, hb⟩ hK => by subst hS; exact hdone D W hD hc hb hK)
    (fun D c pre W hD hp ⟨hc, hb⟩ hK => hstop D c pre W hD hp hc hb hK)
theorem boxed_keep {A B : World} {row : Option Nat} {b : Nat} {t : TypeId} {v : Value} (h : Boxed A b t v) (hg : A.grownBy B row) (hr : ∀ r, row = some r → ∃ o : Obj, A.heap[r]? = some o ∧ o.isCells = false) : Boxed B b t v :=
  boxed_own b t (fun _ : Unit => v) () A B row h hg hr
theorem row_keep {A B : World} {row : Option Nat} {lo : Nat} {e : TypeId} {size n : Nat} {v : Value} {xs : List Value} (h : A.ownsRow lo e size v n xs) (hg : A.grownBy B row) (hr : ∀ r, row = some r → ∃ o : Obj, A.heap[r]? = some o ∧ o.isCells = false) : B.ownsRow lo e size v n xs := by
  refine h.kept hg ?_
  cases hv : v.ownBlock with
  | none => exact .inl rfl
  | some g =>
    refine .inr fun e => ?_
    obtain ⟨o, ho, hc⟩ := hr g e.symm
    rcases h.2 with ⟨rfl, _⟩ | ⟨g', cap, cur, rfl, _, hg', _⟩
    · simp [Value.ownBlock] at hv
    · simp [Value.ownBlock] at hv
      subst hv
      rw [hg'] at ho
      cases ho
      cases hc
theorem boxed_below {A B : World} {b : Nat} {t : TypeId} {v : Value} (h : Boxed A b t v) (hb : Below A.heap.size A B) : Boxed B b t v := (hb.block b h.lt).trans h
theorem keeps_below {A B : World} (n : Nat) (hb : Below A.heap.size A B) : KeepsFrom n A B :=
  ⟨hb.size, fun k _ _ hk _ => (hb.block k (Array.getElem?_eq_some_iff.1 hk).1).trans hk⟩
theorem keeps_set {A B : World} {n : Nat} (h : KeepsFrom n A B) (a : Addr) (v : Value) : KeepsFrom n A (B.setCell a v) := h.trans ((KeepsOthers.setCell _ _ _).from _)
/-- behind the function's return: the block of the rounds' deferred calls is let go -/
theorem boxed_end {W : World} {D b : Nat} {t : TypeId} {v : Value} (h : Boxed W b t v) (hK : W.heap[D]? = some (.deferred (some []))) : Boxed (W.putObj D (.deferred none)) b t v :=
  boxed_keep h (grownBy_putObj' _ D (.deferred none)) (fun r e => by cases e; exact ⟨_, hK, rfl⟩)
theorem below_end {w W : World} {D : Nat} (h : Below w.heap.size w W) (hD : w.heap.size ≤ D) (hK : W.heap[D]? = some (.deferred (some []))) : Below w.heap.size w (W.putObj D (.deferred none)) :=
  h.trans (belowK_b (w := w) (Nat.le_refl _) W D _ _ hD hK rfl rfl)
end It
end Go.Proofs.Ythfpfomifebpbaa

namespace Go.Proofs.Ythfpfomifebpbaa
open Go.RowKit
namespace It
attribute [local go_sem] Oper.semAt_some

/-- every text and every number is one that a program can hold -/
def Fits (l : List Item) : Prop := ∀ x ∈ l, x.1.size ≤ maxLen ∧ -9223372036854775808 ≤ x.2 ∧ x.2 ≤ 9223372036854775807
def strLe (a b : ByteArray) : Bool := Op.bytesLess a.toList b.toList || a.toList == b.toList
def okItem (x : Item) (last : ByteArray) : Bool := good x.1 && decide (1 ≤ x.2) && countOk x.2 && !strLe x.1 last
def mayTo (last : ByteArray) : List Item → Bool
  | [] => true
  | x :: r => okItem x last && mayTo x.1 r
def lastOf (last : ByteArray) : List Item → ByteArray
  | [] => last
  | x :: r => lastOf x.1 r
def may (l : List Item) : Bool := mayTo ⟨#[]⟩ l && decide (l.length ≤ 16)
theorem mayTo_snoc (last : ByteArray) (l : List Item) (x : Item) : mayTo last (l ++ [x]) = (mayTo last l && okItem x (lastOf last l)) := by
  induction l generalizing last with
  | nil => simp [mayTo, lastOf]
  | cons y r ih => simp only [List.cons_append, mayTo, lastOf, ih, Bool.and_assoc]
theorem lastOf_snoc (last : ByteArray) (l : List Item) (x : Item) : lastOf last (l ++ [x]) = x.1 := by
  induction l generalizing last with
  | nil => rfl
  | cons y r ih => simp only [List.cons_append, lastOf, ih]
theorem mayTo_prefix {last : ByteArray} {p l : List Item} (h : p <+: l) (hp : mayTo last p = false) : mayTo last l = false := by
  obtain ⟨r, rfl⟩ := h
  induction p generalizing last with
  | nil => cases hp
  | cons x p ih =>
    simp only [List.cons_append, mayTo] at hp ⊢
    cases h1 : okItem x last with
    | false => rfl
    | true => rw [h1] at hp; simp only [Bool.true_and] at hp ⊢; exact ih hp
/-- the items behind those of a list that came -/
def vals {L : List Item} (pre : List (Of L)) : List Item := pre.map (·.1)
theorem vals_snoc {L : List Item} (pre : List (Of L)) (x : Of L) : vals (pre ++ [x]) = vals pre ++ [x.1] := by simp [vals]
theorem vals_all (L : List Item) : vals L.attach = L := List.attach_map_subtype_val L
theorem vals_prefix {L : List Item} {pre : List (Of L)} (h : pre <+: L.attach) : vals pre <+: L := by
  have := h.map (f := fun x : Of L => x.1)
  rw [List.attach_map_subtype_val] at this
  exact this

set_option maxRecDepth 100000 in
set_option maxHeartbeats 4000000 in
theorem may_calls (L : List Item) (v : Value) (w : World) (hI : ItemsAt w 0 w.heap.size v L) (hF : Fits L) :
    Calls Try.prog 48 #[v] w fun e w' => e = .returned (.bool (may L)) ∧ Below w.heap.size w w' := by
  obtain ⟨A, c, rfl, hc1, hc2⟩ := hI.form
  unfold maxLen at hc2
  refine (callsIn_wide (n := 6)).1 ?_
  refine callsIn_of_wp_marks Try.func48 rfl trivial ?_ rfl
  simp only [Try.ntmps48, List.size_toArray, List.length_cons, List.length_nil, Nat.reduceAdd, Nat.reduceSub, Array.replicate_succ, Array.replicate_zero, List.push_toArray, List.append_toArray, List.nil_append, List.cons_append]
  gi_wp2_with (refine ⟨trivial, ?_⟩; gi_at_call 67; refine (callsIn_wide.2 (all_calls A _ c _)).mono ?_; rintro e w' ⟨rfl, rfl⟩)
  have b0 : Boxed (((w.alloc (.cells #[.bool false] 4)).alloc (.cells #[.string ⟨#[]⟩] 9)).alloc (.cells #[.slice A L.length c] 22)) w.heap.size 4 (.bool false) := ((Boxed.new w _ _).alloc _).alloc _
  have b1 : Boxed (((w.alloc (.cells #[.bool false] 4)).alloc (.cells #[.string ⟨#[]⟩] 9)).alloc (.cells #[.slice A L.length c] 22)) (w.heap.size + 1) 9 (.string ⟨#[]⟩) := by
    have := (Boxed.new (w.alloc (.cells #[.bool false] 4)) 9 (.string ⟨#[]⟩)).alloc (.cells #[.slice A L.length c] 22)
    rwa [World.size_alloc] at this
  have b2 : Boxed (((w.alloc (.cells #[.bool false] 4)).alloc (.cells #[.string ⟨#[]⟩] 9)).alloc (.cells #[.slice A L.length c] 22)) (w.heap.size + 1 + 1) 22 (.slice A L.length c) := by
    have := Boxed.new ((w.alloc (.cells #[.bool false] 4)).alloc (.cells #[.string ⟨#[]⟩] 9)) 22 (.slice A L.length c)
    rwa [World.size_alloc, World.size_alloc] at this
  have hB0 : Below w.heap.size w (((w.alloc (.cells #[.bool false] 4)).alloc (.cells #[.string ⟨#[]⟩] 9)).alloc (.cells #[.slice A L.length c] 22)) :=
    (((Below.refl _ w).alloc (Nat.le_refl _) _).alloc (by simp) _).alloc (by simp; omega) _
  have hsz0 : w.heap.size + 3 = (((w.alloc (.cells #[.bool false] 4)).alloc (.cells #[.string ⟨#[]⟩] 9)).alloc (.cells #[.slice A L.length c] 22)).heap.size := by simp
  generalize (((w.alloc (.cells #[.bool false] 4)).alloc (.cells #[.string ⟨#[]⟩] 9)).alloc (.cells #[.slice A L.length c] 22)) = w0 at *
  refine range_all (n := 6) rfl trivial (by omega) (Bs := w.heap.size + 1 + 1) (n₀ := w.heap.size) (v := .slice A L.length c) (L := L) rfl rfl (by omega) (by omega) b2.cell (hI.below hB0)
    (fun pre W => mayTo ⟨#[]⟩ (vals pre) = true ∧ Boxed W w.heap.size 4 (.bool false) ∧ Boxed W (w.heap.size + 1) 9 (.string (lastOf ⟨#[]⟩ (vals pre))))
    (fun c pre W => c = .ret ∧ mayTo ⟨#[]⟩ (vals pre) = false ∧ Boxed W w.heap.size 4 (.bool false))
    (Own.from (fun s A B row hs hg hr => ⟨hs.1, boxed_keep hs.2.1 hg hr, boxed_keep hs.2.2 hg hr⟩) _)
    (fun c => Own.from (fun s A B row hs hg hr => ⟨hs.1, hs.2.1, boxed_keep hs.2.2 hg hr⟩) _)
    ⟨rfl, b0, b1⟩
    (fun x => { tmps := #[.slice A L.length c, undef, .pointer (some ⟨w.heap.size, 0, none⟩), .pointer (some ⟨w.heap.size + 1, 0, none⟩), .string x.1.1, .int .i64 x.1.2, .slice A L.length c, .func (.func 87) #[] #[.pointer (some ⟨w.heap.size + 1 + 1, 0, none⟩)], .string x.1.1, .int .i64 x.1.2, undef, undef, undef, undef, undef, undef, undef, undef, undef, undef, undef, undef, undef, undef, undef, undef, undef, undef, undef, undef, undef], defers := [] }) ?assign ?body ?done ?stop
  case assign =>
    intro l x W K hK
    dsimp only [enc2]
    gi_wp2
    exact hK
  case body =>
    rintro l pre ⟨⟨xs, xn⟩, hx⟩ W ⟨hm, hb0, hb1⟩ hB hsz hlen
    have hfit := hF _ hx
    have hS := Lib.hid (show mayTo ⟨#[]⟩ (vals (pre ++ [⟨(xs, xn), hx⟩])) = (mayTo ⟨#[]⟩ (vals pre) && okItem (xs, xn) (lastOf ⟨#[]⟩ (vals pre))) by rw [vals_snoc, mayTo_snoc])
    have hL := Lib.hid (show lastOf ⟨#[]⟩ (vals (pre ++ [⟨(xs, xn), hx⟩])) = xs by rw [vals_snoc, lastOf_snoc])
    have hO := Lib.hid (show ∀ last, okItem (xs, xn) last = (good xs && decide (1 ≤ xn) && countOk xn && !(Op.bytesLess xs.toList last.toList || xs.toList == last.toList)) from fun _ => rfl)
    have HM := Lib.hid hm
    clear hm
    dsimp only at hfit ⊢
    have hc0 := hb0.cell
    have hf0 := hb0.frozen
    have hc1 := hb1.cell
    have hf1 := hb1.frozen
    generalize lastOf ⟨#[]⟩ (vals pre) = last at *
    have hO2 := Lib.hid (hO.out last)
    generalize okItem (xs, xn) last = ok at *
    have cG := Lib.hid (fun W => good_calls xs W hfit.1)
    generalize good xs = g at *
    have cN := Lib.hid (fun W => count_calls xn W)
    generalize countOk xn = cn at *
    by_cases hn1 : xn < 1
    · cases g with
      | false =>
        gi_wp2_with (first | (refine ⟨trivial, ?_⟩; gi_at_call 68; refine (CallsIn.inRound l (callsIn_wide.2 (cG.out _))).mono ?_; rintro e W1 ⟨rfl, h1⟩; have hb0' := boxed_below hb0 h1; have hb1' := boxed_below hb1 h1; have hc0' := hb0'.cell; have hf0' := hb0'.frozen; have hc1' := hb1'.cell; have hf1' := hb1'.frozen; clear hc0 hf0 hc1 hf1) | (refine ⟨trivial, ?_⟩; gi_at_call 69; refine (CallsIn.inRound l (callsIn_wide.2 (cN.out _))).mono ?_; rintro e W2 ⟨rfl, rfl⟩) | (refine ⟨trivial, ?_⟩))
        exact ⟨keeps_set (keeps_below _ h1) _ _, (h1.mono (B' := w.heap.size) (by omega)).setCell (p := ⟨w.heap.size, 0, none⟩) (Nat.le_refl _) _, rfl, by rw [hS.out, hO2.out]; simp [*], hb0'.set _⟩
      | true =>
        gi_wp2_with (first | (refine ⟨trivial, ?_⟩; gi_at_call 68; refine (CallsIn.inRound l (callsIn_wide.2 (cG.out _))).mono ?_; rintro e W1 ⟨rfl, h1⟩; have hb0' := boxed_below hb0 h1; have hb1' := boxed_below hb1 h1; have hc0' := hb0'.cell; have hf0' := hb0'.frozen; have hc1' := hb1'.cell; have hf1' := hb1'.frozen; clear hc0 hf0 hc1 hf1) | (refine ⟨trivial, ?_⟩; gi_at_call 69; refine (CallsIn.inRound l (callsIn_wide.2 (cN.out _))).mono ?_; rintro e W2 ⟨rfl, rfl⟩) | (refine ⟨trivial, ?_⟩))
        have hd : decide (1 ≤ xn) = false := by simp; omega
        exact ⟨keeps_set (keeps_below _ h1) _ _, (h1.mono (B' := w.heap.size) (by omega)).setCell (p := ⟨w.heap.size, 0, none⟩) (Nat.le_refl _) _, rfl, by rw [hS.out, hO2.out]; simp [*], hb0'.set _⟩
    · cases g with
      | false =>
        gi_wp2_with (first | (refine ⟨trivial, ?_⟩; gi_at_call 68; refine (CallsIn.inRound l (callsIn_wide.2 (cG.out _))).mono ?_; rintro e W1 ⟨rfl, h1⟩; have hb0' := boxed_below hb0 h1; have hb1' := boxed_below hb1 h1; have hc0' := hb0'.cell; have hf0' := hb0'.frozen; have hc1' := hb1'.cell; have hf1' := hb1'.frozen; clear hc0 hf0 hc1 hf1) | (refine ⟨trivial, ?_⟩; gi_at_call 69; refine (CallsIn.inRound l (callsIn_wide.2 (cN.out _))).mono ?_; rintro e W2 ⟨rfl, rfl⟩) | (refine ⟨trivial, ?_⟩))
        exact ⟨keeps_set (keeps_below _ h1) _ _, (h1.mono (B' := w.heap.size) (by omega)).setCell (p := ⟨w.heap.size, 0, none⟩) (Nat.le_refl _) _, rfl, by rw [hS.out, hO2.out]; simp [*], hb0'.set _⟩
      | true =>
        cases cn with
        | false =>
          gi_wp2_with (first | (refine ⟨trivial, ?_⟩; gi_at_call 68; refine (CallsIn.inRound l (callsIn_wide.2 (cG.out _))).mono ?_; rintro e W1 ⟨rfl, h1⟩; have hb0' := boxed_below hb0 h1; have hb1' := boxed_below hb1 h1; have hc0' := hb0'.cell; have hf0' := hb0'.frozen; have hc1' := hb1'.cell; have hf1' := hb1'.frozen; clear hc0 hf0 hc1 hf1) | (refine ⟨trivial, ?_⟩; gi_at_call 69; refine (CallsIn.inRound l (callsIn_wide.2 (cN.out _))).mono ?_; rintro e W2 ⟨rfl, rfl⟩) | (refine ⟨trivial, ?_⟩))
          exact ⟨keeps_set (keeps_below _ h1) _ _, (h1.mono (B' := w.heap.size) (by omega)).setCell (p := ⟨w.heap.size, 0, none⟩) (Nat.le_refl _) _, rfl, by rw [hS.out, hO2.out]; simp [*], hb0'.set _⟩
        | true =>
          generalize hle : (Op.bytesLess xs.toList last.toList || xs.toList == last.toList) = le at *
          cases le with
          | true =>
            gi_wp2_with (first | (refine ⟨trivial, ?_⟩; gi_at_call 68; refine (CallsIn.inRound l (callsIn_wide.2 (cG.out _))).mono ?_; rintro e W1 ⟨rfl, h1⟩; have hb0' := boxed_below hb0 h1; have hb1' := boxed_below hb1 h1; have hc0' := hb0'.cell; have hf0' := hb0'.frozen; have hc1' := hb1'.cell; have hf1' := hb1'.frozen; clear hc0 hf0 hc1 hf1) | (refine ⟨trivial, ?_⟩; gi_at_call 69; refine (CallsIn.inRound l (callsIn_wide.2 (cN.out _))).mono ?_; rintro e W2 ⟨rfl, rfl⟩) | (refine ⟨trivial, ?_⟩))
            exact ⟨keeps_set (keeps_below _ h1) _ _, (h1.mono (B' := w.heap.size) (by omega)).setCell (p := ⟨w.heap.size, 0, none⟩) (Nat.le_refl _) _, rfl, by rw [hS.out, hO2.out]; simp [*], hb0'.set _⟩
          | false =>
            have hd : decide (1 ≤ xn) = true := by simp; omega
            have HD := Lib.hid hd
            clear hd
            gi_wp2_with (first | (refine ⟨trivial, ?_⟩; gi_at_call 68; refine (CallsIn.inRound l (callsIn_wide.2 (cG.out _))).mono ?_; rintro e W1 ⟨rfl, h1⟩; have hb0' := boxed_below hb0 h1; have hb1' := boxed_below hb1 h1; have hc0' := hb0'.cell; have hf0' := hb0'.frozen; have hc1' := hb1'.cell; have hf1' := hb1'.frozen; clear hc0 hf0 hc1 hf1) | (refine ⟨trivial, ?_⟩; gi_at_call 69; refine (CallsIn.inRound l (callsIn_wide.2 (cN.out _))).mono ?_; rintro e W2 ⟨rfl, rfl⟩) | (refine ⟨trivial, ?_⟩))
            exact ⟨keeps_set (keeps_below _ h1) _ _, (h1.mono (B' := w.heap.size) (by omega)).setCell (p := ⟨w.heap.size + 1, 0, none⟩) (by simp) _, by rw [hS.out, hO2.out, HM.out, HD.out]; rfl, hb0'.other (by simp) _, by rw [hL.out]; exact hb1'.set _⟩
  case done =>
    rintro D W hD ⟨hm, hb0, hb1⟩ hB hK
    have HM := Lib.hid (show may L = decide (L.length ≤ 16) by unfold may; rw [vals_all] at hm; rw [hm]; rfl)
    clear hm
    have hc0 := hb0.cell
    have hf0 := hb0.frozen
    gi_wp2
    have hb0' := hb0.set (.bool (decide ((L.length : Int) ≤ 16)))
    have hK' := (KeepsOthers.setCell W ⟨w.heap.size, 0, none⟩ (.bool (decide ((L.length : Int) ≤ 16)))).same D _ hK rfl
    refine ⟨by simp, .inl ⟨_, _, rfl, run_takeDeferred hK', ?_⟩⟩
    have hc5 := (boxed_end hb0' hK').cell
    refine ⟨.bool (decide ((L.length : Int) ≤ 16)), ?_, ret1 (boo ?_), below_end ((hB0.trans hB).setCell (p := ⟨w.heap.size, 0, none⟩) (Nat.le_refl _) _) (by omega) hK'⟩
    · simp [results, Try.f48, go_sem, hc5]
    · rw [HM.out]; exact decide_eq_decide.2 (by omega)
  case stop =>
    rintro D c pre W hD hpre ⟨rfl, hm, hb0⟩ hB hK
    have HM := Lib.hid (show may L = false by unfold may; rw [mayTo_prefix (vals_prefix hpre) hm]; rfl)
    clear hm
    gi_wp2
    refine ⟨by simp, .inl ⟨_, _, rfl, run_takeDeferred hK, ?_⟩⟩
    have hc5 := (boxed_end hb0 hK).cell
    refine ⟨.bool false, ?_, ret1 (boo HM.out.symm), below_end (hB0.trans hB) (by omega) hK⟩
    simp [results, Try.f48, go_sem, hc5]
end It
end Go.Proofs.Ythfpfomifebpbaa

namespace Go.Proofs.Ythfpfomifebpbaa
open Go.RowKit
namespace It
attribute [local go_sem] Oper.semAt_some

def ofStep (good : ByteArray) (s : Int) (x : Item) : Int := if x.1.toList == good.toList then wrap64 (s + x.2) else s
/-- how many of a good, as Go's ints add up -/
def ofSum (good : ByteArray) (l : List Item) : Int := l.foldl (ofStep good) 0
theorem ofSum_snoc (good : ByteArray) (l : List Item) (x : Item) : ofSum good (l ++ [x]) = ofStep good (ofSum good l) x := by simp [ofSum]
def totStep (s : Int) (x : Item) : Int := wrap64 (s + x.2)
def totSum (l : List Item) : Int := l.foldl totStep 0
theorem totSum_snoc (l : List Item) (x : Item) : totSum (l ++ [x]) = totStep (totSum l) x := by simp [totSum]
theorem wrap64_bounds (n : Int) : -9223372036854775808 ≤ wrap64 n ∧ wrap64 n ≤ 9223372036854775807 := by unfold wrap64; omega

theorem vals_in {L : List Item} {pre : List (Of L)} : ∀ x ∈ vals pre, x ∈ L := by
  intro x hx
  obtain ⟨y, _, rfl⟩ := List.mem_map.1 hx
  exact y.2

set_option maxRecDepth 100000 in
set_option maxHeartbeats 4000000 in
theorem total_calls (L : List Item) (v : Value) (w : World) (hI : ItemsAt w 0 w.heap.size v L) :
    Calls Try.prog 72 #[v] w fun e w' => e = .returned (.int .i64 (totSum L)) ∧ Below w.heap.size w w' := by
  obtain ⟨A, c, rfl, hc1, hc2⟩ := hI.form
  unfold maxLen at hc2
  refine (callsIn_wide (n := 6)).1 ?_
  refine callsIn_of_wp_marks Try.func72 rfl trivial ?_ rfl
  simp only [Try.ntmps72, List.size_toArray, List.length_cons, List.length_nil, Nat.reduceAdd, Nat.reduceSub, Array.replicate_succ, Array.replicate_zero, List.push_toArray, List.append_toArray, List.nil_append, List.cons_append]
  gi_wp2_with (refine ⟨trivial, ?_⟩; gi_at_call 67; refine (callsIn_wide.2 (all_calls A _ c _)).mono ?_; rintro e w' ⟨rfl, rfl⟩)
  have b0 : Boxed ((w.alloc (.cells #[.int .i64 0] 3)).alloc (.cells #[.slice A L.length c] 22)) w.heap.size 3 (.int .i64 0) := (Boxed.new w _ _).alloc _
  have b1 : Boxed ((w.alloc (.cells #[.int .i64 0] 3)).alloc (.cells #[.slice A L.length c] 22)) (w.heap.size + 1) 22 (.slice A L.length c) := by
    have := Boxed.new (w.alloc (.cells #[.int .i64 0] 3)) 22 (.slice A L.length c)
    rwa [World.size_alloc] at this
  have hB0 : Below w.heap.size w ((w.alloc (.cells #[.int .i64 0] 3)).alloc (.cells #[.slice A L.length c] 22)) := ((Below.refl _ w).alloc (Nat.le_refl _) _).alloc (by simp) _
  have hsz0 : w.heap.size + 2 = ((w.alloc (.cells #[.int .i64 0] 3)).alloc (.cells #[.slice A L.length c] 22)).heap.size := by simp
  generalize ((w.alloc (.cells #[.int .i64 0] 3)).alloc (.cells #[.slice A L.length c] 22)) = w0 at *
  refine range_all (n := 6) rfl trivial (by omega) (Bs := w.heap.size + 1) (n₀ := w.heap.size) (v := .slice A L.length c) (L := L) rfl rfl (by omega) (by omega) b1.cell (hI.below hB0)
    (fun pre W => Boxed W w.heap.size 3 (.int .i64 (totSum (vals pre))))
    (fun _ _ _ => False)
    (fun s A B row hs hg hr => boxed_keep hs hg (fun r e => (hr r e).2))
    (fun c s A B row hs hg hr => hs)
    b0
    (fun x => { tmps := #[.slice A L.length c, undef, .int .i64 0, .pointer (some ⟨w.heap.size, 0, none⟩), undef, .int .i64 x.1.2, .slice A L.length c, .func (.func 87) #[] #[.pointer (some ⟨w.heap.size + 1, 0, none⟩)], .string x.1.1, .int .i64 x.1.2, undef, undef, undef, undef], defers := [] }) ?assign ?body ?done ?stop
  case assign =>
    intro l x W K hK
    dsimp only [enc2]
    gi_wp2
    exact hK
  case body =>
    rintro l pre ⟨⟨xs, xn⟩, hx⟩ W hb0 hB hsz hlen
    have hS := Lib.hid (show totSum (vals (pre ++ [⟨(xs, xn), hx⟩])) = wrap64 (totSum (vals pre) + xn) by rw [vals_snoc, totSum_snoc]; rfl)
    have hc0 := hb0.cell
    have hf0 := hb0.frozen
    dsimp only
    generalize totSum (vals pre) = t at *
    gi_wp2
    exact ⟨keeps_set (KeepsFrom.refl _ _) _ _, (Below.refl w.heap.size W).setCell (p := ⟨w.heap.size, 0, none⟩) (Nat.le_refl _) _, by dsimp only; rw [hS.out]; exact hb0.set _⟩
  case done =>
    rintro D W hD hb0 hB hK
    rw [vals_all] at hb0
    have hc0 := hb0.cell
    gi_wp2
    refine ⟨by simp, .inl ⟨_, _, rfl, run_takeDeferred hK, ?_⟩⟩
    exact ⟨_, results_tmp rfl _ _ _, rfl, below_end (hB0.trans hB) (by omega) hK⟩
  case stop =>
    rintro D c pre W hD hpre h hB hK
    exact h.elim

set_option maxRecDepth 100000 in
set_option maxHeartbeats 4000000 in
theorem of_calls (L : List Item) (good : ByteArray) (v : Value) (w : World) (hI : ItemsAt w 0 w.heap.size v L) :
    Calls Try.prog 109 #[v, .string good] w fun e w' => e = .returned (.int .i64 (ofSum good L)) ∧ Below w.heap.size w w' := by
  obtain ⟨A, c, rfl, hc1, hc2⟩ := hI.form
  unfold maxLen at hc2
  refine (callsIn_wide (n := 6)).1 ?_
  refine callsIn_of_wp_marks Try.func109 rfl trivial ?_ rfl
  simp only [Try.ntmps109, List.size_toArray, List.length_cons, List.length_nil, Nat.reduceAdd, Nat.reduceSub, Array.replicate_succ, Array.replicate_zero, List.push_toArray, List.append_toArray, List.nil_append, List.cons_append]
  gi_wp2_with (refine ⟨trivial, ?_⟩; gi_at_call 67; refine (callsIn_wide.2 (all_calls A _ c _)).mono ?_; rintro e w' ⟨rfl, rfl⟩)
  have b0 : Boxed (((w.alloc (.cells #[.string good] 9)).alloc (.cells #[.int .i64 0] 3)).alloc (.cells #[.slice A L.length c] 22)) w.heap.size 9 (.string good) := ((Boxed.new w _ _).alloc _).alloc _
  have b1 : Boxed (((w.alloc (.cells #[.string good] 9)).alloc (.cells #[.int .i64 0] 3)).alloc (.cells #[.slice A L.length c] 22)) (w.heap.size + 1) 3 (.int .i64 0) := by
    have := (Boxed.new (w.alloc (.cells #[.string good] 9)) 3 (.int .i64 0)).alloc (.cells #[.slice A L.length c] 22)
    rwa [World.size_alloc] at this
  have b2 : Boxed (((w.alloc (.cells #[.string good] 9)).alloc (.cells #[.int .i64 0] 3)).alloc (.cells #[.slice A L.length c] 22)) (w.heap.size + 1 + 1) 22 (.slice A L.length c) := by
    have := Boxed.new ((w.alloc (.cells #[.string good] 9)).alloc (.cells #[.int .i64 0] 3)) 22 (.slice A L.length c)
    rwa [World.size_alloc, World.size_alloc] at this
  have hB0 : Below w.heap.size w (((w.alloc (.cells #[.string good] 9)).alloc (.cells #[.int .i64 0] 3)).alloc (.cells #[.slice A L.length c] 22)) := (((Below.refl _ w).alloc (Nat.le_refl _) _).alloc (by simp) _).alloc (by simp; omega) _
  have hsz0 : w.heap.size + 3 = (((w.alloc (.cells #[.string good] 9)).alloc (.cells #[.int .i64 0] 3)).alloc (.cells #[.slice A L.length c] 22)).heap.size := by simp
  generalize (((w.alloc (.cells #[.string good] 9)).alloc (.cells #[.int .i64 0] 3)).alloc (.cells #[.slice A L.length c] 22)) = w0 at *
  refine range_all (n := 6) rfl trivial (by omega) (Bs := w.heap.size + 1 + 1) (n₀ := w.heap.size) (v := .slice A L.length c) (L := L) rfl rfl (by omega) (by omega) b2.cell (hI.below hB0)
    (fun pre W => Boxed W w.heap.size 9 (.string good) ∧ Boxed W (w.heap.size + 1) 3 (.int .i64 (ofSum good (vals pre))))
    (fun _ _ _ => False)
    (fun s A B row hs hg hr => ⟨boxed_keep hs.1 hg (fun r e => (hr r e).2), boxed_keep hs.2 hg (fun r e => (hr r e).2)⟩)
    (fun c s A B row hs hg hr => hs)
    ⟨b0, b1⟩
    (fun x => { tmps := #[.slice A L.length c, .string good, undef, .pointer (some ⟨w.heap.size, 0, none⟩), .int .i64 0, .pointer (some ⟨w.heap.size + 1, 0, none⟩), .string x.1.1, .int .i64 x.1.2, .slice A L.length c, .func (.func 87) #[] #[.pointer (some ⟨w.heap.size + 1 + 1, 0, none⟩)], .string x.1.1, .int .i64 x.1.2, undef, undef, undef, undef, undef, undef, undef], defers := [] }) ?assign ?body ?done ?stop
  case assign =>
    intro l x W K hK
    dsimp only [enc2]
    gi_wp2
    exact hK
  case body =>
    rintro l pre ⟨⟨xs, xn⟩, hx⟩ W ⟨hb0, hb1⟩ hB hsz hlen
    have hS := Lib.hid (show ofSum good (vals (pre ++ [⟨(xs, xn), hx⟩])) = if xs.toList == good.toList then wrap64 (ofSum good (vals pre) + xn) else ofSum good (vals pre) by rw [vals_snoc, ofSum_snoc]; rfl)
    have hc0 := hb0.cell
    have hc1 := hb1.cell
    have hf1 := hb1.frozen
    dsimp only
    generalize ofSum good (vals pre) = t at *
    by_cases ht : (xs.toList == good.toList) = true
    · gi_wp2
      exact ⟨keeps_set (KeepsFrom.refl _ _) _ _, (Below.refl w.heap.size W).setCell (p := ⟨w.heap.size + 1, 0, none⟩) (by simp) _, hb0.other (by simp) _, by rw [hS.out, if_pos ht]; exact hb1.set _⟩
    · have ht' : (xs.toList == good.toList) = false := by simpa using ht
      gi_wp2
      exact ⟨KeepsFrom.refl _ _, Below.refl _ _, hb0, by rw [hS.out, if_neg (by simp [ht'])]; exact hb1⟩
  case done =>
    rintro D W hD ⟨hb0, hb1⟩ hB hK
    rw [vals_all] at hb1
    have hc0 := hb1.cell
    gi_wp2
    refine ⟨by simp, .inl ⟨_, _, rfl, run_takeDeferred hK, ?_⟩⟩
    exact ⟨_, results_tmp rfl _ _ _, rfl, below_end (hB0.trans hB) (by omega) hK⟩
  case stop =>
    rintro D c pre W hD hpre h hB hK
    exact h.elim
end It
end Go.Proofs.Ythfpfomifebpbaa

namespace Go.Proofs.Ythfpfomifebpbaa
open Go.RowKit
namespace Pu

section
variable {F : Fence} {n : Nat} {P : Program} {ops : Array Oper} {Q : Exit → Act → World → Prop} {md : Region.Mode}

/-- no operation selects or defers; what binds an operation stands ahead of it; what it looks at is written by none but operations that bind it -/
def fine (md : Region.Mode) (ops : Array Oper) : Bool :=
  (List.range ops.size).all fun i => match ops[i]? with
    | none => true
    | some o =>
      (match o.op with | .select .. => false | .defer _ => false | _ => true) &&
      (o.after.all fun e => !Region.binds md e || decide (e.on < i)) &&
      (o.looksAt ops).all fun t => (List.range ops.size).all fun j => match ops[j]? with
        | some p => p.dst != some t || o.after.any fun e => Region.binds md e && e.on == j
        | none => true

theorem fine_at (h : fine md ops = true) {i : Nat} {o : Oper} (hi : ops[i]? = some o) :
    (∀ cs b, o.op ≠ .select cs b) ∧ (∀ c, o.op ≠ .defer c) ∧ (∀ e ∈ o.after, Region.binds md e = true → e.on < i) ∧
    ∀ t ∈ o.looksAt ops, ∀ j p, ops[j]? = some p → p.dst = some t → ∃ e ∈ o.after, Region.binds md e = true ∧ e.on = j := by
  have hlt : i < ops.size := (Array.getElem?_eq_some_iff.1 hi).1
  have h1 := List.all_eq_true.1 h i (List.mem_range.2 hlt)
  simp only [hi, Bool.and_eq_true] at h1
  obtain ⟨⟨a1, a2⟩, a3⟩ := h1
  refine ⟨fun cs b e => ?_, fun c e => ?_, fun e he hb => ?_, fun t ht j p hj hd => ?_⟩
  · rw [e] at a1; cases a1
  · rw [e] at a1; cases a1
  · have := Array.all_eq_true_iff_forall_mem.1 a2 e he
    simpa [hb] using this
  · have hjl : j < ops.size := (Array.getElem?_eq_some_iff.1 hj).1
    have h2 := List.all_eq_true.1 (List.all_eq_true.1 a3 t ht) j (List.mem_range.2 hjl)
    simp only [hj, hd, Bool.or_eq_true, bne_self_eq_false, Bool.false_eq_true, false_or] at h2
    obtain ⟨e, he, hb⟩ := Array.any_eq_true'.1 h2
    simp only [Bool.and_eq_true, beq_iff_eq] at hb
    exact ⟨e, he, hb.1, hb.2⟩

/-- the act agrees with the last one wherever no operation still to come writes -/
structure Agree (ops : Array Oper) (A : Act) (listed : Array Bool) (a : Act) : Prop where
  defers : a.defers = A.defers
  size : a.tmps.size = A.tmps.size
  at' : ∀ t : Nat, (∀ j o, ops[j]? = some o → o.dst = some t → listed.getD j true = true) → a.tmps[t]? = A.tmps[t]?

theorem Agree.eval {A a : Act} {listed : Array Bool} (h : Agree ops A listed a) {o : Oper} (hl : ∀ t ∈ o.looksAt ops, ∀ j p, ops[j]? = some p → p.dst = some t → listed.getD j true = true) :
    ∀ x ∈ o.op.operands, a.eval x = A.eval x := by
  intro x hx
  cases x with
  | tmp t =>
    have : t ∈ o.looksAt ops := List.mem_append_left _ (List.mem_filterMap.2 ⟨.tmp t, by simpa using hx, rfl⟩)
    have h1 := h.at' t (hl t this)
    simp [Act.eval, h1]
  | _ => rfl

theorem Agree.wanted {A a : Act} {listed : Array Bool} (h : Agree ops A listed a) {o : Oper} (hl : ∀ t ∈ o.looksAt ops, ∀ j p, ops[j]? = some p → p.dst = some t → listed.getD j true = true) :
    Region.wanted o (yielded ops a.tmps) = Region.wanted o (yielded ops A.tmps) := by
  unfold Region.wanted
  cases hg : o.guard with
  | none => rfl
  | some gw =>
    obtain ⟨g, want⟩ := gw
    have hy : yielded ops a.tmps g = yielded ops A.tmps g := by
      unfold yielded
      cases ht : (ops[g]?).bind (·.dst) with
      | none => rfl
      | some t =>
        have : t ∈ o.looksAt ops := by simp [Oper.looksAt, hg, ht]
        simp [h.at' t (hl t this)]
    simp only [hy]

theorem Agree.put {A a : Act} {listed : Array Bool} (h : Agree ops A listed a) {i : Nat} {o : Oper} (hi : ops[i]? = some o) {v : Value} (hv : A.put o.dst v = A) :
    Agree ops A (listed.setIfInBounds i true) (a.put o.dst v) := by
  refine ⟨?_, ?_, fun t ht => ?_⟩
  · rw [← h.defers]; cases o.dst <;> rfl
  · rw [← h.size]; cases o.dst <;> simp [Act.put]
  · cases hd : o.dst with
    | none =>
      refine h.at' t fun j p hj hp => ?_
      have h1 := ht j p hj hp
      by_cases e : i = j
      · subst e; rw [hi] at hj; cases hj; rw [hd] at hp; cases hp
      · rwa [getD_set_ne true e] at h1
    | some d =>
      rw [hd] at hv
      by_cases e : d = t
      · subst e
        conv => rhs; rw [← hv]
        simp only [Act.put]
        rw [Array.getElem?_setIfInBounds_self, Array.getElem?_setIfInBounds_self, h.size]
      · simp only [Act.put]
        rw [Array.getElem?_setIfInBounds_ne e]
        refine h.at' t fun j p hj hp => ?_
        have h1 := ht j p hj hp
        by_cases e' : i = j
        · subst e'; rw [hi] at hj; cases hj; rw [hd] at hp; cases hp; exact absurd rfl e
        · rwa [getD_set_ne true e'] at h1

/-- what is asked of each operation -/
def Go (F : Fence) (n : Nat) (P : Program) (ops : Array Oper) (Inv : World → Prop) (A : Act) (l : List Oper) : Prop :=
  ∀ o ∈ l, ∀ w, Inv w → wpListIn F n P ops (fun e a' w' => e = .normal ∧ a' = A ∧ Inv w') [o] A w
theorem Go.nil {Inv : World → Prop} {A : Act} : Go F n P ops Inv A [] := fun _ h => by cases h
theorem Go.cons {Inv : World → Prop} {A : Act} {o : Oper} {l : List Oper} (h : ∀ w, Inv w → wpListIn F n P ops (fun e a' w' => e = .normal ∧ a' = A ∧ Inv w') [o] A w) (hs : Go F n P ops Inv A l) :
    Go F n P ops Inv A (o :: l) := by
  intro p hp
  rcases List.mem_cons.1 hp with rfl | hp
  · exact h
  · exact hs p hp

theorem put_self {A : Act} {d : Option Tmp} {v : Value} {ds : List Deferred} (h : ({ A with defers := ds } : Act).put d v = A) : ds = A.defers ∧ A.put d v = A := by
  have h1 : ds = A.defers := by
    have := congrArg Act.defers h
    cases d <;> simpa [Act.put] using this
  subst h1
  exact ⟨rfl, h⟩

theorem wpAnyIn_pure (hf : fine md ops = true) {Inv : World → Prop} {A : Act} (hgo : Go F n P ops Inv A ops.toList) (hQ : ∀ w, Inv w → Q .normal A w) :
    ∀ (left : List Nat) (listed : Array Bool) (a : Act) (w : World), listed.size = ops.size → left.Nodup → (∀ j, j ∈ left ↔ listed.getD j true = false) → Agree ops A listed a → Inv w →
      wpAnyIn F n P md ops Q left.length listed a w := by
  intro left
  generalize hm : left.length = m
  have hready : ∀ (left : List Nat) (listed : Array Bool), listed.size = ops.size → (∀ j, j ∈ left ↔ listed.getD j true = false) → Region.ready md ops listed = [] → left = [] := by
    intro left listed hsz hl hr
    -- the least one that is left is ready
    have : ∀ k j, j < k → listed.getD j true = false → False := by
      intro k
      induction k with
      | zero => intro j h; omega
      | succ k ih =>
        intro j hj hjl
        have hjs : j < ops.size := by
          rcases Nat.lt_or_ge j ops.size with h | h
          · exact h
          · simp [Array.getElem?_eq_none (show listed.size ≤ j by omega)] at hjl
        obtain ⟨o, ho⟩ : ∃ o, ops[j]? = some o := ⟨ops[j], by simp [hjs]⟩
        have hmem : j ∈ Region.ready md ops listed := by
          rw [mem_ready]
          refine ⟨hjl, o, ho, fun e he hb => ?_⟩
          have hlt := (fine_at hf ho).2.2.1 e he hb
          cases hx : listed.getD e.on true with
          | false => exact (ih e.on (by omega) hx).elim
          | true =>
            have hes : e.on < listed.size := by omega
            simp [hes] at hx ⊢
            exact hx
        rw [hr] at hmem
        cases hmem
    cases left with
    | nil => rfl
    | cons j l => exact (this (j + 1) j (by omega) ((hl j).1 (by simp))).elim
  have hdone : ∀ (listed : Array Bool) (a : Act), (∀ j, j ∈ ([] : List Nat) ↔ listed.getD j true = false) → Agree ops A listed a → a = A := by
    intro listed a hl ha
    have ht : a.tmps = A.tmps := by
      refine Array.ext ha.size fun t h1 h2 => ?_
      have := ha.at' t fun j o _ _ => by
        have := (hl j).2
        cases hx : listed.getD j true with
        | true => rfl
        | false => cases this hx
      simpa [h1, h2] using this
    have hd := ha.defers
    cases a; cases A
    simp only at ht hd
    rw [ht, hd]
  induction m generalizing left with
  | zero =>
    intro listed a w hsz hnd hl ha hI
    have hn : left = [] := List.length_eq_zero_iff.1 hm
    subst hn
    have hA := hdone listed a hl ha
    subst hA
    refine ⟨?_, hQ w hI⟩
    cases hr : Region.ready md ops listed with
    | nil => rfl
    | cons i rs =>
      have : i ∈ Region.ready md ops listed := by rw [hr]; simp
      have := (hl i).2 (mem_ready.1 this).1
      cases this
  | succ m ih =>
    intro listed a w hsz hnd hl ha hI
    refine ⟨fun hr => ?_, fun i hi => ?_⟩
    · rw [hready left listed hsz hl hr] at hm; simp at hm
    obtain ⟨hun, o, ho, hall⟩ := mem_ready.1 hi
    obtain ⟨f1, f2, f3, f4⟩ := fine_at hf ho
    have his : i < ops.size := (Array.getElem?_eq_some_iff.1 ho).1
    have hlook : ∀ t ∈ o.looksAt ops, ∀ j p, ops[j]? = some p → p.dst = some t → listed.getD j true = true := by
      intro t ht j p hj hp
      obtain ⟨e, he, hb, rfl⟩ := f4 t ht j p hj hp
      have h1 := hall e he hb
      have hes : e.on < listed.size := by have := (Array.getElem?_eq_some_iff.1 hj).1; omega
      simp [hes] at h1 ⊢
      exact h1
    have heval := ha.eval hlook
    have hwant := ha.wanted hlook
    have hnext : ∀ v w', A.put o.dst v = A → Inv w' → wpAnyIn F n P md ops Q m (listed.setIfInBounds i true) (a.put o.dst v) w' := by
      intro v w' hv hI'
      have hmem : i ∈ left := (hl i).2 hun
      refine ih (left.erase i) (by rw [List.length_erase_of_mem hmem, hm]; rfl) _ _ _ (by simpa using hsz) (hnd.erase i) (fun j => ?_) (ha.put ho hv) hI'
      rw [hnd.mem_erase_iff, hl j]
      by_cases e : i = j
      · subst e
        simp [show i < listed.size by omega]
      · rw [getD_set_ne true e]
        exact ⟨fun h => h.2, fun h => ⟨fun h' => e h'.symm, h⟩⟩
    have h := hgo o (List.mem_iff_getElem?.2 ⟨i, by simpa using ho⟩) w hI
    unfold wpOpIn
    simp only [ho]
    unfold wpListIn at h
    rw [hwant]
    split
    · rename_i hw
      simp only [hw, if_true] at h
      unfold Oper.wpIn at h ⊢
      rw [about_congr o w heval]
      refine ⟨h.1, ?_⟩
      have h := h.2
      rw [Oper.semAt_eq _ _ _ f2] at h ⊢
      rw [execOp_congr o f1 heval]
      generalize (execOp A.eval o).run P w = r at *
      cases r with
      | ok x w' =>
        cases x <;> simp only [Oper.uponIn] at h ⊢
        case value v => exact hnext v w' h.2.1 h.2.2
        case skip => exact hnext _ w' h.2.1 h.2.2
        case defer d =>
          have := congrArg List.length (put_self h.2.1).1
          simp at this
        case enter f args =>
          refine ⟨h.1, CallsIn.mono h.2 fun e w'' he => ?_⟩
          cases e with
          | returned v => exact hnext v w'' he.2.1 he.2.2
          | panicked c => cases he.1
          | outgrown => obtain ⟨_, _, h, _⟩ := he; cases h
        case row row args => exact ⟨h.1, RowsIn.mono h.2 fun v w'' he => hnext v w'' he.2.1 he.2.2⟩
        case round l f tmps assign body =>
          refine ⟨h.1, RoundIn.mono h.2 fun e w'' he => ?_⟩
          cases e with
          | returned v => exact hnext v w'' he.2.1 he.2.2
          | panicked c => cases he.1
          | outgrown => obtain ⟨_, _, h, _⟩ := he; cases h
      | halt x w' =>
        cases x <;> simp only [Oper.uponIn] at h ⊢
        case panic u => cases h.1
    · rename_i hw
      simp only [hw] at h
      rw [about_congr o w heval]
      exact ⟨h.1, hnext _ w h.2.2.1 h.2.2.2⟩

/-- the region, whole -/
theorem region {id : Nat} {a : Act} {w : World} (Inv : World → Prop) (A : Act) (hm : P.follows .mixedOrders = true) (hf : fine .any ops = true) (hI : Inv w.drew)
    (ha : a.defers = A.defers ∧ a.tmps.size = A.tmps.size ∧ ∀ t, t < A.tmps.size → (ops.any fun o => o.dst == some t) = false → a.tmps[t]? = A.tmps[t]?)
    (hgo : Go F n P ops Inv A ops.toList) (hQ : ∀ w, Inv w → Q .normal A w) : (Code.region id ops true).wpIn F n P Q a w := by
  refine wpIn_region_any hm ?_
  have h := wpAnyIn_pure (md := .any) (F := F) (n := n) (P := P) (Q := Q) hf hgo hQ (List.range ops.size) (Array.replicate ops.size false) a w.drew (by simp) List.nodup_range (fun j => ?_) ⟨ha.1, ha.2.1, fun t ht => ?_⟩ hI
  · rwa [List.length_range] at h
  · rw [List.mem_range]
    by_cases h : j < ops.size
    · simp [h]
    · simp [h]
  · by_cases h : t < A.tmps.size
    · refine ha.2.2 t h ?_
      rw [Bool.eq_false_iff]
      intro hx
      obtain ⟨o, ho, hd⟩ := Array.any_eq_true'.1 hx
      obtain ⟨j, hj⟩ := Array.mem_iff_getElem?.1 ho
      have := ht j o hj (by simpa using hd)
      have hjs : j < ops.size := (Array.getElem?_eq_some_iff.1 hj).1
      simp [hjs] at this
    · have h2 := ha.2.1
      rw [Array.getElem?_eq_none (by omega), Array.getElem?_eq_none (by omega)]
/-- the act after the region, slot by slot -/
def puts : List (Nat × Value) → Act → Act
  | [], a => a
  | c :: l, a => puts l (a.put (some c.1) c.2)

theorem puts_spec (ch : List (Nat × Value)) (hch : (ch.all fun c => ops.any fun o => o.dst == some c.1) = true) : ∀ a : Act,
    (puts ch a).defers = a.defers ∧ (puts ch a).tmps.size = a.tmps.size ∧ ∀ t, (ops.any fun o => o.dst == some t) = false → a.tmps[t]? = (puts ch a).tmps[t]? := by
  induction ch with
  | nil => intro a; exact ⟨rfl, rfl, fun _ _ => rfl⟩
  | cons c l ih =>
    intro a
    rw [List.all_cons, Bool.and_eq_true] at hch
    obtain ⟨h1, h2, h3⟩ := ih hch.2 (a.put (some c.1) c.2)
    refine ⟨h1, ?_, fun t ht => ?_⟩
    · rw [puts, h2]; simp [Act.put]
    · rw [puts, ← h3 t ht]
      have : c.1 ≠ t := fun e => by rw [e, ht] at hch; cases hch.1
      simp [Act.put, Array.getElem?_setIfInBounds_ne this]

theorem region_puts {id : Nat} {a : Act} {w : World} (Inv : World → Prop) (ch : List (Nat × Value)) (hm : P.follows .mixedOrders = true) (hf : fine .any ops = true)
    (hch : (ch.all fun c => ops.any fun o => o.dst == some c.1) = true) (hI : Inv w.drew)
    (hgo : Go F n P ops Inv (puts ch a) ops.toList) (hQ : ∀ w, Inv w → Q .normal (puts ch a) w) : (Code.region id ops true).wpIn F n P Q a w :=
  region Inv (puts ch a) hm hf hI (let h := puts_spec ch hch a; ⟨h.1.symm, h.2.1.symm, fun t _ ht => h.2.2 t ht⟩) hgo hQ

/-- the same outside any fence -/
def GoP (P : Program) (ops : Array Oper) (Inv : World → Prop) (A : Act) (l : List Oper) : Prop :=
  ∀ o ∈ l, ∀ w, Inv w → wpList P ops (fun e a' w' => e = .normal ∧ a' = A ∧ Inv w') [o] A w
theorem GoP.nil {Inv : World → Prop} {A : Act} : GoP P ops Inv A [] := fun _ h => by cases h
theorem GoP.cons {Inv : World → Prop} {A : Act} {o : Oper} {l : List Oper} (h : ∀ w, Inv w → wpList P ops (fun e a' w' => e = .normal ∧ a' = A ∧ Inv w') [o] A w) (hs : GoP P ops Inv A l) :
    GoP P ops Inv A (o :: l) := by
  intro p hp
  rcases List.mem_cons.1 hp with rfl | hp
  · exact h
  · exact hs p hp

theorem wpAny_pure (hf : fine md ops = true) {Inv : World → Prop} {A : Act} (hgo : GoP P ops Inv A ops.toList) (hQ : ∀ w, Inv w → Q .normal A w) :
    ∀ (left : List Nat) (listed : Array Bool) (a : Act) (w : World), listed.size = ops.size → left.Nodup → (∀ j, j ∈ left ↔ listed.getD j true = false) → Agree ops A listed a → Inv w →
      wpAny P md ops Q left.length listed a w := by
  intro left
  generalize hm : left.length = m
  have hready : ∀ (left : List Nat) (listed : Array Bool), listed.size = ops.size → (∀ j, j ∈ left ↔ listed.getD j true = false) → Region.ready md ops listed = [] → left = [] := by
    intro left listed hsz hl hr
    -- the least one that is left is ready
    have : ∀ k j, j < k → listed.getD j true = false → False := by
      intro k
      induction k with
      | zero => intro j h; omega
      | succ k ih =>
        intro j hj hjl
        have hjs : j < ops.size := by
          rcases Nat.lt_or_ge j ops.size with h | h
          · exact h
          · simp [Array.getElem?_eq_none (show listed.size ≤ j by omega)] at hjl
        obtain ⟨o, ho⟩ : ∃ o, ops[j]? = some o := ⟨ops[j], by simp [hjs]⟩
        have hmem : j ∈ Region.ready md ops listed := by
          rw [mem_ready]
          refine ⟨hjl, o, ho, fun e he hb => ?_⟩
          have hlt := (fine_at hf ho).2.2.1 e he hb
          cases hx : listed.getD e.on true with
          | false => exact (ih e.on (by omega) hx).elim
          | true =>
            have hes : e.on < listed.size := by omega
            simp [hes] at hx ⊢
            exact hx
        rw [hr] at hmem
        cases hmem
    cases left with
    | nil => rfl
    | cons j l => exact (this (j + 1) j (by omega) ((hl j).1 (by simp))).elim
  have hdone : ∀ (listed : Array Bool) (a : Act), (∀ j, j ∈ ([] : List Nat) ↔ listed.getD j true = false) → Agree ops A listed a → a = A := by
    intro listed a hl ha
    have ht : a.tmps = A.tmps := by
      refine Array.ext ha.size fun t h1 h2 => ?_
      have := ha.at' t fun j o _ _ => by
        have := (hl j).2
        cases hx : listed.getD j true with
        | true => rfl
        | false => cases this hx
      simpa [h1, h2] using this
    have hd := ha.defers
    cases a; cases A
    simp only at ht hd
    rw [ht, hd]
  induction m generalizing left with
  | zero =>
    intro listed a w hsz hnd hl ha hI
    have hn : left = [] := List.length_eq_zero_iff.1 hm
    subst hn
    have hA := hdone listed a hl ha
    subst hA
    refine ⟨?_, hQ w hI⟩
    cases hr : Region.ready md ops listed with
    | nil => rfl
    | cons i rs =>
      have : i ∈ Region.ready md ops listed := by rw [hr]; simp
      have := (hl i).2 (mem_ready.1 this).1
      cases this
  | succ m ih =>
    intro listed a w hsz hnd hl ha hI
    refine ⟨fun hr => ?_, fun i hi => ?_⟩
    · rw [hready left listed hsz hl hr] at hm; simp at hm
    obtain ⟨hun, o, ho, hall⟩ := mem_ready.1 hi
    obtain ⟨f1, f2, f3, f4⟩ := fine_at hf ho
    have his : i < ops.size := (Array.getElem?_eq_some_iff.1 ho).1
    have hlook : ∀ t ∈ o.looksAt ops, ∀ j p, ops[j]? = some p → p.dst = some t → listed.getD j true = true := by
      intro t ht j p hj hp
      obtain ⟨e, he, hb, rfl⟩ := f4 t ht j p hj hp
      have h1 := hall e he hb
      have hes : e.on < listed.size := by have := (Array.getElem?_eq_some_iff.1 hj).1; omega
      simp [hes] at h1 ⊢
      exact h1
    have heval := ha.eval hlook
    have hwant := ha.wanted hlook
    have hnext : ∀ v w', A.put o.dst v = A → Inv w' → wpAny P md ops Q m (listed.setIfInBounds i true) (a.put o.dst v) w' := by
      intro v w' hv hI'
      have hmem : i ∈ left := (hl i).2 hun
      refine ih (left.erase i) (by rw [List.length_erase_of_mem hmem, hm]; rfl) _ _ _ (by simpa using hsz) (hnd.erase i) (fun j => ?_) (ha.put ho hv) hI'
      rw [hnd.mem_erase_iff, hl j]
      by_cases e : i = j
      · subst e
        simp [show i < listed.size by omega]
      · rw [getD_set_ne true e]
        exact ⟨fun h => h.2, fun h => ⟨fun h' => e h'.symm, h⟩⟩
    have h := hgo o (List.mem_iff_getElem?.2 ⟨i, by simpa using ho⟩) w hI
    unfold wpOp
    simp only [ho]
    unfold wpList at h
    rw [hwant]
    split
    · rename_i hw
      simp only [hw, if_true] at h
      rcases h with h | ⟨_, _, _, h, _⟩
      case inr => cases h
      refine .inl ?_
      unfold Oper.wp at h ⊢
      rw [execOp_congr o f1 heval]
      generalize (execOp A.eval o).run P w = r at *
      cases r with
      | ok x w' =>
        cases x <;> simp only [Oper.upon] at h ⊢
        case value v => exact hnext v w' h.2.1 h.2.2
        case skip => exact hnext _ w' h.2.1 h.2.2
        case defer d =>
          have := congrArg List.length (put_self h.2.1).1
          simp at this
        case enter f args =>
          refine Calls.mono h fun e w'' he => ?_
          cases e with
          | returned v => exact hnext v w'' he.2.1 he.2.2
          | panicked c => cases he.1
          | outgrown => obtain ⟨_, _, h, _⟩ := he; cases h
        case row row args => exact Rows.mono h fun v w'' he => hnext v w'' he.2.1 he.2.2
      | halt x w' =>
        cases x <;> simp only [Oper.upon] at h ⊢
        case panic u => cases h.1
    · rename_i hw
      simp only [hw] at h
      exact hnext _ w h.2.1 h.2.2

theorem regionP {id : Nat} {a : Act} {w : World} (Inv : World → Prop) (ch : List (Nat × Value)) (hm : P.follows .mixedOrders = true) (hf : fine .any ops = true)
    (hch : (ch.all fun c => ops.any fun o => o.dst == some c.1) = true) (hI : Inv w.drew)
    (hgo : GoP P ops Inv (puts ch a) ops.toList) (hQ : ∀ w, Inv w → Q .normal (puts ch a) w) : (Code.region id ops true).wp P Q a w := by
  refine wp_region_any hm ?_
  have hp := puts_spec ch hch a
  have h := wpAny_pure (md := .any) (P := P) (Q := Q) hf hgo hQ (List.range ops.size) (Array.replicate ops.size false) a w.drew (by simp) List.nodup_range (fun j => ?_) ⟨hp.1.symm, hp.2.1.symm, fun t ht => ?_⟩ hI
  · rwa [List.length_range] at h
  · rw [List.mem_range]
    by_cases h : j < ops.size
    · simp [h]
    · simp [h]
  · refine hp.2.2 t ?_
    rw [Bool.eq_false_iff]
    intro hx
    obtain ⟨o, ho, hd⟩ := Array.any_eq_true'.1 hx
    obtain ⟨j, hj⟩ := Array.mem_iff_getElem?.1 ho
    have := ht j o hj (by simpa using hd)
    have hjs : j < ops.size := (Array.getElem?_eq_some_iff.1 hj).1
    simp [hjs] at this

/-! the operations walked once, in the listed order, each value found by the walk -/
def okL (ops : Array Oper) : List Oper → Bool
  | [] => true
  | o :: r =>
    (match o.op with | .select .. => false | .defer _ => false | _ => true) &&
    ((o.looksAt ops).all fun t => o.dst != some t && r.all fun p => p.dst != some t) &&
    (match o.dst with | none => true | some d => r.all fun p => p.dst != some d) && okL ops r

def Seq (P : Program) (ops : Array Oper) (Inv : World → Prop) : List Oper → Act → (Act → Prop) → Prop
  | [], a, K => K a
  | o :: r, a, K =>
    if Region.wanted o (yielded ops a.tmps) then
      ∃ v, (∀ w, Inv w → wpList P ops (fun e a' w' => e = .normal ∧ a' = a.put o.dst v ∧ Inv w') [o] a w) ∧ Seq P ops Inv r (a.put o.dst v) K
    else Seq P ops Inv r (a.put o.dst undef) K
theorem Seq.nil {Inv : World → Prop} {a : Act} {K : Act → Prop} (h : K a) : Seq P ops Inv [] a K := h
theorem Seq.skip {Inv : World → Prop} {a : Act} {K : Act → Prop} {o : Oper} {r : List Oper} (hw : Region.wanted o (yielded ops a.tmps) = false) (h : Seq P ops Inv r (a.put o.dst undef) K) : Seq P ops Inv (o :: r) a K := by
  unfold Seq
  rw [hw]
  exact h
theorem Seq.step {Inv : World → Prop} {a : Act} {K : Act → Prop} {o : Oper} {r : List Oper} (hw : Region.wanted o (yielded ops a.tmps) = true) (v : Value)
    (h1 : ∀ w, Inv w → wpList P ops (fun e a' w' => e = .normal ∧ a' = a.put o.dst v ∧ Inv w') [o] a w) (h : Seq P ops Inv r (a.put o.dst v) K) : Seq P ops Inv (o :: r) a K := by
  unfold Seq
  rw [hw]
  exact ⟨v, h1, h⟩

theorem put_same {a A : Act} {d : Option Tmp} {u v : Value} (h : a.put d u = a.put d v) (hs : a.tmps.size = A.tmps.size) (hA : A.put d v = A) : A.put d u = A := by
  cases d with
  | none => rfl
  | some d =>
    by_cases hd : d < a.tmps.size
    · have h1 := congrArg (fun b : Act => b.tmps[d]?) h
      simp only [Act.put, Array.getElem?_setIfInBounds_self, hd, if_true, Option.some.injEq] at h1
      subst h1
      exact hA
    · have hd' : A.tmps.size ≤ d := by rw [← hs]; exact Nat.le_of_not_lt hd
      simp only [Act.put]
      rw [Array.setIfInBounds_eq_of_size_le hd']
theorem put_of {A : Act} {d : Nat} {v : Value} (h : A.tmps[d]? = if d < A.tmps.size then some v else none) : A.put (some d) v = A := by
  have : A.tmps.setIfInBounds d v = A.tmps := by
    refine Array.ext (by simp) fun i h1 h2 => ?_
    by_cases e : d = i
    · subst e
      rw [if_pos h2] at h
      have : A.tmps[d] = v := by simpa [h2] using h
      simp [this]
    · simp [Array.getElem_setIfInBounds_ne h2 e]
  simp only [Act.put, this]

theorem Seq.done {Inv : World → Prop} {K : Act → Prop} : ∀ (l : List Oper) (a : Act), okL ops l = true → Seq P ops Inv l a K →
    ∃ A, K A ∧ A.defers = a.defers ∧ A.tmps.size = a.tmps.size ∧ (∀ t : Nat, (∀ o ∈ l, o.dst ≠ some t) → A.tmps[t]? = a.tmps[t]?) ∧ GoP P ops Inv A l
  | [], a, _, h => ⟨a, h, rfl, rfl, fun _ _ => rfl, GoP.nil⟩
  | o :: r, a, hok, h => by
    simp only [okL, Bool.and_eq_true] at hok
    obtain ⟨⟨⟨hop, hlk⟩, hd⟩, hr⟩ := hok
    have hlook : ∀ t ∈ o.looksAt ops, o.dst ≠ some t ∧ ∀ p ∈ r, p.dst ≠ some t := fun t ht => by
      have := List.all_eq_true.1 hlk t ht
      simp only [Bool.and_eq_true, bne_iff_ne, List.all_eq_true] at this
      exact this
    have key : ∀ v, Seq P ops Inv r (a.put o.dst v) K →
        ((∀ w, Inv w → wpList P ops (fun e a' w' => e = .normal ∧ a' = a.put o.dst v ∧ Inv w') [o] a w) ∨ (Region.wanted o (yielded ops a.tmps) = false ∧ v = undef)) →
        ∃ A, K A ∧ A.defers = a.defers ∧ A.tmps.size = a.tmps.size ∧ (∀ t : Nat, (∀ o' ∈ o :: r, o'.dst ≠ some t) → A.tmps[t]? = a.tmps[t]?) ∧ GoP P ops Inv A (o :: r) := by
      intro v hs ho
      obtain ⟨A, hK, h1, h2, h3, h4⟩ := Seq.done r (a.put o.dst v) hr hs
      have h1' : A.defers = a.defers := by rw [h1]; cases o.dst <;> rfl
      have h2' : A.tmps.size = a.tmps.size := by rw [h2]; cases o.dst <;> simp [Act.put]
      have h3' : ∀ t : Nat, (∀ o' ∈ o :: r, o'.dst ≠ some t) → A.tmps[t]? = a.tmps[t]? := fun t ht => by
        rw [h3 t fun p hp => ht p (List.mem_cons_of_mem _ hp)]
        have := ht o (by simp)
        cases hod : o.dst with
        | none => rfl
        | some d =>
          rw [hod] at this
          have hne : d ≠ t := fun e => this (by rw [e])
          simp [Act.put, Array.getElem?_setIfInBounds_ne hne]
      have hput : A.put o.dst v = A := by
        cases hod : o.dst with
        | none => rfl
        | some d =>
          rw [hod] at hd h3 h2
          refine put_of ?_
          have := h3 d fun p hp => by
            have := List.all_eq_true.1 hd p hp
            simpa using this
          rw [this, h2]
          simp only [Act.put, Array.getElem?_setIfInBounds_self, Array.size_setIfInBounds]
      have hagree : Agree ops A (Array.replicate ops.size false) A := ⟨rfl, rfl, fun _ _ => rfl⟩
      have heval : ∀ x ∈ o.op.operands, A.eval x = a.eval x := by
        intro x hx
        cases x with
        | tmp t =>
          have hm : t ∈ o.looksAt ops := List.mem_append_left _ (List.mem_filterMap.2 ⟨.tmp t, by simpa using hx, rfl⟩)
          have h5 := hlook t hm
          have := h3' t fun p hp => by
            rcases List.mem_cons.1 hp with rfl | hp
            · exact h5.1
            · exact h5.2 p hp
          simp [Act.eval, this]
        | _ => rfl
      have hwant : Region.wanted o (yielded ops A.tmps) = Region.wanted o (yielded ops a.tmps) := by
        unfold Region.wanted
        cases hg : o.guard with
        | none => rfl
        | some gw =>
          obtain ⟨g, want⟩ := gw
          have hy : yielded ops A.tmps g = yielded ops a.tmps g := by
            unfold yielded
            cases ht : (ops[g]?).bind (·.dst) with
            | none => rfl
            | some t =>
              have hm : t ∈ o.looksAt ops := by simp [Oper.looksAt, hg, ht]
              have h5 := hlook t hm
              have := h3' t fun p hp => by
                rcases List.mem_cons.1 hp with rfl | hp
                · exact h5.1
                · exact h5.2 p hp
              simp [this]
          simp only [hy]
      refine ⟨A, hK, h1', h2', h3', GoP.cons (fun w hI => ?_) h4⟩
      unfold wpList
      rw [hwant]
      rcases ho with ho | ⟨hw, rfl⟩
      case inr =>
        rw [hw]
        exact ⟨rfl, hput, hI⟩
      have ho := ho w hI
      unfold wpList at ho
      split
      · rename_i hw
        simp only [hw, if_true] at ho
        rcases ho with ho | ⟨_, _, _, ho, _⟩
        case inr => cases ho
        refine .inl ?_
        have f1 : ∀ cs b, o.op ≠ .select cs b := fun cs b e => by rw [e] at hop; cases hop
        unfold Oper.wp at ho ⊢
        rw [execOp_congr o f1 heval]
        generalize (execOp a.eval o).run P w = r at *
        have fin : ∀ u w', a.put o.dst u = a.put o.dst v → Inv w' → A.put o.dst u = A := fun u w' h _ => put_same h h2'.symm hput
        cases r with
        | ok x w' =>
          cases x <;> simp only [Oper.upon] at ho ⊢
          case value u => exact ⟨rfl, put_same ho.2.1 h2'.symm hput, ho.2.2⟩
          case skip => exact ⟨rfl, put_same ho.2.1 h2'.symm hput, ho.2.2⟩
          case defer d =>
            have := congrArg (fun b : Act => b.defers.length) ho.2.1
            cases hod : o.dst <;> simp [Act.put, hod] at this
          case enter f args =>
            refine Calls.mono ho fun e w'' he => ?_
            cases e with
            | returned u => exact ⟨rfl, put_same he.2.1 h2'.symm hput, he.2.2⟩
            | panicked c => cases he.1
            | outgrown => obtain ⟨_, _, h, _⟩ := he; cases h
          case row row args => exact Rows.mono ho fun u w'' he => ⟨rfl, put_same he.2.1 h2'.symm hput, he.2.2⟩
        | halt x w' =>
          cases x <;> simp only [Oper.upon] at ho ⊢
          case panic u => cases ho.1
      · rename_i hw
        simp only [hw] at ho
        refine ⟨rfl, ?_, hI⟩
        exact put_same ho.2.1 h2'.symm hput
    unfold Seq at h
    split at h
    · obtain ⟨v, h1, h2⟩ := h
      exact key v h2 (.inl h1)
    · rename_i hw
      exact key undef h (.inr ⟨by simpa using hw, rfl⟩)

theorem regionS {id : Nat} {a : Act} {w : World} (Inv : World → Prop) (hm : P.follows .mixedOrders = true) (hf : fine .any ops = true) (hok : okL ops ops.toList = true) (hI : Inv w.drew)
    (hs : Seq P ops Inv ops.toList a fun A => ∀ w, Inv w → Q .normal A w) : (Code.region id ops true).wp P Q a w := by
  obtain ⟨A, hK, h1, h2, h3, h4⟩ := Seq.done _ _ hok hs
  refine wp_region_any hm ?_
  have h := wpAny_pure (md := .any) (P := P) (Q := Q) hf h4 hK (List.range ops.size) (Array.replicate ops.size false) a w.drew (by simp) List.nodup_range (fun j => ?_) ⟨h1.symm, h2.symm, fun t ht => ?_⟩ hI
  · rwa [List.length_range] at h
  · rw [List.mem_range]
    by_cases h : j < ops.size
    · simp [h]
    · simp [h]
  · refine (h3 t fun o ho hd => ?_).symm
    obtain ⟨j, hj⟩ := List.mem_iff_getElem?.1 ho
    have hj : ops[j]? = some o := by simpa using hj
    have := ht j o hj hd
    have hjs : j < ops.size := (Array.getElem?_eq_some_iff.1 hj).1
    simp [hjs] at this
/-- the operations walked in the listed order, behind a name that nothing unfolds -/
structure Walk (P : Program) (ops : Array Oper) (Inv : World → Prop) (l : List Oper) (a : Act) (K : Act → Prop) : Prop where
  go : Seq P ops Inv l a K
/-- where an operation ends -/
structure Ends (A : Act) (Inv : World → Prop) (e : Exit) (a' : Act) (w' : World) : Prop where
  e : e = .normal
  a : a' = A
  i : Inv w'
theorem Ends.eq {A : Act} {Inv : World → Prop} : Ends A Inv = fun e a' w' => e = .normal ∧ a' = A ∧ Inv w' := by
  funext e a' w'
  exact propext ⟨fun h => ⟨h.e, h.a, h.i⟩, fun h => ⟨h.1, h.2.1, h.2.2⟩⟩
theorem Walk.nil {Inv : World → Prop} {a : Act} {K : Act → Prop} (h : K a) : Walk P ops Inv [] a K := ⟨h⟩
theorem Walk.skip {Inv : World → Prop} {a : Act} {K : Act → Prop} {o : Oper} {r : List Oper} (hw : Region.wanted o (yielded ops a.tmps) = false) (h : Walk P ops Inv r (a.put o.dst undef) K) : Walk P ops Inv (o :: r) a K := ⟨Seq.skip hw h.go⟩
theorem Walk.next {Inv : World → Prop} {a : Act} {K : Act → Prop} {o : Oper} {r : List Oper} (hw : Region.wanted o (yielded ops a.tmps) = true) {v : Value}
    (h1 : ∀ w, Inv w → wpList P ops (Ends (a.put o.dst v) Inv) [o] a w) (h : Walk P ops Inv r (a.put o.dst v) K) : Walk P ops Inv (o :: r) a K :=
  ⟨Seq.step hw v (fun w hI => Ends.eq ▸ h1 w hI) h.go⟩
/-- what binds an operation, read off lists -/
def asks (l : List Oper) (o : Oper) (t : List Value) : Bool :=
  match o.guard with
  | none => true
  | some (g, want) => match l[g]? with
    | some p => match p.dst with
      | some d => match t[d]? with
        | some (.bool b) => b == want
        | _ => false
      | none => false
    | none => false
theorem asks_eq (ops : Array Oper) (o : Oper) (t : Array Value) : Region.wanted o (yielded ops t) = asks ops.toList o t.toList := by
  unfold Region.wanted asks
  cases hg : o.guard with
  | none => rfl
  | some gw =>
    obtain ⟨g, want⟩ := gw
    dsimp only
    unfold yielded
    rw [← Array.getElem?_toList]
    cases ops.toList[g]? with
    | none => rfl
    | some p =>
      dsimp only [Option.bind_some]
      cases hd : p.dst with
      | none => rfl
      | some d =>
        dsimp only [Option.bind_some]
        rw [← Array.getElem?_toList]
        cases t.toList[d]? with
        | none => rfl
        | some v => cases v <;> first | rfl | (rename_i b; cases b <;> cases want <;> rfl)
theorem Walk.off {Inv : World → Prop} {a : Act} {K : Act → Prop} {o : Oper} {r : List Oper} (hw : asks ops.toList o a.tmps.toList = false) (h : Walk P ops Inv r (a.put o.dst undef) K) : Walk P ops Inv (o :: r) a K :=
  Walk.skip ((asks_eq _ _ _).trans hw) h
theorem Walk.on {Inv : World → Prop} {a : Act} {K : Act → Prop} {o : Oper} {r : List Oper} (hw : asks ops.toList o a.tmps.toList = true) {v : Value}
    (h1 : ∀ w, Inv w → wpList P ops (Ends (a.put o.dst v) Inv) [o] a w) (h : Walk P ops Inv r (a.put o.dst v) K) : Walk P ops Inv (o :: r) a K :=
  Walk.next ((asks_eq _ _ _).trans hw) h1 h
theorem regionW {id : Nat} {a : Act} {w : World} (Inv : World → Prop) (hm : P.follows .mixedOrders = true) (hf : fine .any ops = true) (hok : okL ops ops.toList = true) (hI : Inv w.drew) {l : List Oper} (hl : ops.toList = l)
    (hs : Walk P ops Inv l a fun A => ∀ w, Inv w → Q .normal A w) : (Code.region id ops true).wp P Q a w := by
  subst hl
  exact regionS Inv hm hf hok hI hs.go
end
end Pu
end Go.Proofs.Ythfpfomifebpbaa
