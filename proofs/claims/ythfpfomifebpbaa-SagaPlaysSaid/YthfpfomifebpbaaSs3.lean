/-
  life: the walks of Name, Named, Behind, and of the reference's Name, Behind, In.
  life: the walks of Named, Index, Contains, In, Behind.
  objects in memory: a block of some cells that may be written; what else is kept.
  plan: lists of lists of items in memory; copies; Visit.
  plan: may, Split, Missing; ContainsFunc at lists of items.
  count.Add.
  words for maps that the program keeps: a block reads as a list of keys and values, in the keys' order.
  items: what sums makes of a list, in plain words.
  items: the walk of sums.
  items: lists in order of their goods, in plain words.
  slices.Sorted(maps.Keys(m)): the keys of a map with string keys, sorted, by the library's contracts.
  items: the walk of Norm.
  slices.Concat at items: what it hands back owns the parts, one behind the other.
  items: the walk of Plus.
  plan: copies of lists; Split, Missing.
  saga: what one is in memory; Missing, Holders.
  A region that draws its order, some of whose operations make or write memory, one behind the other: walked once, in an order in which whatever comes behind such an operation is bound to it.
  objects in memory: several cells stored at once.
-/
import Derived.Test.YthfpfomifebpbaaRows
import Derived.WalkKit
import Derived.WalkSpells
import Derived.WalkLawsBesides
import Derived.Lib.Hide
import Derived.Test.YthfpfomifebpbaaSs1
import Derived.RangeFuncNested
import Derived.Test.YthfpfomifebpbaaSs2
import Derived.Laws.AppendOwn
import Derived.Deep.DeepMust
import Derived.Lib.SliceRun
import Derived.Maps.OwnOps
import Derived.Maps.OwnSet
import Derived.Maps.Ext
import Derived.Maps.OwnIn
import Derived.StringKeys
import Derived.Carry
import Derived.Test.YthfpfomifebpbaaLayed
import Derived.Deep.MidRow

set_option linter.unusedVariables false
set_option linter.unusedSimpArgs false
namespace Go.Proofs.Ythfpfomifebpbaa
open Go.RowKit
namespace Life

def nameOf (n : Int) : ByteArray :=
  if n = 1 then ⟨#[97, 115, 107, 105, 110, 103]⟩ else if n = 2 then ⟨#[104, 101, 108, 100]⟩ else if n = 3 then ⟨#[119, 97, 105, 116, 105, 110, 103]⟩
  else if n = 4 then ⟨#[117, 110, 100, 111, 105, 110, 103]⟩ else if n = 5 then ⟨#[114, 101, 102, 117, 115, 101, 100]⟩ else if n = 6 then ⟨#[103, 111, 110, 101]⟩
  else if n = 7 then ⟨#[112, 105, 99, 107, 105, 110, 103]⟩ else if n = 8 then ⟨#[112, 105, 99, 107, 101, 100]⟩ else if n = 9 then ⟨#[115, 104, 105, 112, 112, 105, 110, 103]⟩
  else if n = 10 then ⟨#[115, 104, 105, 112, 112, 101, 100]⟩ else ⟨#[]⟩

def behind (n : Int) : List Int :=
  if n = 1 then [1, 2, 3, 4, 5, 6] else if n = 2 then [4, 7] else if n = 3 then [1, 6] else if n = 4 then [3, 4, 5, 6] else if n = 7 then [7, 8] else if n = 8 then [9] else if n = 9 then [9, 10] else []

theorem nameOf_out (n : Int) (h : n < 1 ∨ 10 < n) : nameOf n = ⟨#[]⟩ := by
  unfold nameOf
  repeat (rw [if_neg (by omega)])

theorem ten {n : Int} (h1 : 1 ≤ n) (h2 : n ≤ 10) : n = 1 ∨ n = 2 ∨ n = 3 ∨ n = 4 ∨ n = 5 ∨ n = 6 ∨ n = 7 ∨ n = 8 ∨ n = 9 ∨ n = 10 := by omega

set_option maxHeartbeats 1000000 in
theorem name_calls (n : Int) (w : World) :
    Calls Try.prog 40 #[.int .i64 n] w fun e w' => e = .returned (.string (nameOf n)) ∧ Below w.heap.size w w' := by
  by_cases h1 : 1 ≤ n
  · by_cases h2 : n ≤ 10
    · rcases ten h1 h2 with h | h | h | h | h | h | h | h | h | h
      all_goals
        subst h
        clear h1 h2
        go_enter Try.func40, Try.ntmps40
        go_wp2
        go_ret
        exact ⟨rfl, (Below.refl _ _).alloc (Nat.le_refl _) _⟩
    · go_enter Try.func40, Try.ntmps40
      go_wp2
      go_ret
      exact ⟨by rw [nameOf_out n (.inr (by omega))]; rfl, (Below.refl _ _).alloc (Nat.le_refl _) _⟩
  · go_enter Try.func40, Try.ntmps40
    go_wp2
    go_ret
    exact ⟨by rw [nameOf_out n (.inl (by omega))]; rfl, (Below.refl _ _).alloc (Nat.le_refl _) _⟩

end Life
end Go.Proofs.Ythfpfomifebpbaa

namespace Go.Proofs.Ythfpfomifebpbaa
open Go.RowKit
namespace Life

/-- the first state of a name from k on, with m to look at -/
def namedFrom (s : ByteArray) : Nat → Nat → Int
  | 0, _ => 0
  | m + 1, k => if (nameOf k).toList == s.toList then k else namedFrom s m (k + 1)
def namedN (s : ByteArray) : Int := namedFrom s 10 1


set_option maxHeartbeats 400000 in
theorem named_calls (s : ByteArray) (w : World) :
    Calls Try.prog 38 #[.string s] w fun e w' => e = .returned (.tuple #[.int .i64 (namedN s), .bool (decide (1 ≤ namedN s))]) ∧ Below w.heap.size w w' := by
  go_enter Try.func38, Try.ntmps38
  go_wp2
  go_loopw [4] (fun i wr => ∃ k : Nat, 1 ≤ k ∧ k ≤ 11 ∧ i = .int .i64 k ∧ namedN s = namedFrom s (11 - k) k ∧ Below w.heap.size w wr) (fun i _ => 11 - (intOf i).toNat)
  case atStart => exact ⟨1, by omega, by omega, rfl, rfl, Below.refl _ _⟩
  case round =>
    obtain ⟨k, hk1, hk, rfl, hN, hb⟩ := hrel
    have HN := Lib.hid hN
    clear hN
    by_cases hlt : k ≤ 10
    · go_wp2_with (go_at_call 40; refine (name_calls _ _).mono ?_; rintro e w1 ⟨rfl, hb1⟩)
      · have ht : ((nameOf ↑k).toList == s.toList) = true := by assumption
        have e : namedN s = k := by rw [HN.out, show 11 - k = (10 - k) + 1 by omega]; simp only [namedFrom, ht, if_true]
        go_ret2
        exact ⟨ret2 (num e.symm) (by rw [e]; simp; omega), hb.trans (hb1.mono hb.size)⟩
      · have ht : ((nameOf ↑k).toList == s.toList) = false := by assumption
        have e : namedN s = namedFrom s (11 - (k + 1)) (k + 1) := by rw [HN.out, show 11 - k = (10 - k) + 1 by omega]; simp [namedFrom, ht]
        go_roundw
        case rel => exact ⟨k + 1, by omega, by omega, by go_num, e, hb.trans (hb1.mono hb.size)⟩
        case measure => simp [intOf]; omega
    · go_wp2_with fail
      have e : namedN s = 0 := by rw [HN.out, show 11 - k = 0 by omega]; rfl
      go_ret2
      exact ⟨ret2 (num e.symm) (by rw [e]; simp), hb⟩

/-- the place of x in l -/
def idxOf (x : Int) (l : List Int) : Int := match l.findIdx? (x == ·) with | some i => i | none => -1

theorem idxOf_none {x : Int} {l : List Int} (h : ∀ j, j < l.length → (x == l.getD j 0) = false) : idxOf x l = -1 := by
  unfold idxOf
  rw [List.findIdx?_eq_none_iff.2]
  intro y hy
  obtain ⟨i, hi, rfl⟩ := List.getElem_of_mem hy
  have := h i hi
  simpa [hi] using this
theorem idxOf_some {x : Int} {l : List Int} {k : Nat} (hk : k < l.length) (h : ∀ j, j < k → (x == l.getD j 0) = false) (he : (x == l.getD k 0) = true) : idxOf x l = k := by
  unfold idxOf
  have e : l.findIdx? (x == ·) = some k := List.findIdx?_eq_some_iff_getElem.2 ⟨hk, by simpa [hk] using he, fun j hj => by have := h j hj; simpa [show j < l.length by omega] using this⟩
  rw [e]

set_option maxHeartbeats 400000 in
theorem index_calls (l : List Int) (x : Int) (v : Value) (lo B : Nat) (w : World) (hv : IntsAt w lo B v l) :
    Calls Try.prog 66 #[v, .int .i64 x] w fun e w' => e = .returned (.int .i64 (idxOf x l)) ∧ w = w' := by
  obtain ⟨A, c, rfl, hc1, hc2, hc⟩ := hv.form
  unfold maxLen at hc2
  go_enter Try.func66, Try.ntmps66
  go_wp2
  go_loop [5, 8] (fun _ i => ∃ k : Nat, k ≤ l.length ∧ i = .int .i64 k ∧ (∀ j, j < k → (x == l.getD j 0) = false)) (fun _ i => l.length - (intOf i).toNat)
  case atStart => exact ⟨0, by omega, rfl, fun j hj => by omega⟩
  case round =>
    obtain ⟨k, hk, rfl, hN⟩ := hrel
    have HN := Lib.hid hN
    clear hN
    by_cases hlt : k < l.length
    · obtain ⟨b, o, rfl, _, hb, hcell⟩ := hc (by omega)
      have hck := hcell k hlt
      clear hcell hc
      generalize hy : l.getD k 0 = y at hck
      have HY := Lib.hid hy
      clear hy
      go_wp2
      · have ht : (x == y) = true := by assumption
        go_ret
        exact ⟨ret1 (num (idxOf_some hlt HN.out (by rw [HY.out]; exact ht)).symm), rfl⟩
      · have ht : (x == y) = false := by assumption
        go_round
        case rel => exact ⟨k + 1, by omega, by go_num, snoc_all HN.out (by rw [HY.out]; exact ht)⟩
        case measure => simp [intOf]; omega
    · clear hc
      obtain rfl : k = l.length := by omega
      go_wp2
      go_ret
      exact ⟨ret1 (num (idxOf_none HN.out).symm), rfl⟩

def inL (x : Int) (l : List Int) : Bool := decide (0 ≤ idxOf x l)
theorem inL_yes {x : Int} {l : List Int} {k : Nat} (h : idxOf x l = k) : inL x l = true := by unfold inL; rw [h]; exact decide_eq_true (by omega)
theorem inL_no {x : Int} {l : List Int} (h : idxOf x l = -1) : inL x l = false := by unfold inL; rw [h]; rfl
theorem inL_iff (x : Int) (l : List Int) : inL x l = decide (x ∈ l) := by
  unfold inL
  rw [Bool.eq_iff_iff, decide_eq_true_eq, decide_eq_true_eq]
  unfold idxOf
  cases h : l.findIdx? (x == ·) with
  | none =>
    rw [List.findIdx?_eq_none_iff] at h
    constructor
    · intro h0; simp at h0
    · intro hx; have := h x hx; simp at this
  | some i =>
    obtain ⟨hi, h1, _⟩ := List.findIdx?_eq_some_iff_getElem.1 h
    constructor
    · intro _
      have e : x = l[i] := by simpa using h1
      rw [e]; exact List.getElem_mem hi
    · intro _; simp

set_option maxHeartbeats 400000 in
theorem contains_calls (l : List Int) (x : Int) (v : Value) (lo B : Nat) (w : World) (hv : IntsAt w lo B v l) :
    Calls Try.prog 47 #[v, .int .i64 x] w fun e w' => e = .returned (.bool (inL x l)) ∧ w = w' := by
  go_enter Try.func47, Try.ntmps47
  go_wp2_with (go_at_call 66; refine (index_calls l x _ lo B _ hv).mono ?_; rintro e w1 ⟨rfl, rfl⟩)
  go_ret
  exact ⟨rfl, rfl⟩

theorem nine {n : Int} : n = 1 ∨ n = 2 ∨ n = 3 ∨ n = 4 ∨ n = 7 ∨ n = 8 ∨ n = 9 ∨ (n ≠ 1 ∧ n ≠ 2 ∧ n ≠ 3 ∧ n ≠ 4 ∧ n ≠ 7 ∧ n ≠ 8 ∧ n ≠ 9) := by omega
theorem behind_out {n : Int} (h : n ≠ 1 ∧ n ≠ 2 ∧ n ≠ 3 ∧ n ≠ 4 ∧ n ≠ 7 ∧ n ≠ 8 ∧ n ≠ 9) : behind n = [] := by
  obtain ⟨h1, h2, h3, h4, h7, h8, h9⟩ := h
  simp [behind, h1, h2, h3, h4, h7, h8, h9]

set_option maxHeartbeats 1000000 in
theorem behind_calls (n : Int) (w : World) :
    Calls Try.prog 43 #[.int .i64 n] w fun e w' => (∃ v, e = .returned v ∧ w'.ownsRow w.heap.size 3 1 v (behind n).length (ints (behind n))) ∧ Below w.heap.size w w' := by
  rcases @nine n with h | h | h | h | h | h | h | h
  all_goals try subst h
  · go_enter Try.func43, Try.ntmps43
    go_wp2
    go_ret
    have hcap : ∀ x, 6 ≤ (Question.appendCap 6 2 3).cut x ∧ (Question.appendCap 6 2 3).cut x ≤ maxLen := fun x => by simp only [Question.cut]; unfold maxLen; omega
    exact ⟨⟨_, rfl, ownsRow_cells (heap_three w _ _ _) (by omega) rfl (hcap _).1 (hcap _).2 (by simp [size_zeroCells]; have := (hcap (w.tape w.drawn (Question.appendCap 6 2 3))).1; omega) (by show List.take 6 _ = ints [1, 2, 3, 4, 5, 6]; simp [ints])⟩,
      ((((Below.refl _ w).alloc (Nat.le_refl _) _).alloc (by simp) _).alloc (by simp; omega) _).drew⟩
  all_goals
    go_enter Try.func43, Try.ntmps43
    go_wp2
    go_ret
    first
      | exact ⟨⟨_, rfl, ownsRow_cells (heap_two w _ _) (by omega) rfl (by decide) (by unfold maxLen; omega) rfl rfl⟩, ((Below.refl _ w).alloc (Nat.le_refl _) _).alloc (by simp) _⟩
      | exact ⟨⟨_, rfl, ownsRow_cells (heap_one w _) (by omega) rfl (by decide) (by unfold maxLen; omega) rfl rfl⟩, (Below.refl _ w).alloc (Nat.le_refl _) _⟩
      | exact ⟨⟨_, rfl, by rw [behind_out h]; exact World.ownsRow_nil _ _ _ _⟩, (Below.refl _ w).alloc (Nat.le_refl _) _⟩

set_option maxHeartbeats 400000 in
theorem may_calls (a b : Int) (w : World) :
    Calls Try.prog 25 #[.int .i64 a, .int .i64 b] w fun e w' => e = .returned (.bool (inL b (behind a))) ∧ Below w.heap.size w w' := by
  go_enter Try.func25, Try.ntmps25
  go_wp2_with (first
    | (go_at_call 43; refine (behind_calls a _).mono ?_; rintro e w1 ⟨⟨v, rfl, hv⟩, hb⟩)
    | (go_at_call 47; refine (contains_calls _ b _ _ _ _ (IntsAt.of_own hv)).mono ?_; rintro e w2 ⟨rfl, rfl⟩))
  go_ret
  exact ⟨rfl, hb⟩

def over (n : Int) : Bool := decide (n = 5) || decide (n = 6) || decide (n = 10)
theorem three {n : Int} : n = 5 ∨ n = 6 ∨ n = 10 ∨ (n ≠ 5 ∧ n ≠ 6 ∧ n ≠ 10) := by omega
theorem over_no {n : Int} (h : n ≠ 5 ∧ n ≠ 6 ∧ n ≠ 10) : over n = false := by
  obtain ⟨h1, h2, h3⟩ := h
  simp [over, h1, h2, h3]

set_option maxHeartbeats 400000 in
theorem over_calls (n : Int) (w : World) :
    Calls Try.prog 15 #[.int .i64 n] w fun e w' => e = .returned (.bool (over n)) ∧ w = w' := by
  rcases @three n with h | h | h | h
  all_goals try subst h
  all_goals
    go_enter Try.func15, Try.ntmps15
    go_wp2
    go_ret
    first
      | exact ⟨rfl, rfl⟩
      | exact ⟨ret1 (congrArg Value.bool (over_no h).symm), rfl⟩

def quiet (n : Int) : Bool := over n || decide (n = 2) || decide (n = 3) || decide (n = 8)
theorem quiet_no {n : Int} (h : n ≠ 5 ∧ n ≠ 6 ∧ n ≠ 10 ∧ n ≠ 2 ∧ n ≠ 3 ∧ n ≠ 8) : quiet n = false := by
  obtain ⟨h1, h2, h3, h4, h5, h6⟩ := h
  simp [quiet, over, h1, h2, h3, h4, h5, h6]
theorem six {n : Int} : n = 5 ∨ n = 6 ∨ n = 10 ∨ n = 2 ∨ n = 3 ∨ n = 8 ∨ (n ≠ 5 ∧ n ≠ 6 ∧ n ≠ 10 ∧ n ≠ 2 ∧ n ≠ 3 ∧ n ≠ 8) := by omega
set_option maxHeartbeats 400000 in
theorem quiet_calls (n : Int) (w : World) :
    Calls Try.prog 42 #[.int .i64 n] w fun e w' => e = .returned (.bool (quiet n)) ∧ w = w' := by
  rcases @six n with h | h | h | h | h | h | h
  all_goals try subst h
  all_goals
    go_enter Try.func42, Try.ntmps42
    go_wp2
    go_ret
    first
      | exact ⟨rfl, rfl⟩
      | (rw [quiet_no h]; exact ⟨rfl, rfl⟩)
end Life
end Go.Proofs.Ythfpfomifebpbaa

namespace Go.Proofs.Ythfpfomifebpbaa
open Go.RowKit

/-- block b holds an object of type t, whose cells are cs -/
def Ob (w : World) (b : Nat) (t : TypeId) (cs : Array Value) : Prop := w.heap[b]? = some (.cells cs t (0, 0))
section
variable {w w' : World} {b b' j B : Nat} {t : TypeId} {cs : Array Value} {row : Option Nat}
theorem Ob.lt (h : Ob w b t cs) : b < w.heap.size := (Array.getElem?_eq_some_iff.1 h).1
theorem Ob.cell (h : Ob w b t cs) {v : Value} (hj : cs[j]? = some v) : w.cell? ⟨b, j, none⟩ = some v := by
  simp [World.cell?, show w.heap[b]? = _ from h, hj]
theorem Ob.frozen (h : Ob w b t cs) (j : Nat) : w.frozen? ⟨b, j, none⟩ = false := by simp [World.frozen?, show w.heap[b]? = _ from h]
theorem Ob.new (w : World) (t : TypeId) (cs : Array Value) : Ob (w.alloc (.cells cs t)) w.heap.size t cs := heap_alloc_new w _
theorem Ob.kept (h : Ob w b t cs) (hg : w.grownBy w' row) (hne : some b ≠ row) : Ob w' b t cs := (hg.block b h.lt hne).trans h
theorem Ob.alloc (h : Ob w b t cs) (o : Obj) : Ob (w.alloc o) b t cs := h.kept (World.grownBy_alloc w o none) (by simp)
theorem Ob.below (h : Ob w b t cs) (hb : Below B w w') (hB : b < B) : Ob w' b t cs := (hb.block b hB).trans h
theorem Ob.same (h : Ob w b t cs) (hb : Below w.heap.size w w') : Ob w' b t cs := h.below hb h.lt
theorem Ob.set (h : Ob w b t cs) (j : Nat) (v : Value) : Ob (w.setCell ⟨b, j, none⟩ v) b t (cs.setIfInBounds j v) := by
  obtain ⟨hlt, hk⟩ := Array.getElem?_eq_some_iff.1 h
  show (w.heap.modify b _)[b]? = _
  rw [Array.getElem?_eq_getElem (by rw [Array.size_modify]; exact hlt), Array.getElem_modify_self, hk]
  simp
theorem grownBy_set (w : World) (b j : Nat) (v : Value) : w.grownBy (w.setCell ⟨b, j, none⟩ v) (some b) :=
  ⟨rfl, rfl, rfl, (KeepsWalks.setCell w _ v).size, fun k _ hk => Below.heap_setCell _ _ _ k (fun e => hk (by rw [e]))⟩
theorem Ob.other (h : Ob w b t cs) (hne : b ≠ b') (j : Nat) (v : Value) : Ob (w.setCell ⟨b', j, none⟩ v) b t cs := h.kept (grownBy_set w b' j v) (fun e => hne (by cases e; rfl))
end

/-- the blocks of Fr are as they were -/
structure Kept (Fr : Nat → Prop) (w w' : World) : Prop where
  os : w'.os = w.os
  tape : w'.tape = w.tape
  output : w'.output = w.output
  size : w.heap.size ≤ w'.heap.size
  block : ∀ k, Fr k → w'.heap[k]? = w.heap[k]?
section
variable {Fr Fr' : Nat → Prop} {a b c w w' : World} {B : Nat} {row : Option Nat}
theorem Kept.refl (Fr : Nat → Prop) (w : World) : Kept Fr w w := ⟨rfl, rfl, rfl, Nat.le_refl _, fun _ _ => rfl⟩
theorem Kept.trans (h : Kept Fr a b) (k : Kept Fr b c) : Kept Fr a c :=
  ⟨k.os.trans h.os, k.tape.trans h.tape, k.output.trans h.output, Nat.le_trans h.size k.size, fun i hi => (k.block i hi).trans (h.block i hi)⟩
theorem Kept.mono (h : Kept Fr a b) (hF : ∀ i, Fr' i → Fr i) : Kept Fr' a b := ⟨h.os, h.tape, h.output, h.size, fun i hi => h.block i (hF i hi)⟩
theorem Kept.of_below (h : Below B w w') (hF : ∀ i, Fr i → i < B) : Kept Fr w w' := ⟨h.os, h.tape, h.output, h.size, fun i hi => h.block i (hF i hi)⟩
theorem Kept.of_grown (h : w.grownBy w' row) (hF : ∀ i, Fr i → i < w.heap.size ∧ some i ≠ row) : Kept Fr w w' := ⟨h.os, h.tape, h.output, h.size, fun i hi => h.block i (hF i hi).1 (hF i hi).2⟩
theorem Kept.below (h : Kept Fr w w') (hF : ∀ i, i < B → Fr i) : Below B w w' := ⟨h.os, h.tape, h.output, h.size, fun i hi => h.block i (hF i hi)⟩
theorem Kept.ob {b : Nat} {t : TypeId} {cs : Array Value} (h : Kept Fr w w') (ho : Ob w b t cs) (hF : Fr b) : Ob w' b t cs := (h.block b hF).trans ho
theorem Kept.sl {lo B size n : Nat} {v : Value} {xs : List Value} (h : Kept Fr w w') (hs : Sl w lo B size v n xs) (hF : ∀ i, lo ≤ i → i < B → Fr i) : Sl w' lo B size v n xs :=
  hs.keep fun b _ h1 h2 => World.cell?_of_block (h.block b (hF b h1 h2))
end
end Go.Proofs.Ythfpfomifebpbaa

namespace Go.Proofs.Ythfpfomifebpbaa
open Go.RowKit Go.Maps
namespace Sa
open It

/-- the value v is a slice of lists of items -/
def GotAt (w : World) (lo B : Nat) (v : Value) (L : List (List It.Item)) : Prop :=
  ∃ vs : List Value, vs.length = L.length ∧ Sl w lo B 1 v L.length vs ∧ ∀ k, k < L.length → ItemsAt w lo B (vs.getD k (.slice none 0 0)) (L.getD k [])
section
variable {w w' : World} {lo lo' B B' : Nat} {v : Value} {L : List (List It.Item)}
theorem GotAt.mono (h : GotAt w lo B v L) (hb : Below B w w') (hB : B ≤ B') : GotAt w' lo B' v L := by
  obtain ⟨vs, h1, h2, h3⟩ := h
  exact ⟨vs, h1, h2.mono hb hB, fun k hk => (h3 k hk).mono hb hB⟩
theorem GotAt.below (h : GotAt w lo B v L) (hb : Below B w w') : GotAt w' lo B v L := h.mono hb (Nat.le_refl _)
theorem GotAt.wide (h : GotAt w lo B v L) (hl : lo' ≤ lo) (hB : B ≤ B') : GotAt w lo' B' v L := by
  obtain ⟨vs, h1, h2, h3⟩ := h
  exact ⟨vs, h1, h2.wide hl hB, fun k hk => (h3 k hk).wide hl hB⟩
theorem GotAt.nil (w : World) (lo B : Nat) : GotAt w lo B (.slice none 0 0) [] := ⟨[], rfl, Sl.nil w lo B 1, fun k hk => by simp at hk⟩
theorem GotAt.form (h : GotAt w lo B v L) : ∃ A c, v = .slice A L.length c ∧ L.length ≤ c ∧ c ≤ maxLen := by
  obtain ⟨vs, h1, h2, h3⟩ := h
  obtain ⟨A, c, e, a, b, _⟩ := h2.at_
  exact ⟨A, c, e, a, b⟩
theorem GotAt.cellAt {A : Option Addr} {n c j : Nat} (h : GotAt w lo B (.slice A n c) L) (hj : j < L.length) :
    ∃ b o x, A = some ⟨b, o, none⟩ ∧ lo ≤ b ∧ b < B ∧ w.cell? ⟨b, o + j, none⟩ = some x ∧ ItemsAt w lo B x (L.getD j []) := by
  obtain ⟨vs, h1, h2, h3⟩ := h
  obtain ⟨A', c', e, a, b, hc⟩ := h2.at_
  cases e
  obtain ⟨b, o, e1, e2, e3, e4⟩ := hc (by omega)
  refine ⟨b, o, _, e1, e2, e3, ?_, h3 j hj⟩
  rw [e4 j (by omega)]
  simp [List.getD, List.getElem?_eq_getElem (show j < vs.length by omega)]
end
theorem row_later {A B : World} {lo : Nat} {e : TypeId} {size n : Nat} {v : Value} {xs : List Value} (h : A.ownsRow lo e size v n xs) (hb : Below A.heap.size A B) : B.ownsRow lo e size v n xs := by
  refine ⟨h.1, h.2.elim Or.inl fun hx => .inr ?_⟩
  revert hx
  rintro ⟨g, cap, cur, rfl, hbg, hg, hnc⟩
  exact ⟨g, cap, cur, rfl, hbg, (hb.block g (Array.getElem?_eq_some_iff.1 hg).1).trans hg, hnc⟩
theorem add_mid (b o j : Nat) : (⟨b, o, none⟩ : Addr).add j = ⟨b, o + j, none⟩ := by unfold Addr.add; split <;> simp_all
theorem int_info : (Try.prog.info? 3).map (fun i => (i.zero, i.size, i.bytes)) = some (some (.int .i64 0), 1, 8) := by kernel_rfl
theorem list_info : (Try.prog.info? 22).map (fun i => (i.zero, i.size, i.bytes)) = some (some (.slice none 0 0), 1, 24) := by kernel_rfl

/-- which regions are asked -/
def visit (first regions : Int) : List Int :=
  if regions < 1 ∨ 8 < regions ∨ first < 0 ∨ regions ≤ first then [] else (List.range regions.toNat).map fun i : Nat => (first + (i : Int)) % regions
theorem visit_none {f r : Int} (h : r < 1 ∨ 8 < r ∨ f < 0 ∨ r ≤ f) : visit f r = [] := by unfold visit; rw [if_pos h]
theorem visit_some {f r : Int} (h : ¬ (r < 1 ∨ 8 < r ∨ f < 0 ∨ r ≤ f)) : visit f r = (List.range r.toNat).map fun i : Nat => (f + (i : Int)) % r := by unfold visit; rw [if_neg h]

set_option maxRecDepth 100000 in
set_option maxHeartbeats 1000000 in
theorem visit_calls (f r : Int) (w : World) :
    Calls Try.prog 28 #[.int .i64 f, .int .i64 r] w fun e w' => (∃ v, e = .returned v ∧ w'.ownsRow w.heap.size 3 1 v (visit f r).length (ints (visit f r))) ∧ Below w.heap.size w w' := by
  obtain ⟨i0, hi0, hz0⟩ := Option.map_eq_some_iff.1 int_info
  simp only [Prod.mk.injEq] at hz0
  obtain ⟨hz0, hz1, hz2⟩ := hz0
  by_cases hbad : r < 1 ∨ 8 < r ∨ f < 0 ∨ r ≤ f
  · rw [visit_none hbad]
    have hd : (decide (r < 1) || decide (r > 8) || decide (f < 0) || decide (f ≥ r)) = true := by simp; omega
    go_enter Try.func28, Try.ntmps28
    by_cases h1 : r < 1
    · have d1 : decide (r < 1) = true := by simpa using h1
      go_wp2
      go_ret
      exact ⟨⟨_, rfl, World.ownsRow_nil _ _ _ _⟩, Below.refl _ _⟩
    have d1 : decide (r < 1) = false := by simpa using h1
    by_cases h2 : r > 8
    · have d2 : decide (r > 8) = true := by simpa using h2
      go_wp2
      go_ret
      exact ⟨⟨_, rfl, World.ownsRow_nil _ _ _ _⟩, Below.refl _ _⟩
    have d2 : decide (r > 8) = false := by simpa using h2
    by_cases h3 : f < 0
    · have d3 : decide (f < 0) = true := by simpa using h3
      go_wp2
      go_ret
      exact ⟨⟨_, rfl, World.ownsRow_nil _ _ _ _⟩, Below.refl _ _⟩
    have d3 : decide (f < 0) = false := by simpa using h3
    have d4 : decide (f ≥ r) = true := by simp; omega
    go_wp2
    go_ret
    exact ⟨⟨_, rfl, World.ownsRow_nil _ _ _ _⟩, Below.refl _ _⟩
  · rw [visit_some hbad]
    have d1 : decide (r < 1) = false := by simp; omega
    have d2 : decide (r > 8) = false := by simp; omega
    have d3 : decide (f < 0) = false := by simp; omega
    have d4 : decide (f ≥ r) = false := by simp; omega
    obtain ⟨n, rfl⟩ : ∃ n : Nat, r = n := ⟨r.toNat, by omega⟩
    have hn : 1 ≤ n ∧ n ≤ 8 := by omega
    have hf : 0 ≤ f ∧ f < n := by omega
    rw [show ((n : Int)).toNat = n by omega]
    clear hbad
    go_enter Try.func28, Try.ntmps28
    go_wp2
    go_loopw [5, 23] (fun v i wr => ∃ k : Nat, k ≤ n ∧ i = .int .i64 k ∧ wr.ownsRow w.heap.size 3 1 v k (ints ((List.range k).map fun i : Nat => (f + (i : Int)) % (n : Int))) ∧ Below w.heap.size w wr) (fun _ i _ => n - (intOf i).toNat)
    case atStart => exact ⟨0, by omega, rfl, World.ownsRow_nil _ _ _ _, Below.refl _ _⟩
    case round =>
      obtain ⟨k, hk, rfl, hv, hb⟩ := hrel
      by_cases hlt : k < n
      · have hd : decide ((k : Int) < n) = true := by simp; omega
        have hal := (Below.refl wr.heap.size wr).alloc (Nat.le_refl _) (.cells #[.int .i64 ((f + (k : Int)) % (n : Int))] 3)
        have hva := row_later hv hal
        have hob := Ob.new wr 3 #[.int .i64 ((f + (k : Int)) % (n : Int))]
        have hba := hb.trans (hal.mono hb.size)
        have hnx : ints ((List.range (k + 1)).map fun i : Nat => (f + (i : Int)) % (n : Int)) = ints ((List.range k).map fun i : Nat => (f + (i : Int)) % (n : Int)) ++ [.int .i64 ((f + (k : Int)) % (n : Int))] := by
          rw [List.range_succ, List.map_append, ints_append]
          rfl
        go_wp2_with (at_builtin; go_must (refine wpList_append_own _ rfl (.tmp 26) (.tmp 32) 25 rfl w.heap.size 3 i0 _ 1 8 Try.underlying25 hi0 hz0 hz1 hz2 rfl (by omega) _ k _ rfl hva ⟨wr.heap.size, 0, none⟩ 1 1 [.int .i64 ((f + (k : Int)) % (n : Int))] rfl rfl (fun j u hu => by rw [add_mid, Nat.zero_add]; exact hob.cell (by simpa using hu)) (by simp [Value.oneCell']) (by unfold maxLen; omega) (by omega) hba.size ?_; intro v1 w1 hv1 hg1 hat1))
        exact ⟨⟨k + 1, by omega, by go_num, by rw [hnx]; exact hv1, hba.grown hg1 hba.size (fun g e => (hv.lt g e).1)⟩, by simp [intOf]; omega⟩
      · obtain rfl : k = n := by omega
        go_wp2
        go_ret
        exact ⟨⟨_, rfl, by simpa using hv⟩, hb⟩
end Sa
end Go.Proofs.Ythfpfomifebpbaa

namespace Go.Proofs.Ythfpfomifebpbaa
open Go.RowKit Go.Maps
namespace Sa
open It

theorem getD_get {α : Type} {d : α} {L : List α} {k : Nat} (hk : k < L.length) : L.getD k d = L[k] := by simp [hk]
def FitsL (L : List (List It.Item)) : Prop := ∀ l ∈ L, Fits l
theorem FitsL.get {L : List (List It.Item)} (h : FitsL L) {k : Nat} (hk : k < L.length) : Fits (L.getD k []) := by
  rw [getD_get hk]
  exact h _ (List.getElem_mem hk)
theorem allTo_snoc {P : Nat → Prop} {k : Nat} (h : ∀ j, j < k → P j) (h1 : P k) : ∀ j, j < k + 1 → P j := fun j hj => by
  by_cases h2 : j < k
  · exact h j h2
  · obtain rfl : j = k := by omega
    exact h1
def okAll (L : List (List It.Item)) (k : Nat) : Prop := ∀ j, j < k → may (L.getD j []) = true
theorem okAll_iff (L : List (List It.Item)) : okAll L L.length ↔ L.all may = true := by
  unfold okAll
  rw [List.all_eq_true]
  constructor
  · intro h x hx
    obtain ⟨j, hj, rfl⟩ := List.getElem_of_mem hx
    have := h j hj
    rwa [getD_get hj] at this
  · intro h j hj
    rw [getD_get hj]
    exact h _ (List.getElem_mem hj)

set_option maxHeartbeats 400000 in
theorem noP_calls (l : List It.Item) (v : Value) (w : World) (h : ItemsAt w 0 w.heap.size v l) (hF : Fits l) :
    Calls Try.prog 110 #[v] w fun e w' => e = .returned (.bool (!may l)) ∧ Below w.heap.size w w' := by
  have cM := Lib.hid (may_calls l v w h hF)
  obtain ⟨A, c, rfl, -⟩ := h.form
  clear h
  go_enter Try.func110, Try.ntmps110
  go_wp2_with fail
  refine cM.out.mono ?_
  rintro e w1 ⟨rfl, hb⟩
  go_wp2
  go_ret
  exact ⟨rfl, hb⟩

set_option maxRecDepth 100000 in
set_option maxHeartbeats 1000000 in
theorem indexP_calls (L : List (List It.Item)) (v : Value) (w : World) (hv : GotAt w 0 w.heap.size v L) (hF : FitsL L) :
    Calls Try.prog 88 #[v, .func (.func 110) #[] #[]] w fun e w' => (∃ r : Int, e = .returned (.int .i64 r) ∧ (0 ≤ r ↔ ¬ okAll L L.length)) ∧ Below w.heap.size w w' := by
  have hv0 := Lib.hid hv
  obtain ⟨A, c, rfl, hc1, hc2⟩ := hv.form
  clear hv
  unfold maxLen at hc2
  go_enter Try.func88, Try.ntmps88
  go_wp2
  go_loopw [8] (fun i wr => ∃ k : Nat, k ≤ L.length ∧ i = .int .i64 k ∧ okAll L k ∧ Below w.heap.size w wr) (fun i _ => L.length - (intOf i).toNat)
  case atStart => exact ⟨0, by omega, rfl, (fun j hj => by omega), Below.refl _ _⟩
  case round =>
    obtain ⟨k, hk, rfl, hN, hb⟩ := hrel
    have HN := Lib.hid hN
    clear hN
    by_cases hlt : k < L.length
    · obtain ⟨b, o, x, rfl, _, hbB, hck, hx⟩ := (hv0.out.below hb).cellAt hlt
      have hx := hx.wide (Nat.le_refl _) hb.size
      have HF := Lib.hid (hF.get hlt)
      generalize hy : L.getD k [] = y at hx HF
      have HY := Lib.hid hy
      clear hy
      obtain ⟨A1, c1, rfl, -⟩ := hx.form
      have cN := Lib.hid (noP_calls y _ _ hx HF.out)
      clear hx
      generalize ho : may y = ok at cN
      have HO := Lib.hid ho
      clear ho
      go_wp2_with fail
      refine cN.out.mono ?_
      rintro e w' ⟨rfl, hb1⟩
      cases ok with
      | true =>
        go_wp2_with fail
        go_roundw
        case rel => exact ⟨k + 1, by omega, by go_num, allTo_snoc HN.out (by rw [HY.out, HO.out]), hb.trans (hb1.mono hb.size)⟩
        case measure => simp [intOf]; omega
      | false =>
        go_wp2_with fail
        go_ret
        refine ⟨⟨k, rfl, ⟨fun _ h => ?_, fun _ => by omega⟩⟩, hb.trans (hb1.mono hb.size)⟩
        have := h k hlt
        rw [HY.out, HO.out] at this
        cases this
    · obtain rfl : k = L.length := by omega
      go_wp2
      go_ret
      exact ⟨⟨-1, rfl, Iff.intro (fun h => by omega) (fun h => absurd HN.out h)⟩, hb⟩

set_option maxHeartbeats 1000000 in
theorem containsP_calls (L : List (List It.Item)) (v : Value) (w : World) (hv : GotAt w 0 w.heap.size v L) (hF : FitsL L) :
    Calls Try.prog 70 #[v, .func (.func 110) #[] #[]] w fun e w' => e = .returned (.bool (!(L.all may))) ∧ Below w.heap.size w w' := by
  have cI := Lib.hid (indexP_calls L v w hv hF)
  obtain ⟨A, c, rfl, hc1, hc2⟩ := hv.form
  clear hv
  go_enter Try.func70, Try.ntmps70
  go_wp2_with fail
  refine cI.out.mono ?_
  rintro e w' ⟨⟨r, rfl, hr⟩, hb⟩
  have HR := Lib.hid (show (!(L.all may)) = decide (r ≥ 0) by
    rw [Bool.eq_iff_iff, decide_eq_true_eq, ge_iff_le, hr, okAll_iff]
    cases L.all may <;> simp)
  clear hr
  go_wp2
  go_ret
  exact ⟨by rw [HR.out]; rfl, hb⟩

set_option maxHeartbeats 400000 in
theorem noS_calls (l : List It.Item) (v : Value) (w : World) (h : ItemsAt w 0 w.heap.size v l) (hF : Fits l) :
    Calls Try.prog 71 #[v] w fun e w' => e = .returned (.bool (!may l)) ∧ Below w.heap.size w w' := by
  have cM := Lib.hid (may_calls l v w h hF)
  obtain ⟨A, c, rfl, -⟩ := h.form
  clear h
  go_enter Try.func71, Try.ntmps71
  go_wp2_with fail
  refine cM.out.mono ?_
  rintro e w1 ⟨rfl, hb⟩
  go_wp2
  go_ret
  exact ⟨rfl, hb⟩

set_option maxRecDepth 100000 in
set_option maxHeartbeats 1000000 in
theorem indexS_calls (L : List (List It.Item)) (v : Value) (w : World) (hv : GotAt w 0 w.heap.size v L) (hF : FitsL L) :
    Calls Try.prog 88 #[v, .func (.func 71) #[] #[]] w fun e w' => (∃ r : Int, e = .returned (.int .i64 r) ∧ (0 ≤ r ↔ ¬ okAll L L.length)) ∧ Below w.heap.size w w' := by
  have hv0 := Lib.hid hv
  obtain ⟨A, c, rfl, hc1, hc2⟩ := hv.form
  clear hv
  unfold maxLen at hc2
  go_enter Try.func88, Try.ntmps88
  go_wp2
  go_loopw [8] (fun i wr => ∃ k : Nat, k ≤ L.length ∧ i = .int .i64 k ∧ okAll L k ∧ Below w.heap.size w wr) (fun i _ => L.length - (intOf i).toNat)
  case atStart => exact ⟨0, by omega, rfl, (fun j hj => by omega), Below.refl _ _⟩
  case round =>
    obtain ⟨k, hk, rfl, hN, hb⟩ := hrel
    have HN := Lib.hid hN
    clear hN
    by_cases hlt : k < L.length
    · obtain ⟨b, o, x, rfl, _, hbB, hck, hx⟩ := (hv0.out.below hb).cellAt hlt
      have hx := hx.wide (Nat.le_refl _) hb.size
      have HF := Lib.hid (hF.get hlt)
      generalize hy : L.getD k [] = y at hx HF
      have HY := Lib.hid hy
      clear hy
      obtain ⟨A1, c1, rfl, -⟩ := hx.form
      have cN := Lib.hid (noS_calls y _ _ hx HF.out)
      clear hx
      generalize ho : may y = ok at cN
      have HO := Lib.hid ho
      clear ho
      go_wp2_with fail
      refine cN.out.mono ?_
      rintro e w' ⟨rfl, hb1⟩
      cases ok with
      | true =>
        go_wp2_with fail
        go_roundw
        case rel => exact ⟨k + 1, by omega, by go_num, allTo_snoc HN.out (by rw [HY.out, HO.out]), hb.trans (hb1.mono hb.size)⟩
        case measure => simp [intOf]; omega
      | false =>
        go_wp2_with fail
        go_ret
        refine ⟨⟨k, rfl, ⟨fun _ h => ?_, fun _ => by omega⟩⟩, hb.trans (hb1.mono hb.size)⟩
        have := h k hlt
        rw [HY.out, HO.out] at this
        cases this
    · obtain rfl : k = L.length := by omega
      go_wp2
      go_ret
      exact ⟨⟨-1, rfl, Iff.intro (fun h => by omega) (fun h => absurd HN.out h)⟩, hb⟩

set_option maxHeartbeats 1000000 in
theorem containsS_calls (L : List (List It.Item)) (v : Value) (w : World) (hv : GotAt w 0 w.heap.size v L) (hF : FitsL L) :
    Calls Try.prog 70 #[v, .func (.func 71) #[] #[]] w fun e w' => e = .returned (.bool (!(L.all may))) ∧ Below w.heap.size w w' := by
  have cI := Lib.hid (indexS_calls L v w hv hF)
  obtain ⟨A, c, rfl, hc1, hc2⟩ := hv.form
  clear hv
  go_enter Try.func70, Try.ntmps70
  go_wp2_with fail
  refine cI.out.mono ?_
  rintro e w' ⟨⟨r, rfl, hr⟩, hb⟩
  have HR := Lib.hid (show (!(L.all may)) = decide (r ≥ 0) by
    rw [Bool.eq_iff_iff, decide_eq_true_eq, ge_iff_le, hr, okAll_iff]
    cases L.all may <;> simp)
  clear hr
  go_wp2
  go_ret
  exact ⟨by rw [HR.out]; rfl, hb⟩

def mayAll (want : List It.Item) (L : List (List It.Item)) : Bool := may want && decide (L.length ≤ 8) && L.all may
set_option maxHeartbeats 1000000 in
theorem planmay_calls (want : List It.Item) (L : List (List It.Item)) (va vb : Value) (w : World) (ha : ItemsAt w 0 w.heap.size va want) (hFa : Fits want) (hb : GotAt w 0 w.heap.size vb L) (hFb : FitsL L) :
    Calls Try.prog 96 #[va, vb] w fun e w' => e = .returned (.bool (mayAll want L)) ∧ Below w.heap.size w w' := by
  have cM := Lib.hid (may_calls want va w ha hFa)
  have cC := Lib.hid (fun W (h : Below w.heap.size w W) => containsP_calls L vb W ((hb.below h).wide (Nat.le_refl _) h.size) hFb)
  obtain ⟨A, c, rfl, -⟩ := ha.form
  obtain ⟨A', c', rfl, hc1, hc2⟩ := hb.form
  unfold maxLen at hc2
  clear ha hb
  unfold mayAll
  generalize may want = m at cM ⊢
  generalize L.all may = q at cC ⊢
  go_enter Try.func96, Try.ntmps96
  go_wp2_with fail
  refine cM.out.mono ?_
  rintro e w1 ⟨rfl, hb1⟩
  cases m with
  | false =>
    go_wp2
    go_ret
    exact ⟨rfl, hb1⟩
  | true =>
    by_cases h8 : L.length ≤ 8
    · have d8 : decide ((L.length : Int) ≤ 8) = true := by simp; omega
      go_wp2_with fail
      refine (cC.out _ hb1).mono ?_
      rintro e w2 ⟨rfl, hb2⟩
      cases q with
      | true =>
        go_wp2
        go_ret
        exact ⟨by simp [h8], hb1.trans (hb2.mono hb1.size)⟩
      | false =>
        go_wp2
        go_ret
        exact ⟨by simp [h8], hb1.trans (hb2.mono hb1.size)⟩
    · have d8 : decide ((L.length : Int) ≤ 8) = false := by simp; omega
      go_wp2
      go_ret
      exact ⟨by simp [h8], hb1⟩
end Sa
end Go.Proofs.Ythfpfomifebpbaa

namespace Go.Proofs.Ythfpfomifebpbaa
open Go.RowKit
namespace It

def okTo (l : List Int) (k : Nat) : Prop := ∀ j, j < k → countOk (l.getD j 0) = true
theorem allTo_snoc {l : List Int} {k : Nat} (h : okTo l k) (h1 : countOk (l.getD k 0) = true) : okTo l (k + 1) := by
  intro j hj
  rcases Nat.lt_or_ge j k with h2 | h2
  · exact h j h2
  · have : j = k := by omega
    subst this
    exact h1

theorem countOk_iff (n : Int) : countOk n = true ↔ 0 ≤ n ∧ n ≤ 1099511627776 := by unfold countOk; simp

/-- the sum, and why not -/
def addOf (a b : Int) : Int × Int := if countOk a && countOk b then if a + b ≤ 1099511627776 then (a + b, 0) else (0, 50) else (0, 1)

end It
end Go.Proofs.Ythfpfomifebpbaa

namespace Go.Proofs.Ythfpfomifebpbaa
open Go.RowKit Go.Maps

/-- a kind of keys -/
structure KeyK (κ : Type) [DecidableEq κ] where
  lit : κ → Lit
  lt : κ → κ → Bool
  before : ∀ a b, (lit a).before (lit b) = lt a b
  same : ∀ a b, (lit a).sameKey (lit b) = decide (a = b)
  isKey : ∀ a, WideAt.IsKeyLit (lit a)

def intK : KeyK Int where
  lit := Lit.int .i64
  lt a b := decide (a < b)
  before a b := rfl
  same a b := by simp [Lit.sameKey]
  isKey _ := trivial
def strK : KeyK (List UInt8) where
  lit := Lit.string
  lt a b := bytesBefore a b
  before a b := rfl
  same a b := by
    simp only [Lit.sameKey]
    rw [Bool.eq_iff_iff]; simp
  isKey _ := trivial

section
variable {κ : Type} [DecidableEq κ] (K : KeyK κ)
def mGet (m : List (κ × Value)) (k : κ) : Option Value := (m.find? (fun p => decide (p.1 = k))).map (·.2)
def mIns (k : κ) (v : Value) : List (κ × Value) → List (κ × Value)
  | [] => [(k, v)]
  | p :: r => if K.lt k p.1 then (k, v) :: p :: r else p :: mIns k v r
def mDel (m : List (κ × Value)) (k : κ) : List (κ × Value) := m.filter (fun p => !decide (p.1 = k))
def mPut (m : List (κ × Value)) (k : κ) (v : Value) : List (κ × Value) := mIns K k v (mDel m k)
/-- the map's datum -/
def mEs (m : List (κ × Value)) : List (Lit × DataW Value) := m.map fun p => (K.lit p.1, .held p.2)
def hold (v : Value) : Option (DataW Value × List MemPlace) := some (.held v, [])

theorem mEs_ins (k : κ) (v : Value) (m : List (κ × Value)) : DataW.insert (K.lit k, .held v) (mEs K m) = mEs K (mIns K k v m) := by
  induction m with
  | nil => rfl
  | cons p r ih =>
    simp only [mEs, List.map_cons, DataW.insert, mIns] at ih ⊢
    rw [K.before]
    split
    · simp
    · rw [ih]; simp
theorem mEs_del (k : κ) (m : List (κ × Value)) : (mEs K m).filter (fun p => !p.1.sameKey (K.lit k)) = mEs K (mDel m k) := by
  induction m with
  | nil => rfl
  | cons p r ih =>
    simp only [mEs, List.map_cons, mDel, List.filter_cons, K.same] at ih ⊢
    split <;> simp_all
theorem mEs_put (k : κ) (v : Value) (m : List (κ × Value)) : (DataW.map (mEs K m)).put (K.lit k) (.held v) = .map (mEs K (mPut K m k v)) := by
  simp only [DataW.put, mPut]
  rw [mEs_del, mEs_ins]
theorem mEs_get (k : κ) (z : Value) (m : List (κ × Value)) : (DataW.map (mEs K m)).atKey (K.lit k) (.held z) = .held ((mGet m k).getD z) := by
  induction m with
  | nil => rfl
  | cons p r ih =>
    simp only [mEs, DataW.atKey, mGet, List.map_cons, List.find?_cons, K.same] at ih ⊢
    by_cases h : p.1 = k
    · simp [h]
    · simp only [h, decide_false]; exact ih
theorem mEs_has (k : κ) (m : List (κ × Value)) : Maps.has (DataW.map (mEs K m)) (K.lit k) = (mGet m k).isSome := by
  induction m with
  | nil => rfl
  | cons p r ih =>
    simp only [mEs, List.map_cons, Maps.has, mGet, List.find?_cons, List.any_cons, K.same] at ih ⊢
    by_cases h : p.1 = k <;> simp_all

/-- block b is a map that reads as m -/
def GMap (w : World) (P : Program) (t : TypeId) (b : Nat) (m : List (κ × Value)) : Prop := w.ownsMap (H := Value) P t hold b m.length (.map (mEs K m))

variable {K}
variable {w w' : World} {P : Program} {t : TypeId} {b : Nat} {m : List (κ × Value)}
theorem GMap.of {n : Nat} (h : w.ownsMap (H := Value) P t hold b n (.map (mEs K m))) : GMap K w P t b m := by
  obtain ⟨es, clock, hb, F, _, e⟩ := h
  refine ⟨es, clock, hb, F, ?_, e⟩
  have h1 := congrArg Maps.size e
  simp [Maps.size, length_sorted, mEs] at h1
  omega
theorem GMap.made (w : World) (P : Program) (t : TypeId) : GMap K (w.alloc (.map #[] 0)) P t w.heap.size [] := World.ownsMap_made w P t hold
theorem GMap.kept {row : Option Nat} (h : GMap K w P t b m) (hg : w.grownBy w' row) (hne : some b ≠ row) : GMap K w' P t b m := World.ownsMap.kept h hg hne
theorem GMap.lt (h : GMap K w P t b m) : b < w.heap.size := World.ownsMap.lt h
theorem GMap.below {B : Nat} (h : GMap K w P t b m) (hb : Below B w w') (hB : b < B) : GMap K w' P t b m := by
  obtain ⟨es, clock, h1, F, h2, e⟩ := h
  exact ⟨es, clock, (hb.block b hB).trans h1, F, h2, e⟩
theorem GMap.sorted (h : GMap K w P t b m) (KK : Keyed P t) : m.Pairwise (fun p q => K.lt p.1 q.1 = true) := by
  obtain ⟨es, e, h1, _⟩ := World.ownsMap.canon h KK
  injection e with e
  subst e
  simp only [mEs, List.pairwise_map, K.before] at h1
  exact h1
theorem GMap.look {tm e : TypeId} (h : GMap K w P t b m) (KK : Keyed P t) (ht : P.underlying tm = some (.map t e)) {z : Value} (hz : (zeroValue e).run P w = .ok z w) {key : Value} {k : κ} (hkey : keyOf P t key = some (K.lit k)) :
    (Instr.lookup tm (.map (some b)) key false).run P w = .ok ((mGet m k).getD z) w := by
  obtain ⟨v, ps, hrun, hv⟩ := World.ownsMap.lookup h KK ht hz (zd := .held z) (zp := []) rfl hkey
  rw [mEs_get] at hv
  have e : v = (mGet m k).getD z := by simp only [hold, Option.some.injEq, Prod.mk.injEq, DataW.held.injEq] at hv; exact hv.1
  rw [hrun, e]
theorem GMap.look_ok {tm e : TypeId} (h : GMap K w P t b m) (KK : Keyed P t) (ht : P.underlying tm = some (.map t e)) {z : Value} (hz : (zeroValue e).run P w = .ok z w) {key : Value} {k : κ} (hkey : keyOf P t key = some (K.lit k)) :
    (Instr.lookup tm (.map (some b)) key true).run P w = .ok (.tuple #[(mGet m k).getD z, .bool (mGet m k).isSome]) w := by
  obtain ⟨v, ps, hrun, hv⟩ := World.ownsMap.look_ok h KK ht hz (zd := .held z) (zp := []) rfl hkey
  rw [mEs_get] at hv
  have e : v = (mGet m k).getD z := by simp only [hold, Option.some.injEq, Prod.mk.injEq, DataW.held.injEq] at hv; exact hv.1
  rw [hrun, e, mEs_has]
theorem GMap.put {tm e : TypeId} (h : GMap K w P t b m) (KK : Keyed P t) (ht : P.underlying tm = some (.map t e)) (hn : m.length < maxLen) {key val : Value} {k : κ} (hkey : keyOf P t key = some (K.lit k)) :
    ∃ w', (Instr.mapUpdate tm (.map (some b)) key val).run P w = .ok () w' ∧ GMap K w' P t b (mPut K m k val) ∧ w.grownBy w' (some b) := by
  obtain ⟨w', hrun, h1, h2⟩ := World.ownsMap.update h KK ht hn hkey (val := val) (d := .held val) (ps := []) rfl
  rw [mEs_put] at h1
  exact ⟨w', hrun, GMap.of h1, h2⟩
theorem GMap.del {tm e : TypeId} (h : GMap K w P t b m) (KK : Keyed P t) (ht : P.underlying tm = some (.map t e)) {key : Value} {k : κ} (hkey : keyOf P t key = some (K.lit k)) (ty : TypeId) :
    ∃ w', (Builtin.delete_ #[tm, t] ty #[.map (some b), key]).run P w = .ok (.tuple #[]) w' ∧ GMap K w' P t b (mDel m k) ∧ w.grownBy w' (some b) := by
  obtain ⟨w', hrun, h1, h2⟩ := World.ownsMap.drop h KK ht hkey ty
  simp only [DataW.del] at h1
  rw [mEs_del] at h1
  exact ⟨w', hrun, GMap.of h1, h2.grown⟩
theorem GMap.len {tm e : TypeId} (h : GMap K w P t b m) (ht : P.underlying tm = some (.map t e)) (ty : TypeId) : (Builtin.len_ #[tm] ty #[.map (some b)]).run P w = .ok (.int .i64 m.length) w := by
  rw [World.ownsMap.len h ht ty]
  simp [Maps.size, mEs]
end

section
variable {κ : Type} [DecidableEq κ] {K : KeyK κ} {P : Program} {w : World} {b : Nat} {m : List (κ × Value)} {ops : Array Oper} {rest : List Oper} {o : Oper} {a : Act} {Q : Exit → Act → World → Prop}
theorem wpList_put_g (hg : o.guard = none) (x y z : Operand) (tm : TypeId) (hop : o.op = Op.mapUpdate tm x y z) (t e : TypeId) (KK : Keyed P t) (ht : P.underlying tm = some (.map t e))
    (hm : a.eval x = .map (some b)) (h : GMap K w P t b m) (hn : m.length < maxLen) (key val : Value) (k : κ) (hx : a.eval y = key) (hv : a.eval z = val) (hkey : keyOf P t key = some (K.lit k))
    (hK : ∀ w', GMap K w' P t b (mPut K m k val) → w.grownBy w' (some b) → wpList P ops Q rest (a.put o.dst undef) w') :
    wpList P ops Q (o :: rest) a w := by
  refine wpList_plain hg fun K' hK' => ?_
  obtain ⟨w', hrun, r1, r2⟩ := h.put KK ht hn hkey (val := val)
  unfold Oper.wp
  simp [execOp, hop, hm, hx, hv, hrun, Result.andThen]
  exact hK' _ _ (hK w' r1 r2)
theorem wpList_del_g (hg : o.guard = none) (x y : Operand) (tm t : TypeId) (hop : o.op = Op.call { callee := Callee.builtin Builtin.delete, args := #[x, y], argTypes := #[tm, t] })
    (e : TypeId) (KK : Keyed P t) (ht : P.underlying tm = some (.map t e)) (hm : a.eval x = .map (some b)) (h : GMap K w P t b m) (key : Value) (k : κ) (hx : a.eval y = key) (hkey : keyOf P t key = some (K.lit k))
    (hK : ∀ w', GMap K w' P t b (mDel m k) → w.grownBy w' (some b) → wpList P ops Q rest (a.put o.dst (.tuple #[])) w') :
    wpList P ops Q (o :: rest) a w := by
  refine wpList_plain hg fun K' hK' => ?_
  obtain ⟨w', hrun, r1, r2⟩ := h.del KK ht hkey o.type
  unfold Oper.wp
  simp [execOp, hop, resolve, invoke, builtin, hm, hx, hrun, Result.andThen]
  exact hK' _ _ (hK w' r1 r2)
theorem wpList_look_g (hg : o.guard = none) (x y : Operand) (tm : TypeId) (hop : o.op = Op.lookup tm x y false) (t e : TypeId) (KK : Keyed P t) (ht : P.underlying tm = some (.map t e))
    (hm : a.eval x = .map (some b)) (h : GMap K w P t b m) {z : Value} (hz : (zeroValue e).run P w = .ok z w) (key : Value) (k : κ) (hx : a.eval y = key) (hkey : keyOf P t key = some (K.lit k))
    (r : Value) (hr : (mGet m k).getD z = r) (hK : wpList P ops Q rest (a.put o.dst r) w) :
    wpList P ops Q (o :: rest) a w := by
  refine wpList_plain hg fun K' hK' => ?_
  have hrun := h.look KK ht hz hkey
  rw [hr] at hrun
  unfold Oper.wp
  simp [execOp, hop, hm, hx, hrun, Result.andThen]
  exact hK' _ _ hK
theorem wpListIn_put_g {F : Fence} {N : Nat} (hg : o.guard = none) (x y z : Operand) (tm : TypeId) (hop : o.op = Op.mapUpdate tm x y z) (t e : TypeId) (KK : Keyed P t) (ht : P.underlying tm = some (.map t e))
    (hm : a.eval x = .map (some b)) (h : GMap K w P t b m) (hn : m.length < maxLen) (key val : Value) (k : κ) (hx : a.eval y = key) (hv : a.eval z = val) (hkey : keyOf P t key = some (K.lit k))
    (hK : ∀ w', GMap K w' P t b (mPut K m k val) → w.grownBy w' (some b) → wpListIn F N P ops Q rest (a.put o.dst undef) w') :
    wpListIn F N P ops Q (o :: rest) a w := by
  refine wpListIn_plain hg fun K' hK' => ?_
  obtain ⟨w', hrun, r1, r2⟩ := h.put KK ht hn hkey (val := val)
  unfold Oper.wpIn
  refine ⟨by simp [Oper.about, hop], ?_⟩
  rw [Oper.semAt_eq _ _ _ (by rw [hop]; intro c hc; cases hc)]
  simp [execOp, hop, hm, hx, hv, hrun, Result.andThen]
  exact hK' _ _ (hK w' r1 r2)
theorem wpListIn_look_g {F : Fence} {N : Nat} (hg : o.guard = none) (x y : Operand) (tm : TypeId) (hop : o.op = Op.lookup tm x y false) (t e : TypeId) (KK : Keyed P t) (ht : P.underlying tm = some (.map t e))
    (hm : a.eval x = .map (some b)) (h : GMap K w P t b m) {z : Value} (hz : (zeroValue e).run P w = .ok z w) (key : Value) (k : κ) (hx : a.eval y = key) (hkey : keyOf P t key = some (K.lit k))
    (r : Value) (hr : (mGet m k).getD z = r) (hK : wpListIn F N P ops Q rest (a.put o.dst r) w) :
    wpListIn F N P ops Q (o :: rest) a w := by
  refine wpListIn_plain hg fun K' hK' => ?_
  have hrun := h.look KK ht hz hkey
  rw [hr] at hrun
  unfold Oper.wpIn
  refine ⟨by simp [Oper.about, hop], ?_⟩
  rw [Oper.semAt_eq _ _ _ (by rw [hop]; intro c hc; cases hc)]
  simp [execOp, hop, hm, hx, hrun, Result.andThen]
  exact hK' _ _ hK
end

/-! the lists -/
section
variable {κ : Type} [DecidableEq κ] {K : KeyK κ}
theorem mGet_cons (p : κ × Value) (m : List (κ × Value)) (k : κ) : mGet (p :: m) k = if p.1 = k then some p.2 else mGet m k := by
  unfold mGet
  rw [List.find?_cons]
  by_cases h : p.1 = k <;> simp [h]
theorem mGet_ins_same (m : List (κ × Value)) (k : κ) (v : Value) (h : mGet m k = none) : mGet (mIns K k v m) k = some v := by
  induction m with
  | nil => simp [mIns, mGet]
  | cons p r ih =>
    rw [mGet_cons] at h
    have h1 : p.1 ≠ k := by intro e; rw [if_pos e] at h; cases h
    rw [if_neg h1] at h
    unfold mIns
    split
    · simp [mGet_cons]
    · rw [mGet_cons, if_neg h1]; exact ih h
theorem mGet_ins_other (m : List (κ × Value)) (k k' : κ) (v : Value) (hne : k' ≠ k) : mGet (mIns K k v m) k' = mGet m k' := by
  induction m with
  | nil => simp [mIns, mGet_cons, hne.symm]
  | cons p r ih =>
    unfold mIns
    split
    · rw [mGet_cons, if_neg hne.symm]
    · rw [mGet_cons, mGet_cons, ih]
theorem mGet_del_same (m : List (κ × Value)) (k : κ) : mGet (mDel m k) k = none := by
  induction m with
  | nil => rfl
  | cons p r ih =>
    unfold mDel at ih ⊢
    rw [List.filter_cons]
    split
    · rename_i h
      rw [mGet_cons, if_neg (by simpa using h)]; exact ih
    · exact ih
theorem mGet_del_other (m : List (κ × Value)) (k k' : κ) (hne : k' ≠ k) : mGet (mDel m k) k' = mGet m k' := by
  induction m with
  | nil => rfl
  | cons p r ih =>
    unfold mDel at ih ⊢
    rw [List.filter_cons]
    split
    · rw [mGet_cons, mGet_cons, ih]
    · rename_i h
      rw [mGet_cons, ih, if_neg]
      intro e
      have : p.1 = k := by simpa using h
      exact hne (e.symm.trans this)
theorem mGet_put_same (m : List (κ × Value)) (k : κ) (v : Value) : mGet (mPut K m k v) k = some v := mGet_ins_same _ _ _ (mGet_del_same m k)
theorem mGet_put_other (m : List (κ × Value)) (k k' : κ) (v : Value) (hne : k' ≠ k) : mGet (mPut K m k v) k' = mGet m k' := by
  unfold mPut; rw [mGet_ins_other _ _ _ _ hne, mGet_del_other _ _ _ hne]
theorem mIns_length (m : List (κ × Value)) (k : κ) (v : Value) : (mIns K k v m).length = m.length + 1 := by
  induction m with
  | nil => rfl
  | cons p r ih => unfold mIns; split <;> simp [ih]
theorem mDel_length_le (m : List (κ × Value)) (k : κ) : (mDel m k).length ≤ m.length := List.length_filter_le _ _
theorem mPut_length_le (m : List (κ × Value)) (k : κ) (v : Value) : (mPut K m k v).length ≤ m.length + 1 := by
  unfold mPut; rw [mIns_length]; have := mDel_length_le m k; omega
end
end Go.Proofs.Ythfpfomifebpbaa

namespace Go.Proofs.Ythfpfomifebpbaa
open Go.RowKit Go.Maps
namespace It

def key (x : Item) : List UInt8 := x.1.data.toList
def okC (x : Item) : Bool := good x.1 && countOk x.2
/-- how many of a good a list has in all -/
def tot (k : List UInt8) : List Item → Int
  | [] => 0
  | x :: l => (if key x = k then x.2 else 0) + tot k l
def over (l : List Item) : Bool := l.any fun x => decide (1099511627776 < tot (key x) l)
def sumsCode (l : List Item) : Int := if l.all okC then (if over l then 50 else 0) else 60

theorem tot_snoc (k : List UInt8) (l : List Item) (x : Item) : tot k (l ++ [x]) = tot k l + (if key x = k then x.2 else 0) := by
  induction l with
  | nil => simp [tot]
  | cons y l ih => simp only [List.cons_append, tot, ih]; omega
theorem tot_append (k : List UInt8) (l r : List Item) : tot k (l ++ r) = tot k l + tot k r := by
  induction l with
  | nil => simp [tot]
  | cons y l ih => simp only [List.cons_append, tot, ih]; omega
theorem okC_le {x : Item} (h : okC x = true) : 0 ≤ x.2 ∧ x.2 ≤ 1099511627776 := by
  unfold okC at h
  rw [Bool.and_eq_true] at h
  exact (countOk_iff _).1 h.2
theorem tot_nonneg (k : List UInt8) : ∀ (l : List Item), l.all okC = true → 0 ≤ tot k l
  | [], _ => by simp [tot]
  | x :: l, h => by
    rw [List.all_cons, Bool.and_eq_true] at h
    have h1 := tot_nonneg k l h.2
    have h2 := okC_le h.1
    simp only [tot]
    split <;> omega
theorem all_snoc (l : List Item) (x : Item) : (l ++ [x]).all okC = (l.all okC && okC x) := by simp
theorem all_prefix {p l : List Item} (h : p <+: l) (hl : l.all okC = true) : p.all okC = true := by
  obtain ⟨r, rfl⟩ := h
  rw [List.all_append, Bool.and_eq_true] at hl
  exact hl.1
theorem over_prefix {p l : List Item} (h : p <+: l) (hl : l.all okC = true) (hp : over p = true) : over l = true := by
  obtain ⟨r, rfl⟩ := h
  rw [List.all_append, Bool.and_eq_true] at hl
  obtain ⟨x, hx, hd⟩ := List.any_eq_true.1 hp
  refine List.any_eq_true.2 ⟨x, by simp [hx], ?_⟩
  rw [decide_eq_true_iff] at hd ⊢
  rw [tot_append]
  have := tot_nonneg (key x) r hl.2
  omega
theorem over_not {l : List Item} (h : over l = false) {x : Item} (hx : x ∈ l) : tot (key x) l ≤ 1099511627776 := by
  have := List.any_eq_false.1 h x hx
  simpa using this
theorem tot_out {k : List UInt8} : ∀ {l : List Item}, k ∉ l.map key → tot k l = 0
  | [], _ => rfl
  | x :: l, h => by
    rw [List.map_cons, List.mem_cons, not_or] at h
    simp only [tot]
    rw [if_neg (fun e => h.1 e.symm), tot_out h.2]
    rfl
theorem over_snoc {l : List Item} {x : Item} (h : over l = false) (hx : 0 ≤ x.2) : over (l ++ [x]) = decide (1099511627776 < tot (key x) l + x.2) := by
  rw [Bool.eq_iff_iff, decide_eq_true_iff]
  unfold over
  rw [List.any_eq_true]
  constructor
  · rintro ⟨y, hy, hd⟩
    rw [decide_eq_true_iff, tot_snoc] at hd
    by_cases e : key x = key y
    · rw [if_pos e] at hd; rw [e]; exact hd
    · rw [if_neg e] at hd
      rw [List.mem_append, List.mem_singleton] at hy
      rcases hy with hy | rfl
      · have := over_not h hy; omega
      · exact absurd rfl e
  · intro hd
    refine ⟨x, by simp, ?_⟩
    rw [decide_eq_true_iff, tot_snoc, if_pos rfl]
    exact hd
theorem tot_le {l : List Item} (h : over l = false) (k : List UInt8) : tot k l ≤ 1099511627776 := by
  by_cases hk : k ∈ l.map key
  · obtain ⟨x, hx, rfl⟩ := List.mem_map.1 hk
    exact over_not h hx
  · rw [tot_out hk]; omega

/-- the map says of each good how many there are -/
def Tells (m : List (List UInt8 × Value)) (l : List Item) : Prop := ∀ k, mGet m k = if k ∈ l.map key then some (.int .i64 (tot k l)) else none
theorem Tells.nil : Tells [] [] := fun _ => rfl
theorem Tells.put {m : List (List UInt8 × Value)} {l : List Item} (h : Tells m l) (x : Item) : Tells (mPut strK m (key x) (.int .i64 (tot (key x) l + x.2))) (l ++ [x]) := by
  intro k
  rw [tot_snoc]
  by_cases e : k = key x
  · subst e
    rw [mGet_put_same, if_pos (by simp), if_pos rfl]
  · rw [mGet_put_other _ _ _ _ e, h k, if_neg (Ne.symm e), Int.add_zero]
    have : k ∈ (l ++ [x]).map key ↔ k ∈ l.map key := by simp [e]
    by_cases hk : k ∈ l.map key
    · rw [if_pos hk, if_pos (this.2 hk)]
    · rw [if_neg hk, if_neg (fun h => hk (this.1 h))]
theorem Tells.have_ {m : List (List UInt8 × Value)} {l : List Item} (h : Tells m l) (k : List UInt8) : (mGet m k).getD (.int .i64 0) = .int .i64 (tot k l) := by
  rw [h k]
  by_cases hk : k ∈ l.map key
  · rw [if_pos hk]; rfl
  · rw [if_neg hk, tot_out hk]; rfl
end It
end Go.Proofs.Ythfpfomifebpbaa

namespace Go.Proofs.Ythfpfomifebpbaa
open Go.RowKit Go.Maps
namespace It
attribute [local go_sem] Oper.semAt_some

theorem keyedS : Keyed Try.prog 9 := string_keyed Try.underlying9
theorem zeroI (w : World) : (zeroValue 3).run Try.prog w = .ok (.int .i64 0) w := by kernel_rfl
theorem key_str {s : ByteArray} (h : s.size ≤ maxLen) : keyOf Try.prog 9 (.string s) = some (strK.lit s.data.toList) := WideMaps.keyOf_string_mk Try.underlying9 h

end It
end Go.Proofs.Ythfpfomifebpbaa

namespace Go.Proofs.Ythfpfomifebpbaa
open Go.RowKit Go.Maps
namespace It

theorem uniq {α : Type} {r : α → α → Prop} (irr : ∀ x, ¬ r x x) (asy : ∀ x y, r x y → ¬ r y x) : ∀ {a b : List α}, a.Pairwise r → b.Pairwise r → (∀ x, x ∈ a ↔ x ∈ b) → a = b
  | [], [], _, _, _ => rfl
  | [], y :: b, _, _, h => by have := (h y).2 (by simp); simp at this
  | x :: a, [], _, _, h => by have := (h x).1 (by simp); simp at this
  | x :: a, y :: b, ha, hb, h => by
    rw [List.pairwise_cons] at ha hb
    have e : x = y := by
      rcases List.mem_cons.1 ((h x).1 (by simp)) with e | h1
      · exact e
      · rcases List.mem_cons.1 ((h y).2 (by simp)) with e | h2
        · exact e.symm
        · exact absurd (hb.1 x h1) (asy _ _ (ha.1 y h2))
    subst e
    rw [uniq irr asy ha.2 hb.2 fun z => ?_]
    constructor
    · intro hz
      rcases List.mem_cons.1 ((h z).1 (List.mem_cons_of_mem _ hz)) with rfl | h1
      · exact absurd (ha.1 _ hz) (irr _)
      · exact h1
    · intro hz
      rcases List.mem_cons.1 ((h z).2 (List.mem_cons_of_mem _ hz)) with rfl | h1
      · exact absurd (hb.1 _ hz) (irr _)
      · exact h1

abbrev Bs := List UInt8
theorem bs_irr (x : Bs) : ¬ x < x := List.lt_irrefl x
theorem bs_asy (x y : Bs) (h : x < y) : ¬ y < x := List.lt_asymm h
theorem bs_tri (x y : Bs) : x < y ∨ x = y ∨ y < x := by
  by_cases h1 : x < y
  · exact .inl h1
  · by_cases h2 : y < x
    · exact .inr (.inr h2)
    · exact .inr (.inl (List.le_antisymm (List.not_lt.1 h2) (List.not_lt.1 h1)))
theorem less_eq : ∀ (x y : Bs), Op.bytesLess x y = decide (x < y)
  | [], [] => by simp [Op.bytesLess]
  | [], _ :: _ => by simp [Op.bytesLess]
  | _ :: _, [] => by simp [Op.bytesLess]
  | a :: x, b :: y => by
    rw [Op.bytesLess, less_eq x y, Bool.eq_iff_iff]
    simp only [List.cons_lt_cons_iff]
    by_cases h1 : a < b
    · simp [h1]
    · by_cases h2 : a = b
      · subst h2; simp
      · simp [h1, h2]

def insK (k : Bs) : List Bs → List Bs
  | [] => [k]
  | y :: r => if k < y then k :: y :: r else if k = y then y :: r else y :: insK k r
def ksOf (l : List Bs) : List Bs := l.foldr insK []
theorem insK_mem (k : Bs) : ∀ (l : List Bs) (x : Bs), x ∈ insK k l ↔ x = k ∨ x ∈ l
  | [], x => by simp [insK]
  | y :: r, x => by
    unfold insK
    split
    · simp
    · split
      · rename_i h; subst h; simp
      · simp only [List.mem_cons, insK_mem k r x]
        constructor
        · rintro (h | h | h) <;> simp [h]
        · rintro (h | h | h) <;> simp [h]
theorem insK_sorted (k : Bs) : ∀ {l : List Bs}, l.Pairwise (· < ·) → (insK k l).Pairwise (· < ·)
  | [], _ => by simp [insK]
  | y :: r, h => by
    have h' := List.pairwise_cons.1 h
    unfold insK
    split
    · rename_i hk
      refine List.pairwise_cons.2 ⟨fun x hx => ?_, h⟩
      rcases List.mem_cons.1 hx with rfl | hx
      · exact hk
      · exact List.lt_trans hk (h'.1 x hx)
    · split
      · exact h
      · rename_i h1 h2
        refine List.pairwise_cons.2 ⟨fun x hx => ?_, insK_sorted k h'.2⟩
        rcases (insK_mem k r x).1 hx with rfl | hx
        · rcases bs_tri x y with h | h | h
          · exact absurd h h1
          · exact absurd h h2
          · exact h
        · exact h'.1 x hx
theorem ksOf_mem (l : List Bs) (x : Bs) : x ∈ ksOf l ↔ x ∈ l := by
  induction l with
  | nil => simp [ksOf]
  | cons y l ih => unfold ksOf at ih ⊢; rw [List.foldr_cons, insK_mem, ih]; simp
theorem ksOf_sorted (l : List Bs) : (ksOf l).Pairwise (· < ·) := by
  induction l with
  | nil => simp [ksOf]
  | cons y l ih => unfold ksOf at ih ⊢; rw [List.foldr_cons]; exact insK_sorted _ ih

/-- each good once, in order, with what there is of it in all, where that is above 0 -/
def pick (L : List Item) (k : Bs) : Option Item := if 0 < tot k L then some (⟨k.toArray⟩, tot k L) else none
def normL (L : List Item) : List Item := (ksOf (L.map key)).filterMap (pick L)
theorem key_mk (k : Bs) (n : Int) : key (⟨k.toArray⟩, n) = k := by simp [key]
theorem item_eta (x : Item) : x = (⟨(key x).toArray⟩, x.2) := by
  obtain ⟨⟨⟨s⟩⟩, n⟩ := x
  rfl
structure IsNorm (L out : List Item) : Prop where
  sorted : out.Pairwise fun a b => key a < key b
  has : ∀ x, x ∈ out ↔ (key x ∈ L.map key ∧ x.2 = tot (key x) L ∧ 0 < x.2)
theorem pick_some {L : List Item} {k : Bs} {x : Item} (h : pick L k = some x) : key x = k ∧ x.2 = tot k L ∧ 0 < x.2 := by
  unfold pick at h
  split at h
  · cases h; exact ⟨key_mk _ _, rfl, by assumption⟩
  · cases h
theorem isNorm_normL (L : List Item) : IsNorm L (normL L) := by
  refine ⟨?_, fun x => ?_⟩
  · unfold normL
    rw [List.pairwise_filterMap]
    refine (ksOf_sorted (L.map key)).imp_of_mem fun {a b} _ _ h x hx y hy => ?_
    rw [(pick_some hx).1, (pick_some hy).1]
    exact h
  · unfold normL
    rw [List.mem_filterMap]
    constructor
    · rintro ⟨k, hk, hx⟩
      obtain ⟨rfl, h2, h3⟩ := pick_some hx
      exact ⟨(ksOf_mem _ _).1 hk, h2, h3⟩
    · rintro ⟨h1, h2, h3⟩
      refine ⟨key x, (ksOf_mem _ _).2 h1, ?_⟩
      unfold pick
      rw [← h2, if_pos h3, ← item_eta]
theorem IsNorm.unique {L a b : List Item} (ha : IsNorm L a) (hb : IsNorm L b) : a = b :=
  uniq (r := fun a b : Item => key a < key b) (fun _ => bs_irr _) (fun _ _ => bs_asy _ _) ha.sorted hb.sorted fun x => by rw [ha.has, hb.has]
/-- the normal list, and why there is none -/
def normRes (L : List Item) : List Item × Int := if sumsCode L = 0 then (if (normL L).length ≤ 16 then (normL L, 0) else ([], 3)) else ([], sumsCode L)
end It
end Go.Proofs.Ythfpfomifebpbaa

namespace Go.Proofs.Ythfpfomifebpbaa
open Go.RowKit Go.Maps Go.Sort Go.Shelf
namespace Ks

end Ks
end Go.Proofs.Ythfpfomifebpbaa

namespace Go.Proofs.Ythfpfomifebpbaa
open Go.RowKit Go.Maps Go.Sort
namespace It

theorem mem_keys {m : List (Bs × Value)} {k : Bs} : k ∈ m.map (·.1) ↔ (mGet m k).isSome = true := by
  unfold mGet
  rw [Option.isSome_map, List.find?_isSome, List.mem_map]
  simp
theorem keys_eq {m : List (Bs × Value)} {ss : List Bs} {L : List Item} (hT : Tells m L) (hs : m.Pairwise (fun p q => strK.lt p.1 q.1 = true)) (hp : ss.Perm (m.map (·.1))) :
    ss.mergeSort (fun x y => decide (x ≤ y)) = ksOf (L.map key) := by
  have hpm := (List.mergeSort_perm ss (fun x y => decide (x ≤ y))).trans hp
  refine uniq bs_irr bs_asy ?_ (ksOf_sorted _) fun x => ?_
  · have h1 : (ss.mergeSort (fun x y => decide (x ≤ y))).Pairwise (fun a b => decide (a ≤ b) = true) :=
      List.pairwise_mergeSort (fun a b c h1 h2 => by simp only [decide_eq_true_eq] at *; exact List.le_trans h1 h2) (fun a b => by simp only [Bool.or_eq_true, decide_eq_true_eq]; exact List.le_total a b) ss
    have h2 : (ss.mergeSort (fun x y => decide (x ≤ y))).Nodup := by
      rw [hpm.nodup_iff, List.nodup_iff_pairwise_ne, List.pairwise_map]
      refine hs.imp_of_mem fun {p q} _ _ h e => ?_
      rw [e] at h
      rw [show strK.lt q.1 q.1 = bytesBefore q.1 q.1 from rfl, WideAt.bytes_irrefl] at h
      cases h
    refine (h1.and (List.nodup_iff_pairwise_ne.1 h2)).imp_of_mem fun {a b} _ _ h => ?_
    simp only [decide_eq_true_eq] at h
    rcases bs_tri a b with h3 | h3 | h3
    · exact h3
    · exact absurd h3 h.2
    · exact absurd h3 (List.not_lt.2 h.1)
  · rw [hpm.mem_iff, mem_keys, hT x, ksOf_mem]
    by_cases hx : x ∈ L.map key <;> simp [hx]
theorem strKeys_mEs (m : List (Bs × Value)) : strKeys (DataW.map (mEs strK m)) = m.map (·.1) := by
  simp [strKeys, mEs, Function.comp_def, strOf, strK]
theorem normL_len (L : List Item) : (normL L).length ≤ (ksOf (L.map key)).length := List.length_filterMap_le _ _
def outTo (L : List Item) (k : Nat) : List Item := ((ksOf (L.map key)).take k).filterMap (pick L)
theorem outTo_len (L : List Item) (k : Nat) : (outTo L k).length ≤ k := Nat.le_trans (List.length_filterMap_le _ _) (by rw [List.length_take]; omega)
theorem outTo_succ (L : List Item) (k : Nat) (h : k < (ksOf (L.map key)).length) : outTo L (k + 1) = outTo L k ++ (if 0 < tot ((ksOf (L.map key)).getD k []) L then [(⟨((ksOf (L.map key)).getD k []).toArray⟩, tot ((ksOf (L.map key)).getD k []) L)] else []) := by
  have hg : (ksOf (L.map key)).getD k [] = (ksOf (L.map key))[k] := by simp [h]
  unfold outTo
  rw [List.take_add_one, List.getElem?_eq_getElem h, List.filterMap_append, hg]
  congr 1
  simp only [Option.toList_some, List.filterMap_cons, List.filterMap_nil, pick]
  split <;> simp_all
theorem outTo_all (L : List Item) : outTo L (ksOf (L.map key)).length = normL L := by unfold outTo normL; rw [List.take_length]

end It
end Go.Proofs.Ythfpfomifebpbaa

namespace Go.Proofs.Ythfpfomifebpbaa
open Go.RowKit Go.Shelf
namespace CatI

/-- a part: its address, length, capacity, cells -/
abbrev Part := Option Addr × Nat × Nat × List Value
def pv (p : Part) : Value := .slice p.1 p.2.1 p.2.2.1
def lens : List Part → Nat
  | [] => 0
  | p :: r => p.2.1 + lens r
def all (l : List Part) : List Value := (l.map (·.2.2.2)).flatten
theorem lens_le (l : List Part) (k : Nat) : lens (l.take k) ≤ lens l := by
  induction l generalizing k with
  | nil => simp [lens]
  | cons p r ih =>
    cases k with
    | zero => simp [lens]
    | succ k => simp only [List.take_succ_cons, lens]; have := ih k; omega
theorem lens_succ (l : List Part) (k : Nat) (h : k < l.length) : lens (l.take (k + 1)) = lens (l.take k) + l[k].2.1 := by
  induction l generalizing k with
  | nil => simp at h
  | cons p r ih =>
    cases k with
    | zero => simp [lens]
    | succ k => simp only [List.take_succ_cons, lens, List.getElem_cons_succ]; rw [ih k (by simpa using h)]; omega
theorem all_succ (l : List Part) (k : Nat) (h : k < l.length) : all (l.take (k + 1)) = all (l.take k) ++ l[k].2.2.2 := by
  unfold all
  induction l generalizing k with
  | nil => simp at h
  | cons p r ih =>
    cases k with
    | zero => simp
    | succ k =>
      simp only [List.take_succ_cons, List.map_cons, List.flatten_cons, List.getElem_cons_succ, List.append_assoc]
      rw [ih k (by simpa using h)]

/-- the parts lie in memory -/
structure Parts (w : World) (B : Nat) (l : List Part) : Prop where
  sl : ∀ p ∈ l, Sl w 0 B 2 (pv p) p.2.1 p.2.2.2
  one : ∀ p ∈ l, ∀ y ∈ p.2.2.2, y.oneCell' = true

end CatI
end Go.Proofs.Ythfpfomifebpbaa

namespace Go.Proofs.Ythfpfomifebpbaa
open Go.RowKit Go.Maps
namespace It

def plusOf (a b : List Item) : List Item × Int := if may a && may b then normRes (a ++ b) else ([], 60)
theorem may_len {l : List Item} (h : may l = true) : l.length ≤ 16 := by
  unfold may at h
  rw [Bool.and_eq_true, decide_eq_true_iff] at h
  exact h.2
theorem Fits.append {a b : List Item} (ha : Fits a) (hb : Fits b) : Fits (a ++ b) := fun x hx => (List.mem_append.1 hx).elim (ha x) (hb x)

end It
end Go.Proofs.Ythfpfomifebpbaa

namespace Go.Proofs.Ythfpfomifebpbaa
open Go.RowKit Go.Maps
namespace Sa
open It

set_option maxRecDepth 100000 in
set_option maxHeartbeats 1000000 in
theorem clonei_calls (l : List It.Item) (v : Value) (w : World) (h : ItemsAt w 0 w.heap.size v l) (hl : l.length ≤ 1000000) :
    Calls Try.prog 29 #[v] w fun e w' => (∃ v', e = .returned v' ∧ w'.ownsRow w.heap.size 41 2 v' l.length (itemCells l)) ∧ Below w.heap.size w w' := by
  obtain ⟨i0, hi0, hz0⟩ := Option.map_eq_some_iff.1 item_info
  simp only [Prod.mk.injEq] at hz0
  obtain ⟨hz0, hz1, hz2⟩ := hz0
  have h0 := h
  obtain ⟨A, c, rfl, hc1, hc2⟩ := h.form
  unfold maxLen at hc2
  have heq := Lib.run_eql_slice_nil (P := Try.prog) w 22 41 A l.length c 0 0 Try.underlying22
  rcases A with _ | ad
  · have hl0 : l = [] := by
      rcases l with _ | ⟨x, r⟩
      · rfl
      · obtain ⟨b, o, e, _⟩ := h.cellAt (j := 0) (by simp)
        cases e
    subst hl0
    simp only [List.length_nil] at heq ⊢
    go_enter Try.func29, Try.ntmps29
    go_wp2
    go_ret
    exact ⟨⟨_, rfl, World.ownsRow_nil _ _ _ _⟩, Below.refl _ _⟩
  · go_enter Try.func29, Try.ntmps29
    go_wp2_with (at_builtin
                 refine wpList_append_sl _ rfl (.tmp 5) (.tmp 6) _ rfl w.heap.size 41 i0 _ 2 24 Try.underlying22 hi0 hz0 hz1 hz2 rfl (by omega) (.slice (some ⟨w.heap.size, 0, none⟩) 0 0) 0 [] rfl (World.ownsRow_lit w #[] 0 (Nat.le_refl _) (Nat.zero_le _) rfl) 0 w.heap.size _ l.length (itemCells l) rfl (Sl.below h0 ((Below.refl _ w).alloc (Nat.le_refl _) _)) (itemCells_one l) (by unfold maxLen; omega) (by omega) (by simp) ?_
                 intro v1 w1 hv1 hg1 hat1
                 have hB : Below w.heap.size w w1 := ((Below.refl _ w).alloc (Nat.le_refl _) (.cells #[] 41)).grown hg1 (by simp) (fun g hg => by cases hg; exact Nat.le_refl _)
                 clear hg1 hat1)
    have hown : w1.ownsRow w.heap.size 41 2 v1 l.length (itemCells l) := by simpa using hv1
    obtain ⟨A1, c1, rfl, -⟩ := (ItemsAt.of_own hown).form
    clear hv1
    go_wp2
    go_ret
    exact ⟨⟨_, rfl, hown⟩, hB⟩

theorem fits_meet {a : List It.Item} (b : List It.Item) (h : Fits a) : Fits (both meetF a b) := by
  intro x hx
  unfold both at hx
  split at hx
  · unfold eachL at hx
    obtain ⟨y, hy, e⟩ := List.mem_filterMap.1 hx
    split at e
    · rename_i h0
      cases e
      have := h y hy
      refine ⟨this.1, ?_, ?_⟩
      · show _ ≤ meetF _ _; omega
      · show meetF _ _ ≤ _
        unfold meetF at h0 ⊢
        omega
    · cases e
  · simp at hx
theorem fits_rest {a : List It.Item} (b : List It.Item) (h : Fits a) : Fits (both restF a b) := by
  intro x hx
  unfold both at hx
  split at hx
  · unfold eachL at hx
    obtain ⟨y, hy, e⟩ := List.mem_filterMap.1 hx
    split at e
    · cases e
      have := h y hy
      exact ⟨this.1, wrap64_bounds _⟩
    · cases e
  · simp at hx
/-- what is left of what is wanted -/
def leftOf (want : List It.Item) (L : List (List It.Item)) : List It.Item := L.foldl (fun l o => both restF l (both meetF l o)) want
theorem leftOf_snoc (want : List It.Item) (L : List (List It.Item)) (o : List It.Item) : leftOf want (L ++ [o]) = both restF (leftOf want L) (both meetF (leftOf want L) o) := by simp [leftOf]
theorem leftOf_succ (want : List It.Item) (L : List (List It.Item)) {k : Nat} (hk : k < L.length) : leftOf want (L.take (k + 1)) = both restF (leftOf want (L.take k)) (both meetF (leftOf want (L.take k)) (L.getD k [])) := by
  rw [List.take_succ_eq_append_getElem hk, leftOf_snoc, getD_get hk]
theorem fits_left (want : List It.Item) (L : List (List It.Item)) (h : Fits want) : Fits (leftOf want L) := by
  induction L generalizing want with
  | nil => exact h
  | cons o L ih => exact ih _ (fits_rest _ h)
def missing (want : List It.Item) (L : List (List It.Item)) : List It.Item := if mayAll want L then leftOf want L else []

set_option maxRecDepth 100000 in
set_option maxHeartbeats 2000000 in
theorem split_calls (want : List It.Item) (L : List (List It.Item)) (va vb : Value) (w : World) (ha : ItemsAt w 0 w.heap.size va want) (hFa : Fits want) (hb : GotAt w 0 w.heap.size vb L) (hFb : FitsL L) :
    Calls Try.prog 89 #[va, vb] w fun e w' => (∃ vo vl, e = .returned (.tuple #[vo, vl]) ∧ w'.ownsRow w.heap.size 41 2 vl (missing want L).length (itemCells (missing want L))) ∧ Below w.heap.size w w' := by
  obtain ⟨i0, hi0, hz0⟩ := Option.map_eq_some_iff.1 list_info
  simp only [Prod.mk.injEq] at hz0
  obtain ⟨hz0, hz1, hz2⟩ := hz0
  have cM := Lib.hid (planmay_calls want L va vb w ha hFa hb hFb)
  have cC := Lib.hid (fun W (h : Below w.heap.size w W) (hl : want.length ≤ 1000000) => clonei_calls want va W ((ha.below h).wide (Nat.le_refl _) h.size) hl)
  have hb0 := Lib.hid hb
  have HFa := Lib.hid hFa
  have HFb := Lib.hid hFb
  obtain ⟨A, c, rfl, -⟩ := ha.form
  obtain ⟨A', c', rfl, hc1, hc2⟩ := hb.form
  unfold maxLen at hc2
  clear ha hb hFa hFb
  unfold missing
  cases hm : mayAll want L with
  | false =>
    rw [hm] at cM
    go_enter Try.func89, Try.ntmps89
    go_wp2_with fail
    refine cM.out.mono ?_
    rintro e w1 ⟨rfl, hb1⟩
    go_wp2
    go_ret2
    exact ⟨⟨_, _, rfl, World.ownsRow_nil _ _ _ _⟩, hb1⟩
  | true =>
    rw [hm] at cM
    have h8 : L.length ≤ 8 ∧ want.length ≤ 1000000 := by
      unfold mayAll at hm
      simp only [Bool.and_eq_true, decide_eq_true_eq] at hm
      have := may_len hm.1.1
      omega
    obtain ⟨h8, hl⟩ := h8
    have HM := Lib.hid hm
    clear hm
    simp only [if_true]
    go_enter Try.func89, Try.ntmps89
    go_wp2_with fail
    refine cM.out.mono ?_
    rintro e w1 ⟨rfl, hb1⟩
    go_wp2_with fail
    refine (cC.out _ hb1 hl).mono ?_
    rintro e w2 ⟨⟨v2, rfl, hv2⟩, hb2⟩
    have hb2 := hb1.trans (hb2.mono hb1.size)
    have hv2 := ownsRow_wide hv2 hb1.size
    obtain ⟨A2, c2, rfl, -⟩ := (ItemsAt.of_own hv2).form
    go_wp2
    go_loopw [6, 7, 19] (fun vl vo i wr => ∃ (k : Nat) (vs : List Value), k ≤ L.length ∧ i = .int .i64 k ∧ wr.ownsRow w.heap.size 41 2 vl (leftOf want (L.take k)).length (itemCells (leftOf want (L.take k))) ∧ wr.ownsRow w.heap.size 22 1 vo k vs ∧ Below w.heap.size w wr) (fun _ _ i _ => L.length - (intOf i).toNat)
    case atStart => exact ⟨0, [], by omega, rfl, hv2, World.ownsRow_nil _ _ _ _, hb2⟩
    case round =>
      obtain ⟨k, vs, hk, rfl, hvl, hvo, hb⟩ := hrel
      have hlow := fun g e => hvo.lt g e
      by_cases hlt : k < L.length
      · have hd : decide ((k : Int) < L.length) = true := by simp; omega
        obtain ⟨b, o, x, rfl, _, hbB, hck, hx⟩ := (hb0.out.below hb).cellAt hlt
        have hx := hx.wide (Nat.le_refl _) hb.size
        have HF := Lib.hid (HFb.out.get hlt)
        have HS := Lib.hid (leftOf_succ want L hlt)
        have HL := Lib.hid (fits_left want (L.take k) HFa.out)
        generalize L.getD k [] = y at hx HF HS
        generalize leftOf want (L.take k) = left at hvl HL HS
        obtain ⟨A1, c1, rfl, -⟩ := hx.form
        have hvl0 := (ItemsAt.of_own hvl).wide (Nat.zero_le _) (Nat.le_refl _)
        obtain ⟨A3, c3, rfl, -⟩ := hvl0.form
        have cMe := Lib.hid (meet_calls left y _ _ wr hvl0 hx HL.out HF.out)
        clear hvl hx
        go_wp2_with fail
        refine cMe.out.mono ?_
        rintro e w3 ⟨⟨v3, rfl, hv3⟩, hb3⟩
        clear cMe
        have hg3 := (ItemsAt.of_own hv3).wide (Nat.zero_le _) (Nat.le_refl _)
        obtain ⟨A4, c4, rfl, -⟩ := hg3.form
        have cRe := Lib.hid (rest_calls left (both meetF left y) _ _ w3 ((hvl0.below hb3).wide (Nat.zero_le _) hb3.size) hg3 HL.out (fits_meet _ HL.out))
        clear hg3 hvl0
        go_wp2_with fail
        refine cRe.out.mono ?_
        rintro e w4 ⟨⟨v4, rfl, hv4⟩, hb4⟩
        clear cRe
        have hb34 := hb3.trans (hb4.mono hb3.size)
        have hvo4 := row_later hvo hb34
        obtain ⟨A5, c5, rfl, -⟩ := (ItemsAt.of_own hv4).form
        have hal := (Below.refl w4.heap.size w4).alloc (Nat.le_refl _) (.cells #[.slice A4 (both meetF left y).length c4] 22)
        have hva := row_later hvo4 hal
        have hvl5 := row_later hv4 hal
        have hob := Ob.new w4 22 #[.slice A4 (both meetF left y).length c4]
        have hba := (hb.trans (hb34.mono hb.size)).trans (hal.mono (by have := hb.size; have := hb34.size; omega))
        go_wp2_with (at_builtin; go_must (refine wpList_append_own _ rfl (.tmp 29) (.tmp 31) 24 rfl w.heap.size 22 i0 _ 1 24 Try.underlying24 hi0 hz0 hz1 hz2 rfl (by omega) _ k _ rfl hva ⟨w4.heap.size, 0, none⟩ 1 1 [.slice A4 (both meetF left y).length c4] rfl rfl (fun j u hu => by rw [add_mid, Nat.zero_add]; exact hob.cell (by simpa using hu)) (by simp [Value.oneCell']) (by unfold maxLen; omega) (by omega) hba.size ?_; intro v1 w1 hv1 hg1 hat1))
        have hrow : w1.ownsRow w.heap.size 41 2 (.slice A5 (both restF left (both meetF left y)).length c5) (both restF left (both meetF left y)).length (itemCells (both restF left (both meetF left y))) := by
          have h34 := hb3.size
          have h1 := hb.size
          refine ownsRow_wide (hvl5.kept hg1 ?_) (by omega)
          cases hq : Value.ownBlock (.slice A5 (both restF left (both meetF left y)).length c5) with
          | none => exact .inl rfl
          | some g =>
            refine .inr fun e => ?_
            have := (hvl5.lt g hq).1
            have := hlow g e.symm
            omega
        exact ⟨⟨k + 1, _, by omega, by go_num, by rw [HS.out]; exact hrow, hv1, hba.grown hg1 hba.size (fun g e => (hlow g e).1)⟩, by simp [intOf]; omega⟩
      · obtain rfl : k = L.length := by omega
        rw [List.take_length] at hvl
        obtain ⟨A3, c3, rfl, -⟩ := (ItemsAt.of_own hvl).form
        go_wp2
        go_ret2
        exact ⟨⟨_, _, rfl, hvl⟩, hb⟩
end Sa
end Go.Proofs.Ythfpfomifebpbaa

namespace Go.Proofs.Ythfpfomifebpbaa
open Go.RowKit Go.Maps
namespace Sa
open It

theorem planmissing_calls (want : List It.Item) (L : List (List It.Item)) (va vb : Value) (w : World) (ha : ItemsAt w 0 w.heap.size va want) (hFa : Fits want) (hb : GotAt w 0 w.heap.size vb L) (hFb : FitsL L) :
    Calls Try.prog 73 #[va, vb] w fun e w' => (∃ vl, e = .returned vl ∧ w'.ownsRow w.heap.size 41 2 vl (missing want L).length (itemCells (missing want L))) ∧ Below w.heap.size w w' := by
  have cS := Lib.hid (split_calls want L va vb w ha hFa hb hFb)
  obtain ⟨A, c, rfl, -⟩ := ha.form
  obtain ⟨A', c', rfl, -⟩ := hb.form
  clear ha hb hFa hFb
  go_enter Try.func73, Try.ntmps73
  go_wp2_with fail
  refine cS.out.mono ?_
  rintro e w1 ⟨⟨vo, vl, rfl, hv⟩, hb⟩
  obtain ⟨A1, c1, rfl, -⟩ := (ItemsAt.of_own hv).form
  go_wp2
  go_ret
  exact ⟨⟨_, rfl, hv⟩, hb⟩

/-- a saga -/
structure Saga where
  order : Int
  first : Int
  regions : Int
  want : List It.Item
  waits : Bool
  state : Int
  asked : Int
  got : List (List It.Item)
  pending : List Int
  cancelled : Bool
def saga0 : Saga := ⟨0, 0, 0, [], false, 0, 0, [], [], false⟩
def sagaC (s : Saga) (vw vg vp : Value) : Array Value := #[.int .i64 s.order, .int .i64 s.first, .int .i64 s.regions, vw, .bool s.waits, .int .i64 s.state, .int .i64 s.asked, vg, vp, .bool s.cancelled]
structure Parts (w : World) (lo B : Nat) (s : Saga) (vw vg vp : Value) : Prop where
  want : ItemsAt w lo B vw s.want
  got : GotAt w lo B vg s.got
  pend : IntsAt w lo B vp s.pending
structure Fit (s : Saga) : Prop where
  want : Fits s.want
  got : FitsL s.got
theorem Parts.mono {w w' : World} {lo B B' : Nat} {s : Saga} {vw vg vp : Value} (h : Parts w lo B s vw vg vp) (hb : Below B w w') (hB : B ≤ B') : Parts w' lo B' s vw vg vp := ⟨h.want.mono hb hB, h.got.mono hb hB, h.pend.mono hb hB⟩
theorem Parts.later {w w' : World} {s : Saga} {vw vg vp : Value} (h : Parts w 0 w.heap.size s vw vg vp) (hb : Below w.heap.size w w') : Parts w' 0 w'.heap.size s vw vg vp := h.mono hb hb.size

theorem sagamissing_calls (s : Saga) (vw vg vp : Value) (w : World) (h : Parts w 0 w.heap.size s vw vg vp) (hF : Fit s) :
    Calls Try.prog 50 #[.agg (sagaC s vw vg vp)] w fun e w' => (∃ vl, e = .returned vl ∧ w'.ownsRow w.heap.size 41 2 vl (missing s.want s.got).length (itemCells (missing s.want s.got))) ∧ Below w.heap.size w w' := by
  have cM := Lib.hid (fun W (hb : Below w.heap.size w W) => planmissing_calls s.want s.got vw vg W (h.want.mono hb hb.size) hF.want (h.got.mono hb hb.size) hF.got)
  obtain ⟨A, c, rfl, -⟩ := h.want.form
  obtain ⟨A', c', rfl, -⟩ := h.got.form
  obtain ⟨A2, c2, rfl, -⟩ := h.pend.form
  clear h hF
  unfold sagaC
  have hB := (Below.refl _ w).alloc (Nat.le_refl _) (.cells #[.int .i64 s.order, .int .i64 s.first, .int .i64 s.regions, .slice A s.want.length c, .bool s.waits, .int .i64 s.state, .int .i64 s.asked, .slice A' s.got.length c', .slice A2 s.pending.length c2, .bool s.cancelled] 27)
  go_enter Try.func50, Try.ntmps50
  go_wp2_with fail
  refine (cM.out _ hB).mono ?_
  rintro e w1 ⟨⟨vl, rfl, hv⟩, hb⟩
  obtain ⟨A1, c1, rfl, -⟩ := (ItemsAt.of_own hv).form
  go_wp2
  go_ret
  exact ⟨⟨_, rfl, ownsRow_wide hv hB.size⟩, hB.trans (hb.mono hB.size)⟩

/-- the regions that hold something, of the first k -/
def holdersTo (L : List (List It.Item)) (k : Nat) : List Int := ((List.range k).filter fun i => decide (0 < (L.getD i []).length)).map fun i : Nat => (i : Int)
def holders (L : List (List It.Item)) : List Int := holdersTo L L.length
theorem holdersTo_succ (L : List (List It.Item)) (k : Nat) : holdersTo L (k + 1) = holdersTo L k ++ (if 0 < (L.getD k []).length then [(k : Int)] else []) := by
  unfold holdersTo
  rw [List.range_succ, List.filter_append, List.map_append]
  congr 1
  simp only [List.filter]
  by_cases h : 0 < (L.getD k []).length
  · rw [decide_eq_true h, if_pos h]; rfl
  · rw [decide_eq_false h, if_neg h]; rfl
theorem holdersTo_len (L : List (List It.Item)) (k : Nat) : (holdersTo L k).length ≤ k := by
  unfold holdersTo
  rw [List.length_map]
  exact Nat.le_trans (List.length_filter_le _ _) (by simp)
set_option maxRecDepth 100000 in
set_option maxHeartbeats 2000000 in
theorem holders_calls (s : Saga) (vw vg vp : Value) (w : World) (h : Parts w 0 w.heap.size s vw vg vp) (hL : s.got.length ≤ 1000000) :
    Calls Try.prog 27 #[.agg (sagaC s vw vg vp)] w fun e w' => (∃ v, e = .returned v ∧ w'.ownsRow w.heap.size 3 1 v (holders s.got).length (ints (holders s.got))) ∧ Below w.heap.size w w' := by
  obtain ⟨i0, hi0, hz0⟩ := Option.map_eq_some_iff.1 int_info
  simp only [Prod.mk.injEq] at hz0
  obtain ⟨hz0, hz1, hz2⟩ := hz0
  have hg0 := Lib.hid h.got
  obtain ⟨A, c, rfl, -⟩ := h.want.form
  obtain ⟨A', c', rfl, hc1, hc2⟩ := h.got.form
  obtain ⟨A2, c2, rfl, -⟩ := h.pend.form
  unfold maxLen at hc2
  clear h
  unfold sagaC
  generalize s.got = L at hg0 hL hc1 ⊢
  have hB := (Below.refl _ w).alloc (Nat.le_refl _) (.cells #[.int .i64 s.order, .int .i64 s.first, .int .i64 s.regions, .slice A s.want.length c, .bool s.waits, .int .i64 s.state, .int .i64 s.asked, .slice A' L.length c', .slice A2 s.pending.length c2, .bool s.cancelled] 27)
  go_enter Try.func27, Try.ntmps27
  go_wp2
  go_loopw [3, 9] (fun v i wr => ∃ k : Nat, k ≤ L.length ∧ i = .int .i64 k ∧ wr.ownsRow w.heap.size 3 1 v (holdersTo L k).length (ints (holdersTo L k)) ∧ Below w.heap.size w wr) (fun _ i _ => L.length - (intOf i).toNat)
  case atStart => exact ⟨0, by omega, rfl, World.ownsRow_nil _ _ _ _, hB⟩
  case round =>
    obtain ⟨k, hk, rfl, hv, hb⟩ := hrel
    have hlow := fun g e => hv.lt g e
    have hlen := holdersTo_len L k
    by_cases hlt : k < L.length
    · have hd : decide ((k : Int) < L.length) = true := by simp; omega
      obtain ⟨b, o, x, rfl, _, hbB, hck, hx⟩ := (hg0.out.below hb).cellAt hlt
      have HS := Lib.hid (holdersTo_succ L k)
      generalize L.getD k [] = y at hx HS
      generalize holdersTo L k = hs at hv HS hlen
      obtain ⟨A1, c1, rfl, -⟩ := hx.form
      by_cases hy : 0 < y.length
      · have dy : decide ((y.length : Int) > 0) = true := decide_eq_true (by omega)
        have hal := (Below.refl wr.heap.size wr).alloc (Nat.le_refl _) (.cells #[.int .i64 (k : Int)] 3)
        have hva := row_later hv hal
        have hob := Ob.new wr 3 #[.int .i64 (k : Int)]
        have hba := hb.trans (hal.mono hb.size)
        have HS : holdersTo L (k + 1) = hs ++ [(k : Int)] := by rw [HS.out, if_pos hy]
        have HS := Lib.hid HS
        go_wp2_with (at_builtin; go_must (refine wpList_append_own _ rfl (.tmp 17) (.tmp 19) 25 rfl w.heap.size 3 i0 _ 1 8 Try.underlying25 hi0 hz0 hz1 hz2 rfl (by omega) _ hs.length _ rfl hva ⟨wr.heap.size, 0, none⟩ 1 1 [.int .i64 (k : Int)] rfl rfl (fun j u hu => by rw [add_mid, Nat.zero_add]; exact hob.cell (by simpa using hu)) (by simp [Value.oneCell']) (by unfold maxLen; omega) (by omega) hba.size ?_; intro v1 w1 hv1 hg1 hat1))
        exact ⟨⟨k + 1, by omega, by go_num, by rw [HS.out, ints_append, List.length_append]; exact hv1, hba.grown hg1 hba.size (fun g e => (hlow g e).1)⟩, by simp [intOf]; omega⟩
      · have dy : decide ((y.length : Int) > 0) = false := decide_eq_false (by omega)
        have HS : holdersTo L (k + 1) = hs := by rw [HS.out, if_neg hy, List.append_nil]
        have HS := Lib.hid HS
        go_wp2
        go_roundw
        case rel => exact ⟨k + 1, by omega, by go_num, by rw [HS.out]; exact hv, hb⟩
        case measure => simp [intOf]; omega
    · obtain rfl : k = L.length := by omega
      go_wp2
      go_ret
      exact ⟨⟨_, rfl, hv⟩, hb⟩
end Sa
end Go.Proofs.Ythfpfomifebpbaa

namespace Go.Proofs.Ythfpfomifebpbaa
open Go.RowKit
namespace Pu
section
variable {P : Program} {ops : Array Oper} {Q : Exit → Act → World → Prop} {md : Region.Mode}

theorem put_fix {A : Act} {t : Nat} {u : Value} : A.put (some t) u = A ↔ ∀ h : t < A.tmps.size, A.tmps[t] = u := by
  constructor
  · intro h hl
    have h1 := congrArg (fun b : Act => b.tmps[t]?) h
    simp only [Act.put, Array.getElem?_setIfInBounds_self, hl, if_true] at h1
    rw [Array.getElem?_eq_getElem hl] at h1
    exact (Option.some.inj h1).symm
  · intro h
    refine put_of ?_
    by_cases hl : t < A.tmps.size
    · rw [if_pos hl, Array.getElem?_eq_getElem hl, h hl]
    · rw [if_neg hl, Array.getElem?_eq_none (by omega)]

/-- an operation at another act that it looks at alike -/
theorem shift {o : Oper} {a A a2 A2 : Act} {w : World} {R : World → Prop} (hop : (match o.op with | .select .. => false | .defer _ => false | _ => true) = true) (heval : ∀ x ∈ o.op.operands, A.eval x = a.eval x)
    (hwant : Region.wanted o (yielded ops A.tmps) = Region.wanted o (yielded ops a.tmps)) (hd : a2.defers = a.defers) (hp : ∀ u, a.put o.dst u = a2 → A.put o.dst u = A2)
    (ho : wpList P ops (fun e a' w' => e = .normal ∧ a' = a2 ∧ R w') [o] a w) : wpList P ops (fun e a' w' => e = .normal ∧ a' = A2 ∧ R w') [o] A w := by
  unfold wpList at ho ⊢
  rw [hwant]
  split
  · rename_i hw
    simp only [hw, if_true] at ho
    rcases ho with ho | ⟨_, _, _, ho, _⟩
    case inr => cases ho
    refine .inl ?_
    have f1 : ∀ cs b, o.op ≠ .select cs b := fun cs b e => by rw [e] at hop; cases hop
    unfold Oper.wp at ho ⊢
    rw [execOp_congr o f1 heval]
    generalize (execOp a.eval o).run P w = r at *
    cases r with
    | ok x w' =>
      cases x <;> simp only [Oper.upon] at ho ⊢
      case value u => exact ⟨rfl, hp _ ho.2.1, ho.2.2⟩
      case skip => exact ⟨rfl, hp _ ho.2.1, ho.2.2⟩
      case defer d =>
        have := congrArg (fun b : Act => b.defers.length) ho.2.1
        simp only [hd] at this
        cases hod : o.dst <;> simp [Act.put, hod] at this
      case enter f args =>
        refine Calls.mono ho fun e w'' he => ?_
        cases e with
        | returned u => exact ⟨rfl, hp _ he.2.1, he.2.2⟩
        | panicked c => cases he.1
        | outgrown => obtain ⟨_, _, h, _⟩ := he; cases h
      case row row args => exact Rows.mono ho fun u w'' he => ⟨rfl, hp _ he.2.1, he.2.2⟩
    | halt x w' =>
      cases x <;> simp only [Oper.upon] at ho ⊢
      case panic u => cases ho.1
  · rename_i hw
    simp only [hw] at ho
    exact ⟨rfl, hp _ ho.2.1, ho.2.2⟩

/-- is this operation behind all others, by its own edges? -/
def endsAll (ops : Array Oper) (o : Oper) : Bool := decide (((List.range ops.size).filter fun j => !(o.after.any fun e => Region.binds .any e && e.on == j)).length ≤ 1)

/-- walked in an order: what only looks (false), what makes or writes (true) -/
def SeqM (P : Program) (ops : Array Oper) (Q : Exit → Act → World → Prop) : List (Oper × Bool) → Act → (World → Prop) → (World → Prop) → Prop
  | [], a, _, J => ∀ w, J w → Q .normal a w
  | (o, false) :: r, a, B, J =>
    if Region.wanted o (yielded ops a.tmps) = true then
      ∃ v, (∀ w, B w → wpList P ops (fun e a' w' => e = .normal ∧ a' = a.put o.dst v ∧ w' = w) [o] a w) ∧ SeqM P ops Q r (a.put o.dst v) B J
    else SeqM P ops Q r (a.put o.dst undef) B J
  | (o, true) :: r, a, B, J =>
    if Region.wanted o (yielded ops a.tmps) = true then
      ∀ w, J w → wpList P ops (fun e a' w' => e = .normal ∧ ∃ v B' J', a' = a.put o.dst v ∧ J' w' ∧ SeqM P ops Q r (a.put o.dst v) B' J' ∧ (∀ w, J' w → B' w) ∧ (endsAll ops o = true ∨ ∀ w, B' w → B w)) [o] a w
    else SeqM P ops Q r (a.put o.dst undef) B J

/-- the order fits: indices; what is looked at is written by none that comes behind; each that comes behind a making one is bound to it or to one between -/
def bound (md : Region.Mode) (ops : Array Oper) (i : Nat) (js : List Nat) : Bool := match ops[i]? with
  | none => false
  | some o => o.after.any fun e => Region.binds md e && js.contains e.on
def okM (md : Region.Mode) (ops : Array Oper) : List (Nat × Bool) → Bool
  | [] => true
  | (i, b) :: r =>
    (match ops[i]? with
      | none => false
      | some o =>
        (match o.op with | .select .. => false | .defer _ => false | _ => true) &&
        ((o.looksAt ops).all fun t => o.dst != some t && r.all fun p => match ops[p.1]? with | some q => q.dst != some t | none => false) &&
        (match o.dst with | none => true | some d => r.all fun p => match ops[p.1]? with | some q => q.dst != some d | none => false)) &&
    (r.all fun p => p.1 != i) &&
    (!b || (List.range r.length).all fun k => bound md ops ((r.getD k (0, false)).1) (i :: (r.take k).map (·.1))) &&
    okM md ops r
def whole (ops : Array Oper) (ord : List (Nat × Bool)) : Bool := (List.range ops.size).all fun i => ord.any fun p => p.1 == i
def named (ops : Array Oper) (ord : List (Nat × Bool)) : List (Oper × Bool) := ord.filterMap fun p => (ops[p.1]?).map fun o => (o, p.2)

theorem put_put (A : Act) (d : Option Tmp) (u v : Value) : (A.put d v).put d u = A.put d u := by
  cases d with
  | none => rfl
  | some d => simp [Act.put]
theorem put_comm (A : Act) {d e : Option Tmp} (h : ∀ t, d = some t → e ≠ some t) (u v : Value) : (A.put d v).put e u = (A.put e u).put d v := by
  cases d with
  | none => rfl
  | some d =>
    cases e with
    | none => rfl
    | some e =>
      have : d ≠ e := fun x => h d rfl (by rw [x])
      simp [Act.put, Array.setIfInBounds_comm _ _ this]
theorem put_defers (A : Act) (d : Option Tmp) (v : Value) : (A.put d v).defers = A.defers := by cases d <;> rfl
theorem put_size (A : Act) (d : Option Tmp) (v : Value) : (A.put d v).tmps.size = A.tmps.size := by cases d <;> simp [Act.put]
theorem put_at (A : Act) {d : Option Tmp} {t : Nat} (h : d ≠ some t) (v : Value) : (A.put d v).tmps[t]? = A.tmps[t]? := by
  cases d with
  | none => rfl
  | some d =>
    have : d ≠ t := fun x => h (by rw [x])
    simp [Act.put, Array.getElem?_setIfInBounds_ne this]
theorem put_eval (A : Act) {o : Oper} {d : Option Tmp} (h : ∀ t ∈ o.looksAt ops, d ≠ some t) (v : Value) : ∀ x ∈ o.op.operands, (A.put d v).eval x = A.eval x := by
  intro x hx
  cases x with
  | tmp t =>
    have hm : t ∈ o.looksAt ops := List.mem_append_left _ (List.mem_filterMap.2 ⟨.tmp t, by simpa using hx, rfl⟩)
    have := put_at A (h t hm) v
    simp [Act.eval, this]
  | _ => rfl
theorem put_wanted (A : Act) {o : Oper} {d : Option Tmp} (h : ∀ t ∈ o.looksAt ops, d ≠ some t) (v : Value) : Region.wanted o (yielded ops (A.put d v).tmps) = Region.wanted o (yielded ops A.tmps) := by
  unfold Region.wanted
  cases hg : o.guard with
  | none => rfl
  | some gw =>
    obtain ⟨g, want⟩ := gw
    have hy : yielded ops (A.put d v).tmps g = yielded ops A.tmps g := by
      unfold yielded
      cases ht : (ops[g]?).bind (·.dst) with
      | none => rfl
      | some t =>
        have hm : t ∈ o.looksAt ops := by simp [Oper.looksAt, hg, ht]
        simp [put_at A (h t hm) v]
    simp only [hy]

/-- what is known between two operations -/
structure St (P : Program) (ops : Array Oper) (Q : Exit → Act → World → Prop) (md : Region.Mode) (post : List (Nat × Bool)) (pre : List Nat) (A : Act) (B J : World → Prop) : Prop where
  sub : ∀ w, J w → B w
  op : ∀ i ∈ pre, ∀ o, ops[i]? = some o → (match o.op with | .select .. => false | .defer _ => false | _ => true) = true
  fact : ∀ i ∈ pre, ∀ o, ops[i]? = some o → ∀ w, B w → wpList P ops (fun e a' w' => e = .normal ∧ a' = A ∧ w' = w) [o] A w
  looks : ∀ i ∈ pre, ∀ o, ops[i]? = some o → ∀ t ∈ o.looksAt ops, ∀ p ∈ post, ∀ q, ops[p.1]? = some q → q.dst ≠ some t
  dst : ∀ i ∈ pre, ∀ o, ops[i]? = some o → ∀ d, o.dst = some d → ∀ p ∈ post, ∀ q, ops[p.1]? = some q → q.dst ≠ some d
  ok : okM md ops post = true
  seq : SeqM P ops Q (named ops post) A B J

theorem okM_cons {i : Nat} {b : Bool} {r : List (Nat × Bool)} (h : okM md ops ((i, b) :: r) = true) : ∃ o, ops[i]? = some o ∧ (match o.op with | .select .. => false | .defer _ => false | _ => true) = true ∧
    (∀ t ∈ o.looksAt ops, o.dst ≠ some t ∧ ∀ p ∈ r, ∀ q, ops[p.1]? = some q → q.dst ≠ some t) ∧ (∀ d, o.dst = some d → ∀ p ∈ r, ∀ q, ops[p.1]? = some q → q.dst ≠ some d) ∧
    (∀ p ∈ r, p.1 ≠ i) ∧ (b = true → ∀ k, k < r.length → bound md ops ((r.getD k (0, false)).1) (i :: (r.take k).map (·.1)) = true) ∧ okM md ops r = true := by
  simp only [okM, Bool.and_eq_true] at h
  obtain ⟨⟨⟨h1, h2⟩, h3⟩, h4⟩ := h
  cases ho : ops[i]? with
  | none => rw [ho] at h1; cases h1
  | some o =>
    rw [ho] at h1
    simp only [Bool.and_eq_true] at h1
    obtain ⟨⟨g1, g2⟩, g3⟩ := h1
    refine ⟨o, rfl, g1, fun t ht => ?_, fun d hd p hp q hq => ?_, fun p hp => ?_, fun hb k hk => ?_, h4⟩
    · have := List.all_eq_true.1 g2 t ht
      simp only [Bool.and_eq_true, bne_iff_ne, List.all_eq_true] at this
      refine ⟨this.1, fun p hp q hq => ?_⟩
      have h5 := this.2 p hp
      rw [hq] at h5
      simpa using h5
    · rw [hd] at g3
      have h5 := List.all_eq_true.1 g3 p hp
      rw [hq] at h5
      simpa using h5
    · have := List.all_eq_true.1 h2 p hp
      simpa using this
    · rw [hb] at h3
      simp only [Bool.not_true, Bool.false_or] at h3
      exact List.all_eq_true.1 h3 k (List.mem_range.2 hk)
theorem named_cons {i : Nat} {b : Bool} {r : List (Nat × Bool)} {o : Oper} (h : ops[i]? = some o) : named ops ((i, b) :: r) = (o, b) :: named ops r := by
  unfold named
  rw [List.filterMap_cons]
  simp [h]

/-- one more operation is seen through -/
theorem St.step {i : Nat} {b : Bool} {r : List (Nat × Bool)} {pre : List Nat} {A : Act} {B J B' J' : World → Prop} {o : Oper} {v : Value} (h : St P ops Q md ((i, b) :: r) pre A B J) (ho : ops[i]? = some o) (hB : ∀ w, B' w → B w) (hJ : ∀ w, J' w → B' w)
    (hs : SeqM P ops Q (named ops r) (A.put o.dst v) B' J') : St P ops Q md r pre (A.put o.dst v) B' J' := by
  obtain ⟨o', ho', g1, g2, g3, g4, g5, g6⟩ := okM_cons h.ok
  rw [ho] at ho'
  cases ho'
  refine ⟨hJ, h.op, fun k hk ok hok w hw => ?_, fun k hk ok hok t ht p hp => h.looks k hk ok hok t ht p (List.mem_cons_of_mem _ hp), fun k hk ok hok d hd p hp => h.dst k hk ok hok d hd p (List.mem_cons_of_mem _ hp), g6, hs⟩
  have hl : ∀ t ∈ ok.looksAt ops, o.dst ≠ some t := fun t ht => h.looks k hk ok hok t ht (i, b) (by simp) o ho
  refine shift (h.op k hk ok hok) (put_eval A hl v) (put_wanted A hl v) rfl (fun u hu => ?_) (h.fact k hk ok hok w (hB w hw))
  rw [put_comm A (d := o.dst) (e := ok.dst) (fun t ht he => h.dst k hk ok hok t he (i, b) (by simp) o ho ht) u v, hu]
theorem St.still {i : Nat} {b : Bool} {r : List (Nat × Bool)} {pre : List Nat} {A : Act} {B J : World → Prop} {o : Oper} {v : Value} (h : St P ops Q md ((i, b) :: r) pre A B J) (ho : ops[i]? = some o)
    (hv : ∀ w, B w → wpList P ops (fun e a' w' => e = .normal ∧ a' = A.put o.dst v ∧ w' = w) [o] A w)
    (hs : SeqM P ops Q (named ops r) (A.put o.dst v) B J) : St P ops Q md r (i :: pre) (A.put o.dst v) B J := by
  have h1 := h.step ho (fun _ h => h) h.sub hs
  obtain ⟨o', ho', g1, g2, g3, g4, g5, g6⟩ := okM_cons h.ok
  rw [ho] at ho'
  cases ho'
  refine ⟨h.sub, fun k hk ok hok => ?_, fun k hk ok hok w hw => ?_, fun k hk ok hok t ht p hp q hq => ?_, fun k hk ok hok d hd p hp q hq => ?_, h1.ok, h1.seq⟩
  · rcases List.mem_cons.1 hk with rfl | hk
    · rw [ho] at hok; cases hok; exact g1
    · exact h1.op k hk ok hok
  · rcases List.mem_cons.1 hk with rfl | hk
    · rw [ho] at hok; cases hok
      have hl : ∀ t ∈ o.looksAt ops, o.dst ≠ some t := fun t ht => (g2 t ht).1
      refine shift g1 (put_eval A hl v) (put_wanted A hl v) (put_defers _ _ _) (fun u hu => ?_) (hv w hw)
      rw [put_put, hu]
    · exact h1.fact k hk ok hok w hw
  · rcases List.mem_cons.1 hk with rfl | hk
    · rw [ho] at hok; cases hok; exact (g2 t ht).2 p hp q hq
    · exact h1.looks k hk ok hok t ht p hp q hq
  · rcases List.mem_cons.1 hk with rfl | hk
    · rw [ho] at hok; cases hok; exact g3 d hd p hp q hq
    · exact h1.dst k hk ok hok d hd p hp q hq

theorem Agree.more {A a : Act} {listed : Array Bool} {i : Nat} {o : Oper} {v : Value} (h : Agree ops A listed a) (ho : ops[i]? = some o) (hl : listed.getD i true = false) : Agree ops (A.put o.dst v) listed a := by
  refine ⟨by rw [put_defers]; exact h.defers, by rw [put_size]; exact h.size, fun t ht => ?_⟩
  rw [put_at A (fun e => by have := ht i o ho e; rw [hl] at this; cases this) v]
  exact h.at' t ht

theorem advance {a : Act} {listed : Array Bool} {B J : World → Prop} : ∀ (post : List (Nat × Bool)) (pre : List Nat) (A : Act), St P ops Q md post pre A B J → Agree ops A listed a → (∀ p ∈ post, listed.getD p.1 true = false) →
    ∃ post' pre' A', St P ops Q md post' pre' A' B J ∧ Agree ops A' listed a ∧ (∀ p ∈ post', listed.getD p.1 true = false) ∧ (∀ j, (j ∈ pre ∨ ∃ p ∈ post, p.1 = j) → j ∈ pre' ∨ ∃ p ∈ post', p.1 = j) ∧
      (post' = [] ∨ ∃ c o r, post' = (c, true) :: r ∧ ops[c]? = some o ∧ Region.wanted o (yielded ops A'.tmps) = true)
  | [], pre, A, h, ha, hu => ⟨[], pre, A, h, ha, hu, fun _ h => h, .inl rfl⟩
  | (i, b) :: r, pre, A, h, ha, hu => by
    obtain ⟨o, ho, g1, g2, g3, g4, g5, g6⟩ := okM_cons h.ok
    have hs := h.seq
    rw [named_cons ho] at hs
    have hi := hu (i, b) (by simp)
    have key : ∀ v, (∀ w, B w → wpList P ops (fun e a' w' => e = .normal ∧ a' = A.put o.dst v ∧ w' = w) [o] A w) → SeqM P ops Q (named ops r) (A.put o.dst v) B J →
        ∃ post' pre' A', St P ops Q md post' pre' A' B J ∧ Agree ops A' listed a ∧ (∀ p ∈ post', listed.getD p.1 true = false) ∧ (∀ j, (j ∈ pre ∨ ∃ p ∈ (i, b) :: r, p.1 = j) → j ∈ pre' ∨ ∃ p ∈ post', p.1 = j) ∧
          (post' = [] ∨ ∃ c o r, post' = (c, true) :: r ∧ ops[c]? = some o ∧ Region.wanted o (yielded ops A'.tmps) = true) := by
      intro v hv hs2
      obtain ⟨post', pre', A', k1, k2, k3, k4, k5⟩ := advance r (i :: pre) _ (h.still ho hv hs2) (ha.more ho hi) (fun p hp => hu p (List.mem_cons_of_mem _ hp))
      refine ⟨post', pre', A', k1, k2, k3, fun j hj => k4 j ?_, k5⟩
      rcases hj with hj | ⟨p, hp, rfl⟩
      · exact .inl (List.mem_cons_of_mem _ hj)
      · rcases List.mem_cons.1 hp with rfl | hp
        · exact .inl (by simp)
        · exact .inr ⟨p, hp, rfl⟩
    by_cases hw : Region.wanted o (yielded ops A.tmps) = true
    · cases b with
      | true => exact ⟨_, pre, A, h, ha, hu, fun _ h => h, .inr ⟨i, o, r, rfl, ho, hw⟩⟩
      | false =>
        simp only [SeqM, hw, if_true] at hs
        obtain ⟨v, hv, hs2⟩ := hs
        exact key v hv hs2
    · have hoff : ∀ w, B w → wpList P ops (fun e a' w' => e = .normal ∧ a' = A.put o.dst undef ∧ w' = w) [o] A w := fun w _ => by
        unfold wpList
        rw [if_neg hw]
        exact ⟨rfl, rfl, rfl⟩
      cases b with
      | true =>
        simp only [SeqM, hw] at hs
        exact key undef hoff hs
      | false =>
        simp only [SeqM, hw] at hs
        exact key undef hoff hs

theorem ready_some (hf : fine md ops = true) (left : List Nat) (listed : Array Bool) (hsz : listed.size = ops.size) (hl : ∀ j, j ∈ left ↔ listed.getD j true = false) (hr : Region.ready md ops listed = []) : left = [] := by
  have : ∀ k j, j < k → listed.getD j true = false → False := by
    intro k
    induction k with
    | zero => intro j h; omega
    | succ k ih =>
      intro j hj hjl
      have hjs : j < ops.size := by
        rcases Nat.lt_or_ge j ops.size with h | h
        · exact h
        · simp [Array.getElem?_eq_none (show listed.size ≤ j by omega)] at hjl
      obtain ⟨o, ho⟩ : ∃ o, ops[j]? = some o := ⟨ops[j], by simp [hjs]⟩
      have hmem : j ∈ Region.ready md ops listed := by
        rw [mem_ready]
        refine ⟨hjl, o, ho, fun e he hb => ?_⟩
        have hlt := (fine_at hf ho).2.2.1 e he hb
        cases hx : listed.getD e.on true with
        | false => exact (ih e.on (by omega) hx).elim
        | true =>
          have hes : e.on < listed.size := by omega
          simp [hes] at hx ⊢
          exact hx
      rw [hr] at hmem
      cases hmem
  cases left with
  | nil => rfl
  | cons j l => exact (this (j + 1) j (by omega) ((hl j).1 (by simp))).elim

theorem St.step0 {i : Nat} {b : Bool} {r : List (Nat × Bool)} {pre : List Nat} {A : Act} {B J B' J' : World → Prop} {v : Value} {o : Oper} (h : St P ops Q md ((i, b) :: r) pre A B J) (hJ : ∀ w, J' w → B' w)
    (hs : SeqM P ops Q (named ops r) (A.put o.dst v) B' J') : St P ops Q md r [] (A.put o.dst v) B' J' := by
  obtain ⟨o', ho', g1, g2, g3, g4, g5, g6⟩ := okM_cons h.ok
  exact ⟨hJ, fun k hk => (by cases hk), fun k hk => (by cases hk), fun k hk => (by cases hk), fun k hk => (by cases hk), g6, hs⟩
theorem endsAll_at {o : Oper} {i : Nat} {listed : Array Bool} (h : endsAll ops o = true) (hsz : listed.size = ops.size) (hi : i < ops.size) (hun : listed.getD i true = false)
    (hall : ∀ e ∈ o.after, Region.binds .any e = true → listed.getD e.on true = true) : ∀ j, listed.getD j true = false → j = i := by
  intro j hj
  have hjs : j < ops.size := by
    rcases Nat.lt_or_ge j ops.size with h | h
    · exact h
    · simp [show ¬ j < listed.size by omega] at hj
  have free : ∀ k, listed.getD k true = false → (o.after.any fun e => Region.binds .any e && e.on == k) = false := fun k hk => by
    cases hx : o.after.any fun e => Region.binds .any e && e.on == k with
    | false => rfl
    | true =>
      obtain ⟨e, he, hbe⟩ := Array.any_eq_true'.1 hx
      simp only [Bool.and_eq_true, beq_iff_eq] at hbe
      have := hall e he hbe.1
      rw [hbe.2, hk] at this
      cases this
  unfold endsAll at h
  have hlen := of_decide_eq_true h
  have mi : i ∈ (List.range ops.size).filter fun j => !(o.after.any fun e => Region.binds .any e && e.on == j) := List.mem_filter.2 ⟨List.mem_range.2 hi, by rw [free i hun]; rfl⟩
  have mj : j ∈ (List.range ops.size).filter fun j => !(o.after.any fun e => Region.binds .any e && e.on == j) := List.mem_filter.2 ⟨List.mem_range.2 hjs, by rw [free j hj]; rfl⟩
  generalize ((List.range ops.size).filter fun j => !(o.after.any fun e => Region.binds .any e && e.on == j)) = F at *
  match F, hlen with
  | [], _ => cases mi
  | [x], _ =>
    rw [List.mem_singleton] at mi mj
    rw [mi, mj]
  | _ :: _ :: _, h => simp at h
theorem run_made (hmd : md = .any) (hf : fine md ops = true) : ∀ (m : Nat) (left : List Nat) (listed : Array Bool) (a A : Act) (w : World) (B J : World → Prop) (post : List (Nat × Bool)) (pre : List Nat), left.length = m → listed.size = ops.size → left.Nodup → (∀ j, j ∈ left ↔ listed.getD j true = false) →
    (∀ j, listed.getD j true = false → j ∈ pre ∨ ∃ p ∈ post, p.1 = j) → (∀ p ∈ post, listed.getD p.1 true = false) → Agree ops A listed a → J w → St P ops Q md post pre A B J → wpAny P md ops Q m listed a w := by
  intro m
  induction m with
  | zero =>
    intro left listed a A w B J post pre hm hsz hnd hl hc hu ha hJ hS
    have hn : left = [] := List.length_eq_zero_iff.1 hm
    subst hn
    obtain ⟨post', pre', A', k1, k2, k3, k4, k5⟩ := advance post pre A hS ha hu
    have hp : post' = [] := by
      cases post' with
      | nil => rfl
      | cons p r => have := (hl p.1).2 (k3 p (by simp)); cases this
    subst hp
    have ht : a = A' := by
      have ht : a.tmps = A'.tmps := by
        refine Array.ext k2.size fun t h1 h2 => ?_
        have := k2.at' t fun j o _ _ => by
          have := (hl j).2
          cases hx : listed.getD j true with
          | true => rfl
          | false => cases this hx
        simpa [h1, h2] using this
      have hd := k2.defers
      cases a; cases A'
      simp only at ht hd
      rw [ht, hd]
    subst ht
    refine ⟨?_, k1.seq w hJ⟩
    cases hr : Region.ready md ops listed with
    | nil => rfl
    | cons i rs =>
      have : i ∈ Region.ready md ops listed := by rw [hr]; simp
      have := (hl i).2 (mem_ready.1 this).1
      cases this
  | succ m ih =>
    intro left listed a A w B J post pre hm hsz hnd hl hc hu ha hJ hS
    refine ⟨fun hr => ?_, fun i hi => ?_⟩
    · rw [ready_some hf left listed hsz hl hr] at hm; simp at hm
    obtain ⟨post', pre', A', k1, k2, k3, k4, k5⟩ := advance post pre A hS ha hu
    obtain ⟨hun, o, ho, hall⟩ := mem_ready.1 hi
    obtain ⟨f1, f2, f3, f4⟩ := fine_at hf ho
    have his : i < ops.size := (Array.getElem?_eq_some_iff.1 ho).1
    have hlook : ∀ t ∈ o.looksAt ops, ∀ j p, ops[j]? = some p → p.dst = some t → listed.getD j true = true := by
      intro t ht j p hj hp
      obtain ⟨e, he, hb, rfl⟩ := f4 t ht j p hj hp
      have h1 := hall e he hb
      have hes : e.on < listed.size := by have := (Array.getElem?_eq_some_iff.1 hj).1; omega
      simp [hes] at h1 ⊢
      exact h1
    have heval := k2.eval hlook
    have hwant := k2.wanted hlook
    have hmem : i ∈ left := (hl i).2 hun
    have hnext : ∀ (A1 : Act) (B1 J1 : World → Prop) (post1 : List (Nat × Bool)) (pre1 : List Nat) (v : Value) (w' : World), A1.put o.dst v = A1 → Agree ops A1 listed a → J1 w' → St P ops Q md post1 pre1 A1 B1 J1 →
        (∀ j, listed.getD j true = false → j ≠ i → j ∈ pre1 ∨ ∃ p ∈ post1, p.1 = j) → (∀ p ∈ post1, listed.getD p.1 true = false ∧ p.1 ≠ i) → wpAny P md ops Q m (listed.setIfInBounds i true) (a.put o.dst v) w' := by
      intro A1 B1 J1 post1 pre1 v w' hv hag hJ1 hS1 hc1 hu1
      refine ih (left.erase i) _ _ A1 w' B1 J1 post1 pre1 (by rw [List.length_erase_of_mem hmem, hm]; rfl) (by simpa using hsz) (hnd.erase i) (fun j => ?_) (fun j hj => ?_) (fun p hp => ?_) (hag.put ho hv) hJ1 hS1
      · rw [hnd.mem_erase_iff, hl j]
        by_cases e : i = j
        · subst e
          simp [show i < listed.size by omega]
        · rw [getD_set_ne true e]
          exact ⟨fun h => h.2, fun h => ⟨fun h' => e h'.symm, h⟩⟩
      · by_cases e : i = j
        · subst e
          simp [show i < listed.size by omega] at hj
        · rw [getD_set_ne true e] at hj
          exact hc1 j hj (fun h => e h.symm)
      · rw [getD_set_ne true (fun e => (hu1 p hp).2 e.symm)]
        exact (hu1 p hp).1
    have hcase : i ∈ pre' ∨ ∃ p ∈ post', p.1 = i := k4 i (hc i hun)
    have hkeep : ∀ v w', A'.put o.dst v = A' → w' = w → (∀ p ∈ post', p.1 ≠ i) → wpAny P md ops Q m (listed.setIfInBounds i true) (a.put o.dst v) w' := fun v w' hv hw hn =>
      hnext A' B J post' pre' v w' hv k2 (hw ▸ hJ) k1 (fun j hj hne => k4 j (hc j hj)) (fun p hp => ⟨k3 p hp, hn p hp⟩)
    by_cases hpost : ∃ p ∈ post', p.1 = i
    · rcases k5 with rfl | ⟨c, oc, r, rfl, hoc, hwc⟩
      · obtain ⟨p, hp, _⟩ := hpost; cases hp
      obtain ⟨o', ho', g1, g2, g3, g4, g5, g6⟩ := okM_cons k1.ok
      have hci : i = c := by
        obtain ⟨p, hp, rfl⟩ := hpost
        rcases List.mem_cons.1 hp with rfl | hp
        · rfl
        · exfalso
          obtain ⟨k, hk, hpk⟩ := List.getElem_of_mem hp
          have hb := g5 rfl k hk
          rw [List.getD_eq_getElem?_getD, List.getElem?_eq_getElem hk, Option.getD_some, hpk] at hb
          unfold bound at hb
          rw [ho] at hb
          obtain ⟨e, he, hbe⟩ := Array.any_eq_true'.1 hb
          simp only [Bool.and_eq_true, List.contains_iff_mem] at hbe
          have h1 := hall e he hbe.1
          have hun2 : listed.getD e.on true = false := by
            rcases List.mem_cons.1 hbe.2 with h | h
            · rw [h]; exact k3 (c, true) (by simp)
            · obtain ⟨q, hq, hqe⟩ := List.mem_map.1 h
              rw [← hqe]
              exact k3 q (List.mem_cons_of_mem _ (List.mem_of_mem_take hq))
          have hes : e.on < listed.size := by
            have := f3 e he hbe.1
            omega
          simp [hes] at h1 hun2
          rw [h1] at hun2
          cases hun2
      subst hci
      rw [ho] at hoc ho'
      cases hoc
      cases ho'
      have hs := k1.seq
      rw [named_cons ho] at hs
      simp only [SeqM, hwc, if_true] at hs
      have h := hs w hJ
      have hmake : ∀ u w', (∃ v B' J', A'.put o.dst u = A'.put o.dst v ∧ J' w' ∧ SeqM P ops Q (named ops r) (A'.put o.dst v) B' J' ∧ (∀ w, J' w → B' w) ∧ (endsAll ops o = true ∨ ∀ w, B' w → B w)) → wpAny P md ops Q m (listed.setIfInBounds i true) (a.put o.dst u) w' := by
        rintro u w' ⟨v, B', J', h1, h2, h3, h4, h5⟩
        rw [← h1] at h3
        rcases h5 with h5 | h5
        · have hend := endsAll_at (listed := listed) h5 hsz his hun (fun e he hb => by
            have h1 := hall e he (by rw [hmd]; exact hb)
            rcases Nat.lt_or_ge e.on listed.size with hes | hes
            · simp [hes] at h1 ⊢
              exact h1
            · simp [show ¬ e.on < listed.size by omega])
          exact hnext (A'.put o.dst u) B' J' r [] u w' (put_put _ _ _ _) (k2.more ho (k3 (i, true) (by simp))) h2 (k1.step0 h4 h3) (fun j hj hne => (hne (hend j hj)).elim) (fun p hp => ⟨k3 p (List.mem_cons_of_mem _ hp), g4 p hp⟩)
        refine hnext (A'.put o.dst u) B' J' r pre' u w' (put_put _ _ _ _) (k2.more ho (k3 (i, true) (by simp))) h2 (k1.step ho h5 h4 h3) (fun j hj hne => ?_) (fun p hp => ⟨k3 p (List.mem_cons_of_mem _ hp), g4 p hp⟩)
        rcases k4 j (hc j hj) with h | ⟨p, hp, rfl⟩
        · exact .inl h
        · rcases List.mem_cons.1 hp with rfl | hp
          · exact (hne rfl).elim
          · exact .inr ⟨p, hp, rfl⟩
      unfold wpOp
      simp only [ho]
      unfold wpList at h
      rw [hwant]
      simp only [hwc, if_true] at h ⊢
      rcases h with h | ⟨_, _, _, h, _⟩
      case inr => cases h
      refine .inl ?_
      unfold Oper.wp at h ⊢
      rw [execOp_congr o f1 heval]
      generalize (execOp A'.eval o).run P w = x at *
      cases x with
      | ok x w' =>
        cases x <;> simp only [Oper.upon] at h ⊢
        case value v => exact hmake v w' h.2
        case skip => exact hmake _ w' h.2
        case defer d =>
          obtain ⟨v, B', J', h1, _⟩ := h.2
          have := congrArg (fun b : Act => b.defers.length) h1
          simp only [put_defers] at this
          simp at this
        case enter f args =>
          refine Calls.mono h fun e w'' he => ?_
          cases e with
          | returned v => exact hmake v w'' he.2
          | panicked c => cases he.1
          | outgrown => obtain ⟨_, _, h, _⟩ := he; cases h
        case row row args => exact Rows.mono h fun v w'' he => hmake v w'' he.2
      | halt x w' =>
        cases x <;> simp only [Oper.upon] at h ⊢
        case panic u => cases h.1
    · have hpre : i ∈ pre' := hcase.resolve_right hpost
      have hne : ∀ p ∈ post', p.1 ≠ i := fun p hp e => hpost ⟨p, hp, e⟩
      have h := k1.fact i hpre o ho w (k1.sub w hJ)
      unfold wpOp
      simp only [ho]
      unfold wpList at h
      rw [hwant]
      split
      · rename_i hw
        simp only [hw, if_true] at h
        rcases h with h | ⟨_, _, _, h, _⟩
        case inr => cases h
        refine .inl ?_
        unfold Oper.wp at h ⊢
        rw [execOp_congr o f1 heval]
        generalize (execOp A'.eval o).run P w = r at *
        cases r with
        | ok x w' =>
          cases x <;> simp only [Oper.upon] at h ⊢
          case value v => exact hkeep v w' h.2.1 h.2.2 hne
          case skip => exact hkeep _ w' h.2.1 h.2.2 hne
          case defer d =>
            have := congrArg List.length (put_self h.2.1).1
            simp at this
          case enter f args =>
            refine Calls.mono h fun e w'' he => ?_
            cases e with
            | returned v => exact hkeep v w'' he.2.1 he.2.2 hne
            | panicked c => cases he.1
            | outgrown => obtain ⟨_, _, h, _⟩ := he; cases h
          case row row args => exact Rows.mono h fun v w'' he => hkeep v w'' he.2.1 he.2.2 hne
        | halt x w' =>
          cases x <;> simp only [Oper.upon] at h ⊢
          case panic u => cases h.1
      · rename_i hw
        simp only [hw] at h
        exact hkeep _ w h.2.1 rfl hne

/-- the walk, behind a name that nothing unfolds; J: the world as it stands; B: what is known in whatever world there may be from here on -/
structure WalkM (P : Program) (ops : Array Oper) (Q : Exit → Act → World → Prop) (l : List (Oper × Bool)) (a : Act) (B J : World → Prop) : Prop where
  go : SeqM P ops Q l a B J
theorem WalkM.nil {a : Act} {B J : World → Prop} (h : ∀ w, J w → Q .normal a w) : WalkM P ops Q [] a B J := ⟨h⟩
theorem WalkM.off {a : Act} {B J : World → Prop} {o : Oper} {b : Bool} {r : List (Oper × Bool)} (hw : asks ops.toList o a.tmps.toList = false) (h : WalkM P ops Q r (a.put o.dst undef) B J) : WalkM P ops Q ((o, b) :: r) a B J := by
  have hw' : Region.wanted o (yielded ops a.tmps) = false := (asks_eq _ _ _).trans hw
  refine ⟨?_⟩
  cases b <;> (simp only [SeqM, hw']; exact h.go)
/-- where an operation ends that leaves the world alone -/
structure Lets (A : Act) (w : World) (e : Exit) (a' : Act) (w' : World) : Prop where
  e : e = .normal
  a : a' = A
  i : w' = w
theorem Lets.eq {A : Act} {w : World} : Lets A w = fun e a' w' => e = .normal ∧ a' = A ∧ w' = w := by
  funext e a' w'
  exact propext ⟨fun h => ⟨h.e, h.a, h.i⟩, fun h => ⟨h.1, h.2.1, h.2.2⟩⟩
theorem WalkM.on {a : Act} {B J : World → Prop} {o : Oper} {r : List (Oper × Bool)} (hw : asks ops.toList o a.tmps.toList = true) {v : Value}
    (h1 : ∀ w, B w → wpList P ops (Lets (a.put o.dst v) w) [o] a w) (h : WalkM P ops Q r (a.put o.dst v) B J) : WalkM P ops Q ((o, false) :: r) a B J := by
  have hw' : Region.wanted o (yielded ops a.tmps) = true := (asks_eq _ _ _).trans hw
  refine ⟨?_⟩
  simp only [SeqM, hw', if_true]
  exact ⟨v, fun w hB => Lets.eq ▸ h1 w hB, h.go⟩
/-- where an operation ends that makes or writes memory: the walk goes on there; one that stands behind all others (endsAll) need not keep what the others rely on -/
structure Made (P : Program) (ops : Array Oper) (Q : Exit → Act → World → Prop) (r : List (Oper × Bool)) (a : Act) (o : Oper) (B : World → Prop) (e : Exit) (a' : Act) (w' : World) : Prop where
  e : e = .normal
  on : ∃ v B' J', a' = a.put o.dst v ∧ J' w' ∧ (∀ w, J' w → B' w) ∧ (endsAll ops o = true ∨ ∀ w, B' w → B w) ∧ WalkM P ops Q r (a.put o.dst v) B' J'
theorem WalkM.make {a : Act} {B J : World → Prop} {o : Oper} {r : List (Oper × Bool)} (hw : asks ops.toList o a.tmps.toList = true)
    (h1 : ∀ w, J w → wpList P ops (Made P ops Q r a o B) [o] a w) : WalkM P ops Q ((o, true) :: r) a B J := by
  have hw' : Region.wanted o (yielded ops a.tmps) = true := (asks_eq _ _ _).trans hw
  have he : Made P ops Q r a o B = fun e a' w' => e = .normal ∧ ∃ v B' J', a' = a.put o.dst v ∧ J' w' ∧ SeqM P ops Q r (a.put o.dst v) B' J' ∧ (∀ w, J' w → B' w) ∧ (endsAll ops o = true ∨ ∀ w, B' w → B w) := by
    funext e a' w'
    exact propext ⟨fun h => ⟨h.e, let ⟨v, B', J', h1, h2, h3, h4, h5⟩ := h.on; ⟨v, B', J', h1, h2, h5.go, h3, h4⟩⟩, fun h => ⟨h.1, let ⟨v, B', J', h1, h2, h3, h4, h5⟩ := h.2; ⟨v, B', J', h1, h2, h4, h5, ⟨h3⟩⟩⟩⟩
  refine ⟨?_⟩
  simp only [SeqM, hw', if_true]
  exact fun w hJ => he ▸ h1 w hJ

theorem regionM {id : Nat} {a : Act} {w : World} (ord : List (Nat × Bool)) (B : World → Prop) (hm : P.follows .mixedOrders = true) (hf : fine .any ops = true) (hok : okM .any ops ord = true) (hwh : whole ops ord = true) (hB : B w.drew)
    {l : List (Oper × Bool)} (hl : named ops ord = l) (hs : WalkM P ops Q l a B (fun W => W = w.drew)) : (Code.region id ops true).wp P Q a w := by
  subst hl
  refine wp_region_any hm ?_
  have h := run_made (md := .any) (P := P) (Q := Q) rfl hf ops.size (List.range ops.size) (Array.replicate ops.size false) a a w.drew B (fun W => W = w.drew) ord [] (by simp) (by simp) List.nodup_range (fun j => ?_) (fun j hj => ?_) (fun p hp => ?_) ⟨rfl, rfl, fun _ _ => rfl⟩ rfl
    ⟨fun W h => h ▸ hB, (fun i hi => nomatch hi), (fun i hi => nomatch hi), (fun i hi => nomatch hi), (fun i hi => nomatch hi), hok, hs.go⟩
  · exact h
  · rw [List.mem_range]
    by_cases h : j < ops.size
    · simp [h]
    · simp [h]
  · right
    have hjs : j < ops.size := by
      rcases Nat.lt_or_ge j ops.size with h | h
      · exact h
      · simp [h] at hj
    have := List.all_eq_true.1 hwh j (List.mem_range.2 hjs)
    obtain ⟨p, hp, hpj⟩ := List.any_eq_true.1 this
    exact ⟨p, hp, by simpa using hpj⟩
  · have hlt : p.1 < ops.size := by
      clear hs hwh
      induction ord with
      | nil => cases hp
      | cons q r ih =>
        obtain ⟨o, ho, _, _, _, _, _, g6⟩ := okM_cons (i := q.1) (b := q.2) hok
        rcases List.mem_cons.1 hp with rfl | hp
        · exact (Array.getElem?_eq_some_iff.1 ho).1
        · exact ih g6 hp
    simp [hlt]
end
end Pu
end Go.Proofs.Ythfpfomifebpbaa

namespace Go.Proofs.Ythfpfomifebpbaa
open Go.RowKit
theorem grownBy_segs {b : Nat} : ∀ (vs : List Value) (w : World) (o : Nat), w.grownBy (w.setCells b o vs) (some b)
  | [], w, _ => ⟨rfl, rfl, rfl, Nat.le_refl _, fun _ _ _ => rfl⟩
  | v :: r, w, o => by
    rw [World.setCells]
    exact (grownBy_set w b o v).andThen (grownBy_segs r _ (o + 1)) (fun j e => .inr e)
def putSeg (cs : Array Value) (o : Nat) : List Value → Array Value
  | [] => cs
  | v :: r => putSeg (cs.setIfInBounds o v) (o + 1) r
theorem putSeg_eq : ∀ (vs : List Value) (cs : Array Value) (o : Nat), o + vs.length ≤ cs.size → putSeg cs o vs = (cs.toList.take o ++ vs ++ cs.toList.drop (o + vs.length)).toArray
  | [], cs, o, _ => by simp [putSeg]
  | v :: r, cs, o, h => by
    simp only [List.length_cons] at h
    rw [putSeg, putSeg_eq r _ (o + 1) (by simp; omega)]
    congr 1
    rw [Array.toList_setIfInBounds]
    apply List.ext_getElem?
    intro i
    have hl : (cs.toList.take o).length = o := by rw [List.length_take]; simp; omega
    have hl2 : ((cs.toList.set o v).take (o + 1)).length = o + 1 := by rw [List.length_take, List.length_set]; simp; omega
    rcases Nat.lt_trichotomy i o with h1 | h1 | h1
    · rw [List.getElem?_append_left (by simp [hl2]; omega), List.getElem?_append_left (by omega), List.getElem?_append_left (by simp [hl]; omega), List.getElem?_append_left (by omega)]
      rw [List.getElem?_take, if_pos (by omega), List.getElem?_take, if_pos h1, List.getElem?_set_ne (by omega)]
    · subst h1
      rw [List.getElem?_append_left (by simp [hl2]; omega), List.getElem?_append_left (by omega), List.getElem?_append_left (by simp [hl]), List.getElem?_append_right (by omega)]
      rw [List.getElem?_take, if_pos (by omega), List.getElem?_set_self (by simp; omega), hl]
      simp
    · by_cases h2 : i < o + 1 + r.length
      · rw [List.getElem?_append_left (by simp [hl2]; omega), List.getElem?_append_right (by omega), hl2, List.getElem?_append_left (by simp [hl]; omega), List.getElem?_append_right (by omega), hl]
        rw [show i - o = (i - (o + 1)) + 1 by omega, List.getElem?_cons_succ]
      · rw [List.getElem?_append_right (by simp [hl2]; omega), List.getElem?_append_right (by simp [hl]; omega)]
        simp only [List.length_append, hl2, hl, List.length_cons, List.getElem?_drop]
        rw [List.getElem?_set_ne (by omega)]
        congr 1
        omega
theorem Ob.seg {g : Nat} {t : TypeId} : ∀ (vs : List Value) {w : World} {cs : Array Value} (o : Nat), Ob w g t cs → Ob (w.setCells g o vs) g t (putSeg cs o vs)
  | [], _, _, _, h => h
  | v :: r, w, cs, o, h => by
    rw [World.setCells, putSeg]
    exact Ob.seg r (o + 1) (h.set o v)
theorem Ob.all {w : World} {g : Nat} {t : TypeId} {cs : Array Value} (h : Ob w g t cs) (vs : List Value) (hl : vs.length = cs.size) : Ob (w.setCells g 0 vs) g t vs.toArray := by
  have := Ob.seg vs 0 h
  rw [putSeg_eq vs cs 0 (by omega)] at this
  have e : cs.toList.take 0 ++ vs ++ cs.toList.drop (0 + vs.length) = vs := by
    rw [Nat.zero_add, hl, List.take_zero, List.nil_append, List.drop_of_length_le (by simp), List.append_nil]
  rw [e] at this
  exact this
theorem Ob.there {w : World} {g : Nat} {t : TypeId} {cs : Array Value} (h : Ob w g t cs) {o n : Nat} (hn : o + n ≤ cs.size) : w.there g o n := fun j hj => by
  refine ⟨?_, h.frozen _⟩
  rw [h.cell (j := o + j) (v := cs[o + j]'(by omega)) (by rw [Array.getElem?_eq_getElem (by omega)])]
  rfl
theorem Ob.range {w : World} {g : Nat} {t : TypeId} {cs : Array Value} (h : Ob w g t cs) {o : Nat} {vs : List Value} (hv : ∀ j v, vs[j]? = some v → cs[o + j]? = some v) : w.rangeAt g o vs := fun j v hj => h.cell (hv j v hj)
theorem Ob.store {P : Program} {w : World} {g : Nat} {t : TypeId} {cs : Array Value} (h : Ob w g t cs) (o : Nat) (vs : List Value) (hn : o + vs.length ≤ cs.size) (h1 : ∀ v ∈ vs, v.oneCell' = true) : (storeCells ⟨g, o, none⟩ vs).run P w = .ok () (w.setCells g o vs) := by
  have ht := h.there hn
  have := run_storeCells_cells (P := P) g o vs 0 w (fun j hj => by simpa using (ht j hj).1) (fun j hj => by simpa using (ht j hj).2) h1
  simpa using this
end Go.Proofs.Ythfpfomifebpbaa
