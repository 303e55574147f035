/-
  slices.Concat at items: what it hands back owns the parts, one behind the other.
  items: the walk of Plus.
  a row of items of the call's own, read as a list in memory.
  objects in memory: a block of some cells that may be written; what else is kept.
  A region that draws its order, some of whose operations make or write memory, one behind the other: walked once, in an order in which whatever comes behind such an operation is bound to it.
  moves: what they are in memory; New, made, is, Len.
  append onto a row of the call's own from a slice that is known, as one step of a region that draws its order.
  cells of numbers: a number's cell, as the program and as the document make it.
-/
import Derived.Test.YtdbkkldgobkjcaaGreatLayed
import Derived.Test.YtdbkkldgobkjcaaGreatMz3
import Derived.Test.YtdbkkldgobkjcaaGreatMz2
import Derived.Test.YtdbkkldgobkjcaaGreatMz1
import Derived.RangeFuncNested
import Derived.Lib.SliceRun
import Derived.Laws.EntriesVeiled
import Derived.Deep.RegionLaw
import Derived.Laws.OwnMore
import Derived.Lib.Zigzag

set_option linter.unusedVariables false
set_option linter.unusedSimpArgs false
namespace Go.Proofs.YtdbkkldgobkjcaaGreat
open Go.RowKit Go.Shelf
namespace CatI

/-- a part: its address, length, capacity, cells -/
abbrev Part := Option Addr × Nat × Nat × List Value
def pv (p : Part) : Value := .slice p.1 p.2.1 p.2.2.1
def lens : List Part → Nat
  | [] => 0
  | p :: r => p.2.1 + lens r
def all (l : List Part) : List Value := (l.map (·.2.2.2)).flatten
theorem lens_le (l : List Part) (k : Nat) : lens (l.take k) ≤ lens l := by
  induction l generalizing k with
  | nil => simp [lens]
  | cons p r ih =>
    cases k with
    | zero => simp [lens]
    | succ k => simp only [List.take_succ_cons, lens]; have := ih k; omega
theorem lens_succ (l : List Part) (k : Nat) (h : k < l.length) : lens (l.take (k + 1)) = lens (l.take k) + l[k].2.1 := by
  induction l generalizing k with
  | nil => simp at h
  | cons p r ih =>
    cases k with
    | zero => simp [lens]
    | succ k => simp only [List.take_succ_cons, lens, List.getElem_cons_succ]; rw [ih k (by simpa using h)]; omega
theorem all_succ (l : List Part) (k : Nat) (h : k < l.length) : all (l.take (k + 1)) = all (l.take k) ++ l[k].2.2.2 := by
  unfold all
  induction l generalizing k with
  | nil => simp at h
  | cons p r ih =>
    cases k with
    | zero => simp
    | succ k =>
      simp only [List.take_succ_cons, List.map_cons, List.flatten_cons, List.getElem_cons_succ, List.append_assoc]
      rw [ih k (by simpa using h)]

set_option maxHeartbeats 1000000 in
theorem grow_calls (n : Nat) (w : World) (hn : n ≤ 1000000) :
    Calls Tryz.prog 133 #[.slice none 0 0, .int .i64 n] w fun e w' => (∃ v, e = .returned v ∧ w'.ownsRow w.heap.size 37 2 v 0 []) ∧ Below w.heap.size w w' := by
  cases n with
  | zero =>
    refine (Any8.slices_Grow_room Tryz.grow133 none 0 0 0 w (by omega) (by omega) (by omega) (by omega)).mono ?_
    rintro e w' ⟨rfl, rfl⟩
    exact ⟨⟨_, rfl, World.ownsRow_nil _ _ _ _⟩, Below.refl _ _⟩
  | succ n =>
    obtain ⟨i0, hi0, hz0⟩ := Option.map_eq_some_iff.1 It.item_info
    simp only [Prod.mk.injEq] at hz0
    obtain ⟨hz0, hz1, hz2⟩ := hz0
    refine (Any8.slices_Grow_grow Tryz.grow133 i0 _ hi0 hz0 (by omega) none 0 0 (n + 1) [] w (by omega) (by omega) (by rw [hz2]; omega) (by omega) (by simp) (by simp) (by simp)).mono ?_
    rintro e w' ⟨rfl, rfl⟩
    have hG := grownCap_le_maxLen w (0 + (n + 1)) 0 (Tryz.grow133_ren.t 25) (by unfold maxLen; omega)
    have hge := grownCap_ge w (0 + (n + 1)) 0 (Tryz.grow133_ren.t 25)
    refine ⟨⟨_, rfl, ?_⟩, ((Below.refl w.heap.size w).drew).alloc (Nat.le_refl _) _⟩
    refine World.ownsRow_made w.drew _ _ (Nat.le_refl _) hG ?_
    generalize grownCap w (0 + (n + 1)) 0 (Tryz.grow133_ren.t 25) = G at *
    simp only [Array.size_append, size_zeroCells, Value.cells]
    simp
    omega

/-- the parts lie in memory -/
structure Parts (w : World) (B : Nat) (l : List Part) : Prop where
  sl : ∀ p ∈ l, Sl w 0 B 2 (pv p) p.2.1 p.2.2.2
  one : ∀ p ∈ l, ∀ y ∈ p.2.2.2, y.oneCell' = true

set_option maxRecDepth 100000 in
set_option maxHeartbeats 4000000 in
theorem concat_calls (l : List Part) (bk c : Nat) (w : World) (hlc : l.length ≤ c) (hc : c ≤ maxLen) (hbk : bk < w.heap.size) (hcell : ∀ j (h : j < l.length), w.cell? ⟨bk, j, none⟩ = some (pv l[j])) (hp : Parts w w.heap.size l) (hlen : lens l ≤ 1000000) :
    Calls Tryz.prog 119 #[.slice (some ⟨bk, 0, none⟩) l.length c] w fun e w' => (∃ v, e = .returned v ∧ w'.ownsRow w.heap.size 37 2 v (lens l) (all l)) ∧ Below w.heap.size w w' := by
  have HC := Lib.hid hcell
  clear hcell
  unfold maxLen at hc
  have cG := Lib.hid (fun W => grow_calls (lens l) W hlen)
  have hle := Lib.hid (lens_le l)
  have hls := Lib.hid (lens_succ l)
  have hla := Lib.hid (show lens (l.take l.length) = lens l by rw [List.take_length])
  have hal := Lib.hid (show all (l.take l.length) = all l by rw [List.take_length])
  have has := Lib.hid (all_succ l)
  generalize lens l = T at *
  go_enter Tryz.func119, Tryz.ntmps119
  go_wp2_with fail
  go_loop [3, 5, 11] (fun s _ i => ∃ k : Nat, k ≤ l.length ∧ i = .int .i64 k ∧ s = .int .i64 (lens (l.take k))) (fun _ _ i => l.length - (intOf i).toNat)
  case atStart => exact ⟨0, by omega, rfl, rfl⟩
  case round =>
    obtain ⟨k, hk, rfl, rfl⟩ := hrel
    by_cases hlt : k < l.length
    · have hck := HC.out k hlt
      have hS0 := hls.out k hlt
      have h1 := hle.out k
      have h2 := hle.out (k + 1)
      rw [hS0] at h2
      generalize l[k] = p at hck hS0 h2
      obtain ⟨A, n, c', xs⟩ := p
      simp only [pv] at hck
      dsimp only at h2 hS0
      have hS := Lib.hid hS0
      clear hS0
      generalize lens (l.take k) = S at *
      have hneg : decide (((S : Int) + (n : Int)) < 0) = false := by simp; omega
      have hw : wrap64 ((S : Int) + (n : Int)) = (S : Int) + (n : Int) := by unfold wrap64; omega
      go_wp2
      go_round
      case rel => exact ⟨k + 1, by omega, by go_num, by rw [hS.out]; go_num⟩
      case measure => simp [intOf]; omega
    · obtain rfl : k = l.length := by omega
      rw [hla.out]
      go_wp2_with fail
      refine (cG.out _).mono ?_
      rintro e w1 ⟨⟨v, rfl, hv⟩, h1⟩
      have hs1 := h1.size
      go_wp2_with fail
      go_loopw [6, 8, 27] (fun u _ i wr => ∃ k : Nat, k ≤ l.length ∧ i = .int .i64 k ∧ wr.ownsRow w.heap.size 37 2 u (lens (l.take k)) (all (l.take k)) ∧ Below w.heap.size w wr) (fun _ _ i _ => l.length - (intOf i).toNat)
      case atStart => exact ⟨0, by omega, rfl, hv, h1⟩
      case round =>
        obtain ⟨k, hk, rfl, hown, hB⟩ := hrel
        by_cases hlt : k < l.length
        · have hck0 := HC.out k hlt
          have hck := (hB.cell (p := ⟨bk, k, none⟩) hbk).trans hck0
          have hsl := (hp.sl _ (List.getElem_mem hlt)).below hB
          have hone := Lib.hid (hp.one _ (List.getElem_mem hlt))
          have hS0 := hls.out k hlt
          have hA0 := has.out k hlt
          have h2 := hle.out (k + 1)
          rw [hS0] at h2
          clear hck0
          generalize l[k] = p at hck hS0 hA0 h2 hsl hone
          obtain ⟨A, n, c', xs⟩ := p
          simp only [pv] at hck hsl
          dsimp only at h2 hS0 hA0 hsl hone
          have hS := Lib.hid hS0
          have hA := Lib.hid hA0
          clear hS0 hA0
          generalize lens (l.take k) = S at *
          generalize all (l.take k) = X at *
          obtain ⟨i0, hi0, hz0⟩ := Option.map_eq_some_iff.1 It.item_info
          simp only [Prod.mk.injEq] at hz0
          obtain ⟨hz0, hz1, hz2⟩ := hz0
          go_wp2_with (at_builtin
                       refine wpList_append_sl _ rfl (.tmp 31) (.tmp 32) _ rfl w.heap.size 37 i0 _ 2 24 Tryz.underlying30 hi0 hz0 hz1 hz2 rfl (by omega) u6 S X rfl hown 0 w.heap.size _ n xs rfl hsl hone.out (by unfold maxLen; omega) (by omega) hB.size ?_
                       intro v1 w5 hv1 hg1 hat1)
          go_roundw
          case rel => exact ⟨k + 1, by omega, by go_num, by rw [hS.out, hA.out]; exact hv1, hB.grown hg1 hB.size (fun g hg => (hown.lt g hg).1)⟩
          case measure => simp [intOf]; omega
        · obtain rfl : k = l.length := by omega
          rw [hla.out, hal.out] at hown
          obtain ⟨A5, c5, rfl, -⟩ := (Sl.of_own hown).at_
          go_wp2
          go_ret
          exact ⟨⟨_, rfl, hown⟩, hB⟩
end CatI
end Go.Proofs.YtdbkkldgobkjcaaGreat

namespace Go.Proofs.YtdbkkldgobkjcaaGreat
open Go.RowKit Go.Maps
namespace It

def plusOf (a b : List Item) : List Item × Int := if may a && may b then normRes (a ++ b) else ([], 60)
theorem may_len {l : List Item} (h : may l = true) : l.length ≤ 16 := by
  unfold may at h
  rw [Bool.and_eq_true, decide_eq_true_iff] at h
  exact h.2
theorem Fits.append {a b : List Item} (ha : Fits a) (hb : Fits b) : Fits (a ++ b) := fun x hx => (List.mem_append.1 hx).elim (ha x) (hb x)

set_option maxRecDepth 100000 in
set_option maxHeartbeats 2000000 in
theorem plus_calls (a b : List Item) (va vb : Value) (w : World) (ha : ItemsAt w 0 w.heap.size va a) (hb : ItemsAt w 0 w.heap.size vb b) (hFa : Fits a) (hFb : Fits b) :
    Calls Tryz.prog 91 #[va, vb] w fun e w' =>
      (∃ v, e = .returned (.tuple #[v, .int .i64 (plusOf a b).2]) ∧ w'.ownsRow w.heap.size 37 2 v (plusOf a b).1.length (itemCells (plusOf a b).1)) ∧ Below w.heap.size w w' := by
  have cA := Lib.hid (fun W hI => may_calls a va W hI hFa)
  have cB := Lib.hid (fun W hI => may_calls b vb W hI hFb)
  have HM := Lib.hid (show plusOf a b = if may a && may b then normRes (a ++ b) else ([], 60) from rfl)
  have hla := Lib.hid (fun h => may_len (l := a) h)
  have hlb := Lib.hid (fun h => may_len (l := b) h)
  have cN := Lib.hid (fun v W hI hl => norm_calls (a ++ b) v W hI (hFa.append hFb) hl)
  obtain ⟨A, c, rfl, hc1, hc2⟩ := ha.form
  obtain ⟨A', c', rfl, hc1', hc2'⟩ := hb.form
  have cC := Lib.hid (fun bk W h1 h2 h3 h4 => CatI.concat_calls [(A, a.length, c, itemCells a), (A', b.length, c', itemCells b)] bk 2 W (Nat.le_refl _) (by unfold maxLen; omega) h1 h2 h3 h4)
  generalize plusOf a b = M at *
  generalize normRes (a ++ b) = R at *
  generalize hma : may a = ma at *
  generalize hmb : may b = mb at *
  go_enter Tryz.func91, Tryz.ntmps91
  go_wp2_with fail
  refine (cA.out _ ha).mono ?_
  rintro e w1 ⟨rfl, h1⟩
  have hb1 := hb.mono h1 h1.size
  have ha1 := ha.mono h1 h1.size
  cases ma with
  | false =>
    obtain rfl : M = ([], 60) := by rw [HM.out]; rfl
    go_wp2_with fail
    go_ret2
    exact ⟨⟨_, rfl, World.ownsRow_nil _ _ _ _⟩, h1⟩
  | true =>
    go_wp2_with fail
    refine (cB.out _ hb1).mono ?_
    rintro e w2 ⟨rfl, h2⟩
    have hb2 := hb1.mono h2 h2.size
    have ha2 := ha1.mono h2 h2.size
    have hB2 := h1.trans (h2.mono h1.size)
    cases mb with
    | false =>
      obtain rfl : M = ([], 60) := by rw [HM.out]; rfl
      go_wp2_with fail
      go_ret2
      exact ⟨⟨_, rfl, World.ownsRow_nil _ _ _ _⟩, hB2⟩
    | true =>
      obtain rfl : M = R := by rw [HM.out]; rfl
      have h16 := hla.out trivial
      have h16' := hlb.out rfl
      go_wp2_with fail
      have hB3 := hB2.alloc hB2.size (.cells #[.slice A a.length c, .slice A' b.length c'] 30)
      have ha3 := ha2.mono ((Below.refl _ w2).alloc (Nat.le_refl _) (.cells #[.slice A a.length c, .slice A' b.length c'] 30)) (B' := (w2.alloc (.cells #[.slice A a.length c, .slice A' b.length c'] 30)).heap.size) (by simp)
      have hb3 := hb2.mono ((Below.refl _ w2).alloc (Nat.le_refl _) (.cells #[.slice A a.length c, .slice A' b.length c'] 30)) (B' := (w2.alloc (.cells #[.slice A a.length c, .slice A' b.length c'] 30)).heap.size) (by simp)
      have hbk : w2.heap.size < (w2.alloc (.cells #[.slice A a.length c, .slice A' b.length c'] 30)).heap.size := by simp
      have hcell : ∀ j (h : j < 2), (w2.alloc (.cells #[.slice A a.length c, .slice A' b.length c'] 30)).cell? ⟨w2.heap.size, j, none⟩ = some (CatI.pv [((A, a.length, c, itemCells a) : CatI.Part), (A', b.length, c', itemCells b)][j]) := by
        intro j h
        unfold World.cell?
        rw [heap_alloc_new]
        match j, h with
        | 0, _ => rfl
        | 1, _ => rfl
      generalize w2.alloc (.cells #[.slice A a.length c, .slice A' b.length c'] 30) = w3 at *
      refine (cC.out _ w3 hbk hcell ⟨?_, ?_⟩ (by simp [CatI.lens]; omega)).mono ?_
      · intro p hp
        simp only [List.mem_cons, List.not_mem_nil, or_false] at hp
        rcases hp with rfl | rfl
        · exact ha3
        · exact hb3
      · intro p hp
        simp only [List.mem_cons, List.not_mem_nil, or_false] at hp
        rcases hp with rfl | rfl
        · exact itemCells_one a
        · exact itemCells_one b
      rintro e w4 ⟨⟨v, rfl, hv⟩, h4⟩
      have hv2 : w4.ownsRow w3.heap.size 37 2 v (a ++ b).length (itemCells (a ++ b)) := by
        have e1 : CatI.lens [(A, a.length, c, itemCells a), (A', b.length, c', itemCells b)] = (a ++ b).length := by simp [CatI.lens]
        have e2 : CatI.all [(A, a.length, c, itemCells a), (A', b.length, c', itemCells b)] = itemCells (a ++ b) := by simp [CatI.all, itemCells_append]
        rw [← e1, ← e2]; exact hv
      have hI4 := (ItemsAt.of_own hv2).wide (lo' := 0) (Nat.zero_le _) (Nat.le_refl _)
      have hB4 := hB3.trans (h4.mono hB3.size)
      go_wp2_with fail
      refine (cN.out v w4 hI4 (by simp; omega)).mono ?_
      rintro e w5 ⟨⟨u, rfl, hu⟩, h5⟩
      go_wp2_with fail
      go_ret2
      exact ⟨⟨_, rfl, ownsRow_wide hu hB4.size⟩, hB4.trans (h5.mono hB4.size)⟩
end It
end Go.Proofs.YtdbkkldgobkjcaaGreat

namespace Go.Proofs.YtdbkkldgobkjcaaGreat
open Go.RowKit
namespace It
theorem toAt {w : World} {lo : Nat} {v : Value} {l : List Item} (h : w.ownsRow lo 37 2 v l.length (itemCells l)) : ItemsAt w 0 w.heap.size v l := (ItemsAt.of_own h).wide (Nat.zero_le _) (Nat.le_refl _)
theorem same_true {l : List Item} : decide (l = l) = true := by simp
end It
end Go.Proofs.YtdbkkldgobkjcaaGreat

namespace Go.Proofs.YtdbkkldgobkjcaaGreat
open Go.RowKit

/-- block b holds an object of type t, whose cells are cs -/
def Ob (w : World) (b : Nat) (t : TypeId) (cs : Array Value) : Prop := w.heap[b]? = some (.cells cs t (0, 0))
section
variable {w w' : World} {b b' j B : Nat} {t : TypeId} {cs : Array Value} {row : Option Nat}
theorem Ob.lt (h : Ob w b t cs) : b < w.heap.size := (Array.getElem?_eq_some_iff.1 h).1
theorem Ob.cell (h : Ob w b t cs) {v : Value} (hj : cs[j]? = some v) : w.cell? ⟨b, j, none⟩ = some v := by
  simp [World.cell?, show w.heap[b]? = _ from h, hj]
theorem Ob.frozen (h : Ob w b t cs) (j : Nat) : w.frozen? ⟨b, j, none⟩ = false := by simp [World.frozen?, show w.heap[b]? = _ from h]
theorem Ob.new (w : World) (t : TypeId) (cs : Array Value) : Ob (w.alloc (.cells cs t)) w.heap.size t cs := heap_alloc_new w _
theorem Ob.kept (h : Ob w b t cs) (hg : w.grownBy w' row) (hne : some b ≠ row) : Ob w' b t cs := (hg.block b h.lt hne).trans h
theorem Ob.alloc (h : Ob w b t cs) (o : Obj) : Ob (w.alloc o) b t cs := h.kept (World.grownBy_alloc w o none) (by simp)
theorem Ob.below (h : Ob w b t cs) (hb : Below B w w') (hB : b < B) : Ob w' b t cs := (hb.block b hB).trans h
theorem Ob.same (h : Ob w b t cs) (hb : Below w.heap.size w w') : Ob w' b t cs := h.below hb h.lt
theorem Ob.set (h : Ob w b t cs) (j : Nat) (v : Value) : Ob (w.setCell ⟨b, j, none⟩ v) b t (cs.setIfInBounds j v) := by
  obtain ⟨hlt, hk⟩ := Array.getElem?_eq_some_iff.1 h
  show (w.heap.modify b _)[b]? = _
  rw [Array.getElem?_eq_getElem (by rw [Array.size_modify]; exact hlt), Array.getElem_modify_self, hk]
  simp
theorem grownBy_set (w : World) (b j : Nat) (v : Value) : w.grownBy (w.setCell ⟨b, j, none⟩ v) (some b) :=
  ⟨rfl, rfl, rfl, (KeepsWalks.setCell w _ v).size, fun k _ hk => Below.heap_setCell _ _ _ k (fun e => hk (by rw [e]))⟩
theorem Ob.other (h : Ob w b t cs) (hne : b ≠ b') (j : Nat) (v : Value) : Ob (w.setCell ⟨b', j, none⟩ v) b t cs := h.kept (grownBy_set w b' j v) (fun e => hne (by cases e; rfl))
end

/-- the blocks of Fr are as they were -/
structure Kept (Fr : Nat → Prop) (w w' : World) : Prop where
  os : w'.os = w.os
  tape : w'.tape = w.tape
  output : w'.output = w.output
  size : w.heap.size ≤ w'.heap.size
  block : ∀ k, Fr k → w'.heap[k]? = w.heap[k]?
section
variable {Fr Fr' : Nat → Prop} {a b c w w' : World} {B : Nat} {row : Option Nat}
theorem Kept.refl (Fr : Nat → Prop) (w : World) : Kept Fr w w := ⟨rfl, rfl, rfl, Nat.le_refl _, fun _ _ => rfl⟩
theorem Kept.trans (h : Kept Fr a b) (k : Kept Fr b c) : Kept Fr a c :=
  ⟨k.os.trans h.os, k.tape.trans h.tape, k.output.trans h.output, Nat.le_trans h.size k.size, fun i hi => (k.block i hi).trans (h.block i hi)⟩
theorem Kept.mono (h : Kept Fr a b) (hF : ∀ i, Fr' i → Fr i) : Kept Fr' a b := ⟨h.os, h.tape, h.output, h.size, fun i hi => h.block i (hF i hi)⟩
theorem Kept.of_below (h : Below B w w') (hF : ∀ i, Fr i → i < B) : Kept Fr w w' := ⟨h.os, h.tape, h.output, h.size, fun i hi => h.block i (hF i hi)⟩
theorem Kept.of_grown (h : w.grownBy w' row) (hF : ∀ i, Fr i → i < w.heap.size ∧ some i ≠ row) : Kept Fr w w' := ⟨h.os, h.tape, h.output, h.size, fun i hi => h.block i (hF i hi).1 (hF i hi).2⟩
theorem Kept.below (h : Kept Fr w w') (hF : ∀ i, i < B → Fr i) : Below B w w' := ⟨h.os, h.tape, h.output, h.size, fun i hi => h.block i (hF i hi)⟩
theorem Kept.ob {b : Nat} {t : TypeId} {cs : Array Value} (h : Kept Fr w w') (ho : Ob w b t cs) (hF : Fr b) : Ob w' b t cs := (h.block b hF).trans ho
theorem Kept.sl {lo B size n : Nat} {v : Value} {xs : List Value} (h : Kept Fr w w') (hs : Sl w lo B size v n xs) (hF : ∀ i, lo ≤ i → i < B → Fr i) : Sl w' lo B size v n xs :=
  hs.keep fun b _ h1 h2 => World.cell?_of_block (h.block b (hF b h1 h2))
end
end Go.Proofs.YtdbkkldgobkjcaaGreat

namespace Go.Proofs.YtdbkkldgobkjcaaGreat
open Go.RowKit
namespace Pu
section
variable {P : Program} {ops : Array Oper} {Q : Exit → Act → World → Prop} {md : Region.Mode}

theorem put_fix {A : Act} {t : Nat} {u : Value} : A.put (some t) u = A ↔ ∀ h : t < A.tmps.size, A.tmps[t] = u := by
  constructor
  · intro h hl
    have h1 := congrArg (fun b : Act => b.tmps[t]?) h
    simp only [Act.put, Array.getElem?_setIfInBounds_self, hl, if_true] at h1
    rw [Array.getElem?_eq_getElem hl] at h1
    exact (Option.some.inj h1).symm
  · intro h
    refine put_of ?_
    by_cases hl : t < A.tmps.size
    · rw [if_pos hl, Array.getElem?_eq_getElem hl, h hl]
    · rw [if_neg hl, Array.getElem?_eq_none (by omega)]

/-- an operation at another act that it looks at alike -/
theorem shift {o : Oper} {a A a2 A2 : Act} {w : World} {R : World → Prop} (hop : (match o.op with | .select .. => false | .defer _ => false | _ => true) = true) (heval : ∀ x ∈ o.op.operands, A.eval x = a.eval x)
    (hwant : Region.wanted o (yielded ops A.tmps) = Region.wanted o (yielded ops a.tmps)) (hd : a2.defers = a.defers) (hp : ∀ u, a.put o.dst u = a2 → A.put o.dst u = A2)
    (ho : wpList P ops (fun e a' w' => e = .normal ∧ a' = a2 ∧ R w') [o] a w) : wpList P ops (fun e a' w' => e = .normal ∧ a' = A2 ∧ R w') [o] A w := by
  unfold wpList at ho ⊢
  rw [hwant]
  split
  · rename_i hw
    simp only [hw, if_true] at ho
    rcases ho with ho | ⟨_, _, _, ho, _⟩
    case inr => cases ho
    refine .inl ?_
    have f1 : ∀ cs b, o.op ≠ .select cs b := fun cs b e => by rw [e] at hop; cases hop
    unfold Oper.wp at ho ⊢
    rw [execOp_congr o f1 heval]
    generalize (execOp a.eval o).run P w = r at *
    cases r with
    | ok x w' =>
      cases x <;> simp only [Oper.upon] at ho ⊢
      case value u => exact ⟨rfl, hp _ ho.2.1, ho.2.2⟩
      case skip => exact ⟨rfl, hp _ ho.2.1, ho.2.2⟩
      case defer d =>
        have := congrArg (fun b : Act => b.defers.length) ho.2.1
        simp only [hd] at this
        cases hod : o.dst <;> simp [Act.put, hod] at this
      case enter f args =>
        refine Calls.mono ho fun e w'' he => ?_
        cases e with
        | returned u => exact ⟨rfl, hp _ he.2.1, he.2.2⟩
        | panicked c => cases he.1
        | outgrown => obtain ⟨_, _, h, _⟩ := he; cases h
      case row row args => exact Rows.mono ho fun u w'' he => ⟨rfl, hp _ he.2.1, he.2.2⟩
    | halt x w' =>
      cases x <;> simp only [Oper.upon] at ho ⊢
      case panic u => cases ho.1
  · rename_i hw
    simp only [hw] at ho
    exact ⟨rfl, hp _ ho.2.1, ho.2.2⟩

/-- is this operation behind all others, by its own edges? -/
def endsAll (ops : Array Oper) (o : Oper) : Bool := decide (((List.range ops.size).filter fun j => !(o.after.any fun e => Region.binds .any e && e.on == j)).length ≤ 1)

/-- walked in an order: what only looks (false), what makes or writes (true) -/
def SeqM (P : Program) (ops : Array Oper) (Q : Exit → Act → World → Prop) : List (Oper × Bool) → Act → (World → Prop) → (World → Prop) → Prop
  | [], a, _, J => ∀ w, J w → Q .normal a w
  | (o, false) :: r, a, B, J =>
    if Region.wanted o (yielded ops a.tmps) = true then
      ∃ v, (∀ w, B w → wpList P ops (fun e a' w' => e = .normal ∧ a' = a.put o.dst v ∧ w' = w) [o] a w) ∧ SeqM P ops Q r (a.put o.dst v) B J
    else SeqM P ops Q r (a.put o.dst undef) B J
  | (o, true) :: r, a, B, J =>
    if Region.wanted o (yielded ops a.tmps) = true then
      ∀ w, J w → wpList P ops (fun e a' w' => e = .normal ∧ ∃ v B' J', a' = a.put o.dst v ∧ J' w' ∧ SeqM P ops Q r (a.put o.dst v) B' J' ∧ (∀ w, J' w → B' w) ∧ (endsAll ops o = true ∨ ∀ w, B' w → B w)) [o] a w
    else SeqM P ops Q r (a.put o.dst undef) B J

/-- the order fits: indices; what is looked at is written by none that comes behind; each that comes behind a making one is bound to it or to one between -/
def bound (md : Region.Mode) (ops : Array Oper) (i : Nat) (js : List Nat) : Bool := match ops[i]? with
  | none => false
  | some o => o.after.any fun e => Region.binds md e && js.contains e.on
def okM (md : Region.Mode) (ops : Array Oper) : List (Nat × Bool) → Bool
  | [] => true
  | (i, b) :: r =>
    (match ops[i]? with
      | none => false
      | some o =>
        (match o.op with | .select .. => false | .defer _ => false | _ => true) &&
        ((o.looksAt ops).all fun t => o.dst != some t && r.all fun p => match ops[p.1]? with | some q => q.dst != some t | none => false) &&
        (match o.dst with | none => true | some d => r.all fun p => match ops[p.1]? with | some q => q.dst != some d | none => false)) &&
    (r.all fun p => p.1 != i) &&
    (!b || (List.range r.length).all fun k => bound md ops ((r.getD k (0, false)).1) (i :: (r.take k).map (·.1))) &&
    okM md ops r
def whole (ops : Array Oper) (ord : List (Nat × Bool)) : Bool := (List.range ops.size).all fun i => ord.any fun p => p.1 == i
def named (ops : Array Oper) (ord : List (Nat × Bool)) : List (Oper × Bool) := ord.filterMap fun p => (ops[p.1]?).map fun o => (o, p.2)

theorem put_put (A : Act) (d : Option Tmp) (u v : Value) : (A.put d v).put d u = A.put d u := by
  cases d with
  | none => rfl
  | some d => simp [Act.put]
theorem put_comm (A : Act) {d e : Option Tmp} (h : ∀ t, d = some t → e ≠ some t) (u v : Value) : (A.put d v).put e u = (A.put e u).put d v := by
  cases d with
  | none => rfl
  | some d =>
    cases e with
    | none => rfl
    | some e =>
      have : d ≠ e := fun x => h d rfl (by rw [x])
      simp [Act.put, Array.setIfInBounds_comm _ _ this]
theorem put_defers (A : Act) (d : Option Tmp) (v : Value) : (A.put d v).defers = A.defers := by cases d <;> rfl
theorem put_size (A : Act) (d : Option Tmp) (v : Value) : (A.put d v).tmps.size = A.tmps.size := by cases d <;> simp [Act.put]
theorem put_at (A : Act) {d : Option Tmp} {t : Nat} (h : d ≠ some t) (v : Value) : (A.put d v).tmps[t]? = A.tmps[t]? := by
  cases d with
  | none => rfl
  | some d =>
    have : d ≠ t := fun x => h (by rw [x])
    simp [Act.put, Array.getElem?_setIfInBounds_ne this]
theorem put_eval (A : Act) {o : Oper} {d : Option Tmp} (h : ∀ t ∈ o.looksAt ops, d ≠ some t) (v : Value) : ∀ x ∈ o.op.operands, (A.put d v).eval x = A.eval x := by
  intro x hx
  cases x with
  | tmp t =>
    have hm : t ∈ o.looksAt ops := List.mem_append_left _ (List.mem_filterMap.2 ⟨.tmp t, by simpa using hx, rfl⟩)
    have := put_at A (h t hm) v
    simp [Act.eval, this]
  | _ => rfl
theorem put_wanted (A : Act) {o : Oper} {d : Option Tmp} (h : ∀ t ∈ o.looksAt ops, d ≠ some t) (v : Value) : Region.wanted o (yielded ops (A.put d v).tmps) = Region.wanted o (yielded ops A.tmps) := by
  unfold Region.wanted
  cases hg : o.guard with
  | none => rfl
  | some gw =>
    obtain ⟨g, want⟩ := gw
    have hy : yielded ops (A.put d v).tmps g = yielded ops A.tmps g := by
      unfold yielded
      cases ht : (ops[g]?).bind (·.dst) with
      | none => rfl
      | some t =>
        have hm : t ∈ o.looksAt ops := by simp [Oper.looksAt, hg, ht]
        simp [put_at A (h t hm) v]
    simp only [hy]

/-- what is known between two operations -/
structure St (P : Program) (ops : Array Oper) (Q : Exit → Act → World → Prop) (md : Region.Mode) (post : List (Nat × Bool)) (pre : List Nat) (A : Act) (B J : World → Prop) : Prop where
  sub : ∀ w, J w → B w
  op : ∀ i ∈ pre, ∀ o, ops[i]? = some o → (match o.op with | .select .. => false | .defer _ => false | _ => true) = true
  fact : ∀ i ∈ pre, ∀ o, ops[i]? = some o → ∀ w, B w → wpList P ops (fun e a' w' => e = .normal ∧ a' = A ∧ w' = w) [o] A w
  looks : ∀ i ∈ pre, ∀ o, ops[i]? = some o → ∀ t ∈ o.looksAt ops, ∀ p ∈ post, ∀ q, ops[p.1]? = some q → q.dst ≠ some t
  dst : ∀ i ∈ pre, ∀ o, ops[i]? = some o → ∀ d, o.dst = some d → ∀ p ∈ post, ∀ q, ops[p.1]? = some q → q.dst ≠ some d
  ok : okM md ops post = true
  seq : SeqM P ops Q (named ops post) A B J

theorem okM_cons {i : Nat} {b : Bool} {r : List (Nat × Bool)} (h : okM md ops ((i, b) :: r) = true) : ∃ o, ops[i]? = some o ∧ (match o.op with | .select .. => false | .defer _ => false | _ => true) = true ∧
    (∀ t ∈ o.looksAt ops, o.dst ≠ some t ∧ ∀ p ∈ r, ∀ q, ops[p.1]? = some q → q.dst ≠ some t) ∧ (∀ d, o.dst = some d → ∀ p ∈ r, ∀ q, ops[p.1]? = some q → q.dst ≠ some d) ∧
    (∀ p ∈ r, p.1 ≠ i) ∧ (b = true → ∀ k, k < r.length → bound md ops ((r.getD k (0, false)).1) (i :: (r.take k).map (·.1)) = true) ∧ okM md ops r = true := by
  simp only [okM, Bool.and_eq_true] at h
  obtain ⟨⟨⟨h1, h2⟩, h3⟩, h4⟩ := h
  cases ho : ops[i]? with
  | none => rw [ho] at h1; cases h1
  | some o =>
    rw [ho] at h1
    simp only [Bool.and_eq_true] at h1
    obtain ⟨⟨g1, g2⟩, g3⟩ := h1
    refine ⟨o, rfl, g1, fun t ht => ?_, fun d hd p hp q hq => ?_, fun p hp => ?_, fun hb k hk => ?_, h4⟩
    · have := List.all_eq_true.1 g2 t ht
      simp only [Bool.and_eq_true, bne_iff_ne, List.all_eq_true] at this
      refine ⟨this.1, fun p hp q hq => ?_⟩
      have h5 := this.2 p hp
      rw [hq] at h5
      simpa using h5
    · rw [hd] at g3
      have h5 := List.all_eq_true.1 g3 p hp
      rw [hq] at h5
      simpa using h5
    · have := List.all_eq_true.1 h2 p hp
      simpa using this
    · rw [hb] at h3
      simp only [Bool.not_true, Bool.false_or] at h3
      exact List.all_eq_true.1 h3 k (List.mem_range.2 hk)
theorem named_cons {i : Nat} {b : Bool} {r : List (Nat × Bool)} {o : Oper} (h : ops[i]? = some o) : named ops ((i, b) :: r) = (o, b) :: named ops r := by
  unfold named
  rw [List.filterMap_cons]
  simp [h]

/-- one more operation is seen through -/
theorem St.step {i : Nat} {b : Bool} {r : List (Nat × Bool)} {pre : List Nat} {A : Act} {B J B' J' : World → Prop} {o : Oper} {v : Value} (h : St P ops Q md ((i, b) :: r) pre A B J) (ho : ops[i]? = some o) (hB : ∀ w, B' w → B w) (hJ : ∀ w, J' w → B' w)
    (hs : SeqM P ops Q (named ops r) (A.put o.dst v) B' J') : St P ops Q md r pre (A.put o.dst v) B' J' := by
  obtain ⟨o', ho', g1, g2, g3, g4, g5, g6⟩ := okM_cons h.ok
  rw [ho] at ho'
  cases ho'
  refine ⟨hJ, h.op, fun k hk ok hok w hw => ?_, fun k hk ok hok t ht p hp => h.looks k hk ok hok t ht p (List.mem_cons_of_mem _ hp), fun k hk ok hok d hd p hp => h.dst k hk ok hok d hd p (List.mem_cons_of_mem _ hp), g6, hs⟩
  have hl : ∀ t ∈ ok.looksAt ops, o.dst ≠ some t := fun t ht => h.looks k hk ok hok t ht (i, b) (by simp) o ho
  refine shift (h.op k hk ok hok) (put_eval A hl v) (put_wanted A hl v) rfl (fun u hu => ?_) (h.fact k hk ok hok w (hB w hw))
  rw [put_comm A (d := o.dst) (e := ok.dst) (fun t ht he => h.dst k hk ok hok t he (i, b) (by simp) o ho ht) u v, hu]
theorem St.still {i : Nat} {b : Bool} {r : List (Nat × Bool)} {pre : List Nat} {A : Act} {B J : World → Prop} {o : Oper} {v : Value} (h : St P ops Q md ((i, b) :: r) pre A B J) (ho : ops[i]? = some o)
    (hv : ∀ w, B w → wpList P ops (fun e a' w' => e = .normal ∧ a' = A.put o.dst v ∧ w' = w) [o] A w)
    (hs : SeqM P ops Q (named ops r) (A.put o.dst v) B J) : St P ops Q md r (i :: pre) (A.put o.dst v) B J := by
  have h1 := h.step ho (fun _ h => h) h.sub hs
  obtain ⟨o', ho', g1, g2, g3, g4, g5, g6⟩ := okM_cons h.ok
  rw [ho] at ho'
  cases ho'
  refine ⟨h.sub, fun k hk ok hok => ?_, fun k hk ok hok w hw => ?_, fun k hk ok hok t ht p hp q hq => ?_, fun k hk ok hok d hd p hp q hq => ?_, h1.ok, h1.seq⟩
  · rcases List.mem_cons.1 hk with rfl | hk
    · rw [ho] at hok; cases hok; exact g1
    · exact h1.op k hk ok hok
  · rcases List.mem_cons.1 hk with rfl | hk
    · rw [ho] at hok; cases hok
      have hl : ∀ t ∈ o.looksAt ops, o.dst ≠ some t := fun t ht => (g2 t ht).1
      refine shift g1 (put_eval A hl v) (put_wanted A hl v) (put_defers _ _ _) (fun u hu => ?_) (hv w hw)
      rw [put_put, hu]
    · exact h1.fact k hk ok hok w hw
  · rcases List.mem_cons.1 hk with rfl | hk
    · rw [ho] at hok; cases hok; exact (g2 t ht).2 p hp q hq
    · exact h1.looks k hk ok hok t ht p hp q hq
  · rcases List.mem_cons.1 hk with rfl | hk
    · rw [ho] at hok; cases hok; exact g3 d hd p hp q hq
    · exact h1.dst k hk ok hok d hd p hp q hq

theorem Agree.more {A a : Act} {listed : Array Bool} {i : Nat} {o : Oper} {v : Value} (h : Agree ops A listed a) (ho : ops[i]? = some o) (hl : listed.getD i true = false) : Agree ops (A.put o.dst v) listed a := by
  refine ⟨by rw [put_defers]; exact h.defers, by rw [put_size]; exact h.size, fun t ht => ?_⟩
  rw [put_at A (fun e => by have := ht i o ho e; rw [hl] at this; cases this) v]
  exact h.at' t ht

theorem advance {a : Act} {listed : Array Bool} {B J : World → Prop} : ∀ (post : List (Nat × Bool)) (pre : List Nat) (A : Act), St P ops Q md post pre A B J → Agree ops A listed a → (∀ p ∈ post, listed.getD p.1 true = false) →
    ∃ post' pre' A', St P ops Q md post' pre' A' B J ∧ Agree ops A' listed a ∧ (∀ p ∈ post', listed.getD p.1 true = false) ∧ (∀ j, (j ∈ pre ∨ ∃ p ∈ post, p.1 = j) → j ∈ pre' ∨ ∃ p ∈ post', p.1 = j) ∧
      (post' = [] ∨ ∃ c o r, post' = (c, true) :: r ∧ ops[c]? = some o ∧ Region.wanted o (yielded ops A'.tmps) = true)
  | [], pre, A, h, ha, hu => ⟨[], pre, A, h, ha, hu, fun _ h => h, .inl rfl⟩
  | (i, b) :: r, pre, A, h, ha, hu => by
    obtain ⟨o, ho, g1, g2, g3, g4, g5, g6⟩ := okM_cons h.ok
    have hs := h.seq
    rw [named_cons ho] at hs
    have hi := hu (i, b) (by simp)
    have key : ∀ v, (∀ w, B w → wpList P ops (fun e a' w' => e = .normal ∧ a' = A.put o.dst v ∧ w' = w) [o] A w) → SeqM P ops Q (named ops r) (A.put o.dst v) B J →
        ∃ post' pre' A', St P ops Q md post' pre' A' B J ∧ Agree ops A' listed a ∧ (∀ p ∈ post', listed.getD p.1 true = false) ∧ (∀ j, (j ∈ pre ∨ ∃ p ∈ (i, b) :: r, p.1 = j) → j ∈ pre' ∨ ∃ p ∈ post', p.1 = j) ∧
          (post' = [] ∨ ∃ c o r, post' = (c, true) :: r ∧ ops[c]? = some o ∧ Region.wanted o (yielded ops A'.tmps) = true) := by
      intro v hv hs2
      obtain ⟨post', pre', A', k1, k2, k3, k4, k5⟩ := advance r (i :: pre) _ (h.still ho hv hs2) (ha.more ho hi) (fun p hp => hu p (List.mem_cons_of_mem _ hp))
      refine ⟨post', pre', A', k1, k2, k3, fun j hj => k4 j ?_, k5⟩
      rcases hj with hj | ⟨p, hp, rfl⟩
      · exact .inl (List.mem_cons_of_mem _ hj)
      · rcases List.mem_cons.1 hp with rfl | hp
        · exact .inl (by simp)
        · exact .inr ⟨p, hp, rfl⟩
    by_cases hw : Region.wanted o (yielded ops A.tmps) = true
    · cases b with
      | true => exact ⟨_, pre, A, h, ha, hu, fun _ h => h, .inr ⟨i, o, r, rfl, ho, hw⟩⟩
      | false =>
        simp only [SeqM, hw, if_true] at hs
        obtain ⟨v, hv, hs2⟩ := hs
        exact key v hv hs2
    · have hoff : ∀ w, B w → wpList P ops (fun e a' w' => e = .normal ∧ a' = A.put o.dst undef ∧ w' = w) [o] A w := fun w _ => by
        unfold wpList
        rw [if_neg hw]
        exact ⟨rfl, rfl, rfl⟩
      cases b with
      | true =>
        simp only [SeqM, hw] at hs
        exact key undef hoff hs
      | false =>
        simp only [SeqM, hw] at hs
        exact key undef hoff hs

theorem ready_some (hf : fine md ops = true) (left : List Nat) (listed : Array Bool) (hsz : listed.size = ops.size) (hl : ∀ j, j ∈ left ↔ listed.getD j true = false) (hr : Region.ready md ops listed = []) : left = [] := by
  have : ∀ k j, j < k → listed.getD j true = false → False := by
    intro k
    induction k with
    | zero => intro j h; omega
    | succ k ih =>
      intro j hj hjl
      have hjs : j < ops.size := by
        rcases Nat.lt_or_ge j ops.size with h | h
        · exact h
        · simp [Array.getElem?_eq_none (show listed.size ≤ j by omega)] at hjl
      obtain ⟨o, ho⟩ : ∃ o, ops[j]? = some o := ⟨ops[j], by simp [hjs]⟩
      have hmem : j ∈ Region.ready md ops listed := by
        rw [mem_ready]
        refine ⟨hjl, o, ho, fun e he hb => ?_⟩
        have hlt := (fine_at hf ho).2.2.1 e he hb
        cases hx : listed.getD e.on true with
        | false => exact (ih e.on (by omega) hx).elim
        | true =>
          have hes : e.on < listed.size := by omega
          simp [hes] at hx ⊢
          exact hx
      rw [hr] at hmem
      cases hmem
  cases left with
  | nil => rfl
  | cons j l => exact (this (j + 1) j (by omega) ((hl j).1 (by simp))).elim

theorem St.step0 {i : Nat} {b : Bool} {r : List (Nat × Bool)} {pre : List Nat} {A : Act} {B J B' J' : World → Prop} {v : Value} {o : Oper} (h : St P ops Q md ((i, b) :: r) pre A B J) (hJ : ∀ w, J' w → B' w)
    (hs : SeqM P ops Q (named ops r) (A.put o.dst v) B' J') : St P ops Q md r [] (A.put o.dst v) B' J' := by
  obtain ⟨o', ho', g1, g2, g3, g4, g5, g6⟩ := okM_cons h.ok
  exact ⟨hJ, fun k hk => (by cases hk), fun k hk => (by cases hk), fun k hk => (by cases hk), fun k hk => (by cases hk), g6, hs⟩
theorem endsAll_at {o : Oper} {i : Nat} {listed : Array Bool} (h : endsAll ops o = true) (hsz : listed.size = ops.size) (hi : i < ops.size) (hun : listed.getD i true = false)
    (hall : ∀ e ∈ o.after, Region.binds .any e = true → listed.getD e.on true = true) : ∀ j, listed.getD j true = false → j = i := by
  intro j hj
  have hjs : j < ops.size := by
    rcases Nat.lt_or_ge j ops.size with h | h
    · exact h
    · simp [show ¬ j < listed.size by omega] at hj
  have free : ∀ k, listed.getD k true = false → (o.after.any fun e => Region.binds .any e && e.on == k) = false := fun k hk => by
    cases hx : o.after.any fun e => Region.binds .any e && e.on == k with
    | false => rfl
    | true =>
      obtain ⟨e, he, hbe⟩ := Array.any_eq_true'.1 hx
      simp only [Bool.and_eq_true, beq_iff_eq] at hbe
      have := hall e he hbe.1
      rw [hbe.2, hk] at this
      cases this
  unfold endsAll at h
  have hlen := of_decide_eq_true h
  have mi : i ∈ (List.range ops.size).filter fun j => !(o.after.any fun e => Region.binds .any e && e.on == j) := List.mem_filter.2 ⟨List.mem_range.2 hi, by rw [free i hun]; rfl⟩
  have mj : j ∈ (List.range ops.size).filter fun j => !(o.after.any fun e => Region.binds .any e && e.on == j) := List.mem_filter.2 ⟨List.mem_range.2 hjs, by rw [free j hj]; rfl⟩
  generalize ((List.range ops.size).filter fun j => !(o.after.any fun e => Region.binds .any e && e.on == j)) = F at *
  match F, hlen with
  | [], _ => cases mi
  | [x], _ =>
    rw [List.mem_singleton] at mi mj
    rw [mi, mj]
  | _ :: _ :: _, h => simp at h
theorem run_made (hmd : md = .any) (hf : fine md ops = true) : ∀ (m : Nat) (left : List Nat) (listed : Array Bool) (a A : Act) (w : World) (B J : World → Prop) (post : List (Nat × Bool)) (pre : List Nat), left.length = m → listed.size = ops.size → left.Nodup → (∀ j, j ∈ left ↔ listed.getD j true = false) →
    (∀ j, listed.getD j true = false → j ∈ pre ∨ ∃ p ∈ post, p.1 = j) → (∀ p ∈ post, listed.getD p.1 true = false) → Agree ops A listed a → J w → St P ops Q md post pre A B J → wpAny P md ops Q m listed a w := by
  intro m
  induction m with
  | zero =>
    intro left listed a A w B J post pre hm hsz hnd hl hc hu ha hJ hS
    have hn : left = [] := List.length_eq_zero_iff.1 hm
    subst hn
    obtain ⟨post', pre', A', k1, k2, k3, k4, k5⟩ := advance post pre A hS ha hu
    have hp : post' = [] := by
      cases post' with
      | nil => rfl
      | cons p r => have := (hl p.1).2 (k3 p (by simp)); cases this
    subst hp
    have ht : a = A' := by
      have ht : a.tmps = A'.tmps := by
        refine Array.ext k2.size fun t h1 h2 => ?_
        have := k2.at' t fun j o _ _ => by
          have := (hl j).2
          cases hx : listed.getD j true with
          | true => rfl
          | false => cases this hx
        simpa [h1, h2] using this
      have hd := k2.defers
      cases a; cases A'
      simp only at ht hd
      rw [ht, hd]
    subst ht
    refine ⟨?_, k1.seq w hJ⟩
    cases hr : Region.ready md ops listed with
    | nil => rfl
    | cons i rs =>
      have : i ∈ Region.ready md ops listed := by rw [hr]; simp
      have := (hl i).2 (mem_ready.1 this).1
      cases this
  | succ m ih =>
    intro left listed a A w B J post pre hm hsz hnd hl hc hu ha hJ hS
    refine ⟨fun hr => ?_, fun i hi => ?_⟩
    · rw [ready_some hf left listed hsz hl hr] at hm; simp at hm
    obtain ⟨post', pre', A', k1, k2, k3, k4, k5⟩ := advance post pre A hS ha hu
    obtain ⟨hun, o, ho, hall⟩ := mem_ready.1 hi
    obtain ⟨f1, f2, f3, f4⟩ := fine_at hf ho
    have his : i < ops.size := (Array.getElem?_eq_some_iff.1 ho).1
    have hlook : ∀ t ∈ o.looksAt ops, ∀ j p, ops[j]? = some p → p.dst = some t → listed.getD j true = true := by
      intro t ht j p hj hp
      obtain ⟨e, he, hb, rfl⟩ := f4 t ht j p hj hp
      have h1 := hall e he hb
      have hes : e.on < listed.size := by have := (Array.getElem?_eq_some_iff.1 hj).1; omega
      simp [hes] at h1 ⊢
      exact h1
    have heval := k2.eval hlook
    have hwant := k2.wanted hlook
    have hmem : i ∈ left := (hl i).2 hun
    have hnext : ∀ (A1 : Act) (B1 J1 : World → Prop) (post1 : List (Nat × Bool)) (pre1 : List Nat) (v : Value) (w' : World), A1.put o.dst v = A1 → Agree ops A1 listed a → J1 w' → St P ops Q md post1 pre1 A1 B1 J1 →
        (∀ j, listed.getD j true = false → j ≠ i → j ∈ pre1 ∨ ∃ p ∈ post1, p.1 = j) → (∀ p ∈ post1, listed.getD p.1 true = false ∧ p.1 ≠ i) → wpAny P md ops Q m (listed.setIfInBounds i true) (a.put o.dst v) w' := by
      intro A1 B1 J1 post1 pre1 v w' hv hag hJ1 hS1 hc1 hu1
      refine ih (left.erase i) _ _ A1 w' B1 J1 post1 pre1 (by rw [List.length_erase_of_mem hmem, hm]; rfl) (by simpa using hsz) (hnd.erase i) (fun j => ?_) (fun j hj => ?_) (fun p hp => ?_) (hag.put ho hv) hJ1 hS1
      · rw [hnd.mem_erase_iff, hl j]
        by_cases e : i = j
        · subst e
          simp [show i < listed.size by omega]
        · rw [getD_set_ne true e]
          exact ⟨fun h => h.2, fun h => ⟨fun h' => e h'.symm, h⟩⟩
      · by_cases e : i = j
        · subst e
          simp [show i < listed.size by omega] at hj
        · rw [getD_set_ne true e] at hj
          exact hc1 j hj (fun h => e h.symm)
      · rw [getD_set_ne true (fun e => (hu1 p hp).2 e.symm)]
        exact (hu1 p hp).1
    have hcase : i ∈ pre' ∨ ∃ p ∈ post', p.1 = i := k4 i (hc i hun)
    have hkeep : ∀ v w', A'.put o.dst v = A' → w' = w → (∀ p ∈ post', p.1 ≠ i) → wpAny P md ops Q m (listed.setIfInBounds i true) (a.put o.dst v) w' := fun v w' hv hw hn =>
      hnext A' B J post' pre' v w' hv k2 (hw ▸ hJ) k1 (fun j hj hne => k4 j (hc j hj)) (fun p hp => ⟨k3 p hp, hn p hp⟩)
    by_cases hpost : ∃ p ∈ post', p.1 = i
    · rcases k5 with rfl | ⟨c, oc, r, rfl, hoc, hwc⟩
      · obtain ⟨p, hp, _⟩ := hpost; cases hp
      obtain ⟨o', ho', g1, g2, g3, g4, g5, g6⟩ := okM_cons k1.ok
      have hci : i = c := by
        obtain ⟨p, hp, rfl⟩ := hpost
        rcases List.mem_cons.1 hp with rfl | hp
        · rfl
        · exfalso
          obtain ⟨k, hk, hpk⟩ := List.getElem_of_mem hp
          have hb := g5 rfl k hk
          rw [List.getD_eq_getElem?_getD, List.getElem?_eq_getElem hk, Option.getD_some, hpk] at hb
          unfold bound at hb
          rw [ho] at hb
          obtain ⟨e, he, hbe⟩ := Array.any_eq_true'.1 hb
          simp only [Bool.and_eq_true, List.contains_iff_mem] at hbe
          have h1 := hall e he hbe.1
          have hun2 : listed.getD e.on true = false := by
            rcases List.mem_cons.1 hbe.2 with h | h
            · rw [h]; exact k3 (c, true) (by simp)
            · obtain ⟨q, hq, hqe⟩ := List.mem_map.1 h
              rw [← hqe]
              exact k3 q (List.mem_cons_of_mem _ (List.mem_of_mem_take hq))
          have hes : e.on < listed.size := by
            have := f3 e he hbe.1
            omega
          simp [hes] at h1 hun2
          rw [h1] at hun2
          cases hun2
      subst hci
      rw [ho] at hoc ho'
      cases hoc
      cases ho'
      have hs := k1.seq
      rw [named_cons ho] at hs
      simp only [SeqM, hwc, if_true] at hs
      have h := hs w hJ
      have hmake : ∀ u w', (∃ v B' J', A'.put o.dst u = A'.put o.dst v ∧ J' w' ∧ SeqM P ops Q (named ops r) (A'.put o.dst v) B' J' ∧ (∀ w, J' w → B' w) ∧ (endsAll ops o = true ∨ ∀ w, B' w → B w)) → wpAny P md ops Q m (listed.setIfInBounds i true) (a.put o.dst u) w' := by
        rintro u w' ⟨v, B', J', h1, h2, h3, h4, h5⟩
        rw [← h1] at h3
        rcases h5 with h5 | h5
        · have hend := endsAll_at (listed := listed) h5 hsz his hun (fun e he hb => by
            have h1 := hall e he (by rw [hmd]; exact hb)
            rcases Nat.lt_or_ge e.on listed.size with hes | hes
            · simp [hes] at h1 ⊢
              exact h1
            · simp [show ¬ e.on < listed.size by omega])
          exact hnext (A'.put o.dst u) B' J' r [] u w' (put_put _ _ _ _) (k2.more ho (k3 (i, true) (by simp))) h2 (k1.step0 h4 h3) (fun j hj hne => (hne (hend j hj)).elim) (fun p hp => ⟨k3 p (List.mem_cons_of_mem _ hp), g4 p hp⟩)
        refine hnext (A'.put o.dst u) B' J' r pre' u w' (put_put _ _ _ _) (k2.more ho (k3 (i, true) (by simp))) h2 (k1.step ho h5 h4 h3) (fun j hj hne => ?_) (fun p hp => ⟨k3 p (List.mem_cons_of_mem _ hp), g4 p hp⟩)
        rcases k4 j (hc j hj) with h | ⟨p, hp, rfl⟩
        · exact .inl h
        · rcases List.mem_cons.1 hp with rfl | hp
          · exact (hne rfl).elim
          · exact .inr ⟨p, hp, rfl⟩
      unfold wpOp
      simp only [ho]
      unfold wpList at h
      rw [hwant]
      simp only [hwc, if_true] at h ⊢
      rcases h with h | ⟨_, _, _, h, _⟩
      case inr => cases h
      refine .inl ?_
      unfold Oper.wp at h ⊢
      rw [execOp_congr o f1 heval]
      generalize (execOp A'.eval o).run P w = x at *
      cases x with
      | ok x w' =>
        cases x <;> simp only [Oper.upon] at h ⊢
        case value v => exact hmake v w' h.2
        case skip => exact hmake _ w' h.2
        case defer d =>
          obtain ⟨v, B', J', h1, _⟩ := h.2
          have := congrArg (fun b : Act => b.defers.length) h1
          simp only [put_defers] at this
          simp at this
        case enter f args =>
          refine Calls.mono h fun e w'' he => ?_
          cases e with
          | returned v => exact hmake v w'' he.2
          | panicked c => cases he.1
          | outgrown => obtain ⟨_, _, h, _⟩ := he; cases h
        case row row args => exact Rows.mono h fun v w'' he => hmake v w'' he.2
      | halt x w' =>
        cases x <;> simp only [Oper.upon] at h ⊢
        case panic u => cases h.1
    · have hpre : i ∈ pre' := hcase.resolve_right hpost
      have hne : ∀ p ∈ post', p.1 ≠ i := fun p hp e => hpost ⟨p, hp, e⟩
      have h := k1.fact i hpre o ho w (k1.sub w hJ)
      unfold wpOp
      simp only [ho]
      unfold wpList at h
      rw [hwant]
      split
      · rename_i hw
        simp only [hw, if_true] at h
        rcases h with h | ⟨_, _, _, h, _⟩
        case inr => cases h
        refine .inl ?_
        unfold Oper.wp at h ⊢
        rw [execOp_congr o f1 heval]
        generalize (execOp A'.eval o).run P w = r at *
        cases r with
        | ok x w' =>
          cases x <;> simp only [Oper.upon] at h ⊢
          case value v => exact hkeep v w' h.2.1 h.2.2 hne
          case skip => exact hkeep _ w' h.2.1 h.2.2 hne
          case defer d =>
            have := congrArg List.length (put_self h.2.1).1
            simp at this
          case enter f args =>
            refine Calls.mono h fun e w'' he => ?_
            cases e with
            | returned v => exact hkeep v w'' he.2.1 he.2.2 hne
            | panicked c => cases he.1
            | outgrown => obtain ⟨_, _, h, _⟩ := he; cases h
          case row row args => exact Rows.mono h fun v w'' he => hkeep v w'' he.2.1 he.2.2 hne
        | halt x w' =>
          cases x <;> simp only [Oper.upon] at h ⊢
          case panic u => cases h.1
      · rename_i hw
        simp only [hw] at h
        exact hkeep _ w h.2.1 rfl hne

/-- the walk, behind a name that nothing unfolds; J: the world as it stands; B: what is known in whatever world there may be from here on -/
structure WalkM (P : Program) (ops : Array Oper) (Q : Exit → Act → World → Prop) (l : List (Oper × Bool)) (a : Act) (B J : World → Prop) : Prop where
  go : SeqM P ops Q l a B J
theorem WalkM.nil {a : Act} {B J : World → Prop} (h : ∀ w, J w → Q .normal a w) : WalkM P ops Q [] a B J := ⟨h⟩
theorem WalkM.off {a : Act} {B J : World → Prop} {o : Oper} {b : Bool} {r : List (Oper × Bool)} (hw : asks ops.toList o a.tmps.toList = false) (h : WalkM P ops Q r (a.put o.dst undef) B J) : WalkM P ops Q ((o, b) :: r) a B J := by
  have hw' : Region.wanted o (yielded ops a.tmps) = false := (asks_eq _ _ _).trans hw
  refine ⟨?_⟩
  cases b <;> (simp only [SeqM, hw']; exact h.go)
/-- where an operation ends that leaves the world alone -/
structure Lets (A : Act) (w : World) (e : Exit) (a' : Act) (w' : World) : Prop where
  e : e = .normal
  a : a' = A
  i : w' = w
theorem Lets.eq {A : Act} {w : World} : Lets A w = fun e a' w' => e = .normal ∧ a' = A ∧ w' = w := by
  funext e a' w'
  exact propext ⟨fun h => ⟨h.e, h.a, h.i⟩, fun h => ⟨h.1, h.2.1, h.2.2⟩⟩
theorem WalkM.on {a : Act} {B J : World → Prop} {o : Oper} {r : List (Oper × Bool)} (hw : asks ops.toList o a.tmps.toList = true) {v : Value}
    (h1 : ∀ w, B w → wpList P ops (Lets (a.put o.dst v) w) [o] a w) (h : WalkM P ops Q r (a.put o.dst v) B J) : WalkM P ops Q ((o, false) :: r) a B J := by
  have hw' : Region.wanted o (yielded ops a.tmps) = true := (asks_eq _ _ _).trans hw
  refine ⟨?_⟩
  simp only [SeqM, hw', if_true]
  exact ⟨v, fun w hB => Lets.eq ▸ h1 w hB, h.go⟩
/-- where an operation ends that makes or writes memory: the walk goes on there; one that stands behind all others (endsAll) need not keep what the others rely on -/
structure Made (P : Program) (ops : Array Oper) (Q : Exit → Act → World → Prop) (r : List (Oper × Bool)) (a : Act) (o : Oper) (B : World → Prop) (e : Exit) (a' : Act) (w' : World) : Prop where
  e : e = .normal
  on : ∃ v B' J', a' = a.put o.dst v ∧ J' w' ∧ (∀ w, J' w → B' w) ∧ (endsAll ops o = true ∨ ∀ w, B' w → B w) ∧ WalkM P ops Q r (a.put o.dst v) B' J'
theorem WalkM.make {a : Act} {B J : World → Prop} {o : Oper} {r : List (Oper × Bool)} (hw : asks ops.toList o a.tmps.toList = true)
    (h1 : ∀ w, J w → wpList P ops (Made P ops Q r a o B) [o] a w) : WalkM P ops Q ((o, true) :: r) a B J := by
  have hw' : Region.wanted o (yielded ops a.tmps) = true := (asks_eq _ _ _).trans hw
  have he : Made P ops Q r a o B = fun e a' w' => e = .normal ∧ ∃ v B' J', a' = a.put o.dst v ∧ J' w' ∧ SeqM P ops Q r (a.put o.dst v) B' J' ∧ (∀ w, J' w → B' w) ∧ (endsAll ops o = true ∨ ∀ w, B' w → B w) := by
    funext e a' w'
    exact propext ⟨fun h => ⟨h.e, let ⟨v, B', J', h1, h2, h3, h4, h5⟩ := h.on; ⟨v, B', J', h1, h2, h5.go, h3, h4⟩⟩, fun h => ⟨h.1, let ⟨v, B', J', h1, h2, h3, h4, h5⟩ := h.2; ⟨v, B', J', h1, h2, h4, h5, ⟨h3⟩⟩⟩⟩
  refine ⟨?_⟩
  simp only [SeqM, hw', if_true]
  exact fun w hJ => he ▸ h1 w hJ

theorem regionM {id : Nat} {a : Act} {w : World} (ord : List (Nat × Bool)) (B : World → Prop) (hm : P.follows .mixedOrders = true) (hf : fine .any ops = true) (hok : okM .any ops ord = true) (hwh : whole ops ord = true) (hB : B w.drew)
    {l : List (Oper × Bool)} (hl : named ops ord = l) (hs : WalkM P ops Q l a B (fun W => W = w.drew)) : (Code.region id ops true).wp P Q a w := by
  subst hl
  refine wp_region_any hm ?_
  have h := run_made (md := .any) (P := P) (Q := Q) rfl hf ops.size (List.range ops.size) (Array.replicate ops.size false) a a w.drew B (fun W => W = w.drew) ord [] (by simp) (by simp) List.nodup_range (fun j => ?_) (fun j hj => ?_) (fun p hp => ?_) ⟨rfl, rfl, fun _ _ => rfl⟩ rfl
    ⟨fun W h => h ▸ hB, (fun i hi => nomatch hi), (fun i hi => nomatch hi), (fun i hi => nomatch hi), (fun i hi => nomatch hi), hok, hs.go⟩
  · exact h
  · rw [List.mem_range]
    by_cases h : j < ops.size
    · simp [h]
    · simp [h]
  · right
    have hjs : j < ops.size := by
      rcases Nat.lt_or_ge j ops.size with h | h
      · exact h
      · simp [h] at hj
    have := List.all_eq_true.1 hwh j (List.mem_range.2 hjs)
    obtain ⟨p, hp, hpj⟩ := List.any_eq_true.1 this
    exact ⟨p, hp, by simpa using hpj⟩
  · have hlt : p.1 < ops.size := by
      clear hs hwh
      induction ord with
      | nil => cases hp
      | cons q r ih =>
        obtain ⟨o, ho, _, _, _, _, _, g6⟩ := okM_cons (i := q.1) (b := q.2) hok
        rcases List.mem_cons.1 hp with rfl | hp
        · exact (Array.getElem?_eq_some_iff.1 ho).1
        · exact ih g6 hp
    simp [hlt]
end
end Pu
end Go.Proofs.YtdbkkldgobkjcaaGreat

namespace Go.Proofs.YtdbkkldgobkjcaaGreat
open Go.RowKit Go.Maps
namespace Mv
open It

section
variable {κ : Type} [DecidableEq κ] {K : KeyK κ} {P : Program} {w : World} {b : Nat} {m : List (κ × Value)} {ops : Array Oper} {rest : List Oper} {o : Oper} {a : Act} {Q : Exit → Act → World → Prop}
theorem _root_.Go.Proofs.YtdbkkldgobkjcaaGreat.wpList_look_ok_g (hg : o.guard = none) (x y : Operand) (tm : TypeId) (hop : o.op = Op.lookup tm x y true) (t e : TypeId) (KK : Keyed P t) (ht : P.underlying tm = some (.map t e))
    (hm : a.eval x = .map (some b)) (h : GMap K w P t b m) {z : Value} (hz : (zeroValue e).run P w = .ok z w) (key : Value) (k : κ) (hx : a.eval y = key) (hkey : keyOf P t key = some (K.lit k))
    (r : Value) (c : Bool) (hr : (mGet m k).getD z = r) (hc : (mGet m k).isSome = c) (hK : wpList P ops Q rest (a.put o.dst (.tuple #[r, .bool c])) w) :
    wpList P ops Q (o :: rest) a w := by
  refine wpList_plain hg fun K' hK' => ?_
  have hrun := h.look_ok KK ht hz hkey
  rw [hr, hc] at hrun
  unfold Oper.wp
  simp [execOp, hop, hm, hx, hrun, Result.andThen]
  exact hK' _ _ hK
end

/-- a move -/
structure Way where
  mv : Int
  fr : Int
  to_ : Int
  l : List It.Item
  came : Bool
def wayV (d : Way) (v : Value) : Value := .agg #[.int .i64 d.mv, .int .i64 d.fr, .int .i64 d.to_, v, .bool d.came]
def way0 : Way := ⟨0, 0, 0, [], false⟩
def isR (r : Int) : Bool := decide (0 ≤ r) && decide (r < 8)
/-- what may stand in a table of moves -/
structure OkW (d : Way) : Prop where
  mv : 1 ≤ d.mv ∧ d.mv ≤ 1099511627776
  fr : 0 ≤ d.fr ∧ d.fr ≤ 7
  to_ : 0 ≤ d.to_ ∧ d.to_ ≤ 7
  ne : d.fr ≠ d.to_
  l : may d.l = true
  some : d.l ≠ []

/-- a value that is a move, its list in the blocks of F -/
def WayAt (w : World) (F : Nat → Prop) (val : Value) (d : Way) : Prop := ∃ v lo B, val = wayV d v ∧ ItemsAt w lo B v d.l ∧ B ≤ w.heap.size ∧ ∀ i, lo ≤ i → i < B → F i
theorem WayAt.kept {w w' : World} {F F' : Nat → Prop} {val : Value} {d : Way} {row : Option Nat} (h : WayAt w F val d) (hg : w.grownBy w' row) (hr : ∀ g, row = some g → ¬ F g ∨ w.heap.size ≤ g) (hF : ∀ i, i < w.heap.size → F i → F' i) : WayAt w' F' val d := by
  obtain ⟨v, lo, B, e, h1, h2, h3⟩ := h
  refine ⟨v, lo, B, e, h1.keep fun b o hb1 hb2 => World.cell?_of_block (hg.block b (by omega) fun e => ?_), Nat.le_trans h2 hg.size, fun i a b => hF i (by omega) (h3 i a b)⟩
  rcases hr b e.symm with h | h
  · exact h (h3 b hb1 hb2)
  · omega
theorem WayAt.items {w : World} {F : Nat → Prop} {val : Value} {d : Way} (h : WayAt w F val d) : ∃ v, val = wayV d v ∧ ItemsAt w 0 w.heap.size v d.l := by
  obtain ⟨v, lo, B, e, h1, h2, h3⟩ := h
  exact ⟨v, e, h1.wide (Nat.zero_le _) h2⟩

/-- a map's entries and the moves that they are -/
def Rel (w : World) (F : Nat → Prop) : List (Int × Value) → List Way → Prop
  | [], [] => True
  | p :: m, d :: ds => p.1 = d.mv ∧ WayAt w F p.2 d ∧ Rel w F m ds
  | _, _ => False
theorem Rel.kept {w w' : World} {F F' : Nat → Prop} {row : Option Nat} (hg : w.grownBy w' row) (hr : ∀ g, row = some g → ¬ F g ∨ w.heap.size ≤ g) (hF : ∀ i, i < w.heap.size → F i → F' i) : ∀ {m : List (Int × Value)} {ds : List Way}, Rel w F m ds → Rel w' F' m ds
  | [], [], _ => trivial
  | _ :: _, _ :: _, h => ⟨h.1, h.2.1.kept hg hr hF, Rel.kept hg hr hF h.2.2⟩
  | [], _ :: _, h => h.elim
  | _ :: _, [], h => h.elim
theorem Rel.length {w : World} {F : Nat → Prop} : ∀ {m : List (Int × Value)} {ds : List Way}, Rel w F m ds → m.length = ds.length
  | [], [], _ => rfl
  | _ :: _, _ :: _, h => congrArg (· + 1) (Rel.length h.2.2)
  | [], _ :: _, h => h.elim
  | _ :: _, [], h => h.elim
theorem Rel.keys {w : World} {F : Nat → Prop} : ∀ {m : List (Int × Value)} {ds : List Way}, Rel w F m ds → m.map (·.1) = ds.map (·.mv)
  | [], [], _ => rfl
  | _ :: _, _ :: _, h => by simp only [List.map_cons]; rw [h.1, Rel.keys h.2.2]
  | [], _ :: _, h => h.elim
  | _ :: _, [], h => h.elim
def findW (ds : List Way) (k : Int) : Option Way := ds.find? fun d => decide (d.mv = k)
theorem findW_cons (d : Way) (ds : List Way) (k : Int) : findW (d :: ds) k = if d.mv = k then some d else findW ds k := by
  unfold findW
  rw [List.find?_cons]
  by_cases h : d.mv = k <;> simp [h]
theorem Rel.none {w : World} {F : Nat → Prop} {k : Int} : ∀ {m : List (Int × Value)} {ds : List Way}, Rel w F m ds → findW ds k = none → mGet m k = none
  | [], [], _, _ => rfl
  | p :: m, d :: ds, h, hf => by
    rw [findW_cons] at hf
    rw [mGet_cons]
    by_cases e : d.mv = k
    · rw [if_pos e] at hf; cases hf
    · rw [if_neg e] at hf
      rw [if_neg (by rw [h.1]; exact e)]
      exact Rel.none h.2.2 hf
  | [], _ :: _, h, _ => h.elim
  | _ :: _, [], h, _ => h.elim
theorem Rel.some {w : World} {F : Nat → Prop} {k : Int} {d : Way} : ∀ {m : List (Int × Value)} {ds : List Way}, Rel w F m ds → findW ds k = some d → ∃ val, mGet m k = some val ∧ WayAt w F val d
  | [], [], _, h => by cases h
  | p :: m, c :: ds, h, hf => by
    rw [findW_cons] at hf
    rw [mGet_cons]
    by_cases e : c.mv = k
    · rw [if_pos e] at hf
      cases hf
      rw [if_pos (by rw [h.1]; exact e)]
      exact ⟨_, rfl, h.2.1⟩
    · rw [if_neg e] at hf
      rw [if_neg (by rw [h.1]; exact e)]
      exact Rel.some h.2.2 hf
  | [], _ :: _, h, _ => h.elim
  | _ :: _, [], h, _ => h.elim
def insW (d : Way) : List Way → List Way
  | [] => [d]
  | c :: r => if d.mv < c.mv then d :: c :: r else c :: insW d r
def delW (ds : List Way) (k : Int) : List Way := ds.filter fun d => !decide (d.mv = k)
def putW (ds : List Way) (d : Way) : List Way := insW d (delW ds d.mv)
theorem Rel.del {w : World} {F : Nat → Prop} (k : Int) : ∀ {m : List (Int × Value)} {ds : List Way}, Rel w F m ds → Rel w F (mDel m k) (delW ds k)
  | [], [], _ => trivial
  | p :: m, d :: ds, h => by
    have ih := Rel.del k h.2.2
    unfold mDel delW at ih ⊢
    rw [List.filter_cons, List.filter_cons, h.1]
    split
    · exact ⟨h.1, h.2.1, ih⟩
    · exact ih
  | [], _ :: _, h => h.elim
  | _ :: _, [], h => h.elim
theorem Rel.ins {w : World} {F : Nat → Prop} {d : Way} {val : Value} (hv : WayAt w F val d) : ∀ {m : List (Int × Value)} {ds : List Way}, Rel w F m ds → Rel w F (mIns intK d.mv val m) (insW d ds)
  | [], [], _ => ⟨rfl, hv, trivial⟩
  | p :: m, c :: ds, h => by
    unfold mIns insW
    have e : intK.lt d.mv p.1 = decide (d.mv < c.mv) := by rw [h.1]; rfl
    rw [e]
    by_cases hlt : d.mv < c.mv
    · rw [if_pos (by simpa using hlt), if_pos hlt]
      exact ⟨rfl, hv, h⟩
    · rw [if_neg (by simpa using hlt), if_neg hlt]
      exact ⟨h.1, h.2.1, Rel.ins hv h.2.2⟩
  | [], _ :: _, h => h.elim
  | _ :: _, [], h => h.elim
theorem Rel.put {w : World} {F : Nat → Prop} {d : Way} {val : Value} (hv : WayAt w F val d) {m : List (Int × Value)} {ds : List Way} (h : Rel w F m ds) : Rel w F (mPut intK m d.mv val) (putW ds d) :=
  Rel.ins hv (Rel.del _ h)

/-- the moves of the program, in block b, the map in mb; X: blocks that others may write -/
structure MvAt (w : World) (b mb : Nat) (X : Nat → Prop) (ds : List Way) : Prop where
  ob : Ob w b 102 #[.map (some mb)]
  map : ∃ m, GMap intK w Tryz.prog 3 mb m ∧ Rel w (fun i => i ≠ b ∧ i ≠ mb ∧ ¬ X i) m ds
  ne : b ≠ mb
  nx : ¬ X b ∧ ¬ X mb
  xl : ∀ i, X i → i < w.heap.size
  ok : ∀ d ∈ ds, OkW d
  len : ds.length ≤ 256
theorem MvAt.kept {w w' : World} {b mb : Nat} {X : Nat → Prop} {ds : List Way} {row : Option Nat} (h : MvAt w b mb X ds) (hg : w.grownBy w' row) (hr : ∀ g, row = some g → X g ∨ w.heap.size ≤ g) : MvAt w' b mb X ds := by
  obtain ⟨m, hm, hR⟩ := h.map
  have hb := h.ob.lt
  have hmb := hm.lt
  have hne : ∀ i, i < w.heap.size → ¬ X i → some i ≠ row := fun i hi hx e => by
    rcases hr i e.symm with h | h
    · exact hx h
    · omega
  refine ⟨h.ob.kept hg (hne b hb h.nx.1), ⟨m, hm.kept hg (hne mb hmb h.nx.2), hR.kept hg (fun g e => ?_) (fun _ _ h => h)⟩, h.ne, h.nx, fun i hi => Nat.lt_of_lt_of_le (h.xl i hi) hg.size, h.ok, h.len⟩
  rcases hr g e with h | h
  · exact .inl fun k => k.2.2 h
  · exact .inr h
theorem MvAt.same {w w' : World} {b mb : Nat} {X : Nat → Prop} {ds : List Way} (h : MvAt w b mb X ds) (hb : Below w.heap.size w w') : MvAt w' b mb X ds := h.kept (only_of_below hb none) (by simp)
/-- others may write more blocks, if they are new to it -/
theorem MvAt.more {w w' : World} {b mb : Nat} {X X' : Nat → Prop} {ds : List Way} (h : MvAt w b mb X ds) (hb : Below w.heap.size w w') (hX : ∀ i, X' i → (X i ∨ w.heap.size ≤ i) ∧ i < w'.heap.size) : MvAt w' b mb X' ds := by
  have h1 := h.same hb
  obtain ⟨m, hm, hR⟩ := h.map
  have hb1 := h.ob.lt
  have hb2 := hm.lt
  have hn : ∀ i, i < w.heap.size → ¬ X i → ¬ X' i := fun i hi hx hx' => by
    rcases (hX i hx').1 with h | h
    · exact hx h
    · omega
  exact ⟨h1.ob, ⟨m, hm.below hb hb2, hR.kept (only_of_below hb none) (by simp) (fun i hi h => ⟨h.1, h.2.1, hn i hi h.2.2⟩)⟩, h.ne, ⟨hn b hb1 h.nx.1, hn mb hb2 h.nx.2⟩, fun i hi => (hX i hi).2, h.ok, h.len⟩
theorem keyedI : Keyed Tryz.prog 3 := int_keyed Tryz.underlying3
theorem zeroW (w : World) : (zeroValue 108).run Tryz.prog w = .ok (wayV way0 (.slice none 0 0)) w := by kernel_rfl
theorem keyI {k : Int} (h0 : -9223372036854775808 ≤ k) (h1 : k ≤ 9223372036854775807) : keyOf Tryz.prog 3 (.int .i64 k) = some (intK.lit k) :=
  keyOf_int_mk Tryz.underlying3 (WalkArith.wf_i64 (by omega))

theorem new_calls (w : World) :
    Calls Tryz.prog 24 #[] w fun e w' => (∃ b mb, e = .returned (.pointer (some ⟨b, 0, none⟩)) ∧ w.heap.size ≤ b ∧ w.heap.size ≤ mb ∧ ∀ X : Nat → Prop, (∀ i, X i → i < w.heap.size) → MvAt w' b mb X []) ∧ Below w.heap.size w w' := by
  have hmm := @run_makeMap Tryz.prog
  go_enter Tryz.func24, Tryz.ntmps24
  go_wp2
  go_ret
  have h1 : Below w.heap.size w ((w.alloc (.map #[] 0)).alloc (.cells #[.map (some w.heap.size)] 102)) := ((Below.refl _ w).alloc (Nat.le_refl _) _).alloc (by simp) _
  refine ⟨⟨_, _, rfl, by omega, Nat.le_refl _, fun X hX => ⟨?_, ⟨[], ?_, trivial⟩, by omega, ⟨fun h => by have := hX _ h; omega, fun h => by have := hX _ h; omega⟩, fun i hi => by have := hX i hi; have := h1.size; omega, fun d hd => (by cases hd), by simp⟩⟩, h1⟩
  · have := Ob.new (w.alloc (.map #[] 0)) 102 #[.map (some w.heap.size)]
    rwa [World.size_alloc] at this
  · exact (GMap.made (K := intK) w Tryz.prog 3).below ((Below.refl (w.heap.size + 1) _).alloc (by simp) _) (by omega)

theorem made_calls (b mb : Nat) (w : World) (h : w.cell? ⟨b, 0, none⟩ = some (.map (some mb))) :
    Calls Tryz.prog 58 #[.pointer (some ⟨b, 0, none⟩)] w fun e w' => e = .returned (.bool true) ∧ w = w' := by
  have hn := fun (w : World) (r : Option Nat) => run_neq_map_nil (P := Tryz.prog) w 100 _ _ r Tryz.underlying100
  go_enter Tryz.func58, Tryz.ntmps58
  go_wp2
  go_ret
  exact ⟨rfl, rfl⟩
theorem made_nil (w : World) :
    Calls Tryz.prog 58 #[.pointer none] w fun e w' => e = .returned (.bool false) ∧ w = w' := by
  go_enter Tryz.func58, Tryz.ntmps58
  go_wp2
  go_ret
  exact ⟨rfl, rfl⟩
theorem is_calls (r : Int) (w : World) :
    Calls Tryz.prog 59 #[.int .i64 r] w fun e w' => e = .returned (.bool (isR r)) ∧ w = w' := by
  have HO := Lib.hid (show isR r = (decide (0 ≤ r) && decide (r < 8)) from rfl)
  by_cases h1 : 0 ≤ r
  all_goals
    go_enter Tryz.func59, Tryz.ntmps59
    go_wp2
    go_ret
    first
      | exact ⟨ret1 (boo (by rw [HO.out, decide_eq_true h1]; rfl)), rfl⟩
      | exact ⟨ret1 (boo (by rw [HO.out, decide_eq_false (p := 0 ≤ r) (by omega)]; rfl)), rfl⟩
theorem len_calls (b mb : Nat) (X : Nat → Prop) (ds : List Way) (w : World) (h : MvAt w b mb X ds) :
    Calls Tryz.prog 57 #[.pointer (some ⟨b, 0, none⟩)] w fun e w' => e = .returned (.int .i64 ds.length) ∧ w = w' := by
  obtain ⟨m, hm, hR⟩ := h.map
  have g0 : w.cell? ⟨b, 0, none⟩ = some (.map (some mb)) := h.ob.cell (j := 0) rfl
  have hl := fun ty => hm.len (tm := 100) Tryz.underlying100 ty
  rw [hR.length] at hl
  have cM := Lib.hid (made_calls b mb w g0)
  clear hR hm h
  go_enter Tryz.func57, Tryz.ntmps57
  go_wp2_with fail
  refine cM.out.mono ?_
  rintro e W ⟨rfl, rfl⟩
  go_wp2
  go_ret
  exact ⟨rfl, rfl⟩

set_option maxRecDepth 100000 in
set_option maxHeartbeats 1000000 in
theorem clonei_calls (l : List It.Item) (v : Value) (w : World) (h : ItemsAt w 0 w.heap.size v l) (hl : l.length ≤ 1000000) :
    Calls Tryz.prog 45 #[v] w fun e w' => (∃ v', e = .returned v' ∧ w'.ownsRow w.heap.size 37 2 v' l.length (itemCells l)) ∧ Below w.heap.size w w' := by
  obtain ⟨i0, hi0, hz0⟩ := Option.map_eq_some_iff.1 item_info
  simp only [Prod.mk.injEq] at hz0
  obtain ⟨hz0, hz1, hz2⟩ := hz0
  have h0 := h
  obtain ⟨A, c, rfl, hc1, hc2⟩ := h.form
  unfold maxLen at hc2
  have heq := Lib.run_eql_slice_nil (P := Tryz.prog) w 30 37 A l.length c 0 0 Tryz.underlying30
  rcases A with _ | ad
  · have hl0 : l = [] := by
      rcases l with _ | ⟨x, r⟩
      · rfl
      · obtain ⟨b, o, e, _⟩ := h.cellAt (j := 0) (by simp)
        cases e
    subst hl0
    simp only [List.length_nil] at heq ⊢
    go_enter Tryz.func45, Tryz.ntmps45
    go_wp2
    go_ret
    exact ⟨⟨_, rfl, World.ownsRow_nil _ _ _ _⟩, Below.refl _ _⟩
  · go_enter Tryz.func45, Tryz.ntmps45
    go_wp2_with (at_builtin
                 refine wpList_append_sl _ rfl (.tmp 5) (.tmp 6) _ rfl w.heap.size 37 i0 _ 2 24 Tryz.underlying30 hi0 hz0 hz1 hz2 rfl (by omega) (.slice (some ⟨w.heap.size, 0, none⟩) 0 0) 0 [] rfl (World.ownsRow_lit w #[] 0 (Nat.le_refl _) (Nat.zero_le _) rfl) 0 w.heap.size _ l.length (itemCells l) rfl (Sl.below h0 ((Below.refl _ w).alloc (Nat.le_refl _) _)) (itemCells_one l) (by unfold maxLen; omega) (by omega) (by simp) ?_
                 intro v1 w1 hv1 hg1 hat1
                 have hB : Below w.heap.size w w1 := ((Below.refl _ w).alloc (Nat.le_refl _) (.cells #[] 37)).grown hg1 (by simp) (fun g hg => by cases hg; exact Nat.le_refl _)
                 clear hg1 hat1)
    have hown : w1.ownsRow w.heap.size 37 2 v1 l.length (itemCells l) := by simpa using hv1
    obtain ⟨A1, c1, rfl, -⟩ := (ItemsAt.of_own hown).form
    clear hv1
    go_wp2
    go_ret
    exact ⟨⟨_, rfl, hown⟩, hB⟩
end Mv
end Go.Proofs.YtdbkkldgobkjcaaGreat

namespace Go.Proofs.YtdbkkldgobkjcaaGreat
open Go.RowKit

theorem step_append_sl {P : Program} (w : World) {ops : Array Oper} {o : Oper} {a : Act} {K : Act → World → Prop} {Q : Exit → Act → World → Prop} {E : Prop} (hgd : o.guard = none) (s x : Operand) (t : TypeId)
    (ho : o.op = .call { callee := .builtin .append, args := #[s, x], argTypes := #[t, t] })
    (base : Nat) (e : TypeId) (i : TypeInfo) (z : Value) (size bytes : Nat) (ht : P.underlying t = some (.slice e)) (hi : P.info? e = some i) (hz : i.zero = some z)
    (hsize : i.size = size) (hby : i.bytes = bytes) (hzs : z.cells.size = size) (hsz : 0 < size)
    (v : Value) (n : Nat) (xs : List Value) (hs : a.eval s = v) (hown : w.ownsRow base e size v n xs)
    (lo B : Nat) (u : Value) (m : Nat) (ys : List Value) (hx : a.eval x = u) (hu : Sl w lo B size u m ys) (h1 : ∀ y ∈ ys, y.oneCell' = true)
    (h63 : n + m ≤ maxLen) (hbytes : (n + m) * bytes ≤ 140737488355328) (hbase : base ≤ w.heap.size)
    (h : ∀ v' w', w'.ownsRow base e size v' (n + m) (xs ++ ys) → w.grownBy w' v.ownBlock → (v'.ownBlock = v.ownBlock ∨ v'.ownBlock = some w.heap.size) → K (a.put o.dst v') w') :
    if Region.wanted o (yielded ops a.tmps) = true then Oper.wp P o a w K Q else E := by
  have hw : Region.wanted o (yielded ops a.tmps) = true := by simp [Region.wanted, hgd]
  rw [if_pos hw]
  obtain ⟨v', w', hrun, h2, h3, h4⟩ := run_append_sl (P := P) w base t o.type e i z size bytes ht hi hz hsize hby hzs hsz v n xs hown lo B u m ys hu h1 h63 hbytes hbase
  unfold Oper.wp execOp
  simp only [ho, resolve, invoke, builtin, Sem.run_bind, Sem.run_pure, Result.andThen_ok, List.map_toArray, List.map_cons, List.map_nil, hs, hx, hrun]
  exact h v' w' h2 h3 h4
theorem Sl.zero {w : World} {lo B size c : Nat} {A : Option Addr} (h : c ≤ maxLen) : Sl w lo B size (.slice A 0 c) 0 [] := ⟨by simp, _, _, rfl, Nat.zero_le _, h, fun h => by omega⟩
/-- a slice's first k elements -/
theorem Sl.upTo {w : World} {lo B size n k c : Nat} {A : Option Addr} {xs : List Value} (h : Sl w lo B size (.slice A n c) n xs) (hk : k ≤ n) : Sl w lo B size (.slice A k c) k (xs.take (k * size)) := by
  obtain ⟨A', c', e, h1, h2, h3⟩ := h.at_
  cases e
  have hl := h.len
  have hm : k * size ≤ n * size := Nat.mul_le_mul_right _ hk
  refine ⟨by rw [List.length_take]; omega, _, _, rfl, by omega, h2, fun hn => ?_⟩
  obtain ⟨b, o, e, h4, h5, h6⟩ := h3 (by omega)
  exact ⟨b, o, e, h4, h5, fun j hj => by rw [h6 j (by omega), List.getElem?_take, if_pos hj]⟩
/-- a slice from its element k on: at its very end the address stays -/
theorem Sl.onFrom {w : World} {lo B size n k c : Nat} {b o : Nat} {xs : List Value} (h : Sl w lo B size (.slice (some ⟨b, o, none⟩) n c) n xs) (hk : k ≤ n) :
    Sl w lo B size (.slice (if c = k then some ⟨b, o, none⟩ else some ⟨b, o + k * size, none⟩) (n - k) (c - k)) (n - k) (xs.drop (k * size)) := by
  obtain ⟨A', c', e, h1, h2, h3⟩ := h.at_
  cases e
  have hl := h.len
  have hm : (n - k) * size + k * size = n * size := by rw [← Nat.add_mul]; congr 1; omega
  refine ⟨by rw [List.length_drop]; omega, _, _, rfl, by omega, by omega, fun hn => ?_⟩
  obtain ⟨b', o', e, h4, h5, h6⟩ := h3 (by omega)
  cases e
  rw [if_neg (by omega)]
  exact ⟨_, _, rfl, h4, h5, fun j hj => by rw [Nat.add_assoc, h6 _ (by omega), List.getElem?_drop]⟩
end Go.Proofs.YtdbkkldgobkjcaaGreat

namespace Go.Proofs.YtdbkkldgobkjcaaGreat
open Go.RowKit
namespace Ce

/-- bytes in memory -/
def bytesV (l : List UInt8) : List Value := l.map fun c => Value.int .u8 (c.toNat : Int)
theorem bytesV_length (l : List UInt8) : (bytesV l).length = l.length := by simp [bytesV]
theorem bytesV_append (a b : List UInt8) : bytesV (a ++ b) = bytesV a ++ bytesV b := by simp [bytesV]
theorem bytesV_one (l : List UInt8) : ∀ y ∈ bytesV l, y.oneCell' = true := by
  intro y hy
  obtain ⟨x, _, rfl⟩ := List.mem_map.1 hy
  rfl
def BytesAt (w : World) (lo B : Nat) (v : Value) (l : List UInt8) : Prop := Sl w lo B 1 v l.length (bytesV l)
section
variable {w w' : World} {lo lo' B B' : Nat} {v : Value} {l : List UInt8}
theorem BytesAt.below (h : BytesAt w lo B v l) (hb : Below B w w') : BytesAt w' lo B v l := Sl.below h hb
theorem BytesAt.mono (h : BytesAt w lo B v l) (hb : Below B w w') (hB : B ≤ B') : BytesAt w' lo B' v l := Sl.mono h hb hB
theorem BytesAt.wide (h : BytesAt w lo B v l) (hl : lo' ≤ lo) (hB : B ≤ B') : BytesAt w lo' B' v l := Sl.wide h hl hB
theorem BytesAt.nil (w : World) (lo B : Nat) : BytesAt w lo B (.slice none 0 0) [] := Sl.nil w lo B 1
theorem BytesAt.form (h : BytesAt w lo B v l) : ∃ A c, v = .slice A l.length c ∧ l.length ≤ c ∧ c ≤ maxLen := by
  obtain ⟨A, c, e, h1, h2, _⟩ := h.at_
  exact ⟨A, c, e, h1, h2⟩
theorem BytesAt.cellAt {A : Option Addr} {n c j : Nat} (h : BytesAt w lo B (.slice A n c) l) (hj : j < l.length) :
    ∃ b o, A = some ⟨b, o, none⟩ ∧ lo ≤ b ∧ b < B ∧ w.cell? ⟨b, o + j, none⟩ = some (.int .u8 (l[j].toNat : Int)) := by
  obtain ⟨A', c', e, _, _, h3⟩ := h.at_
  cases e
  obtain ⟨b, o, e1, e2, e3, e4⟩ := h3 (by omega)
  refine ⟨b, o, e1, e2, e3, (e4 j (by omega)).trans ?_⟩
  simp [bytesV, hj]
theorem BytesAt.of_own {e : TypeId} {n : Nat} (h : w.ownsRow lo e 1 v n (bytesV l)) : BytesAt w lo w.heap.size v l := by
  have hn : n = l.length := by have := h.1; rw [bytesV_length] at this; omega
  subst hn
  exact Sl.of_own h
end
theorem byte_info : (Tryz.prog.info? 5).map (fun i => (i.zero, i.size, i.bytes)) = some (some (.int .u8 0), 1, 1) := by kernel_rfl

theorem byte_of {n : Int} {k : Nat} (h : n = k) (hk : k < 256) : Value.int .u8 n = .int .u8 ((UInt8.ofNat k).toNat : Int) := by
  rw [h, toNat_ofNat hk]
/-- how many bytes, from how many bits -/
theorem size_of {u : Int} {k : Nat} (h0 : 0 ≤ u) (h1 : u ≤ 18446744073709551615) (hk : k ≤ 64) (h2 : u < 2 ^ k) (h3 : k = 0 ∨ 2 ^ (k - 1) ≤ u) : (k + 7) / 8 = (dig u.toNat).length := by
  obtain ⟨n, rfl⟩ := Int.eq_ofNat_of_zero_le h0
  simp only [Int.toNat_natCast]
  have h2' : n < 2 ^ k := by exact_mod_cast h2
  have h3' : k = 0 ∨ 2 ^ (k - 1) ≤ n := by
    rcases h3 with h | h
    · exact .inl h
    · exact .inr (by exact_mod_cast h)
  refine Nat.le_antisymm ?_ ?_
  · have hg := dig_ge (u := n) (by omega)
    rcases h3' with rfl | h
    · simp
    · have hlt : 2 ^ (k - 1) < 2 ^ (8 * (dig n).length) := by
        rw [Nat.pow_mul]
        exact Nat.lt_of_le_of_lt h hg
      have := (Nat.pow_lt_pow_iff_right (a := 2) (by omega)).1 hlt
      omega
  · refine dig_len (by omega) ?_
    rw [show (256 : Nat) = 2 ^ 8 by rfl, ← Nat.pow_mul]
    exact Nat.lt_of_lt_of_le h2' (Nat.pow_le_pow_right (by omega) (by omega))

theorem flip_neg {n : Int} (h0 : -9223372036854775808 ≤ n) (h : n < 0) : bits .xor .u64 IntKind.u64.max (IntKind.u64.wrap n) = -1 - n := by
  have e1 : IntKind.u64.wrap n = (((n + 18446744073709551616).toNat : Nat) : Int) := by
    rw [IntKind.wrap_u64]
    omega
  have e2 : IntKind.u64.max = ((2 ^ 64 - 1 : Nat) : Int) := by decide
  rw [e1, e2, bits_xor_u64_nat _ _ (by decide) (by omega), Lib.xor_ones64 _ (by omega)]
  omega

theorem byte_shift {u : Int} {m : Nat} (h : 0 ≤ u) : u / 2 ^ (8 * m) % 256 = ((u.toNat / 256 ^ m % 256 : Nat) : Int) := by
  obtain ⟨x, rfl⟩ := Int.eq_ofNat_of_zero_le h
  simp only [Int.toNat_natCast]
  have h1 : ((2 : Nat) ^ (8 * m) : Nat) = 256 ^ m := by
    rw [Nat.pow_mul]
  have h2 : (2 : Int) ^ (8 * m) = ((2 ^ (8 * m) : Nat) : Int) := (Int.natCast_pow 2 (8 * m)).symm
  rw [h2, h1]
  generalize 256 ^ m = q
  omega
theorem BytesAt.clip {w : World} {lo B n c : Nat} {A : Option Addr} {l : List UInt8} (h : BytesAt w lo B (.slice A n c) l) : BytesAt w lo B (.slice A n n) l := by
  have h0 := h.len
  obtain ⟨A', c', e, h1, h2, h3⟩ := h.at_
  cases e
  exact ⟨h0, _, _, rfl, Nat.le_refl _, Nat.le_trans h1 h2, h3⟩
set_option maxHeartbeats 1000000 in
theorem clip_calls (A : Option Addr) (n c : Nat) (w : World) (h : n ≤ c) :
    Calls Tryz.prog 125 #[.slice A n c] w fun e w' => e = .returned (.slice A n n) ∧ w = w' := by
  have k1 : (0 : Int) ≤ (n : Int) := by omega
  have k2 : (n : Int) ≤ (c : Int) := by omega
  go_enter Tryz.func125, Tryz.ntmps125
  go_wp2
  go_ret
  exact ⟨rfl, rfl⟩

set_option maxRecDepth 100000 in
set_option maxHeartbeats 4000000 in
theorem num_calls (n : Int) (w : World) (h0 : -9223372036854775808 ≤ n) (h1 : n ≤ 9223372036854775807) :
    Calls Tryz.prog 100 #[.int .i64 n] w fun e w' => (∃ v, e = .returned v ∧ BytesAt w' w.heap.size w'.heap.size v (numC n)) ∧ Below w.heap.size w w' := by
  obtain ⟨i0, hi0, hz0⟩ := Option.map_eq_some_iff.1 byte_info
  simp only [Prod.mk.injEq] at hz0
  obtain ⟨hz0, hz1, hz2⟩ := hz0
  by_cases hs : 0 ≤ n ∧ n < 128
  · have HS := Lib.hid (numC_small hs)
    obtain ⟨hs1, hs2⟩ := hs
    have hd1 : decide (n ≥ 0) = true := by simpa using hs1
    have hd2 : decide (n < 128) = true := by simpa using hs2
    go_enter Tryz.func100, Tryz.ntmps100
    go_wp2
    go_ret
    refine ⟨⟨_, rfl, ?_⟩, (Below.refl _ w).alloc (Nat.le_refl _) _⟩
    rw [HS.out]
    have := Sl.new w #[.int .u8 n] 5 (n := 1) (size := 1) rfl (by unfold maxLen; omega)
    rw [World.size_alloc]
    unfold BytesAt
    simp only [bytesV, List.map_cons, List.map_nil, List.length_singleton]
    rw [← byte_of (n := n) (by omega) (by omega)]
    exact this
  · by_cases hn : n < 0
    · have hd1 : decide (n ≥ 0) = false := by simp; omega
      have hd3 : decide (n < 0) = true := by simpa using hn
      have hx := flip_neg h0 hn
      go_enter Tryz.func100, Tryz.ntmps100
      go_wp2_with fail
      refine (len64_calls (-1 - n) _ (by omega) (by omega)).mono ?_
      rintro e W ⟨⟨k, rfl, hk, hk2, hk3⟩, rfl⟩
      have hsz := size_of (by omega) (by omega) hk hk2 hk3
      have HSZ := Lib.hid hsz
      have h8 := dig_len8 (-1 - n).toNat
      clear hsz hk2 hk3
      go_wp2
      have hz : ((k : Int) + 8 - 1) / 8 = ((dig (-1 - n).toNat).length : Int) := by have := HSZ.out; omega
      rw [hz]
      clear hz HSZ
      have hown0 : (w.alloc (.cells #[.int .u8 (144 + ((dig (-1 - n).toNat).length : Int))] 5)).ownsRow w.heap.size 5 1 (.slice (some ⟨w.heap.size, 0, none⟩) 1 1) 1 (bytesV [UInt8.ofNat (144 + (dig (-1 - n).toNat).length)]) := by
        have := World.ownsRow_lit (size := 1) (base := w.heap.size) (e := 5) w #[.int .u8 (144 + ((dig (-1 - n).toNat).length : Int))] 1 (Nat.le_refl _) (by unfold maxLen; omega) rfl
        simp only [bytesV, List.map_cons, List.map_nil]
        rw [← byte_of (n := 144 + ((dig (-1 - n).toNat).length : Int)) (by omega) (by omega)]
        exact this
      have HG := Lib.hid (dig_get _ (-1 - n).toNat h8 rfl (by omega))
      have HNC := Lib.hid (show numC n = UInt8.ofNat (144 + (dig (-1 - n).toNat).length) :: dig (-1 - n).toNat from numC_neg hn)
      generalize UInt8.ofNat (144 + (dig (-1 - n).toNat).length) = hb at *
      generalize dig (-1 - n).toNat = D at *
      go_loopw [6, 7] (fun o i wr => ∃ j : Nat, j ≤ D.length ∧ i = .int .i64 ((D.length : Int) - 1 - j) ∧ wr.ownsRow w.heap.size 5 1 o (1 + j) (bytesV (hb :: D.take j)) ∧ Below w.heap.size w wr) (fun _ i _ => (intOf i + 1).toNat)
      case atStart => exact ⟨0, by omega, by go_num, hown0, (Below.refl _ w).alloc (Nat.le_refl _) _⟩
      case round =>
        obtain ⟨j, hj, rfl, hown, hB⟩ := hrel
        clear hown0
        by_cases hlt : j < D.length
        · obtain ⟨m, hm⟩ : ∃ m : Nat, (D.length : Int) - 1 - j = (m : Int) := ⟨D.length - 1 - j, by omega⟩
          rw [hm]
          have hm2 : m < 8 := by omega
          have HM := Lib.hid hm
          clear hm
          have hbyte : (-1 - n) / 2 ^ (8 * m) % 256 = ((D[j]'hlt).toNat : Int) := by
            have h1 := HG.out j hlt
            rw [List.getElem?_eq_getElem hlt, show D.length - 1 - j = m by have := HM.out; omega] at h1
            simp only [Option.some.injEq] at h1
            rw [h1, toNat_ofNat (Nat.mod_lt _ (by omega))]
            exact byte_shift (by omega)
          have hts : D.take (j + 1) = D.take j ++ [D[j]] := List.take_succ_eq_append_getElem hlt
          have HB := Lib.hid hbyte
          have HTS := Lib.hid (show bytesV (hb :: D.take (j + 1)) = bytesV (hb :: D.take j) ++ [.int .u8 ((D[j]'hlt).toNat : Int)] by simp only [bytesV, List.map_cons, hts, List.map_append, List.map_nil, List.cons_append])
          clear hbyte hts
          go_wp2_with (at_builtin
                       refine wpList_append_sl _ rfl (.tmp 39) (.tmp 45) _ rfl w.heap.size 5 i0 _ 1 1 Tryz.underlying65 hi0 hz0 hz1 hz2 rfl (by omega) u6 (1 + j) _ rfl (hown.alloc _) wr.heap.size (wr.heap.size + 1) _ 1 [.int .u8 ((-1 - n) / 2 ^ (8 * m) % 256)] rfl (Sl.new wr #[.int .u8 ((-1 - n) / 2 ^ (8 * m) % 256)] 5 (n := 1) rfl (by unfold maxLen; omega)) (by simp [Value.oneCell']) (by unfold maxLen; omega) (by omega) (by have := hB.size; simp; omega) ?_
                       intro v1 w5 hv1 hg1 hat1)
          have hB4 : Below w.heap.size w w5 := (hB.alloc hB.size _).grown hg1 (by have := hB.size; simp; omega) (fun g hg => (hown.lt g hg).1)
          clear hg1 hat1 hown
          go_roundw
          case rel =>
            refine ⟨j + 1, by omega, num (by have := HM.out; omega), ?_, hB4⟩
            rw [HTS.out, ← HB.out, ← Nat.add_assoc]
            exact hv1
          case measure => have := HM.out; simp only [intOf]; omega
        · obtain rfl : j = D.length := by omega
          rw [show (D.length : Int) - 1 - (D.length : Int) = -1 by omega]
          rw [List.take_length, show 1 + D.length = (hb :: D).length by rw [List.length_cons, Nat.add_comm]] at hown
          have hx := (BytesAt.of_own hown)
          obtain ⟨A5, c5, rfl, hc5, -⟩ := hx.form
          clear hown
          go_wp2_with (go_at_call 125; refine (clip_calls A5 _ c5 _ hc5).mono ?_; rintro e w9 ⟨rfl, rfl⟩)
          go_ret
          rw [HNC.out]
          exact ⟨⟨_, rfl, BytesAt.clip hx⟩, hB⟩
    · have hn2 : 128 ≤ n := by omega
      have hd1 : decide (n ≥ 0) = true := by simp; omega
      have hd2 : decide (n < 128) = false := by simp; omega
      have hd3 : decide (n < 0) = false := by simp; omega
      go_enter Tryz.func100, Tryz.ntmps100
      go_wp2_with fail
      refine (len64_calls (n) _ (by omega) (by omega)).mono ?_
      rintro e W ⟨⟨k, rfl, hk, hk2, hk3⟩, rfl⟩
      have hsz := size_of (by omega) (by omega) hk hk2 hk3
      have HSZ := Lib.hid hsz
      have h8 := dig_len8 (n).toNat
      clear hsz hk2 hk3
      go_wp2
      have hz : ((k : Int) + 8 - 1) / 8 = ((dig (n).toNat).length : Int) := by have := HSZ.out; omega
      rw [hz]
      clear hz HSZ
      have hown0 : (w.alloc (.cells #[.int .u8 (128 + ((dig (n).toNat).length : Int))] 5)).ownsRow w.heap.size 5 1 (.slice (some ⟨w.heap.size, 0, none⟩) 1 1) 1 (bytesV [UInt8.ofNat (128 + (dig (n).toNat).length)]) := by
        have := World.ownsRow_lit (size := 1) (base := w.heap.size) (e := 5) w #[.int .u8 (128 + ((dig (n).toNat).length : Int))] 1 (Nat.le_refl _) (by unfold maxLen; omega) rfl
        simp only [bytesV, List.map_cons, List.map_nil]
        rw [← byte_of (n := 128 + ((dig (n).toNat).length : Int)) (by omega) (by omega)]
        exact this
      have HG := Lib.hid (dig_get _ (n).toNat h8 rfl (by omega))
      have HNC := Lib.hid (show numC n = UInt8.ofNat (128 + (dig (n).toNat).length) :: dig (n).toNat from numC_big hn2)
      generalize UInt8.ofNat (128 + (dig (n).toNat).length) = hb at *
      generalize dig (n).toNat = D at *
      go_loopw [6, 7] (fun o i wr => ∃ j : Nat, j ≤ D.length ∧ i = .int .i64 ((D.length : Int) - 1 - j) ∧ wr.ownsRow w.heap.size 5 1 o (1 + j) (bytesV (hb :: D.take j)) ∧ Below w.heap.size w wr) (fun _ i _ => (intOf i + 1).toNat)
      case atStart => exact ⟨0, by omega, by go_num, hown0, (Below.refl _ w).alloc (Nat.le_refl _) _⟩
      case round =>
        obtain ⟨j, hj, rfl, hown, hB⟩ := hrel
        clear hown0
        by_cases hlt : j < D.length
        · obtain ⟨m, hm⟩ : ∃ m : Nat, (D.length : Int) - 1 - j = (m : Int) := ⟨D.length - 1 - j, by omega⟩
          rw [hm]
          have hm2 : m < 8 := by omega
          have HM := Lib.hid hm
          clear hm
          have hbyte : (n) / 2 ^ (8 * m) % 256 = ((D[j]'hlt).toNat : Int) := by
            have h1 := HG.out j hlt
            rw [List.getElem?_eq_getElem hlt, show D.length - 1 - j = m by have := HM.out; omega] at h1
            simp only [Option.some.injEq] at h1
            rw [h1, toNat_ofNat (Nat.mod_lt _ (by omega))]
            exact byte_shift (by omega)
          have hts : D.take (j + 1) = D.take j ++ [D[j]] := List.take_succ_eq_append_getElem hlt
          have HB := Lib.hid hbyte
          have HTS := Lib.hid (show bytesV (hb :: D.take (j + 1)) = bytesV (hb :: D.take j) ++ [.int .u8 ((D[j]'hlt).toNat : Int)] by simp only [bytesV, List.map_cons, hts, List.map_append, List.map_nil, List.cons_append])
          clear hbyte hts
          go_wp2_with (at_builtin
                       refine wpList_append_sl _ rfl (.tmp 39) (.tmp 45) _ rfl w.heap.size 5 i0 _ 1 1 Tryz.underlying65 hi0 hz0 hz1 hz2 rfl (by omega) u6 (1 + j) _ rfl (hown.alloc _) wr.heap.size (wr.heap.size + 1) _ 1 [.int .u8 ((n) / 2 ^ (8 * m) % 256)] rfl (Sl.new wr #[.int .u8 ((n) / 2 ^ (8 * m) % 256)] 5 (n := 1) rfl (by unfold maxLen; omega)) (by simp [Value.oneCell']) (by unfold maxLen; omega) (by omega) (by have := hB.size; simp; omega) ?_
                       intro v1 w5 hv1 hg1 hat1)
          have hB4 : Below w.heap.size w w5 := (hB.alloc hB.size _).grown hg1 (by have := hB.size; simp; omega) (fun g hg => (hown.lt g hg).1)
          clear hg1 hat1 hown
          go_roundw
          case rel =>
            refine ⟨j + 1, by omega, num (by have := HM.out; omega), ?_, hB4⟩
            rw [HTS.out, ← HB.out, ← Nat.add_assoc]
            exact hv1
          case measure => have := HM.out; simp only [intOf]; omega
        · obtain rfl : j = D.length := by omega
          rw [show (D.length : Int) - 1 - (D.length : Int) = -1 by omega]
          rw [List.take_length, show 1 + D.length = (hb :: D).length by rw [List.length_cons, Nat.add_comm]] at hown
          have hx := (BytesAt.of_own hown)
          obtain ⟨A5, c5, rfl, hc5, -⟩ := hx.form
          clear hown
          go_wp2_with (go_at_call 125; refine (clip_calls A5 _ c5 _ hc5).mono ?_; rintro e w9 ⟨rfl, rfl⟩)
          go_ret
          rw [HNC.out]
          exact ⟨⟨_, rfl, BytesAt.clip hx⟩, hB⟩
end Ce
end Go.Proofs.YtdbkkldgobkjcaaGreat
