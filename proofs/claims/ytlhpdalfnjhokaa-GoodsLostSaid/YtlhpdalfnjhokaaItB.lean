/-
  items: lists of items in memory; the iterator All.
-/
import Derived.Test.YtlhpdalfnjhokaaItA
import Derived.RangeFuncNested
import Derived.RangeFuncBound
import Derived.RangeFuncCalls
import Derived.RangeFuncLeaves
import Derived.Shelf.Abstract
import Derived.Shelf.RegionOpen
import Derived.TacticsInMore
import Derived.LoopNIn
import Derived.LoopIn
namespace Go.Proofs.Ytlhpdalfnjhokaa
open Go.RowKit
namespace It

attribute [local go_sem] Oper.semAt_some

abbrev Item := ByteArray × Int
def itemCells (l : List Item) : List Value := l.flatMap fun x => [.string x.1, .int .i64 x.2]
theorem itemCells_length (l : List Item) : (itemCells l).length = l.length * 2 := by
  induction l with
  | nil => rfl
  | cons x r ih => simp only [itemCells, List.flatMap_cons, List.length_append, List.length_cons, List.length_nil] at ih ⊢; omega
theorem itemCells_append (a b : List Item) : itemCells (a ++ b) = itemCells a ++ itemCells b := by simp [itemCells]
theorem itemCells_one (l : List Item) : ∀ y ∈ itemCells l, y.oneCell' = true := by
  intro y hy
  obtain ⟨x, _, hx⟩ := List.mem_flatMap.1 hy
  simp only [List.mem_cons, List.not_mem_nil, or_false] at hx
  rcases hx with rfl | rfl <;> rfl
theorem itemCells_get : ∀ (l : List Item) (j : Nat) (hj : j < l.length), (itemCells l)[j * 2]? = some (.string l[j].1) ∧ (itemCells l)[j * 2 + 1]? = some (.int .i64 l[j].2)
  | [], j, hj => absurd hj (by simp)
  | x :: r, 0, _ => by simp [itemCells]
  | x :: r, j + 1, hj => by
    have h := itemCells_get r j (by simpa using hj)
    have e1 : (j + 1) * 2 = j * 2 + 1 + 1 := by omega
    have e2 : (j + 1) * 2 + 1 = j * 2 + 1 + 1 + 1 := by omega
    rw [e1]
    simp only [itemCells, List.flatMap_cons, List.cons_append, List.nil_append, List.getElem?_cons_succ, List.getElem_cons_succ]
    exact h
/-- a slice of items -/
def ItemsAt (w : World) (lo B : Nat) (v : Value) (l : List Item) : Prop := Sl w lo B 2 v l.length (itemCells l)
section
variable {w w' : World} {lo lo' B B' : Nat} {v : Value} {l : List Item}
theorem ItemsAt.below (h : ItemsAt w lo B v l) (hb : Below B w w') : ItemsAt w' lo B v l := Sl.below h hb
theorem ItemsAt.mono (h : ItemsAt w lo B v l) (hb : Below B w w') (hB : B ≤ B') : ItemsAt w' lo B' v l := Sl.mono h hb hB
theorem ItemsAt.wide (h : ItemsAt w lo B v l) (hl : lo' ≤ lo) (hB : B ≤ B') : ItemsAt w lo' B' v l := Sl.wide h hl hB
theorem ItemsAt.nil (w : World) (lo B : Nat) : ItemsAt w lo B (.slice none 0 0) [] := Sl.nil w lo B 2
theorem ItemsAt.form (h : ItemsAt w lo B v l) : ∃ A c, v = .slice A l.length c ∧ l.length ≤ c ∧ c ≤ maxLen := by
  obtain ⟨A, c, e, h1, h2, _⟩ := h.at_
  exact ⟨A, c, e, h1, h2⟩
theorem ItemsAt.cellAt {A : Option Addr} {n c j : Nat} (h : ItemsAt w lo B (.slice A n c) l) (hj : j < l.length) :
    ∃ b o, A = some ⟨b, o, none⟩ ∧ lo ≤ b ∧ b < B ∧ w.cell? ⟨b, o + j * 2, none⟩ = some (.string l[j].1) ∧ w.cell? ⟨b, o + j * 2 + 1, none⟩ = some (.int .i64 l[j].2) := by
  obtain ⟨A', c', e, _, _, h3⟩ := h.at_
  cases e
  obtain ⟨b, o, e1, e2, e3, e4⟩ := h3 (by omega)
  obtain ⟨g1, g2⟩ := itemCells_get l j hj
  exact ⟨b, o, e1, e2, e3, (e4 (j * 2) (by omega)).trans g1, (e4 (j * 2 + 1) (by omega)).trans g2⟩
theorem ItemsAt.of_own {e : TypeId} {n : Nat} (h : w.ownsRow lo e 2 v n (itemCells l)) : ItemsAt w lo w.heap.size v l := by
  have hn : n = l.length := by have := h.1; rw [itemCells_length] at this; omega
  subst hn
  exact Sl.of_own h
end

/-- an item of a list -/
abbrev Of (l : List Item) := { x : Item // x ∈ l }
def enc2 {l : List Item} (x : Of l) : Array Value := #[.string x.1.1, .int .i64 x.1.2]
/-- the first k items -/
def firsts (l : List Item) (k : Nat) : List (Of l) := l.attach.take k
theorem firsts_succ (l : List Item) (k : Nat) (h : k < l.length) : firsts l (k + 1) = firsts l k ++ [⟨l[k], List.getElem_mem h⟩] := by
  unfold firsts
  rw [List.take_succ_eq_append_getElem (by simpa using h)]
  simp
theorem firsts_length (l : List Item) (k : Nat) (h : k ≤ l.length) : (firsts l k).length = k := by
  unfold firsts; simp [h]
theorem firsts_all (l : List Item) : firsts l l.length = l.attach := by
  unfold firsts; rw [List.take_of_length_le (by simp)]

set_option maxRecDepth 100000 in
set_option maxHeartbeats 2000000 in
theorem all1_in (F : Fence) (n : Nat) (hf : F.fn 60) (hro : F.round = none) (hn : 1 ≤ n) (l Bs n₀ c : Nat) (A : Option Addr) (L : List Item) (hc1 : L.length ≤ c) (hc2 : c ≤ maxLen) (J Jx : List (Of L) → World → Prop)
    (W : World) (hn₀ : n₀ ≤ W.heap.size) (hJ : AbidesFrom W.heap.size J)
    (hY : ∀ pre x W, J pre W → pre.length < L.length → YieldAt F (n - 1) Try.prog l (enc2 x) W fun e W' =>
      (e = .returned (.bool true) ∧ J (pre ++ [x]) W' ∧ Below n₀ W W') ∨ (e = .returned (.bool false) ∧ Jx (pre ++ [x]) W'))
    (hBs : W.cell? ⟨Bs, 0, none⟩ = some (.slice A L.length c)) (hI : ItemsAt W 0 n₀ (.slice A L.length c) L) (h0 : J [] W) :
    CallsIn F n Try.prog 60 #[.func (.yield l) #[] #[], .pointer (some ⟨Bs, 0, none⟩)] W fun e W' => (∃ v, e = .returned v) ∧
      ((∃ ys, ys = L.attach ∧ J ys W') ∨ (∃ pre, pre <+: L.attach ∧ Jx pre W')) := by
  unfold maxLen at hc2
  refine callsIn_of_wp Try.func60 rfl hf ?_ hro
  simp only [Try.ntmps60, List.size_toArray, List.length_cons, List.length_nil, Nat.reduceAdd, Nat.reduceSub, Array.replicate_succ, Array.replicate_zero, List.push_toArray, List.append_toArray, List.nil_append, List.cons_append]
  gi_wp2
  gi_loopw [4, 7] (fun _ i wr => ∃ k : Nat, k ≤ L.length ∧ i = .int .i64 k ∧ J (firsts L k) wr ∧ Below n₀ W wr) (fun _ i _ => L.length - (intOf i).toNat)
  case atStart => exact ⟨0, by omega, rfl, h0, Below.refl _ _⟩
  case round =>
    obtain ⟨k, hk, rfl, hJs, hb⟩ := hrel
    by_cases hlt : k < L.length
    · obtain ⟨b, o, rfl, _, hbn, hs, hi⟩ := (hI.below hb).cellAt hlt
      have hsz : n₀ ≤ wr.heap.size := by have := hb.size; omega
      have hJ' : J (firsts L k) (wr.alloc (.cells #[.string L[k].1, .int .i64 L[k].2] 64)) := hJ _ _ _ none hJs (World.grownBy_alloc _ _ none) (fun r e => by cases e)
      obtain ⟨fn, tmps, assign, body, hy, hR⟩ := hY _ ⟨L[k], List.getElem_mem hlt⟩ _ hJ' (by rw [firsts_length _ _ hk]; exact hlt)
      dsimp only [enc2] at hy
      gi_wp2
      refine hR.mono ?_
      rintro e W3 (⟨rfl, hJ3, hk3⟩ | ⟨rfl, hJx3⟩)
      · gi_wp2
        go_roundw
        case rel => exact ⟨k + 1, by omega, by go_num, by rw [firsts_succ L k hlt]; exact hJ3, hb.trans (((Below.refl _ wr).alloc hsz _).trans hk3)⟩
        case measure => simp [intOf]; omega
      · gi_wp2
        refine bodyPost_ret (results_none rfl _ _ _) rfl ?_
        exact ⟨⟨_, rfl⟩, .inr ⟨_, by rw [← firsts_succ L k hlt]; exact List.take_prefix _ _, hJx3⟩⟩
    · obtain rfl : k = L.length := by omega
      gi_wp2
      go_end0
      exact ⟨⟨_, rfl⟩, .inl ⟨_, rfl, by rw [← firsts_all]; exact hJs⟩⟩

/-- items.All: the slice is boxed, the function value captures the box -/
theorem all_calls (A : Option Addr) (n c : Nat) (w : World) :
    Calls Try.prog 42 #[.slice A n c] w fun e w' => e = .returned (.func (.func 60) #[] #[.pointer (some ⟨w.heap.size, 0, none⟩)]) ∧ w.alloc (.cells #[.slice A n c] 55) = w' := by
  go_enter Try.func42, Try.ntmps42
  go_wp2
  go_ret
  exact ⟨rfl, rfl⟩

/-- items.All hands back an iterator over the list -/
theorem all_stops (F : Fence) (n : Nat) (hf : F.fn 60) (hro : F.round = none) (hn : 1 ≤ n) (Bs n₀ : Nat) (v : Value) (L : List Item) (w : World) (hBs : Bs < w.heap.size) (hn₀ : n₀ ≤ w.heap.size)
    (hc : w.cell? ⟨Bs, 0, none⟩ = some v) (hI : ItemsAt w 0 n₀ v L) :
    SeqStopsK F n Try.prog 60 #[.pointer (some ⟨Bs, 0, none⟩)] (enc2 (l := L)) (Below n₀) (fun ys => ys = L.attach) (fun pre => pre <+: L.attach) L.length w := fun l J Jx W hW hJ _ hY h0 => by
  obtain ⟨A, c, rfl, h1, h2⟩ := hI.form
  exact all1_in F n hf hro hn l Bs n₀ c A L h1 h2 J Jx W (Nat.le_trans hn₀ hW.size) hJ hY ((hW.cell (p := ⟨Bs, 0, none⟩) hBs).trans hc) (hI.below (hW.mono hn₀)) h0
end It
end Go.Proofs.Ytlhpdalfnjhokaa
