/-
  slices.Concat at items: what it hands back owns the parts, one behind the other.
-/
import Derived.Test.YtdbkkldgobkjcaaLayed
import Derived.Test.YtdbkkldgobkjcaaItL
namespace Go.Proofs.Ytdbkkldgobkjcaa
open Go.RowKit Go.Shelf
namespace CatI

/-- a part: its address, length, capacity, cells -/
abbrev Part := Option Addr × Nat × Nat × List Value
def pv (p : Part) : Value := .slice p.1 p.2.1 p.2.2.1
def lens : List Part → Nat
  | [] => 0
  | p :: r => p.2.1 + lens r
def all (l : List Part) : List Value := (l.map (·.2.2.2)).flatten
theorem lens_le (l : List Part) (k : Nat) : lens (l.take k) ≤ lens l := by
  induction l generalizing k with
  | nil => simp [lens]
  | cons p r ih =>
    cases k with
    | zero => simp [lens]
    | succ k => simp only [List.take_succ_cons, lens]; have := ih k; omega
theorem lens_succ (l : List Part) (k : Nat) (h : k < l.length) : lens (l.take (k + 1)) = lens (l.take k) + l[k].2.1 := by
  induction l generalizing k with
  | nil => simp at h
  | cons p r ih =>
    cases k with
    | zero => simp [lens]
    | succ k => simp only [List.take_succ_cons, lens, List.getElem_cons_succ]; rw [ih k (by simpa using h)]; omega
theorem all_succ (l : List Part) (k : Nat) (h : k < l.length) : all (l.take (k + 1)) = all (l.take k) ++ l[k].2.2.2 := by
  unfold all
  induction l generalizing k with
  | nil => simp at h
  | cons p r ih =>
    cases k with
    | zero => simp
    | succ k =>
      simp only [List.take_succ_cons, List.map_cons, List.flatten_cons, List.getElem_cons_succ, List.append_assoc]
      rw [ih k (by simpa using h)]

set_option maxHeartbeats 1000000 in
theorem grow_calls (n : Nat) (w : World) (hn : n ≤ 1000000) :
    Calls Try.prog 77 #[.slice none 0 0, .int .i64 n] w fun e w' => (∃ v, e = .returned v ∧ w'.ownsRow w.heap.size 36 2 v 0 []) ∧ Below w.heap.size w w' := by
  cases n with
  | zero =>
    refine (Any8.slices_Grow_room Try.grow77 none 0 0 0 w (by omega) (by omega) (by omega) (by omega)).mono ?_
    rintro e w' ⟨rfl, rfl⟩
    exact ⟨⟨_, rfl, World.ownsRow_nil _ _ _ _⟩, Below.refl _ _⟩
  | succ n =>
    obtain ⟨i0, hi0, hz0⟩ := Option.map_eq_some_iff.1 It.item_info
    simp only [Prod.mk.injEq] at hz0
    obtain ⟨hz0, hz1, hz2⟩ := hz0
    refine (Any8.slices_Grow_grow Try.grow77 i0 _ hi0 hz0 (by omega) none 0 0 (n + 1) [] w (by omega) (by omega) (by rw [hz2]; omega) (by omega) (by simp) (by simp) (by simp)).mono ?_
    rintro e w' ⟨rfl, rfl⟩
    have hG := grownCap_le_maxLen w (0 + (n + 1)) 0 (Try.grow77_ren.t 25) (by unfold maxLen; omega)
    have hge := grownCap_ge w (0 + (n + 1)) 0 (Try.grow77_ren.t 25)
    refine ⟨⟨_, rfl, ?_⟩, ((Below.refl w.heap.size w).drew).alloc (Nat.le_refl _) _⟩
    refine World.ownsRow_made w.drew _ _ (Nat.le_refl _) hG ?_
    generalize grownCap w (0 + (n + 1)) 0 (Try.grow77_ren.t 25) = G at *
    simp only [Array.size_append, size_zeroCells, Value.cells]
    simp
    omega

/-- the parts lie in memory -/
structure Parts (w : World) (B : Nat) (l : List Part) : Prop where
  sl : ∀ p ∈ l, Sl w 0 B 2 (pv p) p.2.1 p.2.2.2
  one : ∀ p ∈ l, ∀ y ∈ p.2.2.2, y.oneCell' = true

set_option maxRecDepth 100000 in
set_option maxHeartbeats 4000000 in
theorem concat_calls (l : List Part) (bk c : Nat) (w : World) (hlc : l.length ≤ c) (hc : c ≤ maxLen) (hbk : bk < w.heap.size) (hcell : ∀ j (h : j < l.length), w.cell? ⟨bk, j, none⟩ = some (pv l[j])) (hp : Parts w w.heap.size l) (hlen : lens l ≤ 1000000) :
    Calls Try.prog 64 #[.slice (some ⟨bk, 0, none⟩) l.length c] w fun e w' => (∃ v, e = .returned v ∧ w'.ownsRow w.heap.size 36 2 v (lens l) (all l)) ∧ Below w.heap.size w w' := by
  have HC := Lib.hid hcell
  clear hcell
  unfold maxLen at hc
  have cG := Lib.hid (fun W => grow_calls (lens l) W hlen)
  have hle := Lib.hid (lens_le l)
  have hls := Lib.hid (lens_succ l)
  have hla := Lib.hid (show lens (l.take l.length) = lens l by rw [List.take_length])
  have hal := Lib.hid (show all (l.take l.length) = all l by rw [List.take_length])
  have has := Lib.hid (all_succ l)
  generalize lens l = T at *
  go_enter Try.func64, Try.ntmps64
  go_wp2_with fail
  go_loop [3, 5, 11] (fun s _ i => ∃ k : Nat, k ≤ l.length ∧ i = .int .i64 k ∧ s = .int .i64 (lens (l.take k))) (fun _ _ i => l.length - (intOf i).toNat)
  case atStart => exact ⟨0, by omega, rfl, rfl⟩
  case round =>
    obtain ⟨k, hk, rfl, rfl⟩ := hrel
    by_cases hlt : k < l.length
    · have hck := HC.out k hlt
      have hS0 := hls.out k hlt
      have h1 := hle.out k
      have h2 := hle.out (k + 1)
      rw [hS0] at h2
      generalize l[k] = p at hck hS0 h2
      obtain ⟨A, n, c', xs⟩ := p
      simp only [pv] at hck
      dsimp only at h2 hS0
      have hS := Lib.hid hS0
      clear hS0
      generalize lens (l.take k) = S at *
      have hneg : decide (((S : Int) + (n : Int)) < 0) = false := by simp; omega
      have hw : wrap64 ((S : Int) + (n : Int)) = (S : Int) + (n : Int) := by unfold wrap64; omega
      go_wp2
      go_round
      case rel => exact ⟨k + 1, by omega, by go_num, by rw [hS.out]; go_num⟩
      case measure => simp [intOf]; omega
    · obtain rfl : k = l.length := by omega
      rw [hla.out]
      go_wp2_with fail
      refine (cG.out _).mono ?_
      rintro e w1 ⟨⟨v, rfl, hv⟩, h1⟩
      have hs1 := h1.size
      go_wp2_with fail
      go_loopw [6, 8, 27] (fun u _ i wr => ∃ k : Nat, k ≤ l.length ∧ i = .int .i64 k ∧ wr.ownsRow w.heap.size 36 2 u (lens (l.take k)) (all (l.take k)) ∧ Below w.heap.size w wr) (fun _ _ i _ => l.length - (intOf i).toNat)
      case atStart => exact ⟨0, by omega, rfl, hv, h1⟩
      case round =>
        obtain ⟨k, hk, rfl, hown, hB⟩ := hrel
        by_cases hlt : k < l.length
        · have hck0 := HC.out k hlt
          have hck := (hB.cell (p := ⟨bk, k, none⟩) hbk).trans hck0
          have hsl := (hp.sl _ (List.getElem_mem hlt)).below hB
          have hone := Lib.hid (hp.one _ (List.getElem_mem hlt))
          have hS0 := hls.out k hlt
          have hA0 := has.out k hlt
          have h2 := hle.out (k + 1)
          rw [hS0] at h2
          clear hck0
          generalize l[k] = p at hck hS0 hA0 h2 hsl hone
          obtain ⟨A, n, c', xs⟩ := p
          simp only [pv] at hck hsl
          dsimp only at h2 hS0 hA0 hsl hone
          have hS := Lib.hid hS0
          have hA := Lib.hid hA0
          clear hS0 hA0
          generalize lens (l.take k) = S at *
          generalize all (l.take k) = X at *
          obtain ⟨i0, hi0, hz0⟩ := Option.map_eq_some_iff.1 It.item_info
          simp only [Prod.mk.injEq] at hz0
          obtain ⟨hz0, hz1, hz2⟩ := hz0
          go_wp2_with (at_builtin
                       refine wpList_append_sl _ rfl (.tmp 31) (.tmp 32) _ rfl w.heap.size 36 i0 _ 2 24 Try.underlying30 hi0 hz0 hz1 hz2 rfl (by omega) u6 S X rfl hown 0 w.heap.size _ n xs rfl hsl hone.out (by unfold maxLen; omega) (by omega) hB.size ?_
                       intro v1 w5 hv1 hg1 hat1)
          go_roundw
          case rel => exact ⟨k + 1, by omega, by go_num, by rw [hS.out, hA.out]; exact hv1, hB.grown hg1 hB.size (fun g hg => (hown.lt g hg).1)⟩
          case measure => simp [intOf]; omega
        · obtain rfl : k = l.length := by omega
          rw [hla.out, hal.out] at hown
          obtain ⟨A5, c5, rfl, -⟩ := (Sl.of_own hown).at_
          go_wp2
          go_ret
          exact ⟨⟨_, rfl, hown⟩, hB⟩
end CatI
end Go.Proofs.Ytdbkkldgobkjcaa
