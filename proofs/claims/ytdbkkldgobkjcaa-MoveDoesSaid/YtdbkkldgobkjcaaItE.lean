/-
  items: the walks of Of and Total.
-/
import Derived.Test.YtdbkkldgobkjcaaItD
namespace Go.Proofs.Ytdbkkldgobkjcaa
open Go.RowKit
namespace It
attribute [local go_sem] Oper.semAt_some

def ofStep (good : ByteArray) (s : Int) (x : Item) : Int := if x.1.toList == good.toList then wrap64 (s + x.2) else s
/-- how many of a good, as Go's ints add up -/
def ofSum (good : ByteArray) (l : List Item) : Int := l.foldl (ofStep good) 0
theorem ofSum_snoc (good : ByteArray) (l : List Item) (x : Item) : ofSum good (l ++ [x]) = ofStep good (ofSum good l) x := by simp [ofSum]
def totStep (s : Int) (x : Item) : Int := wrap64 (s + x.2)
def totSum (l : List Item) : Int := l.foldl totStep 0
theorem totSum_snoc (l : List Item) (x : Item) : totSum (l ++ [x]) = totStep (totSum l) x := by simp [totSum]
theorem wrap64_bounds (n : Int) : -9223372036854775808 ≤ wrap64 n ∧ wrap64 n ≤ 9223372036854775807 := by unfold wrap64; omega

theorem vals_in {L : List Item} {pre : List (Of L)} : ∀ x ∈ vals pre, x ∈ L := by
  intro x hx
  obtain ⟨y, _, rfl⟩ := List.mem_map.1 hx
  exact y.2

set_option maxRecDepth 100000 in
set_option maxHeartbeats 4000000 in
theorem of_calls (L : List Item) (good : ByteArray) (v : Value) (w : World) (hI : ItemsAt w 0 w.heap.size v L) :
    Calls Try.prog 81 #[v, .string good] w fun e w' => e = .returned (.int .i64 (ofSum good L)) ∧ Below w.heap.size w w' := by
  obtain ⟨A, c, rfl, hc1, hc2⟩ := hI.form
  unfold maxLen at hc2
  refine (callsIn_wide (n := 6)).1 ?_
  refine callsIn_of_wp_marks Try.func81 rfl trivial ?_ rfl
  simp only [Try.ntmps81, List.size_toArray, List.length_cons, List.length_nil, Nat.reduceAdd, Nat.reduceSub, Array.replicate_succ, Array.replicate_zero, List.push_toArray, List.append_toArray, List.nil_append, List.cons_append]
  gi_wp2_with (refine ⟨trivial, ?_⟩; gi_at_call 58; refine (callsIn_wide.2 (all_calls A _ c _)).mono ?_; rintro e w' ⟨rfl, rfl⟩)
  have b0 : Boxed (((w.alloc (.cells #[.string good] 9)).alloc (.cells #[.int .i64 0] 3)).alloc (.cells #[.slice A L.length c] 30)) w.heap.size 9 (.string good) := ((Boxed.new w _ _).alloc _).alloc _
  have b1 : Boxed (((w.alloc (.cells #[.string good] 9)).alloc (.cells #[.int .i64 0] 3)).alloc (.cells #[.slice A L.length c] 30)) (w.heap.size + 1) 3 (.int .i64 0) := by
    have := (Boxed.new (w.alloc (.cells #[.string good] 9)) 3 (.int .i64 0)).alloc (.cells #[.slice A L.length c] 30)
    rwa [World.size_alloc] at this
  have b2 : Boxed (((w.alloc (.cells #[.string good] 9)).alloc (.cells #[.int .i64 0] 3)).alloc (.cells #[.slice A L.length c] 30)) (w.heap.size + 1 + 1) 30 (.slice A L.length c) := by
    have := Boxed.new ((w.alloc (.cells #[.string good] 9)).alloc (.cells #[.int .i64 0] 3)) 30 (.slice A L.length c)
    rwa [World.size_alloc, World.size_alloc] at this
  have hB0 : Below w.heap.size w (((w.alloc (.cells #[.string good] 9)).alloc (.cells #[.int .i64 0] 3)).alloc (.cells #[.slice A L.length c] 30)) := (((Below.refl _ w).alloc (Nat.le_refl _) _).alloc (by simp) _).alloc (by simp; omega) _
  have hsz0 : w.heap.size + 3 = (((w.alloc (.cells #[.string good] 9)).alloc (.cells #[.int .i64 0] 3)).alloc (.cells #[.slice A L.length c] 30)).heap.size := by simp
  generalize (((w.alloc (.cells #[.string good] 9)).alloc (.cells #[.int .i64 0] 3)).alloc (.cells #[.slice A L.length c] 30)) = w0 at *
  refine range_all (n := 6) rfl trivial (by omega) (Bs := w.heap.size + 1 + 1) (n₀ := w.heap.size) (v := .slice A L.length c) (L := L) rfl rfl (by omega) (by omega) b2.cell (hI.below hB0)
    (fun pre W => Boxed W w.heap.size 9 (.string good) ∧ Boxed W (w.heap.size + 1) 3 (.int .i64 (ofSum good (vals pre))))
    (fun _ _ _ => False)
    (fun s A B row hs hg hr => ⟨boxed_keep hs.1 hg (fun r e => (hr r e).2), boxed_keep hs.2 hg (fun r e => (hr r e).2)⟩)
    (fun c s A B row hs hg hr => hs)
    ⟨b0, b1⟩
    (fun x => { tmps := #[.slice A L.length c, .string good, undef, .pointer (some ⟨w.heap.size, 0, none⟩), .int .i64 0, .pointer (some ⟨w.heap.size + 1, 0, none⟩), .string x.1.1, .int .i64 x.1.2, .slice A L.length c, .func (.func 73) #[] #[.pointer (some ⟨w.heap.size + 1 + 1, 0, none⟩)], .string x.1.1, .int .i64 x.1.2, undef, undef, undef, undef, undef, undef, undef], defers := [] }) ?assign ?body ?done ?stop
  case assign =>
    intro l x W K hK
    dsimp only [enc2]
    gi_wp2
    exact hK
  case body =>
    rintro l pre ⟨⟨xs, xn⟩, hx⟩ W ⟨hb0, hb1⟩ hB hsz hlen
    have hS := Lib.hid (show ofSum good (vals (pre ++ [⟨(xs, xn), hx⟩])) = if xs.toList == good.toList then wrap64 (ofSum good (vals pre) + xn) else ofSum good (vals pre) by rw [vals_snoc, ofSum_snoc]; rfl)
    have hc0 := hb0.cell
    have hc1 := hb1.cell
    have hf1 := hb1.frozen
    dsimp only
    generalize ofSum good (vals pre) = t at *
    by_cases ht : (xs.toList == good.toList) = true
    · gi_wp2
      exact ⟨keeps_set (KeepsFrom.refl _ _) _ _, (Below.refl w.heap.size W).setCell (p := ⟨w.heap.size + 1, 0, none⟩) (by simp) _, hb0.other (by simp) _, by rw [hS.out, if_pos ht]; exact hb1.set _⟩
    · have ht' : (xs.toList == good.toList) = false := by simpa using ht
      gi_wp2
      exact ⟨KeepsFrom.refl _ _, Below.refl _ _, hb0, by rw [hS.out, if_neg (by simp [ht'])]; exact hb1⟩
  case done =>
    rintro D W hD ⟨hb0, hb1⟩ hB hK
    rw [vals_all] at hb1
    have hc0 := hb1.cell
    gi_wp2
    refine ⟨by simp, .inl ⟨_, _, rfl, run_takeDeferred hK, ?_⟩⟩
    exact ⟨_, results_tmp rfl _ _ _, rfl, below_end (hB0.trans hB) (by omega) hK⟩
  case stop =>
    rintro D c pre W hD hpre h hB hK
    exact h.elim
end It
end Go.Proofs.Ytdbkkldgobkjcaa
