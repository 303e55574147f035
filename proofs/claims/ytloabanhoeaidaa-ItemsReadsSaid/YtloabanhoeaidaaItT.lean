/-
  items: what the law's walk collects.
-/
import Derived.Test.YtloabanhoeaidaaItQ
import Derived.Laws.OwnMore
namespace Go.Proofs.Ytloabanhoeaidaa
open Go.RowKit Go.Maps
namespace It
attribute [local go_sem] Oper.semAt_some

theorem eql_nil (b : Nat) (w : World) : (binOp .eql 58 (.func (.func 63) #[] #[.pointer (some ⟨b, 0, none⟩)]) .nilFunc).run Try.prog w = .ok (.bool false) w := by kernel_rfl

/-- how far a walk goes that stops at so many -/
def upTo (most : Int) (L : List Item) : List Item := if 1 ≤ most ∧ most ≤ L.length then L.take most.toNat else L

set_option maxRecDepth 100000 in
set_option maxHeartbeats 4000000 in
theorem walk_calls (L : List Item) (most : Int) (v : Value) (w : World) (hI : ItemsAt w 0 w.heap.size v L) (hLn : L.length * 24 ≤ 140737488355328) :
    Calls Try.prog 22 #[v, .int .i64 most] w fun e w' =>
      (∃ u, e = .returned (.tuple #[u, .bool true]) ∧ w'.ownsRow w.heap.size 36 2 u (upTo most L).length (itemCells (upTo most L))) ∧ Below w.heap.size w w' := by
  obtain ⟨A, c, rfl, hc1, hc2⟩ := hI.form
  unfold maxLen at hc2
  have hen := eql_nil
  obtain ⟨i0, hi0, hz0⟩ := Option.map_eq_some_iff.1 item_info
  simp only [Prod.mk.injEq] at hz0
  obtain ⟨hz0, hz1, hz2⟩ := hz0
  refine (callsIn_wide (n := 6)).1 ?_
  refine callsIn_of_wp_marks Try.func22 rfl trivial ?_ rfl
  simp only [Try.ntmps22, List.size_toArray, List.length_cons, List.length_nil, Nat.reduceAdd, Nat.reduceSub, Array.replicate_succ, Array.replicate_zero, List.push_toArray, List.append_toArray, List.nil_append, List.cons_append]
  gi_wp2_with (refine ⟨trivial, ?_⟩; gi_at_call 39; refine (callsIn_wide.2 (all_calls A _ c _)).mono ?_; rintro e w' ⟨rfl, rfl⟩)
  have b0 : Boxed (((w.alloc (.cells #[.int .i64 most] 3)).alloc (.cells #[.slice A L.length c] 22)).alloc (.cells #[.slice none 0 0] 22)) w.heap.size 3 (.int .i64 most) := ((Boxed.new w _ _).alloc _).alloc _
  have b1 : Boxed (((w.alloc (.cells #[.int .i64 most] 3)).alloc (.cells #[.slice A L.length c] 22)).alloc (.cells #[.slice none 0 0] 22)) (w.heap.size + 1) 22 (.slice A L.length c) := by
    have := (Boxed.new (w.alloc (.cells #[.int .i64 most] 3)) 22 (.slice A L.length c)).alloc (.cells #[.slice none 0 0] 22)
    rwa [World.size_alloc] at this
  have b2 : Boxed (((w.alloc (.cells #[.int .i64 most] 3)).alloc (.cells #[.slice A L.length c] 22)).alloc (.cells #[.slice none 0 0] 22)) (w.heap.size + 1 + 1) 22 (.slice none 0 0) := by
    have := Boxed.new ((w.alloc (.cells #[.int .i64 most] 3)).alloc (.cells #[.slice A L.length c] 22)) 22 (.slice none 0 0)
    rwa [World.size_alloc, World.size_alloc] at this
  have hB0 : Below w.heap.size w (((w.alloc (.cells #[.int .i64 most] 3)).alloc (.cells #[.slice A L.length c] 22)).alloc (.cells #[.slice none 0 0] 22)) := (((Below.refl _ w).alloc (Nat.le_refl _) _).alloc (by simp) _).alloc (by simp; omega) _
  have hsz0 : w.heap.size + 3 = (((w.alloc (.cells #[.int .i64 most] 3)).alloc (.cells #[.slice A L.length c] 22)).alloc (.cells #[.slice none 0 0] 22)).heap.size := by simp
  generalize (((w.alloc (.cells #[.int .i64 most] 3)).alloc (.cells #[.slice A L.length c] 22)).alloc (.cells #[.slice none 0 0] 22)) = w0 at *
  refine range_all (n := 6) rfl trivial (by omega) (Bs := w.heap.size + 1) (n₀ := w.heap.size) (v := .slice A L.length c) (L := L) rfl rfl (by omega) (by omega) b1.cell (hI.below hB0)
    (fun pre W => Boxed W w.heap.size 3 (.int .i64 most) ∧ (∀ j : Nat, 1 ≤ j → j ≤ pre.length → (j : Int) ≠ most) ∧
      ∃ v, Boxed W (w.heap.size + 1 + 1) 22 v ∧ W.ownsRow w.heap.size 36 2 v (vals pre).length (itemCells (vals pre)))
    (fun c pre W => c = .exit 0 ∧ (pre.length : Int) = most ∧ 1 ≤ pre.length ∧
      ∃ v, Boxed W (w.heap.size + 1 + 1) 22 v ∧ W.ownsRow w.heap.size 36 2 v (vals pre).length (itemCells (vals pre)))
    (fun s A B row hs hg hr => ⟨boxed_keep hs.1 hg (fun r e => (hr r e).2), hs.2.1, by
      obtain ⟨v, h1, h2⟩ := hs.2.2
      exact ⟨v, boxed_keep h1 hg (fun r e => (hr r e).2), row_keep h2 hg (fun r e => (hr r e).2)⟩⟩)
    (fun c s A B row hs hg hr => ⟨hs.1, hs.2.1, hs.2.2.1, by
      obtain ⟨v, h1, h2⟩ := hs.2.2.2
      exact ⟨v, boxed_keep h1 hg (fun r e => (hr r e).2), row_keep h2 hg (fun r e => (hr r e).2)⟩⟩)
    ⟨b0, fun j h1 h2 => by simp at h2; omega, _, b2, World.ownsRow_nil _ _ _ _⟩
    (fun x => { tmps := #[.slice A L.length c, .int .i64 most, undef, .pointer (some ⟨w.heap.size, 0, none⟩), .slice none 0 0, .bool false, .func (.func 63) #[] #[.pointer (some ⟨w.heap.size + 1, 0, none⟩)], .pointer (some ⟨w.heap.size + 1 + 1, 0, none⟩), .string x.1.1, .int .i64 x.1.2, .slice A L.length c, .func (.func 63) #[] #[.pointer (some ⟨w.heap.size + 1, 0, none⟩)], .func (.func 63) #[] #[.pointer (some ⟨w.heap.size + 1, 0, none⟩)], .bool false, .func (.func 63) #[] #[.pointer (some ⟨w.heap.size + 1, 0, none⟩)], .string x.1.1, .int .i64 x.1.2, undef, undef, undef, undef, undef, undef, undef, undef, undef, undef, undef], defers := [] }) ?assign ?body ?done ?stop
  case assign =>
    intro l x W K hK
    dsimp only [enc2]
    gi_wp2
    exact hK
  case body =>
    rintro l pre ⟨⟨xs, xn⟩, hx⟩ W ⟨hb0, hne, v, hbv, hown⟩ hB hsz hlen
    have hPL := Lib.hid (show (vals pre).length < L.length by simp [vals]; exact hlen)
    have hlv := Lib.hid (show (pre ++ [(⟨(xs, xn), hx⟩ : Of L)]).length = (vals pre).length + 1 by simp [vals])
    have hVS := Lib.hid (show vals (pre ++ [(⟨(xs, xn), hx⟩ : Of L)]) = vals pre ++ [(xs, xn)] by rw [vals_snoc])
    have HNE := Lib.hid hne
    have HP := Lib.hid (show pre.length = (vals pre).length by simp [vals])
    clear hne hlen
    dsimp only
    generalize vals pre = S at *
    have hcv := hbv.cell
    have hfv := hbv.frozen
    have hc0 := hb0.cell
    by_cases hq : ((S.length : Int) + 1) = most
    · have hqb : (((S.length : Int) + 1) == most) = true := by simpa using hq
      have HQ := Lib.hid hq
      clear hq
      gi_wp2_with (gi_at_builtin
                   refine wpListIn_append_sl _ rfl (.tmp 17) (.tmp 21) _ rfl w.heap.size 36 i0 _ 2 24 Try.underlying22 hi0 hz0 hz1 hz2 rfl (by omega) v S.length (itemCells S) rfl (hown.alloc _) W.heap.size (W.heap.size + 1) _ 1 [.string xs, .int .i64 xn] rfl (Sl.new W #[.string xs, .int .i64 xn] 36 (n := 1) rfl (by unfold maxLen; omega)) (by simp [Value.oneCell']) (by have := hPL.out; unfold maxLen; omega) (by have := hPL.out; omega) (by simp; omega) ?_
                   intro v1 W2 hv1 hg1 hat1
                   obtain ⟨k1, k2, k3, k4, k5⟩ := hbv.appended (by decide) hown (by omega) (by omega) hv1 hg1
                   obtain ⟨g, cap, rfl⟩ := ownsRow_succ hv1
                   have hcv2 := k1.cell
                   have hfv2 := k1.frozen
                   have n1 := hb0.not_row (show 3 ≠ 36 by decide) hown
                   have hc02 := (((hb0.alloc _).kept hg1 n1).other (show w.heap.size ≠ w.heap.size + 1 + 1 by omega) (.slice (some ⟨g, 0, none⟩) (S.length + 1) cap)).cell)

      refine ⟨(show KeepsFrom w0.heap.size W _ from k4.from _), k5, rfl, ?_, ?_, _, k2, ?_⟩
      · rw [hlv.out]; have := HQ.out; omega
      · rw [hlv.out]; omega
      · rw [hVS.out, itemCells_append, List.length_append]; exact k3
    · have hqb : (((S.length : Int) + 1) == most) = false := by simpa using hq
      have HQ := Lib.hid hq
      clear hq
      gi_wp2_with (gi_at_builtin
                   refine wpListIn_append_sl _ rfl (.tmp 17) (.tmp 21) _ rfl w.heap.size 36 i0 _ 2 24 Try.underlying22 hi0 hz0 hz1 hz2 rfl (by omega) v S.length (itemCells S) rfl (hown.alloc _) W.heap.size (W.heap.size + 1) _ 1 [.string xs, .int .i64 xn] rfl (Sl.new W #[.string xs, .int .i64 xn] 36 (n := 1) rfl (by unfold maxLen; omega)) (by simp [Value.oneCell']) (by have := hPL.out; unfold maxLen; omega) (by have := hPL.out; omega) (by simp; omega) ?_
                   intro v1 W2 hv1 hg1 hat1
                   obtain ⟨k1, k2, k3, k4, k5⟩ := hbv.appended (by decide) hown (by omega) (by omega) hv1 hg1
                   obtain ⟨g, cap, rfl⟩ := ownsRow_succ hv1
                   have hcv2 := k1.cell
                   have hfv2 := k1.frozen
                   have n1 := hb0.not_row (show 3 ≠ 36 by decide) hown
                   have hc02 := (((hb0.alloc _).kept hg1 n1).other (show w.heap.size ≠ w.heap.size + 1 + 1 by omega) (.slice (some ⟨g, 0, none⟩) (S.length + 1) cap)).cell)

      refine ⟨(show KeepsFrom w0.heap.size W _ from k4.from _), k5, ((hb0.alloc _).kept hg1 n1).other (by omega) _, ?_, _, k2, ?_⟩
      · intro j h1 h2
        rw [hlv.out] at h2
        rcases Nat.lt_or_ge j (S.length + 1) with h3 | h3
        · exact HNE.out j h1 (by have := HP.out; omega)
        · have := HQ.out; omega
      · rw [hVS.out, itemCells_append, List.length_append]; exact k3
  case done =>
    rintro D W hD ⟨hb0, hne, v, hbv, hown⟩ hB hK
    have hU : upTo most L = L := by
      unfold upTo
      rw [if_neg]
      rintro ⟨h1, h2⟩
      exact hne most.toNat (by omega) (by simp; omega) (by omega)
    rw [vals_all] at hown
    have HU := Lib.hid hU
    clear hU hne
    have hcv := hbv.cell
    gi_wp2
    refine ⟨by simp, .inl ⟨_, _, rfl, run_takeDeferred hK, ?_⟩⟩
    have hown2 := row_keep hown (grownBy_putObj' _ D (.deferred none)) (fun r e => by cases e; exact ⟨_, hK, rfl⟩)
    refine ⟨.tuple #[v, .bool true], ?_, ⟨v, rfl, by rw [HU.out]; exact hown2⟩, below_end (hB0.trans hB) (by omega) hK⟩
    simp [results, Try.f22, go_sem]
  case stop =>
    rintro D c pre W hD hpre ⟨rfl, hm, h1, v, hbv, hown⟩ hB hK
    have hU : upTo most L = vals pre := by
      have hp := vals_prefix hpre
      have hl : (vals pre).length = pre.length := by simp [vals]
      have := hp.length_le
      unfold upTo
      rw [if_pos (by omega)]
      rw [List.prefix_iff_eq_take.1 hp]
      congr 1
      omega
    have HU := Lib.hid hU
    clear hU
    have hcv := hbv.cell
    gi_wp2
    refine ⟨by simp, .inl ⟨_, _, rfl, run_takeDeferred hK, ?_⟩⟩
    have hown2 := row_keep hown (grownBy_putObj' _ D (.deferred none)) (fun r e => by cases e; exact ⟨_, hK, rfl⟩)
    refine ⟨.tuple #[v, .bool true], ?_, ⟨v, rfl, by rw [HU.out]; exact hown2⟩, below_end (hB0.trans hB) (by omega) hK⟩
    simp [results, Try.f22, go_sem]
end It
end Go.Proofs.Ytloabanhoeaidaa
