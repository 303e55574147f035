/-
  items: the walks of each, Meet and Rest.
  items: Meet, Rest, Covers, Minus.
-/
import Derived.Test.YthfpfomifebpbaaSs1

set_option linter.unusedVariables false
set_option linter.unusedSimpArgs false
namespace Go.Proofs.Ythfpfomifebpbaa
open Go.RowKit
namespace It
attribute [local go_sem] Oper.semAt_some

/-- what is made of each item and how many another list has, where it is above 0 -/
def eachL (f : Int → Int → Int) (a b : List Item) : List Item := a.filterMap fun x => if 0 < f x.2 (ofSum x.1 b) then some (x.1, f x.2 (ofSum x.1 b)) else none
theorem eachL_snoc (f : Int → Int → Int) (a b : List Item) (x : Item) : eachL f (a ++ [x]) b = eachL f a b ++ (if 0 < f x.2 (ofSum x.1 b) then [(x.1, f x.2 (ofSum x.1 b))] else []) := by
  unfold eachL
  rw [List.filterMap_append]
  congr 1
  simp only [List.filterMap_cons, List.filterMap_nil]
  split <;> simp_all
theorem eachL_len (f : Int → Int → Int) (a b : List Item) : (eachL f a b).length ≤ a.length := List.length_filterMap_le _ _
def meetF (a b : Int) : Int := min a b
def restF (a b : Int) : Int := wrap64 (a - b)
def both (f : Int → Int → Int) (a b : List Item) : List Item := if may a && may b then eachL f a b else []

set_option maxHeartbeats 400000 in
theorem meet1_calls (a b : Int) (w : World) : Calls Try.prog 111 #[.int .i64 a, .int .i64 b] w fun e w' => e = .returned (.int .i64 (meetF a b)) ∧ w = w' := by
  have H := Lib.hid (show meetF a b = min a b from rfl)
  go_enter Try.func111, Try.ntmps111
  go_wp2
  · have h : b < a := by assumption
    go_ret
    exact ⟨ret1 (num (by rw [H.out]; omega)), rfl⟩
  · have h : a ≤ b := by assumption
    go_ret
    exact ⟨ret1 (num (by rw [H.out]; omega)), rfl⟩
set_option maxHeartbeats 400000 in
theorem rest1_calls (a b : Int) (w : World) : Calls Try.prog 95 #[.int .i64 a, .int .i64 b] w fun e w' => e = .returned (.int .i64 (restF a b)) ∧ w = w' := by
  go_enter Try.func95, Try.ntmps95
  go_wp2
  go_ret
  exact ⟨rfl, rfl⟩

/-- an item's type's row -/
theorem item_info : (Try.prog.info? 41).map (fun i => (i.zero, i.size, i.bytes)) = some (some (.agg #[.string ⟨#[]⟩, .int .i64 0]), 2, 24) := by kernel_rfl

theorem row_below {A B : World} {lo : Nat} {e : TypeId} {size n : Nat} {v : Value} {xs : List Value} (h : A.ownsRow lo e size v n xs) (hb : Below A.heap.size A B) : B.ownsRow lo e size v n xs := by
  refine ⟨h.1, h.2.elim Or.inl fun hx => .inr ?_⟩
  revert hx
  rintro ⟨g, cap, cur, rfl, hbg, hg, hnc⟩
  exact ⟨g, cap, cur, rfl, hbg, (hb.block g (Array.getElem?_eq_some_iff.1 hg).1).trans hg, hnc⟩

set_option maxRecDepth 100000 in
set_option maxHeartbeats 4000000 in
theorem each_meet (a b : List Item) (va vb : Value) (w : World) (ha : ItemsAt w 0 w.heap.size va a) (hb : ItemsAt w 0 w.heap.size vb b) (hFa : Fits a) (hFb : Fits b) :
    Calls Try.prog 94 #[va, vb, .func (.func 111) #[] #[]] w fun e w' =>
      (∃ v, e = .returned v ∧ w'.ownsRow w.heap.size 41 2 v (both meetF a b).length (itemCells (both meetF a b))) ∧ Below w.heap.size w w' := by
  obtain ⟨A, c, rfl, hc1, hc2⟩ := ha.form
  obtain ⟨A', c', rfl, hc1', hc2'⟩ := hb.form
  unfold maxLen at hc2 hc2'
  have cA := Lib.hid (fun W hI => may_calls a (.slice A a.length c) W hI hFa)
  have cB := Lib.hid (fun W hI => may_calls b (.slice A' b.length c') W hI hFb)
  have hBoth := Lib.hid (show both meetF a b = if may a && may b then eachL meetF a b else [] from rfl)
  generalize both meetF a b = R at *
  have hma := Lib.hid (show may a = true → a.length ≤ 16 from fun h => by unfold may at h; simp at h; exact h.2)
  generalize may a = ma at *
  generalize may b = mb at *
  refine (callsIn_wide (n := 6)).1 ?_
  refine callsIn_of_wp_marks Try.func94 rfl trivial ?_ rfl
  simp only [Try.ntmps94, List.size_toArray, List.length_cons, List.length_nil, Nat.reduceAdd, Nat.reduceSub, Array.replicate_succ, Array.replicate_zero, List.push_toArray, List.append_toArray, List.nil_append, List.cons_append]
  gi_wp2_with fail
  refine ⟨trivial, ?_⟩
  have bb : Boxed ((w.alloc (.cells #[.slice A' b.length c'] 22)).alloc (.cells #[.func (.func 111) #[] #[]] 115)) w.heap.size 22 (.slice A' b.length c') := (Boxed.new w _ _).alloc _
  have bf : Boxed ((w.alloc (.cells #[.slice A' b.length c'] 22)).alloc (.cells #[.func (.func 111) #[] #[]] 115)) (w.heap.size + 1) 115 (.func (.func 111) #[] #[]) := by
    have := Boxed.new (w.alloc (.cells #[.slice A' b.length c'] 22)) 115 (.func (.func 111) #[] #[])
    rwa [World.size_alloc] at this
  have hB1 : Below w.heap.size w ((w.alloc (.cells #[.slice A' b.length c'] 22)).alloc (.cells #[.func (.func 111) #[] #[]] 115)) := ((Below.refl _ w).alloc (Nat.le_refl _) _).alloc (by simp) _
  have hs1 : w.heap.size + 2 = ((w.alloc (.cells #[.slice A' b.length c'] 22)).alloc (.cells #[.func (.func 111) #[] #[]] 115)).heap.size := by simp
  generalize ((w.alloc (.cells #[.slice A' b.length c'] 22)).alloc (.cells #[.func (.func 111) #[] #[]] 115)) = w1 at *
  refine (callsIn_wide.2 (cA.out _ (ha.mono hB1 (by omega)))).mono ?_
  rintro e w2 ⟨rfl, h2⟩
  have bb2 := boxed_below bb h2
  have bf2 := boxed_below bf h2
  have hB2 := hB1.trans (h2.mono (by omega))
  have hs2 := h2.size
  have hcb := bb2.cell
  cases ma with
  | false =>
    have HR := Lib.hid (show R = [] by rw [hBoth.out]; rfl)
    gi_wp2_with (refine ⟨trivial, ?_⟩)
    exact ⟨_, results_tmp rfl _ _ _, ⟨_, rfl, by rw [HR.out]; exact World.ownsRow_nil _ _ _ _⟩, hB2⟩
  | true =>
    gi_wp2_with fail
    refine ⟨trivial, ?_⟩
    refine (callsIn_wide.2 (cB.out _ (hb.mono hB2 (by omega)))).mono ?_
    rintro e w3 ⟨rfl, h3⟩
    have bb3 := boxed_below bb2 h3
    have bf3 := boxed_below bf2 h3
    have hB3 := hB2.trans (h3.mono (by omega))
    have hs3 := h3.size
    clear hcb
    cases mb with
    | false =>
      have HR := Lib.hid (show R = [] by rw [hBoth.out]; rfl)
      gi_wp2_with (refine ⟨trivial, ?_⟩)
      exact ⟨_, results_tmp rfl _ _ _, ⟨_, rfl, by rw [HR.out]; exact World.ownsRow_nil _ _ _ _⟩, hB3⟩
    | true =>
      have HR := Lib.hid (show R = eachL meetF a b by rw [hBoth.out]; rfl)
      have hlen := hma.out trivial
      gi_wp2_with (refine ⟨trivial, ?_⟩; gi_at_call 67; refine (callsIn_wide.2 (all_calls A _ c _)).mono ?_; rintro e w' ⟨rfl, rfl⟩)
      have b4 : Boxed ((w3.alloc (.cells #[.slice none 0 0] 22)).alloc (.cells #[.slice A a.length c] 22)) w3.heap.size 22 (.slice none 0 0) := (Boxed.new w3 _ _).alloc _
      have bl4 : Boxed ((w3.alloc (.cells #[.slice none 0 0] 22)).alloc (.cells #[.slice A a.length c] 22)) (w3.heap.size + 1) 22 (.slice A a.length c) := by
        have := Boxed.new (w3.alloc (.cells #[.slice none 0 0] 22)) 22 (.slice A a.length c)
        rwa [World.size_alloc] at this
      have bb4 : Boxed ((w3.alloc (.cells #[.slice none 0 0] 22)).alloc (.cells #[.slice A a.length c] 22)) w.heap.size 22 (.slice A' b.length c') := (bb3.alloc _).alloc _
      have bf4 : Boxed ((w3.alloc (.cells #[.slice none 0 0] 22)).alloc (.cells #[.slice A a.length c] 22)) (w.heap.size + 1) 115 (.func (.func 111) #[] #[]) := (bf3.alloc _).alloc _
      have hB4 : Below w.heap.size w ((w3.alloc (.cells #[.slice none 0 0] 22)).alloc (.cells #[.slice A a.length c] 22)) := (hB3.alloc (by omega) _).alloc (by simp; omega) _
      have hs4 : w3.heap.size + 2 = ((w3.alloc (.cells #[.slice none 0 0] 22)).alloc (.cells #[.slice A a.length c] 22)).heap.size := by simp
      generalize ((w3.alloc (.cells #[.slice none 0 0] 22)).alloc (.cells #[.slice A a.length c] 22)) = w4 at *
      refine range_all (n := 6) rfl trivial (by omega) (Bs := w3.heap.size + 1) (n₀ := w.heap.size) (v := .slice A a.length c) (L := a) rfl rfl (by omega) (by omega) bl4.cell ((ha.mono hB4 (Nat.le_refl _)))
        (fun pre W => Boxed W w.heap.size 22 (.slice A' b.length c') ∧ Boxed W (w.heap.size + 1) 115 (.func (.func 111) #[] #[]) ∧
          ∃ v, Boxed W w3.heap.size 22 v ∧ W.ownsRow w.heap.size 41 2 v (eachL meetF (vals pre) b).length (itemCells (eachL meetF (vals pre) b)))
        (fun _ _ _ => False)
        (fun s A B row hs hg hr => ⟨boxed_keep hs.1 hg (fun r e => (hr r e).2), boxed_keep hs.2.1 hg (fun r e => (hr r e).2), by
          obtain ⟨v, h1, h2⟩ := hs.2.2
          exact ⟨v, boxed_keep h1 hg (fun r e => (hr r e).2), row_keep h2 hg (fun r e => (hr r e).2)⟩⟩)
        (fun c s A B row hs hg hr => hs)
        ⟨bb4, bf4, _, b4, World.ownsRow_nil _ _ _ _⟩
        (fun x => { tmps := #[.slice A a.length c, .slice A' b.length c', .func (.func 111) #[] #[], undef, .pointer (some ⟨w.heap.size, 0, none⟩), .pointer (some ⟨w.heap.size + 1, 0, none⟩), .slice none 0 0, .pointer (some ⟨w3.heap.size, 0, none⟩), .string x.1.1, .int .i64 x.1.2, undef, .slice A a.length c, .bool true, .bool false, .bool false, .slice A' b.length c', .bool true, .bool false, .bool false, .slice A a.length c, .func (.func 87) #[] #[.pointer (some ⟨w3.heap.size + 1, 0, none⟩)], .string x.1.1, .int .i64 x.1.2, undef, undef, undef, undef, undef, undef, undef, undef, undef, undef, undef, undef, undef, undef, undef], defers := [] }) ?assign ?body ?done ?stop
      case assign =>
        intro l x W K hK
        dsimp only [enc2]
        gi_wp2
        exact hK
      case body =>
        rintro l pre ⟨⟨xs, xn⟩, hx⟩ W ⟨hbb, hbf, v, hbv, hown⟩ hB hsz hlen'
        have hS := Lib.hid (show eachL meetF (vals (pre ++ [⟨(xs, xn), hx⟩])) b = eachL meetF (vals pre) b ++ (if 0 < meetF xn (ofSum xs b) then [(xs, meetF xn (ofSum xs b))] else []) by rw [vals_snoc, eachL_snoc])
        have hPL := Lib.hid (show (eachL meetF (vals pre) b).length ≤ 16 from Nat.le_trans (eachL_len _ _ _) (by simp [vals]; omega))
        have hbW : ItemsAt W.drew 0 W.drew.heap.size (.slice A' b.length c') b := ((hb.below (hB4.trans hB)).wide (B' := W.heap.size) (Nat.le_refl _) (by omega)).mono ((Below.refl _ W).drew) (Nat.le_refl _)
        have hcb := hbb.cell
        have hcf := hbf.cell
        have hmx : Try.prog.follows .mixedOrders = true := by kernel_rfl
        have cO := Lib.hid (fun W hI => of_calls b xs (.slice A' b.length c') W hI)
        dsimp only
        generalize ofSum xs b = o at *
        have cM := Lib.hid (fun W => meet1_calls xn o W)
        generalize meetF xn o = m at *
        generalize eachL meetF (vals pre) b = S at *
        gi_wp2
        refine Pu.region_puts (fun W' => Below W.drew.heap.size W.drew W') [(23, .func (.func 111) #[] #[]), (24, .int .i64 xn), (25, .slice A' b.length c'), (26, .string xs), (27, .int .i64 o), (28, .int .i64 m), (10, .int .i64 m)] hmx (by kernel_rfl) (by kernel_rfl) (Below.refl _ _) ?_ ?_
        all_goals simp only [Pu.puts, Act.put, List.setIfInBounds_toArray, List.set_cons_succ, List.set_cons_zero]
        · repeat' refine Pu.Go.cons (fun W1 h1 => ?_) ?_
          all_goals try exact Pu.Go.nil
          all_goals have hcb1 := (boxed_below (show Boxed W.drew _ _ _ from hbb) h1).cell
          all_goals have hcf1 := (boxed_below (show Boxed W.drew _ _ _ from hbf) h1).cell
          all_goals gi_wp2_with (first
            | (refine ⟨trivial, ?_⟩; gi_at_call 109; refine (CallsIn.inRound l (callsIn_wide.2 (cO.out _ (hbW.mono h1 h1.size)))).mono ?_; rintro e W2 ⟨rfl, h2⟩)
            | (refine ⟨trivial, ?_⟩; gi_at_call 111; refine (CallsIn.inRound l (callsIn_wide.2 (cM.out _))).mono ?_; rintro e W2 ⟨rfl, rfl⟩))
          all_goals first
            | exact h1
            | exact (show Below W.drew.heap.size W.drew W1 from h1).trans (h2.mono h1.size)
        · intro W1 h1
          have hbb1 := boxed_below (show Boxed W.drew _ _ _ from hbb) h1
          have hbf1 := boxed_below (show Boxed W.drew _ _ _ from hbf) h1
          have hbv1 := boxed_below (show Boxed W.drew _ _ _ from hbv) h1
          have hown1 : W1.ownsRow w.heap.size 41 2 v S.length (itemCells S) := row_below (show W.drew.ownsRow _ _ _ _ _ _ from hown) h1
          have hcv1 := hbv1.cell
          have hfv1 := hbv1.frozen
          have hB1 : Below w.heap.size W W1 := ((Below.refl w.heap.size W).drew).trans (h1.mono (show w.heap.size ≤ W.heap.size by omega))
          clear hbW hcb hcf
          by_cases hm : 0 < m
          · have hd : decide (0 < m) = true := by simpa using hm
            have hS2 := Lib.hid (show eachL meetF (vals (pre ++ [⟨(xs, xn), hx⟩])) b = S ++ [(xs, m)] by rw [hS.out, if_pos hm])
            clear hS
            obtain ⟨i0, hi0, hz0⟩ := Option.map_eq_some_iff.1 item_info
            simp only [Prod.mk.injEq] at hz0
            obtain ⟨hz0, hz1, hz2⟩ := hz0
            gi_wp2_with (gi_at_builtin
                         refine wpListIn_append_sl _ rfl (.tmp 31) (.tmp 35) _ rfl w.heap.size 41 i0 _ 2 24 Try.underlying22 hi0 hz0 hz1 hz2 rfl (by omega) v S.length (itemCells S) rfl (hown1.alloc _) W1.heap.size (W1.heap.size + 1) _ 1 [.string xs, .int .i64 m] rfl (Sl.new W1 #[.string xs, .int .i64 m] 41 (n := 1) rfl (by unfold maxLen; omega)) (by simp [Value.oneCell']) (by have := hPL.out; unfold maxLen; omega) (by have := hPL.out; omega) (by have := hB1.size; simp; omega) ?_
                         intro v1 W2 hv1 hg1 hat1
                         obtain ⟨k1, k2, k3, k4, k5⟩ := hbv1.appended (by decide) hown1 (by have := hB1.size; omega) (by omega) hv1 hg1
                         obtain ⟨g, cap, rfl⟩ := ownsRow_succ hv1
                         have hcv2 := k1.cell
                         have hfv2 := k1.frozen)
            refine ⟨(show KeepsFrom w4.heap.size W W1 from ⟨hB1.size, fun k _ _ hk _ => (h1.block k (Array.getElem?_eq_some_iff.1 hk).1).trans hk⟩).trans (k4.from _), hB1.trans k5, ?_⟩
            have n1 := hbb1.not_row (show 22 ≠ 41 by decide) hown1
            have n2 := hbf1.not_row (show 115 ≠ 41 by decide) hown1
            have hv2 : (W2.setCell ⟨w3.heap.size, 0, none⟩ (.slice (some ⟨g, 0, none⟩) (S.length + 1) cap)).ownsRow w.heap.size 41 2 (.slice (some ⟨g, 0, none⟩) (S.length + 1) cap) (S ++ [(xs, m)]).length (itemCells (S ++ [(xs, m)])) := by
              rw [itemCells_append, List.length_append]; exact k3
            dsimp only
            rw [hS2.out]
            exact ⟨((hbb1.alloc _).kept hg1 n1).other (by omega) _, ((hbf1.alloc _).kept hg1 n2).other (by omega) _, _, k2, hv2⟩
          · have hd : decide (0 < m) = false := by simpa using hm
            have hS2 := Lib.hid (show eachL meetF (vals (pre ++ [⟨(xs, xn), hx⟩])) b = S by rw [hS.out, if_neg hm, List.append_nil])
            clear hS
            gi_wp2
            refine ⟨?_, hB1, ?_⟩
            · exact ⟨hB1.size, fun k _ _ hk _ => (h1.block k (Array.getElem?_eq_some_iff.1 hk).1).trans hk⟩
            · dsimp only
              rw [hS2.out]
              exact ⟨hbb1, hbf1, v, hbv1, hown1⟩
      case done =>
        rintro D W hD ⟨hbb, hbf, v, hbv, hown⟩ hB hK
        rw [vals_all] at hown
        have hc0 := hbv.cell
        gi_wp2
        refine ⟨by simp, .inl ⟨_, _, rfl, run_takeDeferred hK, ?_⟩⟩
        refine ⟨_, results_tmp rfl _ _ _, ⟨v, rfl, ?_⟩, below_end (hB4.trans hB) (by omega) hK⟩
        rw [HR.out]
        exact row_keep hown (grownBy_putObj' _ D (.deferred none)) (fun r e => by cases e; exact ⟨_, hK, rfl⟩)
      case stop =>
        rintro D c pre W hD hpre h hB hK
        exact h.elim

set_option maxRecDepth 100000 in
set_option maxHeartbeats 4000000 in
theorem each_rest (a b : List Item) (va vb : Value) (w : World) (ha : ItemsAt w 0 w.heap.size va a) (hb : ItemsAt w 0 w.heap.size vb b) (hFa : Fits a) (hFb : Fits b) :
    Calls Try.prog 94 #[va, vb, .func (.func 95) #[] #[]] w fun e w' =>
      (∃ v, e = .returned v ∧ w'.ownsRow w.heap.size 41 2 v (both restF a b).length (itemCells (both restF a b))) ∧ Below w.heap.size w w' := by
  obtain ⟨A, c, rfl, hc1, hc2⟩ := ha.form
  obtain ⟨A', c', rfl, hc1', hc2'⟩ := hb.form
  unfold maxLen at hc2 hc2'
  have cA := Lib.hid (fun W hI => may_calls a (.slice A a.length c) W hI hFa)
  have cB := Lib.hid (fun W hI => may_calls b (.slice A' b.length c') W hI hFb)
  have hBoth := Lib.hid (show both restF a b = if may a && may b then eachL restF a b else [] from rfl)
  generalize both restF a b = R at *
  have hma := Lib.hid (show may a = true → a.length ≤ 16 from fun h => by unfold may at h; simp at h; exact h.2)
  generalize may a = ma at *
  generalize may b = mb at *
  refine (callsIn_wide (n := 6)).1 ?_
  refine callsIn_of_wp_marks Try.func94 rfl trivial ?_ rfl
  simp only [Try.ntmps94, List.size_toArray, List.length_cons, List.length_nil, Nat.reduceAdd, Nat.reduceSub, Array.replicate_succ, Array.replicate_zero, List.push_toArray, List.append_toArray, List.nil_append, List.cons_append]
  gi_wp2_with fail
  refine ⟨trivial, ?_⟩
  have bb : Boxed ((w.alloc (.cells #[.slice A' b.length c'] 22)).alloc (.cells #[.func (.func 95) #[] #[]] 115)) w.heap.size 22 (.slice A' b.length c') := (Boxed.new w _ _).alloc _
  have bf : Boxed ((w.alloc (.cells #[.slice A' b.length c'] 22)).alloc (.cells #[.func (.func 95) #[] #[]] 115)) (w.heap.size + 1) 115 (.func (.func 95) #[] #[]) := by
    have := Boxed.new (w.alloc (.cells #[.slice A' b.length c'] 22)) 115 (.func (.func 95) #[] #[])
    rwa [World.size_alloc] at this
  have hB1 : Below w.heap.size w ((w.alloc (.cells #[.slice A' b.length c'] 22)).alloc (.cells #[.func (.func 95) #[] #[]] 115)) := ((Below.refl _ w).alloc (Nat.le_refl _) _).alloc (by simp) _
  have hs1 : w.heap.size + 2 = ((w.alloc (.cells #[.slice A' b.length c'] 22)).alloc (.cells #[.func (.func 95) #[] #[]] 115)).heap.size := by simp
  generalize ((w.alloc (.cells #[.slice A' b.length c'] 22)).alloc (.cells #[.func (.func 95) #[] #[]] 115)) = w1 at *
  refine (callsIn_wide.2 (cA.out _ (ha.mono hB1 (by omega)))).mono ?_
  rintro e w2 ⟨rfl, h2⟩
  have bb2 := boxed_below bb h2
  have bf2 := boxed_below bf h2
  have hB2 := hB1.trans (h2.mono (by omega))
  have hs2 := h2.size
  have hcb := bb2.cell
  cases ma with
  | false =>
    have HR := Lib.hid (show R = [] by rw [hBoth.out]; rfl)
    gi_wp2_with (refine ⟨trivial, ?_⟩)
    exact ⟨_, results_tmp rfl _ _ _, ⟨_, rfl, by rw [HR.out]; exact World.ownsRow_nil _ _ _ _⟩, hB2⟩
  | true =>
    gi_wp2_with fail
    refine ⟨trivial, ?_⟩
    refine (callsIn_wide.2 (cB.out _ (hb.mono hB2 (by omega)))).mono ?_
    rintro e w3 ⟨rfl, h3⟩
    have bb3 := boxed_below bb2 h3
    have bf3 := boxed_below bf2 h3
    have hB3 := hB2.trans (h3.mono (by omega))
    have hs3 := h3.size
    clear hcb
    cases mb with
    | false =>
      have HR := Lib.hid (show R = [] by rw [hBoth.out]; rfl)
      gi_wp2_with (refine ⟨trivial, ?_⟩)
      exact ⟨_, results_tmp rfl _ _ _, ⟨_, rfl, by rw [HR.out]; exact World.ownsRow_nil _ _ _ _⟩, hB3⟩
    | true =>
      have HR := Lib.hid (show R = eachL restF a b by rw [hBoth.out]; rfl)
      have hlen := hma.out trivial
      gi_wp2_with (refine ⟨trivial, ?_⟩; gi_at_call 67; refine (callsIn_wide.2 (all_calls A _ c _)).mono ?_; rintro e w' ⟨rfl, rfl⟩)
      have b4 : Boxed ((w3.alloc (.cells #[.slice none 0 0] 22)).alloc (.cells #[.slice A a.length c] 22)) w3.heap.size 22 (.slice none 0 0) := (Boxed.new w3 _ _).alloc _
      have bl4 : Boxed ((w3.alloc (.cells #[.slice none 0 0] 22)).alloc (.cells #[.slice A a.length c] 22)) (w3.heap.size + 1) 22 (.slice A a.length c) := by
        have := Boxed.new (w3.alloc (.cells #[.slice none 0 0] 22)) 22 (.slice A a.length c)
        rwa [World.size_alloc] at this
      have bb4 : Boxed ((w3.alloc (.cells #[.slice none 0 0] 22)).alloc (.cells #[.slice A a.length c] 22)) w.heap.size 22 (.slice A' b.length c') := (bb3.alloc _).alloc _
      have bf4 : Boxed ((w3.alloc (.cells #[.slice none 0 0] 22)).alloc (.cells #[.slice A a.length c] 22)) (w.heap.size + 1) 115 (.func (.func 95) #[] #[]) := (bf3.alloc _).alloc _
      have hB4 : Below w.heap.size w ((w3.alloc (.cells #[.slice none 0 0] 22)).alloc (.cells #[.slice A a.length c] 22)) := (hB3.alloc (by omega) _).alloc (by simp; omega) _
      have hs4 : w3.heap.size + 2 = ((w3.alloc (.cells #[.slice none 0 0] 22)).alloc (.cells #[.slice A a.length c] 22)).heap.size := by simp
      generalize ((w3.alloc (.cells #[.slice none 0 0] 22)).alloc (.cells #[.slice A a.length c] 22)) = w4 at *
      refine range_all (n := 6) rfl trivial (by omega) (Bs := w3.heap.size + 1) (n₀ := w.heap.size) (v := .slice A a.length c) (L := a) rfl rfl (by omega) (by omega) bl4.cell ((ha.mono hB4 (Nat.le_refl _)))
        (fun pre W => Boxed W w.heap.size 22 (.slice A' b.length c') ∧ Boxed W (w.heap.size + 1) 115 (.func (.func 95) #[] #[]) ∧
          ∃ v, Boxed W w3.heap.size 22 v ∧ W.ownsRow w.heap.size 41 2 v (eachL restF (vals pre) b).length (itemCells (eachL restF (vals pre) b)))
        (fun _ _ _ => False)
        (fun s A B row hs hg hr => ⟨boxed_keep hs.1 hg (fun r e => (hr r e).2), boxed_keep hs.2.1 hg (fun r e => (hr r e).2), by
          obtain ⟨v, h1, h2⟩ := hs.2.2
          exact ⟨v, boxed_keep h1 hg (fun r e => (hr r e).2), row_keep h2 hg (fun r e => (hr r e).2)⟩⟩)
        (fun c s A B row hs hg hr => hs)
        ⟨bb4, bf4, _, b4, World.ownsRow_nil _ _ _ _⟩
        (fun x => { tmps := #[.slice A a.length c, .slice A' b.length c', .func (.func 95) #[] #[], undef, .pointer (some ⟨w.heap.size, 0, none⟩), .pointer (some ⟨w.heap.size + 1, 0, none⟩), .slice none 0 0, .pointer (some ⟨w3.heap.size, 0, none⟩), .string x.1.1, .int .i64 x.1.2, undef, .slice A a.length c, .bool true, .bool false, .bool false, .slice A' b.length c', .bool true, .bool false, .bool false, .slice A a.length c, .func (.func 87) #[] #[.pointer (some ⟨w3.heap.size + 1, 0, none⟩)], .string x.1.1, .int .i64 x.1.2, undef, undef, undef, undef, undef, undef, undef, undef, undef, undef, undef, undef, undef, undef, undef], defers := [] }) ?assign ?body ?done ?stop
      case assign =>
        intro l x W K hK
        dsimp only [enc2]
        gi_wp2
        exact hK
      case body =>
        rintro l pre ⟨⟨xs, xn⟩, hx⟩ W ⟨hbb, hbf, v, hbv, hown⟩ hB hsz hlen'
        have hS := Lib.hid (show eachL restF (vals (pre ++ [⟨(xs, xn), hx⟩])) b = eachL restF (vals pre) b ++ (if 0 < restF xn (ofSum xs b) then [(xs, restF xn (ofSum xs b))] else []) by rw [vals_snoc, eachL_snoc])
        have hPL := Lib.hid (show (eachL restF (vals pre) b).length ≤ 16 from Nat.le_trans (eachL_len _ _ _) (by simp [vals]; omega))
        have hbW : ItemsAt W.drew 0 W.drew.heap.size (.slice A' b.length c') b := ((hb.below (hB4.trans hB)).wide (B' := W.heap.size) (Nat.le_refl _) (by omega)).mono ((Below.refl _ W).drew) (Nat.le_refl _)
        have hcb := hbb.cell
        have hcf := hbf.cell
        have hmx : Try.prog.follows .mixedOrders = true := by kernel_rfl
        have cO := Lib.hid (fun W hI => of_calls b xs (.slice A' b.length c') W hI)
        dsimp only
        generalize ofSum xs b = o at *
        have cM := Lib.hid (fun W => rest1_calls xn o W)
        generalize restF xn o = m at *
        generalize eachL restF (vals pre) b = S at *
        gi_wp2
        refine Pu.region_puts (fun W' => Below W.drew.heap.size W.drew W') [(23, .func (.func 95) #[] #[]), (24, .int .i64 xn), (25, .slice A' b.length c'), (26, .string xs), (27, .int .i64 o), (28, .int .i64 m), (10, .int .i64 m)] hmx (by kernel_rfl) (by kernel_rfl) (Below.refl _ _) ?_ ?_
        all_goals simp only [Pu.puts, Act.put, List.setIfInBounds_toArray, List.set_cons_succ, List.set_cons_zero]
        · repeat' refine Pu.Go.cons (fun W1 h1 => ?_) ?_
          all_goals try exact Pu.Go.nil
          all_goals have hcb1 := (boxed_below (show Boxed W.drew _ _ _ from hbb) h1).cell
          all_goals have hcf1 := (boxed_below (show Boxed W.drew _ _ _ from hbf) h1).cell
          all_goals gi_wp2_with (first
            | (refine ⟨trivial, ?_⟩; gi_at_call 109; refine (CallsIn.inRound l (callsIn_wide.2 (cO.out _ (hbW.mono h1 h1.size)))).mono ?_; rintro e W2 ⟨rfl, h2⟩)
            | (refine ⟨trivial, ?_⟩; gi_at_call 95; refine (CallsIn.inRound l (callsIn_wide.2 (cM.out _))).mono ?_; rintro e W2 ⟨rfl, rfl⟩))
          all_goals first
            | exact h1
            | exact (show Below W.drew.heap.size W.drew W1 from h1).trans (h2.mono h1.size)
        · intro W1 h1
          have hbb1 := boxed_below (show Boxed W.drew _ _ _ from hbb) h1
          have hbf1 := boxed_below (show Boxed W.drew _ _ _ from hbf) h1
          have hbv1 := boxed_below (show Boxed W.drew _ _ _ from hbv) h1
          have hown1 : W1.ownsRow w.heap.size 41 2 v S.length (itemCells S) := row_below (show W.drew.ownsRow _ _ _ _ _ _ from hown) h1
          have hcv1 := hbv1.cell
          have hfv1 := hbv1.frozen
          have hB1 : Below w.heap.size W W1 := ((Below.refl w.heap.size W).drew).trans (h1.mono (show w.heap.size ≤ W.heap.size by omega))
          clear hbW hcb hcf
          by_cases hm : 0 < m
          · have hd : decide (0 < m) = true := by simpa using hm
            have hS2 := Lib.hid (show eachL restF (vals (pre ++ [⟨(xs, xn), hx⟩])) b = S ++ [(xs, m)] by rw [hS.out, if_pos hm])
            clear hS
            obtain ⟨i0, hi0, hz0⟩ := Option.map_eq_some_iff.1 item_info
            simp only [Prod.mk.injEq] at hz0
            obtain ⟨hz0, hz1, hz2⟩ := hz0
            gi_wp2_with (gi_at_builtin
                         refine wpListIn_append_sl _ rfl (.tmp 31) (.tmp 35) _ rfl w.heap.size 41 i0 _ 2 24 Try.underlying22 hi0 hz0 hz1 hz2 rfl (by omega) v S.length (itemCells S) rfl (hown1.alloc _) W1.heap.size (W1.heap.size + 1) _ 1 [.string xs, .int .i64 m] rfl (Sl.new W1 #[.string xs, .int .i64 m] 41 (n := 1) rfl (by unfold maxLen; omega)) (by simp [Value.oneCell']) (by have := hPL.out; unfold maxLen; omega) (by have := hPL.out; omega) (by have := hB1.size; simp; omega) ?_
                         intro v1 W2 hv1 hg1 hat1
                         obtain ⟨k1, k2, k3, k4, k5⟩ := hbv1.appended (by decide) hown1 (by have := hB1.size; omega) (by omega) hv1 hg1
                         obtain ⟨g, cap, rfl⟩ := ownsRow_succ hv1
                         have hcv2 := k1.cell
                         have hfv2 := k1.frozen)
            refine ⟨(show KeepsFrom w4.heap.size W W1 from ⟨hB1.size, fun k _ _ hk _ => (h1.block k (Array.getElem?_eq_some_iff.1 hk).1).trans hk⟩).trans (k4.from _), hB1.trans k5, ?_⟩
            have n1 := hbb1.not_row (show 22 ≠ 41 by decide) hown1
            have n2 := hbf1.not_row (show 115 ≠ 41 by decide) hown1
            have hv2 : (W2.setCell ⟨w3.heap.size, 0, none⟩ (.slice (some ⟨g, 0, none⟩) (S.length + 1) cap)).ownsRow w.heap.size 41 2 (.slice (some ⟨g, 0, none⟩) (S.length + 1) cap) (S ++ [(xs, m)]).length (itemCells (S ++ [(xs, m)])) := by
              rw [itemCells_append, List.length_append]; exact k3
            dsimp only
            rw [hS2.out]
            exact ⟨((hbb1.alloc _).kept hg1 n1).other (by omega) _, ((hbf1.alloc _).kept hg1 n2).other (by omega) _, _, k2, hv2⟩
          · have hd : decide (0 < m) = false := by simpa using hm
            have hS2 := Lib.hid (show eachL restF (vals (pre ++ [⟨(xs, xn), hx⟩])) b = S by rw [hS.out, if_neg hm, List.append_nil])
            clear hS
            gi_wp2
            refine ⟨?_, hB1, ?_⟩
            · exact ⟨hB1.size, fun k _ _ hk _ => (h1.block k (Array.getElem?_eq_some_iff.1 hk).1).trans hk⟩
            · dsimp only
              rw [hS2.out]
              exact ⟨hbb1, hbf1, v, hbv1, hown1⟩
      case done =>
        rintro D W hD ⟨hbb, hbf, v, hbv, hown⟩ hB hK
        rw [vals_all] at hown
        have hc0 := hbv.cell
        gi_wp2
        refine ⟨by simp, .inl ⟨_, _, rfl, run_takeDeferred hK, ?_⟩⟩
        refine ⟨_, results_tmp rfl _ _ _, ⟨v, rfl, ?_⟩, below_end (hB4.trans hB) (by omega) hK⟩
        rw [HR.out]
        exact row_keep hown (grownBy_putObj' _ D (.deferred none)) (fun r e => by cases e; exact ⟨_, hK, rfl⟩)
      case stop =>
        rintro D c pre W hD hpre h hB hK
        exact h.elim
end It
end Go.Proofs.Ythfpfomifebpbaa

namespace Go.Proofs.Ythfpfomifebpbaa
open Go.RowKit
namespace It

theorem ownsRow_wide {w : World} {lo lo' : Nat} {e : TypeId} {size n : Nat} {v : Value} {xs : List Value} (h : w.ownsRow lo e size v n xs) (hl : lo' ≤ lo) : w.ownsRow lo' e size v n xs := by
  refine ⟨h.1, h.2.elim Or.inl fun hx => .inr ?_⟩
  revert hx
  rintro ⟨g, cap, cur, rfl, hbg, hg⟩
  exact ⟨g, cap, cur, rfl, Nat.le_trans hl hbg, hg⟩

set_option maxHeartbeats 400000 in
theorem meet_calls (a b : List Item) (va vb : Value) (w : World) (ha : ItemsAt w 0 w.heap.size va a) (hb : ItemsAt w 0 w.heap.size vb b) (hFa : Fits a) (hFb : Fits b) :
    Calls Try.prog 97 #[va, vb] w fun e w' =>
      (∃ v, e = .returned v ∧ w'.ownsRow w.heap.size 41 2 v (both meetF a b).length (itemCells (both meetF a b))) ∧ Below w.heap.size w w' := by
  have cE := Lib.hid (each_meet a b va vb w ha hb hFa hFb)
  obtain ⟨A, c, rfl, -⟩ := ha.form
  obtain ⟨A', c', rfl, -⟩ := hb.form
  generalize both meetF a b = R at *
  go_enter Try.func97, Try.ntmps97
  go_wp2_with fail
  refine cE.out.mono ?_
  rintro e w1 ⟨⟨v, rfl, h1⟩, h2⟩
  obtain ⟨A1, c1, rfl, -⟩ := (ItemsAt.of_own h1).form
  go_wp2
  go_ret
  exact ⟨⟨_, rfl, h1⟩, h2⟩

set_option maxHeartbeats 400000 in
theorem rest_calls (a b : List Item) (va vb : Value) (w : World) (ha : ItemsAt w 0 w.heap.size va a) (hb : ItemsAt w 0 w.heap.size vb b) (hFa : Fits a) (hFb : Fits b) :
    Calls Try.prog 79 #[va, vb] w fun e w' =>
      (∃ v, e = .returned v ∧ w'.ownsRow w.heap.size 41 2 v (both restF a b).length (itemCells (both restF a b))) ∧ Below w.heap.size w w' := by
  have cE := Lib.hid (each_rest a b va vb w ha hb hFa hFb)
  obtain ⟨A, c, rfl, -⟩ := ha.form
  obtain ⟨A', c', rfl, -⟩ := hb.form
  generalize both restF a b = R at *
  go_enter Try.func79, Try.ntmps79
  go_wp2_with fail
  refine cE.out.mono ?_
  rintro e w1 ⟨⟨v, rfl, h1⟩, h2⟩
  obtain ⟨A1, c1, rfl, -⟩ := (ItemsAt.of_own h1).form
  go_wp2
  go_ret
  exact ⟨⟨_, rfl, h1⟩, h2⟩

/-- a has at least what b has -/
def covers (a b : List Item) : Bool := may a && may b && ((both restF b a).length == 0)

set_option maxRecDepth 100000 in
set_option maxHeartbeats 1000000 in
theorem covers_calls (a b : List Item) (va vb : Value) (w : World) (ha : ItemsAt w 0 w.heap.size va a) (hb : ItemsAt w 0 w.heap.size vb b) (hFa : Fits a) (hFb : Fits b) :
    Calls Try.prog 78 #[va, vb] w fun e w' => e = .returned (.bool (covers a b)) ∧ Below w.heap.size w w' := by
  have cA := Lib.hid (fun W hI => may_calls a va W hI hFa)
  have cB := Lib.hid (fun W hI => may_calls b vb W hI hFb)
  have cR := Lib.hid (fun W hI hJ => rest_calls b a vb va W hI hJ hFb hFa)
  have HC := Lib.hid (show covers a b = (may a && may b && ((both restF b a).length == 0)) from rfl)
  obtain ⟨A, c, rfl, hc1, hc2⟩ := ha.form
  obtain ⟨A', c', rfl, hc1', hc2'⟩ := hb.form
  generalize covers a b = C at *
  generalize both restF b a = R at *
  generalize may a = ma at *
  generalize may b = mb at *
  go_enter Try.func78, Try.ntmps78
  go_wp2_with fail
  refine (cA.out _ ha).mono ?_
  rintro e w1 ⟨rfl, h1⟩
  have hb1 := hb.mono h1 h1.size
  have ha1 := ha.mono h1 h1.size
  cases ma with
  | false =>
    have HC2 := Lib.hid (show C = false by rw [HC.out]; rfl)
    go_wp2_with fail
    go_ret
    exact ⟨ret1 (boo HC2.out.symm), h1⟩
  | true =>
    go_wp2_with fail
    refine (cB.out _ hb1).mono ?_
    rintro e w2 ⟨rfl, h2⟩
    have hb2 := hb1.mono h2 h2.size
    have ha2 := ha1.mono h2 h2.size
    have hB2 := h1.trans (h2.mono h1.size)
    cases mb with
    | false =>
      have HC2 := Lib.hid (show C = false by rw [HC.out]; rfl)
      go_wp2_with fail
      go_ret
      exact ⟨ret1 (boo HC2.out.symm), hB2⟩
    | true =>
      go_wp2_with fail
      refine (cR.out _ hb2 ha2).mono ?_
      rintro e w3 ⟨⟨v, rfl, hv⟩, h3⟩
      have hB3 := hB2.trans (h3.mono hB2.size)
      obtain ⟨A1, c1, rfl, -⟩ := (ItemsAt.of_own hv).form
      have HC2 := Lib.hid (show C = ((R.length : Int) == 0) by rw [HC.out, Bool.eq_iff_iff]; simp [Int.natCast_eq_zero])
      go_wp2
      go_ret
      exact ⟨ret1 (boo (by rw [HC2.out])), hB3⟩

/-- the rest, and why not -/
def minusOf (a b : List Item) : List Item × Int := if may a && may b then if covers a b then (both restF a b, 0) else ([], 51) else ([], 60)

end It
end Go.Proofs.Ythfpfomifebpbaa
