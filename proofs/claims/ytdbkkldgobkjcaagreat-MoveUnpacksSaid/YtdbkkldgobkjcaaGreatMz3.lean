/-
  items: the walks of each, Meet and Rest.
  items: Meet, Rest, Covers, Minus.
  count.Add.
  words for maps that the program keeps: a block reads as a list of keys and values, in the keys' order.
  items: what sums makes of a list, in plain words.
  items: the walk of sums.
  items: lists in order of their goods, in plain words.
  slices.Sorted(maps.Keys(m)): the keys of a map with string keys, sorted, by the library's contracts.
  items: the walk of Norm.
-/
import Derived.Test.YtdbkkldgobkjcaaGreatMz2
import Derived.Test.YtdbkkldgobkjcaaGreatMz1
import Derived.Maps.OwnOps
import Derived.Maps.OwnSet
import Derived.Maps.Ext
import Derived.Maps.OwnIn
import Derived.StringKeys
import Derived.Carry
import Derived.Test.YtdbkkldgobkjcaaGreatLayed

set_option linter.unusedVariables false
set_option linter.unusedSimpArgs false
namespace Go.Proofs.YtdbkkldgobkjcaaGreat
open Go.RowKit
namespace It
attribute [local go_sem] Oper.semAt_some

/-- what is made of each item and how many another list has, where it is above 0 -/
def eachL (f : Int → Int → Int) (a b : List Item) : List Item := a.filterMap fun x => if 0 < f x.2 (ofSum x.1 b) then some (x.1, f x.2 (ofSum x.1 b)) else none
theorem eachL_snoc (f : Int → Int → Int) (a b : List Item) (x : Item) : eachL f (a ++ [x]) b = eachL f a b ++ (if 0 < f x.2 (ofSum x.1 b) then [(x.1, f x.2 (ofSum x.1 b))] else []) := by
  unfold eachL
  rw [List.filterMap_append]
  congr 1
  simp only [List.filterMap_cons, List.filterMap_nil]
  split <;> simp_all
theorem eachL_len (f : Int → Int → Int) (a b : List Item) : (eachL f a b).length ≤ a.length := List.length_filterMap_le _ _
def meetF (a b : Int) : Int := min a b
def restF (a b : Int) : Int := wrap64 (a - b)
def both (f : Int → Int → Int) (a b : List Item) : List Item := if may a && may b then eachL f a b else []

set_option maxHeartbeats 400000 in
theorem rest1_calls (a b : Int) (w : World) : Calls Tryz.prog 95 #[.int .i64 a, .int .i64 b] w fun e w' => e = .returned (.int .i64 (restF a b)) ∧ w = w' := by
  go_enter Tryz.func95, Tryz.ntmps95
  go_wp2
  go_ret
  exact ⟨rfl, rfl⟩

/-- an item's type's row -/
theorem item_info : (Tryz.prog.info? 37).map (fun i => (i.zero, i.size, i.bytes)) = some (some (.agg #[.string ⟨#[]⟩, .int .i64 0]), 2, 24) := by kernel_rfl

theorem row_below {A B : World} {lo : Nat} {e : TypeId} {size n : Nat} {v : Value} {xs : List Value} (h : A.ownsRow lo e size v n xs) (hb : Below A.heap.size A B) : B.ownsRow lo e size v n xs := by
  refine ⟨h.1, h.2.elim Or.inl fun hx => .inr ?_⟩
  revert hx
  rintro ⟨g, cap, cur, rfl, hbg, hg, hnc⟩
  exact ⟨g, cap, cur, rfl, hbg, (hb.block g (Array.getElem?_eq_some_iff.1 hg).1).trans hg, hnc⟩

set_option maxRecDepth 100000 in
set_option maxHeartbeats 4000000 in
theorem each_rest (a b : List Item) (va vb : Value) (w : World) (ha : ItemsAt w 0 w.heap.size va a) (hb : ItemsAt w 0 w.heap.size vb b) (hFa : Fits a) (hFb : Fits b) :
    Calls Tryz.prog 94 #[va, vb, .func (.func 95) #[] #[]] w fun e w' =>
      (∃ v, e = .returned v ∧ w'.ownsRow w.heap.size 37 2 v (both restF a b).length (itemCells (both restF a b))) ∧ Below w.heap.size w w' := by
  obtain ⟨A, c, rfl, hc1, hc2⟩ := ha.form
  obtain ⟨A', c', rfl, hc1', hc2'⟩ := hb.form
  unfold maxLen at hc2 hc2'
  have cA := Lib.hid (fun W hI => may_calls a (.slice A a.length c) W hI hFa)
  have cB := Lib.hid (fun W hI => may_calls b (.slice A' b.length c') W hI hFb)
  have hBoth := Lib.hid (show both restF a b = if may a && may b then eachL restF a b else [] from rfl)
  generalize both restF a b = R at *
  have hma := Lib.hid (show may a = true → a.length ≤ 16 from fun h => by unfold may at h; simp at h; exact h.2)
  generalize may a = ma at *
  generalize may b = mb at *
  refine (callsIn_wide (n := 6)).1 ?_
  refine callsIn_of_wp_marks Tryz.func94 rfl trivial ?_ rfl
  simp only [Tryz.ntmps94, List.size_toArray, List.length_cons, List.length_nil, Nat.reduceAdd, Nat.reduceSub, Array.replicate_succ, Array.replicate_zero, List.push_toArray, List.append_toArray, List.nil_append, List.cons_append]
  gi_wp2_with fail
  refine ⟨trivial, ?_⟩
  have bb : Boxed ((w.alloc (.cells #[.slice A' b.length c'] 30)).alloc (.cells #[.func (.func 95) #[] #[]] 121)) w.heap.size 30 (.slice A' b.length c') := (Boxed.new w _ _).alloc _
  have bf : Boxed ((w.alloc (.cells #[.slice A' b.length c'] 30)).alloc (.cells #[.func (.func 95) #[] #[]] 121)) (w.heap.size + 1) 121 (.func (.func 95) #[] #[]) := by
    have := Boxed.new (w.alloc (.cells #[.slice A' b.length c'] 30)) 121 (.func (.func 95) #[] #[])
    rwa [World.size_alloc] at this
  have hB1 : Below w.heap.size w ((w.alloc (.cells #[.slice A' b.length c'] 30)).alloc (.cells #[.func (.func 95) #[] #[]] 121)) := ((Below.refl _ w).alloc (Nat.le_refl _) _).alloc (by simp) _
  have hs1 : w.heap.size + 2 = ((w.alloc (.cells #[.slice A' b.length c'] 30)).alloc (.cells #[.func (.func 95) #[] #[]] 121)).heap.size := by simp
  generalize ((w.alloc (.cells #[.slice A' b.length c'] 30)).alloc (.cells #[.func (.func 95) #[] #[]] 121)) = w1 at *
  refine (callsIn_wide.2 (cA.out _ (ha.mono hB1 (by omega)))).mono ?_
  rintro e w2 ⟨rfl, h2⟩
  have bb2 := boxed_below bb h2
  have bf2 := boxed_below bf h2
  have hB2 := hB1.trans (h2.mono (by omega))
  have hs2 := h2.size
  have hcb := bb2.cell
  cases ma with
  | false =>
    have HR := Lib.hid (show R = [] by rw [hBoth.out]; rfl)
    gi_wp2_with (refine ⟨trivial, ?_⟩)
    exact ⟨_, results_tmp rfl _ _ _, ⟨_, rfl, by rw [HR.out]; exact World.ownsRow_nil _ _ _ _⟩, hB2⟩
  | true =>
    gi_wp2_with fail
    refine ⟨trivial, ?_⟩
    refine (callsIn_wide.2 (cB.out _ (hb.mono hB2 (by omega)))).mono ?_
    rintro e w3 ⟨rfl, h3⟩
    have bb3 := boxed_below bb2 h3
    have bf3 := boxed_below bf2 h3
    have hB3 := hB2.trans (h3.mono (by omega))
    have hs3 := h3.size
    clear hcb
    cases mb with
    | false =>
      have HR := Lib.hid (show R = [] by rw [hBoth.out]; rfl)
      gi_wp2_with (refine ⟨trivial, ?_⟩)
      exact ⟨_, results_tmp rfl _ _ _, ⟨_, rfl, by rw [HR.out]; exact World.ownsRow_nil _ _ _ _⟩, hB3⟩
    | true =>
      have HR := Lib.hid (show R = eachL restF a b by rw [hBoth.out]; rfl)
      have hlen := hma.out trivial
      gi_wp2_with (refine ⟨trivial, ?_⟩; gi_at_call 86; refine (callsIn_wide.2 (all_calls A _ c _)).mono ?_; rintro e w' ⟨rfl, rfl⟩)
      have b4 : Boxed ((w3.alloc (.cells #[.slice none 0 0] 30)).alloc (.cells #[.slice A a.length c] 30)) w3.heap.size 30 (.slice none 0 0) := (Boxed.new w3 _ _).alloc _
      have bl4 : Boxed ((w3.alloc (.cells #[.slice none 0 0] 30)).alloc (.cells #[.slice A a.length c] 30)) (w3.heap.size + 1) 30 (.slice A a.length c) := by
        have := Boxed.new (w3.alloc (.cells #[.slice none 0 0] 30)) 30 (.slice A a.length c)
        rwa [World.size_alloc] at this
      have bb4 : Boxed ((w3.alloc (.cells #[.slice none 0 0] 30)).alloc (.cells #[.slice A a.length c] 30)) w.heap.size 30 (.slice A' b.length c') := (bb3.alloc _).alloc _
      have bf4 : Boxed ((w3.alloc (.cells #[.slice none 0 0] 30)).alloc (.cells #[.slice A a.length c] 30)) (w.heap.size + 1) 121 (.func (.func 95) #[] #[]) := (bf3.alloc _).alloc _
      have hB4 : Below w.heap.size w ((w3.alloc (.cells #[.slice none 0 0] 30)).alloc (.cells #[.slice A a.length c] 30)) := (hB3.alloc (by omega) _).alloc (by simp; omega) _
      have hs4 : w3.heap.size + 2 = ((w3.alloc (.cells #[.slice none 0 0] 30)).alloc (.cells #[.slice A a.length c] 30)).heap.size := by simp
      generalize ((w3.alloc (.cells #[.slice none 0 0] 30)).alloc (.cells #[.slice A a.length c] 30)) = w4 at *
      refine range_all (n := 6) rfl trivial (by omega) (Bs := w3.heap.size + 1) (n₀ := w.heap.size) (v := .slice A a.length c) (L := a) rfl rfl (by omega) (by omega) bl4.cell ((ha.mono hB4 (Nat.le_refl _)))
        (fun pre W => Boxed W w.heap.size 30 (.slice A' b.length c') ∧ Boxed W (w.heap.size + 1) 121 (.func (.func 95) #[] #[]) ∧
          ∃ v, Boxed W w3.heap.size 30 v ∧ W.ownsRow w.heap.size 37 2 v (eachL restF (vals pre) b).length (itemCells (eachL restF (vals pre) b)))
        (fun _ _ _ => False)
        (fun s A B row hs hg hr => ⟨boxed_keep hs.1 hg (fun r e => (hr r e).2), boxed_keep hs.2.1 hg (fun r e => (hr r e).2), by
          obtain ⟨v, h1, h2⟩ := hs.2.2
          exact ⟨v, boxed_keep h1 hg (fun r e => (hr r e).2), row_keep h2 hg (fun r e => (hr r e).2)⟩⟩)
        (fun c s A B row hs hg hr => hs)
        ⟨bb4, bf4, _, b4, World.ownsRow_nil _ _ _ _⟩
        (fun x => { tmps := #[.slice A a.length c, .slice A' b.length c', .func (.func 95) #[] #[], undef, .pointer (some ⟨w.heap.size, 0, none⟩), .pointer (some ⟨w.heap.size + 1, 0, none⟩), .slice none 0 0, .pointer (some ⟨w3.heap.size, 0, none⟩), .string x.1.1, .int .i64 x.1.2, undef, .slice A a.length c, .bool true, .bool false, .bool false, .slice A' b.length c', .bool true, .bool false, .bool false, .slice A a.length c, .func (.func 117) #[] #[.pointer (some ⟨w3.heap.size + 1, 0, none⟩)], .string x.1.1, .int .i64 x.1.2, undef, undef, undef, undef, undef, undef, undef, undef, undef, undef, undef, undef, undef, undef, undef], defers := [] }) ?assign ?body ?done ?stop
      case assign =>
        intro l x W K hK
        dsimp only [enc2]
        gi_wp2
        exact hK
      case body =>
        rintro l pre ⟨⟨xs, xn⟩, hx⟩ W ⟨hbb, hbf, v, hbv, hown⟩ hB hsz hlen'
        have hS := Lib.hid (show eachL restF (vals (pre ++ [⟨(xs, xn), hx⟩])) b = eachL restF (vals pre) b ++ (if 0 < restF xn (ofSum xs b) then [(xs, restF xn (ofSum xs b))] else []) by rw [vals_snoc, eachL_snoc])
        have hPL := Lib.hid (show (eachL restF (vals pre) b).length ≤ 16 from Nat.le_trans (eachL_len _ _ _) (by simp [vals]; omega))
        have hbW : ItemsAt W.drew 0 W.drew.heap.size (.slice A' b.length c') b := ((hb.below (hB4.trans hB)).wide (B' := W.heap.size) (Nat.le_refl _) (by omega)).mono ((Below.refl _ W).drew) (Nat.le_refl _)
        have hcb := hbb.cell
        have hcf := hbf.cell
        have hmx : Tryz.prog.follows .mixedOrders = true := by kernel_rfl
        have cO := Lib.hid (fun W hI => of_calls b xs (.slice A' b.length c') W hI)
        dsimp only
        generalize ofSum xs b = o at *
        have cM := Lib.hid (fun W => rest1_calls xn o W)
        generalize restF xn o = m at *
        generalize eachL restF (vals pre) b = S at *
        gi_wp2
        refine Pu.region_puts (fun W' => Below W.drew.heap.size W.drew W') [(23, .func (.func 95) #[] #[]), (24, .int .i64 xn), (25, .slice A' b.length c'), (26, .string xs), (27, .int .i64 o), (28, .int .i64 m), (10, .int .i64 m)] hmx (by kernel_rfl) (by kernel_rfl) (Below.refl _ _) ?_ ?_
        all_goals simp only [Pu.puts, Act.put, List.setIfInBounds_toArray, List.set_cons_succ, List.set_cons_zero]
        · repeat' refine Pu.Go.cons (fun W1 h1 => ?_) ?_
          all_goals try exact Pu.Go.nil
          all_goals have hcb1 := (boxed_below (show Boxed W.drew _ _ _ from hbb) h1).cell
          all_goals have hcf1 := (boxed_below (show Boxed W.drew _ _ _ from hbf) h1).cell
          all_goals gi_wp2_with (first
            | (refine ⟨trivial, ?_⟩; gi_at_call 121; refine (CallsIn.inRound l (callsIn_wide.2 (cO.out _ (hbW.mono h1 h1.size)))).mono ?_; rintro e W2 ⟨rfl, h2⟩)
            | (refine ⟨trivial, ?_⟩; gi_at_call 95; refine (CallsIn.inRound l (callsIn_wide.2 (cM.out _))).mono ?_; rintro e W2 ⟨rfl, rfl⟩))
          all_goals first
            | exact h1
            | exact (show Below W.drew.heap.size W.drew W1 from h1).trans (h2.mono h1.size)
        · intro W1 h1
          have hbb1 := boxed_below (show Boxed W.drew _ _ _ from hbb) h1
          have hbf1 := boxed_below (show Boxed W.drew _ _ _ from hbf) h1
          have hbv1 := boxed_below (show Boxed W.drew _ _ _ from hbv) h1
          have hown1 : W1.ownsRow w.heap.size 37 2 v S.length (itemCells S) := row_below (show W.drew.ownsRow _ _ _ _ _ _ from hown) h1
          have hcv1 := hbv1.cell
          have hfv1 := hbv1.frozen
          have hB1 : Below w.heap.size W W1 := ((Below.refl w.heap.size W).drew).trans (h1.mono (show w.heap.size ≤ W.heap.size by omega))
          clear hbW hcb hcf
          by_cases hm : 0 < m
          · have hd : decide (0 < m) = true := by simpa using hm
            have hS2 := Lib.hid (show eachL restF (vals (pre ++ [⟨(xs, xn), hx⟩])) b = S ++ [(xs, m)] by rw [hS.out, if_pos hm])
            clear hS
            obtain ⟨i0, hi0, hz0⟩ := Option.map_eq_some_iff.1 item_info
            simp only [Prod.mk.injEq] at hz0
            obtain ⟨hz0, hz1, hz2⟩ := hz0
            gi_wp2_with (gi_at_builtin
                         refine wpListIn_append_sl _ rfl (.tmp 31) (.tmp 35) _ rfl w.heap.size 37 i0 _ 2 24 Tryz.underlying30 hi0 hz0 hz1 hz2 rfl (by omega) v S.length (itemCells S) rfl (hown1.alloc _) W1.heap.size (W1.heap.size + 1) _ 1 [.string xs, .int .i64 m] rfl (Sl.new W1 #[.string xs, .int .i64 m] 37 (n := 1) rfl (by unfold maxLen; omega)) (by simp [Value.oneCell']) (by have := hPL.out; unfold maxLen; omega) (by have := hPL.out; omega) (by have := hB1.size; simp; omega) ?_
                         intro v1 W2 hv1 hg1 hat1
                         obtain ⟨k1, k2, k3, k4, k5⟩ := hbv1.appended (by decide) hown1 (by have := hB1.size; omega) (by omega) hv1 hg1
                         obtain ⟨g, cap, rfl⟩ := ownsRow_succ hv1
                         have hcv2 := k1.cell
                         have hfv2 := k1.frozen)
            refine ⟨(show KeepsFrom w4.heap.size W W1 from ⟨hB1.size, fun k _ _ hk _ => (h1.block k (Array.getElem?_eq_some_iff.1 hk).1).trans hk⟩).trans (k4.from _), hB1.trans k5, ?_⟩
            have n1 := hbb1.not_row (show 30 ≠ 37 by decide) hown1
            have n2 := hbf1.not_row (show 121 ≠ 37 by decide) hown1
            have hv2 : (W2.setCell ⟨w3.heap.size, 0, none⟩ (.slice (some ⟨g, 0, none⟩) (S.length + 1) cap)).ownsRow w.heap.size 37 2 (.slice (some ⟨g, 0, none⟩) (S.length + 1) cap) (S ++ [(xs, m)]).length (itemCells (S ++ [(xs, m)])) := by
              rw [itemCells_append, List.length_append]; exact k3
            dsimp only
            rw [hS2.out]
            exact ⟨((hbb1.alloc _).kept hg1 n1).other (by omega) _, ((hbf1.alloc _).kept hg1 n2).other (by omega) _, _, k2, hv2⟩
          · have hd : decide (0 < m) = false := by simpa using hm
            have hS2 := Lib.hid (show eachL restF (vals (pre ++ [⟨(xs, xn), hx⟩])) b = S by rw [hS.out, if_neg hm, List.append_nil])
            clear hS
            gi_wp2
            refine ⟨?_, hB1, ?_⟩
            · exact ⟨hB1.size, fun k _ _ hk _ => (h1.block k (Array.getElem?_eq_some_iff.1 hk).1).trans hk⟩
            · dsimp only
              rw [hS2.out]
              exact ⟨hbb1, hbf1, v, hbv1, hown1⟩
      case done =>
        rintro D W hD ⟨hbb, hbf, v, hbv, hown⟩ hB hK
        rw [vals_all] at hown
        have hc0 := hbv.cell
        gi_wp2
        refine ⟨by simp, .inl ⟨_, _, rfl, run_takeDeferred hK, ?_⟩⟩
        refine ⟨_, results_tmp rfl _ _ _, ⟨v, rfl, ?_⟩, below_end (hB4.trans hB) (by omega) hK⟩
        rw [HR.out]
        exact row_keep hown (grownBy_putObj' _ D (.deferred none)) (fun r e => by cases e; exact ⟨_, hK, rfl⟩)
      case stop =>
        rintro D c pre W hD hpre h hB hK
        exact h.elim
end It
end Go.Proofs.YtdbkkldgobkjcaaGreat

namespace Go.Proofs.YtdbkkldgobkjcaaGreat
open Go.RowKit
namespace It

theorem ownsRow_wide {w : World} {lo lo' : Nat} {e : TypeId} {size n : Nat} {v : Value} {xs : List Value} (h : w.ownsRow lo e size v n xs) (hl : lo' ≤ lo) : w.ownsRow lo' e size v n xs := by
  refine ⟨h.1, h.2.elim Or.inl fun hx => .inr ?_⟩
  revert hx
  rintro ⟨g, cap, cur, rfl, hbg, hg⟩
  exact ⟨g, cap, cur, rfl, Nat.le_trans hl hbg, hg⟩

set_option maxHeartbeats 400000 in
theorem rest_calls (a b : List Item) (va vb : Value) (w : World) (ha : ItemsAt w 0 w.heap.size va a) (hb : ItemsAt w 0 w.heap.size vb b) (hFa : Fits a) (hFb : Fits b) :
    Calls Tryz.prog 53 #[va, vb] w fun e w' =>
      (∃ v, e = .returned v ∧ w'.ownsRow w.heap.size 37 2 v (both restF a b).length (itemCells (both restF a b))) ∧ Below w.heap.size w w' := by
  have cE := Lib.hid (each_rest a b va vb w ha hb hFa hFb)
  obtain ⟨A, c, rfl, -⟩ := ha.form
  obtain ⟨A', c', rfl, -⟩ := hb.form
  generalize both restF a b = R at *
  go_enter Tryz.func53, Tryz.ntmps53
  go_wp2_with fail
  refine cE.out.mono ?_
  rintro e w1 ⟨⟨v, rfl, h1⟩, h2⟩
  obtain ⟨A1, c1, rfl, -⟩ := (ItemsAt.of_own h1).form
  go_wp2
  go_ret
  exact ⟨⟨_, rfl, h1⟩, h2⟩

/-- a has at least what b has -/
def covers (a b : List Item) : Bool := may a && may b && ((both restF b a).length == 0)

set_option maxRecDepth 100000 in
set_option maxHeartbeats 1000000 in
theorem covers_calls (a b : List Item) (va vb : Value) (w : World) (ha : ItemsAt w 0 w.heap.size va a) (hb : ItemsAt w 0 w.heap.size vb b) (hFa : Fits a) (hFb : Fits b) :
    Calls Tryz.prog 92 #[va, vb] w fun e w' => e = .returned (.bool (covers a b)) ∧ Below w.heap.size w w' := by
  have cA := Lib.hid (fun W hI => may_calls a va W hI hFa)
  have cB := Lib.hid (fun W hI => may_calls b vb W hI hFb)
  have cR := Lib.hid (fun W hI hJ => rest_calls b a vb va W hI hJ hFb hFa)
  have HC := Lib.hid (show covers a b = (may a && may b && ((both restF b a).length == 0)) from rfl)
  obtain ⟨A, c, rfl, hc1, hc2⟩ := ha.form
  obtain ⟨A', c', rfl, hc1', hc2'⟩ := hb.form
  generalize covers a b = C at *
  generalize both restF b a = R at *
  generalize may a = ma at *
  generalize may b = mb at *
  go_enter Tryz.func92, Tryz.ntmps92
  go_wp2_with fail
  refine (cA.out _ ha).mono ?_
  rintro e w1 ⟨rfl, h1⟩
  have hb1 := hb.mono h1 h1.size
  have ha1 := ha.mono h1 h1.size
  cases ma with
  | false =>
    have HC2 := Lib.hid (show C = false by rw [HC.out]; rfl)
    go_wp2_with fail
    go_ret
    exact ⟨ret1 (boo HC2.out.symm), h1⟩
  | true =>
    go_wp2_with fail
    refine (cB.out _ hb1).mono ?_
    rintro e w2 ⟨rfl, h2⟩
    have hb2 := hb1.mono h2 h2.size
    have ha2 := ha1.mono h2 h2.size
    have hB2 := h1.trans (h2.mono h1.size)
    cases mb with
    | false =>
      have HC2 := Lib.hid (show C = false by rw [HC.out]; rfl)
      go_wp2_with fail
      go_ret
      exact ⟨ret1 (boo HC2.out.symm), hB2⟩
    | true =>
      go_wp2_with fail
      refine (cR.out _ hb2 ha2).mono ?_
      rintro e w3 ⟨⟨v, rfl, hv⟩, h3⟩
      have hB3 := hB2.trans (h3.mono hB2.size)
      obtain ⟨A1, c1, rfl, -⟩ := (ItemsAt.of_own hv).form
      have HC2 := Lib.hid (show C = ((R.length : Int) == 0) by rw [HC.out, Bool.eq_iff_iff]; simp [Int.natCast_eq_zero])
      go_wp2
      go_ret
      exact ⟨ret1 (boo (by rw [HC2.out])), hB3⟩

/-- the rest, and why not -/
def minusOf (a b : List Item) : List Item × Int := if may a && may b then if covers a b then (both restF a b, 0) else ([], 51) else ([], 60)

set_option maxRecDepth 100000 in
set_option maxHeartbeats 1000000 in
theorem minus_calls (a b : List Item) (va vb : Value) (w : World) (ha : ItemsAt w 0 w.heap.size va a) (hb : ItemsAt w 0 w.heap.size vb b) (hFa : Fits a) (hFb : Fits b) :
    Calls Tryz.prog 51 #[va, vb] w fun e w' =>
      (∃ v, e = .returned (.tuple #[v, .int .i64 (minusOf a b).2]) ∧ w'.ownsRow w.heap.size 37 2 v (minusOf a b).1.length (itemCells (minusOf a b).1)) ∧ Below w.heap.size w w' := by
  have cA := Lib.hid (fun W hI => may_calls a va W hI hFa)
  have cB := Lib.hid (fun W hI => may_calls b vb W hI hFb)
  have cC := Lib.hid (fun W hI hJ => covers_calls a b va vb W hI hJ hFa hFb)
  have cR := Lib.hid (fun W hI hJ => rest_calls a b va vb W hI hJ hFa hFb)
  have HM := Lib.hid (show minusOf a b = if may a && may b then if covers a b then (both restF a b, 0) else ([], 51) else ([], 60) from rfl)
  obtain ⟨A, c, rfl, hc1, hc2⟩ := ha.form
  obtain ⟨A', c', rfl, hc1', hc2'⟩ := hb.form
  generalize minusOf a b = M at *
  generalize covers a b = C at *
  generalize both restF a b = R at *
  generalize may a = ma at *
  generalize may b = mb at *
  go_enter Tryz.func51, Tryz.ntmps51
  go_wp2_with fail
  refine (cA.out _ ha).mono ?_
  rintro e w1 ⟨rfl, h1⟩
  have hb1 := hb.mono h1 h1.size
  have ha1 := ha.mono h1 h1.size
  cases ma with
  | false =>
    obtain rfl : M = ([], 60) := by rw [HM.out]; rfl
    go_wp2_with fail
    go_ret2
    exact ⟨⟨_, rfl, World.ownsRow_nil _ _ _ _⟩, h1⟩
  | true =>
    go_wp2_with fail
    refine (cB.out _ hb1).mono ?_
    rintro e w2 ⟨rfl, h2⟩
    have hb2 := hb1.mono h2 h2.size
    have ha2 := ha1.mono h2 h2.size
    have hB2 := h1.trans (h2.mono h1.size)
    cases mb with
    | false =>
      obtain rfl : M = ([], 60) := by rw [HM.out]; rfl
      go_wp2_with fail
      go_ret2
      exact ⟨⟨_, rfl, World.ownsRow_nil _ _ _ _⟩, hB2⟩
    | true =>
      go_wp2_with fail
      refine (cC.out _ ha2 hb2).mono ?_
      rintro e w3 ⟨rfl, h3⟩
      have hb3 := hb2.mono h3 h3.size
      have ha3 := ha2.mono h3 h3.size
      have hB3 := hB2.trans (h3.mono hB2.size)
      cases C with
      | false =>
        obtain rfl : M = ([], 51) := by rw [HM.out]; rfl
        go_wp2_with fail
        go_ret2
        exact ⟨⟨_, rfl, World.ownsRow_nil _ _ _ _⟩, hB3⟩
      | true =>
        obtain rfl : M = (R, 0) := by rw [HM.out]; rfl
        go_wp2_with fail
        refine (cR.out _ ha3 hb3).mono ?_
        rintro e w4 ⟨⟨v, rfl, hv⟩, h4⟩
        obtain ⟨A1, c1, rfl, -⟩ := (ItemsAt.of_own hv).form
        go_wp2
        go_ret2
        exact ⟨⟨_, rfl, ownsRow_wide hv hB3.size⟩, hB3.trans (h4.mono hB3.size)⟩
end It
end Go.Proofs.YtdbkkldgobkjcaaGreat

namespace Go.Proofs.YtdbkkldgobkjcaaGreat
open Go.RowKit
namespace It

set_option maxHeartbeats 400000 in
theorem none1_calls (n : Int) (w : World) : Calls Tryz.prog 160 #[.int .i64 n] w fun e w' => e = .returned (.bool (!countOk n)) ∧ w = w' := by
  have cM := Lib.hid (fun W => count_calls n W)
  generalize countOk n = b at *
  go_enter Tryz.func160, Tryz.ntmps160
  go_wp2_with fail
  refine (cM.out _).mono ?_
  rintro e w' ⟨rfl, rfl⟩
  go_wp2
  go_ret
  exact ⟨rfl, rfl⟩

def okTo (l : List Int) (k : Nat) : Prop := ∀ j, j < k → countOk (l.getD j 0) = true
theorem allTo_snoc {l : List Int} {k : Nat} (h : okTo l k) (h1 : countOk (l.getD k 0) = true) : okTo l (k + 1) := by
  intro j hj
  rcases Nat.lt_or_ge j k with h2 | h2
  · exact h j h2
  · have : j = k := by omega
    subst this
    exact h1

set_option maxRecDepth 100000 in
set_option maxHeartbeats 1000000 in
theorem indexFunc_calls (l : List Int) (v : Value) (lo B : Nat) (w : World) (hv : IntsAt w lo B v l) :
    Calls Tryz.prog 170 #[v, .func (.func 160) #[] #[]] w fun e w' => (∃ r : Int, e = .returned (.int .i64 r) ∧ (0 ≤ r ↔ ¬ okTo l l.length)) ∧ w = w' := by
  obtain ⟨A, c, rfl, hc1, hc2, hc⟩ := hv.form
  unfold maxLen at hc2
  go_enter Tryz.func170, Tryz.ntmps170
  go_wp2
  go_loop [8] (fun i => ∃ k : Nat, k ≤ l.length ∧ i = .int .i64 k ∧ okTo l k) (fun i => l.length - (intOf i).toNat)
  case atStart => exact ⟨0, by omega, rfl, fun j hj => by omega⟩
  case round =>
    obtain ⟨k, hk, rfl, hN⟩ := hrel
    have HN := Lib.hid hN
    clear hN
    by_cases hlt : k < l.length
    · obtain ⟨b, o, rfl, _, hb, hcell⟩ := hc (by omega)
      have hck := hcell k hlt
      clear hcell hc
      generalize hy : l.getD k 0 = y at hck
      have HY := Lib.hid hy
      clear hy
      have cN := Lib.hid (fun W => none1_calls y W)
      generalize ho : countOk y = ok at cN
      have HO := Lib.hid ho
      clear ho
      go_wp2_with fail
      refine (cN.out _).mono ?_
      rintro e w' ⟨rfl, rfl⟩
      cases ok with
      | true =>
        go_wp2_with fail
        go_round
        case rel => exact ⟨k + 1, by omega, by go_num, allTo_snoc HN.out (by rw [HY.out, HO.out])⟩
        case measure => simp [intOf]; omega
      | false =>
        go_wp2_with fail
        go_ret
        refine ⟨⟨k, rfl, ⟨fun _ h => ?_, fun _ => by omega⟩⟩, rfl⟩
        have := h k hlt
        rw [HY.out, HO.out] at this
        cases this
    · clear hc
      obtain rfl : k = l.length := by omega
      go_wp2
      go_ret
      exact ⟨⟨-1, rfl, Iff.intro (fun h => by omega) (fun h => absurd HN.out h)⟩, rfl⟩

set_option maxHeartbeats 1000000 in
theorem containsFunc_calls (l : List Int) (v : Value) (lo B : Nat) (w : World) (hv : IntsAt w lo B v l) :
    Calls Tryz.prog 159 #[v, .func (.func 160) #[] #[]] w fun e w' => e = .returned (.bool (!(l.all countOk))) ∧ w = w' := by
  have cI := Lib.hid (indexFunc_calls l v lo B w hv)
  obtain ⟨A, c, rfl, hc1, hc2, hc⟩ := hv.form
  clear hc
  go_enter Tryz.func159, Tryz.ntmps159
  go_wp2_with fail
  refine cI.out.mono ?_
  rintro e w' ⟨⟨r, rfl, hr⟩, rfl⟩
  have HR := Lib.hid (show (!(l.all countOk)) = decide (r ≥ 0) by
    have h1 : okTo l l.length ↔ l.all countOk = true := by
      unfold okTo
      rw [List.all_eq_true]
      constructor
      · intro h x hx
        obtain ⟨j, hj, rfl⟩ := List.getElem_of_mem hx
        have := h j hj
        simpa [hj] using this
      · intro h j hj
        have : l.getD j 0 = l[j] := by simp [hj]
        rw [this]
        exact h _ (List.getElem_mem hj)
    rw [h1] at hr
    cases h : l.all countOk <;> simp [h] at hr ⊢ <;> omega)
  clear hr
  go_wp2
  go_ret
  exact ⟨ret1 (boo HR.out.symm), rfl⟩

set_option maxHeartbeats 1000000 in
theorem none_calls (l : List Int) (v : Value) (lo B : Nat) (w : World) (hv : IntsAt w lo B v l) :
    Calls Tryz.prog 155 #[v] w fun e w' => e = .returned (.bool (!(l.all countOk))) ∧ w = w' := by
  have cI := Lib.hid (containsFunc_calls l v lo B w hv)
  generalize l.all countOk = b at *
  obtain ⟨A, c, rfl, hc1, hc2, hc⟩ := hv.form
  clear hc
  go_enter Tryz.func155, Tryz.ntmps155
  go_wp2_with fail
  refine cI.out.mono ?_
  rintro e w' ⟨rfl, rfl⟩
  go_wp2
  go_ret
  exact ⟨rfl, rfl⟩

theorem countOk_iff (n : Int) : countOk n = true ↔ 0 ≤ n ∧ n ≤ 1099511627776 := by unfold countOk; simp

/-- the sum, and why not -/
def addOf (a b : Int) : Int × Int := if countOk a && countOk b then if a + b ≤ 1099511627776 then (a + b, 0) else (0, 50) else (0, 1)

set_option maxHeartbeats 1000000 in
theorem add_calls (a b : Int) (w : World) :
    Calls Tryz.prog 145 #[.int .i64 a, .int .i64 b] w fun e w' => e = .returned (.tuple #[.int .i64 (addOf a b).1, .int .i64 (addOf a b).2]) ∧ Below w.heap.size w w' := by
  have HA := Lib.hid (show addOf a b = if countOk a && countOk b then if a + b ≤ 1099511627776 then (a + b, 0) else (0, 50) else (0, 1) from rfl)
  have hoa := Lib.hid (countOk_iff a)
  have hob := Lib.hid (countOk_iff b)
  have cN := Lib.hid (none_calls [a, b] (.slice (some ⟨w.heap.size, 0, none⟩) 2 2) w.heap.size (w.heap.size + 1) (w.alloc (.cells #[.int .i64 a, .int .i64 b] 3)) (Sl.new w #[.int .i64 a, .int .i64 b] 3 (n := 2) rfl (by unfold maxLen; omega)))
  simp only [List.all_cons, List.all_nil, Bool.and_true] at cN
  generalize addOf a b = S at *
  generalize countOk a = oa at *
  generalize countOk b = ob at *
  go_enter Tryz.func145, Tryz.ntmps145
  go_wp2_with fail
  refine cN.out.mono ?_
  rintro e w' ⟨rfl, rfl⟩
  have hB : Below w.heap.size w (w.alloc (.cells #[.int .i64 a, .int .i64 b] 3)) := (Below.refl _ w).alloc (Nat.le_refl _) _
  generalize w.alloc (.cells #[.int .i64 a, .int .i64 b] 3) = w1 at *
  cases hoo : (oa && ob) with
  | false =>
    obtain rfl : S = (0, 1) := by rw [HA.out, hoo]; rfl
    simp only [Bool.not_false]
    go_wp2_with fail
    go_ret2
    exact ⟨rfl, hB⟩
  | true =>
    have hoo' := hoo
    rw [Bool.and_eq_true] at hoo'
    have h1 := hoa.out.1 hoo'.1
    have h2 := hob.out.1 hoo'.2
    have hw : wrap64 (1099511627776 - a) = 1099511627776 - a := by
      unfold wrap64; omega
    by_cases hle : a + b ≤ 1099511627776
    · obtain rfl : S = (a + b, 0) := by rw [HA.out, hoo, if_pos rfl, if_pos hle]
      simp only [Bool.not_true]
      go_wp2_with fail
      go_ret2
      exact ⟨by go_num, hB⟩
    · obtain rfl : S = (0, 50) := by rw [HA.out, hoo, if_pos rfl, if_neg hle]
      simp only [Bool.not_true]
      go_wp2_with fail
      go_ret2
      exact ⟨rfl, hB⟩
end It
end Go.Proofs.YtdbkkldgobkjcaaGreat

namespace Go.Proofs.YtdbkkldgobkjcaaGreat
open Go.RowKit Go.Maps

/-- a kind of keys -/
structure KeyK (κ : Type) [DecidableEq κ] where
  lit : κ → Lit
  lt : κ → κ → Bool
  before : ∀ a b, (lit a).before (lit b) = lt a b
  same : ∀ a b, (lit a).sameKey (lit b) = decide (a = b)
  isKey : ∀ a, WideAt.IsKeyLit (lit a)

def intK : KeyK Int where
  lit := Lit.int .i64
  lt a b := decide (a < b)
  before a b := rfl
  same a b := by simp [Lit.sameKey]
  isKey _ := trivial
def strK : KeyK (List UInt8) where
  lit := Lit.string
  lt a b := bytesBefore a b
  before a b := rfl
  same a b := by
    simp only [Lit.sameKey]
    rw [Bool.eq_iff_iff]; simp
  isKey _ := trivial

section
variable {κ : Type} [DecidableEq κ] (K : KeyK κ)
def mGet (m : List (κ × Value)) (k : κ) : Option Value := (m.find? (fun p => decide (p.1 = k))).map (·.2)
def mIns (k : κ) (v : Value) : List (κ × Value) → List (κ × Value)
  | [] => [(k, v)]
  | p :: r => if K.lt k p.1 then (k, v) :: p :: r else p :: mIns k v r
def mDel (m : List (κ × Value)) (k : κ) : List (κ × Value) := m.filter (fun p => !decide (p.1 = k))
def mPut (m : List (κ × Value)) (k : κ) (v : Value) : List (κ × Value) := mIns K k v (mDel m k)
/-- the map's datum -/
def mEs (m : List (κ × Value)) : List (Lit × DataW Value) := m.map fun p => (K.lit p.1, .held p.2)
def hold (v : Value) : Option (DataW Value × List MemPlace) := some (.held v, [])

theorem mEs_ins (k : κ) (v : Value) (m : List (κ × Value)) : DataW.insert (K.lit k, .held v) (mEs K m) = mEs K (mIns K k v m) := by
  induction m with
  | nil => rfl
  | cons p r ih =>
    simp only [mEs, List.map_cons, DataW.insert, mIns] at ih ⊢
    rw [K.before]
    split
    · simp
    · rw [ih]; simp
theorem mEs_del (k : κ) (m : List (κ × Value)) : (mEs K m).filter (fun p => !p.1.sameKey (K.lit k)) = mEs K (mDel m k) := by
  induction m with
  | nil => rfl
  | cons p r ih =>
    simp only [mEs, List.map_cons, mDel, List.filter_cons, K.same] at ih ⊢
    split <;> simp_all
theorem mEs_put (k : κ) (v : Value) (m : List (κ × Value)) : (DataW.map (mEs K m)).put (K.lit k) (.held v) = .map (mEs K (mPut K m k v)) := by
  simp only [DataW.put, mPut]
  rw [mEs_del, mEs_ins]
theorem mEs_get (k : κ) (z : Value) (m : List (κ × Value)) : (DataW.map (mEs K m)).atKey (K.lit k) (.held z) = .held ((mGet m k).getD z) := by
  induction m with
  | nil => rfl
  | cons p r ih =>
    simp only [mEs, DataW.atKey, mGet, List.map_cons, List.find?_cons, K.same] at ih ⊢
    by_cases h : p.1 = k
    · simp [h]
    · simp only [h, decide_false]; exact ih
theorem mEs_has (k : κ) (m : List (κ × Value)) : Maps.has (DataW.map (mEs K m)) (K.lit k) = (mGet m k).isSome := by
  induction m with
  | nil => rfl
  | cons p r ih =>
    simp only [mEs, List.map_cons, Maps.has, mGet, List.find?_cons, List.any_cons, K.same] at ih ⊢
    by_cases h : p.1 = k <;> simp_all

/-- block b is a map that reads as m -/
def GMap (w : World) (P : Program) (t : TypeId) (b : Nat) (m : List (κ × Value)) : Prop := w.ownsMap (H := Value) P t hold b m.length (.map (mEs K m))

variable {K}
variable {w w' : World} {P : Program} {t : TypeId} {b : Nat} {m : List (κ × Value)}
theorem GMap.of {n : Nat} (h : w.ownsMap (H := Value) P t hold b n (.map (mEs K m))) : GMap K w P t b m := by
  obtain ⟨es, clock, hb, F, _, e⟩ := h
  refine ⟨es, clock, hb, F, ?_, e⟩
  have h1 := congrArg Maps.size e
  simp [Maps.size, length_sorted, mEs] at h1
  omega
theorem GMap.made (w : World) (P : Program) (t : TypeId) : GMap K (w.alloc (.map #[] 0)) P t w.heap.size [] := World.ownsMap_made w P t hold
theorem GMap.kept {row : Option Nat} (h : GMap K w P t b m) (hg : w.grownBy w' row) (hne : some b ≠ row) : GMap K w' P t b m := World.ownsMap.kept h hg hne
theorem GMap.lt (h : GMap K w P t b m) : b < w.heap.size := World.ownsMap.lt h
theorem GMap.below {B : Nat} (h : GMap K w P t b m) (hb : Below B w w') (hB : b < B) : GMap K w' P t b m := by
  obtain ⟨es, clock, h1, F, h2, e⟩ := h
  exact ⟨es, clock, (hb.block b hB).trans h1, F, h2, e⟩
theorem GMap.sorted (h : GMap K w P t b m) (KK : Keyed P t) : m.Pairwise (fun p q => K.lt p.1 q.1 = true) := by
  obtain ⟨es, e, h1, _⟩ := World.ownsMap.canon h KK
  injection e with e
  subst e
  simp only [mEs, List.pairwise_map, K.before] at h1
  exact h1
theorem GMap.look {tm e : TypeId} (h : GMap K w P t b m) (KK : Keyed P t) (ht : P.underlying tm = some (.map t e)) {z : Value} (hz : (zeroValue e).run P w = .ok z w) {key : Value} {k : κ} (hkey : keyOf P t key = some (K.lit k)) :
    (Instr.lookup tm (.map (some b)) key false).run P w = .ok ((mGet m k).getD z) w := by
  obtain ⟨v, ps, hrun, hv⟩ := World.ownsMap.lookup h KK ht hz (zd := .held z) (zp := []) rfl hkey
  rw [mEs_get] at hv
  have e : v = (mGet m k).getD z := by simp only [hold, Option.some.injEq, Prod.mk.injEq, DataW.held.injEq] at hv; exact hv.1
  rw [hrun, e]
theorem GMap.look_ok {tm e : TypeId} (h : GMap K w P t b m) (KK : Keyed P t) (ht : P.underlying tm = some (.map t e)) {z : Value} (hz : (zeroValue e).run P w = .ok z w) {key : Value} {k : κ} (hkey : keyOf P t key = some (K.lit k)) :
    (Instr.lookup tm (.map (some b)) key true).run P w = .ok (.tuple #[(mGet m k).getD z, .bool (mGet m k).isSome]) w := by
  obtain ⟨v, ps, hrun, hv⟩ := World.ownsMap.look_ok h KK ht hz (zd := .held z) (zp := []) rfl hkey
  rw [mEs_get] at hv
  have e : v = (mGet m k).getD z := by simp only [hold, Option.some.injEq, Prod.mk.injEq, DataW.held.injEq] at hv; exact hv.1
  rw [hrun, e, mEs_has]
theorem GMap.put {tm e : TypeId} (h : GMap K w P t b m) (KK : Keyed P t) (ht : P.underlying tm = some (.map t e)) (hn : m.length < maxLen) {key val : Value} {k : κ} (hkey : keyOf P t key = some (K.lit k)) :
    ∃ w', (Instr.mapUpdate tm (.map (some b)) key val).run P w = .ok () w' ∧ GMap K w' P t b (mPut K m k val) ∧ w.grownBy w' (some b) := by
  obtain ⟨w', hrun, h1, h2⟩ := World.ownsMap.update h KK ht hn hkey (val := val) (d := .held val) (ps := []) rfl
  rw [mEs_put] at h1
  exact ⟨w', hrun, GMap.of h1, h2⟩
theorem GMap.del {tm e : TypeId} (h : GMap K w P t b m) (KK : Keyed P t) (ht : P.underlying tm = some (.map t e)) {key : Value} {k : κ} (hkey : keyOf P t key = some (K.lit k)) (ty : TypeId) :
    ∃ w', (Builtin.delete_ #[tm, t] ty #[.map (some b), key]).run P w = .ok (.tuple #[]) w' ∧ GMap K w' P t b (mDel m k) ∧ w.grownBy w' (some b) := by
  obtain ⟨w', hrun, h1, h2⟩ := World.ownsMap.drop h KK ht hkey ty
  simp only [DataW.del] at h1
  rw [mEs_del] at h1
  exact ⟨w', hrun, GMap.of h1, h2.grown⟩
theorem GMap.len {tm e : TypeId} (h : GMap K w P t b m) (ht : P.underlying tm = some (.map t e)) (ty : TypeId) : (Builtin.len_ #[tm] ty #[.map (some b)]).run P w = .ok (.int .i64 m.length) w := by
  rw [World.ownsMap.len h ht ty]
  simp [Maps.size, mEs]
end

section
variable {κ : Type} [DecidableEq κ] {K : KeyK κ} {P : Program} {w : World} {b : Nat} {m : List (κ × Value)} {ops : Array Oper} {rest : List Oper} {o : Oper} {a : Act} {Q : Exit → Act → World → Prop}
theorem wpList_put_g (hg : o.guard = none) (x y z : Operand) (tm : TypeId) (hop : o.op = Op.mapUpdate tm x y z) (t e : TypeId) (KK : Keyed P t) (ht : P.underlying tm = some (.map t e))
    (hm : a.eval x = .map (some b)) (h : GMap K w P t b m) (hn : m.length < maxLen) (key val : Value) (k : κ) (hx : a.eval y = key) (hv : a.eval z = val) (hkey : keyOf P t key = some (K.lit k))
    (hK : ∀ w', GMap K w' P t b (mPut K m k val) → w.grownBy w' (some b) → wpList P ops Q rest (a.put o.dst undef) w') :
    wpList P ops Q (o :: rest) a w := by
  refine wpList_plain hg fun K' hK' => ?_
  obtain ⟨w', hrun, r1, r2⟩ := h.put KK ht hn hkey (val := val)
  unfold Oper.wp
  simp [execOp, hop, hm, hx, hv, hrun, Result.andThen]
  exact hK' _ _ (hK w' r1 r2)
theorem wpList_del_g (hg : o.guard = none) (x y : Operand) (tm t : TypeId) (hop : o.op = Op.call { callee := Callee.builtin Builtin.delete, args := #[x, y], argTypes := #[tm, t] })
    (e : TypeId) (KK : Keyed P t) (ht : P.underlying tm = some (.map t e)) (hm : a.eval x = .map (some b)) (h : GMap K w P t b m) (key : Value) (k : κ) (hx : a.eval y = key) (hkey : keyOf P t key = some (K.lit k))
    (hK : ∀ w', GMap K w' P t b (mDel m k) → w.grownBy w' (some b) → wpList P ops Q rest (a.put o.dst (.tuple #[])) w') :
    wpList P ops Q (o :: rest) a w := by
  refine wpList_plain hg fun K' hK' => ?_
  obtain ⟨w', hrun, r1, r2⟩ := h.del KK ht hkey o.type
  unfold Oper.wp
  simp [execOp, hop, resolve, invoke, builtin, hm, hx, hrun, Result.andThen]
  exact hK' _ _ (hK w' r1 r2)
theorem wpList_look_g (hg : o.guard = none) (x y : Operand) (tm : TypeId) (hop : o.op = Op.lookup tm x y false) (t e : TypeId) (KK : Keyed P t) (ht : P.underlying tm = some (.map t e))
    (hm : a.eval x = .map (some b)) (h : GMap K w P t b m) {z : Value} (hz : (zeroValue e).run P w = .ok z w) (key : Value) (k : κ) (hx : a.eval y = key) (hkey : keyOf P t key = some (K.lit k))
    (r : Value) (hr : (mGet m k).getD z = r) (hK : wpList P ops Q rest (a.put o.dst r) w) :
    wpList P ops Q (o :: rest) a w := by
  refine wpList_plain hg fun K' hK' => ?_
  have hrun := h.look KK ht hz hkey
  rw [hr] at hrun
  unfold Oper.wp
  simp [execOp, hop, hm, hx, hrun, Result.andThen]
  exact hK' _ _ hK
theorem wpListIn_put_g {F : Fence} {N : Nat} (hg : o.guard = none) (x y z : Operand) (tm : TypeId) (hop : o.op = Op.mapUpdate tm x y z) (t e : TypeId) (KK : Keyed P t) (ht : P.underlying tm = some (.map t e))
    (hm : a.eval x = .map (some b)) (h : GMap K w P t b m) (hn : m.length < maxLen) (key val : Value) (k : κ) (hx : a.eval y = key) (hv : a.eval z = val) (hkey : keyOf P t key = some (K.lit k))
    (hK : ∀ w', GMap K w' P t b (mPut K m k val) → w.grownBy w' (some b) → wpListIn F N P ops Q rest (a.put o.dst undef) w') :
    wpListIn F N P ops Q (o :: rest) a w := by
  refine wpListIn_plain hg fun K' hK' => ?_
  obtain ⟨w', hrun, r1, r2⟩ := h.put KK ht hn hkey (val := val)
  unfold Oper.wpIn
  refine ⟨by simp [Oper.about, hop], ?_⟩
  rw [Oper.semAt_eq _ _ _ (by rw [hop]; intro c hc; cases hc)]
  simp [execOp, hop, hm, hx, hv, hrun, Result.andThen]
  exact hK' _ _ (hK w' r1 r2)
theorem wpListIn_look_g {F : Fence} {N : Nat} (hg : o.guard = none) (x y : Operand) (tm : TypeId) (hop : o.op = Op.lookup tm x y false) (t e : TypeId) (KK : Keyed P t) (ht : P.underlying tm = some (.map t e))
    (hm : a.eval x = .map (some b)) (h : GMap K w P t b m) {z : Value} (hz : (zeroValue e).run P w = .ok z w) (key : Value) (k : κ) (hx : a.eval y = key) (hkey : keyOf P t key = some (K.lit k))
    (r : Value) (hr : (mGet m k).getD z = r) (hK : wpListIn F N P ops Q rest (a.put o.dst r) w) :
    wpListIn F N P ops Q (o :: rest) a w := by
  refine wpListIn_plain hg fun K' hK' => ?_
  have hrun := h.look KK ht hz hkey
  rw [hr] at hrun
  unfold Oper.wpIn
  refine ⟨by simp [Oper.about, hop], ?_⟩
  rw [Oper.semAt_eq _ _ _ (by rw [hop]; intro c hc; cases hc)]
  simp [execOp, hop, hm, hx, hrun, Result.andThen]
  exact hK' _ _ hK
end

/-! the lists -/
section
variable {κ : Type} [DecidableEq κ] {K : KeyK κ}
theorem mGet_cons (p : κ × Value) (m : List (κ × Value)) (k : κ) : mGet (p :: m) k = if p.1 = k then some p.2 else mGet m k := by
  unfold mGet
  rw [List.find?_cons]
  by_cases h : p.1 = k <;> simp [h]
theorem mGet_ins_same (m : List (κ × Value)) (k : κ) (v : Value) (h : mGet m k = none) : mGet (mIns K k v m) k = some v := by
  induction m with
  | nil => simp [mIns, mGet]
  | cons p r ih =>
    rw [mGet_cons] at h
    have h1 : p.1 ≠ k := by intro e; rw [if_pos e] at h; cases h
    rw [if_neg h1] at h
    unfold mIns
    split
    · simp [mGet_cons]
    · rw [mGet_cons, if_neg h1]; exact ih h
theorem mGet_ins_other (m : List (κ × Value)) (k k' : κ) (v : Value) (hne : k' ≠ k) : mGet (mIns K k v m) k' = mGet m k' := by
  induction m with
  | nil => simp [mIns, mGet_cons, hne.symm]
  | cons p r ih =>
    unfold mIns
    split
    · rw [mGet_cons, if_neg hne.symm]
    · rw [mGet_cons, mGet_cons, ih]
theorem mGet_del_same (m : List (κ × Value)) (k : κ) : mGet (mDel m k) k = none := by
  induction m with
  | nil => rfl
  | cons p r ih =>
    unfold mDel at ih ⊢
    rw [List.filter_cons]
    split
    · rename_i h
      rw [mGet_cons, if_neg (by simpa using h)]; exact ih
    · exact ih
theorem mGet_del_other (m : List (κ × Value)) (k k' : κ) (hne : k' ≠ k) : mGet (mDel m k) k' = mGet m k' := by
  induction m with
  | nil => rfl
  | cons p r ih =>
    unfold mDel at ih ⊢
    rw [List.filter_cons]
    split
    · rw [mGet_cons, mGet_cons, ih]
    · rename_i h
      rw [mGet_cons, ih, if_neg]
      intro e
      have : p.1 = k := by simpa using h
      exact hne (e.symm.trans this)
theorem mGet_put_same (m : List (κ × Value)) (k : κ) (v : Value) : mGet (mPut K m k v) k = some v := mGet_ins_same _ _ _ (mGet_del_same m k)
theorem mGet_put_other (m : List (κ × Value)) (k k' : κ) (v : Value) (hne : k' ≠ k) : mGet (mPut K m k v) k' = mGet m k' := by
  unfold mPut; rw [mGet_ins_other _ _ _ _ hne, mGet_del_other _ _ _ hne]
theorem mIns_length (m : List (κ × Value)) (k : κ) (v : Value) : (mIns K k v m).length = m.length + 1 := by
  induction m with
  | nil => rfl
  | cons p r ih => unfold mIns; split <;> simp [ih]
theorem mDel_length_le (m : List (κ × Value)) (k : κ) : (mDel m k).length ≤ m.length := List.length_filter_le _ _
theorem mPut_length_le (m : List (κ × Value)) (k : κ) (v : Value) : (mPut K m k v).length ≤ m.length + 1 := by
  unfold mPut; rw [mIns_length]; have := mDel_length_le m k; omega
end
end Go.Proofs.YtdbkkldgobkjcaaGreat

namespace Go.Proofs.YtdbkkldgobkjcaaGreat
open Go.RowKit Go.Maps
namespace It

def key (x : Item) : List UInt8 := x.1.data.toList
def okC (x : Item) : Bool := good x.1 && countOk x.2
/-- how many of a good a list has in all -/
def tot (k : List UInt8) : List Item → Int
  | [] => 0
  | x :: l => (if key x = k then x.2 else 0) + tot k l
def over (l : List Item) : Bool := l.any fun x => decide (1099511627776 < tot (key x) l)
def sumsCode (l : List Item) : Int := if l.all okC then (if over l then 50 else 0) else 60

theorem tot_snoc (k : List UInt8) (l : List Item) (x : Item) : tot k (l ++ [x]) = tot k l + (if key x = k then x.2 else 0) := by
  induction l with
  | nil => simp [tot]
  | cons y l ih => simp only [List.cons_append, tot, ih]; omega
theorem tot_append (k : List UInt8) (l r : List Item) : tot k (l ++ r) = tot k l + tot k r := by
  induction l with
  | nil => simp [tot]
  | cons y l ih => simp only [List.cons_append, tot, ih]; omega
theorem okC_le {x : Item} (h : okC x = true) : 0 ≤ x.2 ∧ x.2 ≤ 1099511627776 := by
  unfold okC at h
  rw [Bool.and_eq_true] at h
  exact (countOk_iff _).1 h.2
theorem tot_nonneg (k : List UInt8) : ∀ (l : List Item), l.all okC = true → 0 ≤ tot k l
  | [], _ => by simp [tot]
  | x :: l, h => by
    rw [List.all_cons, Bool.and_eq_true] at h
    have h1 := tot_nonneg k l h.2
    have h2 := okC_le h.1
    simp only [tot]
    split <;> omega
theorem all_snoc (l : List Item) (x : Item) : (l ++ [x]).all okC = (l.all okC && okC x) := by simp
theorem all_prefix {p l : List Item} (h : p <+: l) (hl : l.all okC = true) : p.all okC = true := by
  obtain ⟨r, rfl⟩ := h
  rw [List.all_append, Bool.and_eq_true] at hl
  exact hl.1
theorem over_prefix {p l : List Item} (h : p <+: l) (hl : l.all okC = true) (hp : over p = true) : over l = true := by
  obtain ⟨r, rfl⟩ := h
  rw [List.all_append, Bool.and_eq_true] at hl
  obtain ⟨x, hx, hd⟩ := List.any_eq_true.1 hp
  refine List.any_eq_true.2 ⟨x, by simp [hx], ?_⟩
  rw [decide_eq_true_iff] at hd ⊢
  rw [tot_append]
  have := tot_nonneg (key x) r hl.2
  omega
theorem over_not {l : List Item} (h : over l = false) {x : Item} (hx : x ∈ l) : tot (key x) l ≤ 1099511627776 := by
  have := List.any_eq_false.1 h x hx
  simpa using this
theorem tot_out {k : List UInt8} : ∀ {l : List Item}, k ∉ l.map key → tot k l = 0
  | [], _ => rfl
  | x :: l, h => by
    rw [List.map_cons, List.mem_cons, not_or] at h
    simp only [tot]
    rw [if_neg (fun e => h.1 e.symm), tot_out h.2]
    rfl
theorem over_snoc {l : List Item} {x : Item} (h : over l = false) (hx : 0 ≤ x.2) : over (l ++ [x]) = decide (1099511627776 < tot (key x) l + x.2) := by
  rw [Bool.eq_iff_iff, decide_eq_true_iff]
  unfold over
  rw [List.any_eq_true]
  constructor
  · rintro ⟨y, hy, hd⟩
    rw [decide_eq_true_iff, tot_snoc] at hd
    by_cases e : key x = key y
    · rw [if_pos e] at hd; rw [e]; exact hd
    · rw [if_neg e] at hd
      rw [List.mem_append, List.mem_singleton] at hy
      rcases hy with hy | rfl
      · have := over_not h hy; omega
      · exact absurd rfl e
  · intro hd
    refine ⟨x, by simp, ?_⟩
    rw [decide_eq_true_iff, tot_snoc, if_pos rfl]
    exact hd
theorem tot_le {l : List Item} (h : over l = false) (k : List UInt8) : tot k l ≤ 1099511627776 := by
  by_cases hk : k ∈ l.map key
  · obtain ⟨x, hx, rfl⟩ := List.mem_map.1 hk
    exact over_not h hx
  · rw [tot_out hk]; omega

/-- the map says of each good how many there are -/
def Tells (m : List (List UInt8 × Value)) (l : List Item) : Prop := ∀ k, mGet m k = if k ∈ l.map key then some (.int .i64 (tot k l)) else none
theorem Tells.nil : Tells [] [] := fun _ => rfl
theorem Tells.put {m : List (List UInt8 × Value)} {l : List Item} (h : Tells m l) (x : Item) : Tells (mPut strK m (key x) (.int .i64 (tot (key x) l + x.2))) (l ++ [x]) := by
  intro k
  rw [tot_snoc]
  by_cases e : k = key x
  · subst e
    rw [mGet_put_same, if_pos (by simp), if_pos rfl]
  · rw [mGet_put_other _ _ _ _ e, h k, if_neg (Ne.symm e), Int.add_zero]
    have : k ∈ (l ++ [x]).map key ↔ k ∈ l.map key := by simp [e]
    by_cases hk : k ∈ l.map key
    · rw [if_pos hk, if_pos (this.2 hk)]
    · rw [if_neg hk, if_neg (fun h => hk (this.1 h))]
theorem Tells.have_ {m : List (List UInt8 × Value)} {l : List Item} (h : Tells m l) (k : List UInt8) : (mGet m k).getD (.int .i64 0) = .int .i64 (tot k l) := by
  rw [h k]
  by_cases hk : k ∈ l.map key
  · rw [if_pos hk]; rfl
  · rw [if_neg hk, tot_out hk]; rfl
end It
end Go.Proofs.YtdbkkldgobkjcaaGreat

namespace Go.Proofs.YtdbkkldgobkjcaaGreat
open Go.RowKit Go.Maps
namespace It
attribute [local go_sem] Oper.semAt_some

theorem keyedS : Keyed Tryz.prog 9 := string_keyed Tryz.underlying9
theorem zeroI (w : World) : (zeroValue 3).run Tryz.prog w = .ok (.int .i64 0) w := by kernel_rfl
theorem key_str {s : ByteArray} (h : s.size ≤ maxLen) : keyOf Tryz.prog 9 (.string s) = some (strK.lit s.data.toList) := WideMaps.keyOf_string_mk Tryz.underlying9 h

set_option maxRecDepth 100000 in
set_option maxHeartbeats 4000000 in
theorem sums_calls (L : List Item) (v : Value) (w : World) (hI : ItemsAt w 0 w.heap.size v L) (hF : Fits L) :
    Calls Tryz.prog 130 #[v] w fun e w' => ((sumsCode L = 0 ∧ ∃ b m, e = .returned (.tuple #[.map (some b), .int .i64 0]) ∧ w.heap.size ≤ b ∧ GMap strK w' Tryz.prog 9 b m ∧ m.length ≤ L.length ∧ Tells m L) ∨
      (sumsCode L ≠ 0 ∧ e = .returned (.tuple #[.map none, .int .i64 (sumsCode L)]))) ∧ Below w.heap.size w w' := by
  obtain ⟨A, c, rfl, hc1, hc2⟩ := hI.form
  unfold maxLen at hc2
  refine (callsIn_wide (n := 6)).1 ?_
  refine callsIn_of_wp_marks Tryz.func130 rfl trivial ?_ rfl
  simp only [Tryz.ntmps130, List.size_toArray, List.length_cons, List.length_nil, Nat.reduceAdd, Nat.reduceSub, Array.replicate_succ, Array.replicate_zero, List.push_toArray, List.append_toArray, List.nil_append, List.cons_append]
  have hmm := @run_makeMap Tryz.prog
  gi_wp2_with (refine ⟨trivial, ?_⟩; gi_at_call 86; refine (callsIn_wide.2 (all_calls A _ c _)).mono ?_; rintro e w' ⟨rfl, rfl⟩)
  have bm : Boxed (((((w.alloc (.cells #[.map none] 181)).alloc (.cells #[.int .i64 0] 33)).alloc (.map #[] 0)).alloc (.cells #[.map (some (w.heap.size + 1 + 1))] 181)).alloc (.cells #[.slice A L.length c] 30)) w.heap.size 181 (.map none) :=
    ((((Boxed.new w _ _).alloc _).alloc _).alloc _).alloc _
  have be : Boxed (((((w.alloc (.cells #[.map none] 181)).alloc (.cells #[.int .i64 0] 33)).alloc (.map #[] 0)).alloc (.cells #[.map (some (w.heap.size + 1 + 1))] 181)).alloc (.cells #[.slice A L.length c] 30)) (w.heap.size + 1) 33 (.int .i64 0) := by
    have := (((Boxed.new (w.alloc (.cells #[.map none] 181)) 33 (.int .i64 0)).alloc (.map #[] 0)).alloc (.cells #[.map (some (w.heap.size + 1 + 1))] 181)).alloc (.cells #[.slice A L.length c] 30)
    simpa only [World.size_alloc] using this
  have gm : GMap strK (((((w.alloc (.cells #[.map none] 181)).alloc (.cells #[.int .i64 0] 33)).alloc (.map #[] 0)).alloc (.cells #[.map (some (w.heap.size + 1 + 1))] 181)).alloc (.cells #[.slice A L.length c] 30)) Tryz.prog 9 (w.heap.size + 1 + 1) [] := by
    have := ((GMap.made (K := strK) ((w.alloc (.cells #[.map none] 181)).alloc (.cells #[.int .i64 0] 33)) Tryz.prog 9).kept (World.grownBy_alloc _ (.cells #[.map (some (w.heap.size + 1 + 1))] 181) none) (by simp)).kept (World.grownBy_alloc _ (.cells #[.slice A L.length c] 30) none) (by simp)
    simpa only [World.size_alloc] using this
  have bx : Boxed (((((w.alloc (.cells #[.map none] 181)).alloc (.cells #[.int .i64 0] 33)).alloc (.map #[] 0)).alloc (.cells #[.map (some (w.heap.size + 1 + 1))] 181)).alloc (.cells #[.slice A L.length c] 30)) (w.heap.size + 1 + 1 + 1) 181 (.map (some (w.heap.size + 1 + 1))) := by
    have := (Boxed.new (((w.alloc (.cells #[.map none] 181)).alloc (.cells #[.int .i64 0] 33)).alloc (.map #[] 0)) 181 (.map (some (w.heap.size + 1 + 1)))).alloc (.cells #[.slice A L.length c] 30)
    simpa only [World.size_alloc] using this
  have bl : Boxed (((((w.alloc (.cells #[.map none] 181)).alloc (.cells #[.int .i64 0] 33)).alloc (.map #[] 0)).alloc (.cells #[.map (some (w.heap.size + 1 + 1))] 181)).alloc (.cells #[.slice A L.length c] 30)) (w.heap.size + 1 + 1 + 1 + 1) 30 (.slice A L.length c) := by
    have := Boxed.new ((((w.alloc (.cells #[.map none] 181)).alloc (.cells #[.int .i64 0] 33)).alloc (.map #[] 0)).alloc (.cells #[.map (some (w.heap.size + 1 + 1))] 181)) 30 (.slice A L.length c)
    simpa only [World.size_alloc] using this
  have hB1 : Below w.heap.size w (((((w.alloc (.cells #[.map none] 181)).alloc (.cells #[.int .i64 0] 33)).alloc (.map #[] 0)).alloc (.cells #[.map (some (w.heap.size + 1 + 1))] 181)).alloc (.cells #[.slice A L.length c] 30)) :=
    (((((Below.refl _ w).alloc (Nat.le_refl _) _).alloc (by simp) _).alloc (by simp; omega) _).alloc (by simp; omega) _).alloc (by simp; omega) _
  have hs1 : w.heap.size + 1 + 1 + 1 + 1 + 1 = (((((w.alloc (.cells #[.map none] 181)).alloc (.cells #[.int .i64 0] 33)).alloc (.map #[] 0)).alloc (.cells #[.map (some (w.heap.size + 1 + 1))] 181)).alloc (.cells #[.slice A L.length c] 30)).heap.size := by simp
  generalize (((((w.alloc (.cells #[.map none] 181)).alloc (.cells #[.int .i64 0] 33)).alloc (.map #[] 0)).alloc (.cells #[.map (some (w.heap.size + 1 + 1))] 181)).alloc (.cells #[.slice A L.length c] 30)) = w1 at *
  refine range_all (n := 6) rfl trivial (by omega) (Bs := w.heap.size + 1 + 1 + 1 + 1) (n₀ := w.heap.size) (v := .slice A L.length c) (L := L) rfl rfl (by omega) (by omega) bl.cell (hI.below hB1)
    (fun pre W => (vals pre).all okC = true ∧ Boxed W w.heap.size 181 (.map none) ∧ Boxed W (w.heap.size + 1) 33 (.int .i64 0) ∧ Boxed W (w.heap.size + 1 + 1 + 1) 181 (.map (some (w.heap.size + 1 + 1))) ∧ GMap strK W Tryz.prog 9 (w.heap.size + 1 + 1) [])
    (fun c pre W => c = .ret ∧ (vals pre).all okC = false ∧ Boxed W w.heap.size 181 (.map none) ∧ Boxed W (w.heap.size + 1) 33 (.int .i64 60))
    (fun s A B row hs hg hr => ⟨hs.1, boxed_keep hs.2.1 hg (fun r e => (hr r e).2), boxed_keep hs.2.2.1 hg (fun r e => (hr r e).2), boxed_keep hs.2.2.2.1 hg (fun r e => (hr r e).2), hs.2.2.2.2.kept hg (fun e => by have := (hr _ e.symm).1; omega)⟩)
    (fun c s A B row hs hg hr => ⟨hs.1, hs.2.1, boxed_keep hs.2.2.1 hg (fun r e => (hr r e).2), boxed_keep hs.2.2.2 hg (fun r e => (hr r e).2)⟩)
    ⟨rfl, bm, be, bx, gm⟩
    (fun x => { tmps := #[.slice A L.length c, undef, .pointer (some ⟨w.heap.size, 0, none⟩), .pointer (some ⟨w.heap.size + 1, 0, none⟩), .pointer (some ⟨w.heap.size + 1 + 1 + 1, 0, none⟩), .string x.1.1, .int .i64 x.1.2, undef, undef, undef, undef, .map (some (w.heap.size + 1 + 1)), .slice A L.length c, .func (.func 117) #[] #[.pointer (some ⟨w.heap.size + 1 + 1 + 1 + 1, 0, none⟩)], .string x.1.1, .int .i64 x.1.2, undef, undef, undef, undef, undef, undef, undef, undef, undef, undef, undef, undef, undef, undef, undef, undef, undef, undef, undef, undef, undef, undef, undef, undef, undef, undef, undef], defers := [] }) ?assign ?body ?done ?stop
  case assign =>
    intro l x W K hK
    dsimp only [enc2]
    gi_wp2
    exact hK
  case body =>
    rintro l pre ⟨⟨xs, xn⟩, hx⟩ W ⟨hm, hbm, hbe, hbx, hgm⟩ hB hsz hlen
    have hfit := hF _ hx
    have hS := Lib.hid (show (vals (pre ++ [⟨(xs, xn), hx⟩])).all okC = (good xs && countOk xn) by rw [vals_snoc, all_snoc, hm]; rfl)
    have HM := Lib.hid hm
    clear hm
    dsimp only at hfit ⊢
    have cG := Lib.hid (fun W => good_calls xs W hfit.1)
    generalize good xs = g at *
    have cN := Lib.hid (fun W => count_calls xn W)
    generalize countOk xn = cn at *
    cases g
    all_goals cases cn
    all_goals gi_wp2_with (first | (refine ⟨trivial, ?_⟩; gi_at_call 87; refine (CallsIn.inRound l (callsIn_wide.2 (cG.out _))).mono ?_; rintro e W1 ⟨rfl, h1⟩; have hbm1 := boxed_below hbm h1; have hbe1 := boxed_below hbe h1; have hcm1 := hbm1.cell; have hfm1 := hbm1.frozen; have hce1 := hbe1.cell; have hfe1 := hbe1.frozen) | (refine ⟨trivial, ?_⟩; gi_at_call 88; refine (CallsIn.inRound l (callsIn_wide.2 (cN.out _))).mono ?_; rintro e W2 ⟨rfl, rfl⟩) | (refine ⟨trivial, ?_⟩))
    all_goals first
      | exact ⟨keeps_set (keeps_set (keeps_below _ h1) _ _) _ _, ((h1.mono (B' := w.heap.size) (by omega)).setCell (p := ⟨w.heap.size, 0, none⟩) (Nat.le_refl _) _).setCell (p := ⟨w.heap.size + 1, 0, none⟩) (by simp) _, rfl, by rw [hS.out]; rfl, (hbm1.set _).other (by omega) _, (hbe1.other (by omega) _).set _⟩
      | exact ⟨keeps_below _ h1, h1.mono (B' := w.heap.size) (by omega), by rw [hS.out]; rfl, hbm1, hbe1, boxed_below hbx h1, hgm.below h1 hgm.lt⟩
  case done =>
    rintro D W hD ⟨hm, hbm, hbe, hbx, hgm⟩ hB hK
    rw [vals_all] at hm
    have HM := Lib.hid hm
    clear hm
    gi_wp2_with (refine ⟨trivial, ?_⟩; gi_at_call 86; refine (callsIn_wide.2 (all_calls A _ c _)).mono ?_; rintro e w' ⟨rfl, rfl⟩)
    have hK2 : (W.alloc (.cells #[.slice A L.length c] 30)).heap[D]? = some (.deferred (some [])) := by
      have hlt := (Array.getElem?_eq_some_iff.1 hK).1
      exact (((World.grownBy_alloc W (.cells #[.slice A L.length c] 30) none).block D hlt (by simp))).trans hK
    have hbm2 := hbm.alloc (.cells #[.slice A L.length c] 30)
    have hbe2 := hbe.alloc (.cells #[.slice A L.length c] 30)
    have hbx2 := hbx.alloc (.cells #[.slice A L.length c] 30)
    have hgm2 := hgm.kept (World.grownBy_alloc W (.cells #[.slice A L.length c] 30) none) (by simp)
    have hbl2 := Boxed.new W 30 (.slice A L.length c)
    have hB2 : Below w.heap.size w (W.alloc (.cells #[.slice A L.length c] 30)) := (hB1.trans hB).alloc (hB1.trans hB).size _
    have hs2 : W.heap.size + 1 = (W.alloc (.cells #[.slice A L.length c] 30)).heap.size := by simp
    have hsW := hB.size
    have hDlt := (Array.getElem?_eq_some_iff.1 hK).1
    have hlx := hbx.lt
    generalize W.alloc (.cells #[.slice A L.length c] 30) = w2 at *
    refine range_all (n := 6) rfl trivial (by omega) (Bs := W.heap.size) (n₀ := w.heap.size) (v := .slice A L.length c) (L := L) rfl rfl (by omega) (by omega) hbl2.cell (hI.below hB2)
      (fun pre X => over (vals pre) = false ∧ Boxed X w.heap.size 181 (.map none) ∧ Boxed X (w.heap.size + 1) 33 (.int .i64 0) ∧ Boxed X (w.heap.size + 1 + 1 + 1) 181 (.map (some (w.heap.size + 1 + 1))) ∧ X.heap[D]? = some (.deferred (some [])) ∧
        ∃ m, GMap strK X Tryz.prog 9 (w.heap.size + 1 + 1) m ∧ m.length ≤ pre.length ∧ Tells m (vals pre))
      (fun c pre X => c = .ret ∧ over (vals pre) = true ∧ Boxed X w.heap.size 181 (.map none) ∧ Boxed X (w.heap.size + 1) 33 (.int .i64 50) ∧ X.heap[D]? = some (.deferred (some [])))
      (fun s A B row hs hg hr => ⟨hs.1, boxed_keep hs.2.1 hg (fun r e => (hr r e).2), boxed_keep hs.2.2.1 hg (fun r e => (hr r e).2), boxed_keep hs.2.2.2.1 hg (fun r e => (hr r e).2), (hg.block D (Array.getElem?_eq_some_iff.1 hs.2.2.2.2.1).1 (fun e => by have := (hr _ e.symm).1; omega)).trans hs.2.2.2.2.1, by
        obtain ⟨m, h1, h2⟩ := hs.2.2.2.2.2
        exact ⟨m, h1.kept hg (fun e => by have := (hr _ e.symm).1; omega), h2⟩⟩)
      (fun c s A B row hs hg hr => ⟨hs.1, hs.2.1, boxed_keep hs.2.2.1 hg (fun r e => (hr r e).2), boxed_keep hs.2.2.2.1 hg (fun r e => (hr r e).2), (hg.block D (Array.getElem?_eq_some_iff.1 hs.2.2.2.2).1 (fun e => by have := (hr _ e.symm).1; omega)).trans hs.2.2.2.2⟩)
      ⟨rfl, hbm2, hbe2, hbx2, hK2, [], hgm2, by simp, Tells.nil⟩
      (fun x => { tmps := #[.slice A L.length c, undef, .pointer (some ⟨w.heap.size, 0, none⟩), .pointer (some ⟨w.heap.size + 1, 0, none⟩), .pointer (some ⟨w.heap.size + 1 + 1 + 1, 0, none⟩), undef, undef, .string x.1.1, .int .i64 x.1.2, undef, undef, .map (some (w.heap.size + 1 + 1)), .slice A L.length c, .func (.func 117) #[] #[.pointer (some ⟨w.heap.size + 1 + 1 + 1 + 1, 0, none⟩)], undef, undef, undef, undef, undef, undef, undef, undef, undef, undef, .slice A L.length c, .func (.func 117) #[] #[.pointer (some ⟨W.heap.size, 0, none⟩)], .string x.1.1, .int .i64 x.1.2, undef, undef, undef, undef, undef, undef, undef, undef, undef, undef, undef, undef, undef, undef, undef], defers := [] }) ?assign2 ?body2 ?done2 ?stop2
    case assign2 =>
      intro l x W K hK
      dsimp only [enc2]
      gi_wp2
      exact hK
    case body2 =>
      rintro l pre ⟨⟨xs, xn⟩, hx⟩ X ⟨ho, hbm, hbe, hbx, hKD, m, hgm, hml, hT⟩ hB' hsz hlen
      have hfit := hF _ hx
      have hok := okC_le (List.all_eq_true.1 HM.out _ hx)
      have hall : (vals pre).all okC = true := List.all_eq_true.2 fun y hy => by
        obtain ⟨z, _, rfl⟩ := List.mem_map.1 hy
        exact List.all_eq_true.1 HM.out _ z.2
      have ht0 := tot_nonneg (key (xs, xn)) _ hall
      have ht1 := tot_le ho (key (xs, xn))
      have hget := Lib.hid (hT.have_ (key (xs, xn)))
      have hput := Lib.hid (hT.put (xs, xn))
      have hOS := Lib.hid (show over (vals (pre ++ [⟨(xs, xn), hx⟩])) = decide (1099511627776 < tot (key (xs, xn)) (vals pre) + xn) by rw [vals_snoc]; exact over_snoc ho hok.1)
      have hV := Lib.hid (vals_snoc pre ⟨(xs, xn), hx⟩)
      have hkey := Lib.hid (key_str hfit.1)
      have cA := Lib.hid (fun W => add_calls (tot (key (xs, xn)) (vals pre)) xn W)
      have hC := Lib.hid (show addOf (tot (key (xs, xn)) (vals pre)) xn = if tot (key (xs, xn)) (vals pre) + xn ≤ 1099511627776 then (tot (key (xs, xn)) (vals pre) + xn, 0) else (0, 50) by
        unfold addOf
        rw [if_pos (by rw [Bool.and_eq_true]; exact ⟨(countOk_iff _).2 ⟨ht0, ht1⟩, (countOk_iff _).2 hok⟩)])
      clear hT ho hall
      generalize addOf (tot (key (xs, xn)) (vals pre)) xn = AO at *
      generalize tot (key (xs, xn)) (vals pre) = t at *
      dsimp only at hfit hok ⊢
      have hcm := hbm.cell
      have hfm := hbm.frozen
      have hce := hbe.cell
      have hfe := hbe.frozen
      have hcx := hbx.cell
      by_cases hle : t + xn ≤ 1099511627776
      · obtain rfl : AO = (t + xn, 0) := by rw [hC.out, if_pos hle]
        dsimp only at cA
        gi_wp2_with (first
          | (gi_at_lookup; refine wpListIn_look_g rfl (.tmp 29) (.tmp 30) _ rfl 9 _ keyedS Tryz.underlying181 rfl hgm (zeroI _) _ _ rfl hkey.out _ hget.out ?_)
          | (refine ⟨trivial, ?_⟩; gi_at_call 145; refine (CallsIn.inRound l (callsIn_wide.2 (cA.out _))).mono ?_; rintro e X1 ⟨rfl, h1⟩; have hcx1 := (boxed_below hbx h1).cell; have hgm1 := hgm.below h1 hgm.lt)
          | (gi_at_mapUpdate; refine wpListIn_put_g rfl (.tmp 39) (.tmp 40) (.tmp 41) _ rfl 9 _ keyedS Tryz.underlying181 rfl hgm1 (by unfold maxLen; omega) _ _ _ rfl rfl hkey.out ?_; intro X2 hgm2 hg2))
        have hsz1 := h1.size
        have hsz2 := hg2.size
        refine ⟨⟨Nat.le_trans hsz1 hsz2, fun k _ hk ho _ => (hg2.block k (Nat.lt_of_lt_of_le (Array.getElem?_eq_some_iff.1 ho).1 hsz1) (fun e => by have := Option.some.inj e; omega)).trans ((h1.block k (Array.getElem?_eq_some_iff.1 ho).1).trans ho)⟩,
          (h1.mono (B' := w.heap.size) (by omega)).grown hg2 (by omega) (fun g hg => by have := Option.some.inj hg; omega), ?_, (boxed_below hbm h1).kept hg2 (fun e => by have := Option.some.inj e; omega), (boxed_below hbe h1).kept hg2 (fun e => by have := Option.some.inj e; omega), (boxed_below hbx h1).kept hg2 (fun e => by have := Option.some.inj e; omega), ?_, _, hgm2, ?_, ?_⟩
        · rw [hOS.out]; exact decide_eq_false (by omega)
        · have hlt := (Array.getElem?_eq_some_iff.1 hKD).1
          exact (hg2.block D (by omega) (fun e => by have := Option.some.inj e; omega)).trans ((h1.block D hlt).trans hKD)
        · rw [List.length_append]
          exact Nat.le_trans (mPut_length_le _ _ _) (by simpa using hml)
        · rw [hV.out]; exact hput.out
      · obtain rfl : AO = (0, 50) := by rw [hC.out, if_neg hle]
        dsimp only at cA
        gi_wp2_with (first
          | (gi_at_lookup; refine wpListIn_look_g rfl (.tmp 29) (.tmp 30) _ rfl 9 _ keyedS Tryz.underlying181 rfl hgm (zeroI _) _ _ rfl hkey.out _ hget.out ?_)
          | (refine ⟨trivial, ?_⟩; gi_at_call 145; refine (CallsIn.inRound l (callsIn_wide.2 (cA.out _))).mono ?_; rintro e X1 ⟨rfl, h1⟩; have hcm1 := (boxed_below hbm h1).cell; have hfm1 := (boxed_below hbm h1).frozen; have hce1 := (boxed_below hbe h1).cell; have hfe1 := (boxed_below hbe h1).frozen))
        refine ⟨keeps_set (keeps_set (keeps_below _ h1) _ _) _ _, ((h1.mono (B' := w.heap.size) (by omega)).setCell (p := ⟨w.heap.size, 0, none⟩) (Nat.le_refl _) _).setCell (p := ⟨w.heap.size + 1, 0, none⟩) (by simp) _, rfl, ?_, ((boxed_below hbm h1).set _).other (by omega) _, ((boxed_below hbe h1).other (by omega) _).set _, ?_⟩
        · rw [hOS.out]; exact decide_eq_true (by omega)
        · have hlt := (Array.getElem?_eq_some_iff.1 hKD).1
          have hs1 := h1.size
          have e1 := (grownBy_setCell' X1 w.heap.size (.map none)).block D (by omega) (fun e => by have := Option.some.inj e; omega)
          have e2 := (grownBy_setCell' (X1.setCell ⟨w.heap.size, 0, none⟩ (.map none)) (w.heap.size + 1) (.int .i64 50)).block D (by have := (grownBy_setCell' X1 w.heap.size (.map none)).size; omega) (fun e => by have := Option.some.inj e; omega)
          exact e2.trans (e1.trans ((h1.block D hlt).trans hKD))
    case done2 =>
      rintro D2 X hD2 ⟨ho, hbm, hbe, hbx, hKD, m, hgm, hml, hT⟩ hB' hK2
      rw [vals_all] at ho hT
      have hcm := hbm.cell
      have hfm := hbm.frozen
      have hce := hbe.cell
      have hfe := hbe.frozen
      have hcx := hbx.cell
      gi_wp2
      have HC := Lib.hid (show sumsCode L = 0 by unfold sumsCode; rw [HM.out, ho]; rfl)
      have hlt := (Array.getElem?_eq_some_iff.1 hKD).1
      have g1 := grownBy_setCell' X w.heap.size (.map (some (w.heap.size + 1 + 1)))
      have g2 := grownBy_setCell' (X.setCell ⟨w.heap.size, 0, none⟩ (.map (some (w.heap.size + 1 + 1)))) (w.heap.size + 1) (.int .i64 0)
      have hK3 := (g2.block D2 (by have := g1.size; have := (Array.getElem?_eq_some_iff.1 hK2).1; omega) (fun e => by have := Option.some.inj e; omega)).trans ((g1.block D2 (Array.getElem?_eq_some_iff.1 hK2).1 (fun e => by have := Option.some.inj e; omega)).trans hK2)
      have hKD3 := (g2.block D (by have := g1.size; omega) (fun e => by have := Option.some.inj e; omega)).trans ((g1.block D hlt (fun e => by have := Option.some.inj e; omega)).trans hKD)
      have hbm3 := (hbm.set (.map (some (w.heap.size + 1 + 1)))).other (B' := w.heap.size + 1) (by omega) (.int .i64 0)
      have hbe3 := (hbe.other (B' := w.heap.size) (by omega) (.map (some (w.heap.size + 1 + 1)))).set (.int .i64 0)
      have hgm3 := (hgm.kept g1 (fun e => by have := Option.some.inj e; omega)).kept g2 (fun e => by have := Option.some.inj e; omega)
      have hB3 := ((hB2.trans hB').setCell (p := ⟨w.heap.size, 0, none⟩) (Nat.le_refl _) (.map (some (w.heap.size + 1 + 1)))).setCell (p := ⟨w.heap.size + 1, 0, none⟩) (by simp) (.int .i64 0)
      clear hcm hfm hce hfe hcx g1 g2
      generalize (X.setCell ⟨w.heap.size, 0, none⟩ (.map (some (w.heap.size + 1 + 1)))).setCell ⟨w.heap.size + 1, 0, none⟩ (.int .i64 0) = Y at *
      have hKD4 := ((grownBy_putObj' Y D2 (.deferred none)).block D (Array.getElem?_eq_some_iff.1 hKD3).1 (fun e => by have := Option.some.inj e; omega)).trans hKD3
      refine ⟨by simp, .inl ⟨_, _, rfl, run_takeDeferred hK3, ⟨by simp, .inl ⟨_, _, rfl, run_takeDeferred hKD4, ?_⟩⟩⟩⟩
      have hc5 := (boxed_end (boxed_end hbm3 hK3) hKD4).cell
      have hc6 := (boxed_end (boxed_end hbe3 hK3) hKD4).cell
      refine ⟨.tuple #[.map (some (w.heap.size + 1 + 1)), .int .i64 0], ?_, .inl ⟨HC.out, _, _, rfl, by omega, (hgm3.kept (grownBy_putObj' _ D2 (.deferred none)) (fun e => by have := Option.some.inj e; omega)).kept (grownBy_putObj' _ D (.deferred none)) (fun e => by have := Option.some.inj e; omega), by simpa using hml, hT⟩, below_end (below_end hB3 (by omega) hK3) (by omega) hKD4⟩
      simp [results, Tryz.f130, go_sem, hc5, hc6]
    case stop2 =>
      rintro D2 k pre X hD2 hpre ⟨rfl, ho, hbm, hbe, hKD⟩ hB' hK2
      have HC := Lib.hid (show sumsCode L = 50 by
        unfold sumsCode
        rw [HM.out, over_prefix (vals_prefix hpre) HM.out ho]; rfl)
      clear ho
      gi_wp2
      have hlt := (Array.getElem?_eq_some_iff.1 hKD).1
      have hKD4 := ((grownBy_putObj' X D2 (.deferred none)).block D hlt (fun e => by have := Option.some.inj e; omega)).trans hKD
      refine ⟨by simp, .inl ⟨_, _, rfl, run_takeDeferred hK2, ⟨by simp, .inl ⟨_, _, rfl, run_takeDeferred hKD4, ?_⟩⟩⟩⟩
      have hc5 := (boxed_end (boxed_end hbm hK2) hKD4).cell
      have hc6 := (boxed_end (boxed_end hbe hK2) hKD4).cell
      refine ⟨.tuple #[.map none, .int .i64 50], ?_, .inr ⟨by rw [HC.out]; omega, by rw [HC.out]⟩, below_end (below_end (hB2.trans hB') (by omega) hK2) (by omega) hKD4⟩
      simp [results, Tryz.f130, go_sem, hc5, hc6]
  case stop =>
    rintro D c pre W hD hpre ⟨rfl, hm, hbm, hbe⟩ hB hK
    have HC := Lib.hid (show sumsCode L = 60 by
      unfold sumsCode
      have : L.all okC = false := by
        cases h : L.all okC with
        | false => rfl
        | true => rw [all_prefix (vals_prefix hpre) h] at hm; cases hm
      rw [this]; rfl)
    clear hm
    gi_wp2
    refine ⟨by simp, .inl ⟨_, _, rfl, run_takeDeferred hK, ?_⟩⟩
    have hc5 := (boxed_end hbm hK).cell
    have hc6 := (boxed_end hbe hK).cell
    refine ⟨.tuple #[.map none, .int .i64 60], ?_, .inr ⟨by rw [HC.out]; omega, by rw [HC.out]⟩, below_end (hB1.trans hB) (by omega) hK⟩
    simp [results, Tryz.f130, go_sem, hc5, hc6]
end It
end Go.Proofs.YtdbkkldgobkjcaaGreat

namespace Go.Proofs.YtdbkkldgobkjcaaGreat
open Go.RowKit Go.Maps
namespace It

theorem uniq {α : Type} {r : α → α → Prop} (irr : ∀ x, ¬ r x x) (asy : ∀ x y, r x y → ¬ r y x) : ∀ {a b : List α}, a.Pairwise r → b.Pairwise r → (∀ x, x ∈ a ↔ x ∈ b) → a = b
  | [], [], _, _, _ => rfl
  | [], y :: b, _, _, h => by have := (h y).2 (by simp); simp at this
  | x :: a, [], _, _, h => by have := (h x).1 (by simp); simp at this
  | x :: a, y :: b, ha, hb, h => by
    rw [List.pairwise_cons] at ha hb
    have e : x = y := by
      rcases List.mem_cons.1 ((h x).1 (by simp)) with e | h1
      · exact e
      · rcases List.mem_cons.1 ((h y).2 (by simp)) with e | h2
        · exact e.symm
        · exact absurd (hb.1 x h1) (asy _ _ (ha.1 y h2))
    subst e
    rw [uniq irr asy ha.2 hb.2 fun z => ?_]
    constructor
    · intro hz
      rcases List.mem_cons.1 ((h z).1 (List.mem_cons_of_mem _ hz)) with rfl | h1
      · exact absurd (ha.1 _ hz) (irr _)
      · exact h1
    · intro hz
      rcases List.mem_cons.1 ((h z).2 (List.mem_cons_of_mem _ hz)) with rfl | h1
      · exact absurd (hb.1 _ hz) (irr _)
      · exact h1

abbrev Bs := List UInt8
theorem bs_irr (x : Bs) : ¬ x < x := List.lt_irrefl x
theorem bs_asy (x y : Bs) (h : x < y) : ¬ y < x := List.lt_asymm h
theorem bs_tri (x y : Bs) : x < y ∨ x = y ∨ y < x := by
  by_cases h1 : x < y
  · exact .inl h1
  · by_cases h2 : y < x
    · exact .inr (.inr h2)
    · exact .inr (.inl (List.le_antisymm (List.not_lt.1 h2) (List.not_lt.1 h1)))
theorem less_eq : ∀ (x y : Bs), Op.bytesLess x y = decide (x < y)
  | [], [] => by simp [Op.bytesLess]
  | [], _ :: _ => by simp [Op.bytesLess]
  | _ :: _, [] => by simp [Op.bytesLess]
  | a :: x, b :: y => by
    rw [Op.bytesLess, less_eq x y, Bool.eq_iff_iff]
    simp only [List.cons_lt_cons_iff]
    by_cases h1 : a < b
    · simp [h1]
    · by_cases h2 : a = b
      · subst h2; simp
      · simp [h1, h2]

def insK (k : Bs) : List Bs → List Bs
  | [] => [k]
  | y :: r => if k < y then k :: y :: r else if k = y then y :: r else y :: insK k r
def ksOf (l : List Bs) : List Bs := l.foldr insK []
theorem insK_mem (k : Bs) : ∀ (l : List Bs) (x : Bs), x ∈ insK k l ↔ x = k ∨ x ∈ l
  | [], x => by simp [insK]
  | y :: r, x => by
    unfold insK
    split
    · simp
    · split
      · rename_i h; subst h; simp
      · simp only [List.mem_cons, insK_mem k r x]
        constructor
        · rintro (h | h | h) <;> simp [h]
        · rintro (h | h | h) <;> simp [h]
theorem insK_sorted (k : Bs) : ∀ {l : List Bs}, l.Pairwise (· < ·) → (insK k l).Pairwise (· < ·)
  | [], _ => by simp [insK]
  | y :: r, h => by
    have h' := List.pairwise_cons.1 h
    unfold insK
    split
    · rename_i hk
      refine List.pairwise_cons.2 ⟨fun x hx => ?_, h⟩
      rcases List.mem_cons.1 hx with rfl | hx
      · exact hk
      · exact List.lt_trans hk (h'.1 x hx)
    · split
      · exact h
      · rename_i h1 h2
        refine List.pairwise_cons.2 ⟨fun x hx => ?_, insK_sorted k h'.2⟩
        rcases (insK_mem k r x).1 hx with rfl | hx
        · rcases bs_tri x y with h | h | h
          · exact absurd h h1
          · exact absurd h h2
          · exact h
        · exact h'.1 x hx
theorem ksOf_mem (l : List Bs) (x : Bs) : x ∈ ksOf l ↔ x ∈ l := by
  induction l with
  | nil => simp [ksOf]
  | cons y l ih => unfold ksOf at ih ⊢; rw [List.foldr_cons, insK_mem, ih]; simp
theorem ksOf_sorted (l : List Bs) : (ksOf l).Pairwise (· < ·) := by
  induction l with
  | nil => simp [ksOf]
  | cons y l ih => unfold ksOf at ih ⊢; rw [List.foldr_cons]; exact insK_sorted _ ih

/-- each good once, in order, with what there is of it in all, where that is above 0 -/
def pick (L : List Item) (k : Bs) : Option Item := if 0 < tot k L then some (⟨k.toArray⟩, tot k L) else none
def normL (L : List Item) : List Item := (ksOf (L.map key)).filterMap (pick L)
theorem key_mk (k : Bs) (n : Int) : key (⟨k.toArray⟩, n) = k := by simp [key]
theorem item_eta (x : Item) : x = (⟨(key x).toArray⟩, x.2) := by
  obtain ⟨⟨⟨s⟩⟩, n⟩ := x
  rfl
structure IsNorm (L out : List Item) : Prop where
  sorted : out.Pairwise fun a b => key a < key b
  has : ∀ x, x ∈ out ↔ (key x ∈ L.map key ∧ x.2 = tot (key x) L ∧ 0 < x.2)
theorem pick_some {L : List Item} {k : Bs} {x : Item} (h : pick L k = some x) : key x = k ∧ x.2 = tot k L ∧ 0 < x.2 := by
  unfold pick at h
  split at h
  · cases h; exact ⟨key_mk _ _, rfl, by assumption⟩
  · cases h
theorem isNorm_normL (L : List Item) : IsNorm L (normL L) := by
  refine ⟨?_, fun x => ?_⟩
  · unfold normL
    rw [List.pairwise_filterMap]
    refine (ksOf_sorted (L.map key)).imp_of_mem fun {a b} _ _ h x hx y hy => ?_
    rw [(pick_some hx).1, (pick_some hy).1]
    exact h
  · unfold normL
    rw [List.mem_filterMap]
    constructor
    · rintro ⟨k, hk, hx⟩
      obtain ⟨rfl, h2, h3⟩ := pick_some hx
      exact ⟨(ksOf_mem _ _).1 hk, h2, h3⟩
    · rintro ⟨h1, h2, h3⟩
      refine ⟨key x, (ksOf_mem _ _).2 h1, ?_⟩
      unfold pick
      rw [← h2, if_pos h3, ← item_eta]
theorem IsNorm.unique {L a b : List Item} (ha : IsNorm L a) (hb : IsNorm L b) : a = b :=
  uniq (r := fun a b : Item => key a < key b) (fun _ => bs_irr _) (fun _ _ => bs_asy _ _) ha.sorted hb.sorted fun x => by rw [ha.has, hb.has]
/-- the normal list, and why there is none -/
def normRes (L : List Item) : List Item × Int := if sumsCode L = 0 then (if (normL L).length ≤ 16 then (normL L, 0) else ([], 3)) else ([], sumsCode L)
end It
end Go.Proofs.YtdbkkldgobkjcaaGreat

namespace Go.Proofs.YtdbkkldgobkjcaaGreat
open Go.RowKit Go.Maps Go.Sort Go.Shelf
namespace Ks

theorem sorts (m : Nat) : AnyZ.SortsIn Tryz.prog Tryz.sorted131_ren Fence.wide m :=
  ⟨fun blk off cap ss W hH hblk hsz => callsIn_wide.2 (AnyM.slices_Sort_string Tryz.sort147 blk off cap ss W hH hblk hsz),
   fun p cap W => callsIn_wide.2 (AnyM.slices_Sort_string_none Tryz.sort147 p cap W)⟩

/-- maps.Keys: a function value over one new block that holds the map -/
theorem keys_calls (mb : Option Nat) (W : World) : CallsIn Fence.wide 5 Tryz.prog 132 #[.map mb] W fun e w' => e = .returned (.func (.func 148) #[] #[.pointer (some ⟨W.heap.size, 0, none⟩)]) ∧ w' = W.alloc (.cells #[.map mb] 181) :=
  AnyZ.keys_in Tryz.keys132 Fence.wide 5 trivial rfl mb W

set_option maxHeartbeats 1000000 in
/-- slices.Sorted at what maps.Keys handed back: a new slice that holds the keys, sorted -/
theorem sorted_calls {H : Type} (b nn : Nat) (D0 : DataW H) (R : Value → Option (DataW H × List MemPlace)) (w : World) (hown : w.ownsMap Tryz.prog 9 R b nn D0) (hmax : Maps.size D0 ≤ maxLen) (hbytes : Maps.size D0 * 16 ≤ 140737488355328) :
    CallsIn Fence.wide 5 Tryz.prog 131 #[.func (.func 148) #[] #[.pointer (some ⟨w.heap.size, 0, none⟩)]] (w.alloc (.cells #[.map (some b)] 181)) fun e w' => ∃ (v : Value) (ss : List (List UInt8)), e = .returned v ∧ ss.Perm (strKeys D0) ∧
      w'.ownsRow (w.alloc (.cells #[.map (some b)] 181)).heap.size 9 1 v ss.length ((ss.mergeSort (fun x y => decide (x ≤ y))).map encStr) ∧ (v = .slice none 0 0 ↔ ss = []) ∧ Below (w.alloc (.cells #[.map (some b)] 181)).heap.size (w.alloc (.cells #[.map (some b)] 181)) w' := by
  have hbl := hown.lt
  have hseq : SeqGives Fence.wide 2 Tryz.prog 148 #[.pointer (some ⟨w.heap.size, 0, none⟩)] encStr (fun ss => ss.Perm (strKeys D0)) (Maps.size D0) (w.alloc (.cells #[.map (some b)] 181)) :=
    AnyZ.keys_gives (ρ := Tryz.keys132_ren) { Tryz.keys132 with } Fence.wide _ trivial rfl (by omega) w.heap.size b nn D0 _ (by simp) (by simp) (by
      obtain ⟨es, clock, hb, Ft, hs, hD⟩ := hown
      exact ⟨es, clock, (Below.heap_alloc _ _ b hbl).trans hb, Ft, hs, hD⟩)
  exact AnyZ.sorted_in Tryz.sorted131 Fence.wide 5 trivial trivial trivial trivial rfl (by omega) (sorts _) (enters_of Tryz.func147 (by kernel_rfl) rfl) 148 #[.pointer (some ⟨w.heap.size, 0, none⟩)] trivial (enters_of Tryz.func148 (by kernel_rfl) rfl) _ _ hmax hbytes _ hseq
end Ks
end Go.Proofs.YtdbkkldgobkjcaaGreat

namespace Go.Proofs.YtdbkkldgobkjcaaGreat
open Go.RowKit Go.Maps Go.Sort
namespace It

theorem mem_keys {m : List (Bs × Value)} {k : Bs} : k ∈ m.map (·.1) ↔ (mGet m k).isSome = true := by
  unfold mGet
  rw [Option.isSome_map, List.find?_isSome, List.mem_map]
  simp
theorem keys_eq {m : List (Bs × Value)} {ss : List Bs} {L : List Item} (hT : Tells m L) (hs : m.Pairwise (fun p q => strK.lt p.1 q.1 = true)) (hp : ss.Perm (m.map (·.1))) :
    ss.mergeSort (fun x y => decide (x ≤ y)) = ksOf (L.map key) := by
  have hpm := (List.mergeSort_perm ss (fun x y => decide (x ≤ y))).trans hp
  refine uniq bs_irr bs_asy ?_ (ksOf_sorted _) fun x => ?_
  · have h1 : (ss.mergeSort (fun x y => decide (x ≤ y))).Pairwise (fun a b => decide (a ≤ b) = true) :=
      List.pairwise_mergeSort (fun a b c h1 h2 => by simp only [decide_eq_true_eq] at *; exact List.le_trans h1 h2) (fun a b => by simp only [Bool.or_eq_true, decide_eq_true_eq]; exact List.le_total a b) ss
    have h2 : (ss.mergeSort (fun x y => decide (x ≤ y))).Nodup := by
      rw [hpm.nodup_iff, List.nodup_iff_pairwise_ne, List.pairwise_map]
      refine hs.imp_of_mem fun {p q} _ _ h e => ?_
      rw [e] at h
      rw [show strK.lt q.1 q.1 = bytesBefore q.1 q.1 from rfl, WideAt.bytes_irrefl] at h
      cases h
    refine (h1.and (List.nodup_iff_pairwise_ne.1 h2)).imp_of_mem fun {a b} _ _ h => ?_
    simp only [decide_eq_true_eq] at h
    rcases bs_tri a b with h3 | h3 | h3
    · exact h3
    · exact absurd h3 h.2
    · exact absurd h3 (List.not_lt.2 h.1)
  · rw [hpm.mem_iff, mem_keys, hT x, ksOf_mem]
    by_cases hx : x ∈ L.map key <;> simp [hx]
theorem strKeys_mEs (m : List (Bs × Value)) : strKeys (DataW.map (mEs strK m)) = m.map (·.1) := by
  simp [strKeys, mEs, Function.comp_def, strOf, strK]
theorem normL_len (L : List Item) : (normL L).length ≤ (ksOf (L.map key)).length := List.length_filterMap_le _ _
def outTo (L : List Item) (k : Nat) : List Item := ((ksOf (L.map key)).take k).filterMap (pick L)
theorem outTo_len (L : List Item) (k : Nat) : (outTo L k).length ≤ k := Nat.le_trans (List.length_filterMap_le _ _) (by rw [List.length_take]; omega)
theorem outTo_succ (L : List Item) (k : Nat) (h : k < (ksOf (L.map key)).length) : outTo L (k + 1) = outTo L k ++ (if 0 < tot ((ksOf (L.map key)).getD k []) L then [(⟨((ksOf (L.map key)).getD k []).toArray⟩, tot ((ksOf (L.map key)).getD k []) L)] else []) := by
  have hg : (ksOf (L.map key)).getD k [] = (ksOf (L.map key))[k] := by simp [h]
  unfold outTo
  rw [List.take_add_one, List.getElem?_eq_getElem h, List.filterMap_append, hg]
  congr 1
  simp only [Option.toList_some, List.filterMap_cons, List.filterMap_nil, pick]
  split <;> simp_all
theorem outTo_all (L : List Item) : outTo L (ksOf (L.map key)).length = normL L := by unfold outTo normL; rw [List.take_length]

set_option maxRecDepth 100000 in
set_option maxHeartbeats 4000000 in
theorem norm_calls (L : List Item) (v : Value) (w : World) (hI : ItemsAt w 0 w.heap.size v L) (hF : Fits L) (hL : L.length ≤ 1000000) :
    Calls Tryz.prog 118 #[v] w fun e w' =>
      (∃ u, e = .returned (.tuple #[u, .int .i64 (normRes L).2]) ∧ w'.ownsRow w.heap.size 37 2 u (normRes L).1.length (itemCells (normRes L).1)) ∧ Below w.heap.size w w' := by
  have cS := Lib.hid (sums_calls L v w hI hF)
  have HR := Lib.hid (show normRes L = if sumsCode L = 0 then (if (normL L).length ≤ 16 then (normL L, 0) else ([], 3)) else ([], sumsCode L) from rfl)
  obtain ⟨A, c, rfl, hc1, hc2⟩ := hI.form
  generalize normRes L = NR at *
  go_enter Tryz.func118, Tryz.ntmps118
  go_wp2_with fail
  refine cS.out.mono ?_
  clear cS
  rintro e w1 ⟨⟨hz, b, m, rfl, hb, hgm, hml, hT⟩ | ⟨hz, rfl⟩, h1⟩
  · have HZ := Lib.hid hz
    clear hz
    have hkeys : (ksOf (L.map key)).length ≤ 1000000 := by
      have := (hgm.sorted keyedS)
      have e := keys_eq hT this (List.Perm.refl _)
      have := congrArg List.length e
      rw [List.length_mergeSort, List.length_map] at this
      omega
    have cK := Lib.hid ((callsIn_wide (n := 5)).1 (Ks.keys_calls (some b) w1))
    have cT := Lib.hid ((callsIn_wide (n := 5)).1 (Ks.sorted_calls b _ _ _ w1 hgm (by simp [Maps.size, mEs]; unfold maxLen; omega) (by simp [Maps.size, mEs]; omega)))
    have hlt := hgm.lt
    go_wp2_with fail
    refine cK.out.mono ?_
    rintro e w2 ⟨rfl, rfl⟩
    have hgm2 := hgm.kept (World.grownBy_alloc w1 (.cells #[.map (some b)] 181) none) (by simp)
    have hB2 := h1.alloc h1.size (.cells #[.map (some b)] 181)
    have hs2 : w1.heap.size + 1 = (w1.alloc (.cells #[.map (some b)] 181)).heap.size := by simp
    generalize w1.alloc (.cells #[.map (some b)] 181) = w2 at *
    go_wp2_with fail
    refine cT.out.mono ?_
    rintro e w3 ⟨u, ss, rfl, hp, hrow, -, h3⟩
    rw [strKeys_mEs] at hp
    have hke := keys_eq hT (hgm.sorted keyedS) hp
    have hsl : ss.length = (ksOf (L.map key)).length := by rw [← hke, List.length_mergeSort]
    rw [hke, hsl] at hrow
    have hsS := Sl.of_own hrow
    have hgm3 := hgm2.below h3 hgm2.lt
    have hB3 := hB2.trans (h3.mono hB2.size)
    have hs1 := h1.size
    have hs3 := h3.size
    obtain ⟨A', c', rfl, hA1, hA2, hA3⟩ := hsS.at_
    obtain ⟨i0, hi0, hz0⟩ := Option.map_eq_some_iff.1 item_info
    simp only [Prod.mk.injEq] at hz0
    obtain ⟨hz0, hz1, hz2⟩ := hz0
    have HT := Lib.hid hT
    have hoS := Lib.hid (outTo_succ L)
    have hoL := Lib.hid (outTo_len L)
    have hoA := Lib.hid (outTo_all L)
    have hmem := Lib.hid (show ∀ k, k < (ksOf (L.map key)).length → ((ksOf (L.map key)).getD k []).length ≤ maxLen from fun k hk => by
      have : (ksOf (L.map key)).getD k [] ∈ L.map key := by
        rw [← ksOf_mem]
        have : (ksOf (L.map key)).getD k [] = (ksOf (L.map key))[k] := by simp [hk]
        rw [this]
        exact List.getElem_mem hk
      obtain ⟨x, hx, he⟩ := List.mem_map.1 this
      rw [← he]
      have := (hF x hx).1
      simpa [key] using this)
    clear hT hke hp hsl hrow hsS
    generalize ksOf (L.map key) = KS at *
    have HA3 := Lib.hid hA3
    clear hA3
    go_wp2_with fail
    go_loopw [6, 8, 9, 22] (fun o _ _ r wr => ∃ k : Nat, k ≤ KS.length ∧ r = .int .i64 k ∧ wr.ownsRow w3.heap.size 37 2 o (outTo L k).length (itemCells (outTo L k)) ∧ Below w3.heap.size w3 wr) (fun _ _ _ r _ => KS.length - (intOf r).toNat)
    case atStart => exact ⟨0, by omega, rfl, World.ownsRow_nil _ _ _ _, Below.refl _ _⟩
    case round =>
      obtain ⟨k, hk, rfl, hown, hBr⟩ := hrel
      have hgmr := hgm3.below hBr hgm3.lt
      by_cases hlt2 : k < KS.length
      · obtain ⟨bs, os, rfl, hbs1, hbs2, hcs⟩ := HA3.out (by omega)
        have hck : wr.cell? ⟨bs, os + k, none⟩ = some (.string ⟨(KS.getD k []).toArray⟩) := by
          have h1 := hcs k (by omega)
          rw [hBr.cell (p := ⟨bs, os + k, none⟩) hbs2, h1]
          simp [hlt2]
        clear hcs
        have hkey := Lib.hid (show keyOf Tryz.prog 9 (.string ⟨(KS.getD k []).toArray⟩) = some (strK.lit (KS.getD k [])) from key_str (s := ⟨(KS.getD k []).toArray⟩) (hmem.out k hlt2))
        have hget := Lib.hid (HT.out.have_ (KS.getD k []))
        have hS := Lib.hid (hoS.out k hlt2)
        have hOL := Lib.hid (hoL.out k)
        generalize tot (KS.getD k []) L = t at *
        generalize KS.getD k [] = y at *
        generalize outTo L k = S at *
        by_cases ht : 0 < t
        · have hS2 := Lib.hid (show outTo L (k + 1) = S ++ [(⟨y.toArray⟩, t)] by rw [hS.out, if_pos ht])
          have hd : decide (0 < t) = true := by simpa using ht
          clear hS
          go_wp2_with (first
            | (at_lookup; refine wpList_look_g rfl (.tmp 26) (.tmp 27) _ rfl 9 _ keyedS Tryz.underlying181 rfl hgmr (zeroI _) _ _ rfl hkey.out _ hget.out ?_)
            | (at_builtin
               refine wpList_append_sl _ rfl (.tmp 31) (.tmp 35) _ rfl w3.heap.size 37 i0 _ 2 24 Tryz.underlying30 hi0 hz0 hz1 hz2 rfl (by omega) u6 S.length (itemCells S) rfl (hown.alloc _) wr.heap.size (wr.heap.size + 1) _ 1 [.string ⟨y.toArray⟩, .int .i64 t] rfl (Sl.new wr #[.string ⟨y.toArray⟩, .int .i64 t] 37 (n := 1) rfl (by unfold maxLen; omega)) (by simp [Value.oneCell']) (by have := hOL.out; unfold maxLen; omega) (by have := hOL.out; omega) (by have := hBr.size; simp; omega) ?_
               intro v1 w5 hv1 hg1 hat1))
          have hsz1 := hg1.size
          simp at hsz1
          have hB4 : Below w3.heap.size w3 w5 := (hBr.alloc hBr.size _).grown hg1 (by have := hBr.size; simp; omega) (fun g hg => (hown.lt g hg).1)
          go_roundw
          case rel =>
            refine ⟨k + 1, by omega, by go_num, ?_, hB4⟩
            rw [hS2.out, List.length_append, itemCells_append]
            exact hv1
          case measure => simp [intOf]; omega
        · have hS2 := Lib.hid (show outTo L (k + 1) = S by rw [hS.out, if_neg ht, List.append_nil])
          have hd : decide (0 < t) = false := by simpa using ht
          clear hS
          go_wp2_with (first
            | (at_lookup; refine wpList_look_g rfl (.tmp 26) (.tmp 27) _ rfl 9 _ keyedS Tryz.underlying181 rfl hgmr (zeroI _) _ _ rfl hkey.out _ hget.out ?_))
          go_roundw
          case rel => exact ⟨k + 1, by omega, by go_num, by rw [hS2.out]; exact hown, hBr⟩
          case measure => simp [intOf]; omega
      · obtain rfl : k = KS.length := by omega
        have hO := Lib.hid hoA.out
        rw [hoA.out] at hown
        have hN := Lib.hid (show (normL L).length ≤ 1000000 by have := hoL.out KS.length; rw [hoA.out] at this; omega)
        generalize normL L = O at *
        obtain ⟨A5, c5, rfl, -⟩ := (ItemsAt.of_own hown).form
        have hB5 := hB3.trans (hBr.mono hB3.size)
        have hown2 := ownsRow_wide hown hB3.size
        by_cases h16 : O.length ≤ 16
        · obtain rfl : NR = (O, 0) := by rw [HR.out, if_pos HZ.out, if_pos h16]
          have hd : decide ((O.length : Int) > 16) = false := by simp; omega
          go_wp2_with fail
          go_ret2
          exact ⟨⟨_, rfl, hown2⟩, hB5⟩
        · obtain rfl : NR = ([], 3) := by rw [HR.out, if_pos HZ.out, if_neg h16]
          have hd : decide ((O.length : Int) > 16) = true := by simp; omega
          go_wp2_with fail
          go_ret2
          exact ⟨⟨_, rfl, World.ownsRow_nil _ _ _ _⟩, hB5⟩
  · generalize sumsCode L = C at *
    obtain rfl : NR = ([], C) := by rw [HR.out, if_neg hz]
    have hzd : (C == 0) = false := by simpa using hz
    clear HR
    go_wp2_with fail
    go_ret2
    exact ⟨⟨_, rfl, World.ownsRow_nil _ _ _ _⟩, h1⟩
end It
end Go.Proofs.YtdbkkldgobkjcaaGreat
