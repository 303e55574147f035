/-
  a stock of goods: may.
  a stock of goods: Do.
  a stock of goods: Level, Flow.
  a stock of goods: Count.
-/
import Derived.Test.YtlhpdalfnjhokaaGs3
import Derived.Test.YtlhpdalfnjhokaaGs2
import Derived.Test.YtlhpdalfnjhokaaLayed

set_option linter.unusedVariables false
set_option linter.unusedSimpArgs false
namespace Go.Proofs.Ytlhpdalfnjhokaa
open Go.RowKit Go.Maps
namespace Sk
open It Al Kp
attribute [local go_sem] Oper.semAt_some
def hasAll (s : Stk) (l : List It.Item) : Bool := l.all fun x => (aGet s (key x)).isSome
def enough (s : Stk) (j : Nat) (l : List It.Item) : Bool := l.all fun x => !decide (at_ ((aGet s (key x)).getD row0) j < x.2)
def mayS (s : Stk) (k : Int) (l : List It.Item) : Int := match (road k).1 with
  | none => 0
  | some j => if hasAll s l then (if enough s j l then 0 else 51) else 71
theorem hasAll_snoc (s : Stk) (l : List It.Item) (x : It.Item) : hasAll s (l ++ [x]) = (hasAll s l && (aGet s (key x)).isSome) := by simp [hasAll]
theorem enough_snoc (s : Stk) (j : Nat) (l : List It.Item) (x : It.Item) : enough s j (l ++ [x]) = (enough s j l && !decide (at_ ((aGet s (key x)).getD row0) j < x.2)) := by simp [enough]
theorem hasAll_prefix {s : Stk} {p l : List It.Item} (h : p <+: l) (hp : hasAll s p = false) : hasAll s l = false := by
  obtain ⟨r, rfl⟩ := h
  unfold hasAll at hp ⊢
  rw [List.all_append, hp]
  rfl
theorem enough_prefix {s : Stk} {j : Nat} {p l : List It.Item} (h : p <+: l) (hp : enough s j p = false) : enough s j l = false := by
  obtain ⟨r, rfl⟩ := h
  unfold enough at hp ⊢
  rw [List.all_append, hp]
  rfl
theorem zeroRow (w : World) : (zeroValue 84).run Try.prog w = .ok (rowV row0) w := by kernel_rfl
theorem row_info : (Try.prog.info? 84).map (·.size) = some 11 := by kernel_rfl
theorem rowC_size {r : Row} (h : OkRow r) : (rowC r).size = 11 := by unfold rowC; simp [h.len]
theorem rowC_one (r : Row) : (rowC r).all (·.oneCell') = true := by unfold rowC; simp [Value.oneCell']
theorem row_size {r : Row} (h : OkRow r) : (Try.prog.info? 84).map (·.size) = some (rowC r).size := by rw [rowC_size h]; exact row_info
theorem StkAt.row {w : World} {base b mb : Nat} {s : Stk} (h : StkAt w base b mb s) (k : Key) : OkRow ((aGet s k).getD row0) := by
  cases hg : aGet s k with
  | none => exact OkRow.zero
  | some r => exact (h.ok _ (aGet_mem hg)).row
theorem look_row (s : Stk) (k : Key) : (mGet (gm rowV s) k).getD (rowV row0) = rowV ((aGet s k).getD row0) ∧ (mGet (gm rowV s) k).isSome = (aGet s k).isSome := by
  rw [gm_get]
  cases aGet s k <;> exact ⟨rfl, rfl⟩
theorem unbox (g : Nat) (j : Option Nat) (w : World) : (binOp .eql 92 (ptr g j) (.pointer none)).run Try.prog w = .ok (.bool j.isNone) w := by
  cases j <;> kernel_rfl
set_option maxRecDepth 100000 in
set_option maxHeartbeats 8000000 in
theorem may_calls {w : World} {base b mb : Nat} {s : Stk} (h : StkAt w base b mb s) (k : Int) (L : List It.Item) (v : Value) (hI : ItemsAt w 0 w.heap.size v L) (hF : Fits L) :
    Calls Try.prog 40 #[.pointer (some ⟨b, 0, none⟩), .int .i64 k, v] w fun e w' => e = .returned (.int .i64 (mayS s k L)) ∧ Below w.heap.size w w' := by
  obtain ⟨A, c, rfl, hc1, hc2⟩ := hI.form
  unfold maxLen at hc2
  refine (callsIn_wide (n := 6)).1 ?_
  refine callsIn_of_wp_marks Try.func40 rfl trivial ?_ rfl
  simp only [Try.ntmps40, List.size_toArray, List.length_cons, List.length_nil, Nat.reduceAdd, Nat.reduceSub, Array.replicate_succ, Array.replicate_zero, List.push_toArray, List.append_toArray, List.nil_append, List.cons_append]
  gi_wp2
  have o0 := (((Ob.new w 53 #[.pointer (some ⟨b, 0, none⟩)]).alloc (.cells #[.int .i64 k] 3)).alloc (.cells #[.int .i64 0] 58)).alloc (.cells #[.int .i64 0, .int .i64 0, .int .i64 0, .int .i64 0, .int .i64 0, .int .i64 0, .int .i64 0, .int .i64 0, .int .i64 0, .int .i64 0, .int .i64 0] 84)
  have o1 := ((Ob.new (w.alloc (.cells #[.pointer (some ⟨b, 0, none⟩)] 53)) 3 #[.int .i64 k]).alloc (.cells #[.int .i64 0] 58)).alloc (.cells #[.int .i64 0, .int .i64 0, .int .i64 0, .int .i64 0, .int .i64 0, .int .i64 0, .int .i64 0, .int .i64 0, .int .i64 0, .int .i64 0, .int .i64 0] 84)
  have o2 := (Ob.new ((w.alloc (.cells #[.pointer (some ⟨b, 0, none⟩)] 53)).alloc (.cells #[.int .i64 k] 3)) 58 #[.int .i64 0]).alloc (.cells #[.int .i64 0, .int .i64 0, .int .i64 0, .int .i64 0, .int .i64 0, .int .i64 0, .int .i64 0, .int .i64 0, .int .i64 0, .int .i64 0, .int .i64 0] 84)
  have hB4 : Below w.heap.size w ((((w.alloc (.cells #[.pointer (some ⟨b, 0, none⟩)] 53)).alloc (.cells #[.int .i64 k] 3)).alloc (.cells #[.int .i64 0] 58)).alloc (.cells #[.int .i64 0, .int .i64 0, .int .i64 0, .int .i64 0, .int .i64 0, .int .i64 0, .int .i64 0, .int .i64 0, .int .i64 0, .int .i64 0, .int .i64 0] 84)) := ((((Below.refl _ w).alloc (Nat.le_refl _) _).alloc (by simp) _).alloc (by simp; omega) _).alloc (by simp; omega) _
  simp only [World.size_alloc] at o1 o2
  have hs4 : w.heap.size + 4 = ((((w.alloc (.cells #[.pointer (some ⟨b, 0, none⟩)] 53)).alloc (.cells #[.int .i64 k] 3)).alloc (.cells #[.int .i64 0] 58)).alloc (.cells #[.int .i64 0, .int .i64 0, .int .i64 0, .int .i64 0, .int .i64 0, .int .i64 0, .int .i64 0, .int .i64 0, .int .i64 0, .int .i64 0, .int .i64 0] 84)).heap.size := by simp
  generalize ((((w.alloc (.cells #[.pointer (some ⟨b, 0, none⟩)] 53)).alloc (.cells #[.int .i64 k] 3)).alloc (.cells #[.int .i64 0] 58)).alloc (.cells #[.int .i64 0, .int .i64 0, .int .i64 0, .int .i64 0, .int .i64 0, .int .i64 0, .int .i64 0, .int .i64 0, .int .i64 0, .int .i64 0, .int .i64 0] 84)) = w4 at *
  have cR := road_calls k (w.heap.size + 1 + 1 + 1) w4
  have HMD := Lib.hid (show mayS s k L = match (road k).1 with | none => 0 | some j => if hasAll s L then (if enough s j L then 0 else 51) else 71 from rfl)
  have hlt := (road_lt k).1
  obtain ⟨M, hM⟩ : ∃ M, M = mayS s k L := ⟨_, rfl⟩
  rw [← hM] at HMD
  have HMQ := Lib.hid hM
  clear hM
  obtain ⟨jo, hjo⟩ : ∃ jo, jo = (road k).1 := ⟨_, rfl⟩
  rw [← hjo] at cR HMD hlt
  have HJO := Lib.hid hjo
  clear hjo
  generalize ptr (w.heap.size + 1 + 1 + 1) (road k).2.1 = pv1 at *
  generalize ptr (w.heap.size + 1 + 1 + 1) (road k).2.2 = pv2 at *
  refine ⟨trivial, (callsIn_wide.2 cR).mono ?_⟩
  rintro e w5 ⟨rfl, hb5⟩
  replace o0 := o0.same hb5
  replace o1 := o1.same hb5
  replace o2 := o2.same hb5
  have hB5 := hB4.trans (hb5.mono hB4.size)
  have hs5 : w.heap.size + 4 ≤ w5.heap.size := by have := hb5.size; omega
  clear hB4 hb5 hs4
  cases jo with
  | none =>
    dsimp only [ptr]
    have c2 := o2.cell (j := 0) (v := .int .i64 0) rfl
    have f2 := o2.frozen 0
    have o2' := o2.set 0 (.int .i64 0)
    have hBB := hB5.grown (grownBy_set w5 (w.heap.size + 1 + 1) 0 (.int .i64 0)) hB5.size (fun k e => by cases e; omega)
    gi_wp2
    clear c2 f2 cR
    have c2 := (show Ob (w5.setCell ⟨w.heap.size + 1 + 1, 0, none⟩ (.int .i64 0)) (w.heap.size + 1 + 1) 58 #[.int .i64 0] from o2').cell (j := 0) (v := .int .i64 0) rfl
    refine ⟨.int .i64 0, ?_, by rw [← HMQ.out, HMD.out], hBB⟩
    simp [results, Try.f40, go_sem, c2]
  | some j =>
    dsimp only [ptr]
    dsimp only at HMD
    have hj := hlt j rfl
    clear hlt cR
    gi_wp2_with (refine ⟨trivial, ?_⟩; gi_at_call 42; refine (callsIn_wide.2 (all_calls A _ c _)).mono ?_; rintro e w' ⟨rfl, rfl⟩)
    have o3 := Ob.new w5 55 #[.slice A L.length c]
    replace o0 := o0.alloc (.cells #[.slice A L.length c] 55)
    replace o1 := o1.alloc (.cells #[.slice A L.length c] 55)
    replace o2 := o2.alloc (.cells #[.slice A L.length c] 55)
    have hB6 := hB5.alloc hB5.size (.cells #[.slice A L.length c] 55)
    have hs6 : (w5.alloc (.cells #[.slice A L.length c] 55)).heap.size = w5.heap.size + 1 := by simp
    generalize hg5 : w5.heap.size = z5 at *
    generalize w5.alloc (.cells #[.slice A L.length c] 55) = w6 at *
    have HB6 := Lib.hid hB6
    have HH := Lib.hid h
    clear hB6 h hg5 hB5
    apply (range_all (n := 6) rfl trivial (by omega) (Bs := z5) (n₀ := w.heap.size) (v := .slice A L.length c) (L := L) rfl rfl (by omega) (by omega) (o3.cell (j := 0) rfl) (hI.below HB6.out)
      (fun pre W => hasAll s (vals pre) = true ∧ Ob W w.heap.size 53 #[.pointer (some ⟨b, 0, none⟩)] ∧ Ob W (w.heap.size + 1) 3 #[.int .i64 k] ∧ Ob W (w.heap.size + 1 + 1) 58 #[.int .i64 0])
      (fun c pre W => c = .ret ∧ hasAll s (vals pre) = false ∧ Ob W (w.heap.size + 1 + 1) 58 #[.int .i64 71])
      (fun s A B row hs hg hr => ⟨hs.1, ob_keep hs.2.1 hg (fun r e => (hr r e).2), ob_keep hs.2.2.1 hg (fun r e => (hr r e).2), ob_keep hs.2.2.2 hg (fun r e => (hr r e).2)⟩)
      (fun c s A B row hs hg hr => ⟨hs.1, hs.2.1, ob_keep hs.2.2 hg (fun r e => (hr r e).2)⟩)
      ⟨rfl, o0, o1, o2⟩)
    case hassign =>
      intro l x W K hK
      dsimp only [enc2]
      gi_wp2
      exact hK
    case hbody =>
      rintro l pre ⟨⟨xs, xn⟩, hx⟩ W ⟨hm, p0, p1, p2⟩ hB hsz hlen
      have hW := HH.out.same (HB6.out.trans hB)
      have hfit := hF _ hx
      have hkey := Lib.hid (key_str hfit.1)
      have hro := Lib.hid (hW.row (key (xs, xn)))
      obtain ⟨hl1, hl2⟩ := look_row s (key (xs, xn))
      have hS := Lib.hid (show hasAll s (vals (pre ++ [⟨(xs, xn), hx⟩])) = (aGet s (key (xs, xn))).isSome by rw [vals_snoc, hasAll_snoc, hm, Bool.true_and])
      have HM := Lib.hid hm
      clear hm hfit
      have y0 := p0.cell (j := 0) (v := .pointer (some ⟨b, 0, none⟩)) rfl
      have z0 := hW.ob.cell (j := 0) (v := .map (some mb)) rfl
      have hgm := hW.map
      generalize (aGet s (key (xs, xn))).getD row0 = r at *
      have HL1 := Lib.hid hl1
      have HL2 := Lib.hid hl2
      clear hl1 hl2
      have hsl := hB.size
      have oN := Ob.new W 84 #[.int .i64 0, .int .i64 0, .int .i64 0, .int .i64 0, .int .i64 0, .int .i64 0, .int .i64 0, .int .i64 0, .int .i64 0, .int .i64 0, .int .i64 0]
      have hz := W.heap.size
      dsimp only at hkey ⊢
      have HNB := Lib.hid (fun (W3 : World) (hg3 : (W.alloc (.cells #[.int .i64 0, .int .i64 0, .int .i64 0, .int .i64 0, .int .i64 0, .int .i64 0, .int .i64 0, .int .i64 0, .int .i64 0, .int .i64 0, .int .i64 0] 84)).grownBy W3 (some W.heap.size)) => (((Below.refl W.heap.size W).alloc (Nat.le_refl _) _).grown hg3 (by simp) (fun k e => by cases e; exact Nat.le_refl _) : Below W.heap.size W W3))
      cases hs : (aGet s (key (xs, xn))).isSome with
      | true =>
        rw [hs] at hS HL2
        gi_wp2_with (first
          | (gi_at_lookup; refine wpListIn_look_ok_g rfl (.tmp 37) (.tmp 38) _ rfl 9 _ keyedS Try.underlying80 rfl hgm (zeroRow _) _ _ rfl hkey.out _ _ HL1.out HL2.out ?_)
          | (refine wpListIn_store_ob rfl 84 (.tmp 11) (.tmp 40) rfl rfl rfl oN (by rw [rowC_size hro.out]; rfl) (row_size hro.out) (rowC_one r) ?_; intro W3 hO3 hg3))
        have hb3 := HNB.out _ hg3
        exact ⟨keeps_below _ hb3, hb3.mono (by omega), hS.out, p0.same hb3, p1.same hb3, p2.same hb3⟩
      | false =>
        rw [hs] at hS HL2
        gi_wp2_with (first
          | (gi_at_lookup; refine wpListIn_look_ok_g rfl (.tmp 37) (.tmp 38) _ rfl 9 _ keyedS Try.underlying80 rfl hgm (zeroRow _) _ _ rfl hkey.out _ _ HL1.out HL2.out ?_)
          | (refine wpListIn_store_ob rfl 84 (.tmp 11) (.tmp 40) rfl rfl rfl oN (by rw [rowC_size hro.out]; rfl) (row_size hro.out) (rowC_one r) ?_; intro W3 hO3 hg3; have hb3 := HNB.out _ hg3; have c2 := (p2.same hb3).cell (j := 0) (v := .int .i64 0) rfl; have f2 := (p2.same hb3).frozen 0))
        exact ⟨keeps_set (keeps_below _ hb3) _ _, (hb3.mono (B' := w.heap.size) (by omega)).setCell (p := ⟨w.heap.size + 1 + 1, 0, none⟩) (by simp; omega) _, rfl, hS.out, (p2.same hb3).set 0 _⟩
    case hstop =>
      rintro D c pre X hD hpre ⟨rfl, hm, p2⟩ hB hK
      have HC := Lib.hid (show M = 71 by rw [HMD.out, hasAll_prefix (vals_prefix hpre) hm]; rfl)
      clear hm
      gi_wp2
      refine ⟨by simp, .inl ⟨_, _, rfl, run_takeDeferred hK, ?_⟩⟩
      have c4 := ((show Boxed X (w.heap.size + 1 + 1) 58 (.int .i64 71) from p2) |> fun h => boxed_end h hK).cell
      refine ⟨.int .i64 71, ?_, by rw [← HMQ.out, HC.out], below_end (HB6.out.trans hB) (by omega) hK⟩
      simp [results, Try.f40, go_sem, c4]
    case hdone =>
      rintro D W hD ⟨hm, p0, p1, p2⟩ hB hK
      rw [vals_all] at hm
      have HC := Lib.hid (show M = if enough s j L = true then 0 else 51 by rw [HMD.out, hm]; rfl)
      clear hm
      gi_wp2_with (refine ⟨trivial, ?_⟩; gi_at_call 42; refine (callsIn_wide.2 (all_calls A _ c _)).mono ?_; rintro e w' ⟨rfl, rfl⟩)
      have hK7 := ((World.grownBy_alloc W (.cells #[.slice A L.length c] 55) none).block D (Array.getElem?_eq_some_iff.1 hK).1 (by simp)).trans hK
      have r0 := p0.alloc (.cells #[.slice A L.length c] 55)
      have r1 := p1.alloc (.cells #[.slice A L.length c] 55)
      have r2 := p2.alloc (.cells #[.slice A L.length c] 55)
      have r3 := Ob.new W 55 #[.slice A L.length c]
      have hsW := hB.size
      have hB7 := (HB6.out.trans hB).alloc (HB6.out.trans hB).size (.cells #[.slice A L.length c] 55)
      have hs7 : (W.alloc (.cells #[.slice A L.length c] 55)).heap.size = W.heap.size + 1 := by simp
      have hDlt := (Array.getElem?_eq_some_iff.1 hK).1
      clear p0 p1 p2 hK
      generalize hgW : W.heap.size = zW at *
      generalize W.alloc (.cells #[.slice A L.length c] 55) = w7 at *
      have HB7 := Lib.hid hB7
      clear hB7 hB hgW
      apply (range_all (n := 6) rfl trivial (by omega) (Bs := zW) (n₀ := w.heap.size) (v := .slice A L.length c) (L := L) rfl rfl (by omega) (by omega) (r3.cell (j := 0) rfl) (hI.below HB7.out)
        (fun pre W => enough s j (vals pre) = true ∧ Ob W w.heap.size 53 #[.pointer (some ⟨b, 0, none⟩)] ∧ Ob W (w.heap.size + 1) 3 #[.int .i64 k] ∧ Ob W (w.heap.size + 1 + 1) 58 #[.int .i64 0] ∧ W.heap[D]? = some (.deferred (some [])))
        (fun c pre W => c = .ret ∧ enough s j (vals pre) = false ∧ Ob W (w.heap.size + 1 + 1) 58 #[.int .i64 51] ∧ W.heap[D]? = some (.deferred (some [])))
        (fun s A B row hs hg hr => ⟨hs.1, ob_keep hs.2.1 hg (fun r e => (hr r e).2), ob_keep hs.2.2.1 hg (fun r e => (hr r e).2), ob_keep hs.2.2.2.1 hg (fun r e => (hr r e).2), (hg.block D (Array.getElem?_eq_some_iff.1 hs.2.2.2.2).1 (fun e => by have := (hr _ e.symm).1; omega)).trans hs.2.2.2.2⟩)
        (fun c s A B row hs hg hr => ⟨hs.1, hs.2.1, ob_keep hs.2.2.1 hg (fun r e => (hr r e).2), (hg.block D (Array.getElem?_eq_some_iff.1 hs.2.2.2).1 (fun e => by have := (hr _ e.symm).1; omega)).trans hs.2.2.2⟩)
        ⟨rfl, r0, r1, r2, hK7⟩)
      case hassign =>
        intro l x W K hK
        dsimp only [enc2]
        gi_wp2
        exact hK
      case hbody =>
        rintro l pre ⟨⟨xs, xn⟩, hx⟩ W ⟨hm, p0, p1, p2, hKD⟩ hB hsz hlen
        have hW := HH.out.same (HB7.out.trans hB)
        have hfit := hF _ hx
        have hkey := Lib.hid (key_str hfit.1)
        have hro := Lib.hid (hW.row (key (xs, xn)))
        obtain ⟨hl1, hl2⟩ := look_row s (key (xs, xn))
        have hS := Lib.hid (show enough s j (vals (pre ++ [⟨(xs, xn), hx⟩])) = !decide (at_ ((aGet s (key (xs, xn))).getD row0) j < xn) by rw [vals_snoc, enough_snoc, hm, Bool.true_and])
        have HM := Lib.hid hm
        clear hm hl2
        have y0 := p0.cell (j := 0) (v := .pointer (some ⟨b, 0, none⟩)) rfl
        have y1 := p1.cell (j := 0) (v := .int .i64 k) rfl
        have z0 := hW.ob.cell (j := 0) (v := .map (some mb)) rfl
        have hgm := hW.map
        generalize (aGet s (key (xs, xn))).getD row0 = r at *
        have HL1 := Lib.hid hl1
        have hcr := Lib.hid (fun (V : World) (g : Nat) (h : Ob V g 84 (rowC r)) => h.cell (rowC_get (j := j) (by rw [hro.out.len]; exact hj)))
        generalize at_ r j = q at *
        clear hl1
        have hsl := hB.size
        have oN := Ob.new W 84 #[.int .i64 0, .int .i64 0, .int .i64 0, .int .i64 0, .int .i64 0, .int .i64 0, .int .i64 0, .int .i64 0, .int .i64 0, .int .i64 0, .int .i64 0]
        have HNB := Lib.hid (fun (W3 : World) (hg3 : (W.alloc (.cells #[.int .i64 0, .int .i64 0, .int .i64 0, .int .i64 0, .int .i64 0, .int .i64 0, .int .i64 0, .int .i64 0, .int .i64 0, .int .i64 0, .int .i64 0] 84)).grownBy W3 (some W.heap.size)) => (((Below.refl W.heap.size W).alloc (Nat.le_refl _) _).grown hg3 (by simp) (fun k e => by cases e; exact Nat.le_refl _) : Below W.heap.size W W3))
        have cR := Lib.hid (fun V => show Calls Try.prog 43 #[.int .i64 k, .pointer (some ⟨W.heap.size, 0, none⟩)] V fun e w' => e = .returned (.tuple #[.pointer (some ⟨W.heap.size, j, none⟩), ptr W.heap.size (road k).2.1, ptr W.heap.size (road k).2.2]) ∧ Below V.heap.size V w' from by
          have := road_calls k W.heap.size V
          rw [← HJO.out] at this
          exact this)
        generalize ptr W.heap.size (road k).2.1 = u1 at *
        generalize ptr W.heap.size (road k).2.2 = u2 at *
        have hWlt : ∀ W3 : World, Below W.heap.size W W3 → W.heap.size ≤ W3.heap.size := fun W3 h => h.size
        dsimp only at hkey ⊢
        have hKlt := (Array.getElem?_eq_some_iff.1 hKD).1
        by_cases hq : q < xn
        · have hS2 := Lib.hid (hS.out.trans (by rw [decide_eq_true hq, Bool.not_true]))
          gi_wp2_with (first
            | (gi_at_lookup; refine wpListIn_look_g rfl (.tmp 51) (.tmp 52) _ rfl 9 _ keyedS Try.underlying80 rfl hgm (zeroRow _) _ _ rfl hkey.out _ HL1.out ?_)
            | (refine wpListIn_store_ob rfl 84 (.tmp 15) (.tmp 53) rfl rfl rfl oN (by rw [rowC_size hro.out]; rfl) (row_size hro.out) (rowC_one r) ?_; intro W3 hO3 hg3; have hb3 := HNB.out _ hg3; have y3 := (p1.same hb3).cell (j := 0) (v := .int .i64 k) rfl)
            | (refine ⟨trivial, ?_⟩; gi_at_call 43; refine (CallsIn.inRound l (callsIn_wide.2 (cR.out _))).mono ?_; rintro e W4 ⟨rfl, h4⟩; have hb4 := hb3.trans (h4.mono hb3.size); have c5 := hcr.out _ _ (hO3.same h4); have c2 := (p2.same hb4).cell (j := 0) (v := .int .i64 0) rfl; have f2 := (p2.same hb4).frozen 0))
          refine ⟨keeps_set (keeps_below _ hb4) _ _, (hb4.mono (B' := w.heap.size) (by omega)).setCell (p := ⟨w.heap.size + 1 + 1, 0, none⟩) (by simp; omega) _, rfl, hS2.out, (p2.same hb4).set 0 _, ?_⟩
          exact ((grownBy_set W4 (w.heap.size + 1 + 1) 0 (.int .i64 51)).block D (by have := hb4.size; omega) (fun e => by cases e; omega)).trans ((hb4.block D hKlt).trans hKD)
        · have hS2 := Lib.hid (hS.out.trans (by rw [decide_eq_false hq, Bool.not_false]))
          gi_wp2_with (first
            | (gi_at_lookup; refine wpListIn_look_g rfl (.tmp 51) (.tmp 52) _ rfl 9 _ keyedS Try.underlying80 rfl hgm (zeroRow _) _ _ rfl hkey.out _ HL1.out ?_)
            | (refine wpListIn_store_ob rfl 84 (.tmp 15) (.tmp 53) rfl rfl rfl oN (by rw [rowC_size hro.out]; rfl) (row_size hro.out) (rowC_one r) ?_; intro W3 hO3 hg3; have hb3 := HNB.out _ hg3; have y3 := (p1.same hb3).cell (j := 0) (v := .int .i64 k) rfl)
            | (refine ⟨trivial, ?_⟩; gi_at_call 43; refine (CallsIn.inRound l (callsIn_wide.2 (cR.out _))).mono ?_; rintro e W4 ⟨rfl, h4⟩; have hb4 := hb3.trans (h4.mono hb3.size); have c5 := hcr.out _ _ (hO3.same h4)))
          exact ⟨keeps_below _ hb4, hb4.mono (by omega), hS2.out, p0.same hb4, p1.same hb4, p2.same hb4, (hb4.block D hKlt).trans hKD⟩
      case hstop =>
        rintro D2 c pre X hD2 hpre ⟨rfl, hm, p2, hKD⟩ hB hK2
        have HC2 := Lib.hid (show M = 51 by rw [HC.out, enough_prefix (vals_prefix hpre) hm]; rfl)
        clear hm
        gi_wp2
        have hKD4 := ((grownBy_putObj' X D2 (.deferred none)).block D (Array.getElem?_eq_some_iff.1 hKD).1 (fun e => by have := Option.some.inj e; omega)).trans hKD
        refine ⟨by simp, .inl ⟨_, _, rfl, run_takeDeferred hK2, ⟨by simp, .inl ⟨_, _, rfl, run_takeDeferred hKD4, ?_⟩⟩⟩⟩
        have c4 := (boxed_end (boxed_end (show Boxed X (w.heap.size + 1 + 1) 58 (.int .i64 51) from p2) hK2) hKD4).cell
        refine ⟨.int .i64 51, ?_, by rw [← HMQ.out, HC2.out], below_end (below_end (HB7.out.trans hB) (by omega) hK2) (by omega) hKD4⟩
        simp [results, Try.f40, go_sem, c4]
      case hdone =>
        rintro D2 X hD2 ⟨hm, p0, p1, p2, hKD⟩ hB hK2
        rw [vals_all] at hm
        have HC2 := Lib.hid (show M = 0 by rw [HC.out, hm]; rfl)
        clear hm
        have c2 := p2.cell (j := 0) (v := .int .i64 0) rfl
        have f2 := p2.frozen 0
        gi_wp2
        have hp3 := p2.set 0 (.int .i64 0)
        have g1 := grownBy_set X (w.heap.size + 1 + 1) 0 (.int .i64 0)
        have hB3 := (HB7.out.trans hB).grown g1 (by have := hB.size; omega) (fun k e => by cases e; omega)
        have hK3 := (g1.block D2 (Array.getElem?_eq_some_iff.1 hK2).1 (fun e => by have := Option.some.inj e; omega)).trans hK2
        have hKD3 := (g1.block D (Array.getElem?_eq_some_iff.1 hKD).1 (fun e => by have := Option.some.inj e; omega)).trans hKD
        clear c2 f2 g1
        generalize X.setCell ⟨w.heap.size + 1 + 1, 0, none⟩ (.int .i64 0) = Y at *
        have hKD4 := ((grownBy_putObj' Y D2 (.deferred none)).block D (Array.getElem?_eq_some_iff.1 hKD3).1 (fun e => by have := Option.some.inj e; omega)).trans hKD3
        refine ⟨by simp, .inl ⟨_, _, rfl, run_takeDeferred hK3, ⟨by simp, .inl ⟨_, _, rfl, run_takeDeferred hKD4, ?_⟩⟩⟩⟩
        have c4 := (boxed_end (boxed_end (show Boxed Y (w.heap.size + 1 + 1) 58 (.int .i64 0) from hp3) hK3) hKD4).cell
        refine ⟨.int .i64 0, ?_, by rw [← HMQ.out, HC2.out], below_end (below_end hB3 (by omega) hK3) (by omega) hKD4⟩
        simp [results, Try.f40, go_sem, c4]
end Sk
end Go.Proofs.Ytlhpdalfnjhokaa

namespace Go.Proofs.Ytlhpdalfnjhokaa
open Go.RowKit Go.Maps
namespace Sk
open It Al Kp
attribute [local go_sem] Oper.semAt_some
def goStep (k : Int) (o : Option Stk) (x : It.Item) : Option Stk := o.bind fun s => let q := stepR k ((aGet s (key x)).getD row0) x.2; if rightR q = true then some (aPut strK s (key x) q) else none
def doGo (k : Int) (s : Stk) (l : List It.Item) : Option Stk := l.foldl (goStep k) (some s)
def doS (s : Stk) (k : Int) (l : List It.Item) : Stk × Int :=
  if k < 1 ∨ 11 < k then (s, 1) else if It.may l = false then (s, 60) else if mayS s k l ≠ 0 then (s, mayS s k l) else match doGo k s l with
    | none => (s, 50)
    | some s' => if 64 < s'.length then (s, 2) else (s', 0)
theorem doGo_snoc (k : Int) (s : Stk) (l : List It.Item) (x : It.Item) : doGo k s (l ++ [x]) = goStep k (doGo k s l) x := by
  unfold doGo
  rw [List.foldl_append]
  rfl
theorem doGo_none (k : Int) : ∀ l : List It.Item, l.foldl (goStep k) none = none
  | [] => rfl
  | _ :: r => doGo_none k r
theorem doGo_prefix {k : Int} {s : Stk} {p l : List It.Item} (h : p <+: l) (hp : doGo k s p = none) : doGo k s l = none := by
  obtain ⟨r, rfl⟩ := h
  unfold doGo at hp ⊢
  rw [List.foldl_append, hp]
  exact doGo_none k r
/-- what Do leaves alone -/
def DoKept (b : Nat) (w w' : World) : Prop := Kept (fun i => i < w.heap.size ∧ i ≠ b) w w'
theorem DoKept.of_below {b : Nat} {w w' : World} (h : Below w.heap.size w w') : DoKept b w w' := Kept.of_below h fun _ hi => hi.1
theorem clone_calls (mb : Nat) (m : List (Key × Value)) (w : World) (h : GMap strK w Try.prog 9 mb m) :
    Calls Try.prog 41 #[.map (some mb)] w fun e w' => e = .returned (.map (some w.heap.size)) ∧ GMap strK w' Try.prog 9 w.heap.size m ∧ w.heap.size < w'.heap.size ∧ Below w.heap.size w w' := by
  have hcon := AnyW.maps_Clone_owns Try.clone41 9 hold mb m.length _ w h
  refine hcon.mono ?_
  rintro e w' ⟨rfl, h1, -, hb⟩
  exact ⟨rfl, h1, World.ownsMap.lt h1, hb⟩
theorem StkAt.out {w w' : World} {base b mb : Nat} {s : Stk} (h : StkAt w base b mb s) (hb : Below w.heap.size w w') : (∃ mb', StkAt w' base b mb' s ∧ (mb' = mb ∨ w.heap.size ≤ mb')) ∧ DoKept b w w' := ⟨⟨mb, h.same hb, .inl rfl⟩, DoKept.of_below hb⟩
section
variable {w : World} {base b mb : Nat} {s : Stk}
set_option maxRecDepth 100000 in
set_option maxHeartbeats 4000000 in
theorem do_arg (h : StkAt w base b mb s) (k : Int) (v : Value) (hk : k < 1 ∨ 11 < k) :
    Calls Try.prog 24 #[.pointer (some ⟨b, 0, none⟩), .int .i64 k, v] w fun e w' => e = .returned (.int .i64 1) ∧ Below w.heap.size w w' := by
  refine (callsIn_wide (n := 6)).1 ?_
  refine callsIn_of_wp_marks Try.func24 rfl trivial ?_ rfl
  simp only [Try.ntmps24, List.size_toArray, List.length_cons, List.length_nil, Nat.reduceAdd, Nat.reduceSub, Array.replicate_succ, Array.replicate_zero, List.push_toArray, List.append_toArray, List.nil_append, List.cons_append]
  gi_wp2
  have o0 := (Ob.new w 3 #[.int .i64 k]).alloc (.cells #[.int .i64 0] 58)
  have o1 := Ob.new (w.alloc (.cells #[.int .i64 k] 3)) 58 #[.int .i64 0]
  have hB2 : Below w.heap.size w ((w.alloc (.cells #[.int .i64 k] 3)).alloc (.cells #[.int .i64 0] 58)) := ((Below.refl _ w).alloc (Nat.le_refl _) _).alloc (by simp) _
  simp only [World.size_alloc] at o1
  have hs2 : w.heap.size + 2 = ((w.alloc (.cells #[.int .i64 k] 3)).alloc (.cells #[.int .i64 0] 58)).heap.size := by simp
  generalize ((w.alloc (.cells #[.int .i64 k] 3)).alloc (.cells #[.int .i64 0] 58)) = w2 at *
  have h2 := h.same hB2
  refine ⟨trivial, (callsIn_wide.2 (made_calls b mb w2 (h2.ob.cell (j := 0) rfl))).mono ?_⟩
  rintro e W' ⟨rfl, rfl⟩
  have hcs : decide (k < 1) = true ∨ (decide (k < 1) = false ∧ decide (k > 11) = true) := by
    by_cases h : k < 1
    · exact .inl (by simpa using h)
    · exact .inr ⟨by simpa using h, by simp; omega⟩
  have c0 := o0.cell (j := 0) (v := .int .i64 k) rfl
  have c1 := o1.cell (j := 0) (v := .int .i64 0) rfl
  have f1 := o1.frozen 0
  have p1 := o1.set 0 (.int .i64 1)
  have hBB := hB2.grown (grownBy_set w2 (w.heap.size + 1) 0 (.int .i64 1)) (by have := hB2.size; omega) (fun k e => by cases e; omega)
  have C2 := (show Ob (w2.setCell ⟨w.heap.size + 1, 0, none⟩ (.int .i64 1)) (w.heap.size + 1) 58 #[.int .i64 1] from p1).cell (j := 0) (v := .int .i64 1) rfl
  have HC2 := Lib.hid C2
  clear C2 hk
  rcases hcs with q1 | ⟨q1, q2⟩
  · gi_wp2
    refine ⟨.int .i64 1, ?_, rfl, hBB⟩
    clear c0 c1 f1
    simp [results, Try.f24, go_sem, HC2.out]
  · gi_wp2
    refine ⟨.int .i64 1, ?_, rfl, hBB⟩
    clear c0 c1 f1
    simp [results, Try.f24, go_sem, HC2.out]
set_option maxRecDepth 100000 in
set_option maxHeartbeats 4000000 in
theorem do_items (h : StkAt w base b mb s) (k : Int) (L : List It.Item) (v : Value) (hI : ItemsAt w 0 w.heap.size v L) (hF : Fits L) (hk : ¬ (k < 1 ∨ 11 < k)) (hm : It.may L = false) :
    Calls Try.prog 24 #[.pointer (some ⟨b, 0, none⟩), .int .i64 k, v] w fun e w' => e = .returned (.int .i64 60) ∧ Below w.heap.size w w' := by
  refine (callsIn_wide (n := 6)).1 ?_
  refine callsIn_of_wp_marks Try.func24 rfl trivial ?_ rfl
  simp only [Try.ntmps24, List.size_toArray, List.length_cons, List.length_nil, Nat.reduceAdd, Nat.reduceSub, Array.replicate_succ, Array.replicate_zero, List.push_toArray, List.append_toArray, List.nil_append, List.cons_append]
  gi_wp2
  have o0 := (Ob.new w 3 #[.int .i64 k]).alloc (.cells #[.int .i64 0] 58)
  have o1 := Ob.new (w.alloc (.cells #[.int .i64 k] 3)) 58 #[.int .i64 0]
  have hB2 : Below w.heap.size w ((w.alloc (.cells #[.int .i64 k] 3)).alloc (.cells #[.int .i64 0] 58)) := ((Below.refl _ w).alloc (Nat.le_refl _) _).alloc (by simp) _
  simp only [World.size_alloc] at o1
  have hs2 : w.heap.size + 2 = ((w.alloc (.cells #[.int .i64 k] 3)).alloc (.cells #[.int .i64 0] 58)).heap.size := by simp
  generalize ((w.alloc (.cells #[.int .i64 k] 3)).alloc (.cells #[.int .i64 0] 58)) = w2 at *
  have h2 := h.same hB2
  refine ⟨trivial, (callsIn_wide.2 (made_calls b mb w2 (h2.ob.cell (j := 0) rfl))).mono ?_⟩
  rintro e W' ⟨rfl, rfl⟩
  have q1 : decide (k < 1) = false := by simp; omega
  have q2 : decide (k > 11) = false := by simp; omega
  have c0 := o0.cell (j := 0) (v := .int .i64 k) rfl
  have cM := It.may_calls L v w2 (hI.mono hB2 hB2.size) hF
  rw [hm] at cM
  clear hk
  gi_wp2
  refine ⟨trivial, (callsIn_wide.2 cM).mono ?_⟩
  rintro e w3 ⟨rfl, hb3⟩
  have o3 := o1.same hb3
  have hB3 := hB2.trans (hb3.mono hB2.size)
  clear c0 o0 o1 hb3 cM h2 hB2
  have c1 := o3.cell (j := 0) (v := .int .i64 0) rfl
  have f1 := o3.frozen 0
  have p1 := o3.set 0 (.int .i64 60)
  have hBB := hB3.grown (grownBy_set w3 (w.heap.size + 1) 0 (.int .i64 60)) (by have := hB3.size; omega) (fun k e => by cases e; omega)
  have C2 := (show Ob (w3.setCell ⟨w.heap.size + 1, 0, none⟩ (.int .i64 60)) (w.heap.size + 1) 58 #[.int .i64 60] from p1).cell (j := 0) (v := .int .i64 60) rfl
  have HC2 := Lib.hid C2
  clear C2
  gi_wp2
  refine ⟨.int .i64 60, ?_, rfl, hBB⟩
  clear c1 f1
  simp [results, Try.f24, go_sem, HC2.out]
set_option maxRecDepth 100000 in
set_option maxHeartbeats 4000000 in
theorem do_may (h : StkAt w base b mb s) (k : Int) (L : List It.Item) (v : Value) (hI : ItemsAt w 0 w.heap.size v L) (hF : Fits L) (hk : ¬ (k < 1 ∨ 11 < k)) (hm : It.may L = true) (hc : mayS s k L ≠ 0) :
    Calls Try.prog 24 #[.pointer (some ⟨b, 0, none⟩), .int .i64 k, v] w fun e w' => e = .returned (.int .i64 (mayS s k L)) ∧ Below w.heap.size w w' := by
  refine (callsIn_wide (n := 6)).1 ?_
  refine callsIn_of_wp_marks Try.func24 rfl trivial ?_ rfl
  simp only [Try.ntmps24, List.size_toArray, List.length_cons, List.length_nil, Nat.reduceAdd, Nat.reduceSub, Array.replicate_succ, Array.replicate_zero, List.push_toArray, List.append_toArray, List.nil_append, List.cons_append]
  gi_wp2
  have o0 := (Ob.new w 3 #[.int .i64 k]).alloc (.cells #[.int .i64 0] 58)
  have o1 := Ob.new (w.alloc (.cells #[.int .i64 k] 3)) 58 #[.int .i64 0]
  have hB2 : Below w.heap.size w ((w.alloc (.cells #[.int .i64 k] 3)).alloc (.cells #[.int .i64 0] 58)) := ((Below.refl _ w).alloc (Nat.le_refl _) _).alloc (by simp) _
  simp only [World.size_alloc] at o1
  have hs2 : w.heap.size + 2 = ((w.alloc (.cells #[.int .i64 k] 3)).alloc (.cells #[.int .i64 0] 58)).heap.size := by simp
  generalize ((w.alloc (.cells #[.int .i64 k] 3)).alloc (.cells #[.int .i64 0] 58)) = w2 at *
  have h2 := h.same hB2
  refine ⟨trivial, (callsIn_wide.2 (made_calls b mb w2 (h2.ob.cell (j := 0) rfl))).mono ?_⟩
  rintro e W' ⟨rfl, rfl⟩
  have q1 : decide (k < 1) = false := by simp; omega
  have q2 : decide (k > 11) = false := by simp; omega
  have c0 := o0.cell (j := 0) (v := .int .i64 k) rfl
  have cM := It.may_calls L v w2 (hI.mono hB2 hB2.size) hF
  rw [hm] at cM
  clear hk
  gi_wp2
  refine ⟨trivial, (callsIn_wide.2 cM).mono ?_⟩
  rintro e w3 ⟨rfl, hb3⟩
  have o3 := o1.same hb3
  have hB3 := hB2.trans (hb3.mono hB2.size)
  have c0' := (o0.same hb3).cell (j := 0) (v := .int .i64 k) rfl
  have cY := may_calls (h.same hB3) k L v (hI.mono hB3 hB3.size) hF
  obtain ⟨M, hM⟩ : ∃ M, M = mayS s k L := ⟨_, rfl⟩
  rw [← hM] at cY hc
  have HM := Lib.hid hM
  have hd : (M != 0) = true := by rw [bne_iff_ne]; exact hc
  clear c0 o1 hb3 cM h2 hB2 hM
  gi_wp2
  refine ⟨trivial, (callsIn_wide.2 cY).mono ?_⟩
  rintro e w4 ⟨rfl, hb4⟩
  have o4 := o3.same hb4
  have hB4 := hB3.trans (hb4.mono hB3.size)
  clear c0' o3 hb4 cY hB3
  have c1 := o4.cell (j := 0) (v := .int .i64 0) rfl
  have f1 := o4.frozen 0
  have p1 := o4.set 0 (.int .i64 M)
  have hBB := hB4.grown (grownBy_set w4 (w.heap.size + 1) 0 (.int .i64 M)) (by have := hB4.size; omega) (fun k e => by cases e; omega)
  have C2 := (show Ob (w4.setCell ⟨w.heap.size + 1, 0, none⟩ (.int .i64 M)) (w.heap.size + 1) 58 #[.int .i64 M] from p1).cell (j := 0) (v := .int .i64 M) rfl
  have HC2 := Lib.hid C2
  clear C2
  gi_wp2
  refine ⟨.int .i64 M, ?_, by rw [HM.out], hBB⟩
  clear c1 f1
  simp [results, Try.f24, go_sem, HC2.out]
def goS (s : Stk) (k : Int) (l : List It.Item) : Stk × Int := match doGo k s l with
    | none => (s, 50)
    | some s' => if 64 < s'.length then (s, 2) else (s', 0)
theorem OkRow.put {s : Stk} (h : ∀ p ∈ s, OkP p) {g : Key} {r : Row} (hr : OkRow r) (hg : g.length ≤ maxLen) : ∀ p ∈ aPut strK s g r, OkP p := fun p hp => by
  rcases aPut_mem.1 hp with rfl | ⟨h1, -⟩
  · exact ⟨hr, hg⟩
  · exact h p h1
theorem get_row {s : Stk} (h : ∀ p ∈ s, OkP p) (g : Key) : OkRow ((aGet s g).getD row0) := by
  cases hg : aGet s g with
  | none => exact OkRow.zero
  | some r => exact (h _ (aGet_mem hg)).row
set_option maxRecDepth 100000 in
set_option maxHeartbeats 16000000 in
theorem do_go (h : StkAt w base b mb s) (k : Int) (L : List It.Item) (v : Value) (hI : ItemsAt w 0 w.heap.size v L) (hF : Fits L) (hk : ¬ (k < 1 ∨ 11 < k)) (hm : It.may L = true) (hc : mayS s k L = 0) :
    Calls Try.prog 24 #[.pointer (some ⟨b, 0, none⟩), .int .i64 k, v] w fun e w' => e = .returned (.int .i64 (goS s k L).2) ∧ (∃ mb', StkAt w' base b mb' (goS s k L).1 ∧ (mb' = mb ∨ w.heap.size ≤ mb')) ∧ DoKept b w w' := by
  obtain ⟨A, c, rfl, hcl1, hcl2⟩ := hI.form
  unfold maxLen at hcl2
  have hML := (It.may_iff L).1 hm
  have hMok := Lib.hid hML.ok
  have hMlen := hML.len
  clear hML
  refine (callsIn_wide (n := 6)).1 ?_
  refine callsIn_of_wp_marks Try.func24 rfl trivial ?_ rfl
  simp only [Try.ntmps24, List.size_toArray, List.length_cons, List.length_nil, Nat.reduceAdd, Nat.reduceSub, Array.replicate_succ, Array.replicate_zero, List.push_toArray, List.append_toArray, List.nil_append, List.cons_append]
  gi_wp2
  have o0 := (Ob.new w 3 #[.int .i64 k]).alloc (.cells #[.int .i64 0] 58)
  have o1 := Ob.new (w.alloc (.cells #[.int .i64 k] 3)) 58 #[.int .i64 0]
  have hB2 : Below w.heap.size w ((w.alloc (.cells #[.int .i64 k] 3)).alloc (.cells #[.int .i64 0] 58)) := ((Below.refl _ w).alloc (Nat.le_refl _) _).alloc (by simp) _
  simp only [World.size_alloc] at o1
  have hs2 : w.heap.size + 2 = ((w.alloc (.cells #[.int .i64 k] 3)).alloc (.cells #[.int .i64 0] 58)).heap.size := by simp
  generalize ((w.alloc (.cells #[.int .i64 k] 3)).alloc (.cells #[.int .i64 0] 58)) = w2 at *
  have h2 := h.same hB2
  refine ⟨trivial, (callsIn_wide.2 (made_calls b mb w2 (h2.ob.cell (j := 0) rfl))).mono ?_⟩
  rintro e W' ⟨rfl, rfl⟩
  have q1 : decide (k < 1) = false := by simp; omega
  have q2 : decide (k > 11) = false := by simp; omega
  have c0 := o0.cell (j := 0) (v := .int .i64 k) rfl
  have cM := It.may_calls L _ w2 (hI.mono hB2 hB2.size) hF
  rw [hm] at cM
  clear hk
  gi_wp2
  refine ⟨trivial, (callsIn_wide.2 cM).mono ?_⟩
  rintro e w3 ⟨rfl, hb3⟩
  have o3 := o1.same hb3
  have o03 := o0.same hb3
  have hB3 := hB2.trans (hb3.mono hB2.size)
  have c0' := o03.cell (j := 0) (v := .int .i64 k) rfl
  have cY := may_calls (h.same hB3) k L _ (hI.mono hB3 hB3.size) hF
  rw [hc] at cY
  clear c0 o1 o0 hb3 cM h2 hB2 hc hm
  gi_wp2
  refine ⟨trivial, (callsIn_wide.2 cY).mono ?_⟩
  rintro e w4 ⟨rfl, hb4⟩
  have o4 := o3.same hb4
  have o04 := o03.same hb4
  have hB4 := hB3.trans (hb4.mono hB3.size)
  clear c0' o3 o03 hb4 cY hB3
  have h4 := h.same hB4
  have z4 := h4.ob.cell (j := 0) (v := .map (some mb)) rfl
  gi_wp2
  refine ⟨trivial, (callsIn_wide.2 (clone_calls mb _ w4 h4.map)).mono ?_⟩
  rintro e w5 ⟨rfl, hg5, hlt5, hb5⟩
  have o5 := o4.same hb5
  have o05 := o04.same hb5
  have hB5 := hB4.trans (hb5.mono hB4.size)
  have hs45 : w.heap.size ≤ w4.heap.size := hB4.size
  have hs4' : w.heap.size + 1 < w4.heap.size := o4.lt
  clear o4 o04 hb5 hB4 h4 z4
  generalize w4.heap.size = mb2 at *
  gi_wp2_with (refine ⟨trivial, ?_⟩; gi_at_call 42; refine (callsIn_wide.2 (all_calls A _ c _)).mono ?_; rintro e w' ⟨rfl, rfl⟩)
  have a6 := hB5.alloc hB5.size (.cells #[.map (some mb2)] 80)
  have o6 := (o5.alloc (.cells #[.map (some mb2)] 80)).alloc (.cells #[.slice A L.length c] 55)
  have o06 := (o05.alloc (.cells #[.map (some mb2)] 80)).alloc (.cells #[.slice A L.length c] 55)
  have v6 := (Ob.new w5 80 #[.map (some mb2)]).alloc (.cells #[.slice A L.length c] 55)
  have s6 := Ob.new (w5.alloc (.cells #[.map (some mb2)] 80)) 55 #[.slice A L.length c]
  have g6 := (hg5.kept (World.grownBy_alloc w5 (.cells #[.map (some mb2)] 80) none) (by simp)).kept (World.grownBy_alloc (w5.alloc (.cells #[.map (some mb2)] 80)) (.cells #[.slice A L.length c] 55) none) (by simp)
  have hB6 := a6.alloc a6.size (.cells #[.slice A L.length c] 55)
  have hsz6 : ((w5.alloc (.cells #[.map (some mb2)] 80)).alloc (.cells #[.slice A L.length c] 55)).heap.size = w5.heap.size + 2 := by simp
  simp only [World.size_alloc] at s6
  clear o5 o05 hg5 a6
  generalize (w5.alloc (.cells #[.map (some mb2)] 80)).alloc (.cells #[.slice A L.length c] 55) = w6 at *
  generalize w5.heap.size = vb at *
  have HB6 := Lib.hid hB6
  have HH := Lib.hid h
  clear hB6 h hB5
  have HL64 := Lib.hid HH.out.len
  have HOKS := Lib.hid HH.out.ok
  apply (range_all (n := 6) rfl trivial (by omega) (Bs := vb + 1) (n₀ := w.heap.size) (v := .slice A L.length c) (L := L) rfl rfl (by omega) (by omega) (s6.cell (j := 0) rfl) (hI.below HB6.out)
    (fun pre W => Ob W w.heap.size 3 #[.int .i64 k] ∧ Ob W (w.heap.size + 1) 58 #[.int .i64 0] ∧ Ob W vb 80 #[.map (some mb2)] ∧ ∃ s', doGo k s (vals pre) = some s' ∧ GMap strK W Try.prog 9 mb2 (gm rowV s') ∧ (∀ p ∈ s', OkP p) ∧ s'.length ≤ s.length + pre.length)
    (fun c pre W => c = .ret ∧ doGo k s (vals pre) = none ∧ Ob W (w.heap.size + 1) 58 #[.int .i64 50])
    (fun s A B row hs hg hr => ⟨ob_keep hs.1 hg (fun r e => (hr r e).2), ob_keep hs.2.1 hg (fun r e => (hr r e).2), ob_keep hs.2.2.1 hg (fun r e => (hr r e).2), by
      obtain ⟨s', h1, h2, h3⟩ := hs.2.2.2
      exact ⟨s', h1, h2.kept hg (fun e => by have := (hr _ e.symm).1; omega), h3⟩⟩)
    (fun c s A B row hs hg hr => ⟨hs.1, hs.2.1, ob_keep hs.2.2 hg (fun r e => (hr r e).2)⟩)
    ⟨o06, o6, v6, s, rfl, g6, HOKS.out, by simp⟩)
  case hassign =>
    intro l x W K hK
    dsimp only [enc2]
    gi_wp2
    exact hK
  case hbody =>
    rintro l pre ⟨⟨xs, xn⟩, hx⟩ W ⟨p0, p1, pv, s', hgo, hgm, hok, hsl⟩ hB hsz hlen
    have hfit := hF _ hx
    have hMx := hMok.out _ hx
    have hkey := Lib.hid (key_str hfit.1)
    have hro := Lib.hid (get_row hok (key (xs, xn)))
    obtain ⟨hl1, -⟩ := look_row s' (key (xs, xn))
    have hS := Lib.hid (show doGo k s (vals (pre ++ [⟨(xs, xn), hx⟩])) = if rightR (stepR k ((aGet s' (key (xs, xn))).getD row0) xn) = true then some (aPut strK s' (key (xs, xn)) (stepR k ((aGet s' (key (xs, xn))).getD row0) xn)) else none by rw [vals_snoc, doGo_snoc, hgo]; rfl)
    have hxn1 : 1 ≤ xn := hMx.2.1
    have HKL := Lib.hid (show (key (xs, xn)).length ≤ maxLen from by have := hfit.1; unfold key; simpa using this)
    have hxn2 : xn ≤ 1099511627776 := hMx.2.2
    have HOK := Lib.hid hok
    have hpl : (pre ++ [(⟨(xs, xn), hx⟩ : Of L)]).length = pre.length + 1 := by simp
    have HPL := Lib.hid hpl
    clear hgo hMx hfit hok hpl
    generalize (aGet s' (key (xs, xn))).getD row0 = r at *
    have HL1 := Lib.hid hl1
    clear hl1
    have y0 := p0.cell (j := 0) (v := .int .i64 k) rfl
    have yv := pv.cell (j := 0) (v := .map (some mb2)) rfl
    have hsl6 := hB.size
    have oN := Ob.new W 84 #[.int .i64 0, .int .i64 0, .int .i64 0, .int .i64 0, .int .i64 0, .int .i64 0, .int .i64 0, .int .i64 0, .int .i64 0, .int .i64 0, .int .i64 0]
    have HNB := Lib.hid (fun (W3 : World) (hg3 : (W.alloc (.cells #[.int .i64 0, .int .i64 0, .int .i64 0, .int .i64 0, .int .i64 0, .int .i64 0, .int .i64 0, .int .i64 0, .int .i64 0, .int .i64 0, .int .i64 0] 84)).grownBy W3 (some W.heap.size)) => (((Below.refl W.heap.size W).alloc (Nat.le_refl _) _).grown hg3 (by simp) (fun k e => by cases e; exact Nat.le_refl _) : Below W.heap.size W W3))
    have hp1 := p1.lt
    have hpv := pv.lt
    have hlm := hgm.lt
    dsimp only at hkey ⊢
    gi_wp2_with (first
      | (gi_at_lookup; refine wpListIn_look_g rfl (.tmp 46) (.tmp 47) _ rfl 9 _ keyedS Try.underlying80 rfl hgm (zeroRow _) _ _ rfl hkey.out _ HL1.out ?_)
      | (refine wpListIn_store_ob rfl 84 (.tmp 11) (.tmp 48) rfl rfl rfl oN (by rw [rowC_size hro.out]; rfl) (row_size hro.out) (rowC_one r) ?_; intro W3 hO3 hg3; have hb3 := HNB.out _ hg3; have y3 := (p0.same hb3).cell (j := 0) (v := .int .i64 k) rfl))
    refine ⟨trivial, (CallsIn.inRound l (callsIn_wide.2 (road_calls k W.heap.size W3))).mono ?_⟩
    rintro e W4 ⟨rfl, h4⟩
    have hb4 := hb3.trans (h4.mono hb3.size)
    have hO4 := hO3.same h4
    clear y0 yv y3 hb3 hg3 h4 hO3 oN HNB
    have hlt := road_lt k
    have HST := Lib.hid (show addR (addR (addR r (road k).1 (-xn)) (road k).2.1 xn) (road k).2.2 xn = stepR k r xn from rfl)
    generalize (road k).1 = j1 at *
    generalize (road k).2.1 = j2 at *
    generalize (road k).2.2 = j3 at *
    obtain ⟨d1, d2, d3⟩ := hlt
    have hneg : wrap64 (-xn) = -xn := by unfold wrap64; omega
    have HNEG := Lib.hid hneg
    clear hneg
    have cA1 := fun V (hV : Ob V W.heap.size 84 (rowC r)) => add_calls W.heap.size j1 (-xn) hro.out d1 hV
    have hr1 := Lib.hid (hro.out.add j1 (-xn))
    have cA2 := fun V (hV : Ob V W.heap.size 84 (rowC (addR r j1 (-xn)))) => add_calls W.heap.size j2 xn hr1.out d2 hV
    have hr2 := Lib.hid (hr1.out.add j2 xn)
    have cA3 := fun V (hV : Ob V W.heap.size 84 (rowC (addR (addR r j1 (-xn)) j2 xn))) => add_calls W.heap.size j3 xn hr2.out d3 hV
    have hr3 := Lib.hid (hr2.out.add j3 xn)
    generalize ptr W.heap.size j1 = v1 at *
    generalize ptr W.heap.size j2 = v2 at *
    generalize ptr W.heap.size j3 = v3 at *
    have C1 := Lib.hid cA1
    have C2 := Lib.hid cA2
    have C3 := Lib.hid cA3
    clear cA1 cA2 cA3 d1 d2 d3
    gi_wp2
    refine ⟨trivial, (CallsIn.inRound l (callsIn_wide.2 (C1.out _ hO4))).mono ?_⟩
    rintro e W5 ⟨rfl, hO5, hg5⟩
    have hb5 := hb4.grown hg5 hb4.size (fun k e => by cases e; exact Nat.le_refl _)
    clear hg5 hO4 hb4
    gi_wp2
    refine ⟨trivial, (CallsIn.inRound l (callsIn_wide.2 (C2.out _ hO5))).mono ?_⟩
    rintro e W6 ⟨rfl, hO6, hg6⟩
    have hb6 := hb5.grown hg6 hb5.size (fun k e => by cases e; exact Nat.le_refl _)
    clear hg6 hO5 hb5
    gi_wp2
    refine ⟨trivial, (CallsIn.inRound l (callsIn_wide.2 (C3.out _ hO6))).mono ?_⟩
    rintro e W7 ⟨rfl, hO7, hg7⟩
    have hb7 := hb6.grown hg7 hb6.size (fun k e => by cases e; exact Nat.le_refl _)
    clear hg7 hO6 hb6
    have hrq := hr3.out
    rw [HST.out] at hO7 hrq
    generalize stepR k r xn = q at *
    have HRQ := Lib.hid hrq
    have cRT := right_calls W.heap.size hrq hO7
    clear C1 C2 C3 hr1 hr2 hr3 HST HNEG hrq
    gi_wp2
    refine ⟨trivial, (CallsIn.inRound l (callsIn_wide.2 cRT)).mono ?_⟩
    rintro e W8 ⟨rfl, hb8⟩
    have hO8 := hO7.same hb8
    have hbb := hb7.trans (hb8.mono hb7.size)
    clear cRT hO7 hb7 hb8
    have hWs := hbb.size
    cases hrt : rightR q with
    | false =>
      have HS2 := Lib.hid (show doGo k s (vals (pre ++ [⟨(xs, xn), hx⟩])) = none by rw [hS.out, hrt]; rfl)
      have c1 := (p1.same hbb).cell (j := 0) (v := .int .i64 0) rfl
      have f1 := (p1.same hbb).frozen 0
      gi_wp2
      exact ⟨keeps_set (keeps_below _ hbb) _ _, (hbb.mono (B' := w.heap.size) (by omega)).setCell (p := ⟨w.heap.size + 1, 0, none⟩) (by simp) _, rfl, HS2.out, (p1.same hbb).set 0 _⟩
    | true =>
      have HS2 := Lib.hid (show doGo k s (vals (pre ++ [⟨(xs, xn), hx⟩])) = some (aPut strK s' (key (xs, xn)) q) by rw [hS.out, hrt]; rfl)
      have yv := (pv.same hbb).cell (j := 0) (v := .map (some mb2)) rfl
      have hgm8 := hgm.below hbb hlm
      have hsl2 := aPut_length_le (K := strK) s' (key (xs, xn)) q
      have hml : (gm rowV s').length < maxLen := by rw [gm_length]; have := HL64.out; unfold maxLen; omega
      have hrv : rowV q = .agg (rowC q) := rfl
      have HPUT := Lib.hid (gm_put (f := rowV) (K := strK) s' (key (xs, xn)) q)
      have hOb8 := Lib.hid hO8
      clear hrv hgm
      gi_wp2_with (first
        | (refine wpListIn_load_ob rfl 84 (.tmp 11) rfl rfl _ hO8 Try.underlying84 rfl (row_size HRQ.out) ?_)
        | (gi_at_mapUpdate; refine wpListIn_put_g rfl (.tmp 67) (.tmp 68) (.tmp 69) _ rfl 9 _ keyedS Try.underlying80 rfl hgm8 hml _ _ _ rfl rfl hkey.out ?_; intro W9 hgm9 hg9))
      have hgm9' : GMap strK W9 Try.prog 9 mb2 (gm rowV (aPut strK s' (key (xs, xn)) q)) := by
        rw [← HPUT.out]
        exact hgm9
      have hsz9 := hg9.size
      refine ⟨⟨Nat.le_trans hWs hsz9, fun i _ hi ho _ => (hg9.block i (Nat.lt_of_lt_of_le (Array.getElem?_eq_some_iff.1 ho).1 hWs) (fun e => by have := Option.some.inj e; omega)).trans ((hbb.block i (Array.getElem?_eq_some_iff.1 ho).1).trans ho)⟩,
        (hbb.mono (B' := w.heap.size) (by omega)).grown hg9 (by omega) (fun g hg => by have := Option.some.inj hg; omega), (p0.same hbb).kept hg9 (fun e => by have := Option.some.inj e; omega), (p1.same hbb).kept hg9 (fun e => by have := Option.some.inj e; omega), (pv.same hbb).kept hg9 (fun e => by have := Option.some.inj e; omega), _, HS2.out, hgm9', (fun a b hab => OkRow.put HOK.out HRQ.out HKL.out (a, b) hab), by rw [HPL.out]; omega⟩
  case hstop =>
    rintro D c pre X hD hpre ⟨rfl, hgo, p1⟩ hB hK
    have HC := Lib.hid (show goS s k L = (s, 50) by unfold goS; rw [doGo_prefix (vals_prefix hpre) hgo])
    clear hgo
    gi_wp2
    refine ⟨by simp, .inl ⟨_, _, rfl, run_takeDeferred hK, ?_⟩⟩
    have c4 := (boxed_end (show Boxed X (w.heap.size + 1) 58 (.int .i64 50) from p1) hK).cell
    have hBF := below_end (HB6.out.trans hB) (by omega) hK
    refine ⟨.int .i64 50, ?_, by rw [HC.out], by rw [HC.out]; exact HH.out.out hBF⟩
    simp [results, Try.f24, go_sem, c4]
  case hdone =>
    rintro D X hD ⟨p0, p1, pv, s', hgo, hgm, hok, hsl⟩ hB hK
    rw [vals_all] at hgo
    have HC := Lib.hid (show goS s k L = if 64 < s'.length then (s, 2) else (s', 0) by unfold goS; rw [hgo])
    clear hgo
    have yv := pv.cell (j := 0) (v := .map (some mb2)) rfl
    have hln := fun ty => hgm.len Try.underlying80 ty
    simp only [gm_length] at hln
    have c1 := p1.cell (j := 0) (v := .int .i64 0) rfl
    have f1 := p1.frozen 0
    have hlm := hgm.lt
    by_cases hbig : 64 < s'.length
    · have HC2 := Lib.hid (show goS s k L = (s, 2) by rw [HC.out, if_pos hbig])
      have hd : decide ((s'.length : Int) > 64) = true := by simp; omega
      gi_wp2
      have hp3 := p1.set 0 (.int .i64 2)
      have g1 := grownBy_set X (w.heap.size + 1) 0 (.int .i64 2)
      have hB3 := (HB6.out.trans hB).grown g1 (by have := hB.size; omega) (fun k e => by cases e; omega)
      have hK3 := (g1.block D (Array.getElem?_eq_some_iff.1 hK).1 (fun e => by have := Option.some.inj e; omega)).trans hK
      refine ⟨by simp, .inl ⟨_, _, rfl, run_takeDeferred hK3, ?_⟩⟩
      have c4 := (boxed_end (show Boxed (X.setCell ⟨w.heap.size + 1, 0, none⟩ (.int .i64 2)) (w.heap.size + 1) 58 (.int .i64 2) from hp3) hK3).cell
      have hBF := below_end hB3 (by omega) hK3
      refine ⟨.int .i64 2, ?_, by rw [HC2.out], by rw [HC2.out]; exact HH.out.out hBF⟩
      simp [results, Try.f24, go_sem, c4]
    · have HC2 := Lib.hid (show goS s k L = (s', 0) by rw [HC.out, if_neg hbig])
      have hd : decide ((s'.length : Int) > 64) = false := by simp; omega
      have hX := HH.out.same (HB6.out.trans hB)
      have zb := hX.ob.cell (j := 0) (v := .map (some mb)) rfl
      have fb := hX.ob.frozen 0
      have hbl := HH.out.ob.lt
      have hlo := HH.out.lo
      have c1' := (p1.other (b' := b) (by omega) 0 (.map (some mb2))).cell (j := 0) (v := .int .i64 0) rfl
      have f1' := (p1.other (b' := b) (by omega) 0 (.map (some mb2))).frozen 0
      gi_wp2
      have ob9 := (hX.ob.set 0 (.map (some mb2))).other (b' := w.heap.size + 1) (by omega) 0 (.int .i64 0)
      have p19 := (p1.other (b' := b) (by omega) 0 (.map (some mb2))).set 0 (.int .i64 0)
      have ga := grownBy_set X b 0 (.map (some mb2))
      have gb := grownBy_set (X.setCell ⟨b, 0, none⟩ (.map (some mb2))) (w.heap.size + 1) 0 (.int .i64 0)
      have hgm9 := (hgm.kept ga (fun e => by have := Option.some.inj e; omega)).kept gb (fun e => by have := Option.some.inj e; omega)
      have hKp : Kept (fun i => i < w.heap.size ∧ i ≠ b) w ((X.setCell ⟨b, 0, none⟩ (.map (some mb2))).setCell ⟨w.heap.size + 1, 0, none⟩ (.int .i64 0)) :=
        ((Kept.of_below (HB6.out.trans hB) (Fr := fun i => i < w.heap.size ∧ i ≠ b) fun _ hi => hi.1).trans (Kept.of_grown ga fun i hi => ⟨by have := (HB6.out.trans hB).size; omega, fun e => hi.2 (Option.some.inj e)⟩)).trans (Kept.of_grown gb fun i hi => ⟨by have := (HB6.out.trans hB).size; have := ga.size; omega, fun e => by have := Option.some.inj e; omega⟩)
      have hK8 := (ga.block D (Array.getElem?_eq_some_iff.1 hK).1 (fun e => by have := Option.some.inj e; omega)).trans hK
      have hK9 := (gb.block D (Array.getElem?_eq_some_iff.1 hK8).1 (fun e => by have := Option.some.inj e; omega)).trans hK8
      clear zb fb c1 f1 c1' f1' yv hln ga gb hK hK8
      generalize (X.setCell ⟨b, 0, none⟩ (.map (some mb2))).setCell ⟨w.heap.size + 1, 0, none⟩ (.int .i64 0) = Y at *
      refine ⟨by simp, .inl ⟨_, _, rfl, run_takeDeferred hK9, ?_⟩⟩
      have c4 := (boxed_end (show Boxed Y (w.heap.size + 1) 58 (.int .i64 0) from p19) hK9).cell
      have gD := grownBy_putObj' Y D (.deferred none)
      refine ⟨.int .i64 0, ?_, by rw [HC2.out], ?_⟩
      · simp [results, Try.f24, go_sem, c4]
      · rw [HC2.out]
        refine ⟨⟨mb2, ⟨ob9.kept gD (fun e => by have := Option.some.inj e; omega), hgm9.kept gD (fun e => by have := Option.some.inj e; omega), hok, by omega, by omega, by dsimp only; omega⟩, .inr (by omega)⟩, hKp.trans (Kept.of_grown gD fun i hi => ⟨by have := hKp.size; omega, fun e => by have := Option.some.inj e; omega⟩)⟩
theorem do_calls (h : StkAt w base b mb s) (k : Int) (L : List It.Item) (v : Value) (hI : ItemsAt w 0 w.heap.size v L) (hF : Fits L) :
    Calls Try.prog 24 #[.pointer (some ⟨b, 0, none⟩), .int .i64 k, v] w fun e w' => e = .returned (.int .i64 (doS s k L).2) ∧ (∃ mb', StkAt w' base b mb' (doS s k L).1 ∧ (mb' = mb ∨ w.heap.size ≤ mb')) ∧ DoKept b w w' := by
  by_cases hk : k < 1 ∨ 11 < k
  · have e : doS s k L = (s, 1) := by unfold doS; rw [if_pos hk]
    rw [e]
    refine (do_arg h k v hk).mono ?_
    rintro e W ⟨rfl, hb⟩
    exact ⟨rfl, h.out hb⟩
  · cases hm : It.may L with
    | false =>
      have e : doS s k L = (s, 60) := by unfold doS; rw [if_neg hk, if_pos hm]
      rw [e]
      refine (do_items h k L v hI hF hk hm).mono ?_
      rintro e W ⟨rfl, hb⟩
      exact ⟨rfl, h.out hb⟩
    | true =>
      by_cases hc : mayS s k L = 0
      · have e : doS s k L = goS s k L := by unfold doS; rw [if_neg hk, if_neg (by rw [hm]; simp), if_neg (by simp [hc])]; rfl
        rw [e]
        exact do_go h k L v hI hF hk hm hc
      · have e : doS s k L = (s, mayS s k L) := by unfold doS; rw [if_neg hk, if_neg (by rw [hm]; simp), if_pos hc]
        rw [e]
        refine (do_may h k L v hI hF hk hm hc).mono ?_
        rintro e W ⟨rfl, hb⟩
        exact ⟨rfl, h.out hb⟩
end
end Sk
end Go.Proofs.Ytlhpdalfnjhokaa

namespace Go.Proofs.Ytlhpdalfnjhokaa
open Go.RowKit Go.Maps
namespace Sk
open It Al
def lvV (r : Row) : Value := .agg #[.int .i64 (at_ r 0), .int .i64 (at_ r 1), .int .i64 (at_ r 2), .int .i64 (at_ r 3)]
def flV (r : Row) : Value := .agg #[.int .i64 (at_ r 4), .int .i64 (at_ r 5), .int .i64 (at_ r 6), .int .i64 (at_ r 7), .int .i64 (at_ r 8), .int .i64 (at_ r 9), .int .i64 (at_ r 10)]
theorem row_eleven {r : Row} (h : OkRow r) : ∃ a0 a1 a2 a3 a4 a5 a6 a7 a8 a9 a10, r = [a0, a1, a2, a3, a4, a5, a6, a7, a8, a9, a10] := by
  have hl := h.len
  match r, hl with
  | [a0, a1, a2, a3, a4, a5, a6, a7, a8, a9, a10], _ => exact ⟨a0, a1, a2, a3, a4, a5, a6, a7, a8, a9, a10, rfl⟩
section
variable {w : World} {base b mb : Nat} {s : Stk}
theorem level_field (a0 a1 a2 a3 a4 a5 a6 a7 a8 a9 a10 : Int) (W : World) : (Instr.field 84 (.agg #[.int .i64 a0, .int .i64 a1, .int .i64 a2, .int .i64 a3, .int .i64 a4, .int .i64 a5, .int .i64 a6, .int .i64 a7, .int .i64 a8, .int .i64 a9, .int .i64 a10]) 0).run Try.prog W = .ok (.agg #[.int .i64 a0, .int .i64 a1, .int .i64 a2, .int .i64 a3]) W := by kernel_rfl
set_option maxRecDepth 100000 in
set_option maxHeartbeats 4000000 in
theorem level_calls (h : StkAt w base b mb s) (g : ByteArray) (hg : g.size ≤ maxLen) :
    Calls Try.prog 29 #[.pointer (some ⟨b, 0, none⟩), .string g] w fun e w' => e = .returned (lvV ((aGet s g.data.toList).getD row0)) ∧ Below w.heap.size w w' := by
  have hro := h.row g.data.toList
  obtain ⟨hl1, -⟩ := look_row s g.data.toList
  have hkey := Lib.hid (key_str hg)
  obtain ⟨r, hr⟩ : ∃ r, r = (aGet s g.data.toList).getD row0 := ⟨_, rfl⟩
  rw [← hr] at hro hl1 ⊢
  obtain ⟨a0, a1, a2, a3, a4, a5, a6, a7, a8, a9, a10, rfl⟩ := row_eleven hro
  have HL1 := Lib.hid (show (mGet (gm rowV s) g.data.toList).getD (rowV row0) = .agg #[.int .i64 a0, .int .i64 a1, .int .i64 a2, .int .i64 a3, .int .i64 a4, .int .i64 a5, .int .i64 a6, .int .i64 a7, .int .i64 a8, .int .i64 a9, .int .i64 a10] from hl1)
  have hal := (Below.refl w.heap.size w).alloc (Nat.le_refl _) (.cells #[.int .i64 0, .int .i64 0, .int .i64 0, .int .i64 0] 23)
  have h2 := h.same hal
  have z0 := h2.ob.cell (j := 0) (v := .map (some mb)) rfl
  have hgm := h2.map
  have hO := Ob.new w 23 #[.int .i64 0, .int .i64 0, .int .i64 0, .int .i64 0]
  have cM := Lib.hid (made_calls b mb _ z0)
  clear hr hl1 hro h
  go_enter Try.func29, Try.ntmps29
  go_wp2_with fail
  refine cM.out.mono ?_
  rintro e W ⟨rfl, rfl⟩
  clear cM
  generalize w.alloc (.cells #[.int .i64 0, .int .i64 0, .int .i64 0, .int .i64 0] 23) = w2 at *
  have f0 := hO.frozen 0
  have g0 := hO.cell (j := 0) (v := .int .i64 0) rfl
  have g1 := hO.cell (j := 1) (v := .int .i64 0) rfl
  have g2 := hO.cell (j := 2) (v := .int .i64 0) rfl
  have g3 := hO.cell (j := 3) (v := .int .i64 0) rfl
  have hfld := fun W => level_field a0 a1 a2 a3 a4 a5 a6 a7 a8 a9 a10 W
  go_wp2_with (first
    | (at_lookup; refine wpList_look_g rfl (.tmp 12) (.tmp 13) _ rfl 9 _ keyedS Try.underlying80 rfl hgm (zeroRow _) _ _ rfl hkey.out _ HL1.out ?_)
    | (refine wpList_store_ob rfl 23 (.tmp 4) (.tmp 15) rfl rfl rfl hO rfl (by kernel_rfl) (by simp [Value.oneCell']) ?_; intro w4 hO4 hg4))
  have hb4 := hal.grown hg4 hal.size (fun k e => by cases e; exact Nat.le_refl _)
  refine bodyPost_ret (v := .agg #[.int .i64 a0, .int .i64 a1, .int .i64 a2, .int .i64 a3]) ?_ rfl ⟨rfl, hb4⟩
  clear f0 g0 g1 g2 g3
  have c0 := hO4.cell (j := 0) (v := .int .i64 a0) rfl
  have c1 := hO4.cell (j := 1) (v := .int .i64 a1) rfl
  have c2 := hO4.cell (j := 2) (v := .int .i64 a2) rfl
  have c3 := hO4.cell (j := 3) (v := .int .i64 a3) rfl
  simp [results, Try.f29, go_sem, c0, c1, c2, c3]
theorem level_nil (g : ByteArray) (w : World) : Calls Try.prog 29 #[.pointer none, .string g] w fun e w' => e = .returned (lvV row0) ∧ Below w.heap.size w w' := by
  have cM := Lib.hid (made_nil (w.alloc (.cells #[.int .i64 0, .int .i64 0, .int .i64 0, .int .i64 0] 23)))
  have hal := (Below.refl w.heap.size w).alloc (Nat.le_refl _) (.cells #[.int .i64 0, .int .i64 0, .int .i64 0, .int .i64 0] 23)
  have hO := Ob.new w 23 #[.int .i64 0, .int .i64 0, .int .i64 0, .int .i64 0]
  go_enter Try.func29, Try.ntmps29
  go_wp2_with fail
  refine cM.out.mono ?_
  rintro e W ⟨rfl, rfl⟩
  clear cM
  generalize w.alloc (.cells #[.int .i64 0, .int .i64 0, .int .i64 0, .int .i64 0] 23) = w2 at *
  have f0 := hO.frozen 0
  have g0 := hO.cell (j := 0) (v := .int .i64 0) rfl
  have g1 := hO.cell (j := 1) (v := .int .i64 0) rfl
  have g2 := hO.cell (j := 2) (v := .int .i64 0) rfl
  have g3 := hO.cell (j := 3) (v := .int .i64 0) rfl
  go_wp2_with (refine wpList_store_ob rfl 23 (.tmp 4) (.tmp 8) rfl rfl rfl hO rfl (by kernel_rfl) (by simp [Value.oneCell']) ?_; intro w4 hO4 hg4)
  have hb4 := hal.grown hg4 hal.size (fun k e => by cases e; exact Nat.le_refl _)
  refine bodyPost_ret (v := .agg #[.int .i64 0, .int .i64 0, .int .i64 0, .int .i64 0]) ?_ rfl ⟨rfl, hb4⟩
  clear f0 g0 g1 g2 g3
  have c0 := hO4.cell (j := 0) (v := .int .i64 0) rfl
  have c1 := hO4.cell (j := 1) (v := .int .i64 0) rfl
  have c2 := hO4.cell (j := 2) (v := .int .i64 0) rfl
  have c3 := hO4.cell (j := 3) (v := .int .i64 0) rfl
  simp [results, Try.f29, go_sem, c0, c1, c2, c3]
theorem flow_field (a0 a1 a2 a3 a4 a5 a6 a7 a8 a9 a10 : Int) (W : World) : (Instr.field 84 (.agg #[.int .i64 a0, .int .i64 a1, .int .i64 a2, .int .i64 a3, .int .i64 a4, .int .i64 a5, .int .i64 a6, .int .i64 a7, .int .i64 a8, .int .i64 a9, .int .i64 a10]) 1).run Try.prog W = .ok (.agg #[.int .i64 a4, .int .i64 a5, .int .i64 a6, .int .i64 a7, .int .i64 a8, .int .i64 a9, .int .i64 a10]) W := by kernel_rfl
set_option maxRecDepth 100000 in
set_option maxHeartbeats 4000000 in
theorem flow_calls (h : StkAt w base b mb s) (g : ByteArray) (hg : g.size ≤ maxLen) :
    Calls Try.prog 30 #[.pointer (some ⟨b, 0, none⟩), .string g] w fun e w' => e = .returned (flV ((aGet s g.data.toList).getD row0)) ∧ Below w.heap.size w w' := by
  have hro := h.row g.data.toList
  obtain ⟨hl1, -⟩ := look_row s g.data.toList
  have hkey := Lib.hid (key_str hg)
  obtain ⟨r, hr⟩ : ∃ r, r = (aGet s g.data.toList).getD row0 := ⟨_, rfl⟩
  rw [← hr] at hro hl1 ⊢
  obtain ⟨a0, a1, a2, a3, a4, a5, a6, a7, a8, a9, a10, rfl⟩ := row_eleven hro
  have HL1 := Lib.hid (show (mGet (gm rowV s) g.data.toList).getD (rowV row0) = .agg #[.int .i64 a0, .int .i64 a1, .int .i64 a2, .int .i64 a3, .int .i64 a4, .int .i64 a5, .int .i64 a6, .int .i64 a7, .int .i64 a8, .int .i64 a9, .int .i64 a10] from hl1)
  have hal := (Below.refl w.heap.size w).alloc (Nat.le_refl _) (.cells #[.int .i64 0, .int .i64 0, .int .i64 0, .int .i64 0, .int .i64 0, .int .i64 0, .int .i64 0] 25)
  have h2 := h.same hal
  have z0 := h2.ob.cell (j := 0) (v := .map (some mb)) rfl
  have hgm := h2.map
  have hO := Ob.new w 25 #[.int .i64 0, .int .i64 0, .int .i64 0, .int .i64 0, .int .i64 0, .int .i64 0, .int .i64 0]
  have cM := Lib.hid (made_calls b mb _ z0)
  clear hr hl1 hro h
  go_enter Try.func30, Try.ntmps30
  go_wp2_with fail
  refine cM.out.mono ?_
  rintro e W ⟨rfl, rfl⟩
  clear cM
  generalize w.alloc (.cells #[.int .i64 0, .int .i64 0, .int .i64 0, .int .i64 0, .int .i64 0, .int .i64 0, .int .i64 0] 25) = w2 at *
  have f0 := hO.frozen 0
  have g0 := hO.cell (j := 0) (v := .int .i64 0) rfl
  have g1 := hO.cell (j := 1) (v := .int .i64 0) rfl
  have g2 := hO.cell (j := 2) (v := .int .i64 0) rfl
  have g3 := hO.cell (j := 3) (v := .int .i64 0) rfl
  have g4 := hO.cell (j := 4) (v := .int .i64 0) rfl
  have g5 := hO.cell (j := 5) (v := .int .i64 0) rfl
  have g6 := hO.cell (j := 6) (v := .int .i64 0) rfl
  have hfld := fun W => flow_field a0 a1 a2 a3 a4 a5 a6 a7 a8 a9 a10 W
  go_wp2_with (first
    | (at_lookup; refine wpList_look_g rfl (.tmp 12) (.tmp 13) _ rfl 9 _ keyedS Try.underlying80 rfl hgm (zeroRow _) _ _ rfl hkey.out _ HL1.out ?_)
    | (refine wpList_store_ob rfl 25 (.tmp 4) (.tmp 15) rfl rfl rfl hO rfl (by kernel_rfl) (by simp [Value.oneCell']) ?_; intro w4 hO4 hg4))
  have hb4 := hal.grown hg4 hal.size (fun k e => by cases e; exact Nat.le_refl _)
  refine bodyPost_ret (v := .agg #[.int .i64 a4, .int .i64 a5, .int .i64 a6, .int .i64 a7, .int .i64 a8, .int .i64 a9, .int .i64 a10]) ?_ rfl ⟨rfl, hb4⟩
  clear f0 g0 g1 g2 g3 g4 g5 g6
  have c0 := hO4.cell (j := 0) (v := .int .i64 a4) rfl
  have c1 := hO4.cell (j := 1) (v := .int .i64 a5) rfl
  have c2 := hO4.cell (j := 2) (v := .int .i64 a6) rfl
  have c3 := hO4.cell (j := 3) (v := .int .i64 a7) rfl
  have c4 := hO4.cell (j := 4) (v := .int .i64 a8) rfl
  have c5 := hO4.cell (j := 5) (v := .int .i64 a9) rfl
  have c6 := hO4.cell (j := 6) (v := .int .i64 a10) rfl
  simp [results, Try.f30, go_sem, c0, c1, c2, c3, c4, c5, c6]
theorem flow_nil (g : ByteArray) (w : World) : Calls Try.prog 30 #[.pointer none, .string g] w fun e w' => e = .returned (flV row0) ∧ Below w.heap.size w w' := by
  have cM := Lib.hid (made_nil (w.alloc (.cells #[.int .i64 0, .int .i64 0, .int .i64 0, .int .i64 0, .int .i64 0, .int .i64 0, .int .i64 0] 25)))
  have hal := (Below.refl w.heap.size w).alloc (Nat.le_refl _) (.cells #[.int .i64 0, .int .i64 0, .int .i64 0, .int .i64 0, .int .i64 0, .int .i64 0, .int .i64 0] 25)
  have hO := Ob.new w 25 #[.int .i64 0, .int .i64 0, .int .i64 0, .int .i64 0, .int .i64 0, .int .i64 0, .int .i64 0]
  go_enter Try.func30, Try.ntmps30
  go_wp2_with fail
  refine cM.out.mono ?_
  rintro e W ⟨rfl, rfl⟩
  clear cM
  generalize w.alloc (.cells #[.int .i64 0, .int .i64 0, .int .i64 0, .int .i64 0, .int .i64 0, .int .i64 0, .int .i64 0] 25) = w2 at *
  have f0 := hO.frozen 0
  have g0 := hO.cell (j := 0) (v := .int .i64 0) rfl
  have g1 := hO.cell (j := 1) (v := .int .i64 0) rfl
  have g2 := hO.cell (j := 2) (v := .int .i64 0) rfl
  have g3 := hO.cell (j := 3) (v := .int .i64 0) rfl
  have g4 := hO.cell (j := 4) (v := .int .i64 0) rfl
  have g5 := hO.cell (j := 5) (v := .int .i64 0) rfl
  have g6 := hO.cell (j := 6) (v := .int .i64 0) rfl
  go_wp2_with (refine wpList_store_ob rfl 25 (.tmp 4) (.tmp 8) rfl rfl rfl hO rfl (by kernel_rfl) (by simp [Value.oneCell']) ?_; intro w4 hO4 hg4)
  have hb4 := hal.grown hg4 hal.size (fun k e => by cases e; exact Nat.le_refl _)
  refine bodyPost_ret (v := .agg #[.int .i64 0, .int .i64 0, .int .i64 0, .int .i64 0, .int .i64 0, .int .i64 0, .int .i64 0]) ?_ rfl ⟨rfl, hb4⟩
  clear f0 g0 g1 g2 g3 g4 g5 g6
  have c0 := hO4.cell (j := 0) (v := .int .i64 0) rfl
  have c1 := hO4.cell (j := 1) (v := .int .i64 0) rfl
  have c2 := hO4.cell (j := 2) (v := .int .i64 0) rfl
  have c3 := hO4.cell (j := 3) (v := .int .i64 0) rfl
  have c4 := hO4.cell (j := 4) (v := .int .i64 0) rfl
  have c5 := hO4.cell (j := 5) (v := .int .i64 0) rfl
  have c6 := hO4.cell (j := 6) (v := .int .i64 0) rfl
  simp [results, Try.f30, go_sem, c0, c1, c2, c3, c4, c5, c6]
end
end Sk
end Go.Proofs.Ytlhpdalfnjhokaa

namespace Go.Proofs.Ytlhpdalfnjhokaa
open Go.RowKit Go.Maps
namespace Sk
open It Al
def moreR (r : Row) (n : Int) : Int := wrap64 (wrap64 (n - at_ r 1) - at_ r 0)
def countR (r : Row) (n : Int) : Row := (r.set 0 (wrap64 (at_ r 0 + moreR r n))).set 6 (wrap64 (at_ r 6 + moreR r n))
def countS (s : Stk) (g : Key) (n : Int) : Stk × Int × Int :=
  if countOk n = false then (s, 0, 1) else match aGet s g with
    | none => (s, 0, 71)
    | some r => if n < at_ r 1 then (s, 0, 70) else if rightR (countR r n) = true then (aPut strK s g (countR r n), moreR r n, 0) else (s, 0, 50)
theorem aPut_length_of {κ α : Type} [DecidableEq κ] {K : KeyK κ} {m : List (κ × α)} {k : κ} {a x : α} (h : aGet m k = some x) : (aPut K m k a).length ≤ m.length := by
  unfold aPut
  rw [aIns_length]
  have hm := aGet_mem h
  have : (aDel m k).length < m.length := by
    unfold aDel
    exact List.length_filter_lt_length_iff_exists.2 ⟨_, hm, by simp⟩
  omega
/-- what Count leaves alone -/
def CtKept (mb : Nat) (w w' : World) : Prop := Kept (fun i => i < w.heap.size ∧ i ≠ mb) w w'
section
variable {w : World} {base b mb : Nat} {s : Stk}
set_option maxRecDepth 100000 in
set_option maxHeartbeats 8000000 in
theorem count_arg (h : StkAt w base b mb s) (g : ByteArray) (hg : g.size ≤ maxLen) (n : Int) (hc : countOk n = false ∨ aGet s g.data.toList = none) :
    Calls Try.prog 23 #[.pointer (some ⟨b, 0, none⟩), .string g, .int .i64 n] w fun e w' => e = .returned (.tuple #[.int .i64 0, .int .i64 (if countOk n = false then 1 else 71)]) ∧ Below w.heap.size w w' := by
  have hro := Lib.hid (h.row g.data.toList)
  obtain ⟨hl1, hl2⟩ := look_row s g.data.toList
  have hkey := Lib.hid (key_str hg)
  have hgm := h.map
  have z0 := h.ob.cell (j := 0) (v := .map (some mb)) rfl
  have cM := Lib.hid (made_calls b mb _ z0)
  generalize (aGet s g.data.toList).getD row0 = r at *
  have HL1 := Lib.hid hl1
  have HL2 := Lib.hid hl2
  have oN := Ob.new w 84 #[.int .i64 0, .int .i64 0, .int .i64 0, .int .i64 0, .int .i64 0, .int .i64 0, .int .i64 0, .int .i64 0, .int .i64 0, .int .i64 0, .int .i64 0]
  have HNB := Lib.hid (fun (W3 : World) (hg3 : (w.alloc (.cells #[.int .i64 0, .int .i64 0, .int .i64 0, .int .i64 0, .int .i64 0, .int .i64 0, .int .i64 0, .int .i64 0, .int .i64 0, .int .i64 0, .int .i64 0] 84)).grownBy W3 (some w.heap.size)) => (((Below.refl w.heap.size w).alloc (Nat.le_refl _) _).grown hg3 (by simp) (fun k e => by cases e; exact Nat.le_refl _) : Below w.heap.size w W3))
  have cN := Lib.hid (fun W => count_calls n W)
  have hcs : countOk n = false ∨ (countOk n = true ∧ (aGet s g.data.toList).isSome = false) := by
    rcases hc with h | h
    · exact .inl h
    · cases hn : countOk n with
      | false => exact .inl rfl
      | true => exact .inr ⟨rfl, by rw [h]; rfl⟩
  clear hl1 hl2 hc h
  obtain ⟨cn, hcn⟩ : ∃ cn, cn = countOk n := ⟨_, rfl⟩
  rw [← hcn] at cN hcs ⊢
  clear hcn
  obtain ⟨is, his⟩ : ∃ is, is = (aGet s g.data.toList).isSome := ⟨_, rfl⟩
  rw [← his] at HL2 hcs
  clear his
  rcases hcs with rfl | ⟨rfl, rfl⟩
  · go_enter Try.func23, Try.ntmps23
    go_wp2_with fail
    refine cM.out.mono ?_
    rintro e W ⟨rfl, rfl⟩
    go_wp2_with (first | (at_lookup; refine wpList_look_ok_g rfl (.tmp 18) (.tmp 19) _ rfl 9 _ keyedS Try.underlying80 rfl hgm (zeroRow _) _ _ rfl hkey.out _ _ HL1.out HL2.out ?_) | (refine wpList_store_ob rfl 84 (.tmp 8) (.tmp 21) rfl rfl rfl oN (by rw [rowC_size hro.out]; rfl) (row_size hro.out) (rowC_one r) ?_; intro W3 hO3 hg3; have hb3 := HNB.out _ hg3) | (go_at_call 37; refine (cN.out _).mono ?_; rintro e W2 ⟨rfl, rfl⟩))
    go_ret2
    exact ⟨rfl, hb3⟩
  · go_enter Try.func23, Try.ntmps23
    go_wp2_with fail
    refine cM.out.mono ?_
    rintro e W ⟨rfl, rfl⟩
    go_wp2_with (first | (at_lookup; refine wpList_look_ok_g rfl (.tmp 18) (.tmp 19) _ rfl 9 _ keyedS Try.underlying80 rfl hgm (zeroRow _) _ _ rfl hkey.out _ _ HL1.out HL2.out ?_) | (refine wpList_store_ob rfl 84 (.tmp 8) (.tmp 21) rfl rfl rfl oN (by rw [rowC_size hro.out]; rfl) (row_size hro.out) (rowC_one r) ?_; intro W3 hO3 hg3; have hb3 := HNB.out _ hg3) | (go_at_call 37; refine (cN.out _).mono ?_; rintro e W2 ⟨rfl, rfl⟩))
    go_ret2
    exact ⟨rfl, hb3⟩
set_option maxRecDepth 100000 in
set_option maxHeartbeats 8000000 in
theorem count_less (h : StkAt w base b mb s) (g : ByteArray) (hg : g.size ≤ maxLen) (n : Int) (hc : countOk n = true) {r : Row} (hr : aGet s g.data.toList = some r) (hl : n < at_ r 1) :
    Calls Try.prog 23 #[.pointer (some ⟨b, 0, none⟩), .string g, .int .i64 n] w fun e w' => e = .returned (.tuple #[.int .i64 0, .int .i64 70]) ∧ Below w.heap.size w w' := by
  have hro := Lib.hid (h.ok _ (aGet_mem hr)).row
  obtain ⟨hl1, hl2⟩ := look_row s g.data.toList
  rw [hr] at hl1 hl2
  have hkey := Lib.hid (key_str hg)
  have hgm := h.map
  have z0 := h.ob.cell (j := 0) (v := .map (some mb)) rfl
  have cM := Lib.hid (made_calls b mb _ z0)
  have HL1 := Lib.hid (show _ = rowV r from hl1)
  have HL2 := Lib.hid (show _ = true from hl2)
  have oN := Ob.new w 84 #[.int .i64 0, .int .i64 0, .int .i64 0, .int .i64 0, .int .i64 0, .int .i64 0, .int .i64 0, .int .i64 0, .int .i64 0, .int .i64 0, .int .i64 0]
  have HNB := Lib.hid (fun (W3 : World) (hg3 : (w.alloc (.cells #[.int .i64 0, .int .i64 0, .int .i64 0, .int .i64 0, .int .i64 0, .int .i64 0, .int .i64 0, .int .i64 0, .int .i64 0, .int .i64 0, .int .i64 0] 84)).grownBy W3 (some w.heap.size)) => (((Below.refl w.heap.size w).alloc (Nat.le_refl _) _).grown hg3 (by simp) (fun k e => by cases e; exact Nat.le_refl _) : Below w.heap.size w W3))
  have cN := Lib.hid (fun W => by have := count_calls n W; rw [hc] at this; exact this)
  have HC1 := Lib.hid (fun (V : World) (hO : Ob V w.heap.size 84 (rowC r)) => hO.cell (rowC_get (j := 1) (by rw [hro.out.len]; omega)))
  clear hl1 hl2
  have hd : decide (n < at_ r 1) = true := by simpa using hl
  generalize at_ r 1 = q at *
  clear hl hr
  go_enter Try.func23, Try.ntmps23
  go_wp2_with fail
  refine cM.out.mono ?_
  rintro e W ⟨rfl, rfl⟩
  go_wp2_with (first | (at_lookup; refine wpList_look_ok_g rfl (.tmp 18) (.tmp 19) _ rfl 9 _ keyedS Try.underlying80 rfl hgm (zeroRow _) _ _ rfl hkey.out _ _ HL1.out HL2.out ?_) | (refine wpList_store_ob rfl 84 (.tmp 8) (.tmp 21) rfl rfl rfl oN (by rw [rowC_size hro.out]; rfl) (row_size hro.out) (rowC_one r) ?_; intro W3 hO3 hg3; have hb3 := HNB.out _ hg3; have y1 := HC1.out _ hO3) | (go_at_call 37; refine (cN.out _).mono ?_; rintro e W2 ⟨rfl, rfl⟩))
  go_ret2
  exact ⟨rfl, hb3⟩
set_option maxRecDepth 100000 in
set_option maxHeartbeats 8000000 in
theorem count_over (h : StkAt w base b mb s) (g : ByteArray) (hg : g.size ≤ maxLen) (n : Int) (hc : countOk n = true) {r : Row} (hr : aGet s g.data.toList = some r) (hl : ¬ n < at_ r 1) (hrt : rightR (countR r n) = false) :
    Calls Try.prog 23 #[.pointer (some ⟨b, 0, none⟩), .string g, .int .i64 n] w fun e w' => e = .returned (.tuple #[.int .i64 0, .int .i64 50]) ∧ Below w.heap.size w w' := by
  have HH := Lib.hid h
  have hro := Lib.hid (h.ok _ (aGet_mem hr)).row
  obtain ⟨hl1, hl2⟩ := look_row s g.data.toList
  rw [hr] at hl1 hl2
  have hkey := Lib.hid (key_str hg)
  have hgm := h.map
  have z0 := h.ob.cell (j := 0) (v := .map (some mb)) rfl
  have cM := Lib.hid (made_calls b mb _ z0)
  have HL1 := Lib.hid (show _ = rowV r from hl1)
  have HL2 := Lib.hid (show _ = true from hl2)
  have oN := Ob.new w 84 #[.int .i64 0, .int .i64 0, .int .i64 0, .int .i64 0, .int .i64 0, .int .i64 0, .int .i64 0, .int .i64 0, .int .i64 0, .int .i64 0, .int .i64 0]
  have HNB := Lib.hid (fun (W3 : World) (hg3 : (w.alloc (.cells #[.int .i64 0, .int .i64 0, .int .i64 0, .int .i64 0, .int .i64 0, .int .i64 0, .int .i64 0, .int .i64 0, .int .i64 0, .int .i64 0, .int .i64 0] 84)).grownBy W3 (some w.heap.size)) => (((Below.refl w.heap.size w).alloc (Nat.le_refl _) _).grown hg3 (by simp) (fun k e => by cases e; exact Nat.le_refl _) : Below w.heap.size w W3))
  have cN := Lib.hid (fun W => by have := count_calls n W; rw [hc] at this; exact this)
  have HC1 := Lib.hid (fun (V : World) (hO : Ob V w.heap.size 84 (rowC r)) => hO.cell (rowC_get (j := 1) (by rw [hro.out.len]; omega)))
  clear hl1 hl2
  have hd : decide (n < at_ r 1) = false := by simpa using hl
  have HMO := Lib.hid (show wrap64 (wrap64 (n - at_ r 1) - at_ r 0) = moreR r n from rfl)
  have HQ := Lib.hid (show (r.set 0 (wrap64 (at_ r 0 + moreR r n))).set 6 (wrap64 (at_ r 6 + moreR r n)) = countR r n from rfl)
  have hrq := (hro.out.set 0 (at_ r 0 + moreR r n)).set 6 (at_ r 6 + moreR r n)
  rw [HQ.out] at hrq
  have hC0 := Lib.hid (fun (V : World) (hO : Ob V w.heap.size 84 (rowC r)) => (⟨hO.cell (rowC_get (j := 0) (by rw [hro.out.len]; omega)), hO.cell (rowC_get (j := 6) (by rw [hro.out.len]; omega))⟩ : _ ∧ _))
  have HR := Lib.hid hr
  obtain ⟨more, hmore⟩ : ∃ more, more = moreR r n := ⟨_, rfl⟩
  rw [← hmore] at HMO HQ
  generalize countR r n = q at *
  clear hl hr hmore h hc
  have HRQ := Lib.hid hrq
  generalize hx0 : at_ r 0 = x0 at *
  generalize hx1 : at_ r 1 = x1 at *
  generalize hx6 : at_ r 6 = x6 at *
  clear hx0 hx1 hx6
  go_enter Try.func23, Try.ntmps23
  go_wp2_with fail
  refine cM.out.mono ?_
  rintro e W ⟨rfl, rfl⟩
  go_wp2_with (first | (at_lookup; refine wpList_look_ok_g rfl (.tmp 18) (.tmp 19) _ rfl 9 _ keyedS Try.underlying80 rfl hgm (zeroRow _) _ _ rfl hkey.out _ _ HL1.out HL2.out ?_) | (refine wpList_store_ob rfl 84 (.tmp 8) (.tmp 21) rfl rfl rfl oN (by rw [rowC_size hro.out]; rfl) (row_size hro.out) (rowC_one r) ?_; intro W3 hO3 hg3; have hb3 := HNB.out _ hg3; have y1 := HC1.out _ hO3; obtain ⟨y0, y6⟩ := hC0.out _ hO3; have f0 := hO3.frozen 0; have f6 := hO3.frozen 6) | (go_at_call 37; refine (cN.out _).mono ?_; rintro e W2 ⟨rfl, rfl⟩))
  rw [HMO.out]
  have hO5 : Ob ((W3.setCell ⟨w.heap.size, 0, none⟩ (.int .i64 (wrap64 (x0 + more)))).setCell ⟨w.heap.size, 6, none⟩ (.int .i64 (wrap64 (x6 + more)))) w.heap.size 84 (rowC q) := by
    have := (hO3.set 0 (.int .i64 (wrap64 (x0 + more)))).set 6 (.int .i64 (wrap64 (x6 + more)))
    rw [rowC_set, rowC_set, HQ.out] at this
    exact this
  have hb5 := (hb3.grown (grownBy_set W3 w.heap.size 0 (.int .i64 (wrap64 (x0 + more)))) hb3.size (fun k e => by cases e; exact Nat.le_refl _)).grown (grownBy_set (W3.setCell ⟨w.heap.size, 0, none⟩ (.int .i64 (wrap64 (x0 + more)))) w.heap.size 6 (.int .i64 (wrap64 (x6 + more)))) (by have := hb3.size; have := (grownBy_set W3 w.heap.size 0 (.int .i64 (wrap64 (x0 + more)))).size; omega) (fun k e => by cases e; exact Nat.le_refl _)
  clear y0 y1 y6 f0 f6 hO3 hg3 hb3 z0 hgm oN HNB
  generalize (W3.setCell ⟨w.heap.size, 0, none⟩ (.int .i64 (wrap64 (x0 + more)))).setCell ⟨w.heap.size, 6, none⟩ (.int .i64 (wrap64 (x6 + more))) = W5 at *
  have cRT := right_calls w.heap.size hrq hO5
  rw [hrt] at cRT
  refine cRT.mono ?_
  rintro e W6 ⟨rfl, hb6⟩
  have hO6 := hO5.same hb6
  have hbb := hb5.trans (hb6.mono hb5.size)
  have HS := Lib.hid (HH.out.same hbb)
  clear hO5 hb5 hb6 hrq hrt cRT
  go_wp2
  go_ret2
  exact ⟨rfl, hbb⟩
set_option maxRecDepth 100000 in
set_option maxHeartbeats 8000000 in
theorem count_done (h : StkAt w base b mb s) (g : ByteArray) (hg : g.size ≤ maxLen) (n : Int) (hc : countOk n = true) {r : Row} (hr : aGet s g.data.toList = some r) (hl : ¬ n < at_ r 1) (hrt : rightR (countR r n) = true) :
    Calls Try.prog 23 #[.pointer (some ⟨b, 0, none⟩), .string g, .int .i64 n] w fun e w' => e = .returned (.tuple #[.int .i64 (moreR r n), .int .i64 0]) ∧ StkAt w' base b mb (aPut strK s g.data.toList (countR r n)) ∧ CtKept mb w w' := by
  have HH := Lib.hid h
  have hro := Lib.hid (h.ok _ (aGet_mem hr)).row
  obtain ⟨hl1, hl2⟩ := look_row s g.data.toList
  rw [hr] at hl1 hl2
  have hkey := Lib.hid (key_str hg)
  have hgm := h.map
  have z0 := h.ob.cell (j := 0) (v := .map (some mb)) rfl
  have cM := Lib.hid (made_calls b mb _ z0)
  have HL1 := Lib.hid (show _ = rowV r from hl1)
  have HL2 := Lib.hid (show _ = true from hl2)
  have oN := Ob.new w 84 #[.int .i64 0, .int .i64 0, .int .i64 0, .int .i64 0, .int .i64 0, .int .i64 0, .int .i64 0, .int .i64 0, .int .i64 0, .int .i64 0, .int .i64 0]
  have HNB := Lib.hid (fun (W3 : World) (hg3 : (w.alloc (.cells #[.int .i64 0, .int .i64 0, .int .i64 0, .int .i64 0, .int .i64 0, .int .i64 0, .int .i64 0, .int .i64 0, .int .i64 0, .int .i64 0, .int .i64 0] 84)).grownBy W3 (some w.heap.size)) => (((Below.refl w.heap.size w).alloc (Nat.le_refl _) _).grown hg3 (by simp) (fun k e => by cases e; exact Nat.le_refl _) : Below w.heap.size w W3))
  have cN := Lib.hid (fun W => by have := count_calls n W; rw [hc] at this; exact this)
  have HC1 := Lib.hid (fun (V : World) (hO : Ob V w.heap.size 84 (rowC r)) => hO.cell (rowC_get (j := 1) (by rw [hro.out.len]; omega)))
  clear hl1 hl2
  have hd : decide (n < at_ r 1) = false := by simpa using hl
  have HMO := Lib.hid (show wrap64 (wrap64 (n - at_ r 1) - at_ r 0) = moreR r n from rfl)
  have HQ := Lib.hid (show (r.set 0 (wrap64 (at_ r 0 + moreR r n))).set 6 (wrap64 (at_ r 6 + moreR r n)) = countR r n from rfl)
  have hrq := (hro.out.set 0 (at_ r 0 + moreR r n)).set 6 (at_ r 6 + moreR r n)
  rw [HQ.out] at hrq
  have hC0 := Lib.hid (fun (V : World) (hO : Ob V w.heap.size 84 (rowC r)) => (⟨hO.cell (rowC_get (j := 0) (by rw [hro.out.len]; omega)), hO.cell (rowC_get (j := 6) (by rw [hro.out.len]; omega))⟩ : _ ∧ _))
  have HR := Lib.hid hr
  obtain ⟨more, hmore⟩ : ∃ more, more = moreR r n := ⟨_, rfl⟩
  rw [← hmore] at HMO HQ ⊢
  generalize countR r n = q at *
  clear hl hr hmore h hc
  have HRQ := Lib.hid hrq
  generalize hx0 : at_ r 0 = x0 at *
  generalize hx1 : at_ r 1 = x1 at *
  generalize hx6 : at_ r 6 = x6 at *
  clear hx0 hx1 hx6
  go_enter Try.func23, Try.ntmps23
  go_wp2_with fail
  refine cM.out.mono ?_
  rintro e W ⟨rfl, rfl⟩
  go_wp2_with (first | (at_lookup; refine wpList_look_ok_g rfl (.tmp 18) (.tmp 19) _ rfl 9 _ keyedS Try.underlying80 rfl hgm (zeroRow _) _ _ rfl hkey.out _ _ HL1.out HL2.out ?_) | (refine wpList_store_ob rfl 84 (.tmp 8) (.tmp 21) rfl rfl rfl oN (by rw [rowC_size hro.out]; rfl) (row_size hro.out) (rowC_one r) ?_; intro W3 hO3 hg3; have hb3 := HNB.out _ hg3; have y1 := HC1.out _ hO3; obtain ⟨y0, y6⟩ := hC0.out _ hO3; have f0 := hO3.frozen 0; have f6 := hO3.frozen 6) | (go_at_call 37; refine (cN.out _).mono ?_; rintro e W2 ⟨rfl, rfl⟩))
  rw [HMO.out]
  have hO5 : Ob ((W3.setCell ⟨w.heap.size, 0, none⟩ (.int .i64 (wrap64 (x0 + more)))).setCell ⟨w.heap.size, 6, none⟩ (.int .i64 (wrap64 (x6 + more)))) w.heap.size 84 (rowC q) := by
    have := (hO3.set 0 (.int .i64 (wrap64 (x0 + more)))).set 6 (.int .i64 (wrap64 (x6 + more)))
    rw [rowC_set, rowC_set, HQ.out] at this
    exact this
  have hb5 := (hb3.grown (grownBy_set W3 w.heap.size 0 (.int .i64 (wrap64 (x0 + more)))) hb3.size (fun k e => by cases e; exact Nat.le_refl _)).grown (grownBy_set (W3.setCell ⟨w.heap.size, 0, none⟩ (.int .i64 (wrap64 (x0 + more)))) w.heap.size 6 (.int .i64 (wrap64 (x6 + more)))) (by have := hb3.size; have := (grownBy_set W3 w.heap.size 0 (.int .i64 (wrap64 (x0 + more)))).size; omega) (fun k e => by cases e; exact Nat.le_refl _)
  clear y0 y1 y6 f0 f6 hO3 hg3 hb3 z0 hgm oN HNB
  generalize (W3.setCell ⟨w.heap.size, 0, none⟩ (.int .i64 (wrap64 (x0 + more)))).setCell ⟨w.heap.size, 6, none⟩ (.int .i64 (wrap64 (x6 + more))) = W5 at *
  have cRT := right_calls w.heap.size hrq hO5
  rw [hrt] at cRT
  refine cRT.mono ?_
  rintro e W6 ⟨rfl, hb6⟩
  have hO6 := hO5.same hb6
  have hbb := hb5.trans (hb6.mono hb5.size)
  have HS := Lib.hid (HH.out.same hbb)
  clear hO5 hb5 hb6 hrq hrt cRT
  have hO7 : Ob W6.drew w.heap.size 84 (rowC q) := hO6
  have zz : W6.drew.cell? ⟨b, 0, none⟩ = some (.map (some mb)) := HS.out.ob.cell (j := 0) rfl
  have hS7 := HS.out.same (Below.refl W6.heap.size W6).drew
  have hml : (gm rowV s).length < maxLen := by rw [gm_length]; have := HS.out.len; unfold maxLen; omega
  obtain ⟨W8, hput, hG8, hg8⟩ := hS7.map.put keyedS Try.underlying80 hml hkey.out (val := .agg (rowC q))
  have HG8 := Lib.hid (show GMap strK W8 Try.prog 9 mb (gm rowV (aPut strK s g.data.toList q)) from by
    rw [← gm_put]
    exact hG8)
  clear hG8 hO6
  go_wp2_with fail
  refine Pu.regionM [(0, false), (1, false), (2, false), (3, false), (4, false), (5, false), (6, true)] (fun V => V = W6.drew) hmx (by kernel_rfl) (by kernel_rfl) (by kernel_rfl) rfl rfl ?_
  simp only [Pu.named, List.filterMap_cons, List.filterMap_nil, List.getElem?_toArray, List.getElem?_cons_succ, List.getElem?_cons_zero, Option.map_some]
  iterate 6 (first
    | (refine Pu.WalkM.off (by rfl) ?_; simp only [Act.put, List.setIfInBounds_toArray, List.set_cons_succ, List.set_cons_zero])
    | (apply Pu.WalkM.on (by rfl)
       · rintro V rfl
         go_wp2_with (refine wpList_load_ob rfl 84 (.tmp 8) rfl rfl _ hO7 Try.underlying84 rfl (row_size HRQ.out) ?_)
         refine ⟨rfl, ?_, rfl⟩
         try simp only [Act.put, List.setIfInBounds_toArray, List.set_cons_succ, List.set_cons_zero]
         rfl
       simp only [Act.put, List.setIfInBounds_toArray, List.set_cons_succ, List.set_cons_zero]))
  refine Pu.WalkM.make (by rfl) ?_
  intro V hV
  rw [hV]
  clear hV V
  go_wp2_with fail
  refine ⟨rfl, undef, (fun _ => True), (fun V => V = W8), rfl, rfl, (fun _ _ => trivial), (.inl (by kernel_rfl)), Pu.WalkM.nil ?_⟩
  intro V hV
  rw [hV]
  clear hV V
  simp only [Act.put]
  clear hput
  go_wp2
  go_ret2
  refine ⟨rfl, ⟨hS7.ob.kept (w' := W8) hg8 (fun e => HS.out.ne (Option.some.inj e)), HG8.out, (fun p hp => OkRow.put HS.out.ok HRQ.out (by simpa using hg) p hp), HS.out.ne, HS.out.lo, ?_⟩, ?_⟩
  · exact Nat.le_trans (aPut_length_of (K := strK) HR.out) HS.out.len
  · exact (show Kept (fun i => i < w.heap.size ∧ i ≠ mb) w W6.drew from Kept.of_below hbb.drew fun _ hi => hi.1).trans (Kept.of_grown (Fr := fun i => i < w.heap.size ∧ i ≠ mb) (w := W6.drew) hg8 (fun i (hi : i < w.heap.size ∧ i ≠ mb) => ⟨by have := hbb.size; show i < W6.heap.size; omega, fun e => hi.2 (Option.some.inj e)⟩))
theorem count_calls7 (h : StkAt w base b mb s) (g : ByteArray) (hg : g.size ≤ maxLen) (n : Int) :
    Calls Try.prog 23 #[.pointer (some ⟨b, 0, none⟩), .string g, .int .i64 n] w fun e w' => e = .returned (.tuple #[.int .i64 (countS s g.data.toList n).2.1, .int .i64 (countS s g.data.toList n).2.2]) ∧ StkAt w' base b mb (countS s g.data.toList n).1 ∧ CtKept mb w w' := by
  by_cases h1 : countOk n = false
  · have e : countS s g.data.toList n = (s, 0, 1) := by unfold countS; rw [if_pos h1]
    rw [e]
    refine (count_arg h g hg n (.inl h1)).mono ?_
    rintro e W ⟨rfl, hb⟩
    rw [if_pos h1]
    exact ⟨rfl, h.same hb, Kept.of_below hb fun _ hi => hi.1⟩
  · cases hr : aGet s g.data.toList with
    | none =>
      have e : countS s g.data.toList n = (s, 0, 71) := by unfold countS; rw [if_neg h1, hr]
      rw [e]
      refine (count_arg h g hg n (.inr hr)).mono ?_
      rintro e W ⟨rfl, hb⟩
      rw [if_neg h1]
      exact ⟨rfl, h.same hb, Kept.of_below hb fun _ hi => hi.1⟩
    | some r =>
      have h2 : countOk n = true := by cases hh : countOk n with
        | true => rfl
        | false => exact (h1 hh).elim
      by_cases h3 : n < at_ r 1
      · have e : countS s g.data.toList n = (s, 0, 70) := by unfold countS; rw [if_neg h1, hr]; dsimp only; rw [if_pos h3]
        rw [e]
        refine (count_less h g hg n h2 hr h3).mono ?_
        rintro e W ⟨rfl, hb⟩
        exact ⟨rfl, h.same hb, Kept.of_below hb fun _ hi => hi.1⟩
      · cases hrt : rightR (countR r n) with
        | false =>
          have e : countS s g.data.toList n = (s, 0, 50) := by unfold countS; rw [if_neg h1, hr]; dsimp only; rw [if_neg h3, hrt]; rfl
          rw [e]
          refine (count_over h g hg n h2 hr h3 hrt).mono ?_
          rintro e W ⟨rfl, hb⟩
          exact ⟨rfl, h.same hb, Kept.of_below hb fun _ hi => hi.1⟩
        | true =>
          have e : countS s g.data.toList n = (aPut strK s g.data.toList (countR r n), moreR r n, 0) := by unfold countS; rw [if_neg h1, hr]; dsimp only; rw [if_neg h3, hrt]; rfl
          rw [e]
          exact count_done h g hg n h2 hr h3 hrt
end
end Sk
end Go.Proofs.Ytlhpdalfnjhokaa
