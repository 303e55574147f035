/-
  a stock of goods: may.
-/
import Derived.Test.YtlhpdalfnjhokaaSkC
import Derived.Test.YtlhpdalfnjhokaaObx
import Derived.Test.YtlhpdalfnjhokaaKpx
import Derived.Test.YtlhpdalfnjhokaaItJ
namespace Go.Proofs.Ytlhpdalfnjhokaa
open Go.RowKit Go.Maps
namespace Sk
open It Al Kp
attribute [local go_sem] Oper.semAt_some
def hasAll (s : Stk) (l : List It.Item) : Bool := l.all fun x => (aGet s (key x)).isSome
def enough (s : Stk) (j : Nat) (l : List It.Item) : Bool := l.all fun x => !decide (at_ ((aGet s (key x)).getD row0) j < x.2)
def mayS (s : Stk) (k : Int) (l : List It.Item) : Int := match (road k).1 with
  | none => 0
  | some j => if hasAll s l then (if enough s j l then 0 else 51) else 71
theorem hasAll_snoc (s : Stk) (l : List It.Item) (x : It.Item) : hasAll s (l ++ [x]) = (hasAll s l && (aGet s (key x)).isSome) := by simp [hasAll]
theorem enough_snoc (s : Stk) (j : Nat) (l : List It.Item) (x : It.Item) : enough s j (l ++ [x]) = (enough s j l && !decide (at_ ((aGet s (key x)).getD row0) j < x.2)) := by simp [enough]
theorem hasAll_prefix {s : Stk} {p l : List It.Item} (h : p <+: l) (hp : hasAll s p = false) : hasAll s l = false := by
  obtain ⟨r, rfl⟩ := h
  unfold hasAll at hp ⊢
  rw [List.all_append, hp]
  rfl
theorem enough_prefix {s : Stk} {j : Nat} {p l : List It.Item} (h : p <+: l) (hp : enough s j p = false) : enough s j l = false := by
  obtain ⟨r, rfl⟩ := h
  unfold enough at hp ⊢
  rw [List.all_append, hp]
  rfl
theorem zeroRow (w : World) : (zeroValue 84).run Try.prog w = .ok (rowV row0) w := by kernel_rfl
theorem row_info : (Try.prog.info? 84).map (·.size) = some 11 := by kernel_rfl
theorem rowC_size {r : Row} (h : OkRow r) : (rowC r).size = 11 := by unfold rowC; simp [h.len]
theorem rowC_one (r : Row) : (rowC r).all (·.oneCell') = true := by unfold rowC; simp [Value.oneCell']
theorem row_size {r : Row} (h : OkRow r) : (Try.prog.info? 84).map (·.size) = some (rowC r).size := by rw [rowC_size h]; exact row_info
theorem StkAt.row {w : World} {base b mb : Nat} {s : Stk} (h : StkAt w base b mb s) (k : Key) : OkRow ((aGet s k).getD row0) := by
  cases hg : aGet s k with
  | none => exact OkRow.zero
  | some r => exact (h.ok _ (aGet_mem hg)).row
theorem look_row (s : Stk) (k : Key) : (mGet (gm rowV s) k).getD (rowV row0) = rowV ((aGet s k).getD row0) ∧ (mGet (gm rowV s) k).isSome = (aGet s k).isSome := by
  rw [gm_get]
  cases aGet s k <;> exact ⟨rfl, rfl⟩
theorem unbox (g : Nat) (j : Option Nat) (w : World) : (binOp .eql 92 (ptr g j) (.pointer none)).run Try.prog w = .ok (.bool j.isNone) w := by
  cases j <;> kernel_rfl
set_option maxRecDepth 100000 in
set_option maxHeartbeats 8000000 in
theorem may_calls {w : World} {base b mb : Nat} {s : Stk} (h : StkAt w base b mb s) (k : Int) (L : List It.Item) (v : Value) (hI : ItemsAt w 0 w.heap.size v L) (hF : Fits L) :
    Calls Try.prog 40 #[.pointer (some ⟨b, 0, none⟩), .int .i64 k, v] w fun e w' => e = .returned (.int .i64 (mayS s k L)) ∧ Below w.heap.size w w' := by
  obtain ⟨A, c, rfl, hc1, hc2⟩ := hI.form
  unfold maxLen at hc2
  refine (callsIn_wide (n := 6)).1 ?_
  refine callsIn_of_wp_marks Try.func40 rfl trivial ?_ rfl
  simp only [Try.ntmps40, List.size_toArray, List.length_cons, List.length_nil, Nat.reduceAdd, Nat.reduceSub, Array.replicate_succ, Array.replicate_zero, List.push_toArray, List.append_toArray, List.nil_append, List.cons_append]
  gi_wp2
  have o0 := (((Ob.new w 53 #[.pointer (some ⟨b, 0, none⟩)]).alloc (.cells #[.int .i64 k] 3)).alloc (.cells #[.int .i64 0] 58)).alloc (.cells #[.int .i64 0, .int .i64 0, .int .i64 0, .int .i64 0, .int .i64 0, .int .i64 0, .int .i64 0, .int .i64 0, .int .i64 0, .int .i64 0, .int .i64 0] 84)
  have o1 := ((Ob.new (w.alloc (.cells #[.pointer (some ⟨b, 0, none⟩)] 53)) 3 #[.int .i64 k]).alloc (.cells #[.int .i64 0] 58)).alloc (.cells #[.int .i64 0, .int .i64 0, .int .i64 0, .int .i64 0, .int .i64 0, .int .i64 0, .int .i64 0, .int .i64 0, .int .i64 0, .int .i64 0, .int .i64 0] 84)
  have o2 := (Ob.new ((w.alloc (.cells #[.pointer (some ⟨b, 0, none⟩)] 53)).alloc (.cells #[.int .i64 k] 3)) 58 #[.int .i64 0]).alloc (.cells #[.int .i64 0, .int .i64 0, .int .i64 0, .int .i64 0, .int .i64 0, .int .i64 0, .int .i64 0, .int .i64 0, .int .i64 0, .int .i64 0, .int .i64 0] 84)
  have hB4 : Below w.heap.size w ((((w.alloc (.cells #[.pointer (some ⟨b, 0, none⟩)] 53)).alloc (.cells #[.int .i64 k] 3)).alloc (.cells #[.int .i64 0] 58)).alloc (.cells #[.int .i64 0, .int .i64 0, .int .i64 0, .int .i64 0, .int .i64 0, .int .i64 0, .int .i64 0, .int .i64 0, .int .i64 0, .int .i64 0, .int .i64 0] 84)) := ((((Below.refl _ w).alloc (Nat.le_refl _) _).alloc (by simp) _).alloc (by simp; omega) _).alloc (by simp; omega) _
  simp only [World.size_alloc] at o1 o2
  have hs4 : w.heap.size + 4 = ((((w.alloc (.cells #[.pointer (some ⟨b, 0, none⟩)] 53)).alloc (.cells #[.int .i64 k] 3)).alloc (.cells #[.int .i64 0] 58)).alloc (.cells #[.int .i64 0, .int .i64 0, .int .i64 0, .int .i64 0, .int .i64 0, .int .i64 0, .int .i64 0, .int .i64 0, .int .i64 0, .int .i64 0, .int .i64 0] 84)).heap.size := by simp
  generalize ((((w.alloc (.cells #[.pointer (some ⟨b, 0, none⟩)] 53)).alloc (.cells #[.int .i64 k] 3)).alloc (.cells #[.int .i64 0] 58)).alloc (.cells #[.int .i64 0, .int .i64 0, .int .i64 0, .int .i64 0, .int .i64 0, .int .i64 0, .int .i64 0, .int .i64 0, .int .i64 0, .int .i64 0, .int .i64 0] 84)) = w4 at *
  have cR := road_calls k (w.heap.size + 1 + 1 + 1) w4
  have HMD := Lib.hid (show mayS s k L = match (road k).1 with | none => 0 | some j => if hasAll s L then (if enough s j L then 0 else 51) else 71 from rfl)
  have hlt := (road_lt k).1
  obtain ⟨M, hM⟩ : ∃ M, M = mayS s k L := ⟨_, rfl⟩
  rw [← hM] at HMD
  have HMQ := Lib.hid hM
  clear hM
  obtain ⟨jo, hjo⟩ : ∃ jo, jo = (road k).1 := ⟨_, rfl⟩
  rw [← hjo] at cR HMD hlt
  have HJO := Lib.hid hjo
  clear hjo
  generalize ptr (w.heap.size + 1 + 1 + 1) (road k).2.1 = pv1 at *
  generalize ptr (w.heap.size + 1 + 1 + 1) (road k).2.2 = pv2 at *
  refine ⟨trivial, (callsIn_wide.2 cR).mono ?_⟩
  rintro e w5 ⟨rfl, hb5⟩
  replace o0 := o0.same hb5
  replace o1 := o1.same hb5
  replace o2 := o2.same hb5
  have hB5 := hB4.trans (hb5.mono hB4.size)
  have hs5 : w.heap.size + 4 ≤ w5.heap.size := by have := hb5.size; omega
  clear hB4 hb5 hs4
  cases jo with
  | none =>
    dsimp only [ptr]
    have c2 := o2.cell (j := 0) (v := .int .i64 0) rfl
    have f2 := o2.frozen 0
    have o2' := o2.set 0 (.int .i64 0)
    have hBB := hB5.grown (grownBy_set w5 (w.heap.size + 1 + 1) 0 (.int .i64 0)) hB5.size (fun k e => by cases e; omega)
    gi_wp2
    clear c2 f2 cR
    have c2 := (show Ob (w5.setCell ⟨w.heap.size + 1 + 1, 0, none⟩ (.int .i64 0)) (w.heap.size + 1 + 1) 58 #[.int .i64 0] from o2').cell (j := 0) (v := .int .i64 0) rfl
    refine ⟨.int .i64 0, ?_, by rw [← HMQ.out, HMD.out], hBB⟩
    simp [results, Try.f40, go_sem, c2]
  | some j =>
    dsimp only [ptr]
    dsimp only at HMD
    have hj := hlt j rfl
    clear hlt cR
    gi_wp2_with (refine ⟨trivial, ?_⟩; gi_at_call 42; refine (callsIn_wide.2 (all_calls A _ c _)).mono ?_; rintro e w' ⟨rfl, rfl⟩)
    have o3 := Ob.new w5 55 #[.slice A L.length c]
    replace o0 := o0.alloc (.cells #[.slice A L.length c] 55)
    replace o1 := o1.alloc (.cells #[.slice A L.length c] 55)
    replace o2 := o2.alloc (.cells #[.slice A L.length c] 55)
    have hB6 := hB5.alloc hB5.size (.cells #[.slice A L.length c] 55)
    have hs6 : (w5.alloc (.cells #[.slice A L.length c] 55)).heap.size = w5.heap.size + 1 := by simp
    generalize hg5 : w5.heap.size = z5 at *
    generalize w5.alloc (.cells #[.slice A L.length c] 55) = w6 at *
    have HB6 := Lib.hid hB6
    have HH := Lib.hid h
    clear hB6 h hg5 hB5
    apply (range_all (n := 6) rfl trivial (by omega) (Bs := z5) (n₀ := w.heap.size) (v := .slice A L.length c) (L := L) rfl rfl (by omega) (by omega) (o3.cell (j := 0) rfl) (hI.below HB6.out)
      (fun pre W => hasAll s (vals pre) = true ∧ Ob W w.heap.size 53 #[.pointer (some ⟨b, 0, none⟩)] ∧ Ob W (w.heap.size + 1) 3 #[.int .i64 k] ∧ Ob W (w.heap.size + 1 + 1) 58 #[.int .i64 0])
      (fun c pre W => c = .ret ∧ hasAll s (vals pre) = false ∧ Ob W (w.heap.size + 1 + 1) 58 #[.int .i64 71])
      (fun s A B row hs hg hr => ⟨hs.1, ob_keep hs.2.1 hg (fun r e => (hr r e).2), ob_keep hs.2.2.1 hg (fun r e => (hr r e).2), ob_keep hs.2.2.2 hg (fun r e => (hr r e).2)⟩)
      (fun c s A B row hs hg hr => ⟨hs.1, hs.2.1, ob_keep hs.2.2 hg (fun r e => (hr r e).2)⟩)
      ⟨rfl, o0, o1, o2⟩)
    case hassign =>
      intro l x W K hK
      dsimp only [enc2]
      gi_wp2
      exact hK
    case hbody =>
      rintro l pre ⟨⟨xs, xn⟩, hx⟩ W ⟨hm, p0, p1, p2⟩ hB hsz hlen
      have hW := HH.out.same (HB6.out.trans hB)
      have hfit := hF _ hx
      have hkey := Lib.hid (key_str hfit.1)
      have hro := Lib.hid (hW.row (key (xs, xn)))
      obtain ⟨hl1, hl2⟩ := look_row s (key (xs, xn))
      have hS := Lib.hid (show hasAll s (vals (pre ++ [⟨(xs, xn), hx⟩])) = (aGet s (key (xs, xn))).isSome by rw [vals_snoc, hasAll_snoc, hm, Bool.true_and])
      have HM := Lib.hid hm
      clear hm hfit
      have y0 := p0.cell (j := 0) (v := .pointer (some ⟨b, 0, none⟩)) rfl
      have z0 := hW.ob.cell (j := 0) (v := .map (some mb)) rfl
      have hgm := hW.map
      generalize (aGet s (key (xs, xn))).getD row0 = r at *
      have HL1 := Lib.hid hl1
      have HL2 := Lib.hid hl2
      clear hl1 hl2
      have hsl := hB.size
      have oN := Ob.new W 84 #[.int .i64 0, .int .i64 0, .int .i64 0, .int .i64 0, .int .i64 0, .int .i64 0, .int .i64 0, .int .i64 0, .int .i64 0, .int .i64 0, .int .i64 0]
      have hz := W.heap.size
      dsimp only at hkey ⊢
      have HNB := Lib.hid (fun (W3 : World) (hg3 : (W.alloc (.cells #[.int .i64 0, .int .i64 0, .int .i64 0, .int .i64 0, .int .i64 0, .int .i64 0, .int .i64 0, .int .i64 0, .int .i64 0, .int .i64 0, .int .i64 0] 84)).grownBy W3 (some W.heap.size)) => (((Below.refl W.heap.size W).alloc (Nat.le_refl _) _).grown hg3 (by simp) (fun k e => by cases e; exact Nat.le_refl _) : Below W.heap.size W W3))
      cases hs : (aGet s (key (xs, xn))).isSome with
      | true =>
        rw [hs] at hS HL2
        gi_wp2_with (first
          | (gi_at_lookup; refine wpListIn_look_ok_g rfl (.tmp 37) (.tmp 38) _ rfl 9 _ keyedS Try.underlying80 rfl hgm (zeroRow _) _ _ rfl hkey.out _ _ HL1.out HL2.out ?_)
          | (refine wpListIn_store_ob rfl 84 (.tmp 11) (.tmp 40) rfl rfl rfl oN (by rw [rowC_size hro.out]; rfl) (row_size hro.out) (rowC_one r) ?_; intro W3 hO3 hg3))
        have hb3 := HNB.out _ hg3
        exact ⟨keeps_below _ hb3, hb3.mono (by omega), hS.out, p0.same hb3, p1.same hb3, p2.same hb3⟩
      | false =>
        rw [hs] at hS HL2
        gi_wp2_with (first
          | (gi_at_lookup; refine wpListIn_look_ok_g rfl (.tmp 37) (.tmp 38) _ rfl 9 _ keyedS Try.underlying80 rfl hgm (zeroRow _) _ _ rfl hkey.out _ _ HL1.out HL2.out ?_)
          | (refine wpListIn_store_ob rfl 84 (.tmp 11) (.tmp 40) rfl rfl rfl oN (by rw [rowC_size hro.out]; rfl) (row_size hro.out) (rowC_one r) ?_; intro W3 hO3 hg3; have hb3 := HNB.out _ hg3; have c2 := (p2.same hb3).cell (j := 0) (v := .int .i64 0) rfl; have f2 := (p2.same hb3).frozen 0))
        exact ⟨keeps_set (keeps_below _ hb3) _ _, (hb3.mono (B' := w.heap.size) (by omega)).setCell (p := ⟨w.heap.size + 1 + 1, 0, none⟩) (by simp; omega) _, rfl, hS.out, (p2.same hb3).set 0 _⟩
    case hstop =>
      rintro D c pre X hD hpre ⟨rfl, hm, p2⟩ hB hK
      have HC := Lib.hid (show M = 71 by rw [HMD.out, hasAll_prefix (vals_prefix hpre) hm]; rfl)
      clear hm
      gi_wp2
      refine ⟨by simp, .inl ⟨_, _, rfl, run_takeDeferred hK, ?_⟩⟩
      have c4 := ((show Boxed X (w.heap.size + 1 + 1) 58 (.int .i64 71) from p2) |> fun h => boxed_end h hK).cell
      refine ⟨.int .i64 71, ?_, by rw [← HMQ.out, HC.out], below_end (HB6.out.trans hB) (by omega) hK⟩
      simp [results, Try.f40, go_sem, c4]
    case hdone =>
      rintro D W hD ⟨hm, p0, p1, p2⟩ hB hK
      rw [vals_all] at hm
      have HC := Lib.hid (show M = if enough s j L = true then 0 else 51 by rw [HMD.out, hm]; rfl)
      clear hm
      gi_wp2_with (refine ⟨trivial, ?_⟩; gi_at_call 42; refine (callsIn_wide.2 (all_calls A _ c _)).mono ?_; rintro e w' ⟨rfl, rfl⟩)
      have hK7 := ((World.grownBy_alloc W (.cells #[.slice A L.length c] 55) none).block D (Array.getElem?_eq_some_iff.1 hK).1 (by simp)).trans hK
      have r0 := p0.alloc (.cells #[.slice A L.length c] 55)
      have r1 := p1.alloc (.cells #[.slice A L.length c] 55)
      have r2 := p2.alloc (.cells #[.slice A L.length c] 55)
      have r3 := Ob.new W 55 #[.slice A L.length c]
      have hsW := hB.size
      have hB7 := (HB6.out.trans hB).alloc (HB6.out.trans hB).size (.cells #[.slice A L.length c] 55)
      have hs7 : (W.alloc (.cells #[.slice A L.length c] 55)).heap.size = W.heap.size + 1 := by simp
      have hDlt := (Array.getElem?_eq_some_iff.1 hK).1
      clear p0 p1 p2 hK
      generalize hgW : W.heap.size = zW at *
      generalize W.alloc (.cells #[.slice A L.length c] 55) = w7 at *
      have HB7 := Lib.hid hB7
      clear hB7 hB hgW
      apply (range_all (n := 6) rfl trivial (by omega) (Bs := zW) (n₀ := w.heap.size) (v := .slice A L.length c) (L := L) rfl rfl (by omega) (by omega) (r3.cell (j := 0) rfl) (hI.below HB7.out)
        (fun pre W => enough s j (vals pre) = true ∧ Ob W w.heap.size 53 #[.pointer (some ⟨b, 0, none⟩)] ∧ Ob W (w.heap.size + 1) 3 #[.int .i64 k] ∧ Ob W (w.heap.size + 1 + 1) 58 #[.int .i64 0] ∧ W.heap[D]? = some (.deferred (some [])))
        (fun c pre W => c = .ret ∧ enough s j (vals pre) = false ∧ Ob W (w.heap.size + 1 + 1) 58 #[.int .i64 51] ∧ W.heap[D]? = some (.deferred (some [])))
        (fun s A B row hs hg hr => ⟨hs.1, ob_keep hs.2.1 hg (fun r e => (hr r e).2), ob_keep hs.2.2.1 hg (fun r e => (hr r e).2), ob_keep hs.2.2.2.1 hg (fun r e => (hr r e).2), (hg.block D (Array.getElem?_eq_some_iff.1 hs.2.2.2.2).1 (fun e => by have := (hr _ e.symm).1; omega)).trans hs.2.2.2.2⟩)
        (fun c s A B row hs hg hr => ⟨hs.1, hs.2.1, ob_keep hs.2.2.1 hg (fun r e => (hr r e).2), (hg.block D (Array.getElem?_eq_some_iff.1 hs.2.2.2).1 (fun e => by have := (hr _ e.symm).1; omega)).trans hs.2.2.2⟩)
        ⟨rfl, r0, r1, r2, hK7⟩)
      case hassign =>
        intro l x W K hK
        dsimp only [enc2]
        gi_wp2
        exact hK
      case hbody =>
        rintro l pre ⟨⟨xs, xn⟩, hx⟩ W ⟨hm, p0, p1, p2, hKD⟩ hB hsz hlen
        have hW := HH.out.same (HB7.out.trans hB)
        have hfit := hF _ hx
        have hkey := Lib.hid (key_str hfit.1)
        have hro := Lib.hid (hW.row (key (xs, xn)))
        obtain ⟨hl1, hl2⟩ := look_row s (key (xs, xn))
        have hS := Lib.hid (show enough s j (vals (pre ++ [⟨(xs, xn), hx⟩])) = !decide (at_ ((aGet s (key (xs, xn))).getD row0) j < xn) by rw [vals_snoc, enough_snoc, hm, Bool.true_and])
        have HM := Lib.hid hm
        clear hm hl2
        have y0 := p0.cell (j := 0) (v := .pointer (some ⟨b, 0, none⟩)) rfl
        have y1 := p1.cell (j := 0) (v := .int .i64 k) rfl
        have z0 := hW.ob.cell (j := 0) (v := .map (some mb)) rfl
        have hgm := hW.map
        generalize (aGet s (key (xs, xn))).getD row0 = r at *
        have HL1 := Lib.hid hl1
        have hcr := Lib.hid (fun (V : World) (g : Nat) (h : Ob V g 84 (rowC r)) => h.cell (rowC_get (j := j) (by rw [hro.out.len]; exact hj)))
        generalize at_ r j = q at *
        clear hl1
        have hsl := hB.size
        have oN := Ob.new W 84 #[.int .i64 0, .int .i64 0, .int .i64 0, .int .i64 0, .int .i64 0, .int .i64 0, .int .i64 0, .int .i64 0, .int .i64 0, .int .i64 0, .int .i64 0]
        have HNB := Lib.hid (fun (W3 : World) (hg3 : (W.alloc (.cells #[.int .i64 0, .int .i64 0, .int .i64 0, .int .i64 0, .int .i64 0, .int .i64 0, .int .i64 0, .int .i64 0, .int .i64 0, .int .i64 0, .int .i64 0] 84)).grownBy W3 (some W.heap.size)) => (((Below.refl W.heap.size W).alloc (Nat.le_refl _) _).grown hg3 (by simp) (fun k e => by cases e; exact Nat.le_refl _) : Below W.heap.size W W3))
        have cR := Lib.hid (fun V => show Calls Try.prog 43 #[.int .i64 k, .pointer (some ⟨W.heap.size, 0, none⟩)] V fun e w' => e = .returned (.tuple #[.pointer (some ⟨W.heap.size, j, none⟩), ptr W.heap.size (road k).2.1, ptr W.heap.size (road k).2.2]) ∧ Below V.heap.size V w' from by
          have := road_calls k W.heap.size V
          rw [← HJO.out] at this
          exact this)
        generalize ptr W.heap.size (road k).2.1 = u1 at *
        generalize ptr W.heap.size (road k).2.2 = u2 at *
        have hWlt : ∀ W3 : World, Below W.heap.size W W3 → W.heap.size ≤ W3.heap.size := fun W3 h => h.size
        dsimp only at hkey ⊢
        have hKlt := (Array.getElem?_eq_some_iff.1 hKD).1
        by_cases hq : q < xn
        · have hS2 := Lib.hid (hS.out.trans (by rw [decide_eq_true hq, Bool.not_true]))
          gi_wp2_with (first
            | (gi_at_lookup; refine wpListIn_look_g rfl (.tmp 51) (.tmp 52) _ rfl 9 _ keyedS Try.underlying80 rfl hgm (zeroRow _) _ _ rfl hkey.out _ HL1.out ?_)
            | (refine wpListIn_store_ob rfl 84 (.tmp 15) (.tmp 53) rfl rfl rfl oN (by rw [rowC_size hro.out]; rfl) (row_size hro.out) (rowC_one r) ?_; intro W3 hO3 hg3; have hb3 := HNB.out _ hg3; have y3 := (p1.same hb3).cell (j := 0) (v := .int .i64 k) rfl)
            | (refine ⟨trivial, ?_⟩; gi_at_call 43; refine (CallsIn.inRound l (callsIn_wide.2 (cR.out _))).mono ?_; rintro e W4 ⟨rfl, h4⟩; have hb4 := hb3.trans (h4.mono hb3.size); have c5 := hcr.out _ _ (hO3.same h4); have c2 := (p2.same hb4).cell (j := 0) (v := .int .i64 0) rfl; have f2 := (p2.same hb4).frozen 0))
          refine ⟨keeps_set (keeps_below _ hb4) _ _, (hb4.mono (B' := w.heap.size) (by omega)).setCell (p := ⟨w.heap.size + 1 + 1, 0, none⟩) (by simp; omega) _, rfl, hS2.out, (p2.same hb4).set 0 _, ?_⟩
          exact ((grownBy_set W4 (w.heap.size + 1 + 1) 0 (.int .i64 51)).block D (by have := hb4.size; omega) (fun e => by cases e; omega)).trans ((hb4.block D hKlt).trans hKD)
        · have hS2 := Lib.hid (hS.out.trans (by rw [decide_eq_false hq, Bool.not_false]))
          gi_wp2_with (first
            | (gi_at_lookup; refine wpListIn_look_g rfl (.tmp 51) (.tmp 52) _ rfl 9 _ keyedS Try.underlying80 rfl hgm (zeroRow _) _ _ rfl hkey.out _ HL1.out ?_)
            | (refine wpListIn_store_ob rfl 84 (.tmp 15) (.tmp 53) rfl rfl rfl oN (by rw [rowC_size hro.out]; rfl) (row_size hro.out) (rowC_one r) ?_; intro W3 hO3 hg3; have hb3 := HNB.out _ hg3; have y3 := (p1.same hb3).cell (j := 0) (v := .int .i64 k) rfl)
            | (refine ⟨trivial, ?_⟩; gi_at_call 43; refine (CallsIn.inRound l (callsIn_wide.2 (cR.out _))).mono ?_; rintro e W4 ⟨rfl, h4⟩; have hb4 := hb3.trans (h4.mono hb3.size); have c5 := hcr.out _ _ (hO3.same h4)))
          exact ⟨keeps_below _ hb4, hb4.mono (by omega), hS2.out, p0.same hb4, p1.same hb4, p2.same hb4, (hb4.block D hKlt).trans hKD⟩
      case hstop =>
        rintro D2 c pre X hD2 hpre ⟨rfl, hm, p2, hKD⟩ hB hK2
        have HC2 := Lib.hid (show M = 51 by rw [HC.out, enough_prefix (vals_prefix hpre) hm]; rfl)
        clear hm
        gi_wp2
        have hKD4 := ((grownBy_putObj' X D2 (.deferred none)).block D (Array.getElem?_eq_some_iff.1 hKD).1 (fun e => by have := Option.some.inj e; omega)).trans hKD
        refine ⟨by simp, .inl ⟨_, _, rfl, run_takeDeferred hK2, ⟨by simp, .inl ⟨_, _, rfl, run_takeDeferred hKD4, ?_⟩⟩⟩⟩
        have c4 := (boxed_end (boxed_end (show Boxed X (w.heap.size + 1 + 1) 58 (.int .i64 51) from p2) hK2) hKD4).cell
        refine ⟨.int .i64 51, ?_, by rw [← HMQ.out, HC2.out], below_end (below_end (HB7.out.trans hB) (by omega) hK2) (by omega) hKD4⟩
        simp [results, Try.f40, go_sem, c4]
      case hdone =>
        rintro D2 X hD2 ⟨hm, p0, p1, p2, hKD⟩ hB hK2
        rw [vals_all] at hm
        have HC2 := Lib.hid (show M = 0 by rw [HC.out, hm]; rfl)
        clear hm
        have c2 := p2.cell (j := 0) (v := .int .i64 0) rfl
        have f2 := p2.frozen 0
        gi_wp2
        have hp3 := p2.set 0 (.int .i64 0)
        have g1 := grownBy_set X (w.heap.size + 1 + 1) 0 (.int .i64 0)
        have hB3 := (HB7.out.trans hB).grown g1 (by have := hB.size; omega) (fun k e => by cases e; omega)
        have hK3 := (g1.block D2 (Array.getElem?_eq_some_iff.1 hK2).1 (fun e => by have := Option.some.inj e; omega)).trans hK2
        have hKD3 := (g1.block D (Array.getElem?_eq_some_iff.1 hKD).1 (fun e => by have := Option.some.inj e; omega)).trans hKD
        clear c2 f2 g1
        generalize X.setCell ⟨w.heap.size + 1 + 1, 0, none⟩ (.int .i64 0) = Y at *
        have hKD4 := ((grownBy_putObj' Y D2 (.deferred none)).block D (Array.getElem?_eq_some_iff.1 hKD3).1 (fun e => by have := Option.some.inj e; omega)).trans hKD3
        refine ⟨by simp, .inl ⟨_, _, rfl, run_takeDeferred hK3, ⟨by simp, .inl ⟨_, _, rfl, run_takeDeferred hKD4, ?_⟩⟩⟩⟩
        have c4 := (boxed_end (boxed_end (show Boxed Y (w.heap.size + 1 + 1) 58 (.int .i64 0) from hp3) hK3) hKD4).cell
        refine ⟨.int .i64 0, ?_, by rw [← HMQ.out, HC2.out], below_end (below_end hB3 (by omega) hK3) (by omega) hKD4⟩
        simp [results, Try.f40, go_sem, c4]
end Sk
end Go.Proofs.Ytlhpdalfnjhokaa
