/-
  a stock of goods: Count.
-/
import Derived.Test.YtlhpdalfnjhokaaSkG
namespace Go.Proofs.Ytlhpdalfnjhokaa
open Go.RowKit Go.Maps
namespace Sk
open It Al
def moreR (r : Row) (n : Int) : Int := wrap64 (wrap64 (n - at_ r 1) - at_ r 0)
def countR (r : Row) (n : Int) : Row := (r.set 0 (wrap64 (at_ r 0 + moreR r n))).set 6 (wrap64 (at_ r 6 + moreR r n))
def countS (s : Stk) (g : Key) (n : Int) : Stk × Int × Int :=
  if countOk n = false then (s, 0, 1) else match aGet s g with
    | none => (s, 0, 71)
    | some r => if n < at_ r 1 then (s, 0, 70) else if rightR (countR r n) = true then (aPut strK s g (countR r n), moreR r n, 0) else (s, 0, 50)
theorem aPut_length_of {κ α : Type} [DecidableEq κ] {K : KeyK κ} {m : List (κ × α)} {k : κ} {a x : α} (h : aGet m k = some x) : (aPut K m k a).length ≤ m.length := by
  unfold aPut
  rw [aIns_length]
  have hm := aGet_mem h
  have : (aDel m k).length < m.length := by
    unfold aDel
    exact List.length_filter_lt_length_iff_exists.2 ⟨_, hm, by simp⟩
  omega
/-- what Count leaves alone -/
def CtKept (mb : Nat) (w w' : World) : Prop := Kept (fun i => i < w.heap.size ∧ i ≠ mb) w w'
section
variable {w : World} {base b mb : Nat} {s : Stk}
set_option maxRecDepth 100000 in
set_option maxHeartbeats 8000000 in
theorem count_arg (h : StkAt w base b mb s) (g : ByteArray) (hg : g.size ≤ maxLen) (n : Int) (hc : countOk n = false ∨ aGet s g.data.toList = none) :
    Calls Try.prog 23 #[.pointer (some ⟨b, 0, none⟩), .string g, .int .i64 n] w fun e w' => e = .returned (.tuple #[.int .i64 0, .int .i64 (if countOk n = false then 1 else 71)]) ∧ Below w.heap.size w w' := by
  have hro := Lib.hid (h.row g.data.toList)
  obtain ⟨hl1, hl2⟩ := look_row s g.data.toList
  have hkey := Lib.hid (key_str hg)
  have hgm := h.map
  have z0 := h.ob.cell (j := 0) (v := .map (some mb)) rfl
  have cM := Lib.hid (made_calls b mb _ z0)
  generalize (aGet s g.data.toList).getD row0 = r at *
  have HL1 := Lib.hid hl1
  have HL2 := Lib.hid hl2
  have oN := Ob.new w 84 #[.int .i64 0, .int .i64 0, .int .i64 0, .int .i64 0, .int .i64 0, .int .i64 0, .int .i64 0, .int .i64 0, .int .i64 0, .int .i64 0, .int .i64 0]
  have HNB := Lib.hid (fun (W3 : World) (hg3 : (w.alloc (.cells #[.int .i64 0, .int .i64 0, .int .i64 0, .int .i64 0, .int .i64 0, .int .i64 0, .int .i64 0, .int .i64 0, .int .i64 0, .int .i64 0, .int .i64 0] 84)).grownBy W3 (some w.heap.size)) => (((Below.refl w.heap.size w).alloc (Nat.le_refl _) _).grown hg3 (by simp) (fun k e => by cases e; exact Nat.le_refl _) : Below w.heap.size w W3))
  have cN := Lib.hid (fun W => count_calls n W)
  have hcs : countOk n = false ∨ (countOk n = true ∧ (aGet s g.data.toList).isSome = false) := by
    rcases hc with h | h
    · exact .inl h
    · cases hn : countOk n with
      | false => exact .inl rfl
      | true => exact .inr ⟨rfl, by rw [h]; rfl⟩
  clear hl1 hl2 hc h
  obtain ⟨cn, hcn⟩ : ∃ cn, cn = countOk n := ⟨_, rfl⟩
  rw [← hcn] at cN hcs ⊢
  clear hcn
  obtain ⟨is, his⟩ : ∃ is, is = (aGet s g.data.toList).isSome := ⟨_, rfl⟩
  rw [← his] at HL2 hcs
  clear his
  rcases hcs with rfl | ⟨rfl, rfl⟩
  · go_enter Try.func23, Try.ntmps23
    go_wp2_with fail
    refine cM.out.mono ?_
    rintro e W ⟨rfl, rfl⟩
    go_wp2_with (first | (at_lookup; refine wpList_look_ok_g rfl (.tmp 18) (.tmp 19) _ rfl 9 _ keyedS Try.underlying80 rfl hgm (zeroRow _) _ _ rfl hkey.out _ _ HL1.out HL2.out ?_) | (refine wpList_store_ob rfl 84 (.tmp 8) (.tmp 21) rfl rfl rfl oN (by rw [rowC_size hro.out]; rfl) (row_size hro.out) (rowC_one r) ?_; intro W3 hO3 hg3; have hb3 := HNB.out _ hg3) | (go_at_call 37; refine (cN.out _).mono ?_; rintro e W2 ⟨rfl, rfl⟩))
    go_ret2
    exact ⟨rfl, hb3⟩
  · go_enter Try.func23, Try.ntmps23
    go_wp2_with fail
    refine cM.out.mono ?_
    rintro e W ⟨rfl, rfl⟩
    go_wp2_with (first | (at_lookup; refine wpList_look_ok_g rfl (.tmp 18) (.tmp 19) _ rfl 9 _ keyedS Try.underlying80 rfl hgm (zeroRow _) _ _ rfl hkey.out _ _ HL1.out HL2.out ?_) | (refine wpList_store_ob rfl 84 (.tmp 8) (.tmp 21) rfl rfl rfl oN (by rw [rowC_size hro.out]; rfl) (row_size hro.out) (rowC_one r) ?_; intro W3 hO3 hg3; have hb3 := HNB.out _ hg3) | (go_at_call 37; refine (cN.out _).mono ?_; rintro e W2 ⟨rfl, rfl⟩))
    go_ret2
    exact ⟨rfl, hb3⟩
set_option maxRecDepth 100000 in
set_option maxHeartbeats 8000000 in
theorem count_less (h : StkAt w base b mb s) (g : ByteArray) (hg : g.size ≤ maxLen) (n : Int) (hc : countOk n = true) {r : Row} (hr : aGet s g.data.toList = some r) (hl : n < at_ r 1) :
    Calls Try.prog 23 #[.pointer (some ⟨b, 0, none⟩), .string g, .int .i64 n] w fun e w' => e = .returned (.tuple #[.int .i64 0, .int .i64 70]) ∧ Below w.heap.size w w' := by
  have hro := Lib.hid (h.ok _ (aGet_mem hr)).row
  obtain ⟨hl1, hl2⟩ := look_row s g.data.toList
  rw [hr] at hl1 hl2
  have hkey := Lib.hid (key_str hg)
  have hgm := h.map
  have z0 := h.ob.cell (j := 0) (v := .map (some mb)) rfl
  have cM := Lib.hid (made_calls b mb _ z0)
  have HL1 := Lib.hid (show _ = rowV r from hl1)
  have HL2 := Lib.hid (show _ = true from hl2)
  have oN := Ob.new w 84 #[.int .i64 0, .int .i64 0, .int .i64 0, .int .i64 0, .int .i64 0, .int .i64 0, .int .i64 0, .int .i64 0, .int .i64 0, .int .i64 0, .int .i64 0]
  have HNB := Lib.hid (fun (W3 : World) (hg3 : (w.alloc (.cells #[.int .i64 0, .int .i64 0, .int .i64 0, .int .i64 0, .int .i64 0, .int .i64 0, .int .i64 0, .int .i64 0, .int .i64 0, .int .i64 0, .int .i64 0] 84)).grownBy W3 (some w.heap.size)) => (((Below.refl w.heap.size w).alloc (Nat.le_refl _) _).grown hg3 (by simp) (fun k e => by cases e; exact Nat.le_refl _) : Below w.heap.size w W3))
  have cN := Lib.hid (fun W => by have := count_calls n W; rw [hc] at this; exact this)
  have HC1 := Lib.hid (fun (V : World) (hO : Ob V w.heap.size 84 (rowC r)) => hO.cell (rowC_get (j := 1) (by rw [hro.out.len]; omega)))
  clear hl1 hl2
  have hd : decide (n < at_ r 1) = true := by simpa using hl
  generalize at_ r 1 = q at *
  clear hl hr
  go_enter Try.func23, Try.ntmps23
  go_wp2_with fail
  refine cM.out.mono ?_
  rintro e W ⟨rfl, rfl⟩
  go_wp2_with (first | (at_lookup; refine wpList_look_ok_g rfl (.tmp 18) (.tmp 19) _ rfl 9 _ keyedS Try.underlying80 rfl hgm (zeroRow _) _ _ rfl hkey.out _ _ HL1.out HL2.out ?_) | (refine wpList_store_ob rfl 84 (.tmp 8) (.tmp 21) rfl rfl rfl oN (by rw [rowC_size hro.out]; rfl) (row_size hro.out) (rowC_one r) ?_; intro W3 hO3 hg3; have hb3 := HNB.out _ hg3; have y1 := HC1.out _ hO3) | (go_at_call 37; refine (cN.out _).mono ?_; rintro e W2 ⟨rfl, rfl⟩))
  go_ret2
  exact ⟨rfl, hb3⟩
set_option maxRecDepth 100000 in
set_option maxHeartbeats 8000000 in
theorem count_over (h : StkAt w base b mb s) (g : ByteArray) (hg : g.size ≤ maxLen) (n : Int) (hc : countOk n = true) {r : Row} (hr : aGet s g.data.toList = some r) (hl : ¬ n < at_ r 1) (hrt : rightR (countR r n) = false) :
    Calls Try.prog 23 #[.pointer (some ⟨b, 0, none⟩), .string g, .int .i64 n] w fun e w' => e = .returned (.tuple #[.int .i64 0, .int .i64 50]) ∧ Below w.heap.size w w' := by
  have HH := Lib.hid h
  have hro := Lib.hid (h.ok _ (aGet_mem hr)).row
  obtain ⟨hl1, hl2⟩ := look_row s g.data.toList
  rw [hr] at hl1 hl2
  have hkey := Lib.hid (key_str hg)
  have hgm := h.map
  have z0 := h.ob.cell (j := 0) (v := .map (some mb)) rfl
  have cM := Lib.hid (made_calls b mb _ z0)
  have HL1 := Lib.hid (show _ = rowV r from hl1)
  have HL2 := Lib.hid (show _ = true from hl2)
  have oN := Ob.new w 84 #[.int .i64 0, .int .i64 0, .int .i64 0, .int .i64 0, .int .i64 0, .int .i64 0, .int .i64 0, .int .i64 0, .int .i64 0, .int .i64 0, .int .i64 0]
  have HNB := Lib.hid (fun (W3 : World) (hg3 : (w.alloc (.cells #[.int .i64 0, .int .i64 0, .int .i64 0, .int .i64 0, .int .i64 0, .int .i64 0, .int .i64 0, .int .i64 0, .int .i64 0, .int .i64 0, .int .i64 0] 84)).grownBy W3 (some w.heap.size)) => (((Below.refl w.heap.size w).alloc (Nat.le_refl _) _).grown hg3 (by simp) (fun k e => by cases e; exact Nat.le_refl _) : Below w.heap.size w W3))
  have cN := Lib.hid (fun W => by have := count_calls n W; rw [hc] at this; exact this)
  have HC1 := Lib.hid (fun (V : World) (hO : Ob V w.heap.size 84 (rowC r)) => hO.cell (rowC_get (j := 1) (by rw [hro.out.len]; omega)))
  clear hl1 hl2
  have hd : decide (n < at_ r 1) = false := by simpa using hl
  have HMO := Lib.hid (show wrap64 (wrap64 (n - at_ r 1) - at_ r 0) = moreR r n from rfl)
  have HQ := Lib.hid (show (r.set 0 (wrap64 (at_ r 0 + moreR r n))).set 6 (wrap64 (at_ r 6 + moreR r n)) = countR r n from rfl)
  have hrq := (hro.out.set 0 (at_ r 0 + moreR r n)).set 6 (at_ r 6 + moreR r n)
  rw [HQ.out] at hrq
  have hC0 := Lib.hid (fun (V : World) (hO : Ob V w.heap.size 84 (rowC r)) => (⟨hO.cell (rowC_get (j := 0) (by rw [hro.out.len]; omega)), hO.cell (rowC_get (j := 6) (by rw [hro.out.len]; omega))⟩ : _ ∧ _))
  have HR := Lib.hid hr
  obtain ⟨more, hmore⟩ : ∃ more, more = moreR r n := ⟨_, rfl⟩
  rw [← hmore] at HMO HQ
  generalize countR r n = q at *
  clear hl hr hmore h hc
  have HRQ := Lib.hid hrq
  generalize hx0 : at_ r 0 = x0 at *
  generalize hx1 : at_ r 1 = x1 at *
  generalize hx6 : at_ r 6 = x6 at *
  clear hx0 hx1 hx6
  go_enter Try.func23, Try.ntmps23
  go_wp2_with fail
  refine cM.out.mono ?_
  rintro e W ⟨rfl, rfl⟩
  go_wp2_with (first | (at_lookup; refine wpList_look_ok_g rfl (.tmp 18) (.tmp 19) _ rfl 9 _ keyedS Try.underlying80 rfl hgm (zeroRow _) _ _ rfl hkey.out _ _ HL1.out HL2.out ?_) | (refine wpList_store_ob rfl 84 (.tmp 8) (.tmp 21) rfl rfl rfl oN (by rw [rowC_size hro.out]; rfl) (row_size hro.out) (rowC_one r) ?_; intro W3 hO3 hg3; have hb3 := HNB.out _ hg3; have y1 := HC1.out _ hO3; obtain ⟨y0, y6⟩ := hC0.out _ hO3; have f0 := hO3.frozen 0; have f6 := hO3.frozen 6) | (go_at_call 37; refine (cN.out _).mono ?_; rintro e W2 ⟨rfl, rfl⟩))
  rw [HMO.out]
  have hO5 : Ob ((W3.setCell ⟨w.heap.size, 0, none⟩ (.int .i64 (wrap64 (x0 + more)))).setCell ⟨w.heap.size, 6, none⟩ (.int .i64 (wrap64 (x6 + more)))) w.heap.size 84 (rowC q) := by
    have := (hO3.set 0 (.int .i64 (wrap64 (x0 + more)))).set 6 (.int .i64 (wrap64 (x6 + more)))
    rw [rowC_set, rowC_set, HQ.out] at this
    exact this
  have hb5 := (hb3.grown (grownBy_set W3 w.heap.size 0 (.int .i64 (wrap64 (x0 + more)))) hb3.size (fun k e => by cases e; exact Nat.le_refl _)).grown (grownBy_set (W3.setCell ⟨w.heap.size, 0, none⟩ (.int .i64 (wrap64 (x0 + more)))) w.heap.size 6 (.int .i64 (wrap64 (x6 + more)))) (by have := hb3.size; have := (grownBy_set W3 w.heap.size 0 (.int .i64 (wrap64 (x0 + more)))).size; omega) (fun k e => by cases e; exact Nat.le_refl _)
  clear y0 y1 y6 f0 f6 hO3 hg3 hb3 z0 hgm oN HNB
  generalize (W3.setCell ⟨w.heap.size, 0, none⟩ (.int .i64 (wrap64 (x0 + more)))).setCell ⟨w.heap.size, 6, none⟩ (.int .i64 (wrap64 (x6 + more))) = W5 at *
  have cRT := right_calls w.heap.size hrq hO5
  rw [hrt] at cRT
  refine cRT.mono ?_
  rintro e W6 ⟨rfl, hb6⟩
  have hO6 := hO5.same hb6
  have hbb := hb5.trans (hb6.mono hb5.size)
  have HS := Lib.hid (HH.out.same hbb)
  clear hO5 hb5 hb6 hrq hrt cRT
  go_wp2
  go_ret2
  exact ⟨rfl, hbb⟩
set_option maxRecDepth 100000 in
set_option maxHeartbeats 8000000 in
theorem count_done (h : StkAt w base b mb s) (g : ByteArray) (hg : g.size ≤ maxLen) (n : Int) (hc : countOk n = true) {r : Row} (hr : aGet s g.data.toList = some r) (hl : ¬ n < at_ r 1) (hrt : rightR (countR r n) = true) :
    Calls Try.prog 23 #[.pointer (some ⟨b, 0, none⟩), .string g, .int .i64 n] w fun e w' => e = .returned (.tuple #[.int .i64 (moreR r n), .int .i64 0]) ∧ StkAt w' base b mb (aPut strK s g.data.toList (countR r n)) ∧ CtKept mb w w' := by
  have HH := Lib.hid h
  have hro := Lib.hid (h.ok _ (aGet_mem hr)).row
  obtain ⟨hl1, hl2⟩ := look_row s g.data.toList
  rw [hr] at hl1 hl2
  have hkey := Lib.hid (key_str hg)
  have hgm := h.map
  have z0 := h.ob.cell (j := 0) (v := .map (some mb)) rfl
  have cM := Lib.hid (made_calls b mb _ z0)
  have HL1 := Lib.hid (show _ = rowV r from hl1)
  have HL2 := Lib.hid (show _ = true from hl2)
  have oN := Ob.new w 84 #[.int .i64 0, .int .i64 0, .int .i64 0, .int .i64 0, .int .i64 0, .int .i64 0, .int .i64 0, .int .i64 0, .int .i64 0, .int .i64 0, .int .i64 0]
  have HNB := Lib.hid (fun (W3 : World) (hg3 : (w.alloc (.cells #[.int .i64 0, .int .i64 0, .int .i64 0, .int .i64 0, .int .i64 0, .int .i64 0, .int .i64 0, .int .i64 0, .int .i64 0, .int .i64 0, .int .i64 0] 84)).grownBy W3 (some w.heap.size)) => (((Below.refl w.heap.size w).alloc (Nat.le_refl _) _).grown hg3 (by simp) (fun k e => by cases e; exact Nat.le_refl _) : Below w.heap.size w W3))
  have cN := Lib.hid (fun W => by have := count_calls n W; rw [hc] at this; exact this)
  have HC1 := Lib.hid (fun (V : World) (hO : Ob V w.heap.size 84 (rowC r)) => hO.cell (rowC_get (j := 1) (by rw [hro.out.len]; omega)))
  clear hl1 hl2
  have hd : decide (n < at_ r 1) = false := by simpa using hl
  have HMO := Lib.hid (show wrap64 (wrap64 (n - at_ r 1) - at_ r 0) = moreR r n from rfl)
  have HQ := Lib.hid (show (r.set 0 (wrap64 (at_ r 0 + moreR r n))).set 6 (wrap64 (at_ r 6 + moreR r n)) = countR r n from rfl)
  have hrq := (hro.out.set 0 (at_ r 0 + moreR r n)).set 6 (at_ r 6 + moreR r n)
  rw [HQ.out] at hrq
  have hC0 := Lib.hid (fun (V : World) (hO : Ob V w.heap.size 84 (rowC r)) => (⟨hO.cell (rowC_get (j := 0) (by rw [hro.out.len]; omega)), hO.cell (rowC_get (j := 6) (by rw [hro.out.len]; omega))⟩ : _ ∧ _))
  have HR := Lib.hid hr
  obtain ⟨more, hmore⟩ : ∃ more, more = moreR r n := ⟨_, rfl⟩
  rw [← hmore] at HMO HQ ⊢
  generalize countR r n = q at *
  clear hl hr hmore h hc
  have HRQ := Lib.hid hrq
  generalize hx0 : at_ r 0 = x0 at *
  generalize hx1 : at_ r 1 = x1 at *
  generalize hx6 : at_ r 6 = x6 at *
  clear hx0 hx1 hx6
  go_enter Try.func23, Try.ntmps23
  go_wp2_with fail
  refine cM.out.mono ?_
  rintro e W ⟨rfl, rfl⟩
  go_wp2_with (first | (at_lookup; refine wpList_look_ok_g rfl (.tmp 18) (.tmp 19) _ rfl 9 _ keyedS Try.underlying80 rfl hgm (zeroRow _) _ _ rfl hkey.out _ _ HL1.out HL2.out ?_) | (refine wpList_store_ob rfl 84 (.tmp 8) (.tmp 21) rfl rfl rfl oN (by rw [rowC_size hro.out]; rfl) (row_size hro.out) (rowC_one r) ?_; intro W3 hO3 hg3; have hb3 := HNB.out _ hg3; have y1 := HC1.out _ hO3; obtain ⟨y0, y6⟩ := hC0.out _ hO3; have f0 := hO3.frozen 0; have f6 := hO3.frozen 6) | (go_at_call 37; refine (cN.out _).mono ?_; rintro e W2 ⟨rfl, rfl⟩))
  rw [HMO.out]
  have hO5 : Ob ((W3.setCell ⟨w.heap.size, 0, none⟩ (.int .i64 (wrap64 (x0 + more)))).setCell ⟨w.heap.size, 6, none⟩ (.int .i64 (wrap64 (x6 + more)))) w.heap.size 84 (rowC q) := by
    have := (hO3.set 0 (.int .i64 (wrap64 (x0 + more)))).set 6 (.int .i64 (wrap64 (x6 + more)))
    rw [rowC_set, rowC_set, HQ.out] at this
    exact this
  have hb5 := (hb3.grown (grownBy_set W3 w.heap.size 0 (.int .i64 (wrap64 (x0 + more)))) hb3.size (fun k e => by cases e; exact Nat.le_refl _)).grown (grownBy_set (W3.setCell ⟨w.heap.size, 0, none⟩ (.int .i64 (wrap64 (x0 + more)))) w.heap.size 6 (.int .i64 (wrap64 (x6 + more)))) (by have := hb3.size; have := (grownBy_set W3 w.heap.size 0 (.int .i64 (wrap64 (x0 + more)))).size; omega) (fun k e => by cases e; exact Nat.le_refl _)
  clear y0 y1 y6 f0 f6 hO3 hg3 hb3 z0 hgm oN HNB
  generalize (W3.setCell ⟨w.heap.size, 0, none⟩ (.int .i64 (wrap64 (x0 + more)))).setCell ⟨w.heap.size, 6, none⟩ (.int .i64 (wrap64 (x6 + more))) = W5 at *
  have cRT := right_calls w.heap.size hrq hO5
  rw [hrt] at cRT
  refine cRT.mono ?_
  rintro e W6 ⟨rfl, hb6⟩
  have hO6 := hO5.same hb6
  have hbb := hb5.trans (hb6.mono hb5.size)
  have HS := Lib.hid (HH.out.same hbb)
  clear hO5 hb5 hb6 hrq hrt cRT
  have hO7 : Ob W6.drew w.heap.size 84 (rowC q) := hO6
  have zz : W6.drew.cell? ⟨b, 0, none⟩ = some (.map (some mb)) := HS.out.ob.cell (j := 0) rfl
  have hS7 := HS.out.same (Below.refl W6.heap.size W6).drew
  have hml : (gm rowV s).length < maxLen := by rw [gm_length]; have := HS.out.len; unfold maxLen; omega
  obtain ⟨W8, hput, hG8, hg8⟩ := hS7.map.put keyedS Try.underlying80 hml hkey.out (val := .agg (rowC q))
  have HG8 := Lib.hid (show GMap strK W8 Try.prog 9 mb (gm rowV (aPut strK s g.data.toList q)) from by
    rw [← gm_put]
    exact hG8)
  clear hG8 hO6
  go_wp2_with fail
  refine Pu.regionM [(0, false), (1, false), (2, false), (3, false), (4, false), (5, false), (6, true)] (fun V => V = W6.drew) hmx (by kernel_rfl) (by kernel_rfl) (by kernel_rfl) rfl rfl ?_
  simp only [Pu.named, List.filterMap_cons, List.filterMap_nil, List.getElem?_toArray, List.getElem?_cons_succ, List.getElem?_cons_zero, Option.map_some]
  iterate 6 (first
    | (refine Pu.WalkM.off (by rfl) ?_; simp only [Act.put, List.setIfInBounds_toArray, List.set_cons_succ, List.set_cons_zero])
    | (apply Pu.WalkM.on (by rfl)
       · rintro V rfl
         go_wp2_with (refine wpList_load_ob rfl 84 (.tmp 8) rfl rfl _ hO7 Try.underlying84 rfl (row_size HRQ.out) ?_)
         refine ⟨rfl, ?_, rfl⟩
         try simp only [Act.put, List.setIfInBounds_toArray, List.set_cons_succ, List.set_cons_zero]
         rfl
       simp only [Act.put, List.setIfInBounds_toArray, List.set_cons_succ, List.set_cons_zero]))
  refine Pu.WalkM.make (by rfl) ?_
  intro V hV
  rw [hV]
  clear hV V
  go_wp2_with fail
  refine ⟨rfl, undef, (fun _ => True), (fun V => V = W8), rfl, rfl, (fun _ _ => trivial), (.inl (by kernel_rfl)), Pu.WalkM.nil ?_⟩
  intro V hV
  rw [hV]
  clear hV V
  simp only [Act.put]
  clear hput
  go_wp2
  go_ret2
  refine ⟨rfl, ⟨hS7.ob.kept (w' := W8) hg8 (fun e => HS.out.ne (Option.some.inj e)), HG8.out, (fun p hp => OkRow.put HS.out.ok HRQ.out (by simpa using hg) p hp), HS.out.ne, HS.out.lo, ?_⟩, ?_⟩
  · exact Nat.le_trans (aPut_length_of (K := strK) HR.out) HS.out.len
  · exact (show Kept (fun i => i < w.heap.size ∧ i ≠ mb) w W6.drew from Kept.of_below hbb.drew fun _ hi => hi.1).trans (Kept.of_grown (Fr := fun i => i < w.heap.size ∧ i ≠ mb) (w := W6.drew) hg8 (fun i (hi : i < w.heap.size ∧ i ≠ mb) => ⟨by have := hbb.size; show i < W6.heap.size; omega, fun e => hi.2 (Option.some.inj e)⟩))
theorem count_calls7 (h : StkAt w base b mb s) (g : ByteArray) (hg : g.size ≤ maxLen) (n : Int) :
    Calls Try.prog 23 #[.pointer (some ⟨b, 0, none⟩), .string g, .int .i64 n] w fun e w' => e = .returned (.tuple #[.int .i64 (countS s g.data.toList n).2.1, .int .i64 (countS s g.data.toList n).2.2]) ∧ StkAt w' base b mb (countS s g.data.toList n).1 ∧ CtKept mb w w' := by
  by_cases h1 : countOk n = false
  · have e : countS s g.data.toList n = (s, 0, 1) := by unfold countS; rw [if_pos h1]
    rw [e]
    refine (count_arg h g hg n (.inl h1)).mono ?_
    rintro e W ⟨rfl, hb⟩
    rw [if_pos h1]
    exact ⟨rfl, h.same hb, Kept.of_below hb fun _ hi => hi.1⟩
  · cases hr : aGet s g.data.toList with
    | none =>
      have e : countS s g.data.toList n = (s, 0, 71) := by unfold countS; rw [if_neg h1, hr]
      rw [e]
      refine (count_arg h g hg n (.inr hr)).mono ?_
      rintro e W ⟨rfl, hb⟩
      rw [if_neg h1]
      exact ⟨rfl, h.same hb, Kept.of_below hb fun _ hi => hi.1⟩
    | some r =>
      have h2 : countOk n = true := by cases hh : countOk n with
        | true => rfl
        | false => exact (h1 hh).elim
      by_cases h3 : n < at_ r 1
      · have e : countS s g.data.toList n = (s, 0, 70) := by unfold countS; rw [if_neg h1, hr]; dsimp only; rw [if_pos h3]
        rw [e]
        refine (count_less h g hg n h2 hr h3).mono ?_
        rintro e W ⟨rfl, hb⟩
        exact ⟨rfl, h.same hb, Kept.of_below hb fun _ hi => hi.1⟩
      · cases hrt : rightR (countR r n) with
        | false =>
          have e : countS s g.data.toList n = (s, 0, 50) := by unfold countS; rw [if_neg h1, hr]; dsimp only; rw [if_neg h3, hrt]; rfl
          rw [e]
          refine (count_over h g hg n h2 hr h3 hrt).mono ?_
          rintro e W ⟨rfl, hb⟩
          exact ⟨rfl, h.same hb, Kept.of_below hb fun _ hi => hi.1⟩
        | true =>
          have e : countS s g.data.toList n = (aPut strK s g.data.toList (countR r n), moreR r n, 0) := by unfold countS; rw [if_neg h1, hr]; dsimp only; rw [if_neg h3, hrt]; rfl
          rw [e]
          exact count_done h g hg n h2 hr h3 hrt
end
end Sk
end Go.Proofs.Ytlhpdalfnjhokaa
