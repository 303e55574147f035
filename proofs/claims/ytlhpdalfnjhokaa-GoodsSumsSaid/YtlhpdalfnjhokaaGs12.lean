/-
  the document's Total.
  append onto a row of the call's own from a slice that is known, as one step of a region that draws its order.
  the document's Goods.
  from a law's walk to its row: the call returns true, and nothing that was there has turned.
  arguments opened: a slice of structs, whatever the number of their one-cell fields; a slice of items.
  arguments opened: a slice of anything that can be read.
-/
import Derived.Test.YtlhpdalfnjhokaaGs11
import Derived.Test.YtlhpdalfnjhokaaGs5
import Derived.Test.YtlhpdalfnjhokaaGs1
import Derived.Deep.RegionLaw
import Derived.Test.YtlhpdalfnjhokaaGs6
import Derived.ProofKit
import Derived.OpenShut
import Derived.JoinedCond
import Derived.Deep.CondSized
import Derived.SizedLaws
import Derived.Deep.Slices
import Derived.Deep.Fields
import Derived.ChangeSame

set_option linter.unusedVariables false
set_option linter.unusedSimpArgs false
set_option linter.unusedSimpArgs false
namespace Go.Proofs.Ytlhpdalfnjhokaa
open Go.RowKit Go.Maps
namespace Sk
open It Al
attribute [local go_sem] Oper.semAt_some
/-- a slice of pointers to the document's stocks -/
structure RssAt (w : World) (base : Nat) (v : Value) (ss : List Stk) : Prop where
  at_ : ∃ xs : List Nat, xs.length = ss.length ∧ Sl w 0 w.heap.size 1 v ss.length (xs.map fun x => .pointer (some ⟨x, 0, none⟩)) ∧ ∀ i (h : i < ss.length), ∃ x, xs[i]? = some x ∧ RsAt w base x ss[i]
theorem RssAt.same {w w' : World} {base : Nat} {v : Value} {ss : List Stk} (h : RssAt w base v ss) (hb : Below w.heap.size w w') : RssAt w' base v ss := by
  obtain ⟨xs, h1, h2, h3⟩ := h.at_
  refine ⟨xs, h1, h2.mono hb hb.size, fun i hi => ?_⟩
  obtain ⟨x, k1, k2⟩ := h3 i hi
  exact ⟨x, k1, k2.same hb⟩
theorem RssAt.form {w : World} {base : Nat} {v : Value} {ss : List Stk} (h : RssAt w base v ss) : ∃ A c, v = .slice A ss.length c ∧ ss.length ≤ c ∧ c ≤ maxLen := by
  obtain ⟨xs, h1, h2, h3⟩ := h.at_
  obtain ⟨A, c, e, k1, k2, -⟩ := h2.at_
  exact ⟨A, c, e, k1, k2⟩
theorem RssAt.cellAt {w : World} {base n c : Nat} {A : Option Addr} {ss : List Stk} (h : RssAt w base (.slice A n c) ss) {i : Nat} (hi : i < ss.length) : ∃ b o x, A = some ⟨b, o, none⟩ ∧ b < w.heap.size ∧ w.cell? ⟨b, o + i, none⟩ = some (.pointer (some ⟨x, 0, none⟩)) ∧ RsAt w base x ss[i] := by
  obtain ⟨xs, h1, h2, h3⟩ := h.at_
  obtain ⟨A', c', e, k1, k2, k3⟩ := h2.at_
  cases e
  obtain ⟨b, o, rfl, -, hb, hc⟩ := k3 (by omega)
  obtain ⟨x, q1, q2⟩ := h3 i hi
  exact ⟨b, o, x, rfl, hb, (hc i (by omega)).trans (by rw [List.getElem?_map, q1]; rfl), q2⟩
set_option maxRecDepth 100000 in
set_option maxHeartbeats 8000000 in
theorem rtotal_calls (ss : List Stk) (g : ByteArray) (v : Value) (w : World) (base : Nat) (h : RssAt w base v ss) :
    Calls Try.prog 20 #[v, .string g] w fun e w' => e = .returned (totV g ss) ∧ Below w.heap.size w w' := by
  have hmx := hmx
  obtain ⟨A, c, rfl, hc1, hc2⟩ := h.form
  unfold maxLen at hc2
  have HH := Lib.hid h
  clear h
  have z0 := (Ob.new w 27 #[.string ⟨#[]⟩, .int .i64 0, .int .i64 0, .int .i64 0, .int .i64 0, .int .i64 0, .int .i64 0, .int .i64 0, .int .i64 0, .int .i64 0, .int .i64 0, .int .i64 0, .int .i64 0]).alloc (.cells #[.string g, .int .i64 0, .int .i64 0, .int .i64 0, .int .i64 0, .int .i64 0, .int .i64 0, .int .i64 0, .int .i64 0, .int .i64 0, .int .i64 0, .int .i64 0, .int .i64 0] 27)
  have o1 := Ob.new (w.alloc (.cells #[.string ⟨#[]⟩, .int .i64 0, .int .i64 0, .int .i64 0, .int .i64 0, .int .i64 0, .int .i64 0, .int .i64 0, .int .i64 0, .int .i64 0, .int .i64 0, .int .i64 0, .int .i64 0] 27)) 27 #[.string g, .int .i64 0, .int .i64 0, .int .i64 0, .int .i64 0, .int .i64 0, .int .i64 0, .int .i64 0, .int .i64 0, .int .i64 0, .int .i64 0, .int .i64 0, .int .i64 0]
  have hB : Below w.heap.size w ((w.alloc (.cells #[.string ⟨#[]⟩, .int .i64 0, .int .i64 0, .int .i64 0, .int .i64 0, .int .i64 0, .int .i64 0, .int .i64 0, .int .i64 0, .int .i64 0, .int .i64 0, .int .i64 0, .int .i64 0] 27)).alloc (.cells #[.string g, .int .i64 0, .int .i64 0, .int .i64 0, .int .i64 0, .int .i64 0, .int .i64 0, .int .i64 0, .int .i64 0, .int .i64 0, .int .i64 0, .int .i64 0, .int .i64 0] 27)) := ((Below.refl _ w).alloc (Nat.le_refl _) _).alloc (by simp) _
  simp only [World.size_alloc] at o1
  have HO := Lib.hid o1
  have HZ := Lib.hid z0
  have HB := Lib.hid hB
  have HS := Lib.hid (show ((w.alloc (.cells #[.string ⟨#[]⟩, .int .i64 0, .int .i64 0, .int .i64 0, .int .i64 0, .int .i64 0, .int .i64 0, .int .i64 0, .int .i64 0, .int .i64 0, .int .i64 0, .int .i64 0, .int .i64 0] 27)).alloc (.cells #[.string g, .int .i64 0, .int .i64 0, .int .i64 0, .int .i64 0, .int .i64 0, .int .i64 0, .int .i64 0, .int .i64 0, .int .i64 0, .int .i64 0, .int .i64 0, .int .i64 0] 27)).heap.size = w.heap.size + 2 by simp)
  clear o1 hB z0
  go_enter Try.func20, Try.ntmps20
  go_wp2
  have o1 := HO.out
  have z1 := HZ.out
  have hB := HB.out
  have hs := HS.out
  clear HO HZ HB HS
  generalize (w.alloc (.cells #[.string ⟨#[]⟩, .int .i64 0, .int .i64 0, .int .i64 0, .int .i64 0, .int .i64 0, .int .i64 0, .int .i64 0, .int .i64 0, .int .i64 0, .int .i64 0, .int .i64 0, .int .i64 0] 27)).alloc (.cells #[.string g, .int .i64 0, .int .i64 0, .int .i64 0, .int .i64 0, .int .i64 0, .int .i64 0, .int .i64 0, .int .i64 0, .int .i64 0, .int .i64 0, .int .i64 0, .int .i64 0] 27) = w2 at *
  go_loopw [6, 7] (fun i _ wr => ∃ k : Nat, k ≤ ss.length ∧ i = .int .i64 k ∧ Ob wr (w.heap.size + 1) 27 (totC g (totR (ss.take k) g.data.toList) 0) ∧ Ob wr w.heap.size 27 #[.string ⟨#[]⟩, .int .i64 0, .int .i64 0, .int .i64 0, .int .i64 0, .int .i64 0, .int .i64 0, .int .i64 0, .int .i64 0, .int .i64 0, .int .i64 0, .int .i64 0, .int .i64 0] ∧ Below w.heap.size w wr ∧ w.heap.size + 2 ≤ wr.heap.size) (fun i _ _ => ss.length - (intOf i).toNat)
  case atStart => exact ⟨0, by omega, rfl, o1, z1, hB, by omega⟩
  case round =>
    obtain ⟨k, hk, rfl, hO, hZ, hBr, hsz⟩ := hrel
    clear o1 z1 hB hs
    by_cases hlt : k < ss.length
    · obtain ⟨pb, po, x, rfl, hpb, hcell, hx⟩ := HH.out.cellAt hlt
      have hck := (hBr.cell (p := ⟨pb, po + k, none⟩) hpb).trans hcell
      have hSn := Lib.hid (show totR (ss.take (k + 1)) g.data.toList = addRow (totR (ss.take k) g.data.toList) (rowG ss[k] g.data.toList) by rw [List.take_succ_eq_append_getElem hlt, totR_snoc]; rfl)
      have hxr := hx.same hBr
      have hro := hxr.row g.data.toList
      have hra := totR_ok (ss.take k) g.data.toList
      have cR := row_calls hxr g
      generalize rowG ss[k] g.data.toList = r at *
      generalize totR (ss.take k) g.data.toList = acc at *
      obtain ⟨a0, a1, a2, a3, a4, a5, a6, a7, a8, a9, a10, rfl⟩ := row_eleven hra
      obtain ⟨b0, b1, b2, b3, b4, b5, b6, b7, b8, b9, b10, rfl⟩ := row_eleven hro
      replace hO : Ob wr (w.heap.size + 1) 27 #[.string g, .int .i64 a0, .int .i64 a1, .int .i64 a2, .int .i64 a3, .int .i64 a4, .int .i64 a5, .int .i64 a6, .int .i64 a7, .int .i64 a8, .int .i64 a9, .int .i64 a10, .int .i64 0] := hO
      have CR := Lib.hid (show Calls Try.prog 35 #[.pointer (some ⟨x, 0, none⟩), .string g] wr fun e w' => e = .returned (.agg #[.string g, .int .i64 b0, .int .i64 b1, .int .i64 b2, .int .i64 b3, .int .i64 b4, .int .i64 b5, .int .i64 b6, .int .i64 b7, .int .i64 b8, .int .i64 b9, .int .i64 b10]) ∧ Below wr.heap.size wr w' from cR)
      have HSN := Lib.hid (show totR (ss.take (k + 1)) g.data.toList = [(wrap64 (a0 + b0)), (wrap64 (a1 + b1)), (wrap64 (a2 + b2)), (wrap64 (a3 + b3)), (wrap64 (a4 + b4)), (wrap64 (a5 + b5)), (wrap64 (a6 + b6)), (wrap64 (a7 + b7)), (wrap64 (a8 + b8)), (wrap64 (a9 + b9)), (wrap64 (a10 + b10))] from hSn.out)
      have hd : decide ((k : Int) < (ss.length : Int)) = true := by simp; omega
      clear hcell hro hra hSn hx hxr cR
      have htb : w.heap.size ≤ w.heap.size + 1 := by omega
      generalize htbe : w.heap.size + 1 = tb at *
      go_upto_region 6 with (go_at_call 35; refine CR.out.mono ?_; rintro e W1 ⟨rfl, hb⟩)
      have hrn := Ob.new W1 78 #[.string g, .int .i64 b0, .int .i64 b1, .int .i64 b2, .int .i64 b3, .int .i64 b4, .int .i64 b5, .int .i64 b6, .int .i64 b7, .int .i64 b8, .int .i64 b9, .int .i64 b10]
      have hb2 := hb.alloc hb.size (.cells #[.string g, .int .i64 b0, .int .i64 b1, .int .i64 b2, .int .i64 b3, .int .i64 b4, .int .i64 b5, .int .i64 b6, .int .i64 b7, .int .i64 b8, .int .i64 b9, .int .i64 b10] 78)
      have hd0 : Ob (W1.alloc (.cells #[.string g, .int .i64 b0, .int .i64 b1, .int .i64 b2, .int .i64 b3, .int .i64 b4, .int .i64 b5, .int .i64 b6, .int .i64 b7, .int .i64 b8, .int .i64 b9, .int .i64 b10] 78)).drew tb 27 #[.string g, .int .i64 a0, .int .i64 a1, .int .i64 a2, .int .i64 a3, .int .i64 a4, .int .i64 a5, .int .i64 a6, .int .i64 a7, .int .i64 a8, .int .i64 a9, .int .i64 a10, .int .i64 0] := hO.same hb2.drew
      have hr0 : Ob (W1.alloc (.cells #[.string g, .int .i64 b0, .int .i64 b1, .int .i64 b2, .int .i64 b3, .int .i64 b4, .int .i64 b5, .int .i64 b6, .int .i64 b7, .int .i64 b8, .int .i64 b9, .int .i64 b10] 78)).drew W1.heap.size 78 #[.string g, .int .i64 b0, .int .i64 b1, .int .i64 b2, .int .i64 b3, .int .i64 b4, .int .i64 b5, .int .i64 b6, .int .i64 b7, .int .i64 b8, .int .i64 b9, .int .i64 b10] := hrn
      have hbd := hBr.trans ((hb2.mono hBr.size).drew)
      have hZd : Ob (W1.alloc (.cells #[.string g, .int .i64 b0, .int .i64 b1, .int .i64 b2, .int .i64 b3, .int .i64 b4, .int .i64 b5, .int .i64 b6, .int .i64 b7, .int .i64 b8, .int .i64 b9, .int .i64 b10] 78)).drew w.heap.size 27 #[.string ⟨#[]⟩, .int .i64 0, .int .i64 0, .int .i64 0, .int .i64 0, .int .i64 0, .int .i64 0, .int .i64 0, .int .i64 0, .int .i64 0, .int .i64 0, .int .i64 0, .int .i64 0] := hZ.same hb2.drew
      have hsd : tb ≤ (W1.alloc (.cells #[.string g, .int .i64 b0, .int .i64 b1, .int .i64 b2, .int .i64 b3, .int .i64 b4, .int .i64 b5, .int .i64 b6, .int .i64 b7, .int .i64 b8, .int .i64 b9, .int .i64 b10] 78)).drew.heap.size := by show _ ≤ (W1.alloc (.cells #[.string g, .int .i64 b0, .int .i64 b1, .int .i64 b2, .int .i64 b3, .int .i64 b4, .int .i64 b5, .int .i64 b6, .int .i64 b7, .int .i64 b8, .int .i64 b9, .int .i64 b10] 78)).heap.size; have := hb2.size; omega
      have hrbl : tb ≠ W1.heap.size := by have := hb.size; omega
      clear hb hb2 hrn CR hO hZ
      generalize W1.alloc (.cells #[.string g, .int .i64 b0, .int .i64 b1, .int .i64 b2, .int .i64 b3, .int .i64 b4, .int .i64 b5, .int .i64 b6, .int .i64 b7, .int .i64 b8, .int .i64 b9, .int .i64 b10] 78) = W2 at *
      generalize W1.heap.size = rb at *
      refine Pe.regionT (.look 0 (.look 1 (.look 2 (.look 3 (.look 5 (.look 6 (.look 7 (.look 8 (.look 10 (.make 4 (.make 9 (.make 11 (.look 12 (.make 13 .nil)))))))))))))) (fun V => Ob V tb 27 #[.string g, .int .i64 a0, .int .i64 a1, .int .i64 a2, .int .i64 a3, .int .i64 a4, .int .i64 a5, .int .i64 a6, .int .i64 a7, .int .i64 a8, .int .i64 a9, .int .i64 a10, .int .i64 0] ∧ Ob V rb 78 #[.string g, .int .i64 b0, .int .i64 b1, .int .i64 b2, .int .i64 b3, .int .i64 b4, .int .i64 b5, .int .i64 b6, .int .i64 b7, .int .i64 b8, .int .i64 b9, .int .i64 b10]) hmx (by kernel_rfl) (by kernel_rfl) (by kernel_rfl) ⟨hd0, hr0⟩ rfl ?_
      simp only [Pe.named, List.getElem?_toArray, List.getElem?_cons_succ, List.getElem?_cons_zero]
      iterate 9 (first
        | (refine Pe.WalkT.off (by rfl) ?_; simp only [Act.put, List.setIfInBounds_toArray, List.set_cons_succ, List.set_cons_zero])
        | (apply Pe.WalkT.on (by rfl)
           · rintro V ⟨hV, hR⟩
             have y0 := hV.cell (j := 1) (v := .int .i64 a0) rfl
             have y1 := hV.cell (j := 2) (v := .int .i64 a1) rfl
             have y2 := hV.cell (j := 3) (v := .int .i64 a2) rfl
             have y3 := hV.cell (j := 4) (v := .int .i64 a3) rfl
             have y4 := hV.cell (j := 5) (v := .int .i64 a4) rfl
             have y5 := hV.cell (j := 6) (v := .int .i64 a5) rfl
             have y6 := hV.cell (j := 7) (v := .int .i64 a6) rfl
             have y7 := hV.cell (j := 8) (v := .int .i64 a7) rfl
             have y8 := hV.cell (j := 9) (v := .int .i64 a8) rfl
             have y9 := hV.cell (j := 10) (v := .int .i64 a9) rfl
             have y10 := hV.cell (j := 11) (v := .int .i64 a10) rfl
             have x0 := hR.cell (j := 1) (v := .int .i64 b0) rfl
             have x1 := hR.cell (j := 2) (v := .int .i64 b1) rfl
             have x2 := hR.cell (j := 3) (v := .int .i64 b2) rfl
             have x3 := hR.cell (j := 4) (v := .int .i64 b3) rfl
             have x4 := hR.cell (j := 5) (v := .int .i64 b4) rfl
             have x5 := hR.cell (j := 6) (v := .int .i64 b5) rfl
             have x6 := hR.cell (j := 7) (v := .int .i64 b6) rfl
             have x7 := hR.cell (j := 8) (v := .int .i64 b7) rfl
             have x8 := hR.cell (j := 9) (v := .int .i64 b8) rfl
             have x9 := hR.cell (j := 10) (v := .int .i64 b9) rfl
             have x10 := hR.cell (j := 11) (v := .int .i64 b10) rfl
             go_wp2_with fail
             refine ⟨rfl, ?_, rfl⟩
             try simp only [Act.put, List.setIfInBounds_toArray, List.set_cons_succ, List.set_cons_zero]
             rfl
           simp only [Act.put, List.setIfInBounds_toArray, List.set_cons_succ, List.set_cons_zero]))
      generalize hWD : W2.drew = WD at *
      clear hWD
      refine Pe.WalkT.make (by rfl) ?_
      intro V hV
      rw [hV]
      clear hV V
      go_wp2_with (go_at_call 10; refine (rlevel_calls a0 a1 a2 a3 b0 b1 b2 b3 WD).mono ?_; rintro e W3 ⟨rfl, hb2⟩)
      have hO2 := hd0.same hb2
      have hR2 := hr0.same hb2
      have hB2 := hb2.mono hsd
      have hq2 := hB2.size
      clear hb2 hd0 hr0
      refine ⟨rfl, .agg #[.int .i64 (wrap64 (a0 + b0)), .int .i64 (wrap64 (a1 + b1)), .int .i64 (wrap64 (a2 + b2)), .int .i64 (wrap64 (a3 + b3))], (fun V => Ob V tb 27 #[.string g, .int .i64 a0, .int .i64 a1, .int .i64 a2, .int .i64 a3, .int .i64 a4, .int .i64 a5, .int .i64 a6, .int .i64 a7, .int .i64 a8, .int .i64 a9, .int .i64 a10, .int .i64 0] ∧ Ob V rb 78 #[.string g, .int .i64 b0, .int .i64 b1, .int .i64 b2, .int .i64 b3, .int .i64 b4, .int .i64 b5, .int .i64 b6, .int .i64 b7, .int .i64 b8, .int .i64 b9, .int .i64 b10]), (fun V => V = W3), ?_, rfl, (fun V h => by rw [h]; exact ⟨hO2, hR2⟩), (.inr (fun _ h => h)), ?_⟩
      · try simp only [Act.put, List.setIfInBounds_toArray, List.set_cons_succ, List.set_cons_zero]
      try simp only [Act.put, List.setIfInBounds_toArray, List.set_cons_succ, List.set_cons_zero]
      refine Pe.WalkT.make (by rfl) ?_
      intro V hV
      rw [hV]
      clear hV V
      go_wp2_with (go_at_call 12; refine (rflow_calls a4 a5 a6 a7 a8 a9 a10 b4 b5 b6 b7 b8 b9 b10 W3).mono ?_; rintro e W4 ⟨rfl, hb4⟩)
      have hO4 := hO2.same hb4
      have hR4 := hR2.same hb4
      have hB4 := hB2.trans (hb4.mono (by omega))
      have hq4 := hB4.size
      clear hb4 hO2 hR2 hB2
      refine ⟨rfl, .agg #[.int .i64 (wrap64 (a4 + b4)), .int .i64 (wrap64 (a5 + b5)), .int .i64 (wrap64 (a6 + b6)), .int .i64 (wrap64 (a7 + b7)), .int .i64 (wrap64 (a8 + b8)), .int .i64 (wrap64 (a9 + b9)), .int .i64 (wrap64 (a10 + b10))], (fun V => Ob V tb 27 #[.string g, .int .i64 a0, .int .i64 a1, .int .i64 a2, .int .i64 a3, .int .i64 a4, .int .i64 a5, .int .i64 a6, .int .i64 a7, .int .i64 a8, .int .i64 a9, .int .i64 a10, .int .i64 0] ∧ Ob V rb 78 #[.string g, .int .i64 b0, .int .i64 b1, .int .i64 b2, .int .i64 b3, .int .i64 b4, .int .i64 b5, .int .i64 b6, .int .i64 b7, .int .i64 b8, .int .i64 b9, .int .i64 b10]), (fun V => V = W4), ?_, rfl, (fun V h => by rw [h]; exact ⟨hO4, hR4⟩), (.inr (fun _ h => h)), ?_⟩
      · try simp only [Act.put, List.setIfInBounds_toArray, List.set_cons_succ, List.set_cons_zero]
      try simp only [Act.put, List.setIfInBounds_toArray, List.set_cons_succ, List.set_cons_zero]
      refine Pe.WalkT.make (by rfl) ?_
      intro V hV
      rw [hV]
      clear hV V
      have hth := hO4.there (o := 1) (n := 4) (by simp)
      have hO5 : Ob (W4.setCells tb 1 [.int .i64 (wrap64 (a0 + b0)), .int .i64 (wrap64 (a1 + b1)), .int .i64 (wrap64 (a2 + b2)), .int .i64 (wrap64 (a3 + b3))]) tb 27 #[.string g, .int .i64 (wrap64 (a0 + b0)), .int .i64 (wrap64 (a1 + b1)), .int .i64 (wrap64 (a2 + b2)), .int .i64 (wrap64 (a3 + b3)), .int .i64 a4, .int .i64 a5, .int .i64 a6, .int .i64 a7, .int .i64 a8, .int .i64 a9, .int .i64 a10, .int .i64 0] := hO4.seg [.int .i64 (wrap64 (a0 + b0)), .int .i64 (wrap64 (a1 + b1)), .int .i64 (wrap64 (a2 + b2)), .int .i64 (wrap64 (a3 + b3))] 1
      have hg5 := grownBy_segs (b := tb) [.int .i64 (wrap64 (a0 + b0)), .int .i64 (wrap64 (a1 + b1)), .int .i64 (wrap64 (a2 + b2)), .int .i64 (wrap64 (a3 + b3))] W4 1
      go_wp2_with (refine wpList_store_mid rfl 23 (.tmp 32) (.tmp 26) rfl tb 1 _ rfl rfl hth (by kernel_rfl) (by simp [Value.oneCell']) ?_)
      have hB5 := hB4.grown hg5 (by have := hB4.size; omega) (fun k e => by cases e; exact Nat.le_refl _)
      have he5 : W4.setCells tb 1 (Array.toList (#[.int .i64 (wrap64 (a0 + b0)), .int .i64 (wrap64 (a1 + b1)), .int .i64 (wrap64 (a2 + b2)), .int .i64 (wrap64 (a3 + b3))] : Array Value)) = W4.setCells tb 1 [.int .i64 (wrap64 (a0 + b0)), .int .i64 (wrap64 (a1 + b1)), .int .i64 (wrap64 (a2 + b2)), .int .i64 (wrap64 (a3 + b3))] := rfl
      rw [he5]
      clear hth hg5 he5 hO4 hB4 hR4
      generalize W4.setCells tb 1 [.int .i64 (wrap64 (a0 + b0)), .int .i64 (wrap64 (a1 + b1)), .int .i64 (wrap64 (a2 + b2)), .int .i64 (wrap64 (a3 + b3))] = W5 at *
      refine ⟨rfl, undef, (fun V => Ob V tb 27 #[.string g, .int .i64 (wrap64 (a0 + b0)), .int .i64 (wrap64 (a1 + b1)), .int .i64 (wrap64 (a2 + b2)), .int .i64 (wrap64 (a3 + b3)), .int .i64 a4, .int .i64 a5, .int .i64 a6, .int .i64 a7, .int .i64 a8, .int .i64 a9, .int .i64 a10, .int .i64 0]), (fun V => V = W5), rfl, rfl, (fun V h => by rw [h]; exact hO5), (.inl (by kernel_rfl)), ?_⟩
      simp only [Act.put]
      iterate 1 (first
        | (refine Pe.WalkT.off (by rfl) ?_; simp only [Act.put, List.setIfInBounds_toArray, List.set_cons_succ, List.set_cons_zero])
        | (apply Pe.WalkT.on (by rfl)
           · intro V hV
             go_wp2_with fail
             refine ⟨rfl, ?_, rfl⟩
             try simp only [Act.put, List.setIfInBounds_toArray, List.set_cons_succ, List.set_cons_zero]
             rfl
           simp only [Act.put, List.setIfInBounds_toArray, List.set_cons_succ, List.set_cons_zero]))
      refine Pe.WalkT.make (by rfl) ?_
      intro V hV
      rw [hV]
      clear hV V
      have hth := hO5.there (o := 5) (n := 7) (by simp)
      have hO6 : Ob (W5.setCells tb 5 [.int .i64 (wrap64 (a4 + b4)), .int .i64 (wrap64 (a5 + b5)), .int .i64 (wrap64 (a6 + b6)), .int .i64 (wrap64 (a7 + b7)), .int .i64 (wrap64 (a8 + b8)), .int .i64 (wrap64 (a9 + b9)), .int .i64 (wrap64 (a10 + b10))]) tb 27 #[.string g, .int .i64 (wrap64 (a0 + b0)), .int .i64 (wrap64 (a1 + b1)), .int .i64 (wrap64 (a2 + b2)), .int .i64 (wrap64 (a3 + b3)), .int .i64 (wrap64 (a4 + b4)), .int .i64 (wrap64 (a5 + b5)), .int .i64 (wrap64 (a6 + b6)), .int .i64 (wrap64 (a7 + b7)), .int .i64 (wrap64 (a8 + b8)), .int .i64 (wrap64 (a9 + b9)), .int .i64 (wrap64 (a10 + b10)), .int .i64 0] := hO5.seg [.int .i64 (wrap64 (a4 + b4)), .int .i64 (wrap64 (a5 + b5)), .int .i64 (wrap64 (a6 + b6)), .int .i64 (wrap64 (a7 + b7)), .int .i64 (wrap64 (a8 + b8)), .int .i64 (wrap64 (a9 + b9)), .int .i64 (wrap64 (a10 + b10))] 5
      have hg6 := grownBy_segs (b := tb) [.int .i64 (wrap64 (a4 + b4)), .int .i64 (wrap64 (a5 + b5)), .int .i64 (wrap64 (a6 + b6)), .int .i64 (wrap64 (a7 + b7)), .int .i64 (wrap64 (a8 + b8)), .int .i64 (wrap64 (a9 + b9)), .int .i64 (wrap64 (a10 + b10))] W5 5
      go_wp2_with (refine wpList_store_mid rfl 25 (.tmp 33) (.tmp 31) rfl tb 5 _ rfl rfl hth (by kernel_rfl) (by simp [Value.oneCell']) ?_)
      have hB6 := hB5.grown hg6 (by have := hB5.size; omega) (fun k e => by cases e; exact Nat.le_refl _)
      have he6 : W5.setCells tb 5 (Array.toList (#[.int .i64 (wrap64 (a4 + b4)), .int .i64 (wrap64 (a5 + b5)), .int .i64 (wrap64 (a6 + b6)), .int .i64 (wrap64 (a7 + b7)), .int .i64 (wrap64 (a8 + b8)), .int .i64 (wrap64 (a9 + b9)), .int .i64 (wrap64 (a10 + b10))] : Array Value)) = W5.setCells tb 5 [.int .i64 (wrap64 (a4 + b4)), .int .i64 (wrap64 (a5 + b5)), .int .i64 (wrap64 (a6 + b6)), .int .i64 (wrap64 (a7 + b7)), .int .i64 (wrap64 (a8 + b8)), .int .i64 (wrap64 (a9 + b9)), .int .i64 (wrap64 (a10 + b10))] := rfl
      rw [he6]
      clear hth hg6 he6 hO5 hB5
      generalize W5.setCells tb 5 [.int .i64 (wrap64 (a4 + b4)), .int .i64 (wrap64 (a5 + b5)), .int .i64 (wrap64 (a6 + b6)), .int .i64 (wrap64 (a7 + b7)), .int .i64 (wrap64 (a8 + b8)), .int .i64 (wrap64 (a9 + b9)), .int .i64 (wrap64 (a10 + b10))] = W6 at *
      refine ⟨rfl, undef, (fun _ => True), (fun V => V = W6), rfl, rfl, (fun _ _ => trivial), (.inl (by kernel_rfl)), Pe.WalkT.nil ?_⟩
      intro V hV
      rw [hV]
      clear hV V
      simp only [Act.put]
      have hZ6 := hZd.below hB6 (by omega)
      have hb6 := hbd.trans (hB6.mono htb)
      have hsz6 : tb ≤ W6.heap.size := by have := hB6.size; omega
      have HO6 := Lib.hid (show Ob W6 tb 27 (totC g (totR (ss.take (k + 1)) g.data.toList) 0) by rw [HSN.out]; exact hO6)
      have hl6 := hO6.lt
      clear hO6 hB6 hbd
      go_wp2
      go_roundw
      case rel => exact ⟨k + 1, by omega, by go_num, HO6.out, hZ6, hb6, by omega⟩
      case measure => simp [intOf]; omega
    · obtain rfl : k = ss.length := by omega
      rw [List.take_length] at hO
      have hd : decide ((ss.length : Int) < (ss.length : Int)) = false := by simp
      have hd' : decide (ss.length < ss.length) = false := by simp
      have hra := totR_ok ss g.data.toList
      have HTV := Lib.hid (show totV g ss = .agg (totC g (totR ss g.data.toList) (wayT (totR ss g.data.toList))) from rfl)
      generalize totR ss g.data.toList = acc at *
      obtain ⟨a0, a1, a2, a3, a4, a5, a6, a7, a8, a9, a10, rfl⟩ := row_eleven hra
      replace hO : Ob wr (w.heap.size + 1) 27 #[.string g, .int .i64 a0, .int .i64 a1, .int .i64 a2, .int .i64 a3, .int .i64 a4, .int .i64 a5, .int .i64 a6, .int .i64 a7, .int .i64 a8, .int .i64 a9, .int .i64 a10, .int .i64 0] := hO
      have y6 := hO.cell (j := 11) (v := .int .i64 a10) rfl
      have y3 := hO.cell (j := 8) (v := .int .i64 a7) rfl
      have yw := hO.cell (j := 12) (v := .int .i64 0) rfl
      have fw := hO.frozen 12
      have hO7 : Ob (wr.setCell ⟨w.heap.size + 1, 12, none⟩ (.int .i64 (wrap64 (a10 - a7)))) (w.heap.size + 1) 27 #[.string g, .int .i64 a0, .int .i64 a1, .int .i64 a2, .int .i64 a3, .int .i64 a4, .int .i64 a5, .int .i64 a6, .int .i64 a7, .int .i64 a8, .int .i64 a9, .int .i64 a10, .int .i64 (wrap64 (a10 - a7))] := hO.set 12 (.int .i64 (wrap64 (a10 - a7)))
      have hZ7 := hZ.other (b' := w.heap.size + 1) (by omega) 12 (.int .i64 (wrap64 (a10 - a7)))
      have hB7 := hBr.grown (grownBy_set wr (w.heap.size + 1) 12 (.int .i64 (wrap64 (a10 - a7)))) (by omega) (fun k e => by cases e; omega)
      clear hra
      go_wp2_with (first
        | (refine wpList_load_ob rfl 27 (.tmp 5) rfl rfl _ hO7 Try.underlying27 rfl (by kernel_rfl) ?_)
        | (refine wpList_store_ob rfl 27 (.tmp 4) (.tmp 42) rfl rfl rfl hZ7 rfl (by kernel_rfl) (by simp [Value.oneCell']) ?_; intro w9 hO9 hg9))
      have hb9 := hB7.grown hg9 hB7.size (fun k e => by cases e; exact Nat.le_refl _)
      refine bodyPost_ret (v := .agg #[.string g, .int .i64 a0, .int .i64 a1, .int .i64 a2, .int .i64 a3, .int .i64 a4, .int .i64 a5, .int .i64 a6, .int .i64 a7, .int .i64 a8, .int .i64 a9, .int .i64 a10, .int .i64 (wrap64 (a10 - a7))]) ?_ rfl ⟨by rw [HTV.out]; rfl, hb9⟩
      clear y6 y3 yw fw
      have c0 := hO9.cell (j := 0) (v := .string g) rfl
      have c1 := hO9.cell (j := 1) (v := .int .i64 a0) rfl
      have c2 := hO9.cell (j := 2) (v := .int .i64 a1) rfl
      have c3 := hO9.cell (j := 3) (v := .int .i64 a2) rfl
      have c4 := hO9.cell (j := 4) (v := .int .i64 a3) rfl
      have c5 := hO9.cell (j := 5) (v := .int .i64 a4) rfl
      have c6 := hO9.cell (j := 6) (v := .int .i64 a5) rfl
      have c7 := hO9.cell (j := 7) (v := .int .i64 a6) rfl
      have c8 := hO9.cell (j := 8) (v := .int .i64 a7) rfl
      have c9 := hO9.cell (j := 9) (v := .int .i64 a8) rfl
      have c10 := hO9.cell (j := 10) (v := .int .i64 a9) rfl
      have c11 := hO9.cell (j := 11) (v := .int .i64 a10) rfl
      have c12 := hO9.cell (j := 12) (v := .int .i64 (wrap64 (a10 - a7))) rfl
      simp [results, Try.f20, go_sem, c0, c1, c2, c3, c4, c5, c6, c7, c8, c9, c10, c11, c12]
end Sk
end Go.Proofs.Ytlhpdalfnjhokaa

namespace Go.Proofs.Ytlhpdalfnjhokaa
open Go.RowKit

theorem step_append_sl {P : Program} (w : World) {ops : Array Oper} {o : Oper} {a : Act} {K : Act → World → Prop} {Q : Exit → Act → World → Prop} {E : Prop} (hgd : o.guard = none) (s x : Operand) (t : TypeId)
    (ho : o.op = .call { callee := .builtin .append, args := #[s, x], argTypes := #[t, t] })
    (base : Nat) (e : TypeId) (i : TypeInfo) (z : Value) (size bytes : Nat) (ht : P.underlying t = some (.slice e)) (hi : P.info? e = some i) (hz : i.zero = some z)
    (hsize : i.size = size) (hby : i.bytes = bytes) (hzs : z.cells.size = size) (hsz : 0 < size)
    (v : Value) (n : Nat) (xs : List Value) (hs : a.eval s = v) (hown : w.ownsRow base e size v n xs)
    (lo B : Nat) (u : Value) (m : Nat) (ys : List Value) (hx : a.eval x = u) (hu : Sl w lo B size u m ys) (h1 : ∀ y ∈ ys, y.oneCell' = true)
    (h63 : n + m ≤ maxLen) (hbytes : (n + m) * bytes ≤ 140737488355328) (hbase : base ≤ w.heap.size)
    (h : ∀ v' w', w'.ownsRow base e size v' (n + m) (xs ++ ys) → w.grownBy w' v.ownBlock → (v'.ownBlock = v.ownBlock ∨ v'.ownBlock = some w.heap.size) → K (a.put o.dst v') w') :
    if Region.wanted o (yielded ops a.tmps) = true then Oper.wp P o a w K Q else E := by
  have hw : Region.wanted o (yielded ops a.tmps) = true := by simp [Region.wanted, hgd]
  rw [if_pos hw]
  obtain ⟨v', w', hrun, h2, h3, h4⟩ := run_append_sl (P := P) w base t o.type e i z size bytes ht hi hz hsize hby hzs hsz v n xs hown lo B u m ys hu h1 h63 hbytes hbase
  unfold Oper.wp execOp
  simp only [ho, resolve, invoke, builtin, Sem.run_bind, Sem.run_pure, Result.andThen_ok, List.map_toArray, List.map_cons, List.map_nil, hs, hx, hrun]
  exact h v' w' h2 h3 h4
theorem Sl.zero {w : World} {lo B size c : Nat} {A : Option Addr} (h : c ≤ maxLen) : Sl w lo B size (.slice A 0 c) 0 [] := ⟨by simp, _, _, rfl, Nat.zero_le _, h, fun h => by omega⟩
/-- a slice's first k elements -/
theorem Sl.upTo {w : World} {lo B size n k c : Nat} {A : Option Addr} {xs : List Value} (h : Sl w lo B size (.slice A n c) n xs) (hk : k ≤ n) : Sl w lo B size (.slice A k c) k (xs.take (k * size)) := by
  obtain ⟨A', c', e, h1, h2, h3⟩ := h.at_
  cases e
  have hl := h.len
  have hm : k * size ≤ n * size := Nat.mul_le_mul_right _ hk
  refine ⟨by rw [List.length_take]; omega, _, _, rfl, by omega, h2, fun hn => ?_⟩
  obtain ⟨b, o, e, h4, h5, h6⟩ := h3 (by omega)
  exact ⟨b, o, e, h4, h5, fun j hj => by rw [h6 j (by omega), List.getElem?_take, if_pos hj]⟩
/-- a slice from its element k on: at its very end the address stays -/
theorem Sl.onFrom {w : World} {lo B size n k c : Nat} {b o : Nat} {xs : List Value} (h : Sl w lo B size (.slice (some ⟨b, o, none⟩) n c) n xs) (hk : k ≤ n) :
    Sl w lo B size (.slice (if c = k then some ⟨b, o, none⟩ else some ⟨b, o + k * size, none⟩) (n - k) (c - k)) (n - k) (xs.drop (k * size)) := by
  obtain ⟨A', c', e, h1, h2, h3⟩ := h.at_
  cases e
  have hl := h.len
  have hm : (n - k) * size + k * size = n * size := by rw [← Nat.add_mul]; congr 1; omega
  refine ⟨by rw [List.length_drop]; omega, _, _, rfl, by omega, by omega, fun hn => ?_⟩
  obtain ⟨b', o', e, h4, h5, h6⟩ := h3 (by omega)
  cases e
  rw [if_neg (by omega)]
  exact ⟨_, _, rfl, h4, h5, fun j hj => by rw [Nat.add_assoc, h6 _ (by omega), List.getElem?_drop]⟩
end Go.Proofs.Ytlhpdalfnjhokaa

set_option linter.unusedSimpArgs false
namespace Go.Proofs.Ytlhpdalfnjhokaa
open Go.RowKit Go.Maps
namespace Sk
open It Al Kp
attribute [local go_sem] Oper.semAt_some
/-- a good put among others, which rise -/
def insK : List Key → Key → List Key
  | [], k => [k]
  | q :: t, k => if q < k then q :: insK t k else if q = k then q :: t else k :: q :: t
def goodsK (ss : List Stk) : List Key := ss.foldl (fun o s => (keysS s).foldl insK o) []
theorem insK_more : ∀ (l : List Key) (k : Key) (j : Nat) (hj : j ≤ l.length), (∀ i (hi : i < l.length), i < j → l[i] < k) → insK l k = l.take j ++ insK (l.drop j) k
  | l, k, 0, _, _ => by simp
  | q :: t, k, j + 1, hj, h => by
    have h0 : q < k := h 0 (by simp) (by omega)
    show (if q < k then q :: insK t k else _) = _
    rw [if_pos h0, insK_more t k j (by simpa using hj) (fun i hi hij => h (i + 1) (by simpa using hi) (by omega))]
    rfl
theorem insK_end {l : List Key} {k : Key} {j : Nat} (hj : j ≤ l.length) (h : ∀ i (hi : i < l.length), i < j → l[i] < k) (hl : ¬ j < l.length) : insK l k = l.take j ++ [k] ++ l.drop j := by
  rw [insK_more l k j hj h, List.drop_of_length_le (by omega)]
  simp [insK]
theorem insK_in {l : List Key} {k : Key} {j : Nat} (hl : j < l.length) (h : ∀ i (hi : i < l.length), i < j → l[i] < k) (h1 : ¬ l[j] < k) (h2 : l[j] ≠ k) : insK l k = l.take j ++ [k] ++ l.drop j := by
  rw [insK_more l k j (by omega) h, List.drop_eq_getElem_cons hl]
  show l.take j ++ (if l[j] < k then _ else if l[j] = k then _ else _) = _
  rw [if_neg h1, if_neg h2]
  simp
theorem insK_is {l : List Key} {k : Key} {j : Nat} (hl : j < l.length) (h : ∀ i (hi : i < l.length), i < j → l[i] < k) (h2 : l[j] = k) : insK l k = l := by
  rw [insK_more l k j (by omega) h]
  conv => rhs; rw [← List.take_append_drop j l]
  rw [List.drop_eq_getElem_cons hl]
  show l.take j ++ (if l[j] < k then _ else if l[j] = k then _ else _) = _
  rw [if_neg (by rw [h2]; exact bs_irr _), if_pos h2]
theorem insK_len (l : List Key) (k : Key) : (insK l k).length ≤ l.length + 1 := by
  induction l with
  | nil => simp [insK]
  | cons q t ih => unfold insK; split <;> (try split) <;> simp <;> omega
def strs (l : List Key) : List Value := l.map encStr
theorem strs_one (l : List Key) : ∀ y ∈ strs l, y.oneCell' = true := by
  intro y hy
  obtain ⟨k, -, rfl⟩ := List.mem_map.1 hy
  rfl
theorem str_info : (Try.prog.info? 9).map (fun i => (i.zero, i.size, i.bytes)) = some (some (.string .empty), 1, 16) := by kernel_rfl
theorem strs_get {w : World} {lo B n c : Nat} {A : Option Addr} {l : List Key} (h : Sl w lo B 1 (.slice A n c) l.length (strs l)) {i : Nat} (hi : i < l.length) : ∃ b o, A = some ⟨b, o, none⟩ ∧ b < B ∧ w.cell? ⟨b, o + i, none⟩ = some (encStr l[i]) := by
  obtain ⟨A', c', e, k1, k2, k3⟩ := h.at_
  cases e
  obtain ⟨b, o, rfl, -, hb, hc⟩ := k3 (by omega)
  refine ⟨b, o, rfl, hb, (hc i (by omega)).trans ?_⟩
  unfold strs
  rw [List.getElem?_map, List.getElem?_eq_getElem hi]
  rfl
theorem fold_len (s : List Key) : ∀ o : List Key, (s.foldl insK o).length ≤ o.length + s.length := by
  induction s with
  | nil => exact fun o => Nat.le_refl _
  | cons k t ih =>
    intro o
    have h1 := ih (insK o k)
    have h2 := insK_len o k
    rw [List.foldl_cons, List.length_cons]
    omega
set_option maxRecDepth 100000 in
set_option maxHeartbeats 16000000 in
theorem rgoods_calls (ss : List Stk) (v : Value) (w : World) (base : Nat) (h : RssAt w base v ss) (hn : ss.length ≤ 1000) (hs : ∀ s ∈ ss, s.length ≤ 1000) :
    Calls Try.prog 21 #[v] w fun e w' => (∃ u, e = .returned u ∧ w'.ownsRow w.heap.size 9 1 u (goodsK ss).length (strs (goodsK ss))) ∧ Below w.heap.size w w' := by
  have hmx := hmx
  obtain ⟨A, c, rfl, hc1, hc2⟩ := h.form
  unfold maxLen at hc2
  obtain ⟨i0, hi0, hz0⟩ := Option.map_eq_some_iff.1 str_info
  simp only [Prod.mk.injEq] at hz0
  obtain ⟨hz0, hz1, hz2⟩ := hz0
  have HZ := Lib.hid (And.intro hi0 (And.intro hz0 (And.intro hz1 hz2)))
  have HH := Lib.hid h
  have HSS := Lib.hid hs
  clear hi0 hz0 hz1 hz2 h hs
  go_enter Try.func21, Try.ntmps21
  go_wp2
  go_loopw [3, 4, 5, 6, 7] (fun v i _ _ _ W => ∃ (j : Nat) (out : List Key), j ≤ ss.length ∧ i = .int .i64 j ∧ out = goodsK (ss.take j) ∧ out.length ≤ 1000 * j ∧ W.ownsRow w.heap.size 9 1 v out.length (strs out) ∧ Below w.heap.size w W) (fun _ i _ _ _ _ => ss.length - (intOf i).toNat)
  case atStart => exact ⟨0, [], by omega, rfl, rfl, by simp, World.ownsRow_nil _ _ _ _, Below.refl _ _⟩
  case round =>
    obtain ⟨i, out, hi, rfl, hout, hol, hown, hB⟩ := hrel
    have HO := Lib.hid hout
    have HB := Lib.hid hB
    clear hout hB
    by_cases hlt : i < ss.length
    · have hd : decide ((i : Int) < (ss.length : Int)) = true := by simp; omega
      have HGN := Lib.hid (show goodsK (ss.take (i + 1)) = (keysS ss[i]).foldl insK out by rw [List.take_succ_eq_append_getElem hlt, HO.out]; unfold goodsK; rw [List.foldl_append]; rfl)
      have hsl := HSS.out _ (List.getElem_mem hlt)
      obtain ⟨pb, po, x, e, hpb, hcell, hx⟩ := HH.out.cellAt hlt
      cases e
      generalize ss[i] = s at *
      have HX := Lib.hid hx
      have HC := Lib.hid hcell
      have HG0 := Lib.hid (show ∀ k : Nat, (keysS s).length = s.length from fun _ => by unfold keysS; simp)
      clear hx hcell HO
      generalize hw1 : wr = w1 at *
      clear hw1
      go_wp2
      go_loopw [3, 5, 6, 7] (fun v i2 _ _ W => ∃ (k : Nat) (o2 : List Key), k ≤ s.length ∧ i2 = .int .i64 k ∧ o2 = (keysS (s.take k)).foldl insK out ∧ o2.length ≤ 1000 * i + k ∧ W.ownsRow w.heap.size 9 1 v o2.length (strs o2) ∧ Below w.heap.size w W) (fun _ i2 _ _ _ => s.length - (intOf i2).toNat)
      case atStart => exact ⟨0, out, by omega, rfl, rfl, by omega, hown, HB.out⟩
      case round =>
        clear hown HB
        obtain ⟨k, o2, hk, rfl, ho2, hol2, hown, hB⟩ := hrel
        have HO := Lib.hid ho2
        have HB := Lib.hid hB
        have hck := (hB.cell (p := ⟨pb, po + i, none⟩) hpb).trans HC.out
        have hxr := HX.out.same hB
        obtain ⟨vr, hOx, hRx⟩ := hxr.ob
        obtain ⟨A0, c0, rfl, hc3, hc4⟩ := hRx.form
        unfold maxLen at hc4
        have hxc := hOx.cell (j := 0) (v := .slice A0 s.length c0) rfl
        clear ho2 hB hOx hxr
        by_cases hlt2 : k < s.length
        · have hd2 : decide ((k : Int) < (s.length : Int)) = true := by simp; omega
          obtain ⟨gb, rfl, -, hgb, hrr⟩ := hRx.cellAt hlt2
          have q0 := hrr 0 _ rfl
          rw [Nat.add_zero] at q0
          have HOS := Lib.hid (show (keysS (s.take (k + 1))).foldl insK out = insK o2 s[k].1 by rw [List.take_succ_eq_append_getElem hlt2, HO.out]; unfold keysS; rw [List.map_append, List.foldl_append]; rfl)
          clear hrr hRx
          generalize s[k].1 = q at *
          have hsl3 := Sl.of_own hown
          obtain ⟨A3, c3, rfl, hc5, hc6, -⟩ := hsl3.at_
          unfold maxLen at hc6
          go_wp2
          go_loop [7] (fun a => ∃ j : Nat, j ≤ o2.length ∧ a = .int .i64 j ∧ ∀ m (hm : m < o2.length), m < j → o2[m] < q) (fun a => o2.length - (intOf a).toNat)
          case atStart => exact ⟨0, by omega, rfl, fun m hm h => by omega⟩
          case round =>
            obtain ⟨j, hj, rfl, hN⟩ := hrel
            have HN := Lib.hid hN
            clear hN
            by_cases hlt3 : j < o2.length
            · have hd3 : decide ((j : Int) < (o2.length : Int)) = true := by simp; omega
              obtain ⟨b3, o3, e, hb3, hcj⟩ := strs_get hsl3 hlt3
              cases e
              have hcj : wr.cell? ⟨b3, o3 + j, none⟩ = some (.string ⟨o2[j].toArray⟩) := hcj
              have HLE := Lib.hid (less_eq o2[j] q)
              have HEQ := Lib.hid (show (o2[j] == q) = decide (o2[j] = q) by rw [Bool.eq_iff_iff]; simp)
              have HMORE := Lib.hid (fun (h : o2[j] < q) m (hm : m < o2.length) (hmj : m < j + 1) => show o2[m] < q from by
                rcases Nat.lt_or_ge m j with h1 | h1
                · exact HN.out m hm h1
                · obtain rfl : m = j := by omega
                  exact h)
              have HIN := Lib.hid (fun h1 h2 => insK_in hlt3 HN.out h1 h2)
              have HIS := Lib.hid (fun h2 => insK_is hlt3 HN.out h2)
              generalize o2[j] = y at *
              cases hlb : Op.bytesLess y q with
              | true =>
                have HM2 := Lib.hid (HMORE.out (by have := HLE.out; rw [hlb] at this; simpa using this.symm))
                clear HMORE HIN HIS
                go_wp2
                go_round
                case rel => exact ⟨j + 1, by omega, by go_num, HM2.out⟩
                case measure => simp [intOf]; omega
              | false =>
                have h1 : ¬ y < q := by have := HLE.out; rw [hlb] at this; simpa using this.symm
                cases heq : (y == q) with
                | true =>
                  have HI2 := Lib.hid (HIS.out (by simpa using heq))
                  have HB2 := HB
                  clear HMORE HIN HIS h1
                  go_wp2
                  go_roundw
                  case rel => exact ⟨k + 1, o2, by omega, by go_num, by rw [HOS.out, HI2.out], by omega, hown, HB2.out⟩
                  case measure => simp [intOf]; omega
                | false =>
                  have HI2 := Lib.hid (HIN.out h1 (by simpa using heq))
                  clear HMORE HIN HIS h1 HLE HEQ
                  go_wp2_with fail
                  have hown0 := hown
                  have hj0 := hj
                  have HOWL := Lib.hid (show (insK o2 q).length = o2.length + 1 by rw [HI2.out]; simp; omega)
                  have HST := Lib.hid (show [] ++ (strs o2).take (j * 1) ++ [.string ⟨q.toArray⟩] ++ (strs o2).drop (j * 1) = strs (insK o2 q) by rw [HI2.out, Nat.mul_one]; unfold strs; simp [encStr])
                  have HP := Lib.hid (fun W (h : Below wr.heap.size wr W) => ((hsl3.below h).wide (lo' := 0) (Nat.zero_le _) (Nat.le_refl _)).upTo hj)
                  have HQ := Lib.hid (fun W (h : Below wr.heap.size wr W) => ((hsl3.below h).wide (lo' := 0) (Nat.zero_le _) (Nat.le_refl _)).onFrom hj)
                  have hkc1 : ((0 : Int) ≤ (j : Int)) := by omega
                  have hkc2 : ((j : Int) ≤ (o2.length : Int)) := by omega
                  have hkc3 : ((j : Int) ≤ (c3 : Int)) := by omega
                  have hkc4 : ((o2.length : Int) ≤ (c3 : Int)) := by omega
                  obtain ⟨hi0, hz0, hz1, hz2⟩ := HZ.out
                  have HSL3 := Lib.hid hsl3
                  have HB0 := HB
                  clear hown hsl3 hown0
                  have own1 : (wr.alloc (.cells #[] 9)).drew.ownsRow wr.heap.size 9 1 (.slice (some ⟨wr.heap.size, 0, none⟩) 0 0) 0 [] := World.ownsRow_lit wr #[] 0 (Nat.le_refl _) (Nat.zero_le _) rfl
                  have own2 : ((wr.alloc (.cells #[] 9)).alloc (.cells #[.string ⟨q.toArray⟩] 9)).drew.ownsRow wr.heap.size 9 1 (.slice (some ⟨wr.heap.size, 0, none⟩) 0 0) 0 [] := (World.ownsRow_lit (size := 1) (base := wr.heap.size) (e := 9) wr #[] 0 (Nat.le_refl _) (Nat.zero_le _) rfl).alloc _
                  have own3 : ((wr.alloc (.cells #[.string ⟨q.toArray⟩] 9)).alloc (.cells #[] 9)).drew.ownsRow wr.heap.size 9 1 (.slice (some ⟨wr.heap.size + 1, 0, none⟩) 0 0) 0 [] := by
                    have := World.ownsRow_lit (size := 1) (base := wr.heap.size) (e := 9) (wr.alloc (.cells #[.string ⟨q.toArray⟩] 9)) #[] 0 (by simp) (Nat.zero_le _) rfl
                    rwa [World.size_alloc] at this
                  have bb1 : Below wr.heap.size wr (wr.alloc (.cells #[] 9)).drew := ((Below.refl _ wr).alloc (Nat.le_refl _) _).drew
                  have bb2 : Below wr.heap.size wr ((wr.alloc (.cells #[] 9)).alloc (.cells #[.string ⟨q.toArray⟩] 9)).drew := (((Below.refl _ wr).alloc (Nat.le_refl _) _).alloc (by simp) _).drew
                  have bb3 : Below wr.heap.size wr ((wr.alloc (.cells #[.string ⟨q.toArray⟩] 9)).alloc (.cells #[] 9)).drew := (((Below.refl _ wr).alloc (Nat.le_refl _) _).alloc (by simp) _).drew
                  have sl2 : Sl ((wr.alloc (.cells #[] 9)).alloc (.cells #[.string ⟨q.toArray⟩] 9)).drew (wr.heap.size + 1) (wr.heap.size + 1 + 1) 1 (.slice (some ⟨wr.heap.size + 1, 0, none⟩) 1 1) 1 [.string ⟨q.toArray⟩] := by
                    have := Sl.new (wr.alloc (.cells #[] 9)) #[.string ⟨q.toArray⟩] 9 (n := 1) (size := 1) rfl (by unfold maxLen; omega)
                    rw [World.size_alloc] at this
                    exact this.below (Below.refl _ _).drew
                  have sl3 : Sl ((wr.alloc (.cells #[.string ⟨q.toArray⟩] 9)).alloc (.cells #[] 9)).drew wr.heap.size (wr.heap.size + 1) 1 (.slice (some ⟨wr.heap.size, 0, none⟩) 1 1) 1 [.string ⟨q.toArray⟩] :=
                    (Sl.new wr #[.string ⟨q.toArray⟩] 9 (n := 1) (size := 1) rfl (by unfold maxLen; omega)).below (((Below.refl (wr.heap.size + 1) (wr.alloc (.cells #[.string ⟨q.toArray⟩] 9))).alloc (Nat.le_of_eq (World.size_alloc _ _).symm) _).drew)
                  have G1 := Lib.hid (show ∀ w1 : World, (wr.alloc (.cells #[] 9)).drew.grownBy w1 (some wr.heap.size) → Below wr.heap.size wr w1 from fun w1 hg => bb1.grown hg bb1.size (fun g hg => by cases hg; exact Nat.le_refl _))
                  have G2 := Lib.hid (show ∀ w1 : World, ((wr.alloc (.cells #[] 9)).alloc (.cells #[.string ⟨q.toArray⟩] 9)).drew.grownBy w1 (some wr.heap.size) → Below wr.heap.size wr w1 ∧ Sl w1 (wr.heap.size + 1) (wr.heap.size + 1 + 1) 1 (.slice (some ⟨wr.heap.size + 1, 0, none⟩) 1 1) 1 [.string ⟨q.toArray⟩] from fun w1 hg => ⟨bb2.grown hg bb2.size (fun g hg => by cases hg; exact Nat.le_refl _), sl2.grown hg (by simp [World.drew]) (fun r hr => by cases hr; exact .inl (Nat.lt_succ_self _))⟩)
                  have G3 := Lib.hid (show ∀ w1 : World, ((wr.alloc (.cells #[.string ⟨q.toArray⟩] 9)).alloc (.cells #[] 9)).drew.grownBy w1 (some (wr.heap.size + 1)) → Below wr.heap.size wr w1 ∧ Sl w1 wr.heap.size (wr.heap.size + 1) 1 (.slice (some ⟨wr.heap.size, 0, none⟩) 1 1) 1 [.string ⟨q.toArray⟩] from fun w1 hg => ⟨bb3.grown hg bb3.size (fun g hg => by cases hg; exact Nat.le_succ _), sl3.grown hg (by simp [World.drew]) (fun r hr => by cases hr; exact .inr (Nat.le_refl _))⟩)
                  have OP := Lib.hid (show ∀ y ∈ ((strs o2).take (j * 1) : List Value), y.oneCell' = true from (fun y hy => strs_one o2 y (List.mem_of_mem_take hy)))
                  have OQ := Lib.hid (show ∀ y ∈ ((strs o2).drop (j * 1) : List Value), y.oneCell' = true from (fun y hy => strs_one o2 y (List.mem_of_mem_drop hy)))
                  have OX := Lib.hid (show ∀ y ∈ ([.string ⟨q.toArray⟩] : List Value), y.oneCell' = true from (by simp [Value.oneCell']))
                  have m1 : 0 + (j) ≤ maxLen := by unfold maxLen; omega
                  have m2 : 0 + (j) + 1 ≤ maxLen := by unfold maxLen; omega
                  have m3 : 0 + (j) + 1 + (o2.length - j) ≤ maxLen := by unfold maxLen; omega
                  have q1 : (0 + (j)) * 16 ≤ 140737488355328 := by omega
                  have q2 : (0 + (j) + 1) * 16 ≤ 140737488355328 := by omega
                  have q3 : (0 + (j) + 1 + (o2.length - j)) * 16 ≤ 140737488355328 := by omega
                  have M1 := Lib.hid m1; have M2 := Lib.hid m2; have M3 := Lib.hid m3; have Q1 := Lib.hid q1; have Q2 := Lib.hid q2; have Q3 := Lib.hid q3
                  have OW1 := Lib.hid own1; have OW2 := Lib.hid own2; have OW3 := Lib.hid own3; have BB1 := Lib.hid bb1; have BB2 := Lib.hid bb2; have BB3 := Lib.hid bb3
                  clear m1 m2 m3 q1 q2 q3 own1 own2 own3 bb1 bb2 bb3 sl2 sl3
                  go_region_law (first
                    | ((with_reducible refine step_append_sl _ (o := ⟨some 67, _, _, _, _, _⟩) ?_ (.tmp 63) (.tmp 66) 49 ?_ wr.heap.size 9 i0 _ 1 16 Try.underlying49 hi0 hz0 hz1 hz2 ?_ (by omega) _ 0 [] ?_ OW1.out 0 wr.heap.size _ ((j)) ((strs o2).take (j * 1)) ?_ (HP.out _ BB1.out) OP.out M1.out Q1.out BB1.out.size ?_)
                       rfl; rfl; rfl; (simp [Act.eval]); (simp [Act.eval])
                       intro v1 w1 hv1 hg1 hat1
                       have hB1 := G1.out _ hg1; clear hg1 hat1)
                    | ((with_reducible refine step_append_sl _ (o := ⟨some 67, _, _, _, _, _⟩) ?_ (.tmp 63) (.tmp 66) 49 ?_ wr.heap.size 9 i0 _ 1 16 Try.underlying49 hi0 hz0 hz1 hz2 ?_ (by omega) _ 0 [] ?_ OW2.out 0 wr.heap.size _ ((j)) ((strs o2).take (j * 1)) ?_ (HP.out _ BB2.out) OP.out M1.out Q1.out BB2.out.size ?_)
                       rfl; rfl; rfl; (simp [Act.eval]); (simp [Act.eval])
                       intro v1 w1 hv1 hg1 hat1
                       have hB1 := (G2.out _ hg1).1; have hs54 := (G2.out _ hg1).2; clear hg1 hat1)
                    | ((with_reducible refine step_append_sl _ (o := ⟨some 67, _, _, _, _, _⟩) ?_ (.tmp 63) (.tmp 66) 49 ?_ wr.heap.size 9 i0 _ 1 16 Try.underlying49 hi0 hz0 hz1 hz2 ?_ (by omega) _ 0 [] ?_ OW3.out 0 wr.heap.size _ ((j)) ((strs o2).take (j * 1)) ?_ (HP.out _ BB3.out) OP.out M1.out Q1.out BB3.out.size ?_)
                       rfl; rfl; rfl; (simp [Act.eval]); (simp [Act.eval])
                       intro v1 w1 hv1 hg1 hat1
                       have hB1 := (G3.out _ hg1).1; have hs54 := (G3.out _ hg1).2; clear hg1 hat1)
                    | ((with_reducible refine step_append_sl _ (o := ⟨some 70, _, _, _, _, _⟩) ?_ (.tmp 67) (.tmp 69) 49 ?_ wr.heap.size 9 i0 _ 1 16 Try.underlying49 hi0 hz0 hz1 hz2 ?_ (by omega) _ (0 + (j)) _ ?_ hv1 _ _ _ 1 [.string ⟨q.toArray⟩] ?_ hs54 OX.out M2.out Q2.out hB1.size ?_)
                       rfl; rfl; rfl; (simp [Act.eval]); (simp [Act.eval])
                       intro v2 w2 hv2 hg2 hat2
                       have hB2 : Below wr.heap.size wr w2 := hB1.grown hg2 hB1.size (fun g hg => (hv1.lt g hg).1); clear hg2 hat2 hv1 hs54)
                    | ((with_reducible refine step_append_sl _ (o := ⟨some 70, _, _, _, _, _⟩) ?_ (.tmp 67) (.tmp 69) 49 ?_ wr.heap.size 9 i0 _ 1 16 Try.underlying49 hi0 hz0 hz1 hz2 ?_ (by omega) _ (0 + (j)) _ ?_ (hv1.alloc _) _ _ _ 1 [.string ⟨q.toArray⟩] ?_ (Sl.new w1 #[.string ⟨q.toArray⟩] 9 (n := 1) (size := 1) rfl (Nat.le_trans (Nat.le_add_left _ _) M2.out)) OX.out M2.out Q2.out (hB1.alloc hB1.size _).size ?_)
                       rfl; rfl; rfl; (simp [Act.eval]); (simp [Act.eval])
                       intro v2 w2 hv2 hg2 hat2
                       have hB2 : Below wr.heap.size wr w2 := (hB1.alloc hB1.size _).grown hg2 (hB1.alloc hB1.size _).size (fun g hg => (hv1.lt g hg).1); clear hg2 hat2 hv1)
                    | ((with_reducible refine step_append_sl _ (o := ⟨some 74, _, _, _, _, _⟩) ?_ (.tmp 70) (.tmp 73) 49 ?_ wr.heap.size 9 i0 _ 1 16 Try.underlying49 hi0 hz0 hz1 hz2 ?_ (by omega) _ (0 + (j) + 1) _ ?_ hv2 0 wr.heap.size _ ((o2.length - j)) ((strs o2).drop (j * 1)) ?_ (HQ.out _ hB2) OQ.out M3.out Q3.out hB2.size ?_)
                       rfl; rfl; rfl; (simp [Act.eval]); (simp [Act.eval])
                       intro v3 w3 hv3 hg3 hat3
                       have hB3 : Below wr.heap.size wr w3 := hB2.grown hg3 hB2.size (fun g hg => (hv2.lt g hg).1); clear hg3 hat3 hv2 hB2))
                  all_goals
                    rw [HST.out, show 0 + j + 1 + (o2.length - j) = (insK o2 q).length by rw [HOWL.out]; omega] at hv3
                    have hB9 := HB0.out.trans (hB3.mono HB0.out.size)
                    have hv9 := row_mono hv3 HB0.out.size
                    have hl9 := HOWL.out
                    clear hv3 hB3
                    go_wp2
                    go_roundw
                    case rel => exact ⟨k + 1, insK o2 q, by omega, by go_num, by rw [HOS.out], by omega, hv9, hB9⟩
                    case measure => simp [intOf]; omega
            · have HI2 := Lib.hid (insK_end hj HN.out hlt3)
              have hd3 : decide ((j : Int) < (o2.length : Int)) = false := by simp; omega
              rcases hown.2 with ⟨e, e0⟩ | ⟨g3, cap3, cur3, e, -⟩
              · obtain rfl : o2 = [] := List.eq_nil_of_length_eq_zero e0
                simp only [List.length_nil] at e
                cases e
                obtain rfl : j = 0 := by simp at hj; omega
                have HIQ := Lib.hid (show insK [] q = [q] from rfl)
                have HST := Lib.hid (show ([] ++ [] ++ [.string ⟨q.toArray⟩] ++ [] : List Value) = strs [q] from rfl)
                obtain ⟨hi0, hz0, hz1, hz2⟩ := HZ.out
                have HB0 := HB
                clear hown hsl3 hlt3 hd3 HN HI2
                simp only [List.length_nil, Int.natCast_zero]
                go_wp2_with fail
                have own1 : (wr.alloc (.cells #[] 9)).drew.ownsRow wr.heap.size 9 1 (.slice (some ⟨wr.heap.size, 0, none⟩) 0 0) 0 [] := World.ownsRow_lit wr #[] 0 (Nat.le_refl _) (Nat.zero_le _) rfl
                have own2 : ((wr.alloc (.cells #[] 9)).alloc (.cells #[.string ⟨q.toArray⟩] 9)).drew.ownsRow wr.heap.size 9 1 (.slice (some ⟨wr.heap.size, 0, none⟩) 0 0) 0 [] := (World.ownsRow_lit (size := 1) (base := wr.heap.size) (e := 9) wr #[] 0 (Nat.le_refl _) (Nat.zero_le _) rfl).alloc _
                have own3 : ((wr.alloc (.cells #[.string ⟨q.toArray⟩] 9)).alloc (.cells #[] 9)).drew.ownsRow wr.heap.size 9 1 (.slice (some ⟨wr.heap.size + 1, 0, none⟩) 0 0) 0 [] := by
                  have := World.ownsRow_lit (size := 1) (base := wr.heap.size) (e := 9) (wr.alloc (.cells #[.string ⟨q.toArray⟩] 9)) #[] 0 (by simp) (Nat.zero_le _) rfl
                  rwa [World.size_alloc] at this
                have bb1 : Below wr.heap.size wr (wr.alloc (.cells #[] 9)).drew := ((Below.refl _ wr).alloc (Nat.le_refl _) _).drew
                have bb2 : Below wr.heap.size wr ((wr.alloc (.cells #[] 9)).alloc (.cells #[.string ⟨q.toArray⟩] 9)).drew := (((Below.refl _ wr).alloc (Nat.le_refl _) _).alloc (by simp) _).drew
                have bb3 : Below wr.heap.size wr ((wr.alloc (.cells #[.string ⟨q.toArray⟩] 9)).alloc (.cells #[] 9)).drew := (((Below.refl _ wr).alloc (Nat.le_refl _) _).alloc (by simp) _).drew
                have sl2 : Sl ((wr.alloc (.cells #[] 9)).alloc (.cells #[.string ⟨q.toArray⟩] 9)).drew (wr.heap.size + 1) (wr.heap.size + 1 + 1) 1 (.slice (some ⟨wr.heap.size + 1, 0, none⟩) 1 1) 1 [.string ⟨q.toArray⟩] := by
                  have := Sl.new (wr.alloc (.cells #[] 9)) #[.string ⟨q.toArray⟩] 9 (n := 1) (size := 1) rfl (by unfold maxLen; omega)
                  rw [World.size_alloc] at this
                  exact this.below (Below.refl _ _).drew
                have sl3 : Sl ((wr.alloc (.cells #[.string ⟨q.toArray⟩] 9)).alloc (.cells #[] 9)).drew wr.heap.size (wr.heap.size + 1) 1 (.slice (some ⟨wr.heap.size, 0, none⟩) 1 1) 1 [.string ⟨q.toArray⟩] :=
                  (Sl.new wr #[.string ⟨q.toArray⟩] 9 (n := 1) (size := 1) rfl (by unfold maxLen; omega)).below (((Below.refl (wr.heap.size + 1) (wr.alloc (.cells #[.string ⟨q.toArray⟩] 9))).alloc (Nat.le_of_eq (World.size_alloc _ _).symm) _).drew)
                have G1 := Lib.hid (show ∀ w1 : World, (wr.alloc (.cells #[] 9)).drew.grownBy w1 (some wr.heap.size) → Below wr.heap.size wr w1 from fun w1 hg => bb1.grown hg bb1.size (fun g hg => by cases hg; exact Nat.le_refl _))
                have G2 := Lib.hid (show ∀ w1 : World, ((wr.alloc (.cells #[] 9)).alloc (.cells #[.string ⟨q.toArray⟩] 9)).drew.grownBy w1 (some wr.heap.size) → Below wr.heap.size wr w1 ∧ Sl w1 (wr.heap.size + 1) (wr.heap.size + 1 + 1) 1 (.slice (some ⟨wr.heap.size + 1, 0, none⟩) 1 1) 1 [.string ⟨q.toArray⟩] from fun w1 hg => ⟨bb2.grown hg bb2.size (fun g hg => by cases hg; exact Nat.le_refl _), sl2.grown hg (by simp [World.drew]) (fun r hr => by cases hr; exact .inl (Nat.lt_succ_self _))⟩)
                have G3 := Lib.hid (show ∀ w1 : World, ((wr.alloc (.cells #[.string ⟨q.toArray⟩] 9)).alloc (.cells #[] 9)).drew.grownBy w1 (some (wr.heap.size + 1)) → Below wr.heap.size wr w1 ∧ Sl w1 wr.heap.size (wr.heap.size + 1) 1 (.slice (some ⟨wr.heap.size, 0, none⟩) 1 1) 1 [.string ⟨q.toArray⟩] from fun w1 hg => ⟨bb3.grown hg bb3.size (fun g hg => by cases hg; exact Nat.le_succ _), sl3.grown hg (by simp [World.drew]) (fun r hr => by cases hr; exact .inr (Nat.le_refl _))⟩)
                have OP := Lib.hid (show ∀ y ∈ (([] : List Value) : List Value), y.oneCell' = true from (by simp))
                have OQ := Lib.hid (show ∀ y ∈ (([] : List Value) : List Value), y.oneCell' = true from (by simp))
                have OX := Lib.hid (show ∀ y ∈ ([.string ⟨q.toArray⟩] : List Value), y.oneCell' = true from (by simp [Value.oneCell']))
                have m1 : 0 + (0) ≤ maxLen := by unfold maxLen; omega
                have m2 : 0 + (0) + 1 ≤ maxLen := by unfold maxLen; omega
                have m3 : 0 + (0) + 1 + (0) ≤ maxLen := by unfold maxLen; omega
                have q1 : (0 + (0)) * 16 ≤ 140737488355328 := by omega
                have q2 : (0 + (0) + 1) * 16 ≤ 140737488355328 := by omega
                have q3 : (0 + (0) + 1 + (0)) * 16 ≤ 140737488355328 := by omega
                have M1 := Lib.hid m1; have M2 := Lib.hid m2; have M3 := Lib.hid m3; have Q1 := Lib.hid q1; have Q2 := Lib.hid q2; have Q3 := Lib.hid q3
                have OW1 := Lib.hid own1; have OW2 := Lib.hid own2; have OW3 := Lib.hid own3; have BB1 := Lib.hid bb1; have BB2 := Lib.hid bb2; have BB3 := Lib.hid bb3
                clear m1 m2 m3 q1 q2 q3 own1 own2 own3 bb1 bb2 bb3 sl2 sl3
                go_region_law (first
                  | ((with_reducible refine step_append_sl _ (o := ⟨some 67, _, _, _, _, _⟩) ?_ (.tmp 63) (.tmp 66) 49 ?_ wr.heap.size 9 i0 _ 1 16 Try.underlying49 hi0 hz0 hz1 hz2 ?_ (by omega) _ 0 [] ?_ OW1.out 0 wr.heap.size _ ((0)) (([] : List Value)) ?_ ((fun _ => Sl.nil _ _ _ _) BB1.out) OP.out M1.out Q1.out BB1.out.size ?_)
                     rfl; rfl; rfl; (simp [Act.eval]); (simp [Act.eval])
                     intro v1 w1 hv1 hg1 hat1
                     have hB1 := G1.out _ hg1; clear hg1 hat1)
                  | ((with_reducible refine step_append_sl _ (o := ⟨some 67, _, _, _, _, _⟩) ?_ (.tmp 63) (.tmp 66) 49 ?_ wr.heap.size 9 i0 _ 1 16 Try.underlying49 hi0 hz0 hz1 hz2 ?_ (by omega) _ 0 [] ?_ OW2.out 0 wr.heap.size _ ((0)) (([] : List Value)) ?_ ((fun _ => Sl.nil _ _ _ _) BB2.out) OP.out M1.out Q1.out BB2.out.size ?_)
                     rfl; rfl; rfl; (simp [Act.eval]); (simp [Act.eval])
                     intro v1 w1 hv1 hg1 hat1
                     have hB1 := (G2.out _ hg1).1; have hs54 := (G2.out _ hg1).2; clear hg1 hat1)
                  | ((with_reducible refine step_append_sl _ (o := ⟨some 67, _, _, _, _, _⟩) ?_ (.tmp 63) (.tmp 66) 49 ?_ wr.heap.size 9 i0 _ 1 16 Try.underlying49 hi0 hz0 hz1 hz2 ?_ (by omega) _ 0 [] ?_ OW3.out 0 wr.heap.size _ ((0)) (([] : List Value)) ?_ ((fun _ => Sl.nil _ _ _ _) BB3.out) OP.out M1.out Q1.out BB3.out.size ?_)
                     rfl; rfl; rfl; (simp [Act.eval]); (simp [Act.eval])
                     intro v1 w1 hv1 hg1 hat1
                     have hB1 := (G3.out _ hg1).1; have hs54 := (G3.out _ hg1).2; clear hg1 hat1)
                  | ((with_reducible refine step_append_sl _ (o := ⟨some 70, _, _, _, _, _⟩) ?_ (.tmp 67) (.tmp 69) 49 ?_ wr.heap.size 9 i0 _ 1 16 Try.underlying49 hi0 hz0 hz1 hz2 ?_ (by omega) _ (0 + (0)) _ ?_ hv1 _ _ _ 1 [.string ⟨q.toArray⟩] ?_ hs54 OX.out M2.out Q2.out hB1.size ?_)
                     rfl; rfl; rfl; (simp [Act.eval]); (simp [Act.eval])
                     intro v2 w2 hv2 hg2 hat2
                     have hB2 : Below wr.heap.size wr w2 := hB1.grown hg2 hB1.size (fun g hg => (hv1.lt g hg).1); clear hg2 hat2 hv1 hs54)
                  | ((with_reducible refine step_append_sl _ (o := ⟨some 70, _, _, _, _, _⟩) ?_ (.tmp 67) (.tmp 69) 49 ?_ wr.heap.size 9 i0 _ 1 16 Try.underlying49 hi0 hz0 hz1 hz2 ?_ (by omega) _ (0 + (0)) _ ?_ (hv1.alloc _) _ _ _ 1 [.string ⟨q.toArray⟩] ?_ (Sl.new w1 #[.string ⟨q.toArray⟩] 9 (n := 1) (size := 1) rfl (Nat.le_trans (Nat.le_add_left _ _) M2.out)) OX.out M2.out Q2.out (hB1.alloc hB1.size _).size ?_)
                     rfl; rfl; rfl; (simp [Act.eval]); (simp [Act.eval])
                     intro v2 w2 hv2 hg2 hat2
                     have hB2 : Below wr.heap.size wr w2 := (hB1.alloc hB1.size _).grown hg2 (hB1.alloc hB1.size _).size (fun g hg => (hv1.lt g hg).1); clear hg2 hat2 hv1)
                  | ((with_reducible refine step_append_sl _ (o := ⟨some 74, _, _, _, _, _⟩) ?_ (.tmp 70) (.tmp 73) 49 ?_ wr.heap.size 9 i0 _ 1 16 Try.underlying49 hi0 hz0 hz1 hz2 ?_ (by omega) _ (0 + (0) + 1) _ ?_ hv2 0 wr.heap.size _ ((0)) (([] : List Value)) ?_ ((fun _ => Sl.nil _ _ _ _) hB2) OQ.out M3.out Q3.out hB2.size ?_)
                     rfl; rfl; rfl; (simp [Act.eval]); (simp [Act.eval])
                     intro v3 w3 hv3 hg3 hat3
                     have hB3 : Below wr.heap.size wr w3 := hB2.grown hg3 hB2.size (fun g hg => (hv2.lt g hg).1); clear hg3 hat3 hv2 hB2))
                all_goals
                  have hv4 : w3.ownsRow wr.heap.size 9 1 v3 [q].length (strs [q]) := hv3
                  have hB9 := HB0.out.trans (hB3.mono HB0.out.size)
                  have hv9 := row_mono hv4 HB0.out.size
                  clear hv3 hB3 hv4
                  go_wp2
                  go_roundw
                  case rel => exact ⟨k + 1, [q], by omega, by go_num, by rw [HOS.out, HIQ.out], by simp; omega, hv9, hB9⟩
                  case measure => simp [intOf]; omega
              · cases e
                go_wp2_with fail
                have hown0 := hown
                have hj0 := hj
                have HOWL := Lib.hid (show (insK o2 q).length = o2.length + 1 by rw [HI2.out]; simp; omega)
                have HST := Lib.hid (show [] ++ (strs o2).take (j * 1) ++ [.string ⟨q.toArray⟩] ++ (strs o2).drop (j * 1) = strs (insK o2 q) by rw [HI2.out, Nat.mul_one]; unfold strs; simp [encStr])
                have HP := Lib.hid (fun W (h : Below wr.heap.size wr W) => ((hsl3.below h).wide (lo' := 0) (Nat.zero_le _) (Nat.le_refl _)).upTo hj)
                have HQ := Lib.hid (fun W (h : Below wr.heap.size wr W) => ((hsl3.below h).wide (lo' := 0) (Nat.zero_le _) (Nat.le_refl _)).onFrom hj)
                have hkc1 : ((0 : Int) ≤ (j : Int)) := by omega
                have hkc2 : ((j : Int) ≤ (o2.length : Int)) := by omega
                have hkc3 : ((j : Int) ≤ (c3 : Int)) := by omega
                have hkc4 : ((o2.length : Int) ≤ (c3 : Int)) := by omega
                obtain ⟨hi0, hz0, hz1, hz2⟩ := HZ.out
                have HSL3 := Lib.hid hsl3
                have HB0 := HB
                clear hown hsl3 hown0
                have own1 : (wr.alloc (.cells #[] 9)).drew.ownsRow wr.heap.size 9 1 (.slice (some ⟨wr.heap.size, 0, none⟩) 0 0) 0 [] := World.ownsRow_lit wr #[] 0 (Nat.le_refl _) (Nat.zero_le _) rfl
                have own2 : ((wr.alloc (.cells #[] 9)).alloc (.cells #[.string ⟨q.toArray⟩] 9)).drew.ownsRow wr.heap.size 9 1 (.slice (some ⟨wr.heap.size, 0, none⟩) 0 0) 0 [] := (World.ownsRow_lit (size := 1) (base := wr.heap.size) (e := 9) wr #[] 0 (Nat.le_refl _) (Nat.zero_le _) rfl).alloc _
                have own3 : ((wr.alloc (.cells #[.string ⟨q.toArray⟩] 9)).alloc (.cells #[] 9)).drew.ownsRow wr.heap.size 9 1 (.slice (some ⟨wr.heap.size + 1, 0, none⟩) 0 0) 0 [] := by
                  have := World.ownsRow_lit (size := 1) (base := wr.heap.size) (e := 9) (wr.alloc (.cells #[.string ⟨q.toArray⟩] 9)) #[] 0 (by simp) (Nat.zero_le _) rfl
                  rwa [World.size_alloc] at this
                have bb1 : Below wr.heap.size wr (wr.alloc (.cells #[] 9)).drew := ((Below.refl _ wr).alloc (Nat.le_refl _) _).drew
                have bb2 : Below wr.heap.size wr ((wr.alloc (.cells #[] 9)).alloc (.cells #[.string ⟨q.toArray⟩] 9)).drew := (((Below.refl _ wr).alloc (Nat.le_refl _) _).alloc (by simp) _).drew
                have bb3 : Below wr.heap.size wr ((wr.alloc (.cells #[.string ⟨q.toArray⟩] 9)).alloc (.cells #[] 9)).drew := (((Below.refl _ wr).alloc (Nat.le_refl _) _).alloc (by simp) _).drew
                have sl2 : Sl ((wr.alloc (.cells #[] 9)).alloc (.cells #[.string ⟨q.toArray⟩] 9)).drew (wr.heap.size + 1) (wr.heap.size + 1 + 1) 1 (.slice (some ⟨wr.heap.size + 1, 0, none⟩) 1 1) 1 [.string ⟨q.toArray⟩] := by
                  have := Sl.new (wr.alloc (.cells #[] 9)) #[.string ⟨q.toArray⟩] 9 (n := 1) (size := 1) rfl (by unfold maxLen; omega)
                  rw [World.size_alloc] at this
                  exact this.below (Below.refl _ _).drew
                have sl3 : Sl ((wr.alloc (.cells #[.string ⟨q.toArray⟩] 9)).alloc (.cells #[] 9)).drew wr.heap.size (wr.heap.size + 1) 1 (.slice (some ⟨wr.heap.size, 0, none⟩) 1 1) 1 [.string ⟨q.toArray⟩] :=
                  (Sl.new wr #[.string ⟨q.toArray⟩] 9 (n := 1) (size := 1) rfl (by unfold maxLen; omega)).below (((Below.refl (wr.heap.size + 1) (wr.alloc (.cells #[.string ⟨q.toArray⟩] 9))).alloc (Nat.le_of_eq (World.size_alloc _ _).symm) _).drew)
                have G1 := Lib.hid (show ∀ w1 : World, (wr.alloc (.cells #[] 9)).drew.grownBy w1 (some wr.heap.size) → Below wr.heap.size wr w1 from fun w1 hg => bb1.grown hg bb1.size (fun g hg => by cases hg; exact Nat.le_refl _))
                have G2 := Lib.hid (show ∀ w1 : World, ((wr.alloc (.cells #[] 9)).alloc (.cells #[.string ⟨q.toArray⟩] 9)).drew.grownBy w1 (some wr.heap.size) → Below wr.heap.size wr w1 ∧ Sl w1 (wr.heap.size + 1) (wr.heap.size + 1 + 1) 1 (.slice (some ⟨wr.heap.size + 1, 0, none⟩) 1 1) 1 [.string ⟨q.toArray⟩] from fun w1 hg => ⟨bb2.grown hg bb2.size (fun g hg => by cases hg; exact Nat.le_refl _), sl2.grown hg (by simp [World.drew]) (fun r hr => by cases hr; exact .inl (Nat.lt_succ_self _))⟩)
                have G3 := Lib.hid (show ∀ w1 : World, ((wr.alloc (.cells #[.string ⟨q.toArray⟩] 9)).alloc (.cells #[] 9)).drew.grownBy w1 (some (wr.heap.size + 1)) → Below wr.heap.size wr w1 ∧ Sl w1 wr.heap.size (wr.heap.size + 1) 1 (.slice (some ⟨wr.heap.size, 0, none⟩) 1 1) 1 [.string ⟨q.toArray⟩] from fun w1 hg => ⟨bb3.grown hg bb3.size (fun g hg => by cases hg; exact Nat.le_succ _), sl3.grown hg (by simp [World.drew]) (fun r hr => by cases hr; exact .inr (Nat.le_refl _))⟩)
                have OP := Lib.hid (show ∀ y ∈ ((strs o2).take (j * 1) : List Value), y.oneCell' = true from (fun y hy => strs_one o2 y (List.mem_of_mem_take hy)))
                have OQ := Lib.hid (show ∀ y ∈ ((strs o2).drop (j * 1) : List Value), y.oneCell' = true from (fun y hy => strs_one o2 y (List.mem_of_mem_drop hy)))
                have OX := Lib.hid (show ∀ y ∈ ([.string ⟨q.toArray⟩] : List Value), y.oneCell' = true from (by simp [Value.oneCell']))
                have m1 : 0 + (j) ≤ maxLen := by unfold maxLen; omega
                have m2 : 0 + (j) + 1 ≤ maxLen := by unfold maxLen; omega
                have m3 : 0 + (j) + 1 + (o2.length - j) ≤ maxLen := by unfold maxLen; omega
                have q1 : (0 + (j)) * 16 ≤ 140737488355328 := by omega
                have q2 : (0 + (j) + 1) * 16 ≤ 140737488355328 := by omega
                have q3 : (0 + (j) + 1 + (o2.length - j)) * 16 ≤ 140737488355328 := by omega
                have M1 := Lib.hid m1; have M2 := Lib.hid m2; have M3 := Lib.hid m3; have Q1 := Lib.hid q1; have Q2 := Lib.hid q2; have Q3 := Lib.hid q3
                have OW1 := Lib.hid own1; have OW2 := Lib.hid own2; have OW3 := Lib.hid own3; have BB1 := Lib.hid bb1; have BB2 := Lib.hid bb2; have BB3 := Lib.hid bb3
                clear m1 m2 m3 q1 q2 q3 own1 own2 own3 bb1 bb2 bb3 sl2 sl3
                go_region_law (first
                  | ((with_reducible refine step_append_sl _ (o := ⟨some 67, _, _, _, _, _⟩) ?_ (.tmp 63) (.tmp 66) 49 ?_ wr.heap.size 9 i0 _ 1 16 Try.underlying49 hi0 hz0 hz1 hz2 ?_ (by omega) _ 0 [] ?_ OW1.out 0 wr.heap.size _ ((j)) ((strs o2).take (j * 1)) ?_ (HP.out _ BB1.out) OP.out M1.out Q1.out BB1.out.size ?_)
                     rfl; rfl; rfl; (simp [Act.eval]); (simp [Act.eval])
                     intro v1 w1 hv1 hg1 hat1
                     have hB1 := G1.out _ hg1; clear hg1 hat1)
                  | ((with_reducible refine step_append_sl _ (o := ⟨some 67, _, _, _, _, _⟩) ?_ (.tmp 63) (.tmp 66) 49 ?_ wr.heap.size 9 i0 _ 1 16 Try.underlying49 hi0 hz0 hz1 hz2 ?_ (by omega) _ 0 [] ?_ OW2.out 0 wr.heap.size _ ((j)) ((strs o2).take (j * 1)) ?_ (HP.out _ BB2.out) OP.out M1.out Q1.out BB2.out.size ?_)
                     rfl; rfl; rfl; (simp [Act.eval]); (simp [Act.eval])
                     intro v1 w1 hv1 hg1 hat1
                     have hB1 := (G2.out _ hg1).1; have hs54 := (G2.out _ hg1).2; clear hg1 hat1)
                  | ((with_reducible refine step_append_sl _ (o := ⟨some 67, _, _, _, _, _⟩) ?_ (.tmp 63) (.tmp 66) 49 ?_ wr.heap.size 9 i0 _ 1 16 Try.underlying49 hi0 hz0 hz1 hz2 ?_ (by omega) _ 0 [] ?_ OW3.out 0 wr.heap.size _ ((j)) ((strs o2).take (j * 1)) ?_ (HP.out _ BB3.out) OP.out M1.out Q1.out BB3.out.size ?_)
                     rfl; rfl; rfl; (simp [Act.eval]); (simp [Act.eval])
                     intro v1 w1 hv1 hg1 hat1
                     have hB1 := (G3.out _ hg1).1; have hs54 := (G3.out _ hg1).2; clear hg1 hat1)
                  | ((with_reducible refine step_append_sl _ (o := ⟨some 70, _, _, _, _, _⟩) ?_ (.tmp 67) (.tmp 69) 49 ?_ wr.heap.size 9 i0 _ 1 16 Try.underlying49 hi0 hz0 hz1 hz2 ?_ (by omega) _ (0 + (j)) _ ?_ hv1 _ _ _ 1 [.string ⟨q.toArray⟩] ?_ hs54 OX.out M2.out Q2.out hB1.size ?_)
                     rfl; rfl; rfl; (simp [Act.eval]); (simp [Act.eval])
                     intro v2 w2 hv2 hg2 hat2
                     have hB2 : Below wr.heap.size wr w2 := hB1.grown hg2 hB1.size (fun g hg => (hv1.lt g hg).1); clear hg2 hat2 hv1 hs54)
                  | ((with_reducible refine step_append_sl _ (o := ⟨some 70, _, _, _, _, _⟩) ?_ (.tmp 67) (.tmp 69) 49 ?_ wr.heap.size 9 i0 _ 1 16 Try.underlying49 hi0 hz0 hz1 hz2 ?_ (by omega) _ (0 + (j)) _ ?_ (hv1.alloc _) _ _ _ 1 [.string ⟨q.toArray⟩] ?_ (Sl.new w1 #[.string ⟨q.toArray⟩] 9 (n := 1) (size := 1) rfl (Nat.le_trans (Nat.le_add_left _ _) M2.out)) OX.out M2.out Q2.out (hB1.alloc hB1.size _).size ?_)
                     rfl; rfl; rfl; (simp [Act.eval]); (simp [Act.eval])
                     intro v2 w2 hv2 hg2 hat2
                     have hB2 : Below wr.heap.size wr w2 := (hB1.alloc hB1.size _).grown hg2 (hB1.alloc hB1.size _).size (fun g hg => (hv1.lt g hg).1); clear hg2 hat2 hv1)
                  | ((with_reducible refine step_append_sl _ (o := ⟨some 74, _, _, _, _, _⟩) ?_ (.tmp 70) (.tmp 73) 49 ?_ wr.heap.size 9 i0 _ 1 16 Try.underlying49 hi0 hz0 hz1 hz2 ?_ (by omega) _ (0 + (j) + 1) _ ?_ hv2 0 wr.heap.size _ ((o2.length - j)) ((strs o2).drop (j * 1)) ?_ (HQ.out _ hB2) OQ.out M3.out Q3.out hB2.size ?_)
                     rfl; rfl; rfl; (simp [Act.eval]); (simp [Act.eval])
                     intro v3 w3 hv3 hg3 hat3
                     have hB3 : Below wr.heap.size wr w3 := hB2.grown hg3 hB2.size (fun g hg => (hv2.lt g hg).1); clear hg3 hat3 hv2 hB2))
                all_goals
                  rw [HST.out, show 0 + j + 1 + (o2.length - j) = (insK o2 q).length by rw [HOWL.out]; omega] at hv3
                  have hB9 := HB0.out.trans (hB3.mono HB0.out.size)
                  have hv9 := row_mono hv3 HB0.out.size
                  have hl9 := HOWL.out
                  clear hv3 hB3
                  go_wp2
                  go_roundw
                  case rel => exact ⟨k + 1, insK o2 q, by omega, by go_num, by rw [HOS.out], by omega, hv9, hB9⟩
                  case measure => simp [intOf]; omega
        · obtain rfl : k = s.length := by omega
          have HF := Lib.hid (show o2 = goodsK (ss.take (i + 1)) by rw [HO.out, List.take_length, HGN.out])
          go_wp2
          go_roundw
          case rel => exact ⟨i + 1, o2, by omega, by go_num, HF.out, by omega, hown, HB.out⟩
          case measure => simp [intOf]; omega
    · obtain rfl : i = ss.length := by omega
      have HF := Lib.hid (show out = goodsK ss by rw [HO.out, List.take_length])
      obtain ⟨A3, c3, rfl, -⟩ := (Sl.of_own hown).at_
      go_wp2
      go_ret
      rw [← HF.out]
      exact ⟨⟨_, rfl, hown⟩, HB.out⟩
end Sk
end Go.Proofs.Ytlhpdalfnjhokaa

namespace Go.Proofs.Ytlhpdalfnjhokaa
open Go.ChangeShapes Go.WideShapes Go.ChangeAt Go.RowKit

theorem own : ownKnob Try.prog.godebug = none := by kernel_rfl
theorem laidOut : laidOutB Try.prog = true := by kernel_rfl

section
variable {H : Type} {enc : TypeId × Value → H} {P : Program}
/-- all arguments read as they did -/
theorem trodAll_stays (hl : laidOutB P = true) {W W' : World} (hb : Below W.heap.size W W') {sp : Nat → Bool} :
    ∀ {ts : List TypeId} {vs : List Value} {ds : List (DataW H)} {ps : List MemPlace}, ts.all (fun t => P.readableRec t && decide (t < P.types.size)) = true →
      DataW.TrodAll enc P W 0 (fun _ => true) true ts vs ds ps → (∀ p ∈ ps, p.block < W.heap.size) → (∀ p ∈ ps, sp p.block = true) → DataW.TrodAll enc P W' 0 sp true ts vs ds ps
  | [], vs, ds, ps, _, h, _, _ => by
    obtain ⟨rfl, rfl, rfl⟩ := trodAll_nil h
    exact trodAll_mk0
  | t :: ts, vs, ds, ps, hr, h, hlt, hs => by
    obtain ⟨v, vs', d, ds', p, q, rfl, rfl, rfl, h1, h2⟩ := trodAll_cons h
    simp only [List.all_cons, Bool.and_eq_true, decide_eq_true_eq] at hr
    exact trodAll_cons_mk (WideElems.Trod_stays hl hr.1.1 hr.1.2 h1 (fun x hx => hb.same (hlt x (List.mem_append_left _ hx))) (fun x hx => hs x (List.mem_append_left _ hx)))
      (trodAll_stays hl hb (by simpa using hr.2) h2 (fun x hx => hlt x (List.mem_append_right _ hx)) (fun x hx => hs x (List.mem_append_right _ hx)))

theorem law_post {f : Func} {s : ChangeSpec} {W W' : World} {args : Array Value} {ds gs : List (DataW H)} {before : List MemPlace} {tb : TypeId} (hl : laidOutB P = true)
    (hpar : f.params.toList.all (fun t => P.readableRec t && decide (t < P.types.size)) = true) (hrt : f.resultTypes = #[tb]) (ht : P.underlying tb = some .bool) (hv : s.vars = [])
    (hW : DataW.Whole enc P f.params.toList s.vars false W args.toList ds gs before) (hfn : s.fn H (ds ++ gs) = { results := [.lit (.bool true)], args := ds }) (hb : Below W.heap.size W W') :
    s.post enc P f false true false false W args (.bool true) W' := by
  obtain ⟨p, q, hA, hV, hps, hz, hn⟩ := id hW
  have hlt : ∀ x ∈ before, x.block < W.heap.size := fun x hx => hW.lt x hx
  have hq : q = [] := by
    rw [hv] at hV
    cases gs with
    | nil => exact hV
    | cons g gs => exact hV.elim
  subst hq
  rw [List.append_nil] at hps
  subst hps
  have hargs : ∀ sp : Nat → Bool, (∀ x ∈ before, sp x.block = true) → DataW.TrodAll enc P W' 0 sp true f.params.toList args.toList (s.fn H (ds ++ gs)).args before := fun sp hs => by
    rw [hfn]
    exact trodAll_stays hl hb hpar hA hlt hs
  have hres : ∀ (b : Nat) (sp : Nat → Bool) (hd : Bool), DataW.TrodAll enc P W' b sp hd f.resultTypes.toList ((Value.bool true).resultList f.resultTypes.size) (s.fn H (ds ++ gs)).results [] := fun b sp hd => by
    rw [hfn, hrt]
    exact trodAll_mk1 (shut_bool ht true)
  have hvars : ∀ sp : Nat → Bool, DataW.TrodVars enc P W' sp s.vars (s.fn H (ds ++ gs)).vars [] := fun sp => by
    rw [hfn, hv]
    rfl
  refine ⟨ds, gs, before, [], before, [], hW, hres _ _ _, hargs _ (fun x hx => by simpa using hlt x hx), hvars _, World.keptBut_mono (fun x hx => ⟨hx, .inr (.inl hx)⟩) (hb.frame (· ∈ before)), fun _ => ?_⟩
  refine ⟨ok_one hrt rfl (okWide_bool_mk ht _), _, _, ([] ++ before) ++ [], ⟨[] ++ before, [], trodAll_append (hargs _ (fun _ _ => rfl)) (hres _ _ _), hvars _, rfl, ?_, ?_⟩, ?_⟩
  · intro b off hp
    have hin : MemPlace.cell b off ∈ before := by simpa using hp
    rw [hb.frozen (hlt _ hin)]
    exact hz b off hin
  · intro ha; cases ha
  · intro x hx _
    simpa using hx
end
end Go.Proofs.Ytlhpdalfnjhokaa

namespace Go.Proofs.Ytlhpdalfnjhokaa
open Go.ChangeShapes Go.WideShapes Go.Deep Go.RowKit Go.ChangeAt

section
variable {H : Type} {enc : TypeId × Value → H} {P : Program} {w : World} {base : Nat} {spare : Nat → Bool} {held : Bool}
theorem open_slice_fields {t e : TypeId} {fs : Array Field} {fuel : Nat} {cs : List Value} {x : DataW H × List MemPlace} (ht : P.underlying t = some (.slice e)) (he : P.underlying e = some (.struct fs))
    (hone : oneCellFields P fs = true) (hC : P.cellsOf e = fs.size) (h : DataW.trod enc P w base spare held fuel t cs = some x) :
    (cs = [.slice none 0 0] ∧ x = (.nil, [])) ∨
    ∃ (a : Addr) (len cap m : Nat) (D : Nat → DataW H) (Pl : Nat → List MemPlace), cs = [.slice (some a) len cap] ∧ base ≤ a.block ∧ len ≤ cap ∧ cap ≤ maxLen ∧ m = (if spare a.block then cap else len) ∧
      x = (.slice ((List.range len).map D) ((List.range (m - len)).map fun j => D (len + j)), MemPlace.row a (m * fs.size) ++ (List.range m).flatMap Pl) ∧
      ∀ i, i < m → ∃ (ys : List (DataW H × List MemPlace)) (n : Nat), D i = .agg (ys.map (·.1)) ∧ Pl i = ys.flatMap (·.2) ∧ ys.length = fs.size ∧
        ∀ (j : Nat) (f : Field), fs[j]? = some f → ∃ (v : Value) (y : DataW H × List MemPlace), w.cell? (a.add (i * fs.size + j)) = some v ∧ ys[j]? = some y ∧ DataW.trod enc P w base spare held n f.type [v] = some y := by
  rcases open_slice ht h with h0 | ⟨a, len, cap, m, n, D, Pl, hcs, hb, hl, hm, hmm, hx, hi⟩
  · exact .inl h0
  · refine .inr ⟨a, len, cap, m, D, Pl, hcs, hb, hl, hm, hmm, by rw [hC] at hx; exact hx, fun i him => ?_⟩
    obtain ⟨cs', hc, ht'⟩ := hi i him
    rw [hC] at hc
    obtain ⟨ys, n', hn', hy, hlen, hyl, hf⟩ := DataW.trod_struct he ht'
    obtain ⟨_, hcl, hat⟩ := World.cells?_some hc
    simp only [Prod.mk.injEq] at hy
    refine ⟨ys, n', hy.1, hy.2, hyl, fun j f hj => ?_⟩
    obtain ⟨ho, hk⟩ := hone_of hone j f hj
    have hjl : j < fs.size := (Array.getElem?_eq_some_iff.1 hj).1
    have hcell := hat j hjl
    have hv : cs'[j]? = some (cs'[j]'(by omega)) := List.getElem?_eq_getElem (by omega)
    have h1 := hf j f hj
    rw [ho, hk] at h1
    have hone' : (cs'.drop j).take 1 = [cs'[j]'(by omega)] := by
      rw [List.drop_eq_getElem_cons (by omega)]
      rfl
    rw [hone'] at h1
    have hys : ys[j]? = some (ys[j]'(by omega)) := List.getElem?_eq_getElem (by omega)
    refine ⟨_, _, ?_, hys, h1.trans hys⟩
    rw [← Go.Deep.add_add, hcell, hv]

theorem cell_addr {w : World} {a : Addr} {v : Value} (h : w.cell? a = some v) : a.spot = none ∧ a.block < w.heap.size := by
  unfold World.cell? at h
  split at h
  · rename_i c _ _ hc
    refine ⟨?_, (Array.getElem?_eq_some_iff.1 hc).1⟩
    cases hs : a.spot with
    | none => rfl
    | some x => rw [hs] at h; simp at h
  · cases h
theorem addr_add (b o j : Nat) : (⟨b, o, none⟩ : Addr).add j = ⟨b, o + j, none⟩ := by unfold Addr.add; split <;> simp_all

/-- a list out of its elements' readings -/
theorem list_of {α : Type} (n : Nat) (p : Nat → α → Prop) (h : ∀ i, i < n → ∃ x, p i x) : ∃ l : List α, l.length = n ∧ ∀ i (hi : i < l.length), p i l[i] := by
  induction n with
  | zero => exact ⟨[], rfl, fun i hi => by simp at hi⟩
  | succ n ih =>
    obtain ⟨l, hl, hp⟩ := ih fun i hi => h i (by omega)
    obtain ⟨x, hx⟩ := h n (by omega)
    refine ⟨l ++ [x], by simp [hl], fun i hi => ?_⟩
    simp only [List.length_append, List.length_cons, List.length_nil] at hi
    by_cases e : i < l.length
    · rw [List.getElem_append_left e]; exact hp i e
    · obtain rfl : i = l.length := by omega
      simpa [hl] using hx
end
namespace It
theorem ItemsAt.mk {w : World} {lo B b o n c : Nat} {L : List Item} (hn : L.length = n) (h1 : n ≤ c) (h2 : c ≤ maxLen) (hlo : lo ≤ b) (hB : b < B)
    (h : ∀ i (hi : i < L.length), w.cell? ⟨b, o + i * 2, none⟩ = some (.string L[i].1) ∧ w.cell? ⟨b, o + i * 2 + 1, none⟩ = some (.int .i64 L[i].2)) : ItemsAt w lo B (.slice (some ⟨b, o, none⟩) n c) L := by
  subst hn
  refine ⟨itemCells_length L, _, _, rfl, h1, h2, fun _ => ⟨b, o, rfl, hlo, hB, fun j hj => ?_⟩⟩
  have hd := Nat.div_add_mod j 2
  have hm := Nat.mod_lt j (show 0 < 2 by omega)
  have hq : j / 2 < L.length := by omega
  obtain ⟨g1, g2⟩ := itemCells_get L (j / 2) hq
  obtain ⟨c1, c2⟩ := h (j / 2) hq
  rcases Nat.lt_or_ge (j % 2) 1 with hr | hr
  · obtain e : j = j / 2 * 2 := by omega
    rw [e, g1, ← c1]
  · obtain e : j = j / 2 * 2 + 1 := by omega
    rw [e, g2, ← c2]
    congr 2

set_option maxRecDepth 100000 in
theorem items_of_trod {H : Type} {enc : TypeId × Value → H} {W : World} {v : Value} {x : DataW H × List MemPlace} {held : Bool} {fuel : Nat} (hf : DataW.trod enc Try.prog W 0 (fun _ => true) held fuel 55 [v] = some x) :
    ∃ L : List Item, ItemsAt W 0 W.heap.size v L ∧ Fits L ∧ ((x.1 = .nil ∧ L = []) ∨ ∃ es sp, x.1 = .slice es sp ∧ es.length = L.length) := by
  rcases open_slice_fields Try.underlying55 Try.underlying64 (by kernel_rfl) (by kernel_rfl) hf with ⟨h1, h2⟩ | ⟨a, n, c, m, D, Pl, hcs, hb, hl, hm, hmm, hx, hi⟩
  · simp only [List.cons.injEq, and_true] at h1
    cases h1
    exact ⟨[], ItemsAt.nil _ _ _, (fun x hx => by cases hx), .inl ⟨by rw [h2], rfl⟩⟩
  · simp only [List.cons.injEq, and_true] at hcs
    cases hcs
    simp only [if_true] at hmm
    subst hmm
    have hel : ∀ i, i < n → ∃ x : Item, W.cell? (a.add (i * 2)) = some (.string x.1) ∧ W.cell? (a.add (i * 2 + 1)) = some (.int .i64 x.2) ∧ x.1.size ≤ maxLen ∧ -9223372036854775808 ≤ x.2 ∧ x.2 ≤ 9223372036854775807 := by
      intro i hin
      obtain ⟨ys, n', _, _, _, hf⟩ := hi i (by omega)
      obtain ⟨v0, y0, c0, _, t0⟩ := hf 0 _ rfl
      obtain ⟨v1, y1, c1, _, t1⟩ := hf 1 _ rfl
      obtain ⟨s, e0, _, hs⟩ := DataW.trod_string Try.underlying9 t0
      obtain ⟨k, e1, _, hk⟩ := DataW.trod_int Try.underlying3 t1
      simp only [List.cons.injEq, and_true] at e0 e1
      subst e0 e1
      have hkb : -9223372036854775808 ≤ k ∧ k ≤ 9223372036854775807 := by simpa [Lit.wf, IntKind.min, IntKind.max, IntKind.signed, IntKind.bits] using hk
      exact ⟨(s, k), c0, c1, hs, hkb.1, hkb.2⟩
    obtain ⟨L, hLn, hL⟩ := list_of n _ hel
    have hfit : Fits L := fun x hx => by
      obtain ⟨i, hi, rfl⟩ := List.getElem_of_mem hx
      exact (hL i hi).2.2
    refine ⟨L, ?_, hfit, .inr ⟨_, _, by rw [hx], by simp [hLn]⟩⟩
    rcases Nat.eq_zero_or_pos n with h0 | h0
    · subst h0
      obtain rfl : L = [] := List.eq_nil_of_length_eq_zero hLn
      exact ⟨rfl, _, _, rfl, hl, hm, fun h => by omega⟩
    · have h1 := cell_addr (hL 0 (by omega)).1
      obtain ⟨b, o, sp⟩ := a
      have hsp : sp = none := by
        have := h1.1
        unfold Addr.add at this
        simpa using this
      subst hsp
      have hb : b < W.heap.size := by
        have := h1.2
        rw [addr_add] at this
        exact this
      refine ItemsAt.mk hLn hl hm (Nat.zero_le _) hb fun i hi => ?_
      have := hL i hi
      rw [addr_add, addr_add] at this
      exact ⟨this.1, by rw [← this.2.1]; congr 2⟩

set_option maxRecDepth 100000 in
/-- an argument that is a slice of items -/
theorem open_items {H : Type} {enc : TypeId × Value → H} {W : World} {base : Nat} {v : Value} {d : DataW H} {p : List MemPlace} {held : Bool} (hval : Value.okWide Try.prog W .any base 55 v)
    (h : DataW.Trod enc Try.prog W 0 (fun _ => true) held 55 v d p) :
    ∃ L : List Item, ItemsAt W 0 W.heap.size v L ∧ Fits L ∧ ((d = .nil ∧ L = []) ∨ ∃ es sp, d = .slice es sp ∧ es.length = L.length) := by
  obtain ⟨A, n, c, rfl⟩ := okWide_slice Try.underlying55 hval
  obtain ⟨fuel, hf⟩ := h
  exact items_of_trod hf
theorem items_bytes : Try.prog.bytesOf 64 = 24 := by kernel_rfl
theorem items_reach {H : Type} {ts : List TypeId} {ds : List (DataW H)} {j : Nat} {d : DataW H} {L : List Item} (h : (DataW.weightsEach Try.prog ts ds).all (· ≤ reachBytes) = true) (ht : ts[j]? = some 55) (hd : ds[j]? = some d)
    (hx : (d = .nil ∧ L = []) ∨ ∃ es sp, d = .slice es sp ∧ es.length = L.length) : L.length * 24 ≤ 140737488351232 := by
  rcases hx with ⟨_, rfl⟩ | ⟨es, sp, rfl, hl⟩
  · simp
  · have := sized_slice h ht hd Try.underlying55
    rw [items_bytes] at this
    unfold reachBytes at this
    have h2 : es.length * 24 ≤ (es.length + sp.length) * 24 := Nat.mul_le_mul_right _ (Nat.le_add_right _ _)
    omega
end It
end Go.Proofs.Ytlhpdalfnjhokaa

namespace Go.Proofs.Ytlhpdalfnjhokaa
open Go.ChangeShapes Go.WideShapes Go.Deep Go.RowKit Go.ChangeAt
section
variable {H : Type} {enc : TypeId × Value → H} {P : Program} {W : World} {held : Bool}
theorem slice_of_trod {t e : TypeId} {C fuel : Nat} {v : Value} {x : DataW H × List MemPlace} (ht : P.underlying t = some (.slice e)) (hC : P.cellsOf e = C) (hpos : 0 < C) (hf : DataW.trod enc P W 0 (fun _ => true) held fuel t [v] = some x) :
    ∃ (A : Option Addr) (n c : Nat), v = .slice A n c ∧ n ≤ c ∧ c ≤ maxLen ∧
      (∀ i, i < n → ∃ (b o : Nat) (cs : List Value) (y : DataW H × List MemPlace) (fuel' : Nat), A = some ⟨b, o, none⟩ ∧ b < W.heap.size ∧ cs.length = C ∧ (∀ j w, cs[j]? = some w → W.cell? ⟨b, o + i * C + j, none⟩ = some w) ∧ DataW.trod enc P W 0 (fun _ => true) held fuel' e cs = some y) ∧
      ((x.1 = .nil ∧ n = 0) ∨ ∃ es sp, x.1 = .slice es sp ∧ es.length = n) := by
  rcases open_slice ht hf with ⟨h1, h2⟩ | ⟨a, n, c, m, k, D, Pl, hcs, hb, hl, hm, hmm, hx, hi⟩
  · simp only [List.cons.injEq, and_true] at h1
    cases h1
    exact ⟨none, 0, 0, rfl, Nat.le_refl _, by unfold maxLen; omega, fun i hi => by omega, .inl ⟨by rw [h2], rfl⟩⟩
  · simp only [List.cons.injEq, and_true] at hcs
    cases hcs
    simp only [if_true] at hmm
    subst hmm
    rw [hC] at hi
    refine ⟨some a, n, _, rfl, hl, hm, fun i hin => ?_, .inr ⟨_, _, by rw [hx], by simp⟩⟩
    obtain ⟨cs0, hz, -⟩ := hi 0 (by omega)
    obtain ⟨_, hzl, hzt⟩ := World.cells?_some hz
    obtain ⟨w0, hw0⟩ : ∃ w, cs0[0]? = some w := ⟨_, List.getElem?_eq_getElem (by omega)⟩
    have hc0 := hzt (i := 0) hpos
    rw [hw0, Go.Deep.add_add] at hc0
    have hca := cell_addr hc0
    obtain ⟨cs', hc, ht'⟩ := hi i (by omega)
    obtain ⟨_, hcl, hat⟩ := World.cells?_some hc
    obtain ⟨b, o, sp⟩ := a
    have hsp : sp = none := by
      have := hca.1
      unfold Addr.add at this
      simpa using this
    subst hsp
    refine ⟨b, o, cs', _, _, rfl, ?_, hcl, fun j w hj => ?_, ht'⟩
    · have := hca.2
      rw [addr_add] at this
      exact this
    · have hjl : j < C := by rw [← hcl]; exact (List.getElem?_eq_some_iff.1 hj).1
      have := hat (i := j) hjl
      rw [hj, Go.Deep.add_add, addr_add] at this
      rw [← this]
      congr 2
      omega
end
end Go.Proofs.Ytlhpdalfnjhokaa
