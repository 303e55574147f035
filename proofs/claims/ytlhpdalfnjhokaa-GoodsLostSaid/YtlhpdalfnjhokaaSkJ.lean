/-
  goods: Total.
-/
import Derived.Test.YtlhpdalfnjhokaaSkI
import Derived.Test.YtlhpdalfnjhokaaPe
namespace Go.Proofs.Ytlhpdalfnjhokaa
open Go.RowKit Go.Maps
namespace Sk
open It Al
/-- a pointer to a stock, or nil -/
def SpAt (w : World) (base : Nat) (p : Value) (s : Stk) : Prop := (p = .pointer none ∧ s = []) ∨ ∃ b mb, p = .pointer (some ⟨b, 0, none⟩) ∧ StkAt w base b mb s
theorem SpAt.same {w w' : World} {base : Nat} {p : Value} {s : Stk} (h : SpAt w base p s) (hb : Below w.heap.size w w') : SpAt w' base p s := by
  rcases h with h | ⟨b, mb, h1, h2⟩
  · exact .inl h
  · exact .inr ⟨b, mb, h1, h2.same hb⟩
/-- a slice of pointers to stocks -/
structure StsAt (w : World) (base : Nat) (v : Value) (ss : List Stk) : Prop where
  at_ : ∃ ps : List Value, ps.length = ss.length ∧ Sl w 0 w.heap.size 1 v ss.length ps ∧ ∀ i (h : i < ss.length), ∃ p, ps[i]? = some p ∧ SpAt w base p ss[i]
theorem StsAt.same {w w' : World} {base : Nat} {v : Value} {ss : List Stk} (h : StsAt w base v ss) (hb : Below w.heap.size w w') : StsAt w' base v ss := by
  obtain ⟨ps, h1, h2, h3⟩ := h.at_
  refine ⟨ps, h1, h2.mono hb hb.size, fun i hi => ?_⟩
  obtain ⟨p, k1, k2⟩ := h3 i hi
  exact ⟨p, k1, k2.same hb⟩
def addRow (a b : Row) : Row := (List.range 11).map fun j => wrap64 (at_ a j + at_ b j)
def totR (ss : List Stk) (g : Key) : Row := ss.foldl (fun acc s => addRow acc ((aGet s g).getD row0)) row0
theorem totR_snoc (ss : List Stk) (s : Stk) (g : Key) : totR (ss ++ [s]) g = addRow (totR ss g) ((aGet s g).getD row0) := by
  unfold totR
  rw [List.foldl_append]
  rfl
theorem addRow_ok (a b : Row) : OkRow (addRow a b) := by
  refine ⟨by simp [addRow], fun x hx => ?_⟩
  obtain ⟨j, -, rfl⟩ := List.mem_map.1 hx
  exact wrap_bd _
theorem totR_ok (ss : List Stk) (g : Key) : OkRow (totR ss g) := by
  rcases List.eq_nil_or_concat ss with rfl | ⟨q, x, rfl⟩
  · exact OkRow.zero
  · rw [List.concat_eq_append, totR_snoc]
    exact addRow_ok _ _
theorem SpAt.row {w : World} {base : Nat} {p : Value} {s : Stk} (h : SpAt w base p s) (k : Key) : OkRow ((aGet s k).getD row0) := by
  rcases h with ⟨-, rfl⟩ | ⟨b, mb, -, h2⟩
  · exact OkRow.zero
  · exact h2.row k
theorem level_any {w : World} {base : Nat} {p : Value} {s : Stk} (h : SpAt w base p s) (g : ByteArray) (hg : g.size ≤ maxLen) :
    Calls Try.prog 29 #[p, .string g] w fun e w' => e = .returned (lvV ((aGet s g.data.toList).getD row0)) ∧ Below w.heap.size w w' := by
  rcases h with ⟨rfl, rfl⟩ | ⟨b, mb, rfl, h2⟩
  · exact level_nil g w
  · exact level_calls h2 g hg
theorem flow_any {w : World} {base : Nat} {p : Value} {s : Stk} (h : SpAt w base p s) (g : ByteArray) (hg : g.size ≤ maxLen) :
    Calls Try.prog 30 #[p, .string g] w fun e w' => e = .returned (flV ((aGet s g.data.toList).getD row0)) ∧ Below w.heap.size w w' := by
  rcases h with ⟨rfl, rfl⟩ | ⟨b, mb, rfl, h2⟩
  · exact flow_nil g w
  · exact flow_calls h2 g hg
def wayT (r : Row) : Int := wrap64 (at_ r 10 - at_ r 7)
def totC (g : ByteArray) (r : Row) (way : Int) : Array Value := #[.string g, .int .i64 (at_ r 0), .int .i64 (at_ r 1), .int .i64 (at_ r 2), .int .i64 (at_ r 3), .int .i64 (at_ r 4), .int .i64 (at_ r 5), .int .i64 (at_ r 6), .int .i64 (at_ r 7), .int .i64 (at_ r 8), .int .i64 (at_ r 9), .int .i64 (at_ r 10), .int .i64 way]
def totV (g : ByteArray) (ss : List Stk) : Value := .agg (totC g (totR ss g.data.toList) (wayT (totR ss g.data.toList)))
set_option maxRecDepth 100000 in
set_option maxHeartbeats 8000000 in
theorem total_calls (ss : List Stk) (g : ByteArray) (hg : g.size ≤ maxLen) (v : Value) (w : World) (base : Nat) (h : StsAt w base v ss) :
    Calls Try.prog 16 #[v, .string g] w fun e w' => e = .returned (totV g ss) ∧ Below w.heap.size w w' := by
  obtain ⟨ps, hpl, hsl, hps⟩ := h.at_
  obtain ⟨A, c, rfl, hc1, hc2, hc3⟩ := hsl.at_
  unfold maxLen at hc2
  have HPS := Lib.hid hps
  have HSL := Lib.hid hsl
  have HPL := Lib.hid hpl
  clear hps hsl hpl hc3 h
  have z0 := (Ob.new w 27 #[.string ⟨#[]⟩, .int .i64 0, .int .i64 0, .int .i64 0, .int .i64 0, .int .i64 0, .int .i64 0, .int .i64 0, .int .i64 0, .int .i64 0, .int .i64 0, .int .i64 0, .int .i64 0]).alloc (.cells #[.string g, .int .i64 0, .int .i64 0, .int .i64 0, .int .i64 0, .int .i64 0, .int .i64 0, .int .i64 0, .int .i64 0, .int .i64 0, .int .i64 0, .int .i64 0, .int .i64 0] 27)
  have o1 := Ob.new (w.alloc (.cells #[.string ⟨#[]⟩, .int .i64 0, .int .i64 0, .int .i64 0, .int .i64 0, .int .i64 0, .int .i64 0, .int .i64 0, .int .i64 0, .int .i64 0, .int .i64 0, .int .i64 0, .int .i64 0] 27)) 27 #[.string g, .int .i64 0, .int .i64 0, .int .i64 0, .int .i64 0, .int .i64 0, .int .i64 0, .int .i64 0, .int .i64 0, .int .i64 0, .int .i64 0, .int .i64 0, .int .i64 0]
  have hB : Below w.heap.size w ((w.alloc (.cells #[.string ⟨#[]⟩, .int .i64 0, .int .i64 0, .int .i64 0, .int .i64 0, .int .i64 0, .int .i64 0, .int .i64 0, .int .i64 0, .int .i64 0, .int .i64 0, .int .i64 0, .int .i64 0] 27)).alloc (.cells #[.string g, .int .i64 0, .int .i64 0, .int .i64 0, .int .i64 0, .int .i64 0, .int .i64 0, .int .i64 0, .int .i64 0, .int .i64 0, .int .i64 0, .int .i64 0, .int .i64 0] 27)) := ((Below.refl _ w).alloc (Nat.le_refl _) _).alloc (by simp) _
  simp only [World.size_alloc] at o1
  have HO := Lib.hid o1
  have HZ := Lib.hid z0
  have HB := Lib.hid hB
  have HS := Lib.hid (show ((w.alloc (.cells #[.string ⟨#[]⟩, .int .i64 0, .int .i64 0, .int .i64 0, .int .i64 0, .int .i64 0, .int .i64 0, .int .i64 0, .int .i64 0, .int .i64 0, .int .i64 0, .int .i64 0, .int .i64 0] 27)).alloc (.cells #[.string g, .int .i64 0, .int .i64 0, .int .i64 0, .int .i64 0, .int .i64 0, .int .i64 0, .int .i64 0, .int .i64 0, .int .i64 0, .int .i64 0, .int .i64 0, .int .i64 0] 27)).heap.size = w.heap.size + 2 by simp)
  clear o1 hB z0
  go_enter Try.func16, Try.ntmps16
  go_wp2
  have o1 := HO.out
  have z1 := HZ.out
  have hB := HB.out
  have hs := HS.out
  clear HO HZ HB HS
  generalize (w.alloc (.cells #[.string ⟨#[]⟩, .int .i64 0, .int .i64 0, .int .i64 0, .int .i64 0, .int .i64 0, .int .i64 0, .int .i64 0, .int .i64 0, .int .i64 0, .int .i64 0, .int .i64 0, .int .i64 0] 27)).alloc (.cells #[.string g, .int .i64 0, .int .i64 0, .int .i64 0, .int .i64 0, .int .i64 0, .int .i64 0, .int .i64 0, .int .i64 0, .int .i64 0, .int .i64 0, .int .i64 0, .int .i64 0] 27) = w2 at *
  go_loopw [7, 12] (fun _ i wr => ∃ k : Nat, k ≤ ss.length ∧ i = .int .i64 k ∧ Ob wr (w.heap.size + 1) 27 (totC g (totR (ss.take k) g.data.toList) 0) ∧ Ob wr w.heap.size 27 #[.string ⟨#[]⟩, .int .i64 0, .int .i64 0, .int .i64 0, .int .i64 0, .int .i64 0, .int .i64 0, .int .i64 0, .int .i64 0, .int .i64 0, .int .i64 0, .int .i64 0, .int .i64 0] ∧ Below w.heap.size w wr ∧ w.heap.size + 2 ≤ wr.heap.size) (fun _ i _ => ss.length - (intOf i).toNat)
  case atStart => exact ⟨0, by omega, rfl, o1, z1, hB, by omega⟩
  case round =>
    obtain ⟨k, hk, rfl, hO, hZ, hBr, hsz⟩ := hrel
    clear o1 z1 hB hs
    by_cases hlt : k < ss.length
    · obtain ⟨p, hp1, hp2⟩ := HPS.out k hlt
      obtain ⟨A', c', he, _, _, h3⟩ := HSL.out.at_
      cases he
      obtain ⟨pb, po, rfl, -, hpb, hcell⟩ := h3 (by omega)
      have hck := (hBr.cell (p := ⟨pb, po + k, none⟩) hpb).trans ((hcell k (by omega)).trans hp1)
      have hSn := Lib.hid (show totR (ss.take (k + 1)) g.data.toList = addRow (totR (ss.take k) g.data.toList) ((aGet ss[k] g.data.toList).getD row0) by rw [List.take_succ_eq_append_getElem hlt, totR_snoc])
      have hro := hp2.row g.data.toList
      have hra := totR_ok (ss.take k) g.data.toList
      have HSP := Lib.hid hp2
      have HLV := Lib.hid (fun (V : World) (hb : Below w.heap.size w V) => level_any (hp2.same hb) g hg)
      have HFL := Lib.hid (fun (V : World) (hb : Below w.heap.size w V) => flow_any (hp2.same hb) g hg)
      generalize (aGet ss[k] g.data.toList).getD row0 = r at *
      generalize totR (ss.take k) g.data.toList = acc at *
      obtain ⟨a0, a1, a2, a3, a4, a5, a6, a7, a8, a9, a10, rfl⟩ := row_eleven hra
      obtain ⟨b0, b1, b2, b3, b4, b5, b6, b7, b8, b9, b10, rfl⟩ := row_eleven hro
      replace hO : Ob wr (w.heap.size + 1) 27 #[.string g, .int .i64 a0, .int .i64 a1, .int .i64 a2, .int .i64 a3, .int .i64 a4, .int .i64 a5, .int .i64 a6, .int .i64 a7, .int .i64 a8, .int .i64 a9, .int .i64 a10, .int .i64 0] := hO
      replace HLV := Lib.hid (show ∀ (V : World) (hb : Below w.heap.size w V), Calls Try.prog 29 #[p, .string g] V fun e w' => e = .returned (.agg #[.int .i64 b0, .int .i64 b1, .int .i64 b2, .int .i64 b3]) ∧ Below V.heap.size V w' from HLV.out)
      replace HFL := Lib.hid (show ∀ (V : World) (hb : Below w.heap.size w V), Calls Try.prog 30 #[p, .string g] V fun e w' => e = .returned (.agg #[.int .i64 b4, .int .i64 b5, .int .i64 b6, .int .i64 b7, .int .i64 b8, .int .i64 b9, .int .i64 b10]) ∧ Below V.heap.size V w' from HFL.out)
      have HSN := Lib.hid (show totR (ss.take (k + 1)) g.data.toList = [(wrap64 (a0 + b0)), (wrap64 (a1 + b1)), (wrap64 (a2 + b2)), (wrap64 (a3 + b3)), (wrap64 (a4 + b4)), (wrap64 (a5 + b5)), (wrap64 (a6 + b6)), (wrap64 (a7 + b7)), (wrap64 (a8 + b8)), (wrap64 (a9 + b9)), (wrap64 (a10 + b10))] from hSn.out)
      have hd : decide ((k : Int) < (ss.length : Int)) = true := by simp; omega
      have l1 : (0 : Int) ≤ (k : Int) := by omega
      have l2 : (k : Int) < (ss.length : Int) := by omega
      clear hcell hp1 hp2 hro hra hSn h3
      have hd0 : Ob wr.drew (w.heap.size + 1) 27 #[.string g, .int .i64 a0, .int .i64 a1, .int .i64 a2, .int .i64 a3, .int .i64 a4, .int .i64 a5, .int .i64 a6, .int .i64 a7, .int .i64 a8, .int .i64 a9, .int .i64 a10, .int .i64 0] := hO
      have hbd := hBr.drew
      have htb : w.heap.size ≤ w.heap.size + 1 := by omega
      have hZk := Lib.hid hZ
      have hZd : Ob wr.drew w.heap.size 27 #[.string ⟨#[]⟩, .int .i64 0, .int .i64 0, .int .i64 0, .int .i64 0, .int .i64 0, .int .i64 0, .int .i64 0, .int .i64 0, .int .i64 0, .int .i64 0, .int .i64 0, .int .i64 0] := hZ
      have hsd : w.heap.size + 1 ≤ wr.drew.heap.size := by show _ ≤ wr.heap.size; omega
      generalize htbe : w.heap.size + 1 = tb at *
      go_wp2_with fail
      refine Pe.regionT (.look 0 (.look 1 (.look 2 (.look 3 (.look 6 (.look 7 (.look 8 (.look 9 (.look 12 (.make 4 (.make 5 (.make 10 (.make 11 (.make 13 (.look 14 (.make 15 .nil)))))))))))))))) (fun V => Ob V tb 27 #[.string g, .int .i64 a0, .int .i64 a1, .int .i64 a2, .int .i64 a3, .int .i64 a4, .int .i64 a5, .int .i64 a6, .int .i64 a7, .int .i64 a8, .int .i64 a9, .int .i64 a10, .int .i64 0]) hmx (by kernel_rfl) (by kernel_rfl) (by kernel_rfl) hd0 rfl ?_
      simp only [Pe.named, List.getElem?_toArray, List.getElem?_cons_succ, List.getElem?_cons_zero]
      iterate 9 (first
        | (refine Pe.WalkT.off (by rfl) ?_; simp only [Act.put, List.setIfInBounds_toArray, List.set_cons_succ, List.set_cons_zero])
        | (apply Pe.WalkT.on (by rfl)
           · intro V hV
             have y0 := hV.cell (j := 1) (v := .int .i64 a0) rfl
             have y1 := hV.cell (j := 2) (v := .int .i64 a1) rfl
             have y2 := hV.cell (j := 3) (v := .int .i64 a2) rfl
             have y3 := hV.cell (j := 4) (v := .int .i64 a3) rfl
             have y4 := hV.cell (j := 5) (v := .int .i64 a4) rfl
             have y5 := hV.cell (j := 6) (v := .int .i64 a5) rfl
             have y6 := hV.cell (j := 7) (v := .int .i64 a6) rfl
             have y7 := hV.cell (j := 8) (v := .int .i64 a7) rfl
             have y8 := hV.cell (j := 9) (v := .int .i64 a8) rfl
             have y9 := hV.cell (j := 10) (v := .int .i64 a9) rfl
             have y10 := hV.cell (j := 11) (v := .int .i64 a10) rfl
             go_wp2_with fail
             refine ⟨rfl, ?_, rfl⟩
             try simp only [Act.put, List.setIfInBounds_toArray, List.set_cons_succ, List.set_cons_zero]
             rfl
           simp only [Act.put, List.setIfInBounds_toArray, List.set_cons_succ, List.set_cons_zero]))
      generalize hWD : wr.drew = WD at *
      clear hWD
      refine Pe.WalkT.make (by rfl) ?_
      intro V hV
      rw [hV]
      clear hV V
      go_wp2_with (go_at_call 29; refine (HLV.out WD hbd).mono ?_; rintro e W1 ⟨rfl, hb1⟩)
      have hO1 := hd0.same hb1
      have hB1 := hb1.mono hsd
      clear hb1 hd0
      have hq1 := hB1.size
      refine ⟨rfl, .agg #[.int .i64 b0, .int .i64 b1, .int .i64 b2, .int .i64 b3], (fun V => Ob V tb 27 #[.string g, .int .i64 a0, .int .i64 a1, .int .i64 a2, .int .i64 a3, .int .i64 a4, .int .i64 a5, .int .i64 a6, .int .i64 a7, .int .i64 a8, .int .i64 a9, .int .i64 a10, .int .i64 0]), (fun V => V = W1), ?_, rfl, (fun V h => by rw [h]; exact hO1), (.inr (fun _ h => h)), ?_⟩
      · try simp only [Act.put, List.setIfInBounds_toArray, List.set_cons_succ, List.set_cons_zero]
      try simp only [Act.put, List.setIfInBounds_toArray, List.set_cons_succ, List.set_cons_zero]
      refine Pe.WalkT.make (by rfl) ?_
      intro V hV
      rw [hV]
      clear hV V
      go_wp2_with (go_at_call 9; refine (glevel_calls a0 a1 a2 a3 b0 b1 b2 b3 W1).mono ?_; rintro e W2 ⟨rfl, hb2⟩)
      have hO2 := hO1.same hb2
      have hB2 := hB1.trans (hb2.mono (by omega))
      have hq2 := hB2.size
      clear hb2 hO1 hB1
      refine ⟨rfl, .agg #[.int .i64 (wrap64 (a0 + b0)), .int .i64 (wrap64 (a1 + b1)), .int .i64 (wrap64 (a2 + b2)), .int .i64 (wrap64 (a3 + b3))], (fun V => Ob V tb 27 #[.string g, .int .i64 a0, .int .i64 a1, .int .i64 a2, .int .i64 a3, .int .i64 a4, .int .i64 a5, .int .i64 a6, .int .i64 a7, .int .i64 a8, .int .i64 a9, .int .i64 a10, .int .i64 0]), (fun V => V = W2), ?_, rfl, (fun V h => by rw [h]; exact hO2), (.inr (fun _ h => h)), ?_⟩
      · try simp only [Act.put, List.setIfInBounds_toArray, List.set_cons_succ, List.set_cons_zero]
      try simp only [Act.put, List.setIfInBounds_toArray, List.set_cons_succ, List.set_cons_zero]
      refine Pe.WalkT.make (by rfl) ?_
      intro V hV
      rw [hV]
      clear hV V
      go_wp2_with (go_at_call 30; refine (HFL.out W2 (hbd.trans (hB2.mono htb))).mono ?_; rintro e W3 ⟨rfl, hb3⟩)
      have hO3 := hO2.same hb3
      have hB3 := hB2.trans (hb3.mono (by omega))
      have hq3 := hB3.size
      clear hb3 hO2 hB2
      refine ⟨rfl, .agg #[.int .i64 b4, .int .i64 b5, .int .i64 b6, .int .i64 b7, .int .i64 b8, .int .i64 b9, .int .i64 b10], (fun V => Ob V tb 27 #[.string g, .int .i64 a0, .int .i64 a1, .int .i64 a2, .int .i64 a3, .int .i64 a4, .int .i64 a5, .int .i64 a6, .int .i64 a7, .int .i64 a8, .int .i64 a9, .int .i64 a10, .int .i64 0]), (fun V => V = W3), ?_, rfl, (fun V h => by rw [h]; exact hO3), (.inr (fun _ h => h)), ?_⟩
      · try simp only [Act.put, List.setIfInBounds_toArray, List.set_cons_succ, List.set_cons_zero]
      try simp only [Act.put, List.setIfInBounds_toArray, List.set_cons_succ, List.set_cons_zero]
      refine Pe.WalkT.make (by rfl) ?_
      intro V hV
      rw [hV]
      clear hV V
      go_wp2_with (go_at_call 11; refine (gflow_calls a4 a5 a6 a7 a8 a9 a10 b4 b5 b6 b7 b8 b9 b10 W3).mono ?_; rintro e W4 ⟨rfl, hb4⟩)
      have hO4 := hO3.same hb4
      have hB4 := hB3.trans (hb4.mono (by omega))
      have hq4 := hB4.size
      clear hb4 hO3 hB3
      refine ⟨rfl, .agg #[.int .i64 (wrap64 (a4 + b4)), .int .i64 (wrap64 (a5 + b5)), .int .i64 (wrap64 (a6 + b6)), .int .i64 (wrap64 (a7 + b7)), .int .i64 (wrap64 (a8 + b8)), .int .i64 (wrap64 (a9 + b9)), .int .i64 (wrap64 (a10 + b10))], (fun V => Ob V tb 27 #[.string g, .int .i64 a0, .int .i64 a1, .int .i64 a2, .int .i64 a3, .int .i64 a4, .int .i64 a5, .int .i64 a6, .int .i64 a7, .int .i64 a8, .int .i64 a9, .int .i64 a10, .int .i64 0]), (fun V => V = W4), ?_, rfl, (fun V h => by rw [h]; exact hO4), (.inr (fun _ h => h)), ?_⟩
      · try simp only [Act.put, List.setIfInBounds_toArray, List.set_cons_succ, List.set_cons_zero]
      try simp only [Act.put, List.setIfInBounds_toArray, List.set_cons_succ, List.set_cons_zero]
      refine Pe.WalkT.make (by rfl) ?_
      intro V hV
      rw [hV]
      clear hV V
      have hth := hO4.there (o := 1) (n := 4) (by simp)
      have hO5 : Ob (W4.setCells tb 1 [.int .i64 (wrap64 (a0 + b0)), .int .i64 (wrap64 (a1 + b1)), .int .i64 (wrap64 (a2 + b2)), .int .i64 (wrap64 (a3 + b3))]) tb 27 #[.string g, .int .i64 (wrap64 (a0 + b0)), .int .i64 (wrap64 (a1 + b1)), .int .i64 (wrap64 (a2 + b2)), .int .i64 (wrap64 (a3 + b3)), .int .i64 a4, .int .i64 a5, .int .i64 a6, .int .i64 a7, .int .i64 a8, .int .i64 a9, .int .i64 a10, .int .i64 0] := hO4.seg [.int .i64 (wrap64 (a0 + b0)), .int .i64 (wrap64 (a1 + b1)), .int .i64 (wrap64 (a2 + b2)), .int .i64 (wrap64 (a3 + b3))] 1
      have hg5 := grownBy_segs (b := tb) [.int .i64 (wrap64 (a0 + b0)), .int .i64 (wrap64 (a1 + b1)), .int .i64 (wrap64 (a2 + b2)), .int .i64 (wrap64 (a3 + b3))] W4 1
      go_wp2_with (refine wpList_store_mid rfl 23 (.tmp 28) (.tmp 21) rfl tb 1 _ rfl rfl hth (by kernel_rfl) (by simp [Value.oneCell']) ?_)
      have hB5 := hB4.grown hg5 (by have := hB4.size; omega) (fun k e => by cases e; exact Nat.le_refl _)
      have he5 : W4.setCells tb 1 (Array.toList (#[.int .i64 (wrap64 (a0 + b0)), .int .i64 (wrap64 (a1 + b1)), .int .i64 (wrap64 (a2 + b2)), .int .i64 (wrap64 (a3 + b3))] : Array Value)) = W4.setCells tb 1 [.int .i64 (wrap64 (a0 + b0)), .int .i64 (wrap64 (a1 + b1)), .int .i64 (wrap64 (a2 + b2)), .int .i64 (wrap64 (a3 + b3))] := rfl
      rw [he5]
      clear hth hg5 he5 hO4 hB4
      generalize W4.setCells tb 1 [.int .i64 (wrap64 (a0 + b0)), .int .i64 (wrap64 (a1 + b1)), .int .i64 (wrap64 (a2 + b2)), .int .i64 (wrap64 (a3 + b3))] = W5 at *
      refine ⟨rfl, undef, (fun V => Ob V tb 27 #[.string g, .int .i64 (wrap64 (a0 + b0)), .int .i64 (wrap64 (a1 + b1)), .int .i64 (wrap64 (a2 + b2)), .int .i64 (wrap64 (a3 + b3)), .int .i64 a4, .int .i64 a5, .int .i64 a6, .int .i64 a7, .int .i64 a8, .int .i64 a9, .int .i64 a10, .int .i64 0]), (fun V => V = W5), rfl, rfl, (fun V h => by rw [h]; exact hO5), (.inl (by kernel_rfl)), ?_⟩
      simp only [Act.put]
      iterate 1 (first
        | (refine Pe.WalkT.off (by rfl) ?_; simp only [Act.put, List.setIfInBounds_toArray, List.set_cons_succ, List.set_cons_zero])
        | (apply Pe.WalkT.on (by rfl)
           · intro V hV
             go_wp2_with fail
             refine ⟨rfl, ?_, rfl⟩
             try simp only [Act.put, List.setIfInBounds_toArray, List.set_cons_succ, List.set_cons_zero]
             rfl
           simp only [Act.put, List.setIfInBounds_toArray, List.set_cons_succ, List.set_cons_zero]))
      refine Pe.WalkT.make (by rfl) ?_
      intro V hV
      rw [hV]
      clear hV V
      have hth := hO5.there (o := 5) (n := 7) (by simp)
      have hO6 : Ob (W5.setCells tb 5 [.int .i64 (wrap64 (a4 + b4)), .int .i64 (wrap64 (a5 + b5)), .int .i64 (wrap64 (a6 + b6)), .int .i64 (wrap64 (a7 + b7)), .int .i64 (wrap64 (a8 + b8)), .int .i64 (wrap64 (a9 + b9)), .int .i64 (wrap64 (a10 + b10))]) tb 27 #[.string g, .int .i64 (wrap64 (a0 + b0)), .int .i64 (wrap64 (a1 + b1)), .int .i64 (wrap64 (a2 + b2)), .int .i64 (wrap64 (a3 + b3)), .int .i64 (wrap64 (a4 + b4)), .int .i64 (wrap64 (a5 + b5)), .int .i64 (wrap64 (a6 + b6)), .int .i64 (wrap64 (a7 + b7)), .int .i64 (wrap64 (a8 + b8)), .int .i64 (wrap64 (a9 + b9)), .int .i64 (wrap64 (a10 + b10)), .int .i64 0] := hO5.seg [.int .i64 (wrap64 (a4 + b4)), .int .i64 (wrap64 (a5 + b5)), .int .i64 (wrap64 (a6 + b6)), .int .i64 (wrap64 (a7 + b7)), .int .i64 (wrap64 (a8 + b8)), .int .i64 (wrap64 (a9 + b9)), .int .i64 (wrap64 (a10 + b10))] 5
      have hg6 := grownBy_segs (b := tb) [.int .i64 (wrap64 (a4 + b4)), .int .i64 (wrap64 (a5 + b5)), .int .i64 (wrap64 (a6 + b6)), .int .i64 (wrap64 (a7 + b7)), .int .i64 (wrap64 (a8 + b8)), .int .i64 (wrap64 (a9 + b9)), .int .i64 (wrap64 (a10 + b10))] W5 5
      go_wp2_with (refine wpList_store_mid rfl 25 (.tmp 29) (.tmp 27) rfl tb 5 _ rfl rfl hth (by kernel_rfl) (by simp [Value.oneCell']) ?_)
      have hB6 := hB5.grown hg6 (by have := hB5.size; omega) (fun k e => by cases e; exact Nat.le_refl _)
      have he6 : W5.setCells tb 5 (Array.toList (#[.int .i64 (wrap64 (a4 + b4)), .int .i64 (wrap64 (a5 + b5)), .int .i64 (wrap64 (a6 + b6)), .int .i64 (wrap64 (a7 + b7)), .int .i64 (wrap64 (a8 + b8)), .int .i64 (wrap64 (a9 + b9)), .int .i64 (wrap64 (a10 + b10))] : Array Value)) = W5.setCells tb 5 [.int .i64 (wrap64 (a4 + b4)), .int .i64 (wrap64 (a5 + b5)), .int .i64 (wrap64 (a6 + b6)), .int .i64 (wrap64 (a7 + b7)), .int .i64 (wrap64 (a8 + b8)), .int .i64 (wrap64 (a9 + b9)), .int .i64 (wrap64 (a10 + b10))] := rfl
      rw [he6]
      clear hth hg6 he6 hO5 hB5
      generalize W5.setCells tb 5 [.int .i64 (wrap64 (a4 + b4)), .int .i64 (wrap64 (a5 + b5)), .int .i64 (wrap64 (a6 + b6)), .int .i64 (wrap64 (a7 + b7)), .int .i64 (wrap64 (a8 + b8)), .int .i64 (wrap64 (a9 + b9)), .int .i64 (wrap64 (a10 + b10))] = W6 at *
      refine ⟨rfl, undef, (fun _ => True), (fun V => V = W6), rfl, rfl, (fun _ _ => trivial), (.inl (by kernel_rfl)), Pe.WalkT.nil ?_⟩
      intro V hV
      rw [hV]
      clear hV V
      simp only [Act.put]
      have hZ6 := hZd.below hB6 (by omega)
      have hb6 := hbd.trans (hB6.mono htb)
      have hsz6 : tb ≤ W6.heap.size := by have := hB6.size; omega
      have HO6 := Lib.hid (show Ob W6 tb 27 (totC g (totR (ss.take (k + 1)) g.data.toList) 0) by rw [HSN.out]; exact hO6)
      have hl6 := hO6.lt
      clear hO6 hB6 hbd
      go_wp2
      go_roundw
      case rel => exact ⟨k + 1, by omega, by go_num, HO6.out, hZ6, hb6, by omega⟩
      case measure => simp [intOf]; omega
    · obtain rfl : k = ss.length := by omega
      rw [List.take_length] at hO
      have hd : decide ((ss.length : Int) < (ss.length : Int)) = false := by simp
      have hd' : decide (ss.length < ss.length) = false := by simp
      have hra := totR_ok ss g.data.toList
      have HTV := Lib.hid (show totV g ss = .agg (totC g (totR ss g.data.toList) (wayT (totR ss g.data.toList))) from rfl)
      generalize totR ss g.data.toList = acc at *
      obtain ⟨a0, a1, a2, a3, a4, a5, a6, a7, a8, a9, a10, rfl⟩ := row_eleven hra
      replace hO : Ob wr (w.heap.size + 1) 27 #[.string g, .int .i64 a0, .int .i64 a1, .int .i64 a2, .int .i64 a3, .int .i64 a4, .int .i64 a5, .int .i64 a6, .int .i64 a7, .int .i64 a8, .int .i64 a9, .int .i64 a10, .int .i64 0] := hO
      have y6 := hO.cell (j := 11) (v := .int .i64 a10) rfl
      have y3 := hO.cell (j := 8) (v := .int .i64 a7) rfl
      have yw := hO.cell (j := 12) (v := .int .i64 0) rfl
      have fw := hO.frozen 12
      have hO7 : Ob (wr.setCell ⟨w.heap.size + 1, 12, none⟩ (.int .i64 (wrap64 (a10 - a7)))) (w.heap.size + 1) 27 #[.string g, .int .i64 a0, .int .i64 a1, .int .i64 a2, .int .i64 a3, .int .i64 a4, .int .i64 a5, .int .i64 a6, .int .i64 a7, .int .i64 a8, .int .i64 a9, .int .i64 a10, .int .i64 (wrap64 (a10 - a7))] := hO.set 12 (.int .i64 (wrap64 (a10 - a7)))
      have hZ7 := hZ.other (b' := w.heap.size + 1) (by omega) 12 (.int .i64 (wrap64 (a10 - a7)))
      have hB7 := hBr.grown (grownBy_set wr (w.heap.size + 1) 12 (.int .i64 (wrap64 (a10 - a7)))) (by omega) (fun k e => by cases e; omega)
      clear hra
      go_wp2_with (first
        | (refine wpList_load_ob rfl 27 (.tmp 5) rfl rfl _ hO7 Try.underlying27 rfl (by kernel_rfl) ?_)
        | (refine wpList_store_ob rfl 27 (.tmp 4) (.tmp 39) rfl rfl rfl hZ7 rfl (by kernel_rfl) (by simp [Value.oneCell']) ?_; intro w9 hO9 hg9))
      have hb9 := hB7.grown hg9 hB7.size (fun k e => by cases e; exact Nat.le_refl _)
      refine bodyPost_ret (v := .agg #[.string g, .int .i64 a0, .int .i64 a1, .int .i64 a2, .int .i64 a3, .int .i64 a4, .int .i64 a5, .int .i64 a6, .int .i64 a7, .int .i64 a8, .int .i64 a9, .int .i64 a10, .int .i64 (wrap64 (a10 - a7))]) ?_ rfl ⟨by rw [HTV.out]; rfl, hb9⟩
      clear y6 y3 yw fw
      have c0 := hO9.cell (j := 0) (v := .string g) rfl
      have c1 := hO9.cell (j := 1) (v := .int .i64 a0) rfl
      have c2 := hO9.cell (j := 2) (v := .int .i64 a1) rfl
      have c3 := hO9.cell (j := 3) (v := .int .i64 a2) rfl
      have c4 := hO9.cell (j := 4) (v := .int .i64 a3) rfl
      have c5 := hO9.cell (j := 5) (v := .int .i64 a4) rfl
      have c6 := hO9.cell (j := 6) (v := .int .i64 a5) rfl
      have c7 := hO9.cell (j := 7) (v := .int .i64 a6) rfl
      have c8 := hO9.cell (j := 8) (v := .int .i64 a7) rfl
      have c9 := hO9.cell (j := 9) (v := .int .i64 a8) rfl
      have c10 := hO9.cell (j := 10) (v := .int .i64 a9) rfl
      have c11 := hO9.cell (j := 11) (v := .int .i64 a10) rfl
      have c12 := hO9.cell (j := 12) (v := .int .i64 (wrap64 (a10 - a7))) rfl
      simp [results, Try.f16, go_sem, c0, c1, c2, c3, c4, c5, c6, c7, c8, c9, c10, c11, c12]
end Sk
end Go.Proofs.Ytlhpdalfnjhokaa
