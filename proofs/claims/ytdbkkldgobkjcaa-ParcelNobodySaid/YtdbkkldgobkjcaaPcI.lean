/-
  parcels: what nil parcels do; the document's Same.
-/
import Derived.Test.YtdbkkldgobkjcaaPcH
import Derived.Test.YtdbkkldgobkjcaaMvH
namespace Go.Proofs.Ytdbkkldgobkjcaa
open Go.RowKit Go.Maps
namespace Pc
open It Mv
attribute [local go_sem] Oper.semAt_some

theorem open_nil (od : Int) (lv : Value) (w : World) :
    Calls Try.prog 30 #[.pointer none, .int .i64 od, lv] w fun e w' => e = .returned (.int .i64 6) ∧ w = w' := by
  have cM := Lib.hid (made_nil w)
  go_enter Try.func30, Try.ntmps30
  go_wp2_with (go_at_call 50; refine cM.out.mono ?_; rintro e W ⟨rfl, rfl⟩)
  go_ret
  exact ⟨rfl, rfl⟩
theorem len_nil (w : World) :
    Calls Try.prog 38 #[.pointer none] w fun e w' => e = .returned (.int .i64 0) ∧ w = w' := by
  have cM := Lib.hid (made_nil w)
  go_enter Try.func38, Try.ntmps38
  go_wp2_with (go_at_call 50; refine cM.out.mono ?_; rintro e W ⟨rfl, rfl⟩)
  go_ret
  exact ⟨rfl, rfl⟩
set_option maxRecDepth 100000 in
set_option maxHeartbeats 2000000 in
theorem row_nil (od : Int) (lv : Value) (w : World) :
    Calls Try.prog 51 #[.pointer none, .int .i64 od, lv] w fun e w' => e = .returned (.tuple #[zrow, .int .i64 6]) ∧ Below w.heap.size w w' := by
  have cM := Lib.hid (made_nil (w.alloc (.cells #[.int .i64 0, .slice none 0 0, .slice none 0 0, .slice none 0 0, .map none] 96)))
  have hO := Ob.new w 96 #[.int .i64 0, .slice none 0 0, .slice none 0 0, .slice none 0 0, .map none]
  have hal := (Below.refl w.heap.size w).alloc (Nat.le_refl _) (.cells #[.int .i64 0, .slice none 0 0, .slice none 0 0, .slice none 0 0, .map none] 96)
  obtain ⟨q0, q1, q2, q3, q4⟩ := hO.five
  obtain ⟨f0, f1, f2, f3, f4⟩ := hO.free5
  go_enter Try.func51, Try.ntmps51
  go_wp2_with (go_at_call 50; refine cM.out.mono ?_; rintro e W ⟨rfl, rfl⟩)
  refine bodyPost_ret (v := .tuple #[zrow, .int .i64 6]) ?_ rfl ⟨rfl, hal⟩
  simp [results, Try.f51, go_sem, q0, q1, q2, q3, q4, zrow]
theorem ship_nil (od r : Int) (lv : Value) (w : World) :
    Calls Try.prog 31 #[.pointer none, .int .i64 od, .int .i64 r, lv] w fun e w' => e = .returned (.int .i64 6) ∧ Below w.heap.size w w' := by
  have cM := Lib.hid (made_nil w)
  have cR := row_nil od lv w
  simp only [zrow] at cR
  have CR := Lib.hid cR
  clear cR
  go_enter Try.func31, Try.ntmps31
  go_wp2_with (go_at_call 50; refine cM.out.mono ?_; rintro e W ⟨rfl, rfl⟩)
  refine CR.out.mono ?_
  rintro e W ⟨rfl, hb⟩
  go_wp2
  go_ret
  exact ⟨rfl, hb.alloc hb.size _⟩
theorem back_nil (od : Int) (lv : Value) (w : World) :
    Calls Try.prog 32 #[.pointer none, .int .i64 od, lv] w fun e w' => e = .returned (.int .i64 6) ∧ Below w.heap.size w w' := by
  have cR := row_nil od lv w
  simp only [zrow] at cR
  have CR := Lib.hid cR
  clear cR
  go_enter Try.func32, Try.ntmps32
  go_wp2_with fail
  refine CR.out.mono ?_
  rintro e W ⟨rfl, hb⟩
  go_wp2
  go_ret
  exact ⟨rfl, hb.alloc hb.size _⟩
theorem undo_nil (od : Int) (lv : Value) (w : World) :
    Calls Try.prog 33 #[.pointer none, .int .i64 od, lv] w fun e w' => e = .returned (.int .i64 6) ∧ Below w.heap.size w w' := by
  have cR := row_nil od lv w
  simp only [zrow] at cR
  have CR := Lib.hid cR
  clear cR
  go_enter Try.func33, Try.ntmps33
  go_wp2_with fail
  refine CR.out.mono ?_
  rintro e W ⟨rfl, hb⟩
  go_wp2
  go_ret
  exact ⟨rfl, hb.alloc hb.size _⟩
set_option maxRecDepth 100000 in
set_option maxHeartbeats 2000000 in
theorem parcel_nil (od : Int) (w : World) :
    Calls Try.prog 34 #[.pointer none, .int .i64 od] w fun e w' => e = .returned (.tuple #[pclV 0 (.slice none 0 0) (.slice none 0 0) (.slice none 0 0), .bool false]) ∧ Below w.heap.size w w' := by
  have hal := (Below.refl w.heap.size w).alloc (Nat.le_refl _) (.cells #[.int .i64 0, .slice none 0 0, .slice none 0 0, .slice none 0 0] 70)
  have hO1 := Ob.new w 70 #[.int .i64 0, .slice none 0 0, .slice none 0 0, .slice none 0 0]
  have cR := row_nil od (.slice none 0 0) (w.alloc (.cells #[.int .i64 0, .slice none 0 0, .slice none 0 0, .slice none 0 0] 70))
  simp only [zrow] at cR
  have CR := Lib.hid cR
  clear cR
  dsimp only [pclV]
  go_enter Try.func34, Try.ntmps34
  go_wp2_with fail
  refine CR.out.mono ?_
  rintro e W ⟨rfl, hb1⟩
  replace hO1 := hO1.same hb1
  have hB := hal.trans (hb1.mono hal.size)
  obtain ⟨q0, q1, q2, q3⟩ := (hO1.alloc (.cells #[.int .i64 0, .slice none 0 0, .slice none 0 0, .slice none 0 0, .map none] 96)).four
  obtain ⟨f0, f1, f2, f3⟩ := (hO1.alloc (.cells #[.int .i64 0, .slice none 0 0, .slice none 0 0, .slice none 0 0, .map none] 96)).free4
  go_wp2
  have hO2 := (hO1.alloc (.cells #[.int .i64 0, .slice none 0 0, .slice none 0 0, .slice none 0 0, .map none] 96)).set4 (.int .i64 0) (.slice none 0 0) (.slice none 0 0) (.slice none 0 0)
  obtain ⟨p0, p1, p2, p3⟩ := hO2.four
  have hB2 := (hB.alloc hB.size (.cells #[.int .i64 0, .slice none 0 0, .slice none 0 0, .slice none 0 0, .map none] 96)).grown (grown_set4 _ w.heap.size (.int .i64 0) (.slice none 0 0) (.slice none 0 0) (.slice none 0 0)) (by have := hB.size; simp; omega) (fun g e => by have := Option.some.inj e; omega)
  refine bodyPost_ret (v := .tuple #[.agg #[.int .i64 0, .slice none 0 0, .slice none 0 0, .slice none 0 0], .bool false]) ?_ rfl ⟨rfl, hB2⟩
  simp [results, Try.f34, go_sem, p0, p1, p2, p3]
theorem left_nil (od : Int) (w : World) :
    Calls Try.prog 37 #[.pointer none, .int .i64 od] w fun e w' => (∃ v, e = .returned v ∧ w'.ownsRow w.heap.size 36 2 v 0 []) ∧ Below w.heap.size w w' := by
  have cP := Lib.hid (parcel_nil od w)
  have h0 : Fits [] := fun x hx => by cases hx
  go_enter Try.func37, Try.ntmps37
  go_wp2_with fail
  refine cP.out.mono ?_
  rintro e W ⟨rfl, hb1⟩
  dsimp only [pclV]
  have hal := (Below.refl W.heap.size W).alloc (Nat.le_refl _) (.cells #[.int .i64 0, .slice none 0 0, .slice none 0 0, .slice none 0 0] 70)
  have cR := Lib.hid (rest_calls [] [] (.slice none 0 0) (.slice none 0 0) (W.alloc (.cells #[.int .i64 0, .slice none 0 0, .slice none 0 0, .slice none 0 0] 70)) (ItemsAt.nil _ _ _) (ItemsAt.nil _ _ _) h0 h0)
  have hB := hb1.trans (hal.mono hb1.size)
  clear cP
  go_wp2_with fail
  refine cR.out.mono ?_
  rintro e W2 ⟨⟨v, rfl, hv⟩, hb2⟩
  go_wp2
  go_ret
  have e0 : both restF [] [] = [] := by decide +kernel
  rw [e0] at hv
  exact ⟨⟨_, rfl, ownsRow_wide hv hB.size⟩, hB.trans (hb2.mono hB.size)⟩

theorem all_nil (n : Nat) (hn : 1 ≤ n) (Bs : Nat) (w : World) (hbs : Ob w Bs 60 #[.pointer none]) :
    Rr.Reads Fence.wide n Try.prog 55 #[.pointer (some ⟨Bs, 0, none⟩)] (fun (_ : Unit) (_ : Value) (_ : World) => True) (Below w.heap.size) (fun xs => xs = []) (fun _ => False) (fun _ _ => False) w := by
  intro l J Jx W hW hJ hJx hY h0
  have hB := hbs.same hW
  have cB : W.cell? ⟨Bs, 0, none⟩ = some (.pointer none) := hB.cell (j := 0) rfl
  have cM := Lib.hid (made_nil W)
  refine callsIn_of_wp Try.func55 rfl trivial ?_ rfl
  simp only [Try.ntmps55, List.size_toArray, List.length_cons, List.length_nil, Nat.reduceAdd, Nat.reduceSub, Array.replicate_succ, Array.replicate_zero, List.push_toArray, List.append_toArray, List.nil_append, List.cons_append]
  clear hY
  gi_wp2_with (refine ⟨trivial, ?_⟩; gi_at_call 50; refine (callsIn_wide.2 cM.out).mono ?_; rintro e W' ⟨rfl, rfl⟩)
  refine bodyPost_ret (results_none rfl _ _ _) rfl ?_
  exact ⟨⟨_, rfl⟩, .inl ⟨_, rfl, h0⟩⟩

/-- a parcel, as it is asked for -/
structure Pcl where
  od : Int
  wa : List It.Item
  sh : List It.Item
  ba : List It.Item
def sameP (a b : Pcl) : Bool := decide (a.od = b.od) && decide (a.wa = b.wa) && decide (a.sh = b.sh) && decide (a.ba = b.ba)
theorem sameP_iff (a b : Pcl) : sameP a b = true ↔ a = b := by
  obtain ⟨a1, a2, a3, a4⟩ := a
  obtain ⟨b1, b2, b3, b4⟩ := b
  simp [sameP, and_assoc]

set_option maxRecDepth 100000 in
set_option maxHeartbeats 4000000 in
theorem sameP_calls (a b : Pcl) (a1 a2 a3 b1 b2 b3 : Value) (w : World) (ha1 : ItemsAt w 0 w.heap.size a1 a.wa) (ha2 : ItemsAt w 0 w.heap.size a2 a.sh) (ha3 : ItemsAt w 0 w.heap.size a3 a.ba) (hb1 : ItemsAt w 0 w.heap.size b1 b.wa) (hb2 : ItemsAt w 0 w.heap.size b2 b.sh) (hb3 : ItemsAt w 0 w.heap.size b3 b.ba) :
    Calls Try.prog 36 #[pclV a.od a1 a2 a3, pclV b.od b1 b2 b3] w fun e w' => e = .returned (.bool (sameP a b)) ∧ Below w.heap.size w w' := by
  have cS1 := Lib.hid (fun W (h : Below w.heap.size w W) => refsame_calls a.wa b.wa _ _ W (ha1.mono h h.size) (hb1.mono h h.size))
  have cS2 := Lib.hid (fun W (h : Below w.heap.size w W) => refsame_calls a.sh b.sh _ _ W (ha2.mono h h.size) (hb2.mono h h.size))
  have cS3 := Lib.hid (fun W (h : Below w.heap.size w W) => refsame_calls a.ba b.ba _ _ W (ha3.mono h h.size) (hb3.mono h h.size))
  obtain ⟨A1, c1, rfl, -⟩ := ha1.form
  obtain ⟨A2, c2, rfl, -⟩ := ha2.form
  obtain ⟨A3, c3, rfl, -⟩ := ha3.form
  obtain ⟨B1, d1, rfl, -⟩ := hb1.form
  obtain ⟨B2, d2, rfl, -⟩ := hb2.form
  obtain ⟨B3, d3, rfl, -⟩ := hb3.form
  have HSm := Lib.hid (show sameP a b = (decide (a.od = b.od) && decide (a.wa = b.wa) && decide (a.sh = b.sh) && decide (a.ba = b.ba)) from rfl)
  generalize sameP a b = S at *
  generalize decide (a.wa = b.wa) = s1 at *
  generalize decide (a.sh = b.sh) = s2 at *
  generalize decide (a.ba = b.ba) = s3 at *
  generalize a.wa.length = n1 at *
  generalize b.wa.length = m1 at *
  generalize a.sh.length = n2 at *
  generalize b.sh.length = m2 at *
  generalize a.ba.length = n3 at *
  generalize b.ba.length = m3 at *
  generalize a.od = ao at *
  generalize b.od = bo at *
  dsimp only [pclV]
  clear ha1 ha2 ha3 hb1 hb2 hb3
  have hb0 := (Below.refl w.heap.size w).alloc (Nat.le_refl _) (.cells #[.int .i64 ao, .slice A1 n1 c1, .slice A2 n2 c2, .slice A3 n3 c3] 70)
  have hB0 := hb0.alloc hb0.size (.cells #[.int .i64 bo, .slice B1 m1 d1, .slice B2 m2 d2, .slice B3 m3 d3] 70)
  have hO1 := (Ob.new w 70 #[.int .i64 ao, .slice A1 n1 c1, .slice A2 n2 c2, .slice A3 n3 c3]).alloc (.cells #[.int .i64 bo, .slice B1 m1 d1, .slice B2 m2 d2, .slice B3 m3 d3] 70)
  have hO2 := Ob.new (w.alloc (.cells #[.int .i64 ao, .slice A1 n1 c1, .slice A2 n2 c2, .slice A3 n3 c3] 70)) 70 #[.int .i64 bo, .slice B1 m1 d1, .slice B2 m2 d2, .slice B3 m3 d3]
  simp only [World.size_alloc] at hO2
  have CS1 := Lib.hid (cS1.out _ hB0)
  clear hb0
  by_cases e1 : ao = bo
  case neg =>
    have q1 : (ao == bo) = false := by simpa using e1
    obtain rfl : S = false := by rw [HSm.out]; simp [e1]
    clear hO1 hO2
    go_enter Try.func36, Try.ntmps36
    go_wp2
    go_ret
    exact ⟨rfl, hB0⟩
  case pos =>
  subst e1
  have HS2 := Lib.hid (show S = (s1 && s2 && s3) by rw [HSm.out]; simp)
  clear HSm
  cases s1 with
  | false =>
    obtain rfl : S = false := by rw [HS2.out]; simp
    clear hO1 hO2
    go_enter Try.func36, Try.ntmps36
    go_wp2_with (go_at_call 16; refine CS1.out.mono ?_; rintro e W ⟨rfl, hb1⟩)
    go_ret
    exact ⟨rfl, hB0.trans (hb1.mono hB0.size)⟩
  | true =>
    go_enter Try.func36, Try.ntmps36
    go_wp2_with fail
    refine CS1.out.mono ?_
    rintro e W ⟨rfl, hb1⟩
    have hB1 := hB0.trans (hb1.mono hB0.size)
    replace hO1 := hO1.same hb1
    replace hO2 := hO2.same hb1
    have CS2 := Lib.hid (cS2.out _ hB1)
    clear CS1 hb1
    obtain ⟨q0, q1, q2, q3⟩ := hO1.four
    obtain ⟨p0, p1, p2, p3⟩ := hO2.four
    cases s2 with
    | false =>
      obtain rfl : S = false := by rw [HS2.out]; simp
      go_wp2_with (go_at_call 16; refine CS2.out.mono ?_; rintro e W2 ⟨rfl, hb1⟩)
      go_ret
      exact ⟨rfl, hB1.trans (hb1.mono hB1.size)⟩
    | true =>
      go_wp2_with fail
      refine CS2.out.mono ?_
      rintro e W2 ⟨rfl, hb1⟩
      have hB2 := hB1.trans (hb1.mono hB1.size)
      replace hO1 := hO1.same hb1
      replace hO2 := hO2.same hb1
      have CS3 := Lib.hid (cS3.out _ hB2)
      clear CS2 hb1 q0 q1 q2 q3 p0 p1 p2 p3
      obtain ⟨q0, q1, q2, q3⟩ := hO1.four
      obtain ⟨p0, p1, p2, p3⟩ := hO2.four
      obtain rfl : S = s3 := by rw [HS2.out]; simp
      go_wp2_with fail
      refine CS3.out.mono ?_
      rintro e W3 ⟨rfl, hb1⟩
      go_wp2
      go_ret
      exact ⟨rfl, hB2.trans (hb1.mono hB2.size)⟩
end Pc
end Go.Proofs.Ytdbkkldgobkjcaa
