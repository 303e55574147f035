/-
  a stock of goods: Level, Flow.
-/
import Derived.Test.YtlhpdalfnjhokaaSkE
namespace Go.Proofs.Ytlhpdalfnjhokaa
open Go.RowKit Go.Maps
namespace Sk
open It Al
def lvV (r : Row) : Value := .agg #[.int .i64 (at_ r 0), .int .i64 (at_ r 1), .int .i64 (at_ r 2), .int .i64 (at_ r 3)]
def flV (r : Row) : Value := .agg #[.int .i64 (at_ r 4), .int .i64 (at_ r 5), .int .i64 (at_ r 6), .int .i64 (at_ r 7), .int .i64 (at_ r 8), .int .i64 (at_ r 9), .int .i64 (at_ r 10)]
theorem row_eleven {r : Row} (h : OkRow r) : ∃ a0 a1 a2 a3 a4 a5 a6 a7 a8 a9 a10, r = [a0, a1, a2, a3, a4, a5, a6, a7, a8, a9, a10] := by
  have hl := h.len
  match r, hl with
  | [a0, a1, a2, a3, a4, a5, a6, a7, a8, a9, a10], _ => exact ⟨a0, a1, a2, a3, a4, a5, a6, a7, a8, a9, a10, rfl⟩
section
variable {w : World} {base b mb : Nat} {s : Stk}
theorem level_field (a0 a1 a2 a3 a4 a5 a6 a7 a8 a9 a10 : Int) (W : World) : (Instr.field 84 (.agg #[.int .i64 a0, .int .i64 a1, .int .i64 a2, .int .i64 a3, .int .i64 a4, .int .i64 a5, .int .i64 a6, .int .i64 a7, .int .i64 a8, .int .i64 a9, .int .i64 a10]) 0).run Try.prog W = .ok (.agg #[.int .i64 a0, .int .i64 a1, .int .i64 a2, .int .i64 a3]) W := by kernel_rfl
set_option maxRecDepth 100000 in
set_option maxHeartbeats 4000000 in
theorem level_calls (h : StkAt w base b mb s) (g : ByteArray) (hg : g.size ≤ maxLen) :
    Calls Try.prog 29 #[.pointer (some ⟨b, 0, none⟩), .string g] w fun e w' => e = .returned (lvV ((aGet s g.data.toList).getD row0)) ∧ Below w.heap.size w w' := by
  have hro := h.row g.data.toList
  obtain ⟨hl1, -⟩ := look_row s g.data.toList
  have hkey := Lib.hid (key_str hg)
  obtain ⟨r, hr⟩ : ∃ r, r = (aGet s g.data.toList).getD row0 := ⟨_, rfl⟩
  rw [← hr] at hro hl1 ⊢
  obtain ⟨a0, a1, a2, a3, a4, a5, a6, a7, a8, a9, a10, rfl⟩ := row_eleven hro
  have HL1 := Lib.hid (show (mGet (gm rowV s) g.data.toList).getD (rowV row0) = .agg #[.int .i64 a0, .int .i64 a1, .int .i64 a2, .int .i64 a3, .int .i64 a4, .int .i64 a5, .int .i64 a6, .int .i64 a7, .int .i64 a8, .int .i64 a9, .int .i64 a10] from hl1)
  have hal := (Below.refl w.heap.size w).alloc (Nat.le_refl _) (.cells #[.int .i64 0, .int .i64 0, .int .i64 0, .int .i64 0] 23)
  have h2 := h.same hal
  have z0 := h2.ob.cell (j := 0) (v := .map (some mb)) rfl
  have hgm := h2.map
  have hO := Ob.new w 23 #[.int .i64 0, .int .i64 0, .int .i64 0, .int .i64 0]
  have cM := Lib.hid (made_calls b mb _ z0)
  clear hr hl1 hro h
  go_enter Try.func29, Try.ntmps29
  go_wp2_with fail
  refine cM.out.mono ?_
  rintro e W ⟨rfl, rfl⟩
  clear cM
  generalize w.alloc (.cells #[.int .i64 0, .int .i64 0, .int .i64 0, .int .i64 0] 23) = w2 at *
  have f0 := hO.frozen 0
  have g0 := hO.cell (j := 0) (v := .int .i64 0) rfl
  have g1 := hO.cell (j := 1) (v := .int .i64 0) rfl
  have g2 := hO.cell (j := 2) (v := .int .i64 0) rfl
  have g3 := hO.cell (j := 3) (v := .int .i64 0) rfl
  have hfld := fun W => level_field a0 a1 a2 a3 a4 a5 a6 a7 a8 a9 a10 W
  go_wp2_with (first
    | (at_lookup; refine wpList_look_g rfl (.tmp 12) (.tmp 13) _ rfl 9 _ keyedS Try.underlying80 rfl hgm (zeroRow _) _ _ rfl hkey.out _ HL1.out ?_)
    | (refine wpList_store_ob rfl 23 (.tmp 4) (.tmp 15) rfl rfl rfl hO rfl (by kernel_rfl) (by simp [Value.oneCell']) ?_; intro w4 hO4 hg4))
  have hb4 := hal.grown hg4 hal.size (fun k e => by cases e; exact Nat.le_refl _)
  refine bodyPost_ret (v := .agg #[.int .i64 a0, .int .i64 a1, .int .i64 a2, .int .i64 a3]) ?_ rfl ⟨rfl, hb4⟩
  clear f0 g0 g1 g2 g3
  have c0 := hO4.cell (j := 0) (v := .int .i64 a0) rfl
  have c1 := hO4.cell (j := 1) (v := .int .i64 a1) rfl
  have c2 := hO4.cell (j := 2) (v := .int .i64 a2) rfl
  have c3 := hO4.cell (j := 3) (v := .int .i64 a3) rfl
  simp [results, Try.f29, go_sem, c0, c1, c2, c3]
theorem level_nil (g : ByteArray) (w : World) : Calls Try.prog 29 #[.pointer none, .string g] w fun e w' => e = .returned (lvV row0) ∧ Below w.heap.size w w' := by
  have cM := Lib.hid (made_nil (w.alloc (.cells #[.int .i64 0, .int .i64 0, .int .i64 0, .int .i64 0] 23)))
  have hal := (Below.refl w.heap.size w).alloc (Nat.le_refl _) (.cells #[.int .i64 0, .int .i64 0, .int .i64 0, .int .i64 0] 23)
  have hO := Ob.new w 23 #[.int .i64 0, .int .i64 0, .int .i64 0, .int .i64 0]
  go_enter Try.func29, Try.ntmps29
  go_wp2_with fail
  refine cM.out.mono ?_
  rintro e W ⟨rfl, rfl⟩
  clear cM
  generalize w.alloc (.cells #[.int .i64 0, .int .i64 0, .int .i64 0, .int .i64 0] 23) = w2 at *
  have f0 := hO.frozen 0
  have g0 := hO.cell (j := 0) (v := .int .i64 0) rfl
  have g1 := hO.cell (j := 1) (v := .int .i64 0) rfl
  have g2 := hO.cell (j := 2) (v := .int .i64 0) rfl
  have g3 := hO.cell (j := 3) (v := .int .i64 0) rfl
  go_wp2_with (refine wpList_store_ob rfl 23 (.tmp 4) (.tmp 8) rfl rfl rfl hO rfl (by kernel_rfl) (by simp [Value.oneCell']) ?_; intro w4 hO4 hg4)
  have hb4 := hal.grown hg4 hal.size (fun k e => by cases e; exact Nat.le_refl _)
  refine bodyPost_ret (v := .agg #[.int .i64 0, .int .i64 0, .int .i64 0, .int .i64 0]) ?_ rfl ⟨rfl, hb4⟩
  clear f0 g0 g1 g2 g3
  have c0 := hO4.cell (j := 0) (v := .int .i64 0) rfl
  have c1 := hO4.cell (j := 1) (v := .int .i64 0) rfl
  have c2 := hO4.cell (j := 2) (v := .int .i64 0) rfl
  have c3 := hO4.cell (j := 3) (v := .int .i64 0) rfl
  simp [results, Try.f29, go_sem, c0, c1, c2, c3]
theorem flow_field (a0 a1 a2 a3 a4 a5 a6 a7 a8 a9 a10 : Int) (W : World) : (Instr.field 84 (.agg #[.int .i64 a0, .int .i64 a1, .int .i64 a2, .int .i64 a3, .int .i64 a4, .int .i64 a5, .int .i64 a6, .int .i64 a7, .int .i64 a8, .int .i64 a9, .int .i64 a10]) 1).run Try.prog W = .ok (.agg #[.int .i64 a4, .int .i64 a5, .int .i64 a6, .int .i64 a7, .int .i64 a8, .int .i64 a9, .int .i64 a10]) W := by kernel_rfl
set_option maxRecDepth 100000 in
set_option maxHeartbeats 4000000 in
theorem flow_calls (h : StkAt w base b mb s) (g : ByteArray) (hg : g.size ≤ maxLen) :
    Calls Try.prog 30 #[.pointer (some ⟨b, 0, none⟩), .string g] w fun e w' => e = .returned (flV ((aGet s g.data.toList).getD row0)) ∧ Below w.heap.size w w' := by
  have hro := h.row g.data.toList
  obtain ⟨hl1, -⟩ := look_row s g.data.toList
  have hkey := Lib.hid (key_str hg)
  obtain ⟨r, hr⟩ : ∃ r, r = (aGet s g.data.toList).getD row0 := ⟨_, rfl⟩
  rw [← hr] at hro hl1 ⊢
  obtain ⟨a0, a1, a2, a3, a4, a5, a6, a7, a8, a9, a10, rfl⟩ := row_eleven hro
  have HL1 := Lib.hid (show (mGet (gm rowV s) g.data.toList).getD (rowV row0) = .agg #[.int .i64 a0, .int .i64 a1, .int .i64 a2, .int .i64 a3, .int .i64 a4, .int .i64 a5, .int .i64 a6, .int .i64 a7, .int .i64 a8, .int .i64 a9, .int .i64 a10] from hl1)
  have hal := (Below.refl w.heap.size w).alloc (Nat.le_refl _) (.cells #[.int .i64 0, .int .i64 0, .int .i64 0, .int .i64 0, .int .i64 0, .int .i64 0, .int .i64 0] 25)
  have h2 := h.same hal
  have z0 := h2.ob.cell (j := 0) (v := .map (some mb)) rfl
  have hgm := h2.map
  have hO := Ob.new w 25 #[.int .i64 0, .int .i64 0, .int .i64 0, .int .i64 0, .int .i64 0, .int .i64 0, .int .i64 0]
  have cM := Lib.hid (made_calls b mb _ z0)
  clear hr hl1 hro h
  go_enter Try.func30, Try.ntmps30
  go_wp2_with fail
  refine cM.out.mono ?_
  rintro e W ⟨rfl, rfl⟩
  clear cM
  generalize w.alloc (.cells #[.int .i64 0, .int .i64 0, .int .i64 0, .int .i64 0, .int .i64 0, .int .i64 0, .int .i64 0] 25) = w2 at *
  have f0 := hO.frozen 0
  have g0 := hO.cell (j := 0) (v := .int .i64 0) rfl
  have g1 := hO.cell (j := 1) (v := .int .i64 0) rfl
  have g2 := hO.cell (j := 2) (v := .int .i64 0) rfl
  have g3 := hO.cell (j := 3) (v := .int .i64 0) rfl
  have g4 := hO.cell (j := 4) (v := .int .i64 0) rfl
  have g5 := hO.cell (j := 5) (v := .int .i64 0) rfl
  have g6 := hO.cell (j := 6) (v := .int .i64 0) rfl
  have hfld := fun W => flow_field a0 a1 a2 a3 a4 a5 a6 a7 a8 a9 a10 W
  go_wp2_with (first
    | (at_lookup; refine wpList_look_g rfl (.tmp 12) (.tmp 13) _ rfl 9 _ keyedS Try.underlying80 rfl hgm (zeroRow _) _ _ rfl hkey.out _ HL1.out ?_)
    | (refine wpList_store_ob rfl 25 (.tmp 4) (.tmp 15) rfl rfl rfl hO rfl (by kernel_rfl) (by simp [Value.oneCell']) ?_; intro w4 hO4 hg4))
  have hb4 := hal.grown hg4 hal.size (fun k e => by cases e; exact Nat.le_refl _)
  refine bodyPost_ret (v := .agg #[.int .i64 a4, .int .i64 a5, .int .i64 a6, .int .i64 a7, .int .i64 a8, .int .i64 a9, .int .i64 a10]) ?_ rfl ⟨rfl, hb4⟩
  clear f0 g0 g1 g2 g3 g4 g5 g6
  have c0 := hO4.cell (j := 0) (v := .int .i64 a4) rfl
  have c1 := hO4.cell (j := 1) (v := .int .i64 a5) rfl
  have c2 := hO4.cell (j := 2) (v := .int .i64 a6) rfl
  have c3 := hO4.cell (j := 3) (v := .int .i64 a7) rfl
  have c4 := hO4.cell (j := 4) (v := .int .i64 a8) rfl
  have c5 := hO4.cell (j := 5) (v := .int .i64 a9) rfl
  have c6 := hO4.cell (j := 6) (v := .int .i64 a10) rfl
  simp [results, Try.f30, go_sem, c0, c1, c2, c3, c4, c5, c6]
theorem flow_nil (g : ByteArray) (w : World) : Calls Try.prog 30 #[.pointer none, .string g] w fun e w' => e = .returned (flV row0) ∧ Below w.heap.size w w' := by
  have cM := Lib.hid (made_nil (w.alloc (.cells #[.int .i64 0, .int .i64 0, .int .i64 0, .int .i64 0, .int .i64 0, .int .i64 0, .int .i64 0] 25)))
  have hal := (Below.refl w.heap.size w).alloc (Nat.le_refl _) (.cells #[.int .i64 0, .int .i64 0, .int .i64 0, .int .i64 0, .int .i64 0, .int .i64 0, .int .i64 0] 25)
  have hO := Ob.new w 25 #[.int .i64 0, .int .i64 0, .int .i64 0, .int .i64 0, .int .i64 0, .int .i64 0, .int .i64 0]
  go_enter Try.func30, Try.ntmps30
  go_wp2_with fail
  refine cM.out.mono ?_
  rintro e W ⟨rfl, rfl⟩
  clear cM
  generalize w.alloc (.cells #[.int .i64 0, .int .i64 0, .int .i64 0, .int .i64 0, .int .i64 0, .int .i64 0, .int .i64 0] 25) = w2 at *
  have f0 := hO.frozen 0
  have g0 := hO.cell (j := 0) (v := .int .i64 0) rfl
  have g1 := hO.cell (j := 1) (v := .int .i64 0) rfl
  have g2 := hO.cell (j := 2) (v := .int .i64 0) rfl
  have g3 := hO.cell (j := 3) (v := .int .i64 0) rfl
  have g4 := hO.cell (j := 4) (v := .int .i64 0) rfl
  have g5 := hO.cell (j := 5) (v := .int .i64 0) rfl
  have g6 := hO.cell (j := 6) (v := .int .i64 0) rfl
  go_wp2_with (refine wpList_store_ob rfl 25 (.tmp 4) (.tmp 8) rfl rfl rfl hO rfl (by kernel_rfl) (by simp [Value.oneCell']) ?_; intro w4 hO4 hg4)
  have hb4 := hal.grown hg4 hal.size (fun k e => by cases e; exact Nat.le_refl _)
  refine bodyPost_ret (v := .agg #[.int .i64 0, .int .i64 0, .int .i64 0, .int .i64 0, .int .i64 0, .int .i64 0, .int .i64 0]) ?_ rfl ⟨rfl, hb4⟩
  clear f0 g0 g1 g2 g3 g4 g5 g6
  have c0 := hO4.cell (j := 0) (v := .int .i64 0) rfl
  have c1 := hO4.cell (j := 1) (v := .int .i64 0) rfl
  have c2 := hO4.cell (j := 2) (v := .int .i64 0) rfl
  have c3 := hO4.cell (j := 3) (v := .int .i64 0) rfl
  have c4 := hO4.cell (j := 4) (v := .int .i64 0) rfl
  have c5 := hO4.cell (j := 5) (v := .int .i64 0) rfl
  have c6 := hO4.cell (j := 6) (v := .int .i64 0) rfl
  simp [results, Try.f30, go_sem, c0, c1, c2, c3, c4, c5, c6]
end
end Sk
end Go.Proofs.Ytlhpdalfnjhokaa
