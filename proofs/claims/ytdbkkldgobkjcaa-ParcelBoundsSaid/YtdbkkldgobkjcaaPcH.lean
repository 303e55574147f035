/-
  parcels: what lives says.
-/
import Derived.Test.YtdbkkldgobkjcaaPcG
namespace Go.Proofs.Ytdbkkldgobkjcaa
open Go.RowKit Go.Maps
namespace Pc
open It Mv

/-- Parcels.All: the receiver is boxed, the function value captures the box -/
theorem all_calls (p : Option Addr) (w : World) :
    Calls Try.prog 35 #[.pointer p] w fun e w' => e = .returned (.func (.func 55) #[] #[.pointer (some ⟨w.heap.size, 0, none⟩)]) ∧ w.alloc (.cells #[.pointer p] 60) = w' := by
  go_enter Try.func35, Try.ntmps35
  go_wp2
  go_ret
  exact ⟨rfl, rfl⟩
def la3 : List It.Item := [(sa, 3)]
theorem fits3 : Fits la3 := by
  intro x hx
  simp only [la3, List.mem_cons, List.not_mem_nil, or_false] at hx
  subst hx
  exact ⟨by decide, by decide, by decide⟩
def r1 (fb : Nat) : Row := ⟨1, la5, [], [], [], fb⟩
def r2 (fb : Nat) : Row := ⟨1, la5, la3, [], [(0, .bool true)], fb⟩
theorem l_open (fb : Nat) : openOf [] 1 la5 fb = ([r1 fb], 0) := by kernel_rfl
theorem l_ship (fb : Nat) : shipOf [r1 fb] 1 0 la3 = ([r2 fb], 0) := by kernel_rfl
theorem l_ship2 (fb : Nat) : shipOf [r2 fb] 1 1 la3 = ([r2 fb], 50) := by kernel_rfl
theorem l_find (fb : Nat) : findR [r2 fb] 1 = some (r2 fb) := by kernel_rfl
theorem l_left (fb : Nat) : leftOf [r2 fb] 1 = la3 := by kernel_rfl
theorem eql_nilP (b : Nat) (w : World) : (binOp .eql 74 (.func (.func 55) #[] #[.pointer (some ⟨b, 0, none⟩)]) .nilFunc).run Try.prog w = .ok (.bool false) w := by kernel_rfl

/-- a literal list of one item -/
theorem lit1 (w : World) (n : Int) (k : Nat) (hk : w.heap.size = k) : ItemsAt (w.alloc (.cells #[.string ⟨#[97]⟩, .int .i64 n] 36)) 0 (w.alloc (.cells #[.string ⟨#[97]⟩, .int .i64 n] 36)).heap.size (.slice (some ⟨k, 0, none⟩) 1 1) [(sa, n)] := by
  subst hk
  have h2 : ItemsAt (w.alloc (.cells #[.string ⟨#[97]⟩, .int .i64 n] 36)) w.heap.size (w.heap.size + 1) (.slice (some ⟨w.heap.size, 0, none⟩) 1 1) [(sa, n)] := Sl.new w #[.string ⟨#[97]⟩, .int .i64 n] 36 (n := 1) rfl (by unfold maxLen; omega)
  exact h2.wide (Nat.zero_le _) (by simp)

set_option maxRecDepth 100000 in
set_option maxHeartbeats 4000000 in
theorem lives_calls (w : World) : Calls Try.prog 29 #[] w fun e w' => e = .returned (.bool true) ∧ Below w.heap.size w w' := by
  have hen := eql_nilP
  have cA := Lib.hid (fun b W => all_calls (some ⟨b, 0, none⟩) W)
  go_enter Try.func29, Try.ntmps29
  go_wp2_with fail
  refine (new_calls w).mono ?_
  rintro e w1 ⟨⟨b, mb, rfl, hM⟩, h1⟩
  replace hM := hM (fun _ => False) (fun _ h => h.elim)
  go_wp2_with fail
  refine (cA.out _ _).mono ?_
  rintro e w2 ⟨rfl, rfl⟩
  have hal := (Below.refl w1.heap.size w1).alloc (Nat.le_refl _) (.cells #[.pointer (some ⟨b, 0, none⟩)] 60)
  have hal2 := hal.alloc hal.size (.cells #[.string ⟨#[97]⟩, .int .i64 5] 36)
  have hM2 := hM.same hal2
  have hB2 := h1.trans (hal2.mono h1.size)
  have hL2 := lit1 (w1.alloc (.cells #[.pointer (some ⟨b, 0, none⟩)] 60)) 5 (w1.heap.size + 1) (by simp)
  go_wp2_with fail
  refine (open_calls 1 la5 _ w.heap.size b mb _ [] _ hM2 hL2 fits5 (by omega) (by omega) hB2.size).mono ?_
  clear hM hal hal2 hL2 h1
  rintro e w3 ⟨⟨fb, rfl, hM3, -⟩, ho3⟩
  rw [l_open] at hM3 ⊢
  have hB3 := ho3.below hM2 (Nat.le_refl _) hB2 (Nat.le_refl _)
  have hal := (Below.refl w3.heap.size w3).alloc (Nat.le_refl _) (.cells #[.string ⟨#[97]⟩, .int .i64 3] 36)
  have hM4 := hM3.same hal
  have hB4 := hB3.trans (hal.mono hB3.size)
  have hL4 := lit1 w3 3 _ rfl
  clear hM2 hB2 ho3
  go_wp2_with fail
  refine (ship_calls 1 0 la3 _ w.heap.size b mb _ _ _ hM4 hL4 fits3 (by omega) (by omega)).mono ?_
  clear hM3 hB3 hal hL4
  rintro e w5 ⟨rfl, hM5, ho5⟩
  rw [l_ship] at hM5 ⊢
  have hB5 := ho5.below hM4 (Nat.le_refl _) hB4 (Nat.le_refl _)
  have hal := (Below.refl w5.heap.size w5).alloc (Nat.le_refl _) (.cells #[.string ⟨#[97]⟩, .int .i64 3] 36)
  have hM6 := hM5.same hal
  have hB6 := hB5.trans (hal.mono hB5.size)
  have hL6 := lit1 w5 3 _ rfl
  clear hM4 hB4 ho5
  go_wp2_with fail
  refine (ship_calls 1 1 la3 _ w.heap.size b mb _ _ _ hM6 hL6 fits3 (by omega) (by omega)).mono ?_
  clear hM5 hB5 hal hL6
  rintro e w7 ⟨rfl, hM7, ho7⟩
  rw [l_ship2] at hM7 ⊢
  have hB7 := ho7.below hM6 (Nat.le_refl _) hB6 (Nat.le_refl _)
  clear hM6 hB6 ho7
  go_wp2_with fail
  have cP := parcel_calls 1 w.heap.size b mb _ _ _ hM7 (by omega) (by omega)
  rw [l_find] at cP
  refine cP.mono ?_
  clear cP
  rintro e w8 ⟨⟨u1, u2, u3, rfl, o1, o2, o3⟩, h8⟩
  have hM8 := hM7.same h8
  have hB8 := hB7.trans (h8.mono hB7.size)
  obtain ⟨B1, d1, rfl, -⟩ := (toAt o1).form
  obtain ⟨B3, d3, rfl, -⟩ := (toAt o3).form
  have I2 : ItemsAt w8 0 w8.heap.size u2 la3 := toAt o2
  obtain ⟨B2, d2, rfl, -⟩ := I2.form
  obtain ⟨p, q, rfl, -, hp, -, hc⟩ := I2.cellAt (j := 0) (by decide)
  have hc1 : w8.cell? ⟨p, q + 1, none⟩ = some (.int .i64 3) := hc
  simp only [Option.getD_some, Option.isSome_some, r2, pclV, List.length_nil]
  rw [show la3.length = 1 from rfl, show la5.length = 1 from rfl]
  have hal := (Below.refl w8.heap.size w8).alloc (Nat.le_refl _) (.cells #[.int .i64 1, .slice B1 1 d1, .slice (some ⟨p, q, none⟩) 1 d2, .slice B3 0 d3] 70)
  have hc2 := (hal.cell (p := ⟨p, q + 1, none⟩) hp).trans hc1
  have hM9 := hM8.same hal
  have hB9 := hB8.trans (hal.mono hB8.size)
  have cL := left_calls 1 w.heap.size b mb _ _ _ hM9 (by omega) (by omega)
  rw [l_left] at cL
  clear hM7 hB7 h8 o1 o2 o3 hM8 hB8 hal hc I2
  go_wp2_with fail
  refine cL.mono ?_
  clear cL
  rintro e w10 ⟨⟨v, rfl, hv⟩, h10⟩
  have hM10 := hM9.same h10
  have hB10 := hB9.trans (h10.mono hB9.size)
  have I10 : ItemsAt w10 0 w10.heap.size v la3 := toAt hv
  obtain ⟨B4, d4, rfl, -⟩ := I10.form
  rw [show la3.length = 1 from rfl]
  clear hM9 hB9 h10 hv I10
  go_wp2_with fail
  refine (len_calls w.heap.size b mb _ _ _ hM10).mono ?_
  rintro e w11 ⟨rfl, rfl⟩
  go_wp2
  go_ret
  exact ⟨rfl, hB10⟩
end Pc
end Go.Proofs.Ytdbkkldgobkjcaa
