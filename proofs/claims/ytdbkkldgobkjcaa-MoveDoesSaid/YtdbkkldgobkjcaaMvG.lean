/-
  moves: what lives says.
-/
import Derived.Test.YtdbkkldgobkjcaaMvF
import Derived.Test.YtdbkkldgobkjcaaItQ
namespace Go.Proofs.Ytdbkkldgobkjcaa
open Go.RowKit Go.Maps
namespace Mv
open It

theorem past {w w' : World} {lo mb : Nat} {v : Value} {l : List It.Item} (h : ItemsAt w lo w.heap.size v l) (hg : w.grownBy w' (some mb)) (hlt : mb < lo) : ItemsAt w' lo w'.heap.size v l :=
  (Sl.grown h hg (Nat.le_refl _) (fun k e => by cases e; exact .inl hlt)).wide (Nat.le_refl _) hg.size
theorem below_far {B : Nat} {w w' w2 : World} {mb : Nat} (h : Below B w w') (hg : w'.grownBy w2 (some mb)) (hB : B ≤ w.heap.size) (hm : B ≤ mb) : Below B w w2 := h.grown hg (Nat.le_trans hB h.size) (fun k e => by cases e; exact hm)

def la5 : List It.Item := [(sa, 5)]
def d15 : Way := ⟨1, 0, 2, la5, false⟩
def d15c : Way := ⟨1, 0, 2, la5, true⟩
theorem fits5 : Fits la5 := by
  intro x hx
  simp only [la5, List.mem_cons, List.not_mem_nil, or_false] at hx
  subst hx
  exact ⟨by decide, by decide, by decide⟩
theorem l_go : goOf [] 1 0 2 la5 = ([d15], 0) := by kernel_rfl
theorem l_under : underOf 0 2 [d15] = la5 := by kernel_rfl
theorem l_come : comeOf [d15] 1 = ([d15c], la5, 0) := by kernel_rfl
theorem l_come2 : comeOf [d15c] 1 = ([d15c], [], 5) := by kernel_rfl
theorem l_forget : forgetOf [d15c] 2 = ([d15c], 4) := by kernel_rfl
theorem l_under2 : underOf 0 2 [d15c] = [] := by kernel_rfl
theorem eql_nil (b : Nat) (w : World) : (binOp .eql 55 (.func (.func 47) #[] #[.pointer (some ⟨b, 0, none⟩)]) .nilFunc).run Try.prog w = .ok (.bool false) w := by kernel_rfl

set_option maxRecDepth 100000 in
set_option maxHeartbeats 4000000 in
theorem lives_calls (w : World) : Calls Try.prog 11 #[] w fun e w' => e = .returned (.bool true) ∧ Below w.heap.size w w' := by
  have hen := eql_nil
  have cA := Lib.hid (fun b W => all_calls (some ⟨b, 0, none⟩) W)
  go_enter Try.func11, Try.ntmps11
  go_wp2_with fail
  refine (new_calls w).mono ?_
  rintro e w1 ⟨⟨b, mb, rfl, hlb, hlm, hM⟩, h1⟩
  replace hM := hM (fun _ => False) (fun _ h => h.elim)
  go_wp2_with fail
  refine (cA.out _ _).mono ?_
  rintro e w2 ⟨rfl, rfl⟩
  go_wp2_with fail
  have hB3 : Below w.heap.size w ((w1.alloc (.cells #[.pointer (some ⟨b, 0, none⟩)] 23)).alloc (.cells #[.string ⟨#[97]⟩, .int .i64 5] 36)) := (h1.alloc h1.size _).alloc (by have := h1.size; simp; omega) _
  have hM3 : MvAt ((w1.alloc (.cells #[.pointer (some ⟨b, 0, none⟩)] 23)).alloc (.cells #[.string ⟨#[97]⟩, .int .i64 5] 36)) b mb (fun _ => False) [] := hM.same (((Below.refl _ w1).alloc (Nat.le_refl _) _).alloc (by simp) _)
  have hlo : mb < w1.heap.size + 1 := by have := hM.map; obtain ⟨m, hm, _⟩ := this; have := hm.lt; omega
  have hL3 : ItemsAt ((w1.alloc (.cells #[.pointer (some ⟨b, 0, none⟩)] 23)).alloc (.cells #[.string ⟨#[97]⟩, .int .i64 5] 36)) (w1.heap.size + 1) ((w1.alloc (.cells #[.pointer (some ⟨b, 0, none⟩)] 23)).alloc (.cells #[.string ⟨#[97]⟩, .int .i64 5] 36)).heap.size (.slice (some ⟨w1.heap.size + 1, 0, none⟩) 1 1) la5 := by
    have h2 : ItemsAt ((w1.alloc (.cells #[.pointer (some ⟨b, 0, none⟩)] 23)).alloc (.cells #[.string ⟨#[97]⟩, .int .i64 5] 36)) (w1.alloc (.cells #[.pointer (some ⟨b, 0, none⟩)] 23)).heap.size ((w1.alloc (.cells #[.pointer (some ⟨b, 0, none⟩)] 23)).heap.size + 1) (.slice (some ⟨(w1.alloc (.cells #[.pointer (some ⟨b, 0, none⟩)] 23)).heap.size, 0, none⟩) 1 1) la5 := Sl.new (w1.alloc (.cells #[.pointer (some ⟨b, 0, none⟩)] 23)) #[.string ⟨#[97]⟩, .int .i64 5] 36 (n := 1) rfl (by unfold maxLen; omega)
    rw [World.size_alloc] at h2
    exact h2.wide (Nat.le_refl _) (by simp)
  have hs1 := h1.size
  have hwz : ((w1.alloc (.cells #[.pointer (some ⟨b, 0, none⟩)] 23)).alloc (.cells #[.string ⟨#[97]⟩, .int .i64 5] 36)).heap.size = w1.heap.size + 2 := by simp
  have hp0 : w.heap.size + 0 ≤ mb := hlm
  generalize hlv : Value.slice (some ⟨w1.heap.size + 1, 0, none⟩) 1 1 = lv at *
  generalize ((w1.alloc (.cells #[.pointer (some ⟨b, 0, none⟩)] 23)).alloc (.cells #[.string ⟨#[97]⟩, .int .i64 5] 36)) = w3 at *
  clear hM h1
  have cG := go_calls 1 0 2 la5 lv b mb _ [] w3 hM3 (hL3.wide (Nat.zero_le _) (Nat.le_refl _)) fits5 (by omega) (by omega)
  rw [l_go] at cG
  refine cG.mono ?_
  clear cG hM3
  rintro e w4 ⟨rfl, hM4, hg4⟩
  have hL4 := past hL3 hg4 hlo
  have hB4 := below_far hB3 hg4 (Nat.le_refl _) hlm
  have hs4 := hg4.size
  clear hL3 hB3 hg4
  subst hlv
  go_wp2_with fail
  have cU := under_calls 0 2 b mb _ [d15] w4 hM4
  rw [l_under] at cU
  refine cU.mono ?_
  clear cU
  rintro e w5 ⟨⟨uv, rfl, hu⟩, h5⟩
  have hM5 := hM4.same h5
  have hL5 := hL4.mono h5 h5.size
  have hB5 := hB4.trans (h5.mono hB4.size)
  have hs5 := h5.size
  have hU5 := ItemsAt.of_own hu
  clear hM4 hL4 hB4 h5 hu
  obtain ⟨Au, cu, rfl, -⟩ := hU5.form
  go_wp2_with fail
  have cC := come_calls 1 b mb _ [d15] w5 hM5 (by omega) (by omega)
  rw [l_come] at cC
  refine cC.mono ?_
  clear cC hM5
  rintro e w6 ⟨⟨xv, rfl, hx⟩, hM6, hg6⟩
  have hL6 := past hL5 hg6 hlo
  have hU6 := past hU5 hg6 (by omega)
  have hB6 := below_far hB5 hg6 (Nat.le_refl _) hlm
  have hs6 := hg6.size
  have hX6 := ItemsAt.of_own hx
  clear hL5 hU5 hB5 hg6 hx
  obtain ⟨Ax, cx, rfl, -⟩ := hX6.form
  go_wp2_with fail
  have cC := come_calls 1 b mb _ [d15c] w6 hM6 (by omega) (by omega)
  rw [l_come2] at cC
  refine cC.mono ?_
  clear cC hM6
  rintro e w7 ⟨⟨yv, rfl, hy⟩, hM7, hg7⟩
  have hL7 := past hL6 hg7 hlo
  have hU7 := past hU6 hg7 (by omega)
  have hX7 := past hX6 hg7 (by omega)
  have hB7 := below_far hB6 hg7 (Nat.le_refl _) hlm
  have hY7 := ItemsAt.of_own hy
  clear hL6 hU6 hX6 hB6 hg7 hy
  obtain ⟨Ay, cy, rfl, -⟩ := hY7.form
  clear hY7
  go_wp2_with fail
  refine (refsame_calls la5 la5 _ _ _ (hU7.wide (Nat.zero_le _) (Nat.le_refl _)) (hL7.wide (Nat.zero_le _) (Nat.le_refl _))).mono ?_
  rintro e w8 ⟨rfl, h8⟩
  have hM8 := hM7.same h8
  have hL8 := hL7.mono h8 h8.size
  have hX8 := hX7.mono h8 h8.size
  have hB8 := hB7.trans (h8.mono hB7.size)
  clear hM7 hL7 hX7 hB7 h8 hU7
  simp only [decide_true]
  go_wp2_with fail
  refine (refsame_calls la5 la5 _ _ _ (hX8.wide (Nat.zero_le _) (Nat.le_refl _)) (hL8.wide (Nat.zero_le _) (Nat.le_refl _))).mono ?_
  rintro e w9 ⟨rfl, h9⟩
  have hM9 := hM8.same h9
  have hB9 := hB8.trans (h9.mono hB8.size)
  clear hM8 hL8 hX8 hB8 h9
  simp only [decide_true]
  go_wp2_with fail
  refine (len_calls b mb _ _ _ hM9).mono ?_
  rintro e w10 ⟨rfl, rfl⟩
  go_wp2_with fail
  have cF := forget_calls 2 b mb _ _ _ hM9 (by omega) (by omega)
  rw [l_forget] at cF
  refine cF.mono ?_
  clear cF hM9
  rintro e w11 ⟨rfl, hM11, hg11⟩
  have hB11 := below_far hB9 hg11 (Nat.le_refl _) hlm
  clear hB9 hg11
  go_wp2_with fail
  have cU := under_calls 0 2 b mb _ _ _ hM11
  rw [l_under2] at cU
  refine cU.mono ?_
  clear cU
  rintro e w12 ⟨⟨uv, rfl, hu⟩, h12⟩
  have hB12 := hB11.trans (h12.mono hB11.size)
  have hU12 := ItemsAt.of_own hu
  clear hM11 hB11 h12 hu
  obtain ⟨Av, cv, rfl, -⟩ := hU12.form
  go_wp2
  go_ret
  exact ⟨rfl, hB12⟩
end Mv
end Go.Proofs.Ytdbkkldgobkjcaa
