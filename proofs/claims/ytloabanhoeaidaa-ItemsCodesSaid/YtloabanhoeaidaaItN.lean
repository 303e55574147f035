/-
  items: what lives says.
-/
import Derived.Test.YtloabanhoeaidaaItM
namespace Go.Proofs.Ytloabanhoeaidaa
open Go.RowKit Go.Maps
namespace It

def sa : ByteArray := ⟨#[97]⟩
def sb : ByteArray := ⟨#[98]⟩
def sc : ByteArray := ⟨#[99]⟩
def la : List Item := [(sa, 3), (sb, 2)]
def lb : List Item := [(sa, 1), (sc, 5)]
theorem l_meet : both meetF la lb = [(sa, 1)] := by kernel_rfl
theorem l_rest : both restF la lb = [(sa, 2), (sb, 2)] := by kernel_rfl
theorem l_plus : plusOf la lb = ([(sa, 4), (sb, 2), (sc, 5)], 0) := by kernel_rfl
theorem l_minus : minusOf la lb = ([], 51) := by kernel_rfl
theorem l_covers : covers la [(sa, 1)] = true := by kernel_rfl
theorem l_of : ofSum sb la = 2 := by kernel_rfl
theorem l_may : may la = true := by kernel_rfl
theorem fitsA : Fits la := by
  intro x hx
  simp only [la, List.mem_cons, List.not_mem_nil, or_false] at hx
  rcases hx with rfl | rfl <;> exact ⟨by simp [sa, sb, ByteArray.size, maxLen], by omega, by omega⟩
theorem fitsB : Fits lb := by
  intro x hx
  simp only [lb, List.mem_cons, List.not_mem_nil, or_false] at hx
  rcases hx with rfl | rfl <;> exact ⟨by simp [sa, sc, ByteArray.size, maxLen], by omega, by omega⟩
theorem fitsM : Fits [(sa, 1)] := by
  intro x hx
  simp only [List.mem_cons, List.not_mem_nil, or_false] at hx
  rcases hx with rfl
  exact ⟨by simp [sa, ByteArray.size, maxLen], by omega, by omega⟩

theorem neq_nil (b : Nat) (w : World) : (binOp .neq 58 (.func (.func 63) #[] #[.pointer (some ⟨b, 0, none⟩)]) .nilFunc).run Try.prog w = .ok (.bool true) w := by kernel_rfl

set_option maxRecDepth 100000 in
set_option maxHeartbeats 4000000 in
theorem lives_calls (w : World) : Calls Try.prog 11 #[] w fun e w' => e = .returned (.bool true) ∧ Below w.heap.size w w' := by
  have cMeet := Lib.hid (fun va vb W h1 h2 => meet_calls la lb va vb W h1 h2 fitsA fitsB)
  have cRest := Lib.hid (fun va vb W h1 h2 => rest_calls la lb va vb W h1 h2 fitsA fitsB)
  have cPlus := Lib.hid (fun va vb W h1 h2 => plus_calls la lb va vb W h1 h2 fitsA fitsB)
  have cMinus := Lib.hid (fun va vb W h1 h2 => minus_calls la lb va vb W h1 h2 fitsA fitsB)
  have cCov := Lib.hid (fun va vb W h1 h2 => covers_calls la [(sa, 1)] va vb W h1 h2 fitsA fitsM)
  have cOf := Lib.hid (fun va W h1 => of_calls la sb va W h1)
  have cMay := Lib.hid (fun va W h1 => may_calls la va W h1 fitsA)
  have hnn := neq_nil
  rw [l_meet] at cMeet
  rw [l_rest] at cRest
  rw [l_plus] at cPlus
  rw [l_minus] at cMinus
  rw [l_covers] at cCov
  rw [l_of] at cOf
  rw [l_may] at cMay
  go_enter Try.func11, Try.ntmps11
  go_wp2_with fail
  have hB0 : Below w.heap.size w ((w.alloc (.cells #[.string ⟨#[97]⟩, .int .i64 3, .string ⟨#[98]⟩, .int .i64 2] 36)).alloc (.cells #[.string ⟨#[97]⟩, .int .i64 1, .string ⟨#[99]⟩, .int .i64 5] 36)) := ((Below.refl _ w).alloc (Nat.le_refl _) _).alloc (by simp) _
  have ha0 : ItemsAt ((w.alloc (.cells #[.string ⟨#[97]⟩, .int .i64 3, .string ⟨#[98]⟩, .int .i64 2] 36)).alloc (.cells #[.string ⟨#[97]⟩, .int .i64 1, .string ⟨#[99]⟩, .int .i64 5] 36)) 0 ((w.alloc (.cells #[.string ⟨#[97]⟩, .int .i64 3, .string ⟨#[98]⟩, .int .i64 2] 36)).alloc (.cells #[.string ⟨#[97]⟩, .int .i64 1, .string ⟨#[99]⟩, .int .i64 5] 36)).heap.size (.slice (some ⟨w.heap.size, 0, none⟩) 2 2) la := by
    have h1 : ItemsAt (w.alloc (.cells #[.string ⟨#[97]⟩, .int .i64 3, .string ⟨#[98]⟩, .int .i64 2] 36)) w.heap.size (w.heap.size + 1) (.slice (some ⟨w.heap.size, 0, none⟩) 2 2) la :=
      Sl.new w #[.string ⟨#[97]⟩, .int .i64 3, .string ⟨#[98]⟩, .int .i64 2] 36 (n := 2) rfl (by unfold maxLen; omega)
    exact (h1.mono ((Below.refl _ _).alloc (by simp) _) (by simp)).wide (Nat.zero_le _) (Nat.le_refl _)
  have hb0 : ItemsAt ((w.alloc (.cells #[.string ⟨#[97]⟩, .int .i64 3, .string ⟨#[98]⟩, .int .i64 2] 36)).alloc (.cells #[.string ⟨#[97]⟩, .int .i64 1, .string ⟨#[99]⟩, .int .i64 5] 36)) 0 ((w.alloc (.cells #[.string ⟨#[97]⟩, .int .i64 3, .string ⟨#[98]⟩, .int .i64 2] 36)).alloc (.cells #[.string ⟨#[97]⟩, .int .i64 1, .string ⟨#[99]⟩, .int .i64 5] 36)).heap.size (.slice (some ⟨w.heap.size + 1, 0, none⟩) 2 2) lb := by
    have h1 : ItemsAt ((w.alloc (.cells #[.string ⟨#[97]⟩, .int .i64 3, .string ⟨#[98]⟩, .int .i64 2] 36)).alloc (.cells #[.string ⟨#[97]⟩, .int .i64 1, .string ⟨#[99]⟩, .int .i64 5] 36)) (w.alloc (.cells #[.string ⟨#[97]⟩, .int .i64 3, .string ⟨#[98]⟩, .int .i64 2] 36)).heap.size ((w.alloc (.cells #[.string ⟨#[97]⟩, .int .i64 3, .string ⟨#[98]⟩, .int .i64 2] 36)).heap.size + 1) (.slice (some ⟨(w.alloc (.cells #[.string ⟨#[97]⟩, .int .i64 3, .string ⟨#[98]⟩, .int .i64 2] 36)).heap.size, 0, none⟩) 2 2) lb :=
      Sl.new (w.alloc (.cells #[.string ⟨#[97]⟩, .int .i64 3, .string ⟨#[98]⟩, .int .i64 2] 36)) #[.string ⟨#[97]⟩, .int .i64 1, .string ⟨#[99]⟩, .int .i64 5] 36 (n := 2) rfl (by unfold maxLen; omega)
    rw [World.size_alloc] at h1
    exact h1.wide (Nat.zero_le _) (by simp)
  generalize ((w.alloc (.cells #[.string ⟨#[97]⟩, .int .i64 3, .string ⟨#[98]⟩, .int .i64 2] 36)).alloc (.cells #[.string ⟨#[97]⟩, .int .i64 1, .string ⟨#[99]⟩, .int .i64 5] 36)) = w0 at *
  refine (cMeet.out _ _ _ ha0 hb0).mono ?_
  rintro e w1 ⟨⟨v1, rfl, hv1⟩, h1⟩
  have ha1 := ha0.mono h1 h1.size
  have hb1 := hb0.mono h1 h1.size
  have hB1 := hB0.trans (h1.mono hB0.size)
  obtain ⟨A1, c1, rfl, -⟩ := (ItemsAt.of_own hv1).form
  go_wp2_with fail
  refine (cRest.out _ _ _ ha1 hb1).mono ?_
  rintro e w2 ⟨⟨v2, rfl, hv2⟩, h2⟩
  have ha2 := ha1.mono h2 h2.size
  have hb2 := hb1.mono h2 h2.size
  have hB2 := hB1.trans (h2.mono hB1.size)
  have hv12 := (ItemsAt.of_own hv1).mono h2 h2.size
  obtain ⟨A2, c2, rfl, -⟩ := (ItemsAt.of_own hv2).form
  go_wp2_with fail
  refine (cPlus.out _ _ _ ha2 hb2).mono ?_
  rintro e w3 ⟨⟨v3, rfl, hv3⟩, h3⟩
  have ha3 := ha2.mono h3 h3.size
  have hb3 := hb2.mono h3 h3.size
  have hB3 := hB2.trans (h3.mono hB2.size)
  have hv13 := hv12.mono h3 h3.size
  have hv23 := (ItemsAt.of_own hv2).mono h3 h3.size
  obtain ⟨A3, c3, rfl, -⟩ := (ItemsAt.of_own hv3).form
  go_wp2_with fail
  refine (cMinus.out _ _ _ ha3 hb3).mono ?_
  rintro e w4 ⟨⟨v4, rfl, hv4⟩, h4⟩
  have ha4 := ha3.mono h4 h4.size
  have hB4 := hB3.trans (h4.mono hB3.size)
  have hv14 := hv13.mono h4 h4.size
  have hv24 := hv23.mono h4 h4.size
  have hv34 := (ItemsAt.of_own hv3).mono h4 h4.size
  obtain ⟨b1, o1, rfl, -, -, -, d1⟩ := hv14.cellAt (j := 0) (by simp)
  obtain ⟨b2, o2, rfl, -, -, -, d2⟩ := hv24.cellAt (j := 0) (by simp)
  obtain ⟨b3, o3, rfl, -, -, -, d3⟩ := hv34.cellAt (j := 0) (by simp)
  simp only [List.getElem_cons_zero] at d1 d2 d3
  go_wp2_with fail
  refine (cCov.out _ _ _ ha4 (hv14.wide (Nat.zero_le _) (Nat.le_refl _))).mono ?_
  rintro e w5 ⟨rfl, h5⟩
  have ha5 := ha4.mono h5 h5.size
  have hB5 := hB4.trans (h5.mono hB4.size)
  clear d1 d2 d3
  go_wp2_with fail
  refine (cOf.out _ _ ha5).mono ?_
  rintro e w6 ⟨rfl, h6⟩
  have ha6 := ha5.mono h6 h6.size
  have hB6 := hB5.trans (h6.mono hB5.size)
  go_wp2_with fail
  refine (all_calls _ _ _ _).mono ?_
  rintro e w7 ⟨rfl, rfl⟩
  have ha7 := ha6.mono ((Below.refl _ w6).alloc (Nat.le_refl _) (.cells #[.slice (some ⟨w.heap.size, 0, none⟩) 2 2] 22)) (B' := (w6.alloc (.cells #[.slice (some ⟨w.heap.size, 0, none⟩) 2 2] 22)).heap.size) (by simp)
  have hB7 := hB6.alloc hB6.size (.cells #[.slice (some ⟨w.heap.size, 0, none⟩) 2 2] 22)
  generalize w6.alloc (.cells #[.slice (some ⟨w.heap.size, 0, none⟩) 2 2] 22) = w7 at *
  go_wp2_with fail
  refine (cMay.out _ _ ha7).mono ?_
  rintro e w8 ⟨rfl, h8⟩
  go_wp2_with fail
  go_ret
  exact ⟨rfl, hB7.trans (h8.mono hB7.size)⟩
end It
end Go.Proofs.Ytloabanhoeaidaa
