/-
  part of the proof of TopNames.
-/
import Derived.Test.YtgcnhmjpfbbfcaaGreatTy2
import Derived.Deep.RegionWith
import Derived.Deep.DeepCutAuto
set_option linter.unusedVariables false
set_option linter.unusedSimpArgs false
set_option maxRecDepth 100000
set_option maxHeartbeats 8000000
namespace Go.Proofs.YtgcnhmjpfbbfcaaGreat
namespace Tp
section
open Go.RowKit Go.Maps
def StAt (w : World) (b : Nat) : Prop := ∃ x0 x1 x2 x3 : Int, Ob w b 538 #[.int .u64 x0, .int .u64 x1, .int .u64 x2, .int .u64 x3]
theorem rot_calls (x n : Int) (w : World) (hn : n = 13 ∨ n = 16 ∨ n = 17 ∨ n = 21 ∨ n = 32) : Calls Tryz.prog 466 #[.int .u64 x, vI n] w fun e w' => (∃ y, e = .returned (.int .u64 y)) ∧ w = w' := by
 have e : bits .and .u64 n 63 = n := by rcases hn with rfl | rfl | rfl | rfl | rfl <;> decide
 rcases hn with rfl | rfl | rfl | rfl | rfl
 all_goals
   go_enter Tryz.func466, Tryz.ntmps466
   go_wp2; go_ret; exact ⟨⟨_, rfl⟩, rfl⟩
theorem StAt.put {w : World} {b : Nat} {x0 x1 x2 x3 : Int} (h : Ob w b 538 #[.int .u64 x0, .int .u64 x1, .int .u64 x2, .int .u64 x3]) (j : Nat) (hj : j < 4) (y : Int) : StAt (w.setCell ⟨b, j, none⟩ (.int .u64 y)).drew b ∧ w.grownBy (w.setCell ⟨b, j, none⟩ (.int .u64 y)).drew (some b) := by
 have h' := h.set j (.int .u64 y); have k := grownBy_set w b j (.int .u64 y); refine ⟨?_, ⟨k.os, k.tape, k.output, k.size, k.block⟩⟩; rcases j with _ | _ | _ | _ | j
 · exact ⟨y, x1, x2, x3, h'⟩
 · exact ⟨x0, y, x2, x3, h'⟩
 · exact ⟨x0, x1, y, x3, h'⟩
 · exact ⟨x0, x1, x2, y, h'⟩
 · omega
theorem StAt.put0 {w : World} {b : Nat} {x0 x1 x2 x3 : Int} (h : Ob w b 538 #[.int .u64 x0, .int .u64 x1, .int .u64 x2, .int .u64 x3]) (j : Nat) (hj : j < 4) (y : Int) : StAt (w.setCell ⟨b, j, none⟩ (.int .u64 y)) b ∧ w.grownBy (w.setCell ⟨b, j, none⟩ (.int .u64 y)) (some b) :=
 ⟨(StAt.put h j hj y).1, grownBy_set _ _ _ _⟩
theorem round_calls (b : Nat) (w : World) (h : StAt w b) : Calls Tryz.prog 425 #[.pointer (some ⟨b, 0, none⟩)] w fun e w' => e = .returned (.tuple #[]) ∧ StAt w' b ∧ w.grownBy w' (some b) := by
 have s0 := h; have g0 : w.grownBy w (some b) := ⟨rfl, rfl, rfl, Nat.le_refl _, fun _ _ _ => rfl⟩; clear h
 go_enter Tryz.func425, Tryz.ntmps425
 go_wp2; obtain ⟨x00, x01, x02, x03, h0⟩ := s0; have ⟨c0, c1, c2, c3⟩ := h0.k4 rfl rfl rfl rfl; have f0 := h0.frozen 0; have f1 := h0.frozen 1; have f2 := h0.frozen 2; have f3 := h0.frozen 3
 go_cut [] (fun V => StAt V b ∧ w.grownBy V (some b))
 case first =>
   go_region
   all_goals
     go_wp2_with fail
     go_meet
     case rel => first | exact ⟨(StAt.put h0 0 (by omega) _).1, g0.trans (StAt.put h0 0 (by omega) _).2⟩ | exact ⟨(StAt.put0 h0 0 (by omega) _).1, g0.trans (StAt.put0 h0 0 (by omega) _).2⟩
 clear c0 c1 c2 c3 f0 f1 f2 f3 h0 g0; obtain ⟨s1, g1⟩ := hcut; obtain ⟨x10, x11, x12, x13, h1⟩ := s1; have ⟨c0, c1, c2, c3⟩ := h1.k4 rfl rfl rfl rfl; have f0 := h1.frozen 0; have f1 := h1.frozen 1; have f2 := h1.frozen 2; have f3 := h1.frozen 3
 go_upto_region 1 with (fail)
 go_cut [] (fun V => StAt V b ∧ w.grownBy V (some b))
 case first =>
   go_region
   all_goals
     go_wp2_with fail
     go_meet
     case rel => first | exact ⟨(StAt.put h1 2 (by omega) _).1, g1.trans (StAt.put h1 2 (by omega) _).2⟩ | exact ⟨(StAt.put0 h1 2 (by omega) _).1, g1.trans (StAt.put0 h1 2 (by omega) _).2⟩
 clear c0 c1 c2 c3 f0 f1 f2 f3 h1 g1; obtain ⟨s2, g2⟩ := hcut; obtain ⟨x20, x21, x22, x23, h2⟩ := s2; have ⟨c0, c1, c2, c3⟩ := h2.k4 rfl rfl rfl rfl; have f0 := h2.frozen 0; have f1 := h2.frozen 1; have f2 := h2.frozen 2; have f3 := h2.frozen 3
 go_upto_region 2 with (fail)
 go_cut [] (fun V => StAt V b ∧ w.grownBy V (some b))
 case first =>
   go_region_with (go_at_call 466; refine (rot_calls _ 13 _ (by simp)).mono ?_; rintro e W ⟨⟨y2, rfl⟩, rfl⟩)
   all_goals
     go_wp2_with fail
     go_meet
     case rel => first | exact ⟨(StAt.put h2 1 (by omega) _).1, g2.trans (StAt.put h2 1 (by omega) _).2⟩ | exact ⟨(StAt.put0 h2 1 (by omega) _).1, g2.trans (StAt.put0 h2 1 (by omega) _).2⟩
 clear c0 c1 c2 c3 f0 f1 f2 f3 h2 g2; obtain ⟨s3, g3⟩ := hcut; obtain ⟨x30, x31, x32, x33, h3⟩ := s3; have ⟨c0, c1, c2, c3⟩ := h3.k4 rfl rfl rfl rfl; have f0 := h3.frozen 0; have f1 := h3.frozen 1; have f2 := h3.frozen 2; have f3 := h3.frozen 3
 go_upto_region 3 with (fail)
 go_cut [] (fun V => StAt V b ∧ w.grownBy V (some b))
 case first =>
   go_region_with (go_at_call 466; refine (rot_calls _ 16 _ (by simp)).mono ?_; rintro e W ⟨⟨y3, rfl⟩, rfl⟩)
   all_goals
     go_wp2_with fail
     go_meet
     case rel => first | exact ⟨(StAt.put h3 3 (by omega) _).1, g3.trans (StAt.put h3 3 (by omega) _).2⟩ | exact ⟨(StAt.put0 h3 3 (by omega) _).1, g3.trans (StAt.put0 h3 3 (by omega) _).2⟩
 clear c0 c1 c2 c3 f0 f1 f2 f3 h3 g3; obtain ⟨s4, g4⟩ := hcut; obtain ⟨x40, x41, x42, x43, h4⟩ := s4; have ⟨c0, c1, c2, c3⟩ := h4.k4 rfl rfl rfl rfl; have f0 := h4.frozen 0; have f1 := h4.frozen 1; have f2 := h4.frozen 2; have f3 := h4.frozen 3
 go_upto_region 4 with (fail)
 go_cut [] (fun V => StAt V b ∧ w.grownBy V (some b))
 case first =>
   go_wp2_with fail; refine (rot_calls _ 32 _ (by simp)).mono ?_; rintro e W ⟨⟨y, rfl⟩, rfl⟩
   all_goals
     go_wp2_with fail
     go_meet
     case rel => first | exact ⟨(StAt.put h4 0 (by omega) _).1, g4.trans (StAt.put h4 0 (by omega) _).2⟩ | exact ⟨(StAt.put0 h4 0 (by omega) _).1, g4.trans (StAt.put0 h4 0 (by omega) _).2⟩
 clear c0 c1 c2 c3 f0 f1 f2 f3 h4 g4; obtain ⟨s5, g5⟩ := hcut; obtain ⟨x50, x51, x52, x53, h5⟩ := s5; have ⟨c0, c1, c2, c3⟩ := h5.k4 rfl rfl rfl rfl; have f0 := h5.frozen 0; have f1 := h5.frozen 1; have f2 := h5.frozen 2; have f3 := h5.frozen 3
 go_upto_region 5 with (fail)
 go_cut [] (fun V => StAt V b ∧ w.grownBy V (some b))
 case first =>
   go_region
   all_goals
     go_wp2_with fail
     go_meet
     case rel => first | exact ⟨(StAt.put h5 2 (by omega) _).1, g5.trans (StAt.put h5 2 (by omega) _).2⟩ | exact ⟨(StAt.put0 h5 2 (by omega) _).1, g5.trans (StAt.put0 h5 2 (by omega) _).2⟩
 clear c0 c1 c2 c3 f0 f1 f2 f3 h5 g5; obtain ⟨s6, g6⟩ := hcut; obtain ⟨x60, x61, x62, x63, h6⟩ := s6; have ⟨c0, c1, c2, c3⟩ := h6.k4 rfl rfl rfl rfl; have f0 := h6.frozen 0; have f1 := h6.frozen 1; have f2 := h6.frozen 2; have f3 := h6.frozen 3
 go_upto_region 6 with (fail)
 go_cut [] (fun V => StAt V b ∧ w.grownBy V (some b))
 case first =>
   go_region
   all_goals
     go_wp2_with fail
     go_meet
     case rel => first | exact ⟨(StAt.put h6 0 (by omega) _).1, g6.trans (StAt.put h6 0 (by omega) _).2⟩ | exact ⟨(StAt.put0 h6 0 (by omega) _).1, g6.trans (StAt.put0 h6 0 (by omega) _).2⟩
 clear c0 c1 c2 c3 f0 f1 f2 f3 h6 g6; obtain ⟨s7, g7⟩ := hcut; obtain ⟨x70, x71, x72, x73, h7⟩ := s7; have ⟨c0, c1, c2, c3⟩ := h7.k4 rfl rfl rfl rfl; have f0 := h7.frozen 0; have f1 := h7.frozen 1; have f2 := h7.frozen 2; have f3 := h7.frozen 3
 go_upto_region 7 with (fail)
 go_cut [] (fun V => StAt V b ∧ w.grownBy V (some b))
 case first =>
   go_region_with (go_at_call 466; refine (rot_calls _ 17 _ (by simp)).mono ?_; rintro e W ⟨⟨y7, rfl⟩, rfl⟩)
   all_goals
     go_wp2_with fail
     go_meet
     case rel => first | exact ⟨(StAt.put h7 1 (by omega) _).1, g7.trans (StAt.put h7 1 (by omega) _).2⟩ | exact ⟨(StAt.put0 h7 1 (by omega) _).1, g7.trans (StAt.put0 h7 1 (by omega) _).2⟩
 clear c0 c1 c2 c3 f0 f1 f2 f3 h7 g7; obtain ⟨s8, g8⟩ := hcut; obtain ⟨x80, x81, x82, x83, h8⟩ := s8; have ⟨c0, c1, c2, c3⟩ := h8.k4 rfl rfl rfl rfl; have f0 := h8.frozen 0; have f1 := h8.frozen 1; have f2 := h8.frozen 2; have f3 := h8.frozen 3
 go_upto_region 8 with (fail)
 go_cut [] (fun V => StAt V b ∧ w.grownBy V (some b))
 case first =>
   go_region_with (go_at_call 466; refine (rot_calls _ 21 _ (by simp)).mono ?_; rintro e W ⟨⟨y8, rfl⟩, rfl⟩)
   all_goals
     go_wp2_with fail
     go_meet
     case rel => first | exact ⟨(StAt.put h8 3 (by omega) _).1, g8.trans (StAt.put h8 3 (by omega) _).2⟩ | exact ⟨(StAt.put0 h8 3 (by omega) _).1, g8.trans (StAt.put0 h8 3 (by omega) _).2⟩
 clear c0 c1 c2 c3 f0 f1 f2 f3 h8 g8; obtain ⟨s9, g9⟩ := hcut; obtain ⟨x90, x91, x92, x93, h9⟩ := s9; have ⟨c0, c1, c2, c3⟩ := h9.k4 rfl rfl rfl rfl; have f0 := h9.frozen 0; have f1 := h9.frozen 1; have f2 := h9.frozen 2; have f3 := h9.frozen 3; go_wp2_with fail; refine (rot_calls _ 32 _ (by simp)).mono ?_; rintro e W ⟨⟨y, rfl⟩, rfl⟩; go_wp2
 first | go_end0 | go_ret
 exact ⟨rfl, (StAt.put0 h9 2 (by omega) _).1, g9.trans (StAt.put0 h9 2 (by omega) _).2⟩
end
end Tp
end Go.Proofs.YtgcnhmjpfbbfcaaGreat
