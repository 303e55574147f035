/-
  moves: what nil moves do; the document's Same.
-/
import Derived.Test.YtdbkkldgobkjcaaMvG
namespace Go.Proofs.Ytdbkkldgobkjcaa
open Go.RowKit Go.Maps
namespace Mv
open It
attribute [local go_sem] Oper.semAt_some

theorem go_nil (mv fr to_ : Int) (lv : Value) (w : World) :
    Calls Try.prog 12 #[.pointer none, .int .i64 mv, .int .i64 fr, .int .i64 to_, lv] w fun e w' => e = .returned (.int .i64 6) ∧ w = w' := by
  have cM := Lib.hid (made_nil w)
  go_enter Try.func12, Try.ntmps12
  go_wp2_with (go_at_call 39; refine cM.out.mono ?_; rintro e W ⟨rfl, rfl⟩)
  go_ret
  exact ⟨rfl, rfl⟩
theorem come_nil (k : Int) (w : World) :
    Calls Try.prog 14 #[.pointer none, .int .i64 k] w fun e w' => e = .returned (.tuple #[.slice none 0 0, .int .i64 6]) ∧ w = w' := by
  have cM := Lib.hid (made_nil w)
  go_enter Try.func14, Try.ntmps14
  go_wp2_with (go_at_call 39; refine cM.out.mono ?_; rintro e W ⟨rfl, rfl⟩)
  go_ret2
  exact ⟨rfl, rfl⟩
theorem len_nil (w : World) :
    Calls Try.prog 27 #[.pointer none] w fun e w' => e = .returned (.int .i64 0) ∧ w = w' := by
  have cM := Lib.hid (made_nil w)
  go_enter Try.func27, Try.ntmps27
  go_wp2_with (go_at_call 39; refine cM.out.mono ?_; rintro e W ⟨rfl, rfl⟩)
  go_ret
  exact ⟨rfl, rfl⟩
theorem move_nil (k : Int) (w : World) :
    Calls Try.prog 19 #[.pointer none, .int .i64 k] w fun e w' => e = .returned (.tuple #[wayV way0 (.slice none 0 0), .bool false]) ∧ Below w.heap.size w w' := by
  have cM := Lib.hid (made_nil (w.alloc (.cells #[.int .i64 0, .int .i64 0, .int .i64 0, .slice none 0 0, .bool false] 42)))
  go_enter Try.func19, Try.ntmps19
  go_wp2_with (go_at_call 39; refine cM.out.mono ?_; rintro e W ⟨rfl, rfl⟩)
  have hO := Ob.new w 42 #[.int .i64 0, .int .i64 0, .int .i64 0, .slice none 0 0, .bool false]
  obtain ⟨q0, q1, q2, q3, q4⟩ := hO.five
  refine bodyPost_ret (v := .tuple #[wayV way0 (.slice none 0 0), .bool false]) ?_ rfl ⟨rfl, (Below.refl _ w).alloc (Nat.le_refl _) _⟩
  simp [results, Try.f19, go_sem, q0, q1, q2, q3, q4, wayV, way0]
theorem forget_nil (k : Int) (w : World) :
    Calls Try.prog 17 #[.pointer none, .int .i64 k] w fun e w' => e = .returned (.int .i64 6) ∧ Below w.heap.size w w' := by
  have cV := Lib.hid (move_nil k w)
  go_enter Try.func17, Try.ntmps17
  go_wp2_with fail
  refine cV.out.mono ?_
  rintro e W ⟨rfl, hb⟩
  simp only [wayV, way0]
  go_wp2_with fail
  refine (made_nil _).mono ?_
  rintro e W2 ⟨rfl, rfl⟩
  go_wp2
  go_ret
  exact ⟨rfl, hb.alloc hb.size _⟩

theorem all_nil (n : Nat) (hn : 1 ≤ n) (Bs : Nat) (w : World) (hbs : Ob w Bs 23 #[.pointer none]) :
    Rr.Reads Fence.wide n Try.prog 47 #[.pointer (some ⟨Bs, 0, none⟩)] (fun (_ : Unit) (_ : Value) (_ : World) => True) (Below w.heap.size) (fun xs => xs = []) (fun _ => False) (fun _ _ => False) w := by
  intro l J Jx W hW hJ hJx hY h0
  have hB := hbs.same hW
  have cB : W.cell? ⟨Bs, 0, none⟩ = some (.pointer none) := hB.cell (j := 0) rfl
  have cM := Lib.hid (made_nil W)
  refine callsIn_of_wp Try.func47 rfl trivial ?_ rfl
  simp only [Try.ntmps47, List.size_toArray, List.length_cons, List.length_nil, Nat.reduceAdd, Nat.reduceSub, Array.replicate_succ, Array.replicate_zero, List.push_toArray, List.append_toArray, List.nil_append, List.cons_append]
  clear hY
  gi_wp2_with (refine ⟨trivial, ?_⟩; gi_at_call 39; refine (callsIn_wide.2 cM.out).mono ?_; rintro e W' ⟨rfl, rfl⟩)
  refine bodyPost_ret (results_none rfl _ _ _) rfl ?_
  exact ⟨⟨_, rfl⟩, .inl ⟨_, rfl, h0⟩⟩

set_option maxRecDepth 100000 in
set_option maxHeartbeats 4000000 in
theorem under_nil (fr to_ : Int) (w : World) :
    Calls Try.prog 22 #[.pointer none, .int .i64 fr, .int .i64 to_] w fun e w' => e = .returned (.slice none 0 0) ∧ Below w.heap.size w w' := by
  refine (callsIn_wide (n := 6)).1 ?_
  refine callsIn_of_wp_marks Try.func22 rfl trivial ?_ rfl
  simp only [Try.ntmps22, List.size_toArray, List.length_cons, List.length_nil, Nat.reduceAdd, Nat.reduceSub, Array.replicate_succ, Array.replicate_zero, List.push_toArray, List.append_toArray, List.nil_append, List.cons_append]
  gi_wp2_with (refine ⟨trivial, ?_⟩; gi_at_call 26; refine (callsIn_wide.2 (all_calls _ _)).mono ?_; rintro e w' ⟨rfl, rfl⟩)
  have a1 := Below.refl w.heap.size w
  have a2 := a1.alloc (Nat.le_refl _) (.cells #[.int .i64 fr] 3)
  have a3 := a2.alloc (by simp) (.cells #[.int .i64 to_] 3)
  have b2 := Ob.new ((w.alloc (.cells #[.int .i64 fr] 3)).alloc (.cells #[.int .i64 to_] 3)) 30 #[.slice none 0 0]
  have a4 := a3.alloc (by simp; omega) (.cells #[.slice none 0 0] 30)
  have b3 := Ob.new (((w.alloc (.cells #[.int .i64 fr] 3)).alloc (.cells #[.int .i64 to_] 3)).alloc (.cells #[.slice none 0 0] 30)) 30 #[.slice none 0 0]
  have a5 := a4.alloc (by simp; omega) (.cells #[.slice none 0 0] 30)
  have b4 := Ob.new ((((w.alloc (.cells #[.int .i64 fr] 3)).alloc (.cells #[.int .i64 to_] 3)).alloc (.cells #[.slice none 0 0] 30)).alloc (.cells #[.slice none 0 0] 30)) 23 #[.pointer none]
  have hB5 := a5.alloc (by simp; omega) (.cells #[.pointer none] 23)
  replace b2 := (b2.alloc (.cells #[.slice none 0 0] 30)).alloc (.cells #[.pointer none] 23)
  replace b3 := b3.alloc (.cells #[.pointer none] 23)
  simp only [World.size_alloc] at b2 b3 b4
  have hsz5 : w.heap.size + 5 = (((((w.alloc (.cells #[.int .i64 fr] 3)).alloc (.cells #[.int .i64 to_] 3)).alloc (.cells #[.slice none 0 0] 30)).alloc (.cells #[.slice none 0 0] 30)).alloc (.cells #[.pointer none] 23)).heap.size := by simp
  clear a1 a2 a3 a4 a5
  generalize (((((w.alloc (.cells #[.int .i64 fr] 3)).alloc (.cells #[.int .i64 to_] 3)).alloc (.cells #[.slice none 0 0] 30)).alloc (.cells #[.slice none 0 0] 30)).alloc (.cells #[.pointer none] 23)) = w5 at *
  refine Rr.range_reads (n := 6) rfl (by omega) (gf := 47) rfl trivial (enters_of Try.func47 (by kernel_rfl) rfl)
    (all_nil 5 (by omega) (w.heap.size + 1 + 1 + 1 + 1) w5 b4) (Below.refl _ _) (fun h k => h.trans k) (fun W l r r' hl h => belowK_b (Nat.le_refl _) W l _ _ hl h rfl rfl) rfl
    (fun _ W => Ob W (w.heap.size + 1 + 1) 30 #[.slice none 0 0] ∧ Below w.heap.size w5 W ∧ Ob W (w.heap.size + 1 + 1 + 1) 30 #[.slice none 0 0])
    (fun _ _ _ => False)
    (fun s A B row hs hg hr => ⟨ob_keep hs.1 hg (fun r e => (hr r e).2), ownFrom_below (B := w5.heap.size) (by omega) (by omega) s A B row hs.2.1 hg hr, ob_keep hs.2.2 hg (fun r e => (hr r e).2)⟩)
    (fun c s A B row hs hg hr => hs.elim)
    ⟨b2, Below.refl _ _, b3⟩ ?round ?done ?stop
  case round => exact fun l pre d v W _ _ h => h.elim
  case stop => exact fun D c pre W _ h => h.elim
  case done =>
    rintro D xs W hD - ⟨hb2, hB, hb3⟩ hK
    have c3 := hb3.cell (j := 0) (v := .slice none 0 0) rfl
    have c2 := hb2.cell (j := 0) (v := .slice none 0 0) rfl
    have f2 := hb2.frozen 0
    have hb22 := hb2.set 0 (.slice none 0 0)
    have hBB := hB.grown (grownBy_set W (w.heap.size + 1 + 1) 0 (.slice none 0 0)) (by have := hB.size; omega) (fun k e => by cases e; omega)
    have hK2 : (W.setCell ⟨w.heap.size + 1 + 1, 0, none⟩ (.slice none 0 0)).heap[D]? = some (.deferred (some [])) := ((grownBy_set W (w.heap.size + 1 + 1) 0 (.slice none 0 0)).block D (Array.getElem?_eq_some_iff.1 hK).1 (fun e => by cases e; omega)).trans hK
    gi_wp2
    refine ⟨by simp, .inl ⟨_, _, rfl, run_takeDeferred hK2, ?_⟩⟩
    have c4 := (boxed_end hb22 hK2).cell
    refine ⟨.slice none 0 0, ?_, rfl, below_end (hB5.trans hBB) (by omega) hK2⟩
    simp [results, Try.f22, go_sem, c4]

/-- the document's Same of two moves -/
def sameW (a b : Way) : Bool := decide (a.mv = b.mv) && decide (a.fr = b.fr) && decide (a.to_ = b.to_) && decide (a.l = b.l) && (a.came == b.came)
theorem sameW_iff (a b : Way) : sameW a b = true ↔ a = b := by
  obtain ⟨a1, a2, a3, a4, a5⟩ := a
  obtain ⟨b1, b2, b3, b4, b5⟩ := b
  simp [sameW, and_assoc]

set_option maxRecDepth 100000 in
set_option maxHeartbeats 4000000 in
theorem sameW_calls (a b : Way) (va vb : Value) (w : World) (ha : ItemsAt w 0 w.heap.size va a.l) (hb : ItemsAt w 0 w.heap.size vb b.l) :
    Calls Try.prog 21 #[wayV a va, wayV b vb] w fun e w' => e = .returned (.bool (sameW a b)) ∧ Below w.heap.size w w' := by
  obtain ⟨A1, c1, rfl, -⟩ := ha.form
  obtain ⟨A2, c2, rfl, -⟩ := hb.form
  have hB0 : Below w.heap.size w ((w.alloc (.cells #[.int .i64 a.mv, .int .i64 a.fr, .int .i64 a.to_, .slice A1 a.l.length c1, .bool a.came] 42)).alloc (.cells #[.int .i64 b.mv, .int .i64 b.fr, .int .i64 b.to_, .slice A2 b.l.length c2, .bool b.came] 42)) := ((Below.refl _ w).alloc (Nat.le_refl _) _).alloc (by simp) _
  have hO1 := (Ob.new w 42 #[.int .i64 a.mv, .int .i64 a.fr, .int .i64 a.to_, .slice A1 a.l.length c1, .bool a.came]).alloc (.cells #[.int .i64 b.mv, .int .i64 b.fr, .int .i64 b.to_, .slice A2 b.l.length c2, .bool b.came] 42)
  have hO2 := Ob.new (w.alloc (.cells #[.int .i64 a.mv, .int .i64 a.fr, .int .i64 a.to_, .slice A1 a.l.length c1, .bool a.came] 42)) 42 #[.int .i64 b.mv, .int .i64 b.fr, .int .i64 b.to_, .slice A2 b.l.length c2, .bool b.came]
  simp only [World.size_alloc] at hO2
  have ha2 := ha.mono hB0 hB0.size
  have hb2 := hb.mono hB0 hB0.size
  have cS := refsame_calls a.l b.l _ _ _ ha2 hb2
  have hSm : sameW a b = (decide (a.mv = b.mv) && decide (a.fr = b.fr) && decide (a.to_ = b.to_) && decide (a.l = b.l) && (a.came == b.came)) := rfl
  generalize decide (a.l = b.l) = sl at cS hSm
  generalize sameW a b = S at *
  generalize a.l.length = n1 at *
  generalize b.l.length = n2 at *
  obtain ⟨amv, afr, ato, al, ac⟩ := a
  obtain ⟨bmv, bfr, bto, bl, bc⟩ := b
  dsimp only [wayV] at *
  clear ha2 hb2 ha hb
  have CS := Lib.hid cS
  have HB0 := Lib.hid hB0
  have HSm := Lib.hid hSm
  clear cS hB0 hSm hO1 hO2
  by_cases e1 : amv = bmv
  case neg =>
    have q1 : (amv == bmv) = false := by simpa using e1
    go_enter Try.func21, Try.ntmps21
    go_wp2
    go_ret
    exact ⟨ret1 (boo (by rw [HSm.out]; simp [e1])), HB0.out⟩
  case pos =>
  subst e1
  by_cases e2 : afr = bfr
  case neg =>
    have q2 : (afr == bfr) = false := by simpa using e2
    go_enter Try.func21, Try.ntmps21
    go_wp2
    go_ret
    exact ⟨ret1 (boo (by rw [HSm.out]; simp [e2])), HB0.out⟩
  case pos =>
  subst e2
  by_cases e3 : ato = bto
  case neg =>
    have q3 : (ato == bto) = false := by simpa using e3
    go_enter Try.func21, Try.ntmps21
    go_wp2
    go_ret
    exact ⟨ret1 (boo (by rw [HSm.out]; simp [e3])), HB0.out⟩
  case pos =>
  subst e3
  have HS2 := Lib.hid (show S = (sl && ac == bc) by rw [HSm.out]; simp)
  clear HSm
  cases sl with
  | false =>
    go_enter Try.func21, Try.ntmps21
    go_wp2_with (go_at_call 16; refine CS.out.mono ?_; rintro e W ⟨rfl, hb1⟩)
    go_ret
    exact ⟨ret1 (boo (by rw [HS2.out]; simp)), HB0.out.trans (hb1.mono HB0.out.size)⟩
  | true =>
    go_enter Try.func21, Try.ntmps21
    go_wp2_with fail
    refine CS.out.mono ?_
    rintro e W ⟨rfl, hb1⟩
    have hO1 := (((Ob.new w 42 #[.int .i64 amv, .int .i64 afr, .int .i64 ato, .slice A1 n1 c1, .bool ac]).alloc (.cells #[.int .i64 amv, .int .i64 afr, .int .i64 ato, .slice A2 n2 c2, .bool bc] 42)).same hb1).cell (j := 4) (v := .bool ac) rfl
    have hO2 := Ob.new (w.alloc (.cells #[.int .i64 amv, .int .i64 afr, .int .i64 ato, .slice A1 n1 c1, .bool ac] 42)) 42 #[.int .i64 amv, .int .i64 afr, .int .i64 ato, .slice A2 n2 c2, .bool bc]
    simp only [World.size_alloc] at hO2
    replace hO2 := (hO2.same hb1).cell (j := 4) (v := .bool bc) rfl
    go_wp2
    go_ret
    exact ⟨ret1 (boo (by rw [HS2.out]; simp)), HB0.out.trans (hb1.mono HB0.out.size)⟩
end Mv
end Go.Proofs.Ytdbkkldgobkjcaa
