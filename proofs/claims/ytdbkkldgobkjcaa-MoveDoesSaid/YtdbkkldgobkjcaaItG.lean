/-
  items: Meet, Rest, Covers, Minus.
-/
import Derived.Test.YtdbkkldgobkjcaaItF
namespace Go.Proofs.Ytdbkkldgobkjcaa
open Go.RowKit
namespace It

theorem ownsRow_wide {w : World} {lo lo' : Nat} {e : TypeId} {size n : Nat} {v : Value} {xs : List Value} (h : w.ownsRow lo e size v n xs) (hl : lo' ≤ lo) : w.ownsRow lo' e size v n xs := by
  refine ⟨h.1, h.2.elim Or.inl fun hx => .inr ?_⟩
  revert hx
  rintro ⟨g, cap, cur, rfl, hbg, hg⟩
  exact ⟨g, cap, cur, rfl, Nat.le_trans hl hbg, hg⟩

set_option maxHeartbeats 400000 in
theorem rest_calls (a b : List Item) (va vb : Value) (w : World) (ha : ItemsAt w 0 w.heap.size va a) (hb : ItemsAt w 0 w.heap.size vb b) (hFa : Fits a) (hFb : Fits b) :
    Calls Try.prog 57 #[va, vb] w fun e w' =>
      (∃ v, e = .returned v ∧ w'.ownsRow w.heap.size 36 2 v (both restF a b).length (itemCells (both restF a b))) ∧ Below w.heap.size w w' := by
  have cE := Lib.hid (each_rest a b va vb w ha hb hFa hFb)
  obtain ⟨A, c, rfl, -⟩ := ha.form
  obtain ⟨A', c', rfl, -⟩ := hb.form
  generalize both restF a b = R at *
  go_enter Try.func57, Try.ntmps57
  go_wp2_with fail
  refine cE.out.mono ?_
  rintro e w1 ⟨⟨v, rfl, h1⟩, h2⟩
  obtain ⟨A1, c1, rfl, -⟩ := (ItemsAt.of_own h1).form
  go_wp2
  go_ret
  exact ⟨⟨_, rfl, h1⟩, h2⟩

/-- a has at least what b has -/
def covers (a b : List Item) : Bool := may a && may b && ((both restF b a).length == 0)

set_option maxRecDepth 100000 in
set_option maxHeartbeats 1000000 in
theorem covers_calls (a b : List Item) (va vb : Value) (w : World) (ha : ItemsAt w 0 w.heap.size va a) (hb : ItemsAt w 0 w.heap.size vb b) (hFa : Fits a) (hFb : Fits b) :
    Calls Try.prog 69 #[va, vb] w fun e w' => e = .returned (.bool (covers a b)) ∧ Below w.heap.size w w' := by
  have cA := Lib.hid (fun W hI => may_calls a va W hI hFa)
  have cB := Lib.hid (fun W hI => may_calls b vb W hI hFb)
  have cR := Lib.hid (fun W hI hJ => rest_calls b a vb va W hI hJ hFb hFa)
  have HC := Lib.hid (show covers a b = (may a && may b && ((both restF b a).length == 0)) from rfl)
  obtain ⟨A, c, rfl, hc1, hc2⟩ := ha.form
  obtain ⟨A', c', rfl, hc1', hc2'⟩ := hb.form
  generalize covers a b = C at *
  generalize both restF b a = R at *
  generalize may a = ma at *
  generalize may b = mb at *
  go_enter Try.func69, Try.ntmps69
  go_wp2_with fail
  refine (cA.out _ ha).mono ?_
  rintro e w1 ⟨rfl, h1⟩
  have hb1 := hb.mono h1 h1.size
  have ha1 := ha.mono h1 h1.size
  cases ma with
  | false =>
    have HC2 := Lib.hid (show C = false by rw [HC.out]; rfl)
    go_wp2_with fail
    go_ret
    exact ⟨ret1 (boo HC2.out.symm), h1⟩
  | true =>
    go_wp2_with fail
    refine (cB.out _ hb1).mono ?_
    rintro e w2 ⟨rfl, h2⟩
    have hb2 := hb1.mono h2 h2.size
    have ha2 := ha1.mono h2 h2.size
    have hB2 := h1.trans (h2.mono h1.size)
    cases mb with
    | false =>
      have HC2 := Lib.hid (show C = false by rw [HC.out]; rfl)
      go_wp2_with fail
      go_ret
      exact ⟨ret1 (boo HC2.out.symm), hB2⟩
    | true =>
      go_wp2_with fail
      refine (cR.out _ hb2 ha2).mono ?_
      rintro e w3 ⟨⟨v, rfl, hv⟩, h3⟩
      have hB3 := hB2.trans (h3.mono hB2.size)
      obtain ⟨A1, c1, rfl, -⟩ := (ItemsAt.of_own hv).form
      have HC2 := Lib.hid (show C = ((R.length : Int) == 0) by rw [HC.out, Bool.eq_iff_iff]; simp [Int.natCast_eq_zero])
      go_wp2
      go_ret
      exact ⟨ret1 (boo (by rw [HC2.out])), hB3⟩

/-- the rest, and why not -/
def minusOf (a b : List Item) : List Item × Int := if may a && may b then if covers a b then (both restF a b, 0) else ([], 51) else ([], 60)

set_option maxRecDepth 100000 in
set_option maxHeartbeats 1000000 in
theorem minus_calls (a b : List Item) (va vb : Value) (w : World) (ha : ItemsAt w 0 w.heap.size va a) (hb : ItemsAt w 0 w.heap.size vb b) (hFa : Fits a) (hFb : Fits b) :
    Calls Try.prog 53 #[va, vb] w fun e w' =>
      (∃ v, e = .returned (.tuple #[v, .int .i64 (minusOf a b).2]) ∧ w'.ownsRow w.heap.size 36 2 v (minusOf a b).1.length (itemCells (minusOf a b).1)) ∧ Below w.heap.size w w' := by
  have cA := Lib.hid (fun W hI => may_calls a va W hI hFa)
  have cB := Lib.hid (fun W hI => may_calls b vb W hI hFb)
  have cC := Lib.hid (fun W hI hJ => covers_calls a b va vb W hI hJ hFa hFb)
  have cR := Lib.hid (fun W hI hJ => rest_calls a b va vb W hI hJ hFa hFb)
  have HM := Lib.hid (show minusOf a b = if may a && may b then if covers a b then (both restF a b, 0) else ([], 51) else ([], 60) from rfl)
  obtain ⟨A, c, rfl, hc1, hc2⟩ := ha.form
  obtain ⟨A', c', rfl, hc1', hc2'⟩ := hb.form
  generalize minusOf a b = M at *
  generalize covers a b = C at *
  generalize both restF a b = R at *
  generalize may a = ma at *
  generalize may b = mb at *
  go_enter Try.func53, Try.ntmps53
  go_wp2_with fail
  refine (cA.out _ ha).mono ?_
  rintro e w1 ⟨rfl, h1⟩
  have hb1 := hb.mono h1 h1.size
  have ha1 := ha.mono h1 h1.size
  cases ma with
  | false =>
    obtain rfl : M = ([], 60) := by rw [HM.out]; rfl
    go_wp2_with fail
    go_ret2
    exact ⟨⟨_, rfl, World.ownsRow_nil _ _ _ _⟩, h1⟩
  | true =>
    go_wp2_with fail
    refine (cB.out _ hb1).mono ?_
    rintro e w2 ⟨rfl, h2⟩
    have hb2 := hb1.mono h2 h2.size
    have ha2 := ha1.mono h2 h2.size
    have hB2 := h1.trans (h2.mono h1.size)
    cases mb with
    | false =>
      obtain rfl : M = ([], 60) := by rw [HM.out]; rfl
      go_wp2_with fail
      go_ret2
      exact ⟨⟨_, rfl, World.ownsRow_nil _ _ _ _⟩, hB2⟩
    | true =>
      go_wp2_with fail
      refine (cC.out _ ha2 hb2).mono ?_
      rintro e w3 ⟨rfl, h3⟩
      have hb3 := hb2.mono h3 h3.size
      have ha3 := ha2.mono h3 h3.size
      have hB3 := hB2.trans (h3.mono hB2.size)
      cases C with
      | false =>
        obtain rfl : M = ([], 51) := by rw [HM.out]; rfl
        go_wp2_with fail
        go_ret2
        exact ⟨⟨_, rfl, World.ownsRow_nil _ _ _ _⟩, hB3⟩
      | true =>
        obtain rfl : M = (R, 0) := by rw [HM.out]; rfl
        go_wp2_with fail
        refine (cR.out _ ha3 hb3).mono ?_
        rintro e w4 ⟨⟨v, rfl, hv⟩, h4⟩
        obtain ⟨A1, c1, rfl, -⟩ := (ItemsAt.of_own hv).form
        go_wp2
        go_ret2
        exact ⟨⟨_, rfl, ownsRow_wide hv hB3.size⟩, hB3.trans (h4.mono hB3.size)⟩
end It
end Go.Proofs.Ytdbkkldgobkjcaa
