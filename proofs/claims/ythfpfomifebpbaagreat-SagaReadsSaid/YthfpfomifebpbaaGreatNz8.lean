/-
  saga: plain laws of what is missing.
  saga: the document's sameInts and Same.
  saga: the document's May of plans, Holders, in.
  saga: the document's set, without, ends, all, undo.
  saga: plain: the program's May is the document's.
-/
import Derived.Test.YthfpfomifebpbaaGreatNz7
import Derived.Test.YthfpfomifebpbaaGreatNz5
import Derived.Test.YthfpfomifebpbaaGreatNz6

set_option linter.unusedVariables false
set_option linter.unusedSimpArgs false
namespace Go.Proofs.YthfpfomifebpbaaGreat
open Go.RowKit Go.Maps
namespace Sa
open It

def sumT (k : Bs) (L : List (List It.Item)) : Int := L.foldr (fun l n => tot k l + n) 0
theorem sumT_cons (k : Bs) (l : List It.Item) (L : List (List It.Item)) : sumT k (l :: L) = tot k l + sumT k L := rfl
theorem sumT_nonneg {k : Bs} : ∀ {L : List (List It.Item)}, (∀ l ∈ L, M l) → 0 ≤ sumT k L
  | [], _ => Int.le_refl _
  | l :: L, h => by
    have h1 := (h l (by simp)).nonneg k
    have h2 := sumT_nonneg (k := k) fun x hx => h x (List.mem_cons_of_mem _ hx)
    rw [sumT_cons]
    omega
theorem sumT_set {k : Bs} {l : List It.Item} : ∀ {L : List (List It.Item)} {r : Nat}, r < L.length → sumT k (L.set r l) = sumT k L - tot k (L.getD r []) + tot k l
  | [], r, h => by simp at h
  | x :: L, 0, _ => by simp only [List.set_cons_zero, sumT_cons, List.getD_cons_zero]; omega
  | x :: L, r + 1, h => by
    have := sumT_set (k := k) (l := l) (L := L) (r := r) (by simpa using h)
    simp only [List.set_cons_succ, sumT_cons, List.getD_cons_succ]
    omega
theorem meetrest_M {a b : List It.Item} (ha : M a) (hb : M b) : M (It.eachL restF a (It.eachL meetF a b)) ∧ ∀ k, tot k (It.eachL restF a (It.eachL meetF a b)) = max 0 (tot k a - tot k b) := by
  have hm := meet_M ha hb
  refine ⟨rest_M ha hm, fun k => ?_⟩
  rw [rest_tot ha hm, meet_tot ha hb]
  have := ha.nonneg k
  have := hb.nonneg k
  omega
theorem leftR_M : ∀ {L : List (List It.Item)} {want : List It.Item}, M want → (∀ l ∈ L, M l) → M (leftR want L) ∧ ∀ k, tot k (leftR want L) = max 0 (tot k want - sumT k L)
  | [], want, hw, _ => ⟨hw, fun k => by
      have := hw.nonneg k
      show tot k want = max 0 (tot k want - 0)
      omega⟩
  | l :: L, want, hw, hL => by
    obtain ⟨h1, h2⟩ := meetrest_M hw (hL l (by simp))
    obtain ⟨h3, h4⟩ := leftR_M (L := L) h1 fun x hx => hL x (List.mem_cons_of_mem _ hx)
    refine ⟨h3, fun k => ?_⟩
    have h5 := h4 k
    rw [h2 k] at h5
    have h6 := sumT_nonneg (k := k) (L := L) fun x hx => hL x (List.mem_cons_of_mem _ hx)
    have h7 := (hL l (by simp)).nonneg k
    show tot k (leftR _ L) = _
    rw [h5, sumT_cons]
    omega
theorem M_nil : M ([] : List It.Item) := (may_iff []).1 (by decide +kernel)
theorem M_of {l : List It.Item} (h : may l = true) : M l := (may_iff l).1 h
theorem leftOf_R : ∀ {L : List (List It.Item)} {want : List It.Item}, M want → (∀ l ∈ L, M l) → leftOf want L = leftR want L
  | [], want, _, _ => rfl
  | l :: L, want, hw, hL => by
    have hl := hL l (by simp)
    have h1 := meetrest_M hw hl
    have e : both restF want (both meetF want l) = It.eachL restF want (It.eachL meetF want l) := by rw [both_of hw hl, both_of hw (meet_M hw hl)]
    show leftOf (both restF want (both meetF want l)) L = _
    rw [e]
    exact leftOf_R h1.1 fun x hx => hL x (List.mem_cons_of_mem _ hx)
theorem mayS_M {s : Saga} (h : mayS s = true) : M s.want ∧ (∀ l ∈ s.got, M l) ∧ s.got.length ≤ 8 := by
  obtain ⟨hh, -⟩ := mayS_split h
  exact ⟨M_of hh.may, fun l hl => M_of (mayGot_all hh.kept l hl), by have := hh.got; have := hh.r2; omega⟩
theorem missing_R {want : List It.Item} {L : List (List It.Item)} (hw : M want) (hL : ∀ l ∈ L, M l) (h8 : L.length ≤ 8) : missing want L = leftR want L := by
  have hm : mayAll want L = true := by
    unfold mayAll
    simp only [Bool.and_eq_true, decide_eq_true_eq]
    refine ⟨⟨(may_iff want).2 hw, by omega⟩, ?_⟩
    first
      | (rw [List.all_eq_true]; exact fun l hl => (may_iff l).2 (hL l hl))
      | (simp; exact fun l hl => (may_iff l).2 (hL l hl))
  unfold missing
  rw [if_pos hm]
  exact leftOf_R hw hL
/-- what is missing when a region that held nothing holds something -/
theorem left_set {want l : List It.Item} {L : List (List It.Item)} {r : Nat} (hw : M want) (hL : ∀ x ∈ L, M x) (hl : M l) (hr : r < L.length) (h0 : L.getD r [] = []) : It.eachL restF (leftR want L) l = leftR want (L.set r l) := by
  obtain ⟨h1, h2⟩ := leftR_M hw hL
  have hL' : ∀ x ∈ L.set r l, M x := fun x hx => by
    rcases List.mem_or_eq_of_mem_set hx with h | rfl
    · exact hL x h
    · exact hl
  obtain ⟨h3, h4⟩ := leftR_M hw hL'
  refine M.ext (rest_M h1 hl) h3 fun k => ?_
  rw [rest_tot h1 hl, h2, h4, sumT_set hr, h0]
  have := hl.nonneg k
  have e : tot k ([] : List It.Item) = 0 := rfl
  rw [e]
  omega
theorem visit_at {f r : Int} {i : Nat} (h : i < (visit f r).length) : (visit f r)[i] = (f + (i : Int)) % r ∧ (i : Int) < r ∧ 0 ≤ f ∧ f < r := by
  have hv : ¬ (r < 1 ∨ 8 < r ∨ f < 0 ∨ r ≤ f) := fun hb => by
    have h' := h
    rw [visit_none hb] at h'
    simp at h'
  have hl : (visit f r).length = r.toNat := by rw [visit_some hv]; simp
  refine ⟨?_, by omega, by omega, by omega⟩
  have : (visit f r)[i]? = some ((f + (i : Int)) % r) := by
    rw [visit_some hv, List.getElem?_map, List.getElem?_range (by omega)]
    rfl
  rw [List.getElem?_eq_getElem h] at this
  exact Option.some.inj this
theorem visit_inj {f r : Int} {i j : Nat} (hi : i < (visit f r).length) (hj : j < (visit f r).length) (h : (visit f r)[i] = (visit f r)[j]) : i = j := by
  obtain ⟨e1, h1, h2, h3⟩ := visit_at hi
  obtain ⟨e2, h4, -, -⟩ := visit_at hj
  rw [e1, e2] at h
  have hm : ∀ x : Int, 0 ≤ x → x < 2 * r → x % r = if x < r then x else x - r := fun x hx0 hx => by
    split
    · exact Int.emod_eq_of_lt hx0 (by omega)
    · rw [show x = (x - r) + r by omega, Int.add_emod_right]
      rw [show (x - r) + r - r = x - r by omega]
      exact Int.emod_eq_of_lt (by omega) (by omega)
  rw [hm _ (by omega) (by omega), hm _ (by omega) (by omega)] at h
  split at h <;> split at h <;> omega
theorem sorted_mem {x : Int} {l : List Int} : x ∈ sorted l ↔ x ∈ l := by unfold sorted; exact List.mem_mergeSort
/-- a region that is asked holds nothing yet -/
theorem asked_none {s : Saga} (h : mayS s = true) (h1 : s.state = 1) {x : Int} (hx : x ∈ s.pending) : s.got.getD x.toNat [] = [] := by
  obtain ⟨hh, hb⟩ := mayS_split h
  rw [h1] at hb
  unfold bodyAt at hb
  rw [if_pos rfl] at hb
  simp only [Bool.and_eq_true, decide_eq_true_eq] at hb
  obtain ⟨⟨-, hp⟩, hr⟩ := hb
  obtain ⟨a, ha⟩ : ∃ a : Nat, (s.asked - 1).toNat = a := ⟨_, rfl⟩
  rw [ha] at hp hr
  have hva : a < (visit s.first s.regions).length := by
    have := hh.visit
    have := hh.a1
    have := hh.a2
    omega
  rw [hp] at hx
  have hx' : x = (visit s.first s.regions)[a] := by
    rw [List.drop_eq_getElem_cons hva, List.take_succ_cons, List.take_zero] at hx
    exact List.mem_singleton.1 hx
  apply Decidable.byContradiction
  intro hne
  have hx0 := visit_mem (hx' ▸ List.getElem_mem hva : x ∈ visit s.first s.regions)
  have hmem : x ∈ holders s.got := by
    unfold holders holdersTo
    refine List.mem_map.2 ⟨x.toNat, List.mem_filter.2 ⟨List.mem_range.2 (by have := hh.got; omega), ?_⟩, by omega⟩
    rw [decide_eq_true_eq]
    exact Nat.pos_of_ne_zero fun e => hne (List.eq_nil_of_length_eq_zero e)
  have hs := sorted_mem.1 (rises_mem hr hmem)
  obtain ⟨i, hi, e⟩ := List.getElem_of_mem hs
  rw [List.length_take] at hi
  rw [List.getElem_take] at e
  have := visit_inj (by omega) hva (e.trans hx')
  omega
end Sa
end Go.Proofs.YthfpfomifebpbaaGreat

namespace Go.Proofs.YthfpfomifebpbaaGreat
open Go.RowKit Go.Maps
namespace Sa
open It
set_option linter.unusedSimpArgs false

set_option maxRecDepth 100000 in
set_option maxHeartbeats 2000000 in
theorem refints_calls (a b : List Int) (va vb : Value) (w : World) (ha : IntsAt w 0 w.heap.size va a) (hb : IntsAt w 0 w.heap.size vb b) :
    Calls Tryz.prog 36 #[va, vb] w fun e w' => e = .returned (.bool (decide (a = b))) ∧ Below w.heap.size w w' := by
  have hmx : Tryz.prog.follows .mixedOrders = true := by kernel_rfl
  have HA := Lib.hid ha
  have HB := Lib.hid hb
  obtain ⟨A, c, rfl, hc1, hc2, -⟩ := ha.form
  obtain ⟨A', c', rfl, hc1', hc2', -⟩ := hb.form
  unfold maxLen at hc2 hc2'
  clear ha hb
  by_cases hlen : a.length = b.length
  · have dl : decide ((a.length : Int) = b.length) = true := decide_eq_true (by omega)
    have hln2 : ((a.length : Int) != (b.length : Int)) = false := by simp; omega
    go_enter Tryz.func36, Tryz.ntmps36
    go_wp2
    go_loopw [5] (fun i wr => ∃ k : Nat, k ≤ a.length ∧ i = .int .i64 k ∧ (∀ j, j < k → a.getD j 0 = b.getD j 0) ∧ Below w.heap.size w wr) (fun i _ => a.length - (intOf i).toNat)
    case atStart => exact ⟨0, by omega, rfl, (fun j hj => by omega), Below.refl _ _⟩
    case round =>
      obtain ⟨k, hk, rfl, hN, hW⟩ := hrel
      have HN := Lib.hid hN
      clear hN
      by_cases hlt : k < a.length
      · have hd : decide ((k : Int) < a.length) = true := decide_eq_true (by omega)
        obtain ⟨p, o, rfl, _, hp, g1⟩ := (HA.out.mono hW (Nat.le_refl _)).cellAt hlt
        obtain ⟨p', o', rfl, _, hp', g2⟩ := (HB.out.mono hW (Nat.le_refl _)).cellAt (j := k) (by omega)
        have hno : a.getD k 0 ≠ b.getD k 0 → decide (a = b) = false := fun h => decide_eq_false fun e => h (by rw [e])
        have hye : a.getD k 0 = b.getD k 0 → ∀ j, j < k + 1 → a.getD j 0 = b.getD j 0 := fun h => allTo_snoc HN.out h
        generalize a.getD k 0 = x at g1 hno hye
        generalize b.getD k 0 = y at g2 hno hye
        have HNO := Lib.hid hno
        have HYE := Lib.hid hye
        clear hno hye
        have hs := hW.size
        go_wp2
        refine Pu.regionW (fun W' => Below wr.drew.heap.size wr.drew W') hmx (by kernel_rfl) (by kernel_rfl) (Below.refl _ _) rfl ?_
        iterate 9 (first
          | (refine Pu.Walk.off (by rfl) ?_; simp only [Act.put, List.setIfInBounds_toArray, List.set_cons_succ, List.set_cons_zero])
          | (apply Pu.Walk.on (by rfl)
             · intro W1 h1
               have g1a : W1.cell? ⟨p, o + k, none⟩ = some (.int .i64 x) := (Below.cell (p := ⟨p, o + k, none⟩) h1 (by show p < wr.heap.size; omega)).trans g1
               have g2a : W1.cell? ⟨p', o' + k, none⟩ = some (.int .i64 y) := (Below.cell (p := ⟨p', o' + k, none⟩) h1 (by show p' < wr.heap.size; omega)).trans g2
               go_wp2_with fail
               refine ⟨rfl, ?_, h1⟩
               try simp only [Act.put, List.setIfInBounds_toArray, List.set_cons_succ, List.set_cons_zero]
               rfl
             simp only [Act.put, List.setIfInBounds_toArray, List.set_cons_succ, List.set_cons_zero]))
        refine Pu.Walk.nil (fun W1 h1 => ?_)
        have hB1 : Below w.heap.size w W1 := (hW.trans ((Below.refl w.heap.size wr).drew)).trans (h1.mono hW.size)
        clear g1 g2
        by_cases hxy : x = y
        · subst hxy
          go_wp2
          go_roundw
          case rel => exact ⟨k + 1, by omega, by go_num, HYE.out rfl, hB1⟩
          case measure => simp [intOf]; omega
        · have dx : decide (x = y) = false := decide_eq_false hxy
          go_wp2
          go_ret
          exact ⟨by rw [HNO.out hxy]; rfl, hB1⟩
      · obtain rfl : k = a.length := by omega
        go_wp2
        go_ret
        exact ⟨by rw [decide_eq_true (eq_of_getD hlen HN.out)]; rfl, hW⟩
  · have dl : decide ((a.length : Int) = b.length) = false := decide_eq_false (by omega)
    rw [decide_eq_false (fun e : a = b => hlen (by rw [e]))]
    go_enter Tryz.func36, Tryz.ntmps36
    go_wp2
    go_ret
    exact ⟨rfl, Below.refl _ _⟩

theorem neq_cases (x y : Int) : (x = y ∧ decide (x = y) = true ∧ (x == y) = true ∧ (x != y) = false) ∨ (x ≠ y ∧ decide (x = y) = false ∧ (x == y) = false ∧ (x != y) = true) := by
  by_cases h : x = y
  · exact .inl ⟨h, decide_eq_true h, by rw [beq_iff_eq]; exact h, by simp [h]⟩
  · exact .inr ⟨h, decide_eq_false h, by rw [beq_eq_false_iff_ne]; exact h, by simp [h]⟩
theorem neqb_cases (x y : Bool) : (x = y ∧ decide (x = y) = true ∧ (x == y) = true ∧ (x != y) = false) ∨ (x ≠ y ∧ decide (x = y) = false ∧ (x == y) = false ∧ (x != y) = true) := by
  cases x <;> cases y <;> simp
theorem same_no {a b : Saga} (h : a ≠ b) : sameS a b = false := by
  rw [Bool.eq_false_iff]
  exact fun e => h (sameS_iff.1 e)

set_option maxRecDepth 100000 in
set_option maxHeartbeats 8000000 in
theorem refsame15_calls (a b : Saga) (vw vg vp uw ug up : Value) (w : World) (ha : Parts w 0 w.heap.size a vw vg vp) (hb : Parts w 0 w.heap.size b uw ug up) :
    Calls Tryz.prog 11 #[.agg (sagaC a vw vg vp), .agg (sagaC b uw ug up)] w fun e w' => e = .returned (.bool (sameS a b)) ∧ Below w.heap.size w w' := by
  have hmx : Tryz.prog.follows .mixedOrders = true := by kernel_rfl
  have cW := Lib.hid (fun W (h : Below w.heap.size w W) => refsame_calls a.want b.want vw uw W (ha.later h).want (hb.later h).want)
  have cN := Lib.hid (fun W (h : Below w.heap.size w W) => refints_calls a.pending b.pending vp up W (ha.later h).pend (hb.later h).pend)
  have HGA := Lib.hid ha.got
  have HGB := Lib.hid hb.got
  obtain ⟨A1, c1, rfl, -⟩ := ha.want.form
  obtain ⟨A2, c2, rfl, ha1, ha2⟩ := ha.got.form
  obtain ⟨A3, c3, rfl, -⟩ := ha.pend.form
  obtain ⟨B1, d1, rfl, -⟩ := hb.want.form
  obtain ⟨B2, d2, rfl, hb1, hb2⟩ := hb.got.form
  obtain ⟨B3, d3, rfl, -⟩ := hb.pend.form
  unfold maxLen at ha2 hb2
  clear ha hb
  have hal := ((Below.refl w.heap.size w).alloc (Nat.le_refl _) (.cells (sagaC a (.slice A1 a.want.length c1) (.slice A2 a.got.length c2) (.slice A3 a.pending.length c3)) 26))
  have hal2 := hal.alloc hal.size (.cells (sagaC b (.slice B1 b.want.length d1) (.slice B2 b.got.length d2) (.slice B3 b.pending.length d3)) 26)
  have hoA := (Ob.new w 26 (sagaC a (.slice A1 a.want.length c1) (.slice A2 a.got.length c2) (.slice A3 a.pending.length c3))).alloc (.cells (sagaC b (.slice B1 b.want.length d1) (.slice B2 b.got.length d2) (.slice B3 b.pending.length d3)) 26)
  have hoB := Ob.new (w.alloc (.cells (sagaC a (.slice A1 a.want.length c1) (.slice A2 a.got.length c2) (.slice A3 a.pending.length c3)) 26)) 26 (sagaC b (.slice B1 b.want.length d1) (.slice B2 b.got.length d2) (.slice B3 b.pending.length d3))
  rw [World.size_alloc] at hoB
  have HB := Lib.hid hal2
  clear hal hal2
  unfold sagaC at hoA hoB HB ⊢
  have HAB := Lib.hid (fun V (h : Below ((w.alloc (.cells #[.int .i64 a.order, .int .i64 a.first, .int .i64 a.regions, .slice A1 a.want.length c1, .bool a.waits, .int .i64 a.state, .int .i64 a.asked, .slice A2 a.got.length c2, .slice A3 a.pending.length c3, .bool a.cancelled] 26)).alloc (.cells #[.int .i64 b.order, .int .i64 b.first, .int .i64 b.regions, .slice B1 b.want.length d1, .bool b.waits, .int .i64 b.state, .int .i64 b.asked, .slice B2 b.got.length d2, .slice B3 b.pending.length d3, .bool b.cancelled] 26)).heap.size ((w.alloc (.cells #[.int .i64 a.order, .int .i64 a.first, .int .i64 a.regions, .slice A1 a.want.length c1, .bool a.waits, .int .i64 a.state, .int .i64 a.asked, .slice A2 a.got.length c2, .slice A3 a.pending.length c3, .bool a.cancelled] 26)).alloc (.cells #[.int .i64 b.order, .int .i64 b.first, .int .i64 b.regions, .slice B1 b.want.length d1, .bool b.waits, .int .i64 b.state, .int .i64 b.asked, .slice B2 b.got.length d2, .slice B3 b.pending.length d3, .bool b.cancelled] 26)) V) => And.intro (ob_ten (hoA.same h)) (ob_ten (hoB.same h)))
  have HOA := Lib.hid hoA
  have HOB := Lib.hid hoB
  clear hoA hoB
  rcases neq_cases a.order b.order with ⟨h0, x0, y0, z0⟩ | ⟨h0, x0, y0, z0⟩
  rotate_left
  · have HN := Lib.hid (show a ≠ b from fun e => h0 (by rw [e]))
    clear h0
    have HE := Lib.hid HB.out
    go_enter Tryz.func11, Tryz.ntmps11
    go_wp2_with (first
      | (go_at_call 35; refine (cW.out _ HB.out).mono ?_; rintro e W ⟨rfl, hb1⟩; obtain ⟨⟨a0, a1, a2, a3, a4, a5, a6, a7, a8, a9⟩, b0, b1, b2, b3, b4, b5, b6, b7, b8, b9⟩ := HAB.out W hb1; have HB1 := Lib.hid (HB.out.trans (hb1.mono HB.out.size)); have HAB1 := Lib.hid (fun V (h : Below W.heap.size W V) => HAB.out V (hb1.trans (h.mono hb1.size))); have HE := Lib.hid HB1.out; clear hb1)
      | (go_at_call 36; refine (cN.out _ HB1.out).mono ?_; rintro e W2 ⟨rfl, hb1⟩; obtain ⟨⟨a0, a1, a2, a3, a4, a5, a6, a7, a8, a9⟩, b0, b1, b2, b3, b4, b5, b6, b7, b8, b9⟩ := HAB1.out W2 hb1; have HE := Lib.hid (HB1.out.trans (hb1.mono HB1.out.size)); clear hb1))
    go_ret
    exact ⟨by rw [same_no HN.out]; rfl, HE.out⟩
  have H0 := Lib.hid h0
  clear h0
  rcases neq_cases a.first b.first with ⟨h1, x1, y1, z1⟩ | ⟨h1, x1, y1, z1⟩
  rotate_left
  · have HN := Lib.hid (show a ≠ b from fun e => h1 (by rw [e]))
    clear h1
    have HE := Lib.hid HB.out
    go_enter Tryz.func11, Tryz.ntmps11
    go_wp2_with (first
      | (go_at_call 35; refine (cW.out _ HB.out).mono ?_; rintro e W ⟨rfl, hb1⟩; obtain ⟨⟨a0, a1, a2, a3, a4, a5, a6, a7, a8, a9⟩, b0, b1, b2, b3, b4, b5, b6, b7, b8, b9⟩ := HAB.out W hb1; have HB1 := Lib.hid (HB.out.trans (hb1.mono HB.out.size)); have HAB1 := Lib.hid (fun V (h : Below W.heap.size W V) => HAB.out V (hb1.trans (h.mono hb1.size))); have HE := Lib.hid HB1.out; clear hb1)
      | (go_at_call 36; refine (cN.out _ HB1.out).mono ?_; rintro e W2 ⟨rfl, hb1⟩; obtain ⟨⟨a0, a1, a2, a3, a4, a5, a6, a7, a8, a9⟩, b0, b1, b2, b3, b4, b5, b6, b7, b8, b9⟩ := HAB1.out W2 hb1; have HE := Lib.hid (HB1.out.trans (hb1.mono HB1.out.size)); clear hb1))
    go_ret
    exact ⟨by rw [same_no HN.out]; rfl, HE.out⟩
  have H1 := Lib.hid h1
  clear h1
  rcases neq_cases a.regions b.regions with ⟨h2, x2, y2, z2⟩ | ⟨h2, x2, y2, z2⟩
  rotate_left
  · have HN := Lib.hid (show a ≠ b from fun e => h2 (by rw [e]))
    clear h2
    have HE := Lib.hid HB.out
    go_enter Tryz.func11, Tryz.ntmps11
    go_wp2_with (first
      | (go_at_call 35; refine (cW.out _ HB.out).mono ?_; rintro e W ⟨rfl, hb1⟩; obtain ⟨⟨a0, a1, a2, a3, a4, a5, a6, a7, a8, a9⟩, b0, b1, b2, b3, b4, b5, b6, b7, b8, b9⟩ := HAB.out W hb1; have HB1 := Lib.hid (HB.out.trans (hb1.mono HB.out.size)); have HAB1 := Lib.hid (fun V (h : Below W.heap.size W V) => HAB.out V (hb1.trans (h.mono hb1.size))); have HE := Lib.hid HB1.out; clear hb1)
      | (go_at_call 36; refine (cN.out _ HB1.out).mono ?_; rintro e W2 ⟨rfl, hb1⟩; obtain ⟨⟨a0, a1, a2, a3, a4, a5, a6, a7, a8, a9⟩, b0, b1, b2, b3, b4, b5, b6, b7, b8, b9⟩ := HAB1.out W2 hb1; have HE := Lib.hid (HB1.out.trans (hb1.mono HB1.out.size)); clear hb1))
    go_ret
    exact ⟨by rw [same_no HN.out]; rfl, HE.out⟩
  have H2 := Lib.hid h2
  clear h2
  by_cases h3 : a.want = b.want
  rotate_left
  · rw [decide_eq_false h3] at cW
    have HN := Lib.hid (show a ≠ b from fun e => h3 (by rw [e]))
    clear h3
    have HE := Lib.hid HB.out
    go_enter Tryz.func11, Tryz.ntmps11
    go_wp2_with (first
      | (go_at_call 35; refine (cW.out _ HB.out).mono ?_; rintro e W ⟨rfl, hb1⟩; obtain ⟨⟨a0, a1, a2, a3, a4, a5, a6, a7, a8, a9⟩, b0, b1, b2, b3, b4, b5, b6, b7, b8, b9⟩ := HAB.out W hb1; have HB1 := Lib.hid (HB.out.trans (hb1.mono HB.out.size)); have HAB1 := Lib.hid (fun V (h : Below W.heap.size W V) => HAB.out V (hb1.trans (h.mono hb1.size))); have HE := Lib.hid HB1.out; clear hb1)
      | (go_at_call 36; refine (cN.out _ HB1.out).mono ?_; rintro e W2 ⟨rfl, hb1⟩; obtain ⟨⟨a0, a1, a2, a3, a4, a5, a6, a7, a8, a9⟩, b0, b1, b2, b3, b4, b5, b6, b7, b8, b9⟩ := HAB1.out W2 hb1; have HE := Lib.hid (HB1.out.trans (hb1.mono HB1.out.size)); clear hb1))
    go_ret
    exact ⟨by rw [same_no HN.out]; rfl, HE.out⟩
  rw [decide_eq_true h3] at cW
  have H3 := Lib.hid h3
  clear h3
  rcases neqb_cases a.waits b.waits with ⟨h4, x4, y4, z4⟩ | ⟨h4, x4, y4, z4⟩
  rotate_left
  · have HN := Lib.hid (show a ≠ b from fun e => h4 (by rw [e]))
    clear h4
    have HE := Lib.hid HB.out
    go_enter Tryz.func11, Tryz.ntmps11
    go_wp2_with (first
      | (go_at_call 35; refine (cW.out _ HB.out).mono ?_; rintro e W ⟨rfl, hb1⟩; obtain ⟨⟨a0, a1, a2, a3, a4, a5, a6, a7, a8, a9⟩, b0, b1, b2, b3, b4, b5, b6, b7, b8, b9⟩ := HAB.out W hb1; have HB1 := Lib.hid (HB.out.trans (hb1.mono HB.out.size)); have HAB1 := Lib.hid (fun V (h : Below W.heap.size W V) => HAB.out V (hb1.trans (h.mono hb1.size))); have HE := Lib.hid HB1.out; clear hb1)
      | (go_at_call 36; refine (cN.out _ HB1.out).mono ?_; rintro e W2 ⟨rfl, hb1⟩; obtain ⟨⟨a0, a1, a2, a3, a4, a5, a6, a7, a8, a9⟩, b0, b1, b2, b3, b4, b5, b6, b7, b8, b9⟩ := HAB1.out W2 hb1; have HE := Lib.hid (HB1.out.trans (hb1.mono HB1.out.size)); clear hb1))
    go_ret
    exact ⟨by rw [same_no HN.out]; rfl, HE.out⟩
  have H4 := Lib.hid h4
  clear h4
  rcases neq_cases a.state b.state with ⟨h5, x5, y5, z5⟩ | ⟨h5, x5, y5, z5⟩
  rotate_left
  · have HN := Lib.hid (show a ≠ b from fun e => h5 (by rw [e]))
    clear h5
    have HE := Lib.hid HB.out
    go_enter Tryz.func11, Tryz.ntmps11
    go_wp2_with (first
      | (go_at_call 35; refine (cW.out _ HB.out).mono ?_; rintro e W ⟨rfl, hb1⟩; obtain ⟨⟨a0, a1, a2, a3, a4, a5, a6, a7, a8, a9⟩, b0, b1, b2, b3, b4, b5, b6, b7, b8, b9⟩ := HAB.out W hb1; have HB1 := Lib.hid (HB.out.trans (hb1.mono HB.out.size)); have HAB1 := Lib.hid (fun V (h : Below W.heap.size W V) => HAB.out V (hb1.trans (h.mono hb1.size))); have HE := Lib.hid HB1.out; clear hb1)
      | (go_at_call 36; refine (cN.out _ HB1.out).mono ?_; rintro e W2 ⟨rfl, hb1⟩; obtain ⟨⟨a0, a1, a2, a3, a4, a5, a6, a7, a8, a9⟩, b0, b1, b2, b3, b4, b5, b6, b7, b8, b9⟩ := HAB1.out W2 hb1; have HE := Lib.hid (HB1.out.trans (hb1.mono HB1.out.size)); clear hb1))
    go_ret
    exact ⟨by rw [same_no HN.out]; rfl, HE.out⟩
  have H5 := Lib.hid h5
  clear h5
  rcases neq_cases a.asked b.asked with ⟨h6, x6, y6, z6⟩ | ⟨h6, x6, y6, z6⟩
  rotate_left
  · have HN := Lib.hid (show a ≠ b from fun e => h6 (by rw [e]))
    clear h6
    have HE := Lib.hid HB.out
    go_enter Tryz.func11, Tryz.ntmps11
    go_wp2_with (first
      | (go_at_call 35; refine (cW.out _ HB.out).mono ?_; rintro e W ⟨rfl, hb1⟩; obtain ⟨⟨a0, a1, a2, a3, a4, a5, a6, a7, a8, a9⟩, b0, b1, b2, b3, b4, b5, b6, b7, b8, b9⟩ := HAB.out W hb1; have HB1 := Lib.hid (HB.out.trans (hb1.mono HB.out.size)); have HAB1 := Lib.hid (fun V (h : Below W.heap.size W V) => HAB.out V (hb1.trans (h.mono hb1.size))); have HE := Lib.hid HB1.out; clear hb1)
      | (go_at_call 36; refine (cN.out _ HB1.out).mono ?_; rintro e W2 ⟨rfl, hb1⟩; obtain ⟨⟨a0, a1, a2, a3, a4, a5, a6, a7, a8, a9⟩, b0, b1, b2, b3, b4, b5, b6, b7, b8, b9⟩ := HAB1.out W2 hb1; have HE := Lib.hid (HB1.out.trans (hb1.mono HB1.out.size)); clear hb1))
    go_ret
    exact ⟨by rw [same_no HN.out]; rfl, HE.out⟩
  have H6 := Lib.hid h6
  clear h6
  rcases neq_cases (a.got.length : Int) b.got.length with ⟨h7, x7, y7, z7⟩ | ⟨h7, x7, y7, z7⟩
  rotate_left
  · have HN := Lib.hid (show a ≠ b from fun e => h7 (by rw [e]))
    clear h7
    have HE := Lib.hid HB.out
    go_enter Tryz.func11, Tryz.ntmps11
    go_wp2_with (first
      | (go_at_call 35; refine (cW.out _ HB.out).mono ?_; rintro e W ⟨rfl, hb1⟩; obtain ⟨⟨a0, a1, a2, a3, a4, a5, a6, a7, a8, a9⟩, b0, b1, b2, b3, b4, b5, b6, b7, b8, b9⟩ := HAB.out W hb1; have HB1 := Lib.hid (HB.out.trans (hb1.mono HB.out.size)); have HAB1 := Lib.hid (fun V (h : Below W.heap.size W V) => HAB.out V (hb1.trans (h.mono hb1.size))); have HE := Lib.hid HB1.out; clear hb1)
      | (go_at_call 36; refine (cN.out _ HB1.out).mono ?_; rintro e W2 ⟨rfl, hb1⟩; obtain ⟨⟨a0, a1, a2, a3, a4, a5, a6, a7, a8, a9⟩, b0, b1, b2, b3, b4, b5, b6, b7, b8, b9⟩ := HAB1.out W2 hb1; have HE := Lib.hid (HB1.out.trans (hb1.mono HB1.out.size)); clear hb1))
    go_ret
    exact ⟨by rw [same_no HN.out]; rfl, HE.out⟩
  have H7 := Lib.hid h7
  clear h7
  by_cases h8 : a.pending = b.pending
  rotate_left
  · rw [decide_eq_false h8] at cN
    have HN := Lib.hid (show a ≠ b from fun e => h8 (by rw [e]))
    clear h8
    have HE := Lib.hid HB.out
    go_enter Tryz.func11, Tryz.ntmps11
    go_wp2_with (first
      | (go_at_call 35; refine (cW.out _ HB.out).mono ?_; rintro e W ⟨rfl, hb1⟩; obtain ⟨⟨a0, a1, a2, a3, a4, a5, a6, a7, a8, a9⟩, b0, b1, b2, b3, b4, b5, b6, b7, b8, b9⟩ := HAB.out W hb1; have HB1 := Lib.hid (HB.out.trans (hb1.mono HB.out.size)); have HAB1 := Lib.hid (fun V (h : Below W.heap.size W V) => HAB.out V (hb1.trans (h.mono hb1.size))); have HE := Lib.hid HB1.out; clear hb1)
      | (go_at_call 36; refine (cN.out _ HB1.out).mono ?_; rintro e W2 ⟨rfl, hb1⟩; obtain ⟨⟨a0, a1, a2, a3, a4, a5, a6, a7, a8, a9⟩, b0, b1, b2, b3, b4, b5, b6, b7, b8, b9⟩ := HAB1.out W2 hb1; have HE := Lib.hid (HB1.out.trans (hb1.mono HB1.out.size)); clear hb1))
    go_ret
    exact ⟨by rw [same_no HN.out]; rfl, HE.out⟩
  rw [decide_eq_true h8] at cN
  have H8 := Lib.hid h8
  clear h8
  rcases neqb_cases a.cancelled b.cancelled with ⟨h9, x9, y9, z9⟩ | ⟨h9, x9, y9, z9⟩
  rotate_left
  · have HN := Lib.hid (show a ≠ b from fun e => h9 (by rw [e]))
    clear h9
    have HE := Lib.hid HB.out
    go_enter Tryz.func11, Tryz.ntmps11
    go_wp2_with (first
      | (go_at_call 35; refine (cW.out _ HB.out).mono ?_; rintro e W ⟨rfl, hb1⟩; obtain ⟨⟨a0, a1, a2, a3, a4, a5, a6, a7, a8, a9⟩, b0, b1, b2, b3, b4, b5, b6, b7, b8, b9⟩ := HAB.out W hb1; have HB1 := Lib.hid (HB.out.trans (hb1.mono HB.out.size)); have HAB1 := Lib.hid (fun V (h : Below W.heap.size W V) => HAB.out V (hb1.trans (h.mono hb1.size))); have HE := Lib.hid HB1.out; clear hb1)
      | (go_at_call 36; refine (cN.out _ HB1.out).mono ?_; rintro e W2 ⟨rfl, hb1⟩; obtain ⟨⟨a0, a1, a2, a3, a4, a5, a6, a7, a8, a9⟩, b0, b1, b2, b3, b4, b5, b6, b7, b8, b9⟩ := HAB1.out W2 hb1; have HE := Lib.hid (HB1.out.trans (hb1.mono HB1.out.size)); clear hb1))
    go_ret
    exact ⟨by rw [same_no HN.out]; rfl, HE.out⟩
  have H9 := Lib.hid h9
  clear h9
  go_enter Tryz.func11, Tryz.ntmps11
  go_wp2_with (first
    | (go_at_call 35; refine (cW.out _ HB.out).mono ?_; rintro e W ⟨rfl, hb1⟩; obtain ⟨⟨a0, a1, a2, a3, a4, a5, a6, a7, a8, a9⟩, b0, b1, b2, b3, b4, b5, b6, b7, b8, b9⟩ := HAB.out W hb1; have HB1 := Lib.hid (HB.out.trans (hb1.mono HB.out.size)); have HAB1 := Lib.hid (fun V (h : Below W.heap.size W V) => HAB.out V (hb1.trans (h.mono hb1.size))); have HE := Lib.hid HB1.out; have HX1 := Lib.hid hb1; clear hb1)
    | (go_at_call 36; refine (cN.out _ HB1.out).mono ?_; rintro e W2 ⟨rfl, hb1⟩; obtain ⟨⟨a0, a1, a2, a3, a4, a5, a6, a7, a8, a9⟩, b0, b1, b2, b3, b4, b5, b6, b7, b8, b9⟩ := HAB1.out W2 hb1; have HE := Lib.hid (HB1.out.trans (hb1.mono HB1.out.size)); have HX2 := Lib.hid (HX1.out.trans (hb1.mono HX1.out.size)); clear hb1))
  clear HAB1 HB1 cW cN
  have hsW := HE.out.size
  have HGA2 := Lib.hid (HGA.out.mono HE.out hsW)
  have HGB2 := Lib.hid (HGB.out.mono HE.out hsW)
  have hol := HOB.out.lt
  go_loopw [5] (fun i wr => ∃ k : Nat, k ≤ a.got.length ∧ i = .int .i64 k ∧ (∀ j, j < k → a.got.getD j [] = b.got.getD j []) ∧ Below W2.heap.size W2 wr) (fun i _ => a.got.length - (intOf i).toNat)
  case atStart => exact ⟨0, by omega, rfl, (fun j hj => by omega), Below.refl _ _⟩
  case round =>
    obtain ⟨k, hk, rfl, hN, hW⟩ := hrel
    have HN := Lib.hid hN
    clear hN
    have hXW := HX2.out.trans (hW.mono HX2.out.size)
    obtain ⟨⟨a0, a1, a2, a3, a4, a5, a6, a7, a8, a9⟩, b0, b1, b2, b3, b4, b5, b6, b7, b8, b9⟩ := HAB.out wr hXW
    have hEW := HE.out.trans (hW.mono hsW)
    by_cases hlt : k < a.got.length
    · have hd : decide ((k : Int) < a.got.length) = true := decide_eq_true (by omega)
      have hltb : k < b.got.length := by have := H7.out; omega
      have hd' : decide ((k : Int) < b.got.length) = true := decide_eq_true (by omega)
      have hdr : Below wr.heap.size wr wr.drew := (Below.refl _ _).drew
      obtain ⟨p, o, x, rfl, _, hp, g1, hx⟩ := (HGA2.out.mono hW hW.size).cellAt hlt
      obtain ⟨p', o', y, rfl, _, hp', g2, hy⟩ := (HGB2.out.mono hW hW.size).cellAt hltb
      have hno : a.got.getD k [] ≠ b.got.getD k [] → sameS a b = false := fun h => same_no fun e => h (by rw [e])
      have hye : a.got.getD k [] = b.got.getD k [] → ∀ j, j < k + 1 → a.got.getD j [] = b.got.getD j [] := fun h => allTo_snoc HN.out h
      generalize a.got.getD k [] = la at hno hye hx
      generalize b.got.getD k [] = lb at hno hye hy
      have cE := Lib.hid (fun V (h : Below wr.drew.heap.size wr.drew V) => refsame_calls la lb x y V (hx.mono (hdr.trans h) (by have := h.size; have : wr.drew.heap.size = wr.heap.size := rfl; omega)) (hy.mono (hdr.trans h) (by have := h.size; have : wr.drew.heap.size = wr.heap.size := rfl; omega)))
      obtain ⟨A7, c7, rfl, -⟩ := hx.form
      obtain ⟨B7, d7, rfl, -⟩ := hy.form
      have HQ := Lib.hid (fun V (h : Below wr.drew.heap.size wr.drew V) => show _ ∧ _ ∧ V.cell? ⟨p, o + k, none⟩ = some (.slice A7 la.length c7) ∧ V.cell? ⟨p', o' + k, none⟩ = some (.slice B7 lb.length d7) from
        ⟨(HAB.out V ((hXW.drew).trans (h.mono hXW.size))).1, (HAB.out V ((hXW.drew).trans (h.mono hXW.size))).2, (Below.cell (p := ⟨p, o + k, none⟩) h hp).trans g1, (Below.cell (p := ⟨p', o' + k, none⟩) h hp').trans g2⟩)
      have HNO := Lib.hid hno
      have HYE := Lib.hid hye
      have hqq : la = lb ∨ ¬ la = lb := Decidable.em _
      have HQQ := Lib.hid hqq
      generalize hq : decide (la = lb) = q at cE
      have HDQ := Lib.hid hq
      clear hno hye hx hy hqq hq hXW g1 g2 a0 a1 a2 a3 a4 a5 a6 a8 a9 b0 b1 b2 b3 b4 b5 b6 b7 b8 b9
      go_wp2
      refine Pu.regionW (fun Wq => Below wr.drew.heap.size wr.drew Wq) hmx (by kernel_rfl) (by kernel_rfl) (Below.refl _ _) rfl ?_
      iterate 12 (first
        | (refine Pu.Walk.off (by rfl) ?_; simp only [Act.put, List.setIfInBounds_toArray, List.set_cons_succ, List.set_cons_zero])
        | (apply Pu.Walk.on (by rfl)
           · intro V1 h1
             obtain ⟨⟨a0, a1, a2, a3, a4, a5, a6, a7, a8, a9⟩, ⟨b0, b1, b2, b3, b4, b5, b6, b7, b8, b9⟩, e1, e2⟩ := HQ.out V1 h1
             go_wp2_with (go_at_call 35; refine (cE.out V1 h1).mono ?_; rintro e V2 ⟨rfl, hb⟩; replace h1 := h1.trans (hb.mono h1.size); clear hb)
             refine ⟨rfl, ?_, h1⟩
             try simp only [Act.put, List.setIfInBounds_toArray, List.set_cons_succ, List.set_cons_zero]
             rfl
           simp only [Act.put, List.setIfInBounds_toArray, List.set_cons_succ, List.set_cons_zero]))
      refine Pu.Walk.nil (fun V h1 => ?_)
      have hBV : Below W2.heap.size W2 V := (hW.drew).trans (h1.mono hW.size)
      cases q with
      | true =>
        go_wp2
        go_roundw
        case rel => exact ⟨k + 1, by omega, by go_num, HYE.out (of_decide_eq_true HDQ.out), hBV⟩
        case measure => simp [intOf]; omega
      | false =>
        go_wp2
        go_ret
        exact ⟨by rw [HNO.out (of_decide_eq_false HDQ.out)]; rfl, HE.out.trans (hBV.mono hsW)⟩
    · obtain rfl : k = a.got.length := by omega
      have hd : decide ((a.got.length : Int) < a.got.length) = false := decide_eq_false (by omega)
      have hs : sameS a b = true := sameS_iff.2 (by
        have hg := got_of_getD (by have := H7.out; omega) HN.out
        have e0 := H0.out
        have e1 := H1.out
        have e2 := H2.out
        have e3 := H3.out
        have e4 := H4.out
        have e5 := H5.out
        have e6 := H6.out
        have e8 := H8.out
        have e9 := H9.out
        cases a
        cases b
        simp_all)
      have HS := Lib.hid hs
      clear hs
      go_wp2
      go_ret
      exact ⟨by rw [HS.out]; rfl, hEW⟩
end Sa
end Go.Proofs.YthfpfomifebpbaaGreat

namespace Go.Proofs.YthfpfomifebpbaaGreat
open Go.RowKit Go.Maps
namespace Sa
open It
set_option linter.unusedSimpArgs false

set_option maxRecDepth 100000 in
set_option maxHeartbeats 2000000 in
theorem refmay14_calls (want : List It.Item) (L : List (List It.Item)) (va vb : Value) (w : World) (ha : ItemsAt w 0 w.heap.size va want) (hFa : Fits want) (hb : GotAt w 0 w.heap.size vb L) (hFb : FitsL L) :
    Calls Tryz.prog 45 #[va, vb] w fun e w' => e = .returned (.bool (mayAll want L)) ∧ Below w.heap.size w w' := by
  have cM := Lib.hid (refmay_calls want va w ha hFa)
  have hb0 := Lib.hid hb
  have HF := Lib.hid hFb
  obtain ⟨A, c, rfl, -⟩ := ha.form
  obtain ⟨A', c', rfl, hc1, hc2⟩ := hb.form
  unfold maxLen at hc2
  clear ha hb hFa hFb
  cases hw : may want with
  | false =>
    rw [hw] at cM
    rw [show mayAll want L = false by unfold mayAll; rw [hw]; rfl]
    clear hw
    go_enter Tryz.func45, Tryz.ntmps45
    go_wp2_with fail
    refine cM.out.mono ?_
    rintro e w1 ⟨rfl, hb1⟩
    go_wp2
    go_ret
    exact ⟨rfl, hb1⟩
  | true =>
    rw [hw] at cM
    have HW := Lib.hid hw
    clear hw
    by_cases h8 : L.length ≤ 8
    rotate_left
    · have d8 : decide ((L.length : Int) > 8) = true := decide_eq_true (by omega)
      rw [show mayAll want L = false by unfold mayAll; rw [decide_eq_false h8]; simp]
      clear h8
      go_enter Tryz.func45, Tryz.ntmps45
      go_wp2_with fail
      refine cM.out.mono ?_
      rintro e w1 ⟨rfl, hb1⟩
      go_wp2
      go_ret
      exact ⟨rfl, hb1⟩
    have d8 : decide ((L.length : Int) > 8) = false := decide_eq_false (by omega)
    have HA := Lib.hid (show mayAll want L = L.all may by unfold mayAll; rw [HW.out, decide_eq_true h8]; rfl)
    go_enter Tryz.func45, Tryz.ntmps45
    go_wp2_with fail
    refine cM.out.mono ?_
    rintro e w1 ⟨rfl, hb1⟩
    go_wp2
    go_loopw [5] (fun i wr => ∃ k : Nat, k ≤ L.length ∧ i = .int .i64 k ∧ (∀ j, j < k → may (L.getD j []) = true) ∧ Below w.heap.size w wr) (fun i _ => L.length - (intOf i).toNat)
    case atStart => exact ⟨0, by omega, rfl, (fun j hj => by omega), hb1⟩
    case round =>
      obtain ⟨k, hk, rfl, hN, hW⟩ := hrel
      have HN := Lib.hid hN
      clear hN
      by_cases hlt : k < L.length
      · have hd : decide ((k : Int) < L.length) = true := decide_eq_true (by omega)
        obtain ⟨p, o, x, rfl, _, hp, g1, hx⟩ := (hb0.out.mono hW hW.size).cellAt hlt
        have cK := Lib.hid (refmay_calls (L.getD k []) x wr hx (HF.out.get hlt))
        have hno : may (L.getD k []) = false → L.all may = false := fun h => by
          rw [Bool.eq_false_iff]
          intro e
          have := List.all_eq_true.1 e _ (List.getElem_mem hlt)
          rw [getD_get hlt, this] at h
          cases h
        have hye : may (L.getD k []) = true → ∀ j, j < k + 1 → may (L.getD j []) = true := fun h => allTo_snoc HN.out h
        generalize L.getD k [] = y at hx cK hno hye
        obtain ⟨A1, c1, rfl, -⟩ := hx.form
        have HNO := Lib.hid hno
        have HYE := Lib.hid hye
        clear hno hye hx
        generalize hq : may y = q at cK
        have HQ := Lib.hid hq
        clear hq
        cases q with
        | true =>
          go_wp2_with fail
          refine cK.out.mono ?_
          rintro e w2 ⟨rfl, hb2⟩
          go_wp2
          go_roundw
          case rel => exact ⟨k + 1, by omega, by go_num, HYE.out HQ.out, hW.trans (hb2.mono hW.size)⟩
          case measure => simp [intOf]; omega
        | false =>
          go_wp2_with fail
          refine cK.out.mono ?_
          rintro e w2 ⟨rfl, hb2⟩
          go_wp2
          go_ret
          exact ⟨by rw [HA.out, HNO.out HQ.out]; rfl, hW.trans (hb2.mono hW.size)⟩
      · obtain rfl : k = L.length := by omega
        have hd : decide ((L.length : Int) < L.length) = false := decide_eq_false (by omega)
        have hall : L.all may = true := List.all_eq_true.2 fun l hl => by
          obtain ⟨i, hi, rfl⟩ := List.getElem_of_mem hl
          have := HN.out i hi
          rwa [getD_get hi] at this
        have HALL := Lib.hid hall
        clear hall
        go_wp2
        go_ret
        exact ⟨by rw [HA.out, HALL.out]; rfl, hW⟩

set_option maxRecDepth 100000 in
set_option maxHeartbeats 2000000 in
theorem refin_calls (l : List Int) (x : Int) (v : Value) (lo B : Nat) (w : World) (hv : IntsAt w lo B v l) :
    Calls Tryz.prog 27 #[v, .int .i64 x] w fun e w' => e = .returned (.bool (decide (x ∈ l))) ∧ w = w' := by
  have HV := Lib.hid hv
  obtain ⟨A, c, rfl, hc1, hc2, -⟩ := hv.form
  unfold maxLen at hc2
  clear hv
  go_enter Tryz.func27, Tryz.ntmps27
  go_wp2
  go_loop [5] (fun i => ∃ k : Nat, k ≤ l.length ∧ i = .int .i64 k ∧ ∀ j, j < k → l.getD j 0 ≠ x) (fun i => l.length - (intOf i).toNat)
  case atStart => exact ⟨0, by omega, rfl, fun j hj => by omega⟩
  case round =>
    obtain ⟨k, hk, rfl, hN⟩ := hrel
    have HN := Lib.hid hN
    clear hN
    by_cases hlt : k < l.length
    · have hd : decide ((k : Int) < l.length) = true := decide_eq_true (by omega)
      obtain ⟨b, o, rfl, _, _, hck⟩ := HV.out.cellAt hlt
      have hye : l.getD k 0 = x → decide (x ∈ l) = true := fun h => decide_eq_true (by rw [← h, getD_get hlt]; exact List.getElem_mem hlt)
      have hno : l.getD k 0 ≠ x → ∀ j, j < k + 1 → l.getD j 0 ≠ x := fun h => allTo_snoc HN.out h
      generalize l.getD k 0 = y at hck hye hno
      have HYE := Lib.hid hye
      have HNO := Lib.hid hno
      clear hye hno
      rcases neq_cases y x with ⟨h1, x1, y1, z1⟩ | ⟨h1, x1, y1, z1⟩
      · have H1 := Lib.hid h1
        clear h1
        go_wp2
        go_ret
        exact ⟨by rw [HYE.out H1.out]; rfl, rfl⟩
      · have H1 := Lib.hid h1
        clear h1
        go_wp2
        go_round
        case rel => exact ⟨k + 1, by omega, by go_num, HNO.out H1.out⟩
        case measure => simp [intOf]; omega
    · obtain rfl : k = l.length := by omega
      have hd : decide ((l.length : Int) < l.length) = false := decide_eq_false (by omega)
      have hn : decide (x ∈ l) = false := decide_eq_false fun h => by
        obtain ⟨i, hi, e⟩ := List.getElem_of_mem h
        exact HN.out i hi (by rw [getD_get hi]; exact e)
      have HN2 := Lib.hid hn
      clear hn
      go_wp2
      go_ret
      exact ⟨by rw [HN2.out]; rfl, rfl⟩
set_option maxRecDepth 100000 in
set_option maxHeartbeats 2000000 in
theorem refholders_calls (s : Saga) (vw vg vp : Value) (w : World) (h : Parts w 0 w.heap.size s vw vg vp) (hL : s.got.length ≤ 1000000) :
    Calls Tryz.prog 16 #[.agg (sagaC s vw vg vp)] w fun e w' => (∃ v, e = .returned v ∧ w'.ownsRow w.heap.size 3 1 v (holders s.got).length (ints (holders s.got))) ∧ Below w.heap.size w w' := by
  obtain ⟨i0, hi0, hz0⟩ := Option.map_eq_some_iff.1 int_info
  simp only [Prod.mk.injEq] at hz0
  obtain ⟨hz0, hz1, hz2⟩ := hz0
  have hg0 := Lib.hid h.got
  obtain ⟨A, c, rfl, -⟩ := h.want.form
  obtain ⟨A', c', rfl, hc1, hc2⟩ := h.got.form
  obtain ⟨A2, c2, rfl, -⟩ := h.pend.form
  unfold maxLen at hc2
  clear h
  unfold sagaC
  generalize s.got = L at hg0 hL hc1 ⊢
  have hB := (Below.refl _ w).alloc (Nat.le_refl _) (.cells #[.int .i64 s.order, .int .i64 s.first, .int .i64 s.regions, .slice A s.want.length c, .bool s.waits, .int .i64 s.state, .int .i64 s.asked, .slice A' L.length c', .slice A2 s.pending.length c2, .bool s.cancelled] 26)
  have hOP := Ob.new w 26 #[.int .i64 s.order, .int .i64 s.first, .int .i64 s.regions, .slice A s.want.length c, .bool s.waits, .int .i64 s.state, .int .i64 s.asked, .slice A' L.length c', .slice A2 s.pending.length c2, .bool s.cancelled]
  have hz : (w.alloc (.cells #[.int .i64 s.order, .int .i64 s.first, .int .i64 s.regions, .slice A s.want.length c, .bool s.waits, .int .i64 s.state, .int .i64 s.asked, .slice A' L.length c', .slice A2 s.pending.length c2, .bool s.cancelled] 26)).heap.size = w.heap.size + 1 := World.size_alloc _ _
  go_enter Tryz.func16, Tryz.ntmps16
  go_wp2
  generalize hW0 : w.alloc (.cells #[.int .i64 s.order, .int .i64 s.first, .int .i64 s.regions, .slice A s.want.length c, .bool s.waits, .int .i64 s.state, .int .i64 s.asked, .slice A' L.length c', .slice A2 s.pending.length c2, .bool s.cancelled] 26) = W0 at *
  clear hW0
  go_loopw [3, 4] (fun v i wr => ∃ k : Nat, k ≤ L.length ∧ i = .int .i64 k ∧ wr.ownsRow (w.heap.size + 1) 3 1 v (holdersTo L k).length (ints (holdersTo L k)) ∧ Below (w.heap.size + 1) W0 wr) (fun _ i _ => L.length - (intOf i).toNat)
  case atStart => exact ⟨0, by omega, rfl, World.ownsRow_nil _ _ _ _, Below.refl _ _⟩
  case round =>
    obtain ⟨k, hk, rfl, hv, hb⟩ := hrel
    have hsz := hb.size
    have k7 : wr.cell? ⟨w.heap.size, 7, none⟩ = some (.slice A' L.length c') := (hOP.below hb (Nat.lt_succ_self _)).cell rfl
    have hlow := fun g e => hv.lt g e
    have hlen := holdersTo_len L k
    by_cases hlt : k < L.length
    · have hd : decide ((k : Int) < L.length) = true := by simp; omega
      obtain ⟨b, o, x, rfl, _, hbB, hck, hx⟩ := ((hg0.out.below hB).below (hb.mono (Nat.le_succ _))).cellAt hlt
      have HS := Lib.hid (holdersTo_succ L k)
      generalize L.getD k [] = y at hx HS
      generalize holdersTo L k = hs at hv HS hlen
      obtain ⟨A1, c1, rfl, -⟩ := hx.form
      by_cases hy : 0 < y.length
      · have dy : decide ((y.length : Int) > 0) = true := decide_eq_true (by omega)
        have hal := (Below.refl wr.heap.size wr).alloc (Nat.le_refl _) (.cells #[.int .i64 (k : Int)] 3)
        have hva := row_later hv hal
        have hob := Ob.new wr 3 #[.int .i64 (k : Int)]
        have hba := hb.trans (hal.mono (by omega))
        have HS : holdersTo L (k + 1) = hs ++ [(k : Int)] := by rw [HS.out, if_pos hy]
        have HS := Lib.hid HS
        go_wp2_with (at_builtin; go_must (refine wpList_append_own _ rfl (.tmp 19) (.tmp 21) 24 rfl (w.heap.size + 1) 3 i0 _ 1 8 Tryz.underlying24 hi0 hz0 hz1 hz2 rfl (by omega) _ hs.length _ rfl hva ⟨wr.heap.size, 0, none⟩ 1 1 [.int .i64 (k : Int)] rfl rfl (fun j u hu => by rw [add_mid, Nat.zero_add]; exact hob.cell (by simpa using hu)) (by simp [Value.oneCell']) (by unfold maxLen; omega) (by omega) (by have := hba.size; omega) ?_; intro v1 w1 hv1 hg1 hat1))
        exact ⟨⟨k + 1, by omega, by go_num, by rw [HS.out, ints_append, List.length_append]; exact hv1, hba.grown hg1 (by have := hba.size; omega) (fun g e => (hlow g e).1)⟩, by simp [intOf]; omega⟩
      · have dy : decide ((y.length : Int) > 0) = false := decide_eq_false (by omega)
        have HS : holdersTo L (k + 1) = hs := by rw [HS.out, if_neg hy, List.append_nil]
        have HS := Lib.hid HS
        go_wp2
        go_roundw
        case rel => exact ⟨k + 1, by omega, by go_num, by rw [HS.out]; exact hv, hb⟩
        case measure => simp [intOf]; omega
    · obtain rfl : k = L.length := by omega
      go_wp2
      go_ret
      exact ⟨⟨_, rfl, ownsRow_wide hv (Nat.le_succ _)⟩, hB.trans (hb.mono (Nat.le_succ _))⟩
end Sa
end Go.Proofs.YthfpfomifebpbaaGreat

namespace Go.Proofs.YthfpfomifebpbaaGreat
open Go.RowKit Go.Maps
namespace Sa
open It
set_option linter.unusedSimpArgs false

theorem Ob.drewn {w : World} {b : Nat} {t : TypeId} {cs : Array Value} (h : Ob w b t cs) : Ob w.drew b t cs := h
theorem gotA_one {w : World} {vs : List Value} {L : List (List It.Item)} (hl : vs.length = L.length) (h : ∀ k, k < L.length → ItemsAt w 0 w.heap.size (vs.getD k (.slice none 0 0)) (L.getD k [])) : ∀ y ∈ vs, y.oneCell' = true := by
  intro y hy
  obtain ⟨i, hi, rfl⟩ := List.getElem_of_mem hy
  obtain ⟨A, c, e, -⟩ := (h i (by omega)).form
  rw [List.getD, List.getElem?_eq_getElem hi] at e
  rw [show vs[i] = _ from e]
  rfl
/-- a saga and steps, by value -/
def Ret2 (Av : Nat → Prop) (lo : Nat) (w' : World) (e : Ending) (y : Saga × List Step) : Prop :=
  ∃ vw vg vp vl, e = .returned (.tuple #[.agg (sagaC y.1 vw vg vp), vl]) ∧ PartsA Av w' y.1 vw vg vp ∧ StepsAt w' lo w'.heap.size vl y.2

set_option maxRecDepth 100000 in
set_option maxHeartbeats 4000000 in
theorem refset_calls (Av : Nat → Prop) (s : Saga) (r : Nat) (l : List It.Item) (vw vg vp vl : Value) (w : World) (h : PartsA Av w s vw vg vp) (hl : SlA Av w 2 vl l.length (itemCells l)) (hav : ∀ i, Av i → i < w.heap.size) (hr : r < s.got.length) (hL : s.got.length ≤ 1000000) :
    Calls Tryz.prog 28 #[.agg (sagaC s vw vg vp), .int .i64 (r : Int), vl] w fun e w' => (∃ vg', e = .returned (.agg (sagaC { s with got := s.got.set r l } vw vg' vp)) ∧ PartsA Av w' { s with got := s.got.set r l } vw vg' vp) ∧ Below w.heap.size w w' := by
  obtain ⟨i0, hi0, hz0⟩ := Option.map_eq_some_iff.1 list_info
  simp only [Prod.mk.injEq] at hz0
  obtain ⟨hz0, hz1, hz2⟩ := hz0
  have HP := Lib.hid h
  have HL := Lib.hid hl
  have HAV := Lib.hid hav
  obtain ⟨vs, hvl, hv2, hv3⟩ := h.got
  obtain ⟨A1, c1, rfl, -⟩ := h.want.form
  obtain ⟨A2, c2, rfl, hc1, hc2⟩ := hv2.form
  obtain ⟨A3, c3, rfl, -⟩ := h.pend.form
  obtain ⟨A4, c4, rfl, -⟩ := hl.form
  unfold maxLen at hc2
  have hone := gotA_one hvl fun k hk => (hv3 k hk).all
  have HV3 := Lib.hid hv3
  have hsl := hv2.all
  clear h hl hav hv3 hv2
  have hv1l := hvl
  obtain ⟨n, hn⟩ : ∃ n, n = s.got.length := ⟨_, rfl⟩
  have HN := Lib.hid hn.symm
  rw [← hn] at hsl hr hL hc1 hv1l ⊢
  clear hn hvl
  have hal1 := (Below.refl w.heap.size w).alloc (Nat.le_refl _) (.cells (sagaC s (.slice A1 s.want.length c1) (.slice A2 n c2) (.slice A3 s.pending.length c3)) 26)
  have hal2 := hal1.alloc hal1.size (.cells #[.int .i64 0, .int .i64 0, .int .i64 0, .slice none 0 0, .bool false, .int .i64 0, .int .i64 0, .slice none 0 0, .slice none 0 0, .bool false] 26)
  have hal := hal2.alloc hal2.size (.cells #[] 22)
  have o1 := ((Ob.new w 26 (sagaC s (.slice A1 s.want.length c1) (.slice A2 n c2) (.slice A3 s.pending.length c3))).alloc (.cells #[.int .i64 0, .int .i64 0, .int .i64 0, .slice none 0 0, .bool false, .int .i64 0, .int .i64 0, .slice none 0 0, .slice none 0 0, .bool false] 26)).alloc (.cells #[] 22)
  have o2 := (Ob.new (w.alloc (.cells (sagaC s (.slice A1 s.want.length c1) (.slice A2 n c2) (.slice A3 s.pending.length c3)) 26)) 26 #[.int .i64 0, .int .i64 0, .int .i64 0, .slice none 0 0, .bool false, .int .i64 0, .int .i64 0, .slice none 0 0, .slice none 0 0, .bool false]).alloc (.cells #[] 22)
  rw [World.size_alloc] at o2
  have hown := World.ownsRow_lit (e := 22) (size := 1) (base := w.heap.size + 2) ((w.alloc (.cells (sagaC s (.slice A1 s.want.length c1) (.slice A2 n c2) (.slice A3 s.pending.length c3)) 26)).alloc (.cells #[.int .i64 0, .int .i64 0, .int .i64 0, .slice none 0 0, .bool false, .int .i64 0, .int .i64 0, .slice none 0 0, .slice none 0 0, .bool false] 26)) #[] 0 (by rw [World.size_alloc, World.size_alloc]; omega) (Nat.zero_le _) rfl
  rw [World.size_alloc, World.size_alloc] at hown
  have hsz : (((w.alloc (.cells (sagaC s (.slice A1 s.want.length c1) (.slice A2 n c2) (.slice A3 s.pending.length c3)) 26)).alloc (.cells #[.int .i64 0, .int .i64 0, .int .i64 0, .slice none 0 0, .bool false, .int .i64 0, .int .i64 0, .slice none 0 0, .slice none 0 0, .bool false] 26)).alloc (.cells #[] 22)).heap.size = w.heap.size + 1 + 1 + 1 := by rw [World.size_alloc, World.size_alloc, World.size_alloc]
  have hsrc := hsl.below hal
  unfold sagaC at o1 o2 hal hown hsz hsrc ⊢
  obtain ⟨-, -, -, -, -, -, -, k7, -, -⟩ := ob_ten o1
  clear hal1 hal2 hsl
  go_enter Tryz.func28, Tryz.ntmps28
  go_wp2_with (refine wpList_append_sl _ rfl (.tmp 8) (.tmp 10) _ rfl (w.heap.size + 2) 22 i0 _ 1 24 Tryz.underlying23 hi0 hz0 hz1 hz2 rfl (by omega) (.slice (some ⟨w.heap.size + 1 + 1, 0, none⟩) 0 0) 0 [] rfl hown 0 w.heap.size _ n vs rfl hsrc hone (by unfold maxLen; omega) (by omega) (by omega) ?_
               intro v1 W1 hv1 hg1 hat1)
  have hv1' : W1.ownsRow (w.heap.size + 2) 22 1 v1 n vs := by simpa using hv1
  rcases hv1'.2 with ⟨-, hz⟩ | ⟨g, cap, cur, rfl, hbg, hbgg, hnc, hcm, -, -⟩
  · omega
  have hsz1 := hg1.size
  obtain ⟨q1, q2⟩ := own_place hv1' hr
  have p1 := o1.kept hg1 (fun e => by have e2 : w.heap.size = w.heap.size + 1 + 1 := Option.some.inj e; omega)
  have p2 := o2.kept hg1 (fun e => by have e2 : w.heap.size + 1 = w.heap.size + 1 + 1 := Option.some.inj e; omega)
  have hB1 := hal.grown hg1 (by omega) (fun g e => by have := (hown.lt g e).1; omega)
  have hrow2 := row_set (x := .slice A4 l.length c4) hv1' hr
  have r1 := p1.other (show w.heap.size ≠ g by omega) r (.slice A4 l.length c4)
  have r2 := p2.other (show w.heap.size + 1 ≠ g by omega) r (.slice A4 l.length c4)
  obtain ⟨-, -, -, -, -, -, -, k7', -, -⟩ := ob_ten r1
  have f7 := r1.frozen 7
  have t1 := r1.set 7 (.slice (some ⟨g, 0, none⟩) n cap)
  have t2 := r2.other (show w.heap.size + 1 ≠ w.heap.size by omega) 7 (.slice (some ⟨g, 0, none⟩) n cap)
  have hgs := (Array.getElem?_eq_some_iff.1 hbgg).1
  have hB3 : Below w.heap.size w ((W1.setCell ⟨g, r, none⟩ (.slice A4 l.length c4)).setCell ⟨w.heap.size, 7, none⟩ (.slice (some ⟨g, 0, none⟩) n cap)) := (hB1.trans ((below_set W1 g r _).mono (by omega))).trans (below_set _ _ 7 _)
  have hrow3 := own_kept hrow2 (Kept.of_grown (Fr := fun i => i < (W1.setCell ⟨g, r, none⟩ (.slice A4 l.length c4)).heap.size ∧ i ≠ w.heap.size) (grownBy_set _ w.heap.size 7 (.slice (some ⟨g, 0, none⟩) n cap)) fun i hi => ⟨hi.1, fun e => hi.2 (by cases e; rfl)⟩) (fun j e => by
    have e2 : g = j := Option.some.inj e
    subst e2
    exact ⟨by rw [set_size]; exact hgs, by omega⟩)
  have hrz : (0 : Nat) + r = r := Nat.zero_add r
  unfold maxLen at hcm
  have HR3 := Lib.hid hrow3
  have HB3 := Lib.hid hB3
  have hz3 : ((W1.setCell ⟨g, r, none⟩ (.slice A4 l.length c4)).setCell ⟨w.heap.size, 7, none⟩ (.slice (some ⟨g, 0, none⟩) n cap)).heap.size = W1.heap.size := by rw [set_size, set_size]
  have hri : (r : Int) < (n : Int) := by omega
  have hri2 : decide ((r : Int) < (n : Int)) = true := decide_eq_true hri
  have HV1L := Lib.hid hv1l
  have HZ3 := Lib.hid hz3
  have HSZ1 := Lib.hid (show w.heap.size + 3 ≤ W1.heap.size by omega)
  clear hown hsrc hat1 hg1 hv1 hv1' hrow2 hrow3 hB3 hB1 o1 o2 p1 p2 hal r1 r2 hbgg hv1l hsz hsz1 hz3 hi0 hz0 hz1 hz2
  go_wp2_with fail
  go_simp
  go_wp2_with (first
    | (refine wpList_load_obg (by rfl) _ _ rfl rfl _ t1 Tryz.underlying26 rfl (by kernel_rfl) ?_)
    | (refine wpList_store_ob (cells := (sagaC { s with got := s.got.set r l } (.slice A1 s.want.length c1) (.slice (some ⟨g, 0, none⟩) n cap) (.slice A3 s.pending.length c3))) rfl 26 (.tmp 6) (.tmp 18) rfl rfl rfl t2 rfl (by kernel_rfl) (by simp [sagaC, Value.oneCell']) ?_; intro W4 ho4 hg4))
  have hz3 := HZ3.out
  have hsz1 := HSZ1.out
  have hv1l := HV1L.out
  have hB4 := HB3.out.grown hg4 (by omega) (fun g e => by have e2 : w.heap.size + 1 = g := Option.some.inj e; omega)
  have hrow4 := own_kept HR3.out (Kept.of_grown (Fr := fun i => i < W1.heap.size ∧ i ≠ w.heap.size + 1) hg4 fun i hi => ⟨by rw [hz3]; exact hi.1, fun e => hi.2 (by cases e; rfl)⟩) (fun j e => by
    have e2 : g = j := Option.some.inj e
    subst e2
    exact ⟨hgs, by omega⟩)
  obtain ⟨p0, p1, p2, p3, p4, p5, p6, p7, p8, p9⟩ := ob_ten ho4
  have hP4 : PartsA Av W4 { s with got := s.got.set r l } (.slice A1 s.want.length c1) (.slice (some ⟨g, 0, none⟩) n cap) (.slice A3 s.pending.length c3) := by
    refine ⟨HP.out.want.later hB4, ⟨vs.set r (.slice A4 l.length c4), by rw [List.length_set, List.length_set, hv1l, HN.out], ?_, fun k hk => ?_⟩, HP.out.pend.later hB4⟩
    · show SlA Av W4 1 _ (s.got.set r l).length _
      rw [List.length_set, HN.out]
      exact .of (Sl.of_own hrow4) (Nat.le_refl _) fun i ha _ hx => by have := HAV.out i hx; omega
    · have hk' : k < n := by simpa [HN.out] using hk
      show SlA Av W4 2 ((vs.set r (.slice A4 l.length c4)).getD k (.slice none 0 0)) ((s.got.set r l).getD k []).length _
      by_cases e : k = r
      · subst e
        rw [show (vs.set k (.slice A4 l.length c4)).getD k (.slice none 0 0) = .slice A4 l.length c4 by simp [List.getD, show k < vs.length by omega], show (s.got.set k l).getD k [] = l by simp [List.getD, show k < s.got.length by have := HN.out; omega]]
        exact HL.out.later hB4
      · rw [show (vs.set r (.slice A4 l.length c4)).getD k (.slice none 0 0) = vs.getD k (.slice none 0 0) by simp [List.getD, List.getElem?_set, Ne.symm e], show (s.got.set r l).getD k [] = s.got.getD k [] by simp [List.getD, List.getElem?_set, Ne.symm e]]
        exact (HV3.out k (by have := HN.out; omega)).later hB4
  refine bodyPost_ret (v := .agg (sagaC { s with got := s.got.set r l } (.slice A1 s.want.length c1) (.slice (some ⟨g, 0, none⟩) n cap) (.slice A3 s.pending.length c3))) ?_ rfl ⟨⟨_, rfl, hP4⟩, hB4⟩
  simp [results, Tryz.f28, go_sem, sagaC, p0, p1, p2, p3, p4, p5, p6, p7, p8, p9]

def withoutL (x : Int) (l : List Int) : List Int := l.filter fun y => decide (y ≠ x)
theorem without_succ (x : Int) (l : List Int) {k : Nat} (hk : k < l.length) : withoutL x (l.take (k + 1)) = withoutL x (l.take k) ++ (if l.getD k 0 = x then [] else [l.getD k 0]) := by
  unfold withoutL
  rw [List.take_succ_eq_append_getElem hk, List.filter_append, getD_get hk]
  congr 1
  by_cases h : l[k] = x
  · simp [h]
  · simp [h]
theorem without_len (x : Int) (l : List Int) (k : Nat) : (withoutL x (l.take k)).length ≤ k := by
  unfold withoutL
  exact Nat.le_trans (List.length_filter_le _ _) (by rw [List.length_take]; omega)
set_option maxRecDepth 100000 in
set_option maxHeartbeats 2000000 in
theorem refwithout_calls (l : List Int) (x : Int) (vl : Value) (w : World) (h : IntsAt w 0 w.heap.size vl l) (hL : l.length ≤ 1000000) :
    Calls Tryz.prog 29 #[vl, .int .i64 x] w fun e w' => (∃ v, e = .returned v ∧ w'.ownsRow w.heap.size 3 1 v (withoutL x l).length (ints (withoutL x l))) ∧ Below w.heap.size w w' := by
  obtain ⟨i0, hi0, hz0⟩ := Option.map_eq_some_iff.1 int_info
  simp only [Prod.mk.injEq] at hz0
  obtain ⟨hz0, hz1, hz2⟩ := hz0
  have HI := Lib.hid h
  obtain ⟨A, c, rfl, hc1, hc2, -⟩ := h.form
  unfold maxLen at hc2
  clear h
  go_enter Tryz.func29, Tryz.ntmps29
  go_wp2
  go_loopw [5, 6] (fun v i wr => ∃ k : Nat, k ≤ l.length ∧ i = .int .i64 k ∧ wr.ownsRow w.heap.size 3 1 v (withoutL x (l.take k)).length (ints (withoutL x (l.take k))) ∧ Below w.heap.size w wr) (fun _ i _ => l.length - (intOf i).toNat)
  case atStart => exact ⟨0, by omega, rfl, World.ownsRow_nil _ _ _ _, Below.refl _ _⟩
  case round =>
    obtain ⟨k, hk, rfl, hv, hb⟩ := hrel
    have hlow := fun g e => hv.lt g e
    have hlen := without_len x l k
    by_cases hlt : k < l.length
    · have hd : decide ((k : Int) < l.length) = true := decide_eq_true (by omega)
      obtain ⟨b, o, rfl, _, hbB, hck⟩ := (IntsAt.mono HI.out hb hb.size).cellAt hlt
      have HS := Lib.hid (without_succ x l hlt)
      generalize l.getD k 0 = y at hck HS
      generalize withoutL x (l.take k) = hs at hv HS hlen
      rcases neq_cases y x with ⟨h0, x0, y0, z0⟩ | ⟨h0, x0, y0, z0⟩
      · have HS : withoutL x (l.take (k + 1)) = hs := by rw [HS.out, if_pos h0, List.append_nil]
        have HS := Lib.hid HS
        clear h0
        go_wp2
        go_roundw
        case rel => exact ⟨k + 1, by omega, by go_num, by rw [HS.out]; exact hv, hb⟩
        case measure => simp [intOf]; omega
      · have hal := (Below.refl wr.heap.size wr).alloc (Nat.le_refl _) (.cells #[.int .i64 y] 3)
        have hva := row_later hv hal
        have hob := Ob.new wr 3 #[.int .i64 y]
        have hba := hb.trans (hal.mono hb.size)
        have HS : withoutL x (l.take (k + 1)) = hs ++ [y] := by rw [HS.out, if_neg h0]
        have HS := Lib.hid HS
        clear h0
        go_wp2_with (at_builtin; go_must (refine wpList_append_own _ rfl (.tmp 19) (.tmp 24) 24 rfl w.heap.size 3 i0 _ 1 8 Tryz.underlying24 hi0 hz0 hz1 hz2 rfl (by omega) _ hs.length _ rfl hva ⟨wr.heap.size, 0, none⟩ 1 1 [.int .i64 y] rfl rfl (fun j u hu => by rw [add_mid, Nat.zero_add]; exact hob.cell (by simpa using hu)) (by simp [Value.oneCell']) (by unfold maxLen; omega) (by omega) hba.size ?_; intro v1 w1 hv1 hg1 hat1))
        exact ⟨⟨k + 1, by omega, by go_num, by rw [HS.out, ints_append, List.length_append]; exact hv1, hba.grown hg1 hba.size (fun g e => (hlow g e).1)⟩, by simp [intOf]; omega⟩
    · obtain rfl : k = l.length := by omega
      have hd : decide ((l.length : Int) < l.length) = false := decide_eq_false (by omega)
      rw [List.take_length] at hv
      obtain ⟨A1, c1, hA1, -⟩ := (IntsAt.of_own hv).form
      go_wp2
      go_ret
      exact ⟨⟨_, rfl, hv⟩, hb⟩

theorem told_at (w : World) (st : Int) : StepsAt (w.alloc (.cells #[.int .i64 100, .int .i64 0, .slice none 0 0, .int .i64 st] 52)) w.heap.size (w.heap.size + 1) (.slice (some ⟨w.heap.size, 0, none⟩) 1 1) (told st) :=
  StepsAt.one' (w := w) (lo := w.heap.size) (x := ⟨100, 0, [], st⟩) (ItemsAt.nil w w.heap.size w.heap.size) (Nat.le_refl _) (Nat.le_refl _)

set_option maxRecDepth 100000 in
set_option maxHeartbeats 8000000 in
theorem refends_calls (Av : Nat → Prop) (s : Saga) (vw vg vp : Value) (w : World) (h : PartsA Av w s vw vg vp) :
    Calls Tryz.prog 30 #[.agg (sagaC s vw vg vp)] w fun e w' => Ret2 Av w.heap.size w' e (endS s, told (endSt s)) ∧ Below w.heap.size w w' := by
  have hmx : Tryz.prog.follows .mixedOrders = true := by kernel_rfl
  have HP := Lib.hid h
  obtain ⟨A1, c1, rfl, -⟩ := h.want.form
  obtain ⟨us, -, hv2, -⟩ := h.got
  obtain ⟨A2, c2, rfl, -⟩ := hv2.form
  obtain ⟨A3, c3, rfl, -⟩ := h.pend.form
  clear h hv2 us
  have hal1 := (Below.refl w.heap.size w).alloc (Nat.le_refl _) (.cells #[.int .i64 s.order, .int .i64 s.first, .int .i64 s.regions, .slice A1 s.want.length c1, .bool s.waits, .int .i64 s.state, .int .i64 s.asked, .slice A2 s.got.length c2, .slice A3 s.pending.length c3, .bool s.cancelled] 26)
  have hal := hal1.alloc hal1.size (.cells #[.int .i64 0, .int .i64 0, .int .i64 0, .slice none 0 0, .bool false, .int .i64 0, .int .i64 0, .slice none 0 0, .slice none 0 0, .bool false] 26)
  have o1 := (Ob.new w 26 #[.int .i64 s.order, .int .i64 s.first, .int .i64 s.regions, .slice A1 s.want.length c1, .bool s.waits, .int .i64 s.state, .int .i64 s.asked, .slice A2 s.got.length c2, .slice A3 s.pending.length c3, .bool s.cancelled]).alloc (.cells #[.int .i64 0, .int .i64 0, .int .i64 0, .slice none 0 0, .bool false, .int .i64 0, .int .i64 0, .slice none 0 0, .slice none 0 0, .bool false] 26)
  have o2 := Ob.new (w.alloc (.cells #[.int .i64 s.order, .int .i64 s.first, .int .i64 s.regions, .slice A1 s.want.length c1, .bool s.waits, .int .i64 s.state, .int .i64 s.asked, .slice A2 s.got.length c2, .slice A3 s.pending.length c3, .bool s.cancelled] 26)) 26 #[.int .i64 0, .int .i64 0, .int .i64 0, .slice none 0 0, .bool false, .int .i64 0, .int .i64 0, .slice none 0 0, .slice none 0 0, .bool false]
  rw [World.size_alloc] at o2
  unfold sagaC
  unfold endS
  go_enter Tryz.func30, Tryz.ntmps30
  go_upto_region 1 with (fail)
  generalize (w.alloc (.cells #[.int .i64 s.order, .int .i64 s.first, .int .i64 s.regions, .slice A1 s.want.length c1, .bool s.waits, .int .i64 s.state, .int .i64 s.asked, .slice A2 s.got.length c2, .slice A3 s.pending.length c3, .bool s.cancelled] 26)).alloc (.cells #[.int .i64 0, .int .i64 0, .int .i64 0, .slice none 0 0, .bool false, .int .i64 0, .int .i64 0, .slice none 0 0, .slice none 0 0, .bool false] 26) = WB at *
  have g8 : WB.cell? ⟨w.heap.size, 8, none⟩ = some (.slice A3 s.pending.length c3) := o1.cell rfl
  have f8 := o1.frozen 8
  have t1 : Ob _ w.heap.size 26 #[.int .i64 s.order, .int .i64 s.first, .int .i64 s.regions, .slice A1 s.want.length c1, .bool s.waits, .int .i64 s.state, .int .i64 s.asked, .slice A2 s.got.length c2, .slice none 0 0, .bool s.cancelled] := o1.set 8 (.slice none 0 0)
  have t2 := o2.other (show w.heap.size + 1 ≠ w.heap.size by omega) 8 (.slice none 0 0)
  have hB1 := hal.trans (below_set _ w.heap.size 8 (.slice none 0 0))
  obtain ⟨-, -, -, -, j4, j5, -, -, -, j9⟩ := ob_ten t1
  have f5 := t1.frozen 5
  clear o1 o2 hal hal1
  have hcc : s.cancelled = true ∨ (s.cancelled = false ∧ s.waits = true) ∨ (s.cancelled = false ∧ s.waits = false) := by cases s.cancelled <;> cases s.waits <;> simp
  rcases hcc with hc | ⟨hc, hw⟩ | ⟨hc, hw⟩
  · have j9' := j9
    rw [hc] at j9'
    have hst : endSt s = 6 := by simp [endSt, hc]
    have HST := Lib.hid hst
    clear hc j9 hst
    have u1 : Ob _ w.heap.size 26 #[.int .i64 s.order, .int .i64 s.first, .int .i64 s.regions, .slice A1 s.want.length c1, .bool s.waits, .int .i64 6, .int .i64 s.asked, .slice A2 s.got.length c2, .slice none 0 0, .bool s.cancelled] := t1.set 5 (.int .i64 6)
    have u2 := t2.other (show w.heap.size + 1 ≠ w.heap.size by omega) 5 (.int .i64 6)
    have hB2 := hB1.trans (below_set _ w.heap.size 5 (.int .i64 6))
    have u1 := Ob.drewn u1
    have u2 := Ob.drewn u2
    have hB2 := hB2.drew
    clear t2 hB1 j4
    go_wp2
    generalize (WB.setCell ⟨w.heap.size, 8, none⟩ (.slice none 0 0)).setCell ⟨w.heap.size, 5, none⟩ (.int .i64 6) = X at *
    have hlt := u2.lt
    refine Pt.regionT (.look 0 (.look 1 (.look 2 (.look 3 (.fork 4 (.make 5 (.look 6 .nil)) 5 (.make 4 (.look 6 .nil))))))) (fun V => Ob V w.heap.size 26 #[.int .i64 s.order, .int .i64 s.first, .int .i64 s.regions, .slice A1 s.want.length c1, .bool s.waits, .int .i64 6, .int .i64 s.asked, .slice A2 s.got.length c2, .slice none 0 0, .bool s.cancelled]) hmx (by kernel_rfl) (by kernel_rfl) (by kernel_rfl) u1 rfl ?_
    simp only [Pt.named, List.getElem?_toArray, List.getElem?_cons_succ, List.getElem?_cons_zero, Option.map_some]
    iterate 4 (
      apply Pt.WalkT.on (by rfl)
      · intro V hV
        obtain ⟨-, -, -, -, -, q5, -, -, -, -⟩ := ob_ten hV
        go_wp2_with (refine wpList_load_obg (by rfl) _ _ rfl rfl _ hV Tryz.underlying26 rfl (by kernel_rfl) ?_)
        refine ⟨rfl, ?_, rfl⟩
        try simp only [Act.put, List.setIfInBounds_toArray, List.set_cons_succ, List.set_cons_zero]
        rfl
      simp only [Act.put, List.setIfInBounds_toArray, List.set_cons_succ, List.set_cons_zero])
    generalize X.drew = W0 at *
    refine Pt.WalkT.fork (by rfl) (by rfl) ?_ ?_
    · intro W hWJ
      rw [hWJ]
      clear hWJ W
      have hal9 := (Below.refl W0.heap.size W0).alloc (Nat.le_refl _) (.cells #[.int .i64 100, .int .i64 0, .slice none 0 0, .int .i64 6] 52)
      have hst := told_at W0 6
      have hz9 : (W0.alloc (.cells #[.int .i64 100, .int .i64 0, .slice none 0 0, .int .i64 6] 52)).heap.size = W0.heap.size + 1 := World.size_alloc _ _
      have x1 := u1.same hal9
      have x2 := u2.same hal9
      have hB9 := hB2.trans (hal9.mono hB2.size)
      go_wp2_with fail
      refine ⟨rfl, .slice (some ⟨W0.heap.size, 0, none⟩) 1 1, _, (fun V => V = _), ?_, rfl, (fun V h => by rw [h]; exact x1), (.inr (fun _ h => h)), ?_⟩
      · simp only [Act.put, List.setIfInBounds_toArray, List.set_cons_succ, List.set_cons_zero]
      simp only [Act.put, List.setIfInBounds_toArray, List.set_cons_succ, List.set_cons_zero]
      refine Pt.WalkT.make (by rfl) ?_
      intro W hWJ
      subst hWJ
      go_wp2_with (refine wpList_store_ob (cells := #[.int .i64 s.order, .int .i64 s.first, .int .i64 s.regions, .slice A1 s.want.length c1, .bool s.waits, .int .i64 6, .int .i64 s.asked, .slice A2 s.got.length c2, .slice none 0 0, .bool s.cancelled]) rfl 26 (.tmp 2) (.tmp 14) rfl rfl rfl x2 rfl (by kernel_rfl) (by simp [Value.oneCell']) ?_; intro W10 ho10 hg10)
      have hk10 := Kept.of_grown (Fr := fun i => i < (W0.alloc (.cells #[.int .i64 100, .int .i64 0, .slice none 0 0, .int .i64 6] 52)).heap.size ∧ i ≠ w.heap.size + 1) hg10 fun i hi => ⟨hi.1, fun e => hi.2 (by cases e; rfl)⟩
      have hs10 := hg10.size
      have hob10 := x1.kept hg10 (by simp)
      have hst10 := (hst.kept hk10 fun i ha hb => ⟨by omega, by omega⟩).wide (show w.heap.size ≤ W0.heap.size by omega) (show W0.heap.size + 1 ≤ W10.heap.size by omega)
      have hB10 := hB9.grown hg10 (by omega) (fun g e => by have e2 : w.heap.size + 1 = g := Option.some.inj e; omega)
      refine ⟨rfl, undef, _, (fun V => V = W10), ?_, rfl, (fun V h => by rw [h]; exact hob10), (.inr (fun _ h => h)), ?_⟩
      · simp only [Act.put, List.setIfInBounds_toArray, List.set_cons_succ, List.set_cons_zero]
      simp only [Act.put, List.setIfInBounds_toArray, List.set_cons_succ, List.set_cons_zero]
      iterate 1 (
        apply Pt.WalkT.on (by rfl)
        · intro V hV
          go_wp2_with fail
          refine ⟨rfl, ?_, rfl⟩
          try simp only [Act.put, List.setIfInBounds_toArray, List.set_cons_succ, List.set_cons_zero]
          rfl
        simp only [Act.put, List.setIfInBounds_toArray, List.set_cons_succ, List.set_cons_zero])
      refine Pt.WalkT.nil ?_
      rintro V hVJ
      cases hVJ.symm
      obtain ⟨p0, p1, p2, p3, p4, p5, p6, p7, p8, p9⟩ := ob_ten ho10
      go_wp2
      refine bodyPost_ret (v := .tuple #[.agg #[.int .i64 s.order, .int .i64 s.first, .int .i64 s.regions, .slice A1 s.want.length c1, .bool s.waits, .int .i64 6, .int .i64 s.asked, .slice A2 s.got.length c2, .slice none 0 0, .bool s.cancelled], .slice (some ⟨W0.heap.size, 0, none⟩) 1 1]) ?_ rfl ⟨by rw [HST.out]; exact ⟨_, _, _, _, rfl, ⟨HP.out.want.later hB10, HP.out.got.later hB10, SlA.nil _ _ _⟩, hst10⟩, hB10⟩
      simp [results, Tryz.f30, go_sem, p0, p1, p2, p3, p4, p5, p6, p7, p8, p9]
    · intro W hWJ
      rw [hWJ]
      clear hWJ W
      go_wp2_with (refine wpList_store_ob (cells := #[.int .i64 s.order, .int .i64 s.first, .int .i64 s.regions, .slice A1 s.want.length c1, .bool s.waits, .int .i64 6, .int .i64 s.asked, .slice A2 s.got.length c2, .slice none 0 0, .bool s.cancelled]) rfl 26 (.tmp 2) (.tmp 14) rfl rfl rfl u2 rfl (by kernel_rfl) (by simp [Value.oneCell']) ?_; intro W9 ho9 hg9)
      have hs9 := hg9.size
      have hob9 := u1.kept hg9 (by simp)
      have hB9 := hB2.grown hg9 (by omega) (fun g e => by have e2 : w.heap.size + 1 = g := Option.some.inj e; omega)
      refine ⟨rfl, undef, _, (fun V => V = W9), ?_, rfl, (fun V h => by rw [h]; exact hob9), (.inr (fun _ h => h)), ?_⟩
      · simp only [Act.put, List.setIfInBounds_toArray, List.set_cons_succ, List.set_cons_zero]
      simp only [Act.put, List.setIfInBounds_toArray, List.set_cons_succ, List.set_cons_zero]
      refine Pt.WalkT.make (by rfl) ?_
      intro W hWJ
      cases hWJ.symm
      have hal10 := (Below.refl W9.heap.size W9).alloc (Nat.le_refl _) (.cells #[.int .i64 100, .int .i64 0, .slice none 0 0, .int .i64 6] 52)
      have hst10 := (told_at W9 6).wide (show w.heap.size ≤ W9.heap.size by omega) (show W9.heap.size + 1 ≤ (W9.alloc (.cells #[.int .i64 100, .int .i64 0, .slice none 0 0, .int .i64 6] 52)).heap.size by rw [World.size_alloc]; omega)
      have hob10 := hob9.same hal10
      have ho10 := ho9.same hal10
      have hB10 := hB9.trans (hal10.mono hB9.size)
      go_wp2_with fail
      refine ⟨rfl, .slice (some ⟨W9.heap.size, 0, none⟩) 1 1, _, (fun V => V = _), ?_, rfl, (fun V h => by rw [h]; exact hob10), (.inr (fun _ h => h)), ?_⟩
      · simp only [Act.put, List.setIfInBounds_toArray, List.set_cons_succ, List.set_cons_zero]
      simp only [Act.put, List.setIfInBounds_toArray, List.set_cons_succ, List.set_cons_zero]
      iterate 1 (
        apply Pt.WalkT.on (by rfl)
        · intro V hV
          go_wp2_with fail
          refine ⟨rfl, ?_, rfl⟩
          try simp only [Act.put, List.setIfInBounds_toArray, List.set_cons_succ, List.set_cons_zero]
          rfl
        simp only [Act.put, List.setIfInBounds_toArray, List.set_cons_succ, List.set_cons_zero])
      refine Pt.WalkT.nil ?_
      rintro V hVJ
      cases hVJ.symm
      obtain ⟨p0, p1, p2, p3, p4, p5, p6, p7, p8, p9⟩ := ob_ten ho10
      go_wp2
      refine bodyPost_ret (v := .tuple #[.agg #[.int .i64 s.order, .int .i64 s.first, .int .i64 s.regions, .slice A1 s.want.length c1, .bool s.waits, .int .i64 6, .int .i64 s.asked, .slice A2 s.got.length c2, .slice none 0 0, .bool s.cancelled], .slice (some ⟨W9.heap.size, 0, none⟩) 1 1]) ?_ rfl ⟨by rw [HST.out]; exact ⟨_, _, _, _, rfl, ⟨HP.out.want.later hB10, HP.out.got.later hB10, SlA.nil _ _ _⟩, hst10⟩, hB10⟩
      simp [results, Tryz.f30, go_sem, p0, p1, p2, p3, p4, p5, p6, p7, p8, p9]
  · have j9' := j9
    rw [hc] at j9'
    have j4' := j4
    rw [hw] at j4'
    have hst : endSt s = 3 := by simp [endSt, hc, hw]
    have HST := Lib.hid hst
    clear hc hw j9 j4 hst
    have u1 : Ob _ w.heap.size 26 #[.int .i64 s.order, .int .i64 s.first, .int .i64 s.regions, .slice A1 s.want.length c1, .bool s.waits, .int .i64 3, .int .i64 s.asked, .slice A2 s.got.length c2, .slice none 0 0, .bool s.cancelled] := t1.set 5 (.int .i64 3)
    have u2 := t2.other (show w.heap.size + 1 ≠ w.heap.size by omega) 5 (.int .i64 3)
    have hB2 := hB1.trans (below_set _ w.heap.size 5 (.int .i64 3))
    have u1 := Ob.drewn u1
    have u2 := Ob.drewn u2
    have hB2 := hB2.drew
    clear t2 hB1
    go_wp2
    generalize (WB.setCell ⟨w.heap.size, 8, none⟩ (.slice none 0 0)).setCell ⟨w.heap.size, 5, none⟩ (.int .i64 3) = X at *
    have hlt := u2.lt
    refine Pt.regionT (.look 0 (.look 1 (.look 2 (.look 3 (.fork 4 (.make 5 (.look 6 .nil)) 5 (.make 4 (.look 6 .nil))))))) (fun V => Ob V w.heap.size 26 #[.int .i64 s.order, .int .i64 s.first, .int .i64 s.regions, .slice A1 s.want.length c1, .bool s.waits, .int .i64 3, .int .i64 s.asked, .slice A2 s.got.length c2, .slice none 0 0, .bool s.cancelled]) hmx (by kernel_rfl) (by kernel_rfl) (by kernel_rfl) u1 rfl ?_
    simp only [Pt.named, List.getElem?_toArray, List.getElem?_cons_succ, List.getElem?_cons_zero, Option.map_some]
    iterate 4 (
      apply Pt.WalkT.on (by rfl)
      · intro V hV
        obtain ⟨-, -, -, -, -, q5, -, -, -, -⟩ := ob_ten hV
        go_wp2_with (refine wpList_load_obg (by rfl) _ _ rfl rfl _ hV Tryz.underlying26 rfl (by kernel_rfl) ?_)
        refine ⟨rfl, ?_, rfl⟩
        try simp only [Act.put, List.setIfInBounds_toArray, List.set_cons_succ, List.set_cons_zero]
        rfl
      simp only [Act.put, List.setIfInBounds_toArray, List.set_cons_succ, List.set_cons_zero])
    generalize X.drew = W0 at *
    refine Pt.WalkT.fork (by rfl) (by rfl) ?_ ?_
    · intro W hWJ
      rw [hWJ]
      clear hWJ W
      have hal9 := (Below.refl W0.heap.size W0).alloc (Nat.le_refl _) (.cells #[.int .i64 100, .int .i64 0, .slice none 0 0, .int .i64 3] 52)
      have hst := told_at W0 3
      have hz9 : (W0.alloc (.cells #[.int .i64 100, .int .i64 0, .slice none 0 0, .int .i64 3] 52)).heap.size = W0.heap.size + 1 := World.size_alloc _ _
      have x1 := u1.same hal9
      have x2 := u2.same hal9
      have hB9 := hB2.trans (hal9.mono hB2.size)
      go_wp2_with fail
      refine ⟨rfl, .slice (some ⟨W0.heap.size, 0, none⟩) 1 1, _, (fun V => V = _), ?_, rfl, (fun V h => by rw [h]; exact x1), (.inr (fun _ h => h)), ?_⟩
      · simp only [Act.put, List.setIfInBounds_toArray, List.set_cons_succ, List.set_cons_zero]
      simp only [Act.put, List.setIfInBounds_toArray, List.set_cons_succ, List.set_cons_zero]
      refine Pt.WalkT.make (by rfl) ?_
      intro W hWJ
      subst hWJ
      go_wp2_with (refine wpList_store_ob (cells := #[.int .i64 s.order, .int .i64 s.first, .int .i64 s.regions, .slice A1 s.want.length c1, .bool s.waits, .int .i64 3, .int .i64 s.asked, .slice A2 s.got.length c2, .slice none 0 0, .bool s.cancelled]) rfl 26 (.tmp 2) (.tmp 14) rfl rfl rfl x2 rfl (by kernel_rfl) (by simp [Value.oneCell']) ?_; intro W10 ho10 hg10)
      have hk10 := Kept.of_grown (Fr := fun i => i < (W0.alloc (.cells #[.int .i64 100, .int .i64 0, .slice none 0 0, .int .i64 3] 52)).heap.size ∧ i ≠ w.heap.size + 1) hg10 fun i hi => ⟨hi.1, fun e => hi.2 (by cases e; rfl)⟩
      have hs10 := hg10.size
      have hob10 := x1.kept hg10 (by simp)
      have hst10 := (hst.kept hk10 fun i ha hb => ⟨by omega, by omega⟩).wide (show w.heap.size ≤ W0.heap.size by omega) (show W0.heap.size + 1 ≤ W10.heap.size by omega)
      have hB10 := hB9.grown hg10 (by omega) (fun g e => by have e2 : w.heap.size + 1 = g := Option.some.inj e; omega)
      refine ⟨rfl, undef, _, (fun V => V = W10), ?_, rfl, (fun V h => by rw [h]; exact hob10), (.inr (fun _ h => h)), ?_⟩
      · simp only [Act.put, List.setIfInBounds_toArray, List.set_cons_succ, List.set_cons_zero]
      simp only [Act.put, List.setIfInBounds_toArray, List.set_cons_succ, List.set_cons_zero]
      iterate 1 (
        apply Pt.WalkT.on (by rfl)
        · intro V hV
          go_wp2_with fail
          refine ⟨rfl, ?_, rfl⟩
          try simp only [Act.put, List.setIfInBounds_toArray, List.set_cons_succ, List.set_cons_zero]
          rfl
        simp only [Act.put, List.setIfInBounds_toArray, List.set_cons_succ, List.set_cons_zero])
      refine Pt.WalkT.nil ?_
      rintro V hVJ
      cases hVJ.symm
      obtain ⟨p0, p1, p2, p3, p4, p5, p6, p7, p8, p9⟩ := ob_ten ho10
      go_wp2
      refine bodyPost_ret (v := .tuple #[.agg #[.int .i64 s.order, .int .i64 s.first, .int .i64 s.regions, .slice A1 s.want.length c1, .bool s.waits, .int .i64 3, .int .i64 s.asked, .slice A2 s.got.length c2, .slice none 0 0, .bool s.cancelled], .slice (some ⟨W0.heap.size, 0, none⟩) 1 1]) ?_ rfl ⟨by rw [HST.out]; exact ⟨_, _, _, _, rfl, ⟨HP.out.want.later hB10, HP.out.got.later hB10, SlA.nil _ _ _⟩, hst10⟩, hB10⟩
      simp [results, Tryz.f30, go_sem, p0, p1, p2, p3, p4, p5, p6, p7, p8, p9]
    · intro W hWJ
      rw [hWJ]
      clear hWJ W
      go_wp2_with (refine wpList_store_ob (cells := #[.int .i64 s.order, .int .i64 s.first, .int .i64 s.regions, .slice A1 s.want.length c1, .bool s.waits, .int .i64 3, .int .i64 s.asked, .slice A2 s.got.length c2, .slice none 0 0, .bool s.cancelled]) rfl 26 (.tmp 2) (.tmp 14) rfl rfl rfl u2 rfl (by kernel_rfl) (by simp [Value.oneCell']) ?_; intro W9 ho9 hg9)
      have hs9 := hg9.size
      have hob9 := u1.kept hg9 (by simp)
      have hB9 := hB2.grown hg9 (by omega) (fun g e => by have e2 : w.heap.size + 1 = g := Option.some.inj e; omega)
      refine ⟨rfl, undef, _, (fun V => V = W9), ?_, rfl, (fun V h => by rw [h]; exact hob9), (.inr (fun _ h => h)), ?_⟩
      · simp only [Act.put, List.setIfInBounds_toArray, List.set_cons_succ, List.set_cons_zero]
      simp only [Act.put, List.setIfInBounds_toArray, List.set_cons_succ, List.set_cons_zero]
      refine Pt.WalkT.make (by rfl) ?_
      intro W hWJ
      cases hWJ.symm
      have hal10 := (Below.refl W9.heap.size W9).alloc (Nat.le_refl _) (.cells #[.int .i64 100, .int .i64 0, .slice none 0 0, .int .i64 3] 52)
      have hst10 := (told_at W9 3).wide (show w.heap.size ≤ W9.heap.size by omega) (show W9.heap.size + 1 ≤ (W9.alloc (.cells #[.int .i64 100, .int .i64 0, .slice none 0 0, .int .i64 3] 52)).heap.size by rw [World.size_alloc]; omega)
      have hob10 := hob9.same hal10
      have ho10 := ho9.same hal10
      have hB10 := hB9.trans (hal10.mono hB9.size)
      go_wp2_with fail
      refine ⟨rfl, .slice (some ⟨W9.heap.size, 0, none⟩) 1 1, _, (fun V => V = _), ?_, rfl, (fun V h => by rw [h]; exact hob10), (.inr (fun _ h => h)), ?_⟩
      · simp only [Act.put, List.setIfInBounds_toArray, List.set_cons_succ, List.set_cons_zero]
      simp only [Act.put, List.setIfInBounds_toArray, List.set_cons_succ, List.set_cons_zero]
      iterate 1 (
        apply Pt.WalkT.on (by rfl)
        · intro V hV
          go_wp2_with fail
          refine ⟨rfl, ?_, rfl⟩
          try simp only [Act.put, List.setIfInBounds_toArray, List.set_cons_succ, List.set_cons_zero]
          rfl
        simp only [Act.put, List.setIfInBounds_toArray, List.set_cons_succ, List.set_cons_zero])
      refine Pt.WalkT.nil ?_
      rintro V hVJ
      cases hVJ.symm
      obtain ⟨p0, p1, p2, p3, p4, p5, p6, p7, p8, p9⟩ := ob_ten ho10
      go_wp2
      refine bodyPost_ret (v := .tuple #[.agg #[.int .i64 s.order, .int .i64 s.first, .int .i64 s.regions, .slice A1 s.want.length c1, .bool s.waits, .int .i64 3, .int .i64 s.asked, .slice A2 s.got.length c2, .slice none 0 0, .bool s.cancelled], .slice (some ⟨W9.heap.size, 0, none⟩) 1 1]) ?_ rfl ⟨by rw [HST.out]; exact ⟨_, _, _, _, rfl, ⟨HP.out.want.later hB10, HP.out.got.later hB10, SlA.nil _ _ _⟩, hst10⟩, hB10⟩
      simp [results, Tryz.f30, go_sem, p0, p1, p2, p3, p4, p5, p6, p7, p8, p9]
  · have j9' := j9
    rw [hc] at j9'
    have j4' := j4
    rw [hw] at j4'
    have hst : endSt s = 5 := by simp [endSt, hc, hw]
    have HST := Lib.hid hst
    clear hc hw j9 j4 hst
    have u1 : Ob _ w.heap.size 26 #[.int .i64 s.order, .int .i64 s.first, .int .i64 s.regions, .slice A1 s.want.length c1, .bool s.waits, .int .i64 5, .int .i64 s.asked, .slice A2 s.got.length c2, .slice none 0 0, .bool s.cancelled] := t1.set 5 (.int .i64 5)
    have u2 := t2.other (show w.heap.size + 1 ≠ w.heap.size by omega) 5 (.int .i64 5)
    have hB2 := hB1.trans (below_set _ w.heap.size 5 (.int .i64 5))
    have u1 := Ob.drewn u1
    have u2 := Ob.drewn u2
    have hB2 := hB2.drew
    clear t2 hB1
    go_wp2
    generalize (WB.setCell ⟨w.heap.size, 8, none⟩ (.slice none 0 0)).setCell ⟨w.heap.size, 5, none⟩ (.int .i64 5) = X at *
    have hlt := u2.lt
    refine Pt.regionT (.look 0 (.look 1 (.look 2 (.look 3 (.fork 4 (.make 5 (.look 6 .nil)) 5 (.make 4 (.look 6 .nil))))))) (fun V => Ob V w.heap.size 26 #[.int .i64 s.order, .int .i64 s.first, .int .i64 s.regions, .slice A1 s.want.length c1, .bool s.waits, .int .i64 5, .int .i64 s.asked, .slice A2 s.got.length c2, .slice none 0 0, .bool s.cancelled]) hmx (by kernel_rfl) (by kernel_rfl) (by kernel_rfl) u1 rfl ?_
    simp only [Pt.named, List.getElem?_toArray, List.getElem?_cons_succ, List.getElem?_cons_zero, Option.map_some]
    iterate 4 (
      apply Pt.WalkT.on (by rfl)
      · intro V hV
        obtain ⟨-, -, -, -, -, q5, -, -, -, -⟩ := ob_ten hV
        go_wp2_with (refine wpList_load_obg (by rfl) _ _ rfl rfl _ hV Tryz.underlying26 rfl (by kernel_rfl) ?_)
        refine ⟨rfl, ?_, rfl⟩
        try simp only [Act.put, List.setIfInBounds_toArray, List.set_cons_succ, List.set_cons_zero]
        rfl
      simp only [Act.put, List.setIfInBounds_toArray, List.set_cons_succ, List.set_cons_zero])
    generalize X.drew = W0 at *
    refine Pt.WalkT.fork (by rfl) (by rfl) ?_ ?_
    · intro W hWJ
      rw [hWJ]
      clear hWJ W
      have hal9 := (Below.refl W0.heap.size W0).alloc (Nat.le_refl _) (.cells #[.int .i64 100, .int .i64 0, .slice none 0 0, .int .i64 5] 52)
      have hst := told_at W0 5
      have hz9 : (W0.alloc (.cells #[.int .i64 100, .int .i64 0, .slice none 0 0, .int .i64 5] 52)).heap.size = W0.heap.size + 1 := World.size_alloc _ _
      have x1 := u1.same hal9
      have x2 := u2.same hal9
      have hB9 := hB2.trans (hal9.mono hB2.size)
      go_wp2_with fail
      refine ⟨rfl, .slice (some ⟨W0.heap.size, 0, none⟩) 1 1, _, (fun V => V = _), ?_, rfl, (fun V h => by rw [h]; exact x1), (.inr (fun _ h => h)), ?_⟩
      · simp only [Act.put, List.setIfInBounds_toArray, List.set_cons_succ, List.set_cons_zero]
      simp only [Act.put, List.setIfInBounds_toArray, List.set_cons_succ, List.set_cons_zero]
      refine Pt.WalkT.make (by rfl) ?_
      intro W hWJ
      subst hWJ
      go_wp2_with (refine wpList_store_ob (cells := #[.int .i64 s.order, .int .i64 s.first, .int .i64 s.regions, .slice A1 s.want.length c1, .bool s.waits, .int .i64 5, .int .i64 s.asked, .slice A2 s.got.length c2, .slice none 0 0, .bool s.cancelled]) rfl 26 (.tmp 2) (.tmp 14) rfl rfl rfl x2 rfl (by kernel_rfl) (by simp [Value.oneCell']) ?_; intro W10 ho10 hg10)
      have hk10 := Kept.of_grown (Fr := fun i => i < (W0.alloc (.cells #[.int .i64 100, .int .i64 0, .slice none 0 0, .int .i64 5] 52)).heap.size ∧ i ≠ w.heap.size + 1) hg10 fun i hi => ⟨hi.1, fun e => hi.2 (by cases e; rfl)⟩
      have hs10 := hg10.size
      have hob10 := x1.kept hg10 (by simp)
      have hst10 := (hst.kept hk10 fun i ha hb => ⟨by omega, by omega⟩).wide (show w.heap.size ≤ W0.heap.size by omega) (show W0.heap.size + 1 ≤ W10.heap.size by omega)
      have hB10 := hB9.grown hg10 (by omega) (fun g e => by have e2 : w.heap.size + 1 = g := Option.some.inj e; omega)
      refine ⟨rfl, undef, _, (fun V => V = W10), ?_, rfl, (fun V h => by rw [h]; exact hob10), (.inr (fun _ h => h)), ?_⟩
      · simp only [Act.put, List.setIfInBounds_toArray, List.set_cons_succ, List.set_cons_zero]
      simp only [Act.put, List.setIfInBounds_toArray, List.set_cons_succ, List.set_cons_zero]
      iterate 1 (
        apply Pt.WalkT.on (by rfl)
        · intro V hV
          go_wp2_with fail
          refine ⟨rfl, ?_, rfl⟩
          try simp only [Act.put, List.setIfInBounds_toArray, List.set_cons_succ, List.set_cons_zero]
          rfl
        simp only [Act.put, List.setIfInBounds_toArray, List.set_cons_succ, List.set_cons_zero])
      refine Pt.WalkT.nil ?_
      rintro V hVJ
      cases hVJ.symm
      obtain ⟨p0, p1, p2, p3, p4, p5, p6, p7, p8, p9⟩ := ob_ten ho10
      go_wp2
      refine bodyPost_ret (v := .tuple #[.agg #[.int .i64 s.order, .int .i64 s.first, .int .i64 s.regions, .slice A1 s.want.length c1, .bool s.waits, .int .i64 5, .int .i64 s.asked, .slice A2 s.got.length c2, .slice none 0 0, .bool s.cancelled], .slice (some ⟨W0.heap.size, 0, none⟩) 1 1]) ?_ rfl ⟨by rw [HST.out]; exact ⟨_, _, _, _, rfl, ⟨HP.out.want.later hB10, HP.out.got.later hB10, SlA.nil _ _ _⟩, hst10⟩, hB10⟩
      simp [results, Tryz.f30, go_sem, p0, p1, p2, p3, p4, p5, p6, p7, p8, p9]
    · intro W hWJ
      rw [hWJ]
      clear hWJ W
      go_wp2_with (refine wpList_store_ob (cells := #[.int .i64 s.order, .int .i64 s.first, .int .i64 s.regions, .slice A1 s.want.length c1, .bool s.waits, .int .i64 5, .int .i64 s.asked, .slice A2 s.got.length c2, .slice none 0 0, .bool s.cancelled]) rfl 26 (.tmp 2) (.tmp 14) rfl rfl rfl u2 rfl (by kernel_rfl) (by simp [Value.oneCell']) ?_; intro W9 ho9 hg9)
      have hs9 := hg9.size
      have hob9 := u1.kept hg9 (by simp)
      have hB9 := hB2.grown hg9 (by omega) (fun g e => by have e2 : w.heap.size + 1 = g := Option.some.inj e; omega)
      refine ⟨rfl, undef, _, (fun V => V = W9), ?_, rfl, (fun V h => by rw [h]; exact hob9), (.inr (fun _ h => h)), ?_⟩
      · simp only [Act.put, List.setIfInBounds_toArray, List.set_cons_succ, List.set_cons_zero]
      simp only [Act.put, List.setIfInBounds_toArray, List.set_cons_succ, List.set_cons_zero]
      refine Pt.WalkT.make (by rfl) ?_
      intro W hWJ
      cases hWJ.symm
      have hal10 := (Below.refl W9.heap.size W9).alloc (Nat.le_refl _) (.cells #[.int .i64 100, .int .i64 0, .slice none 0 0, .int .i64 5] 52)
      have hst10 := (told_at W9 5).wide (show w.heap.size ≤ W9.heap.size by omega) (show W9.heap.size + 1 ≤ (W9.alloc (.cells #[.int .i64 100, .int .i64 0, .slice none 0 0, .int .i64 5] 52)).heap.size by rw [World.size_alloc]; omega)
      have hob10 := hob9.same hal10
      have ho10 := ho9.same hal10
      have hB10 := hB9.trans (hal10.mono hB9.size)
      go_wp2_with fail
      refine ⟨rfl, .slice (some ⟨W9.heap.size, 0, none⟩) 1 1, _, (fun V => V = _), ?_, rfl, (fun V h => by rw [h]; exact hob10), (.inr (fun _ h => h)), ?_⟩
      · simp only [Act.put, List.setIfInBounds_toArray, List.set_cons_succ, List.set_cons_zero]
      simp only [Act.put, List.setIfInBounds_toArray, List.set_cons_succ, List.set_cons_zero]
      iterate 1 (
        apply Pt.WalkT.on (by rfl)
        · intro V hV
          go_wp2_with fail
          refine ⟨rfl, ?_, rfl⟩
          try simp only [Act.put, List.setIfInBounds_toArray, List.set_cons_succ, List.set_cons_zero]
          rfl
        simp only [Act.put, List.setIfInBounds_toArray, List.set_cons_succ, List.set_cons_zero])
      refine Pt.WalkT.nil ?_
      rintro V hVJ
      cases hVJ.symm
      obtain ⟨p0, p1, p2, p3, p4, p5, p6, p7, p8, p9⟩ := ob_ten ho10
      go_wp2
      refine bodyPost_ret (v := .tuple #[.agg #[.int .i64 s.order, .int .i64 s.first, .int .i64 s.regions, .slice A1 s.want.length c1, .bool s.waits, .int .i64 5, .int .i64 s.asked, .slice A2 s.got.length c2, .slice none 0 0, .bool s.cancelled], .slice (some ⟨W9.heap.size, 0, none⟩) 1 1]) ?_ rfl ⟨by rw [HST.out]; exact ⟨_, _, _, _, rfl, ⟨HP.out.want.later hB10, HP.out.got.later hB10, SlA.nil _ _ _⟩, hst10⟩, hB10⟩
      simp [results, Tryz.f30, go_sem, p0, p1, p2, p3, p4, p5, p6, p7, p8, p9]

set_option maxRecDepth 100000 in
set_option maxHeartbeats 4000000 in
theorem refall_calls (Av : Nat → Prop) (s : Saga) (st kind : Int) (vw vg vp : Value) (w : World) (h : PartsA Av w s vw vg vp) (hav : ∀ i, Av i → i < w.heap.size) (hL : s.got.length ≤ 1000000) :
    Calls Tryz.prog 33 #[.agg (sagaC s vw vg vp), .int .i64 st, .int .i64 kind] w fun e w' => Ret2 Av w.heap.size w' e (eachS s st, eachL kind (holders s.got)) ∧ Below w.heap.size w w' := by
  obtain ⟨i0, hi0, hz0⟩ := Option.map_eq_some_iff.1 step_info
  simp only [Prod.mk.injEq] at hz0
  obtain ⟨hz0, hz1, hz2⟩ := hz0
  have HAV := Lib.hid hav
  have cH := Lib.hid (fun W (hb : Below w.heap.size w W) => refholders_calls s vw vg vp W (h.parts.later hb) hL)
  have hlen : (holders s.got).length ≤ 1000000 := by have := holdersTo_len s.got s.got.length; unfold holders; omega
  have HP := Lib.hid h
  obtain ⟨A1, c1, rfl, -⟩ := h.want.form
  obtain ⟨us, -, hv2, -⟩ := h.got
  obtain ⟨A2, c2, rfl, -⟩ := hv2.form
  obtain ⟨A3, c3, rfl, -⟩ := h.pend.form
  clear h hv2 us
  have hal1 := (Below.refl w.heap.size w).alloc (Nat.le_refl _) (.cells #[.int .i64 s.order, .int .i64 s.first, .int .i64 s.regions, .slice A1 s.want.length c1, .bool s.waits, .int .i64 s.state, .int .i64 s.asked, .slice A2 s.got.length c2, .slice A3 s.pending.length c3, .bool s.cancelled] 26)
  have hal := hal1.alloc hal1.size (.cells #[.int .i64 0, .int .i64 0, .int .i64 0, .slice none 0 0, .bool false, .int .i64 0, .int .i64 0, .slice none 0 0, .slice none 0 0, .bool false] 26)
  have o1 := (Ob.new w 26 #[.int .i64 s.order, .int .i64 s.first, .int .i64 s.regions, .slice A1 s.want.length c1, .bool s.waits, .int .i64 s.state, .int .i64 s.asked, .slice A2 s.got.length c2, .slice A3 s.pending.length c3, .bool s.cancelled]).alloc (.cells #[.int .i64 0, .int .i64 0, .int .i64 0, .slice none 0 0, .bool false, .int .i64 0, .int .i64 0, .slice none 0 0, .slice none 0 0, .bool false] 26)
  have o2 := Ob.new (w.alloc (.cells #[.int .i64 s.order, .int .i64 s.first, .int .i64 s.regions, .slice A1 s.want.length c1, .bool s.waits, .int .i64 s.state, .int .i64 s.asked, .slice A2 s.got.length c2, .slice A3 s.pending.length c3, .bool s.cancelled] 26)) 26 #[.int .i64 0, .int .i64 0, .int .i64 0, .slice none 0 0, .bool false, .int .i64 0, .int .i64 0, .slice none 0 0, .slice none 0 0, .bool false]
  rw [World.size_alloc] at o2
  unfold sagaC
  unfold sagaC at cH
  unfold eachS
  go_enter Tryz.func33, Tryz.ntmps33
  go_wp2_with (refine wpList_load_obg (by rfl) _ _ rfl rfl _ o1 Tryz.underlying26 rfl (by kernel_rfl) ?_)
  refine (cH.out _ hal).mono ?_
  rintro e w1 ⟨⟨vh, rfl, hvh⟩, hb1⟩
  have ho1 := o1.same hb1
  have hr1 := o2.same hb1
  have hB1 := hal.trans (hb1.mono hal.size)
  have hI := (IntsAt.of_own hvh)
  have hz : w.heap.size + 1 < _ := o2.lt
  obtain ⟨A, c, rfl, hc1, hc2, -⟩ := hI.form
  unfold maxLen at hc2
  generalize hH : holders s.got = H at *
  have g5 : w1.cell? ⟨w.heap.size, 5, none⟩ = some (.int .i64 s.state) := ho1.cell rfl
  have f5 := ho1.frozen 5
  have ho2 := ho1.set 5 (.int .i64 st)
  have hr2 := hr1.other (show w.heap.size + 1 ≠ w.heap.size by omega) 5 (.int .i64 st)
  have g8 : (w1.setCell ⟨w.heap.size, 5, none⟩ (.int .i64 st)).cell? ⟨w.heap.size, 8, none⟩ = some (.slice A3 s.pending.length c3) := ho2.cell rfl
  have f8 := ho2.frozen 8
  have ho3 : Ob _ w.heap.size 26 #[.int .i64 s.order, .int .i64 s.first, .int .i64 s.regions, .slice A1 s.want.length c1, .bool s.waits, .int .i64 st, .int .i64 s.asked, .slice A2 s.got.length c2, .slice A H.length c, .bool s.cancelled] := ho2.set 8 (.slice A H.length c)
  have hr3 := hr2.other (show w.heap.size + 1 ≠ w.heap.size by omega) 8 (.slice A H.length c)
  have hkk : Kept (fun i => i < w1.heap.size ∧ i ≠ w.heap.size) w1 ((w1.setCell ⟨w.heap.size, 5, none⟩ (.int .i64 st)).setCell ⟨w.heap.size, 8, none⟩ (.slice A H.length c)) :=
    (Kept.of_grown (grownBy_set w1 w.heap.size 5 _) fun i hi => ⟨hi.1, fun e => hi.2 (by cases e; rfl)⟩).trans (Kept.of_grown (grownBy_set _ w.heap.size 8 _) fun i hi => ⟨by rw [set_size]; exact hi.1, fun e => hi.2 (by cases e; rfl)⟩)
  have hI3 := (hkk.sl hI fun i ha hb => ⟨hb, by omega⟩)
  have hb3 : Below w.heap.size w ((w1.setCell ⟨w.heap.size, 5, none⟩ (.int .i64 st)).setCell ⟨w.heap.size, 8, none⟩ (.slice A H.length c)) := (hB1.trans (below_set w1 w.heap.size 5 _)).trans (below_set _ w.heap.size 8 _)
  have hsz3 : ((w1.setCell ⟨w.heap.size, 5, none⟩ (.int .i64 st)).setCell ⟨w.heap.size, 8, none⟩ (.slice A H.length c)).heap.size = w1.heap.size := by rw [set_size, set_size]
  clear cH hvh hb1 ho1 ho2 hr1 hr2 hI hkk o1 o2 hal hal1
  obtain ⟨-, -, -, -, -, -, -, -, j8, -⟩ := ob_ten ho3
  go_wp2
  generalize (w1.setCell ⟨w.heap.size, 5, none⟩ (.int .i64 st)).setCell ⟨w.heap.size, 8, none⟩ (.slice A H.length c) = W3 at *
  rw [← hsz3] at hI3
  have HI := Lib.hid hI3
  have HO := Lib.hid ho3
  have HR := Lib.hid hr3
  have HB := Lib.hid hb3
  have HH := Lib.hid hH
  have hlt3 := ho3.lt
  have hlt4 := hr3.lt
  have HZ := Lib.hid hz
  clear hI3 ho3 hr3 hb3 g5 f5 g8 f8 j8 hH hz hB1 hsz3
  go_loopw [8, 9] (fun v i wr => ∃ k : Nat, k ≤ H.length ∧ i = .int .i64 k ∧ wr.ownsRow W3.heap.size 52 4 v k (stepsC (eachL kind (H.take k)) (List.replicate k (.slice none 0 0))) ∧ Below W3.heap.size W3 wr) (fun _ i _ => H.length - (intOf i).toNat)
  case atStart => exact ⟨0, by omega, rfl, World.ownsRow_nil _ _ _ _, Below.refl _ _⟩
  case round =>
    obtain ⟨k, hk, rfl, hv, hb⟩ := hrel
    have hlow := fun g e => hv.lt g e
    obtain ⟨-, -, -, -, -, -, -, -, j8, -⟩ := ob_ten (HO.out.same hb)
    by_cases hlt : k < H.length
    · have hd : decide ((k : Int) < H.length) = true := decide_eq_true (by omega)
      obtain ⟨p, o, rfl, _, hpB, hck⟩ := (IntsAt.mono HI.out hb (Nat.le_refl _)).cellAt hlt
      have HS := Lib.hid (eachL_snoc kind H hlt)
      have HLn := Lib.hid (show (eachL kind (H.take k)).length = k by rw [eachL_length, List.length_take]; omega)
      generalize H.getD k 0 = r at hck HS
      have hal := (Below.refl wr.heap.size wr).alloc (Nat.le_refl _) (.cells #[.int .i64 kind, .int .i64 r, .slice none 0 0, .int .i64 0] 52)
      have hva := row_later hv hal
      have hob := Ob.new wr 52 #[.int .i64 kind, .int .i64 r, .slice none 0 0, .int .i64 0]
      have hba := hb.trans (hal.mono hb.size)
      go_wp2_with (at_builtin; go_must (refine wpList_append_own _ rfl (.tmp 22) (.tmp 30) 31 rfl W3.heap.size 52 i0 _ 4 48 Tryz.underlying31 hi0 hz0 hz1 hz2 rfl (by omega) _ k _ rfl hva ⟨wr.heap.size, 0, none⟩ 1 1 [.int .i64 kind, .int .i64 r, .slice none 0 0, .int .i64 0] rfl rfl (fun j u hu => by rw [add_mid, Nat.zero_add]; exact hob.cell (by simpa using hu)) (by simp [Value.oneCell']) (by unfold maxLen; omega) (by omega) hba.size ?_; intro v1 w1 hv1 hg1 hat1))
      exact ⟨⟨k + 1, by omega, by go_num, by rw [HS.out, List.replicate_succ', stepsC_snoc _ _ _ _ (by rw [HLn.out, List.length_replicate])]; exact hv1, hba.grown hg1 hba.size (fun g e => (hlow g e).1)⟩, by simp [intOf]; omega⟩
    · obtain rfl : k = H.length := by omega
      have hd : decide ((H.length : Int) < H.length) = false := decide_eq_false (by omega)
      rw [List.take_length] at hv
      have hst := steps_own hv rfl (Nat.le_refl _)
      obtain ⟨A4, c4, rfl, -⟩ := hst.form
      have x1 := HO.out.same hb
      have x2 := HR.out.same hb
      have hBr := HB.out.trans (hb.mono HB.out.size)
      go_wp2_with (first
        | (refine wpList_load_obg (by rfl) _ _ rfl rfl _ x1 Tryz.underlying26 rfl (by kernel_rfl) ?_)
        | (refine wpList_store_ob (cells := #[.int .i64 s.order, .int .i64 s.first, .int .i64 s.regions, .slice A1 s.want.length c1, .bool s.waits, .int .i64 st, .int .i64 s.asked, .slice A2 s.got.length c2, .slice A H.length c, .bool s.cancelled]) rfl 26 (.tmp 6) (.tmp 32) rfl rfl rfl x2 rfl (by kernel_rfl) (by simp [Value.oneCell']) ?_; intro W10 ho10 hg10))
      have hk10 := Kept.of_grown (Fr := fun i => i < wr.heap.size ∧ i ≠ w.heap.size + 1) hg10 fun i hi => ⟨hi.1, fun e => hi.2 (by cases e; rfl)⟩
      have hs10 := hg10.size
      have hbs := hb.size
      have hst10 := (hst.kept hk10 fun i ha hb => ⟨by omega, by omega⟩).wide (show w.heap.size ≤ W3.heap.size by omega) hs10
      have hB10 := hBr.grown hg10 (by omega) (fun g e => by have e2 : w.heap.size + 1 = g := Option.some.inj e; omega)
      have hI10 := hk10.sl (IntsAt.mono HI.out hb (Nat.le_refl _)) fun i ha hb => ⟨by omega, by have := HZ.out; omega⟩
      obtain ⟨p0, p1, p2, p3, p4, p5, p6, p7, p8, p9⟩ := ob_ten ho10
      have hPA : PartsA Av W10 ({ s with state := st, pending := H } : Saga) (.slice A1 s.want.length c1) (.slice A2 s.got.length c2) (.slice A H.length c) :=
        ⟨HP.out.want.later hB10, HP.out.got.later hB10, .of hI10 (by omega) fun i ha hb hx => by have := HAV.out i hx; have := HZ.out; omega⟩
      refine bodyPost_ret (v := .tuple #[.agg #[.int .i64 s.order, .int .i64 s.first, .int .i64 s.regions, .slice A1 s.want.length c1, .bool s.waits, .int .i64 st, .int .i64 s.asked, .slice A2 s.got.length c2, .slice A H.length c, .bool s.cancelled], .slice A4 (eachL kind H).length c4]) ?_ rfl ⟨by rw [HH.out]; exact ⟨_, _, _, _, rfl, hPA, hst10⟩, hB10⟩
      simp [results, Tryz.f33, go_sem, p0, p1, p2, p3, p4, p5, p6, p7, p8, p9]

set_option maxRecDepth 100000 in
set_option maxHeartbeats 4000000 in
theorem refundo_calls (Av : Nat → Prop) (s : Saga) (vw vg vp : Value) (w : World) (h : PartsA Av w s vw vg vp) (hav : ∀ i, Av i → i < w.heap.size) (hL : s.got.length ≤ 1000000) :
    Calls Tryz.prog 31 #[.agg (sagaC s vw vg vp)] w fun e w' => Ret2 Av w.heap.size w' e (undoS s) ∧ Below w.heap.size w w' := by
  have cH := Lib.hid (fun W (hb : Below w.heap.size w W) => refholders_calls s vw vg vp W (h.parts.later hb) hL)
  have h' : PartsA (fun i => Av i ∨ i = w.heap.size + 1) w s vw vg vp := h.more fun i hi hx => hx.elim id fun e => by omega
  have cE := Lib.hid (fun W (hb : Below w.heap.size w W) (_ : w.heap.size + 1 < W.heap.size) => refends_calls _ s vw vg vp W (h'.later hb))
  have cX := Lib.hid (fun W (hb : Below w.heap.size w W) (hz : w.heap.size + 1 < W.heap.size) => refall_calls _ s 4 5 vw vg vp W (h'.later hb) (fun i hi => hi.elim (fun h => by have := hav i h; omega) (fun h => by omega)) hL)
  clear h'
  have HP := Lib.hid h
  obtain ⟨A1, c1, rfl, -⟩ := h.want.form
  obtain ⟨us, -, hv2, -⟩ := h.got
  obtain ⟨A2, c2, rfl, -⟩ := hv2.form
  obtain ⟨A3, c3, rfl, -⟩ := h.pend.form
  clear h hv2 us
  have hal1 := (Below.refl w.heap.size w).alloc (Nat.le_refl _) (.cells #[.int .i64 s.order, .int .i64 s.first, .int .i64 s.regions, .slice A1 s.want.length c1, .bool s.waits, .int .i64 s.state, .int .i64 s.asked, .slice A2 s.got.length c2, .slice A3 s.pending.length c3, .bool s.cancelled] 26)
  have hal := hal1.alloc hal1.size (.cells #[.int .i64 0, .int .i64 0, .int .i64 0, .slice none 0 0, .bool false, .int .i64 0, .int .i64 0, .slice none 0 0, .slice none 0 0, .bool false] 26)
  have o1 := (Ob.new w 26 #[.int .i64 s.order, .int .i64 s.first, .int .i64 s.regions, .slice A1 s.want.length c1, .bool s.waits, .int .i64 s.state, .int .i64 s.asked, .slice A2 s.got.length c2, .slice A3 s.pending.length c3, .bool s.cancelled]).alloc (.cells #[.int .i64 0, .int .i64 0, .int .i64 0, .slice none 0 0, .bool false, .int .i64 0, .int .i64 0, .slice none 0 0, .slice none 0 0, .bool false] 26)
  have o2 := Ob.new (w.alloc (.cells #[.int .i64 s.order, .int .i64 s.first, .int .i64 s.regions, .slice A1 s.want.length c1, .bool s.waits, .int .i64 s.state, .int .i64 s.asked, .slice A2 s.got.length c2, .slice A3 s.pending.length c3, .bool s.cancelled] 26)) 26 #[.int .i64 0, .int .i64 0, .int .i64 0, .slice none 0 0, .bool false, .int .i64 0, .int .i64 0, .slice none 0 0, .slice none 0 0, .bool false]
  rw [World.size_alloc] at o2
  unfold sagaC
  unfold sagaC at cH cE cX
  unfold undoS
  by_cases h0 : (holders s.got).length = 0
  · rw [if_pos h0]
    have d0 : decide (((holders s.got).length : Int) = 0) = true := decide_eq_true (by omega)
    have d1 : (((holders s.got).length : Int) == 0) = true := by rw [beq_iff_eq]; omega
    clear h0
    go_enter Tryz.func31, Tryz.ntmps31
    go_wp2_with (refine wpList_load_obg (by rfl) _ _ rfl rfl _ o1 Tryz.underlying26 rfl (by kernel_rfl) ?_)
    refine (cH.out _ hal).mono ?_
    rintro e w1 ⟨⟨vh, rfl, hvh⟩, hb1⟩
    obtain ⟨A, c, rfl, -⟩ := (IntsAt.of_own hvh).form
    have x1 := o1.same hb1
    have hz1 := (o2.same hb1).lt
    have hB1 := hal.trans (hb1.mono hal.size)
    clear hvh
    go_wp2_with (refine wpList_load_obg (by rfl) _ _ rfl rfl _ x1 Tryz.underlying26 rfl (by kernel_rfl) ?_)
    refine (cE.out _ hB1 hz1).mono ?_
    rintro e w2 ⟨hR, hb2⟩
    have x2 := (o2.same hb1).same hb2
    have hB2 := hB1.trans (hb2.mono hB1.size)
    have hbs2 := hb2.size
    clear o1 o2 x1 hb1 hb2 hal hal1 cH cE cX hB1
    obtain ⟨uw, ug, up, ul, rfl, hPA, hst⟩ := hR
    obtain ⟨B1, d1, rfl, -⟩ := hPA.want.form
    obtain ⟨B3, d3, rfl, -⟩ := hPA.pend.form
    obtain ⟨us, hu1, hu2, hu3⟩ := hPA.got
    obtain ⟨B2, d2, rfl, -⟩ := hu2.form
    obtain ⟨B4, d4, rfl, -⟩ := hst.form
    clear hu1 hu2 hu3 us
    obtain ⟨Y, hY⟩ : ∃ Y : Saga, Y = (endS s) := ⟨_, rfl⟩
    obtain ⟨L, hLL⟩ : ∃ L : List Step, L = (told (endSt s)) := ⟨_, rfl⟩
    rw [← hY] at hPA ⊢
    rw [← hLL] at hst ⊢
    have HY := Lib.hid hY
    have HLL := Lib.hid hLL
    clear hY hLL
    unfold sagaC
    go_wp2_with (refine wpList_store_ob (cells := sagaC Y (.slice B1 Y.want.length d1) (.slice B2 Y.got.length d2) (.slice B3 Y.pending.length d3)) rfl 26 (.tmp 2) (.tmp 10) rfl rfl rfl x2 rfl (by kernel_rfl) (by simp [sagaC, Value.oneCell']) ?_; intro W10 ho10 hg10)
    have hk10 := Kept.of_grown (Fr := fun i => i < w2.heap.size ∧ i ≠ w.heap.size + 1) hg10 fun i hi => ⟨hi.1, fun e => hi.2 (by cases e; rfl)⟩
    have hs10 := hg10.size
    have hst10 := (hst.kept hk10 fun i ha hb => ⟨by omega, by omega⟩).wide (show w.heap.size ≤ w1.heap.size by omega) hs10
    have hB10 := hB2.grown hg10 (by omega) (fun g e => by have e2 : w.heap.size + 1 = g := Option.some.inj e; omega)
    have hPA10 := (hPA.grow hg10 (.inr rfl)).more (Av' := Av) fun i _ hx => .inl hx
    obtain ⟨p0, p1, p2, p3, p4, p5, p6, p7, p8, p9⟩ := ob_ten ho10
    refine bodyPost_ret (v := .tuple #[.agg (sagaC Y (.slice B1 Y.want.length d1) (.slice B2 Y.got.length d2) (.slice B3 Y.pending.length d3)), .slice B4 L.length d4]) ?_ rfl ⟨by rw [← HY.out, ← HLL.out]; exact ⟨_, _, _, _, rfl, hPA10, hst10⟩, hB10⟩
    simp [results, Tryz.f31, go_sem, sagaC, p0, p1, p2, p3, p4, p5, p6, p7, p8, p9]
  · rw [if_neg h0]
    have d0 : decide (((holders s.got).length : Int) = 0) = false := decide_eq_false (by omega)
    have d1 : (((holders s.got).length : Int) == 0) = false := by rw [beq_eq_false_iff_ne]; omega
    clear h0
    go_enter Tryz.func31, Tryz.ntmps31
    go_wp2_with (refine wpList_load_obg (by rfl) _ _ rfl rfl _ o1 Tryz.underlying26 rfl (by kernel_rfl) ?_)
    refine (cH.out _ hal).mono ?_
    rintro e w1 ⟨⟨vh, rfl, hvh⟩, hb1⟩
    obtain ⟨A, c, rfl, -⟩ := (IntsAt.of_own hvh).form
    have x1 := o1.same hb1
    have hz1 := (o2.same hb1).lt
    have hB1 := hal.trans (hb1.mono hal.size)
    clear hvh
    go_wp2_with (refine wpList_load_obg (by rfl) _ _ rfl rfl _ x1 Tryz.underlying26 rfl (by kernel_rfl) ?_)
    refine (cX.out _ hB1 hz1).mono ?_
    rintro e w2 ⟨hR, hb2⟩
    have x2 := (o2.same hb1).same hb2
    have hB2 := hB1.trans (hb2.mono hB1.size)
    have hbs2 := hb2.size
    clear o1 o2 x1 hb1 hb2 hal hal1 cH cE cX hB1
    obtain ⟨uw, ug, up, ul, rfl, hPA, hst⟩ := hR
    obtain ⟨B1, d1, rfl, -⟩ := hPA.want.form
    obtain ⟨B3, d3, rfl, -⟩ := hPA.pend.form
    obtain ⟨us, hu1, hu2, hu3⟩ := hPA.got
    obtain ⟨B2, d2, rfl, -⟩ := hu2.form
    obtain ⟨B4, d4, rfl, -⟩ := hst.form
    clear hu1 hu2 hu3 us
    obtain ⟨Y, hY⟩ : ∃ Y : Saga, Y = (eachS s 4) := ⟨_, rfl⟩
    obtain ⟨L, hLL⟩ : ∃ L : List Step, L = (eachL 5 (holders s.got)) := ⟨_, rfl⟩
    rw [← hY] at hPA ⊢
    rw [← hLL] at hst ⊢
    have HY := Lib.hid hY
    have HLL := Lib.hid hLL
    clear hY hLL
    unfold sagaC
    go_wp2_with (refine wpList_store_ob (cells := sagaC Y (.slice B1 Y.want.length d1) (.slice B2 Y.got.length d2) (.slice B3 Y.pending.length d3)) rfl 26 (.tmp 2) (.tmp 14) rfl rfl rfl x2 rfl (by kernel_rfl) (by simp [sagaC, Value.oneCell']) ?_; intro W10 ho10 hg10)
    have hk10 := Kept.of_grown (Fr := fun i => i < w2.heap.size ∧ i ≠ w.heap.size + 1) hg10 fun i hi => ⟨hi.1, fun e => hi.2 (by cases e; rfl)⟩
    have hs10 := hg10.size
    have hst10 := (hst.kept hk10 fun i ha hb => ⟨by omega, by omega⟩).wide (show w.heap.size ≤ w1.heap.size by omega) hs10
    have hB10 := hB2.grown hg10 (by omega) (fun g e => by have e2 : w.heap.size + 1 = g := Option.some.inj e; omega)
    have hPA10 := (hPA.grow hg10 (.inr rfl)).more (Av' := Av) fun i _ hx => .inl hx
    obtain ⟨p0, p1, p2, p3, p4, p5, p6, p7, p8, p9⟩ := ob_ten ho10
    refine bodyPost_ret (v := .tuple #[.agg (sagaC Y (.slice B1 Y.want.length d1) (.slice B2 Y.got.length d2) (.slice B3 Y.pending.length d3)), .slice B4 L.length d4]) ?_ rfl ⟨by rw [← HY.out, ← HLL.out]; exact ⟨_, _, _, _, rfl, hPA10, hst10⟩, hB10⟩
    simp [results, Tryz.f31, go_sem, sagaC, p0, p1, p2, p3, p4, p5, p6, p7, p8, p9]
end Sa
end Go.Proofs.YthfpfomifebpbaaGreat

namespace Go.Proofs.YthfpfomifebpbaaGreat
open Go.RowKit Go.Maps
namespace Sa
open It

def refHead (s : Saga) : Bool :=
  decide (1 ≤ s.order) && decide (s.order ≤ 1099511627776) && decide (1 ≤ s.regions) && decide (s.regions ≤ 8) && decide (0 ≤ s.first) && decide (s.first < s.regions) && decide (0 < s.want.length) && decide ((s.got.length : Int) = s.regions) && decide (1 ≤ s.asked) && decide (s.asked ≤ s.regions) && mayAll s.want s.got
structure RHead (s : Saga) : Prop where
  o1 : 1 ≤ s.order
  o2 : s.order ≤ 1099511627776
  r1 : 1 ≤ s.regions
  r2 : s.regions ≤ 8
  f1 : 0 ≤ s.first
  f2 : s.first < s.regions
  want : 0 < s.want.length
  got : (s.got.length : Int) = s.regions
  a1 : 1 ≤ s.asked
  a2 : s.asked ≤ s.regions
  all : mayAll s.want s.got = true
theorem rhead_of {s : Saga} (h : refHead s = true) : RHead s := by
  unfold refHead at h
  simp only [Bool.and_eq_true, decide_eq_true_eq] at h
  obtain ⟨⟨⟨⟨⟨⟨⟨⟨⟨⟨h1, h2⟩, h3⟩, h4⟩, h5⟩, h6⟩, h7⟩, h8⟩, h9⟩, h10⟩, h11⟩ := h
  exact ⟨h1, h2, h3, h4, h5, h6, h7, h8, h9, h10, h11⟩
theorem mayAll_of {want : List It.Item} {L : List (List It.Item)} (hw : may want = true) (hL : ∀ l ∈ L, may l = true) (h8 : L.length ≤ 8) : mayAll want L = true := by
  unfold mayAll
  simp only [Bool.and_eq_true, decide_eq_true_eq]
  exact ⟨⟨hw, h8⟩, List.all_eq_true.2 hL⟩
theorem refHead_no {s : Saga} (h : refHead s = false) : mayS s = false := by
  rw [Bool.eq_false_iff] at h ⊢
  intro hm
  obtain ⟨hh, -⟩ := mayS_split hm
  apply h
  unfold refHead
  simp only [Bool.and_eq_true, decide_eq_true_eq]
  exact ⟨⟨⟨⟨⟨⟨⟨⟨⟨⟨hh.o1, hh.o2⟩, hh.r1⟩, hh.r2⟩, hh.f1⟩, hh.f2⟩, hh.want⟩, hh.got⟩, hh.a1⟩, hh.a2⟩, mayAll_of hh.may (fun l hl => mayGot_all hh.kept l hl) (by have := hh.got; have := hh.r2; omega)⟩
theorem RHead.M {s : Saga} (h : RHead s) : M s.want ∧ (∀ l ∈ s.got, M l) ∧ s.got.length ≤ 8 := by
  have := h.all
  unfold mayAll at this
  simp only [Bool.and_eq_true, decide_eq_true_eq] at this
  exact ⟨M_of this.1.1, fun l hl => M_of (List.all_eq_true.1 this.2 l hl), this.1.2⟩
/-- the numbers of all lists together -/
def sumG (L : List (List It.Item)) : Int := L.foldr (fun l n => sumN l + n) 0
theorem sumG_snoc (L : List (List It.Item)) (l : List It.Item) : sumG (L ++ [l]) = sumG L + sumN l := by
  induction L with
  | nil => simp [sumG]
  | cons x L ih =>
    show sumN x + sumG (L ++ [l]) = sumN x + sumG L + sumN l
    rw [ih]
    omega
theorem sumG_bounds : ∀ {L : List (List It.Item)}, (∀ l ∈ L, M l) → 0 ≤ sumG L ∧ sumG L ≤ L.length * 17592186044416
  | [], _ => ⟨Int.le_refl _, by simp [sumG]⟩
  | l :: L, h => by
    have h1 := (h l (by simp)).bounds
    have h2 := sumG_bounds (L := L) fun x hx => h x (List.mem_cons_of_mem _ hx)
    show 0 ≤ sumN l + sumG L ∧ sumN l + sumG L ≤ ((L.length + 1 : Nat) : Int) * 17592186044416
    omega
theorem sumG_take {L : List (List It.Item)} {k : Nat} (hk : k < L.length) : sumG (L.take (k + 1)) = sumG (L.take k) + sumN (L.getD k []) := by
  rw [List.take_succ_eq_append_getElem hk, sumG_snoc, getD_get hk]
theorem heldTo_sum {L : List (List It.Item)} (hL : ∀ l ∈ L, M l) (h8 : L.length ≤ 8) : ∀ k, k ≤ L.length → heldTo L k = sumG (L.take k)
  | 0, _ => rfl
  | k + 1, hk => by
    have ih := heldTo_sum hL h8 k (by omega)
    have hkl : k < L.length := by omega
    have hM := hL _ (List.getElem_mem hkl)
    rw [heldTo_succ L hkl, ih, sumG_take hkl, getD_get hkl, hM.sum]
    have h1 := hM.bounds
    have h2 := sumG_bounds (L := L.take k) fun x hx => hL x (List.mem_of_mem_take hx)
    have h3 : (L.take k).length ≤ 8 := by rw [List.length_take]; omega
    have h4 : (0 : Int) ≤ sumG (L.take k) + sumN L[k] ∧ sumG (L.take k) + sumN L[k] ≤ 200000000000000 := by omega
    exact It.wrap_small (by omega) (by omega)
theorem mayGot_sum {s : Saga} (h : RHead s) : mayGot s = decide (sumG s.got = sumN s.want - sumN (leftR s.want s.got)) := by
  obtain ⟨hw, hL, h8⟩ := h.M
  have hleft := (leftR_M hw hL).1
  unfold mayGot
  rw [List.all_eq_true.2 fun l hl => (may_iff l).2 (hL l hl), Bool.true_and, heldTo_sum hL h8 _ (Nat.le_refl _), List.take_length, missing_R hw hL h8, hleft.sum, hw.sum]
  have h1 := hleft.bounds
  have h2 := sumG_bounds hL
  have h3 := hw.bounds
  have hw64 : wrap64 (sumG s.got + sumN (leftR s.want s.got)) = sumG s.got + sumN (leftR s.want s.got) := It.wrap_small (by omega) (by omega)
  rw [hw64, Bool.eq_iff_iff, decide_eq_true_eq, decide_eq_true_eq]
  omega
theorem okHead_sum {s : Saga} (h : RHead s) : okHead s = decide (sumG s.got = sumN s.want - sumN (leftR s.want s.got)) := by
  obtain ⟨hw, hL, h8⟩ := h.M
  have hv : 0 < (visit s.first s.regions).length := by
    have := h.r1
    have := h.r2
    have := h.f1
    have := h.f2
    rw [visit_some (by omega)]
    simp
    omega
  unfold okHead
  rw [mayGot_sum h, decide_eq_true h.o1, decide_eq_true h.o2, decide_eq_true hv, decide_eq_true h.want, (may_iff s.want).2 hw, decide_eq_true h.got, decide_eq_true h.a1, decide_eq_true h.a2]
  simp
theorem sumN_pos {l : List It.Item} (h : M l) : 0 < sumN l ↔ l ≠ [] := by
  constructor
  · rintro h1 rfl
    exact absurd h1 (by decide)
  · intro h1
    match l, h, h1 with
    | x :: r, h, _ =>
      have h2 := (sumN_bounds r fun y hy => by
        have := h.ok y (List.mem_cons_of_mem _ hy)
        omega).1
      have h3 := h.ok x (by simp)
      show 0 < x.2 + sumN r
      omega
theorem none_left {s : Saga} (h : RHead s) : decide ((missing s.want s.got).length = 0) = decide (sumN (leftR s.want s.got) = 0) := by
  obtain ⟨hw, hL, h8⟩ := h.M
  have hM := (leftR_M hw hL).1
  rw [missing_R hw hL h8, Bool.eq_iff_iff, decide_eq_true_eq, decide_eq_true_eq]
  have h1 := sumN_pos hM
  have h2 := hM.bounds
  constructor
  · intro e
    rw [List.eq_nil_of_length_eq_zero e]
    rfl
  · intro e
    apply Decidable.byContradiction
    intro hn
    have := h1.2 fun e2 => hn (by rw [e2]; rfl)
    omega
end Sa
end Go.Proofs.YthfpfomifebpbaaGreat
