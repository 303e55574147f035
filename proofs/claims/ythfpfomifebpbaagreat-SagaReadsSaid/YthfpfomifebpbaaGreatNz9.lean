/-
  saga: plain: who may be asked.
  saga: plain: a saga that may be goes on to one that may be.
  saga: the document's May: where its head refuses.
  saga: the document's May: where its head holds.
  saga: the document's May.
  saga: the document's Begin.
  saga: the law's sameSteps.
  saga: the law SagaBegins.
-/
import Derived.Test.YthfpfomifebpbaaGreatNz8
import Derived.Test.YthfpfomifebpbaaGreatNz7

set_option linter.unusedVariables false
set_option linter.unusedSimpArgs false
namespace Go.Proofs.YthfpfomifebpbaaGreat
open Go.RowKit Go.Maps
namespace Sa
open It

theorem mod2 {x r : Int} (h0 : 0 ≤ x) (h1 : x < 2 * r) : x % r = if x < r then x else x - r := by
  split
  · exact Int.emod_eq_of_lt h0 (by omega)
  · rw [show x = (x - r) + r by omega, Int.add_emod_right]
    rw [show (x - r) + r - r = x - r by omega]
    exact Int.emod_eq_of_lt (by omega) (by omega)
theorem holders_up (L : List (List It.Item)) : (holders L).Pairwise (· < ·) := by
  unfold holders holdersTo
  rw [List.pairwise_map]
  refine List.Pairwise.imp ?_ ((List.pairwise_lt_range).filter _)
  intro a b h
  omega
theorem rises_of {l all : List Int} (h : l.Pairwise (· < ·)) : rises l all = decide (∀ x ∈ l, x ∈ all) := by
  unfold rises
  rw [Bool.eq_iff_iff, decide_eq_true_eq, decide_eq_true_eq]
  constructor
  · intro hr x hx
    obtain ⟨i, hi, rfl⟩ := List.getElem_of_mem hx
    have := (hr i hi).2
    rw [getD_get hi] at this
    exact inL_mem this
  · intro hm j hj
    refine ⟨fun hc => ?_, ?_⟩
    · have := (List.pairwise_iff_getElem.1 h) (j - 1) j (by omega) hj (by omega)
      rw [getD_get hj, getD_get (show j - 1 < l.length by omega)] at hc
      omega
    · rw [Life.inL_iff, decide_eq_true_eq, getD_get hj]
      exact hm _ (List.getElem_mem hj)
theorem ahead_iff {f r a x : Int} (hf : 0 ≤ f) (hfr : f < r) (hr8 : r ≤ 8) (ha : 0 ≤ a) (har : a ≤ r) (hx : 0 ≤ x) (hxr : x < r) : x ∈ (visit f r).take a.toNat ↔ (x - f + r) % r < a := by
  have hl : (visit f r).length = r.toNat := by rw [visit_some (by omega)]; simp
  constructor
  · intro h
    obtain ⟨i, hi, e⟩ := List.getElem_of_mem h
    rw [List.length_take] at hi
    rw [List.getElem_take] at e
    obtain ⟨e1, h1, -, -⟩ := visit_at (f := f) (r := r) (i := i) (by omega)
    rw [e1, mod2 (by omega) (by omega)] at e
    rw [mod2 (by omega) (by omega)]
    split at e <;> split <;> omega
  · intro h
    rw [mod2 (by omega) (by omega)] at h
    obtain ⟨d, hd⟩ : ∃ d : Nat, (d : Int) = (if x - f + r < r then x - f + r else x - f + r - r) := ⟨(if x - f + r < r then x - f + r else x - f + r - r).toNat, by split <;> omega⟩
    rw [← hd] at h
    have hdl : d < ((visit f r).take a.toNat).length := by rw [List.length_take]; omega
    have e2 : ((visit f r).take a.toNat)[d] = x := by
      rw [List.getElem_take]
      obtain ⟨e1, -, -, -⟩ := visit_at (f := f) (r := r) (i := d) (by omega)
      rw [e1, mod2 (by omega) (by omega)]
      split at hd <;> split <;> omega
    rw [← e2]
    exact List.getElem_mem hdl
def aheadS (s : Saga) : Prop := ∀ x ∈ holders s.got, (x - s.first + s.regions) % s.regions < s.asked - 1
theorem ahead_eq {s : Saga} (h : RHead s) : rises (holders s.got) (sorted ((visit s.first s.regions).take (s.asked - 1).toNat)) = true ↔ aheadS s := by
  rw [rises_of (holders_up s.got), decide_eq_true_eq]
  unfold aheadS
  have key : ∀ x ∈ holders s.got, (x ∈ sorted ((visit s.first s.regions).take (s.asked - 1).toNat) ↔ (x - s.first + s.regions) % s.regions < s.asked - 1) := fun x hx => by
    obtain ⟨i, rfl, hi, -⟩ := holders_mem hx
    have hg := h.got
    rw [sorted_mem]
    exact ahead_iff h.f1 h.f2 h.r2 (by have := h.a1; omega) (by have := h.a2; omega) (by omega) (by omega)
  exact ⟨fun h x hx => (key x hx).1 (h x hx), fun h x hx => (key x hx).2 (h x hx)⟩
theorem next_eq {s : Saga} (h : RHead s) : ((visit s.first s.regions).drop (s.asked - 1).toNat).take 1 = [(s.first + s.asked - 1) % s.regions] := by
  have hf := h.f1
  have hfr := h.f2
  have hr8 := h.r2
  have ha := h.a1
  have har := h.a2
  have hl : (visit s.first s.regions).length = s.regions.toNat := by rw [visit_some (by omega)]; simp
  have hva : (s.asked - 1).toNat < (visit s.first s.regions).length := by omega
  rw [List.drop_eq_getElem_cons hva, List.take_succ_cons, List.take_zero, (visit_at hva).1]
  congr 2
  omega
/-- the sum that is left, as the document reckons it -/
def leftN (s : Saga) : Int := sumN (leftR s.want s.got)
theorem body1 {s : Saga} (h : RHead s) : bodyAt s 1 = true ↔ aheadS s ∧ 0 < leftN s ∧ s.pending = [(s.first + s.asked - 1) % s.regions] := by
  unfold bodyAt
  rw [if_pos rfl, none_left h, next_eq h]
  simp only [Bool.and_eq_true, Bool.not_eq_true', decide_eq_false_iff_not, decide_eq_true_eq]
  rw [ahead_eq h]
  have := (leftR_M h.M.1 h.M.2.1).1.bounds
  unfold leftN
  constructor
  · rintro ⟨⟨h1, h2⟩, h3⟩
    exact ⟨h3, by omega, h2⟩
  · rintro ⟨h1, h2, h3⟩
    exact ⟨⟨by omega, h3⟩, h1⟩
theorem bodyH {s : Saga} (h : RHead s) {st : Int} (hs : st = 2 ∨ st = 8 ∨ st = 10) : bodyAt s st = (decide (leftN s = 0) && decide (s.pending.length = 0) && !s.cancelled) := by
  unfold bodyAt
  rw [if_neg (by omega), if_pos hs, none_left h]
  rfl
theorem bodyP {s : Saga} (h : RHead s) {st : Int} (hs : st = 7 ∨ st = 9) : bodyAt s st = (decide (leftN s = 0) && !decide (s.pending.length = 0) && !s.cancelled && rises s.pending (holders s.got)) := by
  unfold bodyAt
  rw [if_neg (by omega), if_neg (by omega), if_pos hs, none_left h]
  rfl
theorem bodyU {s : Saga} : bodyAt s 4 = (!decide ((holders s.got).length = 0) && decide (s.pending = holders s.got)) := by
  unfold bodyAt
  rw [if_neg (by omega), if_neg (by omega), if_neg (by omega), if_pos rfl]
  by_cases h : s.pending = holders s.got
  · rw [← h]
  · rw [decide_eq_false h]
    simp
theorem bodyW {s : Saga} {st : Int} (hs : st = 3 ∨ st = 5) : bodyAt s st = (decide ((holders s.got).length = 0) && decide (s.pending.length = 0) && !s.cancelled && (s.waits == decide (st = 3))) := by
  unfold bodyAt
  rw [if_neg (by omega), if_neg (by omega), if_neg (by omega), if_neg (by omega), if_pos hs]
theorem bodyG {s : Saga} : bodyAt s 6 = (decide ((holders s.got).length = 0) && decide (s.pending.length = 0) && s.cancelled) := by
  unfold bodyAt
  rw [if_neg (by omega), if_neg (by omega), if_neg (by omega), if_neg (by omega), if_neg (by omega), if_pos rfl]
theorem bodyN {s : Saga} {st : Int} (h : ¬ (st = 1 ∨ st = 2 ∨ st = 3 ∨ st = 4 ∨ st = 5 ∨ st = 6 ∨ st = 7 ∨ st = 8 ∨ st = 9 ∨ st = 10)) : bodyAt s st = false := by
  unfold bodyAt
  rw [if_neg (by omega), if_neg (by omega), if_neg (by omega), if_neg (by omega), if_neg (by omega), if_neg (by omega)]
end Sa
end Go.Proofs.YthfpfomifebpbaaGreat

namespace Go.Proofs.YthfpfomifebpbaaGreat
open Go.RowKit Go.Maps
namespace Sa
open It

-- numbers of all goods
theorem tot_flat (k : Bs) : ∀ L : List (List It.Item), tot k L.flatten = sumT k L
  | [] => rfl
  | l :: L => by rw [List.flatten_cons, tot_append, tot_flat k L]; rfl
theorem sumN_append (a b : List It.Item) : sumN (a ++ b) = sumN a + sumN b := by
  induction a with
  | nil => simp [sumN]
  | cons x a ih => show x.2 + sumN (a ++ b) = x.2 + sumN a + sumN b; rw [ih]; omega
theorem sumN_flat : ∀ L : List (List It.Item), sumN L.flatten = sumG L
  | [] => rfl
  | l :: L => by rw [List.flatten_cons, sumN_append, sumN_flat L]; rfl
theorem sumK_le {a b c : List It.Item} (h : ∀ k, tot k c ≤ tot k a + tot k b) : ∀ ks : List Bs, sumK c ks ≤ sumK a ks + sumK b ks
  | [] => Int.le_refl _
  | k :: r => by
    have h1 := h k
    have h2 := sumK_le h r
    simp only [sumK]
    omega
theorem sumK_lt {a b c : List It.Item} (h : ∀ k, tot k c ≤ tot k a + tot k b) {k0 : Bs} (h0 : tot k0 c < tot k0 a + tot k0 b) : ∀ ks : List Bs, k0 ∈ ks → sumK c ks < sumK a ks + sumK b ks
  | [], hk => by simp at hk
  | k :: r, hk => by
    have h1 := h k
    simp only [sumK]
    rcases List.mem_cons.1 hk with rfl | hk
    · have h2 := sumK_le h r
      omega
    · have h2 := sumK_lt h h0 r hk
      omega
theorem sumN_lt {a b c : List It.Item} (h : ∀ k, tot k c ≤ tot k a + tot k b) {k0 : Bs} (h0 : tot k0 c < tot k0 a + tot k0 b) : sumN c < sumN a + sumN b := by
  have hn : (ksOf ((a ++ b ++ c).map key)).Nodup := by
    rw [List.nodup_iff_pairwise_ne]
    refine (ksOf_sorted _).imp fun {x y} h e => ?_
    rw [e] at h
    exact bs_irr _ h
  have hmem : ∀ x, x ∈ a ++ b ++ c → key x ∈ ksOf ((a ++ b ++ c).map key) := fun x hx => (ksOf_mem _ _).2 (List.mem_map_of_mem hx)
  have ha := sumK_eq hn a fun x hx => hmem x (by simp [hx])
  have hb := sumK_eq hn b fun x hx => hmem x (by simp [hx])
  have hc := sumK_eq hn c fun x hx => hmem x (by simp [hx])
  have hk : k0 ∈ ksOf ((a ++ b ++ c).map key) := by
    rw [ksOf_mem]
    apply Decidable.byContradiction
    intro hno
    rw [List.map_append, List.map_append, List.mem_append, List.mem_append] at hno
    have e1 := tot_out (k := k0) (l := a) fun h => hno (.inl (.inl h))
    have e2 := tot_out (k := k0) (l := b) fun h => hno (.inl (.inr h))
    have e3 := tot_out (k := k0) (l := c) fun h => hno (.inr h)
    omega
  have := sumK_lt h h0 _ hk
  omega
/-- what regions hold is wanted, of each good -/
def Wanted (want : List It.Item) (L : List (List It.Item)) : Prop := ∀ k, sumT k L ≤ tot k want
theorem wanted_iff {want : List It.Item} {L : List (List It.Item)} (hw : M want) (hL : ∀ l ∈ L, M l) : sumG L = sumN want - sumN (leftR want L) ↔ Wanted want L := by
  obtain ⟨h1, h2⟩ := leftR_M hw hL
  constructor
  · intro hs k
    apply Decidable.byContradiction
    intro hk
    have := sumN_lt (a := leftR want L) (b := L.flatten) (c := want) (fun k => by rw [tot_flat, h2]; omega) (k0 := k) (by rw [tot_flat, h2]; have := hw.nonneg k; omega)
    rw [sumN_flat] at this
    omega
  · intro hk
    have := sumN_add (a := leftR want L) (b := L.flatten) (c := want) (fun k => by rw [tot_flat, h2]; have := hk k; omega)
    rw [sumN_flat] at this
    omega
theorem mayS_iff {s : Saga} : mayS s = true ↔ RHead s ∧ Wanted s.want s.got ∧ bodyAt s s.state = true := by
  constructor
  · intro h
    have hr : RHead s := by
      cases hh : refHead s with
      | true => exact rhead_of hh
      | false => rw [refHead_no hh] at h; cases h
    obtain ⟨-, hb⟩ := mayS_split h
    refine ⟨hr, ?_, hb⟩
    unfold mayS at h
    rw [Bool.and_eq_true, okHead_sum hr, decide_eq_true_eq] at h
    exact (wanted_iff hr.M.1 hr.M.2.1).1 h.1
  · rintro ⟨hr, hw, hb⟩
    unfold mayS
    rw [Bool.and_eq_true, okHead_sum hr, decide_eq_true_eq]
    exact ⟨(wanted_iff hr.M.1 hr.M.2.1).2 hw, hb⟩
/-- a head does not hang on the state, and who is pending -/
theorem RHead.of {s t : Saga} (h : RHead s) (h1 : t.order = s.order) (h2 : t.first = s.first) (h3 : t.regions = s.regions) (h4 : t.want = s.want) (h5 : (t.got.length : Int) = s.regions) (h6 : ∀ l ∈ t.got, may l = true) (h7 : 1 ≤ t.asked ∧ t.asked ≤ s.regions) : RHead t := by
  have hm := h.all
  unfold mayAll at hm
  simp only [Bool.and_eq_true, decide_eq_true_eq] at hm
  have := h.r2
  exact ⟨h1 ▸ h.o1, h1 ▸ h.o2, h3 ▸ h.r1, h3 ▸ h.r2, h2 ▸ h.f1, by rw [h2, h3]; exact h.f2, h4 ▸ h.want, by rw [h3]; exact h5, h7.1, by rw [h3]; exact h7.2, mayAll_of (h4 ▸ hm.1.1) h6 (by omega)⟩
theorem RHead.may {s : Saga} (h : RHead s) : ∀ l ∈ s.got, may l = true := fun l hl => (may_iff l).2 (h.M.2.1 l hl)

-- who is pending
theorem idx_none {r : Int} {l : List Int} : Life.idxOf r l ≠ -1 ↔ r ∈ l := by
  have h := Life.inL_iff r l
  unfold Life.inL at h
  rcases idx_cases r l with e | ⟨i, hi, e, hg⟩
  · rw [e] at h ⊢
    have : ¬ r ∈ l := fun hm => by rw [decide_eq_true hm] at h; cases h
    simp [this]
  · rw [e] at h ⊢
    have : r ∈ l := by rw [← hg, getD_get hi]; exact List.getElem_mem hi
    simp [this]
    try omega
theorem take_off {r : Int} {l : List Int} (hl : l.Pairwise (· < ·)) (hr : r ∈ l) : takeOff r l = l.filter fun x => decide (x ≠ r) := by
  rcases idx_cases r l with e | ⟨i, hi, e, hg⟩
  · exact absurd e (idx_none.2 hr)
  unfold takeOff delAt
  rw [e, Int.toNat_natCast]
  rw [getD_get hi] at hg
  have hp := List.pairwise_iff_getElem.1 hl
  conv => rhs; rw [← List.take_append_drop i l, List.drop_eq_getElem_cons hi, List.filter_append, List.filter_cons]
  have e1 : (l.take i).filter (fun x => decide (x ≠ r)) = l.take i := by
    rw [List.filter_eq_self]
    intro x hx
    obtain ⟨j, hj, rfl⟩ := List.getElem_of_mem hx
    rw [List.length_take] at hj
    rw [List.getElem_take]
    have := hp j i (by omega) hi (by omega)
    simp only [ne_eq, decide_not, Bool.not_eq_true', decide_eq_false_iff_not]
    omega
  have e2 : (l.drop (i + 1)).filter (fun x => decide (x ≠ r)) = l.drop (i + 1) := by
    rw [List.filter_eq_self]
    intro x hx
    obtain ⟨j, hj, rfl⟩ := List.getElem_of_mem hx
    rw [List.length_drop] at hj
    rw [List.getElem_drop]
    have := hp i (i + 1 + j) hi (by omega) (by omega)
    simp only [ne_eq, decide_not, Bool.not_eq_true', decide_eq_false_iff_not]
    omega
  rw [e1, e2, if_neg (by simp [hg])]
theorem holders_iff {L : List (List It.Item)} {x : Int} : x ∈ holders L ↔ 0 ≤ x ∧ x < L.length ∧ L.getD x.toNat [] ≠ [] := by
  constructor
  · intro h
    obtain ⟨i, rfl, hi, hl⟩ := holders_mem h
    refine ⟨by omega, by omega, ?_⟩
    rw [Int.toNat_natCast]
    exact List.ne_nil_of_length_pos hl
  · rintro ⟨h0, h1, h2⟩
    unfold holders holdersTo
    refine List.mem_map.2 ⟨x.toNat, List.mem_filter.2 ⟨List.mem_range.2 (by omega), ?_⟩, by omega⟩
    rw [decide_eq_true_eq]
    exact List.length_pos_iff.2 h2
theorem getD_set {L : List (List It.Item)} {r i : Nat} {l : List It.Item} (hr : r < L.length) : (L.set r l).getD i [] = if i = r then l else L.getD i [] := by
  unfold List.getD
  rw [List.getElem?_set]
  by_cases h : r = i
  · subst h
    rw [if_pos rfl, if_pos rfl, if_pos hr]
    rfl
  · rw [if_neg h, if_neg fun e => h e.symm]
theorem holders_set {L : List (List It.Item)} {r : Int} {l : List It.Item} (hr : 0 ≤ r ∧ r < L.length) {x : Int} : x ∈ holders (L.set r.toNat l) ↔ (x = r ∧ l ≠ []) ∨ (x ≠ r ∧ x ∈ holders L) := by
  rw [holders_iff, holders_iff, getD_set (by omega), List.length_set]
  by_cases h : x = r
  · subst h
    rw [if_pos rfl]
    simp [hr]
  · by_cases h0 : 0 ≤ x
    · rw [if_neg (by omega)]
      simp [h]
    · simp [h, h0]
theorem up_uniq {a b : List Int} (ha : a.Pairwise (· < ·)) (hb : b.Pairwise (· < ·)) (h : ∀ x, x ∈ a ↔ x ∈ b) : a = b :=
  uniq (r := fun a b : Int => a < b) (fun _ => Int.lt_irrefl _) (fun _ _ => Int.lt_asymm) ha hb h
theorem holders_free {L : List (List It.Item)} {r : Int} (hr : 0 ≤ r ∧ r < L.length) : holders (L.set r.toNat []) = (holders L).filter fun x => decide (x ≠ r) := by
  refine up_uniq (holders_up _) ((holders_up L).filter _) fun x => ?_
  rw [holders_set hr, List.mem_filter]
  simp [and_comm]
theorem sumT_none {k : Bs} {L : List (List It.Item)} (h : holders L = []) : sumT k L = 0 := by
  have hall : ∀ l ∈ L, l = [] := fun l hl => by
    obtain ⟨i, hi, rfl⟩ := List.getElem_of_mem hl
    apply Decidable.byContradiction
    intro hn
    have : ((i : Nat) : Int) ∈ holders L := holders_iff.2 ⟨by omega, by omega, by rw [Int.toNat_natCast, getD_get hi]; exact hn⟩
    rw [h] at this
    simp at this
  clear h
  induction L with
  | nil => rfl
  | cons l L ih =>
    rw [sumT_cons, hall l (by simp), ih fun x hx => hall x (List.mem_cons_of_mem _ hx)]
    rfl
theorem wanted_none {s : Saga} (h : RHead s) (hl : leftN s = 0) : holders s.got ≠ [] := by
  intro e
  obtain ⟨hw, hL, -⟩ := h.M
  obtain ⟨h1, h2⟩ := leftR_M hw hL
  have hwn : s.want ≠ [] := List.ne_nil_of_length_pos h.want
  have h3 := (sumN_pos hw).2 hwn
  have h4 : sumN (leftR s.want s.got) = sumN s.want := by
    rw [M.ext h1 hw fun k => by rw [h2, sumT_none e]; have := hw.nonneg k; omega]
  unfold leftN at hl
  omega
theorem may_of {l : List It.Item} (h : M l) : may l = true := (may_iff l).2 h

-- what ends, and what undoes
theorem may_end {s : Saga} (h : RHead s) (hw : Wanted s.want s.got) (hh : holders s.got = []) : mayS (endS s) = true := by
  rw [mayS_iff]
  refine ⟨h.of rfl rfl rfl rfl h.got h.may ⟨h.a1, h.a2⟩, hw, ?_⟩
  have hl : (holders (endS s).got).length = 0 := by show (holders s.got).length = 0; rw [hh]; rfl
  show bodyAt (endS s) (endSt s) = true
  unfold endSt
  cases hc : s.cancelled with
  | true =>
    rw [if_pos rfl, bodyG]
    simp only [Bool.and_eq_true, decide_eq_true_eq]
    exact ⟨⟨hl, rfl⟩, hc⟩
  | false =>
    rw [if_neg (by simp)]
    have hc' : (endS s).cancelled = false := hc
    cases hq : s.waits with
    | true =>
      have hq' : (endS s).waits = true := hq
      rw [if_pos rfl, bodyW (.inl rfl), hc', hq', decide_eq_true hl]
      rfl
    | false =>
      have hq' : (endS s).waits = false := hq
      rw [if_neg (by simp), bodyW (.inr rfl), hc', hq', decide_eq_true hl]
      rfl
theorem may_undo {s : Saga} (h : RHead s) (hw : Wanted s.want s.got) : mayS (undoS s).1 = true := by
  unfold undoS
  split
  · rename_i e
    exact may_end h hw (List.eq_nil_of_length_eq_zero e)
  · rename_i e
    rw [mayS_iff]
    refine ⟨h.of rfl rfl rfl rfl h.got h.may ⟨h.a1, h.a2⟩, hw, ?_⟩
    show bodyAt (eachS s 4) 4 = true
    rw [bodyU]
    simp only [Bool.and_eq_true, Bool.not_eq_true', decide_eq_false_iff_not, decide_eq_true_eq]
    exact ⟨e, rfl⟩

theorem covers_left {a b : List It.Item} (ha : M a) (h : covers a b = true) : M b ∧ ∀ k, tot k b ≤ tot k a := by
  have h' := h
  unfold covers at h'
  simp only [Bool.and_eq_true] at h'
  have hb := M_of h'.1.2
  exact ⟨hb, (covers_iff ha hb).1 h⟩
/-- what a region's answer makes of what is held -/
theorem took_head {s : Saga} {l : List It.Item} {r : Int} (h : RHead s) (hw : Wanted s.want s.got) (hr : 0 ≤ r ∧ r < s.got.length) (h0 : s.got.getD r.toNat [] = []) (hc : covers (leftR s.want s.got) l = true) (t : Saga) (a : Int)
    (ht : t = { s with got := s.got.set r.toNat l, asked := a, pending := t.pending, state := t.state }) (ha : 1 ≤ a ∧ a ≤ s.regions) : RHead t ∧ Wanted t.want t.got ∧ leftR t.want t.got = It.eachL restF (leftR s.want s.got) l := by
  obtain ⟨hMw, hMg, h8⟩ := h.M
  obtain ⟨h1, h2⟩ := leftR_M hMw hMg
  obtain ⟨hMl, hle⟩ := covers_left h1 hc
  have hg : t.got = s.got.set r.toNat l := by rw [ht]
  have hwt : t.want = s.want := by rw [ht]
  refine ⟨h.of (by rw [ht]) (by rw [ht]) (by rw [ht]) hwt (by rw [hg, List.length_set]; exact h.got) (fun x hx => ?_) (by rw [ht]; exact ha), fun k => ?_, ?_⟩
  · rw [hg] at hx
    rcases List.mem_or_eq_of_mem_set hx with hx | rfl
    · exact h.may x hx
    · exact may_of hMl
  · rw [hg, hwt, sumT_set (by omega), h0]
    have h3 := hle k
    rw [h2] at h3
    have h4 := hw k
    have e : tot k ([] : List It.Item) = 0 := rfl
    omega
  · rw [hg, hwt]
    exact (left_set hMw hMg hMl (by omega) h0).symm
theorem may_held {t : Saga} (h : RHead t) (hw : Wanted t.want t.got) (hs : t.state = 2 ∨ t.state = 8 ∨ t.state = 10) (hl : (leftR t.want t.got).length = 0) (hp : t.pending.length = 0) (hc : t.cancelled = false) : mayS t = true := by
  rw [mayS_iff]
  refine ⟨h, hw, ?_⟩
  rw [bodyH h hs]
  have hl' : leftN t = 0 := by unfold leftN; rw [List.eq_nil_of_length_eq_zero hl]; rfl
  simp only [Bool.and_eq_true, Bool.not_eq_true', decide_eq_true_eq]
  exact ⟨⟨hl', hp⟩, hc⟩
theorem visit_get {f r : Int} {i : Nat} (h : i < (visit f r).length) : (visit f r).getD i 0 = (f + (i : Int)) % r := by
  rw [getD_get h]
  exact (visit_at h).1
theorem took_may {s : Saga} {e : Ev} {r : Saga × List Step} (hm : mayS s = true) (h : tookS s e = .ok r) : mayS r.1 = true := by
  obtain ⟨hh, hw, hb⟩ := mayS_iff.1 hm
  obtain ⟨hMw, hMg, h8⟩ := hh.M
  unfold tookS tookU at h
  split at h
  rotate_left
  · cases h
  rename_i hst
  obtain ⟨h1, hix⟩ := hst
  have hmem := idx_none.1 hix
  rw [missing_R hMw hMg h8] at h
  split at h
  rotate_left
  · cases h
  rename_i hc
  cases h
  have hr := (pend_in hm).1 _ hmem
  have h0 := asked_none hm h1 hmem
  rw [h1] at hb
  obtain ⟨hah, hleft, hp⟩ := (body1 hh).1 hb
  have hone : takeOff e.region s.pending = [] := by
    rw [hp] at hmem ⊢
    have he := List.mem_singleton.1 hmem
    rw [← he]
    unfold takeOff delAt Life.idxOf
    simp
  have hreg : e.region = (s.first + s.asked - 1) % s.regions := by
    rw [hp] at hmem
    exact List.mem_singleton.1 hmem
  rw [hone]
  have hb0 : both restF (leftR s.want s.got) e.items = It.eachL restF (leftR s.want s.got) e.items := both_of (leftR_M hMw hMg).1 (covers_left (leftR_M hMw hMg).1 hc).1
  rw [hb0]
  have a1 := hh.a1
  have a2 := hh.a2
  have ht := took_head hh hw ⟨hr.1, hr.2⟩ h0 hc
  unfold tookT
  split
  · obtain ⟨t1, t2, -⟩ := ht { s with pending := [], got := s.got.set e.region.toNat e.items } s.asked rfl ⟨a1, a2⟩
    exact may_undo t1 t2
  rename_i hcn
  have hcn' : s.cancelled = false := by simpa using hcn
  split
  · rename_i hl
    obtain ⟨t1, t2, t3⟩ := ht { s with pending := [], got := s.got.set e.region.toNat e.items, state := 2 } s.asked rfl ⟨a1, a2⟩
    exact may_held t1 t2 (.inl rfl) (by rw [t3]; exact hl) rfl hcn'
  split
  · rename_i hl hlt
    have hlt' : s.asked < s.regions := hlt
    have hv : ((visit s.first s.regions).length : Int) = s.regions := (mayS_split hm).1.visit
    have hnx : (visit s.first s.regions).getD s.asked.toNat 0 = (s.first + s.asked) % s.regions := by
      rw [visit_get (by omega)]
      congr 1
      omega
    dsimp only
    rw [hnx]
    obtain ⟨t1, t2, t3⟩ := ht { s with pending := [(s.first + s.asked) % s.regions], got := s.got.set e.region.toNat e.items, asked := s.asked + 1 } (s.asked + 1) rfl ⟨by omega, by omega⟩
    rw [mayS_iff]
    refine ⟨t1, t2, (congrArg (bodyAt _) h1).trans ((body1 t1).2 ⟨fun x hx => ?_, ?_, ?_⟩)⟩
    · rcases (holders_set ⟨hr.1, hr.2⟩).1 hx with ⟨rfl, -⟩ | ⟨-, hx⟩
      · show (e.region - s.first + s.regions) % s.regions < s.asked + 1 - 1
        have f1 := hh.f1
        have f2 := hh.f2
        rw [hreg, mod2 (x := s.first + s.asked - 1) (by omega) (by omega)]
        split
        · rw [mod2 (by omega) (by omega)]
          split <;> omega
        · rw [mod2 (by omega) (by omega)]
          split <;> omega
      · have := hah x hx
        show (x - s.first + s.regions) % s.regions < s.asked + 1 - 1
        omega
    · unfold leftN
      rw [t3]
      refine (sumN_pos (rest_M (leftR_M hMw hMg).1 (covers_left (leftR_M hMw hMg).1 hc).1)).2 ?_
      exact List.ne_nil_of_length_pos (by omega)
    · show [(s.first + s.asked) % s.regions] = [(s.first + (s.asked + 1) - 1) % s.regions]
      congr 2
      omega
  · obtain ⟨t1, t2, -⟩ := ht { s with pending := [], got := s.got.set e.region.toNat e.items } s.asked rfl ⟨a1, a2⟩
    exact may_undo t1 t2
theorem freed_may {s : Saga} {e : Ev} {r : Saga × List Step} (hm : mayS s = true) (h : freedS s e = .ok r) : mayS r.1 = true := by
  obtain ⟨hh, hw, hb⟩ := mayS_iff.1 hm
  obtain ⟨hMw, hMg, h8⟩ := hh.M
  unfold freedS at h
  split at h
  rotate_left
  · cases h
  rename_i hst
  obtain ⟨h1, hix⟩ := hst
  have hmem := idx_none.1 hix
  cases h
  have hr := (pend_in hm).1 _ hmem
  rw [h1, bodyU] at hb
  simp only [Bool.and_eq_true, Bool.not_eq_true', decide_eq_false_iff_not, decide_eq_true_eq] at hb
  have hp := hb.2
  rw [hp] at hmem
  have hoff : takeOff e.region s.pending = holders (s.got.set e.region.toNat []) := by
    rw [hp, take_off (holders_up _) hmem, holders_free ⟨hr.1, hr.2⟩]
  rw [hoff]
  obtain ⟨t, ht⟩ : ∃ t : Saga, t = { s with pending := holders (s.got.set e.region.toNat []), got := s.got.set e.region.toNat [] } := ⟨_, rfl⟩
  rw [← ht]
  have hg : t.got = s.got.set e.region.toNat [] := by rw [ht]
  have hwt : t.want = s.want := by rw [ht]
  have t1 : RHead t := hh.of (by rw [ht]) (by rw [ht]) (by rw [ht]) hwt (by rw [hg, List.length_set]; exact hh.got) (fun x hx => by
    rw [hg] at hx
    rcases List.mem_or_eq_of_mem_set hx with hx | rfl
    · exact hh.may x hx
    · exact may_of M_nil) ⟨by rw [ht]; exact hh.a1, by rw [ht]; exact hh.a2⟩
  have t2 : Wanted t.want t.got := fun k => by
    rw [hg, hwt, sumT_set (by omega)]
    have h4 := hw k
    have e0 : tot k ([] : List It.Item) = 0 := rfl
    have e1 : 0 ≤ tot k (s.got.getD e.region.toNat []) := by
      rw [getD_get (by omega)]
      exact (hMg _ (List.getElem_mem (by omega))).nonneg k
    omega
  have hpt : t.pending = holders t.got := by rw [ht]
  unfold freedT
  split
  · rename_i hl
    rw [hpt] at hl
    exact may_end t1 t2 (List.eq_nil_of_length_eq_zero hl)
  · rename_i hl
    rw [mayS_iff]
    refine ⟨t1, t2, ?_⟩
    have h4 : t.state = 4 := by rw [ht]; exact h1
    show bodyAt t t.state = true
    rw [h4, bodyU]
    simp only [Bool.and_eq_true, Bool.not_eq_true', decide_eq_false_iff_not, decide_eq_true_eq]
    exact ⟨by rw [← hpt]; exact hl, hpt⟩
theorem rises_up' {l all : List Int} (h : rises l all = true) : l.Pairwise (· < ·) ∧ ∀ x ∈ l, x ∈ all := by
  refine ⟨?_, fun x hx => rises_mem h hx⟩
  have h' := of_decide_eq_true h
  have step : ∀ i j, i < j → j < l.length → l.getD i 0 < l.getD j 0 := fun i j hij => by
    induction j with
    | zero => omega
    | succ j ih =>
      intro hj
      have h1 := (h' (j + 1) hj).1
      have h2 : l.getD j 0 < l.getD (j + 1) 0 := by
        rw [Nat.add_sub_cancel] at h1
        omega
      rcases Nat.lt_or_ge i j with h3 | h3
      · have := ih h3 (by omega)
        omega
      · obtain rfl : i = j := by omega
        exact h2
  rw [List.pairwise_iff_getElem]
  intro i j hi hj hij
  have := step i j hij hj
  rwa [getD_get hi, getD_get hj] at this
theorem did_may {s : Saga} {e : Ev} {r : Saga × List Step} {a b : Int} (hab : (a = 7 ∧ b = 8) ∨ (a = 9 ∧ b = 10)) (hm : mayS s = true) (h : didS s e a b = .ok r) : mayS r.1 = true := by
  obtain ⟨hh, hw, hb⟩ := mayS_iff.1 hm
  unfold didS didU at h
  split at h
  rotate_left
  · cases h
  rename_i hst
  obtain ⟨h1, hix⟩ := hst
  have hmem := idx_none.1 hix
  split at h
  rotate_left
  · cases h
  cases h
  have ha : a = 7 ∨ a = 9 := by omega
  rw [h1, bodyP hh ha] at hb
  simp only [Bool.and_eq_true, Bool.not_eq_true', decide_eq_false_iff_not, decide_eq_true_eq] at hb
  obtain ⟨⟨⟨hl, -⟩, hcn⟩, hris⟩ := hb
  obtain ⟨hup, hin⟩ := rises_up' hris
  have hoff := take_off hup hmem
  rw [hoff]
  have hleft : (leftR s.want s.got).length = 0 := by
    have hM := (leftR_M hh.M.1 hh.M.2.1).1
    apply Decidable.byContradiction
    intro hn
    have := (sumN_pos hM).2 fun e => hn (by rw [e]; rfl)
    unfold leftN at hl
    omega
  unfold didT
  split
  · rename_i hp
    exact may_held (hh.of rfl rfl rfl rfl hh.got hh.may ⟨hh.a1, hh.a2⟩) hw (by show b = 2 ∨ b = 8 ∨ b = 10; omega) hleft hp hcn
  · rename_i hp
    rw [mayS_iff]
    have t1 : RHead { s with pending := s.pending.filter fun x => decide (x ≠ e.region) } := hh.of rfl rfl rfl rfl hh.got hh.may ⟨hh.a1, hh.a2⟩
    refine ⟨t1, hw, (congrArg (bodyAt _) h1).trans ((bodyP t1 ha).trans ?_)⟩
    simp only [Bool.and_eq_true, Bool.not_eq_true', decide_eq_false_iff_not, decide_eq_true_eq]
    refine ⟨⟨⟨hl, hp⟩, hcn⟩, ?_⟩
    rw [rises_of (hup.filter _), decide_eq_true_eq]
    exact fun x hx => hin x (List.mem_filter.1 hx).1
theorem all_may {s : Saga} {r : Saga × List Step} {a b k : Int} (hab : (a = 2 ∧ b = 7) ∨ (a = 8 ∧ b = 9)) (hm : mayS s = true) (h : allS s a b k = .ok r) : mayS r.1 = true := by
  obtain ⟨hh, hw, hb⟩ := mayS_iff.1 hm
  unfold allS at h
  split at h
  rotate_left
  · cases h
  rename_i hst
  cases h
  rw [hst, bodyH hh (by omega)] at hb
  simp only [Bool.and_eq_true, Bool.not_eq_true', decide_eq_true_eq] at hb
  obtain ⟨⟨hl, -⟩, hcn⟩ := hb
  have t1 : RHead (eachS s b) := hh.of rfl rfl rfl rfl hh.got hh.may ⟨hh.a1, hh.a2⟩
  rw [mayS_iff]
  refine ⟨t1, hw, ?_⟩
  show bodyAt _ b = true
  rw [bodyP t1 (by omega)]
  simp only [Bool.and_eq_true, Bool.not_eq_true', decide_eq_false_iff_not, decide_eq_true_eq]
  refine ⟨⟨⟨hl, fun e => wanted_none hh hl (List.eq_nil_of_length_eq_zero e)⟩, hcn⟩, ?_⟩
  show rises (holders s.got) (holders s.got) = true
  rw [rises_of (holders_up _), decide_eq_true_eq]
  exact fun x hx => hx
theorem cancel_may {s : Saga} {r : Saga × List Step} (hm : mayS s = true) (h : cancelS s = .ok r) : mayS r.1 = true := by
  obtain ⟨hh, hw, hb⟩ := mayS_iff.1 hm
  have t1 : RHead { s with cancelled := true } := hh.of rfl rfl rfl rfl hh.got hh.may ⟨hh.a1, hh.a2⟩
  unfold cancelS cancelAt at h
  split at h
  · rename_i h14
    split at h
    · cases h
    · cases h
      rw [mayS_iff]
      refine ⟨t1, hw, ?_⟩
      rcases h14 with e | e
      · exact (congrArg (bodyAt _) e).trans ((body1 t1).2 ((body1 hh).1 ((congrArg (bodyAt s) e).symm.trans hb)))
      · exact (congrArg (bodyAt _) e).trans (bodyU.trans (bodyU.symm.trans ((congrArg (bodyAt s) e).symm.trans hb)))
  split at h
  · rename_i e
    cases h
    rw [e, bodyW (.inl rfl)] at hb
    simp only [Bool.and_eq_true, Bool.not_eq_true', decide_eq_true_eq] at hb
    exact may_end t1 hw (List.eq_nil_of_length_eq_zero hb.1.1.1)
  split at h
  · cases h
    exact may_undo t1 hw
  · cases h
theorem begin_may {order first regions : Int} {want : List It.Item} {waits : Bool} {r : Saga × List Step} (h : beginS order first regions want waits = .ok r) : mayS r.1 = true := by
  unfold beginS beginU at h
  split at h
  · cases h
  · split at h
    · rename_i hm
      cases h
      exact hm
    · cases h
theorem next_may {s : Saga} {e : Ev} {r : Saga × List Step} (h : nextS s e = .ok r) : mayS s = true ∧ mayS r.1 = true := by
  unfold nextS nextU at h
  split at h
  rotate_left
  · cases h
  rename_i hm
  refine ⟨hm, ?_⟩
  unfold happenS at h
  split at h
  · exact took_may hm h
  split at h
  · exact freed_may hm h
  split at h
  · exact cancel_may hm h
  split at h
  · unfold retryS at h
    split at h
    · exact begin_may h
    · cases h
  split at h
  · exact all_may (.inl ⟨rfl, rfl⟩) hm h
  split at h
  · exact did_may (.inl ⟨rfl, rfl⟩) hm h
  split at h
  · exact all_may (.inr ⟨rfl, rfl⟩) hm h
  split at h
  · exact did_may (.inr ⟨rfl, rfl⟩) hm h
  · cases h
end Sa
end Go.Proofs.YthfpfomifebpbaaGreat

namespace Go.Proofs.YthfpfomifebpbaaGreat
open Go.RowKit Go.Maps
namespace Sa
open It
set_option linter.unusedSimpArgs false

theorem refHead_or {s : Saga} (h : ¬ (¬ s.order < 1 ∧ ¬ s.order > 1099511627776 ∧ ¬ s.regions < 1 ∧ ¬ s.regions > 8 ∧ ¬ s.first < 0 ∧ ¬ s.first ≥ s.regions ∧ ¬ (s.want.length : Int) = 0 ∧ (s.got.length : Int) = s.regions ∧ ¬ s.asked < 1 ∧ ¬ s.asked > s.regions ∧ mayAll s.want s.got = true)) : mayS s = false := by
  refine refHead_no ?_
  rw [Bool.eq_false_iff]
  intro e
  have r := rhead_of e
  exact h ⟨by have := r.o1; omega, by have := r.o2; omega, by have := r.r1; omega, by have := r.r2; omega, by have := r.f1; omega, by have := r.f2; omega, by have := r.want; omega, r.got, by have := r.a1; omega, by have := r.a2; omega, r.all⟩

set_option maxRecDepth 100000 in
set_option maxHeartbeats 8000000 in
theorem refmay15_no (s : Saga) (vw vg vp : Value) (w : World) (h : Parts w 0 w.heap.size s vw vg vp) (hF : Fit s) (hno : refHead s = false) :
    Calls Tryz.prog 14 #[.agg (sagaC s vw vg vp)] w fun e w' => e = .returned (.bool false) ∧ Below w.heap.size w w' := by
  have cM := Lib.hid (fun W (hb : Below w.heap.size w W) => refmay14_calls s.want s.got vw vg W (h.later hb).want hF.want (h.later hb).got hF.got)
  obtain ⟨A, c, rfl, -⟩ := h.want.form
  obtain ⟨A', c', rfl, -⟩ := h.got.form
  obtain ⟨A2, c2, rfl, -⟩ := h.pend.form
  clear h
  unfold sagaC
  have hB := Lib.hid ((Below.refl _ w).alloc (Nat.le_refl _) (.cells #[.int .i64 s.order, .int .i64 s.first, .int .i64 s.regions, .slice A s.want.length c, .bool s.waits, .int .i64 s.state, .int .i64 s.asked, .slice A' s.got.length c', .slice A2 s.pending.length c2, .bool s.cancelled] 26))
  have HNO := Lib.hid hno
  clear hno
  by_cases h0 : s.order < 1
  · have d0 : decide (s.order < 1) = true := decide_eq_true h0
    clear h0
    go_enter Tryz.func14, Tryz.ntmps14
    go_wp2
    go_ret
    exact ⟨rfl, hB.out⟩
  have d0 : decide (s.order < 1) = false := decide_eq_false h0
  have H0 := Lib.hid h0
  clear h0
  by_cases h1 : s.order > 1099511627776
  · have d1 : decide (s.order > 1099511627776) = true := decide_eq_true h1
    clear h1
    go_enter Tryz.func14, Tryz.ntmps14
    go_wp2
    go_ret
    exact ⟨rfl, hB.out⟩
  have d1 : decide (s.order > 1099511627776) = false := decide_eq_false h1
  have H1 := Lib.hid h1
  clear h1
  by_cases h2 : s.regions < 1
  · have d2 : decide (s.regions < 1) = true := decide_eq_true h2
    clear h2
    go_enter Tryz.func14, Tryz.ntmps14
    go_wp2
    go_ret
    exact ⟨rfl, hB.out⟩
  have d2 : decide (s.regions < 1) = false := decide_eq_false h2
  have H2 := Lib.hid h2
  clear h2
  by_cases h3 : s.regions > 8
  · have d3 : decide (s.regions > 8) = true := decide_eq_true h3
    clear h3
    go_enter Tryz.func14, Tryz.ntmps14
    go_wp2
    go_ret
    exact ⟨rfl, hB.out⟩
  have d3 : decide (s.regions > 8) = false := decide_eq_false h3
  have H3 := Lib.hid h3
  clear h3
  by_cases h4 : s.first < 0
  · have d4 : decide (s.first < 0) = true := decide_eq_true h4
    clear h4
    go_enter Tryz.func14, Tryz.ntmps14
    go_wp2
    go_ret
    exact ⟨rfl, hB.out⟩
  have d4 : decide (s.first < 0) = false := decide_eq_false h4
  have H4 := Lib.hid h4
  clear h4
  by_cases h5 : s.first ≥ s.regions
  · have d5 : decide (s.first ≥ s.regions) = true := decide_eq_true h5
    clear h5
    go_enter Tryz.func14, Tryz.ntmps14
    go_wp2
    go_ret
    exact ⟨rfl, hB.out⟩
  have d5 : decide (s.first ≥ s.regions) = false := decide_eq_false h5
  have H5 := Lib.hid h5
  clear h5
  rcases neq_cases (s.want.length : Int) 0 with ⟨h6, x6, y6, z6⟩ | ⟨h6, x6, y6, z6⟩
  · clear h6
    go_enter Tryz.func14, Tryz.ntmps14
    go_wp2
    go_ret
    exact ⟨rfl, hB.out⟩
  have e6 : ¬ s.want.length = 0 := by omega
  have H6 := Lib.hid h6
  clear h6
  rcases neq_cases (s.got.length : Int) s.regions with ⟨h7, x7, y7, z7⟩ | ⟨h7, x7, y7, z7⟩
  rotate_left
  · clear h7
    go_enter Tryz.func14, Tryz.ntmps14
    go_wp2
    go_ret
    exact ⟨rfl, hB.out⟩
  have H7 := Lib.hid h7
  clear h7
  by_cases h8 : s.asked < 1
  · have d8 : decide (s.asked < 1) = true := decide_eq_true h8
    clear h8
    go_enter Tryz.func14, Tryz.ntmps14
    go_wp2
    go_ret
    exact ⟨rfl, hB.out⟩
  have d8 : decide (s.asked < 1) = false := decide_eq_false h8
  have H8 := Lib.hid h8
  clear h8
  by_cases h9 : s.asked > s.regions
  · have d9 : decide (s.asked > s.regions) = true := decide_eq_true h9
    clear h9
    go_enter Tryz.func14, Tryz.ntmps14
    go_wp2
    go_ret
    exact ⟨rfl, hB.out⟩
  have d9 : decide (s.asked > s.regions) = false := decide_eq_false h9
  have H9 := Lib.hid h9
  clear h9
  have hm : mayAll s.want s.got = false := by
    rw [Bool.eq_false_iff]
    intro e
    have hr := HNO.out
    rw [Bool.eq_false_iff] at hr
    apply hr
    have h0 := H0.out
    have h1 := H1.out
    have h2 := H2.out
    have h3 := H3.out
    have h4 := H4.out
    have h5 := H5.out
    have h6 := H6.out
    have h7 := H7.out
    have h8 := H8.out
    have h9 := H9.out
    unfold refHead
    simp only [Bool.and_eq_true, decide_eq_true_eq]
    exact ⟨⟨⟨⟨⟨⟨⟨⟨⟨⟨by omega, by omega⟩, by omega⟩, by omega⟩, by omega⟩, by omega⟩, by omega⟩, h7⟩, by omega⟩, by omega⟩, e⟩
  rw [hm] at cM
  clear hm
  go_enter Tryz.func14, Tryz.ntmps14
  go_wp2_with fail
  refine (cM.out _ hB.out).mono ?_
  rintro e w1 ⟨rfl, hb1⟩
  go_wp2
  go_ret
  exact ⟨rfl, hB.out.trans (hb1.mono hB.out.size)⟩
end Sa
end Go.Proofs.YthfpfomifebpbaaGreat

namespace Go.Proofs.YthfpfomifebpbaaGreat
open Go.RowKit Go.Maps
namespace Sa
open It
set_option linter.unusedSimpArgs false

theorem sumN_take {l : List It.Item} {j : Nat} (hj : j < l.length) : sumN (l.take (j + 1)) = sumN (l.take j) + l[j].2 := by
  rw [List.take_succ_eq_append_getElem hj]
  generalize l.take j = a
  induction a with
  | nil => show l[j].2 + 0 = 0 + l[j].2; omega
  | cons x a ih => show x.2 + sumN (a ++ [l[j]]) = x.2 + sumN a + l[j].2; rw [ih]; omega
theorem M.take_sum {l : List It.Item} (h : M l) (j : Nat) : 0 ≤ sumN (l.take j) ∧ sumN (l.take j) ≤ 17592186044416 := by
  have := sumN_bounds (l.take j) fun x hx => by
    have := h.ok x (List.mem_of_mem_take hx)
    omega
  have h2 := h.len
  have h3 : (l.take j).length ≤ 16 := by rw [List.length_take]; omega
  omega

set_option maxRecDepth 100000 in
set_option maxHeartbeats 8000000 in
theorem refmay15_yes (s : Saga) (vw vg vp : Value) (w : World) (h : Parts w 0 w.heap.size s vw vg vp) (hF : Fit s) (hyes : refHead s = true) :
    Calls Tryz.prog 14 #[.agg (sagaC s vw vg vp)] w fun e w' => e = .returned (.bool (mayS s)) ∧ Below w.heap.size w w' := by
  have hmx : Tryz.prog.follows .mixedOrders = true := by kernel_rfl
  have hh := rhead_of hyes
  have cM := Lib.hid (fun W (hb : Below w.heap.size w W) => refmay14_calls s.want s.got vw vg W (h.later hb).want hF.want (h.later hb).got hF.got)
  rw [hh.all] at cM
  have hgl : s.got.length ≤ 8 := by have := hh.got; have := hh.r2; omega
  have hwl : s.want.length ≤ 16 := hh.M.1.len
  have cH := Lib.hid (fun W (hb : Below w.heap.size w W) => refholders_calls s vw vg vp W (h.later hb) (by omega))
  have cMi := Lib.hid (fun W (hb : Below w.heap.size w W) => refmissing_calls s vw vg vp W (h.later hb) (by omega) (by omega))
  have HP := Lib.hid (fun W (hb : Below w.heap.size w W) => h.later hb)
  obtain ⟨A, c, rfl, -⟩ := h.want.form
  obtain ⟨A', c', rfl, hc1, hc2⟩ := h.got.form
  obtain ⟨A2, c2, rfl, hc3, hc4, -⟩ := h.pend.form
  unfold maxLen at hc2 hc4
  clear h hF hyes
  have HM := Lib.hid hh.M
  have HH := Lib.hid hh
  have HMS := Lib.hid (show mayS s = (decide (sumG s.got = sumN s.want - sumN (leftR s.want s.got)) && bodyAt s s.state) by unfold mayS bodyOk; rw [okHead_sum hh])
  unfold sagaC at cH cMi ⊢
  have hB := (Below.refl _ w).alloc (Nat.le_refl _) (.cells #[.int .i64 s.order, .int .i64 s.first, .int .i64 s.regions, .slice A s.want.length c, .bool s.waits, .int .i64 s.state, .int .i64 s.asked, .slice A' s.got.length c', .slice A2 s.pending.length c2, .bool s.cancelled] 26)
  have hO := Ob.new w 26 #[.int .i64 s.order, .int .i64 s.first, .int .i64 s.regions, .slice A s.want.length c, .bool s.waits, .int .i64 s.state, .int .i64 s.asked, .slice A' s.got.length c', .slice A2 s.pending.length c2, .bool s.cancelled]
  have d0 : decide (s.order < 1) = false := decide_eq_false (by have := hh.o1; omega)
  have d1 : decide (s.order > 1099511627776) = false := decide_eq_false (by have := hh.o2; omega)
  have d2 : decide (s.regions < 1) = false := decide_eq_false (by have := hh.r1; omega)
  have d3 : decide (s.regions > 8) = false := decide_eq_false (by have := hh.r2; omega)
  have d4 : decide (s.first < 0) = false := decide_eq_false (by have := hh.f1; omega)
  have d5 : decide (s.first ≥ s.regions) = false := decide_eq_false (by have := hh.f2; omega)
  have d6 : decide ((s.want.length : Int) = 0) = false := decide_eq_false (by have := hh.want; omega)
  have d6' : ((s.want.length : Int) == 0) = false := by rw [beq_eq_false_iff_ne]; have := hh.want; omega
  have d6'' : ¬ s.want.length = 0 := by have := hh.want; omega
  have d7 : decide ((s.got.length : Int) = s.regions) = true := decide_eq_true hh.got
  have d7' : ((s.got.length : Int) == s.regions) = true := by rw [beq_iff_eq]; exact hh.got
  have d7'' : ((s.got.length : Int) != s.regions) = false := by simp [bne, d7']
  have d8 : decide (s.asked < 1) = false := decide_eq_false (by have := hh.a1; omega)
  have d9 : decide (s.asked > s.regions) = false := decide_eq_false (by have := hh.a2; omega)
  clear hh
  go_enter Tryz.func14, Tryz.ntmps14
  go_wp2_with fail
  refine (cM.out _ hB).mono ?_
  rintro e w1 ⟨rfl, hb1⟩
  have hO1 := hO.same hb1
  have hB1 := hB.trans (hb1.mono hB.size)
  obtain ⟨k0, k1, k2, k3, k4, k5, k6, k7, k8, k9⟩ := ob_ten hO1
  have HP1 := Lib.hid (HP.out w1 hB1)
  clear d0 d1 d2 d3 d4 d5 d6 d6' d6'' d7 d7' d7'' d8 d9 hO hB hb1 cM
  go_wp2
  go_loop [3, 4, 5] (fun g i _ => ∃ k : Nat, k ≤ s.got.length ∧ i = .int .i64 k ∧ g = .int .i64 (sumG (s.got.take k))) (fun _ i _ => s.got.length - (intOf i).toNat)
  case atStart => exact ⟨0, by omega, rfl, rfl⟩
  case round =>
    obtain ⟨k, hk, rfl, rfl⟩ := hrel
    by_cases hlt : k < s.got.length
    · have hd : decide ((k : Int) < s.got.length) = true := decide_eq_true (by omega)
      obtain ⟨p, o, x, rfl, _, hp, g1, hx⟩ := HP1.out.got.cellAt hlt
      have hMl := HM.out.2.1 _ (List.getElem_mem hlt)
      rw [← getD_get hlt] at hMl
      have hst := sumG_take hlt
      have hsb := sumG_bounds (L := s.got.take k) fun x hx => HM.out.2.1 x (List.mem_of_mem_take hx)
      have hsl : (s.got.take k).length ≤ 8 := by rw [List.length_take]; omega
      generalize s.got.getD k [] = l at hx hMl hst
      generalize sumG (s.got.take k) = acc at hst hsb ⊢
      obtain ⟨A7, c7, rfl, hl1, hl2⟩ := hx.form
      unfold maxLen at hl2
      have HX := Lib.hid hx
      have HML := Lib.hid hMl
      have HST := Lib.hid hst
      clear hx hMl hst
      have hab : 0 ≤ acc ∧ acc ≤ 140737488355328 := by omega
      clear hsb hsl
      go_wp2
      go_loop [3, 5] (fun g i => ∃ j : Nat, j ≤ l.length ∧ i = .int .i64 j ∧ g = .int .i64 (acc + sumN (l.take j))) (fun _ i => l.length - (intOf i).toNat)
      case atStart => exact ⟨0, by omega, rfl, by rw [show sumN (l.take 0) = 0 from rfl, Int.add_zero]⟩
      case round =>
        obtain ⟨j, hj, rfl, rfl⟩ := hrel
        by_cases hjl : j < l.length
        · have hd2 : decide ((j : Int) < l.length) = true := decide_eq_true (by omega)
          obtain ⟨p2, o2, rfl, -, -, e1, e2⟩ := HX.out.cellAt hjl
          have hb := M.take_sum HML.out j
          have hb2 := M.take_sum HML.out (j + 1)
          rw [sumN_take hjl] at hb2
          have HS := Lib.hid (sumN_take hjl)
          generalize l[j] = y at e1 e2 hb2 HS
          generalize sumN (l.take j) = a2 at hb hb2 HS ⊢
          have hw64 : wrap64 (acc + a2 + y.2) = acc + (a2 + y.2) := by rw [show acc + (a2 + y.2) = acc + a2 + y.2 by omega]; exact It.wrap_small (by omega) (by omega)
          have HW := Lib.hid hw64
          have hr1 : -9223372036854775808 ≤ acc + a2 + y.2 := by omega
          have hr2 : acc + a2 + y.2 ≤ 9223372036854775807 := by omega
          clear hw64
          go_wp2
          exact ⟨⟨j + 1, by omega, by go_num, by rw [HS.out, Int.add_assoc]⟩, by simp [intOf]; omega⟩
        · obtain rfl : j = l.length := by omega
          have hd2 : decide ((l.length : Int) < l.length) = false := decide_eq_false (by omega)
          rw [List.take_length]
          go_wp2
          exact ⟨⟨k + 1, by omega, by go_num, by rw [HST.out]⟩, by simp [intOf]; omega⟩
    · obtain rfl : k = s.got.length := by omega
      have hd : decide ((s.got.length : Int) < s.got.length) = false := decide_eq_false (by omega)
      rw [List.take_length]
      go_wp2_with (refine wpList_load_obg (by rfl) _ _ rfl rfl _ hO1 Tryz.underlying26 rfl (by kernel_rfl) ?_)
      refine (cMi.out _ hB1).mono ?_
      rintro e w2 ⟨⟨vm, rfl, hvm⟩, hb2⟩
      have hO2 := hO1.same hb2
      have hB2 := hB1.trans (hb2.mono hB1.size)
      clear k0 k1 k2 k3 k4 k5 k6 k7 k8 k9
      obtain ⟨k0, k1, k2, k3, k4, k5, k6, k7, k8, k9⟩ := ob_ten hO2
      have HP2 := Lib.hid (HP.out w2 hB2)
      have HLM := Lib.hid (leftR_M HM.out.1 HM.out.2.1).1
      have HVM := Lib.hid hvm
      obtain ⟨A9, c9, rfl, hc91, hc92⟩ := hvm.form
      unfold maxLen at hc92
      have hsg := sumG_bounds HM.out.2.1
      have hwb := HM.out.1.bounds
      have hlb := HLM.out.bounds
      clear hO1 hb2 hvm cMi
      generalize sumG s.got = gN at hsg HMS ⊢
      have hgN : 0 ≤ gN ∧ gN ≤ 140737488355328 := by omega
      clear hsg
      go_wp2
      go_loop [6, 9] (fun g i => ∃ j : Nat, j ≤ s.want.length ∧ i = .int .i64 j ∧ g = .int .i64 (sumN (s.want.take j))) (fun _ i => s.want.length - (intOf i).toNat)
      case atStart => exact ⟨0, by omega, rfl, rfl⟩
      case round =>
        obtain ⟨j, hj, rfl, rfl⟩ := hrel
        by_cases hjl : j < s.want.length
        · have hd2 : decide ((j : Int) < s.want.length) = true := decide_eq_true (by omega)
          obtain ⟨p2, o2, rfl, -, -, e1, e2⟩ := HP2.out.want.cellAt hjl
          have hb := M.take_sum HM.out.1 j
          have hb2 := M.take_sum HM.out.1 (j + 1)
          rw [sumN_take hjl] at hb2
          have HS := Lib.hid (sumN_take hjl)
          generalize (s.want)[j] = y at e1 e2 hb2 HS
          generalize sumN ((s.want).take j) = a2 at hb hb2 HS ⊢
          have hr1 : -9223372036854775808 ≤ a2 + y.2 := by omega
          have hr2 : a2 + y.2 ≤ 9223372036854775807 := by omega
          go_wp2
          exact ⟨⟨j + 1, by omega, by go_num, by rw [HS.out]⟩, by simp [intOf]; omega⟩
        · obtain rfl : j = s.want.length := by omega
          have hd2 : decide (((s.want).length : Int) < (s.want).length) = false := decide_eq_false (by omega)
          rw [List.take_length]
          go_wp2
          go_loop [7, 10] (fun g i => ∃ j : Nat, j ≤ (leftR s.want s.got).length ∧ i = .int .i64 j ∧ g = .int .i64 (sumN ((leftR s.want s.got).take j))) (fun _ i => (leftR s.want s.got).length - (intOf i).toNat)
          case atStart => exact ⟨0, by omega, rfl, rfl⟩
          case round =>
            obtain ⟨j, hj, rfl, rfl⟩ := hrel
            by_cases hjl : j < (leftR s.want s.got).length
            · have hd2 : decide ((j : Int) < (leftR s.want s.got).length) = true := decide_eq_true (by omega)
              obtain ⟨p2, o2, rfl, -, -, e1, e2⟩ := HVM.out.cellAt hjl
              have hb := M.take_sum HLM.out j
              have hb2 := M.take_sum HLM.out (j + 1)
              rw [sumN_take hjl] at hb2
              have HS := Lib.hid (sumN_take hjl)
              generalize (leftR s.want s.got)[j] = y at e1 e2 hb2 HS
              generalize sumN ((leftR s.want s.got).take j) = a2 at hb hb2 HS ⊢
              have hr1 : -9223372036854775808 ≤ a2 + y.2 := by omega
              have hr2 : a2 + y.2 ≤ 9223372036854775807 := by omega
              go_wp2
              exact ⟨⟨j + 1, by omega, by go_num, by rw [HS.out]⟩, by simp [intOf]; omega⟩
            · obtain rfl : j = (leftR s.want s.got).length := by omega
              have hd2 : decide (((leftR s.want s.got).length : Int) < (leftR s.want s.got).length) = false := decide_eq_false (by omega)
              rw [List.take_length]
              generalize sumN s.want = wN at hwb HMS ⊢
              generalize hln : sumN (leftR s.want s.got) = lN at hlb HMS ⊢
              have HLN := Lib.hid (show leftN s = lN from hln)
              clear hln
              have hr3 : -9223372036854775808 ≤ wN - lN := by omega
              have hr4 : wN - lN ≤ 9223372036854775807 := by omega
              rcases neq_cases gN (wN - lN) with ⟨h1, x1, y1, z1⟩ | ⟨h1, x1, y1, z1⟩
              rotate_left
              · have HX1 := Lib.hid x1
                clear h1 x1
                go_wp2
                go_ret
                exact ⟨by rw [HMS.out, HX1.out]; rfl, hB2⟩
              have HMS2 := Lib.hid (show mayS s = bodyAt s s.state by rw [HMS.out, x1]; rfl)
              clear HMS h1 x1 hwb hgN
              go_wp2_with (refine wpList_load_obg (by rfl) _ _ rfl rfl _ hO2 Tryz.underlying26 rfl (by kernel_rfl) ?_)
              refine (cH.out _ hB2).mono ?_
              rintro e w3 ⟨⟨vh, rfl, hvh⟩, hb3⟩
              have hO3 := hO2.same hb3
              have hB3 := hB2.trans (hb3.mono hB2.size)
              clear k0 k1 k2 k3 k4 k5 k6 k7 k8 k9
              obtain ⟨k0, k1, k2, k3, k4, k5, k6, k7, k8, k9⟩ := ob_ten hO3
              have HP3 := Lib.hid (HP.out w3 hB3)
              have hvh := (IntsAt.of_own hvh).wide (Nat.zero_le _) (Nat.le_refl _)
              have HVH := Lib.hid hvh
              obtain ⟨Ah, ch, rfl, hch1, hch2, -⟩ := hvh.form
              unfold maxLen at hch2
              have HB3 := Lib.hid hB3
              have HO3 := Lib.hid hO3
              clear hO2 hB2 hb3 hvh cH hO3 hB3 HVM
              have hms := HMS2.out
              generalize s.state = st at hms k5
              have HHO := Lib.hid (len0 (holders s.got))
              have HQU := Lib.hid (len0 s.pending)
              have hhr := HH.out
              have hl0 : 0 ≤ lN := hlb.1
              have HL0 := Lib.hid (neq_cases lN 0)
              have hbs := fun (h : ¬ (st = 1 ∨ st = 2 ∨ st = 3 ∨ st = 4 ∨ st = 5 ∨ st = 6 ∨ st = 7 ∨ st = 8 ∨ st = 9 ∨ st = 10)) => hms.trans (bodyN h)
              have HN := Lib.hid hbs
              clear HMS2 hbs hlb
              by_cases e1 : st = 1
              · subst e1
                have hb1 := body1 hhr
                rw [HLN.out] at hb1
                have HBO := Lib.hid hb1
                have HX := Lib.hid hms
                have hf1 := hhr.f1
                have hf2 := hhr.f2
                have hr1' := hhr.r1
                have hr2' := hhr.r2
                have ha1 := hhr.a1
                have ha2 := hhr.a2
                have hgot := hhr.got
                have hin : ∀ j, j < (holders s.got).length → 0 ≤ (holders s.got).getD j 0 ∧ (holders s.got).getD j 0 < s.regions := fun j hj => by
                  rw [getD_get hj]
                  obtain ⟨i, e, hi, -⟩ := holders_mem (List.getElem_mem hj)
                  omega
                have HIN := Lib.hid hin
                have HAS := Lib.hid (show aheadS s ↔ ∀ j, j < (holders s.got).length → ((holders s.got).getD j 0 - s.first + s.regions) % s.regions < s.asked - 1 from
                  ⟨fun h j hj => by rw [getD_get hj]; exact h _ (List.getElem_mem hj), fun h x hx => by
                    obtain ⟨i, hi, rfl⟩ := List.getElem_of_mem hx
                    have := h i hi
                    rwa [getD_get hi] at this⟩)
                clear hb1 hms hhr hin
                generalize holders s.got = H at hch1 HVH HIN HAS ⊢
                go_wp2
                go_loopw [12] (fun i wr => ∃ k : Nat, k ≤ H.length ∧ i = .int .i64 k ∧ (∀ j, j < k → (H.getD j 0 - s.first + s.regions) % s.regions < s.asked - 1) ∧ Below w3.heap.size w3 wr) (fun i _ => H.length - (intOf i).toNat)
                case atStart => exact ⟨0, by omega, rfl, (fun j hj => by omega), Below.refl _ _⟩
                case round =>
                  obtain ⟨k, hk, rfl, hN, hW⟩ := hrel
                  have HNN := Lib.hid hN
                  clear hN
                  have hBr := HB3.out.trans (hW.mono HB3.out.size)
                  by_cases hlt : k < H.length
                  · have hd : decide ((k : Int) < H.length) = true := decide_eq_true (by omega)
                    obtain ⟨p, o, rfl, _, hp, g1⟩ := (HVH.out.mono hW hW.size).cellAt hlt
                    have hx0 := HIN.out k hlt
                    have hno : ¬ (H.getD k 0 - s.first + s.regions) % s.regions < s.asked - 1 → ¬ aheadS s := fun h h' => h (HAS.out.1 h' k hlt)
                    have hye : (H.getD k 0 - s.first + s.regions) % s.regions < s.asked - 1 → ∀ j, j < k + 1 → (H.getD j 0 - s.first + s.regions) % s.regions < s.asked - 1 := fun h => allTo_snoc HNN.out h
                    generalize H.getD k 0 = y at g1 hx0 hno hye
                    have HNO := Lib.hid hno
                    have HYE := Lib.hid hye
                    clear hno hye
                    have hdr : Below wr.heap.size wr wr.drew := (Below.refl _ _).drew
                    have HQ := Lib.hid (fun V (h : Below wr.drew.heap.size wr.drew V) => show V.cell? ⟨w.heap.size, 1, none⟩ = some (.int .i64 s.first) ∧ V.cell? ⟨w.heap.size, 2, none⟩ = some (.int .i64 s.regions) ∧ V.cell? ⟨w.heap.size, 6, none⟩ = some (.int .i64 s.asked) ∧ V.cell? ⟨p, o + k, none⟩ = some (.int .i64 y) from
                      ⟨(((HO3.out.same hW).same hdr).same h).cell rfl, (((HO3.out.same hW).same hdr).same h).cell rfl, (((HO3.out.same hW).same hdr).same h).cell rfl, (Below.cell (p := ⟨p, o + k, none⟩) h hp).trans g1⟩)
                    have hm0 : 0 ≤ y - s.first + s.regions := by omega
                    have hne : ¬ s.regions = 0 := by omega
                    go_wp2
                    refine Pu.regionW (fun Wq => Below wr.drew.heap.size wr.drew Wq) hmx (by kernel_rfl) (by kernel_rfl) (Below.refl _ _) rfl ?_
                    iterate 17 (first
                      | (refine Pu.Walk.off (by rfl) ?_; simp only [Act.put, List.setIfInBounds_toArray, List.set_cons_succ, List.set_cons_zero])
                      | (apply Pu.Walk.on (by rfl)
                         · intro V1 h1
                           obtain ⟨q1, q2, q6, qy⟩ := HQ.out V1 h1
                           go_wp2_with fail
                           refine ⟨rfl, ?_, h1⟩
                           try simp only [Act.put, List.setIfInBounds_toArray, List.set_cons_succ, List.set_cons_zero]
                           rfl
                         simp only [Act.put, List.setIfInBounds_toArray, List.set_cons_succ, List.set_cons_zero]))
                    refine Pu.Walk.nil (fun V h1 => ?_)
                    have hBV : Below w3.heap.size w3 V := (hW.drew).trans (h1.mono hW.size)
                    have htm : (y - s.first + s.regions).tmod s.regions = (y - s.first + s.regions) % s.regions := Int.tmod_eq_emod_of_nonneg hm0
                    clear HQ h1
                    by_cases hc : (y - s.first + s.regions) % s.regions < s.asked - 1
                    · have dc : decide ((y - s.first + s.regions) % s.regions ≥ s.asked - 1) = false := decide_eq_false (by omega)
                      have hez : (y - s.first + s.regions) % s.regions = (y - s.first) % s.regions := Int.add_emod_right ..
                      have dcz : (y - s.first) % s.regions < s.asked - 1 := by rw [← hez]; exact hc
                      have dcy : decide ((y - s.first) % s.regions ≥ s.asked - 1) = false := decide_eq_false (by omega)
                      have dcx : ¬ s.asked - 1 ≤ (y - s.first) % s.regions := by omega
                      clear hez
                      have HCC := Lib.hid hc
                      clear hc htm
                      go_wp2
                      go_roundw
                      case rel => exact ⟨k + 1, by omega, by go_num, HYE.out HCC.out, hBV⟩
                      case measure => simp [intOf]; omega
                    · have dc : decide ((y - s.first + s.regions) % s.regions ≥ s.asked - 1) = true := decide_eq_true (by omega)
                      have hez : (y - s.first + s.regions) % s.regions = (y - s.first) % s.regions := Int.add_emod_right ..
                      have dcz : ¬ (y - s.first) % s.regions < s.asked - 1 := by rw [← hez]; exact hc
                      have dcy : decide ((y - s.first) % s.regions ≥ s.asked - 1) = true := decide_eq_true (by omega)
                      have dcx : s.asked - 1 ≤ (y - s.first) % s.regions := by omega
                      clear hez
                      have hfal : bodyAt s 1 = false := by
                        rw [Bool.eq_false_iff]
                        intro e
                        exact HNO.out (Int.not_lt.1 hc) (HBO.out.1 e).1
                      have HFAL := Lib.hid hfal
                      clear hc htm hfal
                      go_wp2
                      go_ret
                      exact ⟨by rw [HX.out, HFAL.out]; rfl, HB3.out.trans (hBV.mono HB3.out.size)⟩
                  · obtain rfl : k = H.length := by omega
                    have hd : decide ((H.length : Int) < H.length) = false := decide_eq_false (by omega)
                    have HAY := Lib.hid (HAS.out.2 HNN.out)
                    have hOr := HO3.out.same hW
                    have hPr := HP.out wr hBr
                    have hdr : Below wr.heap.size wr wr.drew := (Below.refl _ _).drew
                    have HQ := Lib.hid (fun V (h : Below wr.drew.heap.size wr.drew V) => ob_ten ((hOr.same hdr).same h))
                    have htm : (s.first + s.asked - 1).tmod s.regions = (s.first + s.asked - 1) % s.regions := Int.tmod_eq_emod_of_nonneg (by omega)
                    have hne : ¬ s.regions = 0 := by omega
                    have hm0 : 0 ≤ s.first + s.asked - 1 := by omega
                    rcases HL0.out with ⟨h0, x0, y0, z0⟩ | ⟨h0, x0, y0, z0⟩
                    · have hlp : decide (lN > 0) = false := decide_eq_false (by omega)
                      have hfal : bodyAt s 1 = false := by
                        rw [Bool.eq_false_iff]
                        intro e
                        have := (HBO.out.1 e).2.1
                        omega
                      have HFAL := Lib.hid hfal
                      clear h0 hfal htm
                      go_wp2
                      refine Pu.regionW (fun Wq => Below wr.drew.heap.size wr.drew Wq) hmx (by kernel_rfl) (by kernel_rfl) (Below.refl _ _) rfl ?_
                      iterate 18 (first
                        | (refine Pu.Walk.off (by rfl) ?_; simp only [Act.put, List.setIfInBounds_toArray, List.set_cons_succ, List.set_cons_zero])
                        | (apply Pu.Walk.on (by rfl)
                           · intro V1 h1
                             go_wp2_with fail
                             refine ⟨rfl, ?_, h1⟩
                             try simp only [Act.put, List.setIfInBounds_toArray, List.set_cons_succ, List.set_cons_zero]
                             rfl
                           simp only [Act.put, List.setIfInBounds_toArray, List.set_cons_succ, List.set_cons_zero]))
                      refine Pu.Walk.nil (fun V h1 => ?_)
                      have hBV : Below w3.heap.size w3 V := (hW.drew).trans (h1.mono hW.size)
                      go_wp2
                      go_ret
                      exact ⟨by rw [HX.out, HFAL.out]; rfl, HB3.out.trans (hBV.mono HB3.out.size)⟩
                    · have hlp : decide (lN > 0) = true := decide_eq_true (by omega)
                      have hlq : lN > 0 := by omega
                      obtain ⟨nx, hnx⟩ : ∃ nx, nx = (s.first + s.asked - 1) % s.regions := ⟨_, rfl⟩
                      have hms : bodyAt s 1 = decide (s.pending = [nx]) := by
                        rw [Bool.eq_iff_iff, HBO.out, decide_eq_true_eq, hnx]
                        exact ⟨fun h => h.2.2, fun h => ⟨HAY.out, by omega, h⟩⟩
                      have HFIN := Lib.hid hms
                      have HNX := Lib.hid hnx
                      have hwrs := hBr.size
                      clear hms hnx htm h0
                      go_wp2
                      refine Pu.regionM [(0, false), (1, false), (2, false), (3, false), (4, false), (5, false), (6, false), (7, false), (8, false), (9, false), (10, false), (11, false), (12, false), (13, false), (14, true), (15, true), (16, false), (17, false)] (fun Wq => Below wr.drew.heap.size wr.drew Wq) hmx (by kernel_rfl) (by kernel_rfl) (by kernel_rfl) (Below.refl _ _) rfl ?_
                      simp only [Pu.named, List.filterMap_cons, List.filterMap_nil, List.getElem?_toArray, List.getElem?_cons_succ, List.getElem?_cons_zero, Option.map_some]
                      iterate 14 (
                        apply Pu.WalkM.on (by rfl)
                        · intro V1 h1
                          obtain ⟨q0, q1, q2, q3, q4, q5, q6, q7, q8, q9⟩ := HQ.out V1 h1
                          go_wp2_with fail
                          refine ⟨rfl, ?_, rfl⟩
                          try simp only [Act.put, List.setIfInBounds_toArray, List.set_cons_succ, List.set_cons_zero]
                          rfl
                        simp only [Act.put, List.setIfInBounds_toArray, List.set_cons_succ, List.set_cons_zero])
                      refine Pu.WalkM.make (by rfl) ?_
                      rintro W rfl
                      go_wp2_with fail
                      rw [← HNX.out]
                      have hal5 := (Below.refl wr.drew.heap.size wr.drew).alloc (Nat.le_refl _) (.cells #[.int .i64 nx] 3)
                      have hI5 : IntsAt (wr.drew.alloc (.cells #[.int .i64 nx] 3)) 0 (wr.drew.alloc (.cells #[.int .i64 nx] 3)).heap.size (.slice (some ⟨wr.heap.size, 0, none⟩) 1 1) [nx] := by
                        have := Sl.new wr.drew #[.int .i64 nx] 3 (size := 1) (n := 1) rfl (by unfold maxLen; omega)
                        exact Sl.wide this (Nat.zero_le _) (by rw [World.size_alloc]; omega)
                      have cI := Lib.hid (refints_calls s.pending [nx] _ _ (wr.drew.alloc (.cells #[.int .i64 nx] 3)) ((hPr.later hdr).later hal5).pend hI5)
                      refine ⟨rfl, .slice (some ⟨wr.heap.size, 0, none⟩) 1 1, _, (fun V => V = wr.drew.alloc (.cells #[.int .i64 nx] 3)), ?_, rfl, (fun V h => by rw [h]; exact hal5), (.inr (fun _ h => h)), ?_⟩
                      · simp only [Act.put, List.setIfInBounds_toArray, List.set_cons_succ, List.set_cons_zero]
                      simp only [Act.put, List.setIfInBounds_toArray, List.set_cons_succ, List.set_cons_zero]
                      refine Pu.WalkM.make (by rfl) ?_
                      intro W hWJ
                      subst hWJ
                      generalize decide (s.pending = [nx]) = q at cI HFIN
                      go_wp2_with (go_at_call 36; refine cI.out.mono ?_; rintro e W6 ⟨rfl, hb6⟩)
                      refine ⟨rfl, .bool q, _, (fun V => V = W6), ?_, rfl, (fun V h => by rw [h]; exact hal5.trans (hb6.mono hal5.size)), (.inr (fun _ h => h)), ?_⟩
                      · simp only [Act.put, List.setIfInBounds_toArray, List.set_cons_succ, List.set_cons_zero]
                      simp only [Act.put, List.setIfInBounds_toArray, List.set_cons_succ, List.set_cons_zero]
                      iterate 2 (
                        apply Pu.WalkM.on (by rfl)
                        · intro V1 h1
                          go_wp2_with fail
                          refine ⟨rfl, ?_, rfl⟩
                          try simp only [Act.put, List.setIfInBounds_toArray, List.set_cons_succ, List.set_cons_zero]
                          rfl
                        simp only [Act.put, List.setIfInBounds_toArray, List.set_cons_succ, List.set_cons_zero])
                      refine Pu.WalkM.nil ?_
                      intro V hVJ
                      cases hVJ.symm
                      have hBV : Below w3.heap.size w3 W6 := (hW.trans (hdr.mono hW.size)).trans ((hal5.trans (hb6.mono hal5.size)).mono hW.size)
                      go_wp2
                      go_ret
                      exact ⟨by rw [HX.out, HFIN.out]; cases q <;> rfl, HB3.out.trans (hBV.mono HB3.out.size)⟩
              have d1 : decide (st = 1) = false := decide_eq_false e1
              by_cases e2 : st = 2 ∨ st = 8 ∨ st = 10
              · rw [bodyH hhr e2, HLN.out] at hms
                have HX := Lib.hid hms
                clear hms hhr
                rcases HL0.out with ⟨h0, x0, y0, z0⟩ | ⟨h0, x0, y0, z0⟩
                · rw [x0] at HX
                  clear h0
                  rcases HQU.out with ⟨hq1, hq2, hq3⟩ | ⟨hq1, hq2, hq3⟩
                  · generalize s.cancelled = ca at HX k9
                    rcases e2 with rfl | rfl | rfl <;> cases ca <;> (go_wp2; go_ret; exact ⟨by rw [HX.out, hq3]; rfl, HB3.out⟩)
                  · rcases e2 with rfl | rfl | rfl <;> (go_wp2; go_ret; exact ⟨by rw [HX.out, hq3]; rfl, HB3.out⟩)
                · rw [x0] at HX
                  clear h0
                  rcases e2 with rfl | rfl | rfl <;> (go_wp2; go_ret; exact ⟨by rw [HX.out]; rfl, HB3.out⟩)
              have d2 : decide (st = 2) = false := decide_eq_false (fun e => e2 (.inl e))
              have d8 : decide (st = 8) = false := decide_eq_false (fun e => e2 (.inr (.inl e)))
              have d10 : decide (st = 10) = false := decide_eq_false (fun e => e2 (.inr (.inr e)))
              by_cases e3 : st = 7 ∨ st = 9
              · have hms7 := hms.trans (bodyP hhr e3)
                rw [HLN.out] at hms7
                have HX := Lib.hid hms7
                clear hms hms7 hhr
                generalize holders s.got = H at hch1 HVH HX ⊢
                have e3' : ∃ z : Int, (z = 7 ∨ z = 9) ∧ st = z := ⟨st, e3, rfl⟩
                rcases e3 with rfl | rfl <;> (
                  clear e3'
                  go_wp2
                  go_loopw [13] (fun i wr => ∃ k : Nat, k ≤ s.pending.length ∧ i = .int .i64 k ∧ risesTo s.pending H k ∧ Below w3.heap.size w3 wr) (fun i _ => s.pending.length - (intOf i).toNat)
                  case atStart => exact ⟨0, by omega, rfl, (fun j hj => by omega), Below.refl _ _⟩
                  case round =>
                    obtain ⟨k, hk, rfl, hN, hW⟩ := hrel
                    have HNN := Lib.hid hN
                    clear hN
                    have hBr := HB3.out.trans (hW.mono HB3.out.size)
                    have hOr := HO3.out.same hW
                    obtain ⟨j0, j1, j2, j3, j4, j5, j6, j7, j8, j9⟩ := ob_ten hOr
                    by_cases hlt : k < s.pending.length
                    · have hd : decide ((k : Int) < s.pending.length) = true := decide_eq_true (by omega)
                      have hdr : Below wr.heap.size wr wr.drew := (Below.refl _ _).drew
                      have HQ := Lib.hid (fun V (h : Below wr.drew.heap.size wr.drew V) => ob_ten ((hOr.same hdr).same h))
                      have hpr := (HP.out wr hBr).pend
                      obtain ⟨p, o, rfl, _, hp, g1⟩ := hpr.cellAt hlt
                      have hno : ¬ (¬ (0 < k ∧ s.pending.getD k 0 ≤ s.pending.getD (k - 1) 0) ∧ Life.inL (s.pending.getD k 0) H = true) → rises s.pending H = false := fun h => decide_eq_false fun hr => h (hr k hlt)
                      have hye : ¬ (0 < k ∧ s.pending.getD k 0 ≤ s.pending.getD (k - 1) 0) ∧ Life.inL (s.pending.getD k 0) H = true → risesTo s.pending H (k + 1) := fun h => allTo_snoc HNN.out h
                      rw [Life.inL_iff] at hno hye
                      have HG1 := Lib.hid (fun V (h : Below wr.drew.heap.size wr.drew V) => show V.cell? ⟨p, o + k, none⟩ = some (.int .i64 (s.pending.getD k 0)) from (Below.cell (p := ⟨p, o + k, none⟩) h hp).trans g1)
                      have cIn := Lib.hid (fun V (h : Below wr.drew.heap.size wr.drew V) => refin_calls H (s.pending.getD k 0) _ 0 wr.heap.size V ((HVH.out.mono hW hW.size).mono (hdr.trans h) (Nat.le_refl _)))
                      rcases Nat.eq_zero_or_pos k with hk0 | hk0
                      · subst hk0
                        rw [Nat.add_zero] at HG1
                        clear hpr g1
                        generalize s.pending.getD 0 0 = y at HG1 cIn hno hye
                        have HNO := Lib.hid hno
                        have HYE := Lib.hid hye
                        clear hno hye
                        generalize hq : decide (y ∈ H) = q at cIn
                        have HQD := Lib.hid hq
                        clear hq
                        cases q with
                        | false =>
                          go_wp2
                          refine Pu.regionW (fun Wq => Below wr.drew.heap.size wr.drew Wq) hmx (by kernel_rfl) (by kernel_rfl) (Below.refl _ _) rfl ?_
                          iterate 26 (first
                            | (refine Pu.Walk.off (by rfl) ?_; simp only [Act.put, List.setIfInBounds_toArray, List.set_cons_succ, List.set_cons_zero])
                            | (apply Pu.Walk.on (by rfl)
                               · intro V1 h1
                                 obtain ⟨q0, q1, q2, q3, q4, q5, q6, q7, q8, q9⟩ := HQ.out V1 h1
                                 have g1 := HG1.out V1 h1
                                 go_wp2_with (go_at_call 27; refine (cIn.out V1 h1).mono ?_; rintro e V2 ⟨rfl, rfl⟩)
                                 refine ⟨rfl, ?_, h1⟩
                                 try simp only [Act.put, List.setIfInBounds_toArray, List.set_cons_succ, List.set_cons_zero]
                                 rfl
                               simp only [Act.put, List.setIfInBounds_toArray, List.set_cons_succ, List.set_cons_zero]))
                          refine Pu.Walk.nil (fun V h1 => ?_)
                          have hBV : Below w3.heap.size w3 V := (hW.drew).trans (h1.mono hW.size)
                          clear h1
                          go_wp2
                          go_ret
                          exact ⟨by rw [HX.out, HNO.out (fun h => of_decide_eq_false HQD.out (of_decide_eq_true h.2))]; simp, HB3.out.trans (hBV.mono HB3.out.size)⟩
                        | true =>
                          go_wp2
                          refine Pu.regionW (fun Wq => Below wr.drew.heap.size wr.drew Wq) hmx (by kernel_rfl) (by kernel_rfl) (Below.refl _ _) rfl ?_
                          iterate 26 (first
                            | (refine Pu.Walk.off (by rfl) ?_; simp only [Act.put, List.setIfInBounds_toArray, List.set_cons_succ, List.set_cons_zero])
                            | (apply Pu.Walk.on (by rfl)
                               · intro V1 h1
                                 obtain ⟨q0, q1, q2, q3, q4, q5, q6, q7, q8, q9⟩ := HQ.out V1 h1
                                 have g1 := HG1.out V1 h1
                                 go_wp2_with (go_at_call 27; refine (cIn.out V1 h1).mono ?_; rintro e V2 ⟨rfl, rfl⟩)
                                 refine ⟨rfl, ?_, h1⟩
                                 try simp only [Act.put, List.setIfInBounds_toArray, List.set_cons_succ, List.set_cons_zero]
                                 rfl
                               simp only [Act.put, List.setIfInBounds_toArray, List.set_cons_succ, List.set_cons_zero]))
                          refine Pu.Walk.nil (fun V h1 => ?_)
                          have hBV : Below w3.heap.size w3 V := (hW.drew).trans (h1.mono hW.size)
                          clear h1
                          go_wp2
                          go_roundw
                          case rel => exact ⟨1, by omega, rfl, HYE.out ⟨fun h => by omega, decide_eq_true (of_decide_eq_true HQD.out)⟩, hBV⟩
                          case measure => simp [intOf]; omega
                      · obtain ⟨m, hm⟩ : ∃ m, k = m + 1 := ⟨k - 1, by omega⟩
                        have d0 : decide ((k : Int) > 0) = true := decide_eq_true (by omega)
                        have hm1 : (k : Int) - 1 = (m : Int) := by omega
                        obtain ⟨p', o', e', _, _, g2⟩ := hpr.cellAt (j := m) (by omega)
                        cases e'
                        have HG2 := Lib.hid (fun V (h : Below wr.drew.heap.size wr.drew V) => show V.cell? ⟨p, o + m, none⟩ = some (.int .i64 (s.pending.getD m 0)) from (Below.cell (p := ⟨p, o + m, none⟩) h hp).trans g2)
                        rw [show k - 1 = m by omega] at hno hye
                        clear hpr g1 g2 hm
                        generalize s.pending.getD k 0 = y at HG1 cIn hno hye
                        generalize s.pending.getD m 0 = z at HG2 hno hye
                        have HNO := Lib.hid hno
                        have HYE := Lib.hid hye
                        clear hno hye
                        generalize hq : decide (y ∈ H) = q at cIn
                        have HQD := Lib.hid hq
                        clear hq
                        cases q with
                        | false =>
                          go_wp2
                          refine Pu.regionW (fun Wq => Below wr.drew.heap.size wr.drew Wq) hmx (by kernel_rfl) (by kernel_rfl) (Below.refl _ _) rfl ?_
                          iterate 26 (first
                            | (refine Pu.Walk.off (by rfl) ?_; simp only [Act.put, List.setIfInBounds_toArray, List.set_cons_succ, List.set_cons_zero])
                            | (apply Pu.Walk.on (by rfl)
                               · intro V1 h1
                                 obtain ⟨q0, q1, q2, q3, q4, q5, q6, q7, q8, q9⟩ := HQ.out V1 h1
                                 have g1 := HG1.out V1 h1
                                 have g2 := HG2.out V1 h1
                                 go_wp2_with (go_at_call 27; refine (cIn.out V1 h1).mono ?_; rintro e V2 ⟨rfl, rfl⟩)
                                 refine ⟨rfl, ?_, h1⟩
                                 try simp only [Act.put, List.setIfInBounds_toArray, List.set_cons_succ, List.set_cons_zero]
                                 rfl
                               simp only [Act.put, List.setIfInBounds_toArray, List.set_cons_succ, List.set_cons_zero]))
                          refine Pu.Walk.nil (fun V h1 => ?_)
                          have hBV : Below w3.heap.size w3 V := (hW.drew).trans (h1.mono hW.size)
                          clear h1
                          go_wp2
                          go_ret
                          exact ⟨by rw [HX.out, HNO.out (fun h => of_decide_eq_false HQD.out (of_decide_eq_true h.2))]; simp, HB3.out.trans (hBV.mono HB3.out.size)⟩
                        | true =>
                          by_cases hzy : y ≤ z
                          · have dz : decide (z ≥ y) = true := decide_eq_true hzy
                            have HZY := Lib.hid hzy
                            clear hzy
                            go_wp2
                            refine Pu.regionW (fun Wq => Below wr.drew.heap.size wr.drew Wq) hmx (by kernel_rfl) (by kernel_rfl) (Below.refl _ _) rfl ?_
                            iterate 26 (first
                              | (refine Pu.Walk.off (by rfl) ?_; simp only [Act.put, List.setIfInBounds_toArray, List.set_cons_succ, List.set_cons_zero])
                              | (apply Pu.Walk.on (by rfl)
                                 · intro V1 h1
                                   obtain ⟨q0, q1, q2, q3, q4, q5, q6, q7, q8, q9⟩ := HQ.out V1 h1
                                   have g1 := HG1.out V1 h1
                                   have g2 := HG2.out V1 h1
                                   go_wp2_with (go_at_call 27; refine (cIn.out V1 h1).mono ?_; rintro e V2 ⟨rfl, rfl⟩)
                                   refine ⟨rfl, ?_, h1⟩
                                   try simp only [Act.put, List.setIfInBounds_toArray, List.set_cons_succ, List.set_cons_zero]
                                   rfl
                                 simp only [Act.put, List.setIfInBounds_toArray, List.set_cons_succ, List.set_cons_zero]))
                            refine Pu.Walk.nil (fun V h1 => ?_)
                            have hBV : Below w3.heap.size w3 V := (hW.drew).trans (h1.mono hW.size)
                            clear h1
                            go_wp2
                            go_ret
                            exact ⟨by rw [HX.out, HNO.out (fun h => h.1 ⟨by omega, HZY.out⟩)]; simp, HB3.out.trans (hBV.mono HB3.out.size)⟩
                          · have dz : decide (z ≥ y) = false := decide_eq_false hzy
                            have HZY := Lib.hid hzy
                            clear hzy
                            go_wp2
                            refine Pu.regionW (fun Wq => Below wr.drew.heap.size wr.drew Wq) hmx (by kernel_rfl) (by kernel_rfl) (Below.refl _ _) rfl ?_
                            iterate 26 (first
                              | (refine Pu.Walk.off (by rfl) ?_; simp only [Act.put, List.setIfInBounds_toArray, List.set_cons_succ, List.set_cons_zero])
                              | (apply Pu.Walk.on (by rfl)
                                 · intro V1 h1
                                   obtain ⟨q0, q1, q2, q3, q4, q5, q6, q7, q8, q9⟩ := HQ.out V1 h1
                                   have g1 := HG1.out V1 h1
                                   have g2 := HG2.out V1 h1
                                   go_wp2_with (go_at_call 27; refine (cIn.out V1 h1).mono ?_; rintro e V2 ⟨rfl, rfl⟩)
                                   refine ⟨rfl, ?_, h1⟩
                                   try simp only [Act.put, List.setIfInBounds_toArray, List.set_cons_succ, List.set_cons_zero]
                                   rfl
                                 simp only [Act.put, List.setIfInBounds_toArray, List.set_cons_succ, List.set_cons_zero]))
                            refine Pu.Walk.nil (fun V h1 => ?_)
                            have hBV : Below w3.heap.size w3 V := (hW.drew).trans (h1.mono hW.size)
                            clear h1
                            go_wp2
                            go_roundw
                            case rel => exact ⟨k + 1, by omega, by go_num, HYE.out ⟨fun h => absurd h.2 (by have := HZY.out; omega), decide_eq_true (of_decide_eq_true HQD.out)⟩, hBV⟩
                            case measure => simp [intOf]; omega
                    · obtain rfl : k = s.pending.length := by omega
                      have hd : decide ((s.pending.length : Int) < s.pending.length) = false := decide_eq_false (by omega)
                      have hris : rises s.pending H = true := decide_eq_true HNN.out
                      rw [hris] at HX
                      clear hris
                      rcases HL0.out with ⟨h0, x0, y0, z0⟩ | ⟨h0, x0, y0, z0⟩
                      · rw [x0] at HX
                        clear h0
                        rcases HQU.out with ⟨hq1, hq2, hq3⟩ | ⟨hq1, hq2, hq3⟩
                        · have hp4 : decide ((s.pending.length : Int) > 0) = false := decide_eq_false (by have := of_decide_eq_true hq2; omega)
                          have hp5 : ¬ 0 < s.pending.length := by have := of_decide_eq_true hq2; omega
                          go_wp2
                          go_ret
                          exact ⟨by rw [HX.out, hq3]; rfl, hBr⟩
                        · have hp4 : decide ((s.pending.length : Int) > 0) = true := decide_eq_true (by have := of_decide_eq_false hq2; omega)
                          have hp5 : 0 < s.pending.length := by have := of_decide_eq_false hq2; omega
                          generalize s.cancelled = ca at HX j9
                          cases ca <;> (go_wp2; go_ret; exact ⟨by rw [HX.out, hq3]; rfl, hBr⟩)
                      · rw [x0] at HX
                        clear h0
                        go_wp2
                        go_ret
                        exact ⟨by rw [HX.out]; rfl, hBr⟩)
              have d7 : decide (st = 7) = false := decide_eq_false (fun e => e3 (.inl e))
              have d9 : decide (st = 9) = false := decide_eq_false (fun e => e3 (.inr e))
              by_cases e4 : st = 4
              · subst e4
                rw [bodyU] at hms
                have HX := Lib.hid hms
                clear hms hhr
                have cI := Lib.hid (refints_calls s.pending (holders s.got) _ _ w3 HP3.out.pend HVH.out)
                rcases HHO.out with ⟨hh1, hh2, hh3⟩ | ⟨hh1, hh2, hh3⟩
                · have hh4 : decide (((holders s.got).length : Int) > 0) = false := decide_eq_false (by have := of_decide_eq_true hh2; omega)
                  go_wp2
                  go_ret
                  exact ⟨by rw [HX.out, hh3]; rfl, HB3.out⟩
                · have hh4 : decide (((holders s.got).length : Int) > 0) = true := decide_eq_true (by have := of_decide_eq_false hh2; omega)
                  have hh5 : 0 < (holders s.got).length := by have := of_decide_eq_false hh2; omega
                  generalize decide (s.pending = holders s.got) = q at cI HX
                  go_wp2_with fail
                  refine cI.out.mono ?_
                  rintro e w4 ⟨rfl, hb4⟩
                  go_wp2
                  go_ret
                  exact ⟨by rw [HX.out, hh3]; cases q <;> rfl, HB3.out.trans (hb4.mono HB3.out.size)⟩
              have d4 : decide (st = 4) = false := decide_eq_false e4
              by_cases e5 : st = 3 ∨ st = 5
              · rw [bodyW e5] at hms
                have HX := Lib.hid hms
                clear hms hhr
                rcases HHO.out with ⟨hh1, hh2, hh3⟩ | ⟨hh1, hh2, hh3⟩
                · rcases HQU.out with ⟨hq1, hq2, hq3⟩ | ⟨hq1, hq2, hq3⟩
                  · generalize s.cancelled = ca at HX k9
                    generalize s.waits = wa at HX k4
                    rcases e5 with rfl | rfl <;> cases ca <;> cases wa <;> (go_wp2; go_ret; exact ⟨by rw [HX.out, hh3, hq3]; rfl, HB3.out⟩)
                  · rcases e5 with rfl | rfl <;> (go_wp2; go_ret; exact ⟨by rw [HX.out, hh3, hq3]; rfl, HB3.out⟩)
                · rcases e5 with rfl | rfl <;> (go_wp2; go_ret; exact ⟨by rw [HX.out, hh3]; rfl, HB3.out⟩)
              have d3 : decide (st = 3) = false := decide_eq_false (fun e => e5 (.inl e))
              have d5 : decide (st = 5) = false := decide_eq_false (fun e => e5 (.inr e))
              by_cases e6 : st = 6
              · subst e6
                rw [bodyG] at hms
                have HX := Lib.hid hms
                clear hms hhr
                rcases HHO.out with ⟨hh1, hh2, hh3⟩ | ⟨hh1, hh2, hh3⟩
                · rcases HQU.out with ⟨hq1, hq2, hq3⟩ | ⟨hq1, hq2, hq3⟩
                  · generalize s.cancelled = ca at HX k9
                    cases ca <;> (go_wp2; go_ret; exact ⟨by rw [HX.out, hh3, hq3]; rfl, HB3.out⟩)
                  · go_wp2
                    go_ret
                    exact ⟨by rw [HX.out, hh3, hq3]; rfl, HB3.out⟩
                · go_wp2
                  go_ret
                  exact ⟨by rw [HX.out, hh3]; rfl, HB3.out⟩
              have d6 : decide (st = 6) = false := decide_eq_false e6
              have HX := Lib.hid (HN.out (by omega))
              clear hms hhr
              go_wp2
              go_ret
              exact ⟨by rw [HX.out]; rfl, HB3.out⟩
end Sa
end Go.Proofs.YthfpfomifebpbaaGreat

namespace Go.Proofs.YthfpfomifebpbaaGreat
open Go.RowKit Go.Maps
namespace Sa
open It

theorem refmay15_calls (s : Saga) (vw vg vp : Value) (w : World) (h : Parts w 0 w.heap.size s vw vg vp) (hF : Fit s) :
    Calls Tryz.prog 14 #[.agg (sagaC s vw vg vp)] w fun e w' => e = .returned (.bool (mayS s)) ∧ Below w.heap.size w w' := by
  cases hh : refHead s with
  | true => exact refmay15_yes s vw vg vp w h hF hh
  | false =>
    rw [refHead_no hh]
    exact refmay15_no s vw vg vp w h hF hh
end Sa
end Go.Proofs.YthfpfomifebpbaaGreat

namespace Go.Proofs.YthfpfomifebpbaaGreat
open Go.RowKit Go.Maps
namespace Sa
open It
set_option linter.unusedSimpArgs false

theorem beginS_ref {order first regions : Int} {want : List It.Item} {waits : Bool} (h : 1 ≤ regions ∧ regions ≤ 8) : beginS order first regions want waits = beginU (saga1 order first regions want waits) := by
  unfold beginS
  split
  · rename_i hv
    unfold beginU
    rw [if_neg]
    intro hm
    have := (mayS_split hm).1.visit
    have e : ((visit first regions).length : Int) = regions := this
    omega
  · rfl
theorem beginS_no {order first regions : Int} {want : List It.Item} {waits : Bool} (h : ¬ (1 ≤ regions ∧ regions ≤ 8)) : beginS order first regions want waits = .error 1 := by
  unfold beginS
  rw [if_pos (by rw [visit_none (by omega)]; rfl)]

theorem got_new {W : World} {B n : Nat} {v : Value} (h : W.ownsRow B 22 1 v n (List.replicate n nilS)) : GotAt W B W.heap.size v (List.replicate n []) := by
  refine ⟨List.replicate n nilS, by simp, ?_, fun k hk' => ?_⟩
  · have := Sl.of_own h
    simpa using this
  · have hk' : k < n := by simpa using hk'
    rw [show (List.replicate n nilS).getD k (.slice none 0 0) = nilS by simp [List.getD, hk'], show (List.replicate n ([] : List It.Item)).getD k [] = [] by simp [List.getD, hk']]
    exact ItemsAt.nil _ _ _
set_option maxRecDepth 100000 in
set_option maxHeartbeats 4000000 in
theorem refbegin_calls (order first regions : Int) (want : List It.Item) (waits : Bool) (vw : Value) (w : World) (hw : ItemsAt w 0 w.heap.size vw want) (hF : Fits want) :
    Calls Tryz.prog 32 #[.int .i64 order, .int .i64 first, .int .i64 regions, vw, .bool waits] w fun e w' => Ret3 0 w' e (beginS order first regions want waits) ∧ Below w.heap.size w w' := by
  obtain ⟨i0, hi0, hz0⟩ := Option.map_eq_some_iff.1 list_info
  simp only [Prod.mk.injEq] at hz0
  obtain ⟨hz0, hz1, hz2⟩ := hz0
  have HW := Lib.hid (fun W (hb : Below w.heap.size w W) => hw.mono hb hb.size)
  obtain ⟨A, c, rfl, -⟩ := hw.form
  clear hw
  have hal := (Below.refl w.heap.size w).alloc (Nat.le_refl _) (.cells #[.int .i64 0, .int .i64 0, .int .i64 0, .slice none 0 0, .bool false, .int .i64 0, .int .i64 0, .slice none 0 0, .slice none 0 0, .bool false] 26)
  have hoR := Ob.new w 26 #[.int .i64 0, .int .i64 0, .int .i64 0, .slice none 0 0, .bool false, .int .i64 0, .int .i64 0, .slice none 0 0, .slice none 0 0, .bool false]
  have hza : (w.alloc (.cells #[.int .i64 0, .int .i64 0, .int .i64 0, .slice none 0 0, .bool false, .int .i64 0, .int .i64 0, .slice none 0 0, .slice none 0 0, .bool false] 26)).heap.size = w.heap.size + 1 := World.size_alloc _ _
  by_cases hr : 1 ≤ regions ∧ regions ≤ 8
  rotate_left
  · rw [beginS_no hr]
    have hcs : regions < 1 ∨ (¬ regions < 1 ∧ regions > 8) := by omega
    clear hr
    rcases hcs with h1 | ⟨h1, h2⟩
    · have d1 : decide (regions < 1) = true := decide_eq_true h1
      clear h1
      go_enter Tryz.func32, Tryz.ntmps32
      go_wp2_with (refine wpList_store_ob (cells := #[.int .i64 0, .int .i64 0, .int .i64 0, .slice none 0 0, .bool false, .int .i64 0, .int .i64 0, .slice none 0 0, .slice none 0 0, .bool false]) rfl 26 (.tmp 10) (.tmp 20) rfl rfl rfl hoR rfl (by kernel_rfl) (by simp [Value.oneCell']) ?_; intro W8 ho8 hg8)
      have hBf := hal.grown hg8 (by omega) (fun g e => by have e2 : w.heap.size = g := Option.some.inj e; omega)
      obtain ⟨p0, p1, p2, p3, p4, p5, p6, p7, p8, p9⟩ := ob_ten ho8
      refine bodyPost_ret (v := .tuple #[.agg (sagaC saga0 nilS nilS nilS), nilS, .int .i64 1]) ?_ rfl ⟨rfl, hBf⟩
      simp [results, Tryz.f32, go_sem, sagaC, saga0, nilS, p0, p1, p2, p3, p4, p5, p6, p7, p8, p9]
    · have d1 : decide (regions < 1) = false := decide_eq_false h1
      have d2 : decide (regions > 8) = true := decide_eq_true h2
      clear h1 h2
      go_enter Tryz.func32, Tryz.ntmps32
      go_wp2_with (refine wpList_store_ob (cells := #[.int .i64 0, .int .i64 0, .int .i64 0, .slice none 0 0, .bool false, .int .i64 0, .int .i64 0, .slice none 0 0, .slice none 0 0, .bool false]) rfl 26 (.tmp 10) (.tmp 20) rfl rfl rfl hoR rfl (by kernel_rfl) (by simp [Value.oneCell']) ?_; intro W8 ho8 hg8)
      have hBf := hal.grown hg8 (by omega) (fun g e => by have e2 : w.heap.size = g := Option.some.inj e; omega)
      obtain ⟨p0, p1, p2, p3, p4, p5, p6, p7, p8, p9⟩ := ob_ten ho8
      refine bodyPost_ret (v := .tuple #[.agg (sagaC saga0 nilS nilS nilS), nilS, .int .i64 1]) ?_ rfl ⟨rfl, hBf⟩
      simp [results, Tryz.f32, go_sem, sagaC, saga0, nilS, p0, p1, p2, p3, p4, p5, p6, p7, p8, p9]
  · rw [beginS_ref hr]
    obtain ⟨n, hn⟩ : ∃ n : Nat, regions = n := ⟨regions.toNat, by omega⟩
    have hn1 : 1 ≤ n ∧ n ≤ 8 := by omega
    unfold saga1
    rw [hn]
    rw [Int.toNat_natCast]
    clear hr hn
    have d1 : decide ((n : Int) < 1) = false := decide_eq_false (by omega)
    have d2 : decide ((n : Int) > 8) = false := decide_eq_false (by omega)
    obtain ⟨W4, hmk, hrow4, hgr4⟩ := run_make_full (P := Tryz.prog) (w.alloc (.cells #[.int .i64 0, .int .i64 0, .int .i64 0, .slice none 0 0, .bool false, .int .i64 0, .int .i64 0, .slice none 0 0, .slice none 0 0, .bool false] 26)) (w.heap.size + 1) 23 22 i0 _ 1 Tryz.underlying23 hi0 hz0 hz1 .i64 .i64 n (by rw [hz2]; omega) (by unfold maxLen; omega) (by omega)
    have hz34 := hgr4.size
    rw [hza] at hmk hrow4 hz34
    have hrow4' : W4.ownsRow (w.heap.size + 1) 22 1 (.slice (some ⟨w.heap.size + 1, 0, none⟩) n n) n (List.replicate n nilS) := by
      rw [← toList_madeCells_one]
      have h := hrow4
      rw [Nat.mul_one] at h
      exact h
    have hB4 : Below w.heap.size w W4 := hal.grown hgr4 (by omega) (fun g e => by cases e)
    have hoR4 := hoR.kept hgr4 (by simp)
    obtain ⟨S, hS⟩ : ∃ S : Saga, S = ⟨order, first, n, want, waits, 1, 1, List.replicate n [], [first], false⟩ := ⟨_, rfl⟩
    have hal5 := (Below.refl W4.heap.size W4).alloc (Nat.le_refl _) (.cells #[.int .i64 first] 3)
    have hs5 : Sl (W4.alloc (.cells #[.int .i64 first] 3)) W4.heap.size (W4.heap.size + 1) 1 (.slice (some ⟨W4.heap.size, 0, none⟩) 1 1) 1 [.int .i64 first] := Sl.new W4 #[.int .i64 first] 3 (size := 1) (n := 1) rfl (by unfold maxLen; omega)
    have hz5 : (W4.alloc (.cells #[.int .i64 first] 3)).heap.size = W4.heap.size + 1 := World.size_alloc _ _
    have hrow5 := row_later hrow4' hal5
    have hoR5 := hoR4.same hal5
    have hB5 := hB4.trans (hal5.mono (by omega))
    have hal6 := (Below.refl (W4.alloc (.cells #[.int .i64 first] 3)).heap.size (W4.alloc (.cells #[.int .i64 first] 3))).alloc (Nat.le_refl _) (.cells #[.int .i64 order, .int .i64 first, .int .i64 n, .slice A want.length c, .bool waits, .int .i64 1, .int .i64 1, .slice (some ⟨w.heap.size + 1, 0, none⟩) n n, .slice (some ⟨W4.heap.size, 0, none⟩) 1 1, .bool false] 26)
    have ho6 := Ob.new (W4.alloc (.cells #[.int .i64 first] 3)) 26 #[.int .i64 order, .int .i64 first, .int .i64 n, .slice A want.length c, .bool waits, .int .i64 1, .int .i64 1, .slice (some ⟨w.heap.size + 1, 0, none⟩) n n, .slice (some ⟨W4.heap.size, 0, none⟩) 1 1, .bool false]
    have hz6 : ((W4.alloc (.cells #[.int .i64 first] 3)).alloc (.cells #[.int .i64 order, .int .i64 first, .int .i64 n, .slice A want.length c, .bool waits, .int .i64 1, .int .i64 1, .slice (some ⟨w.heap.size + 1, 0, none⟩) n n, .slice (some ⟨W4.heap.size, 0, none⟩) 1 1, .bool false] 26)).heap.size = W4.heap.size + 1 + 1 := by rw [World.size_alloc, hz5]
    have hrow6 := row_later hrow5 hal6
    have hoR6 := hoR5.same hal6
    have hB6 := hB5.trans (hal6.mono hB5.size)
    have hs6 := hs5.mono (hal6.mono (by omega)) (show W4.heap.size + 1 ≤ W4.heap.size + 1 from Nat.le_refl _)
    rw [hz5] at ho6
    have hPm : ∀ W, ItemsAt W 0 W.heap.size (.slice A want.length c) want → GotAt W 0 W.heap.size (.slice (some ⟨w.heap.size + 1, 0, none⟩) n n) (List.replicate n []) → IntsAt W 0 W.heap.size (.slice (some ⟨W4.heap.size, 0, none⟩) 1 1) [first] → Parts W 0 W.heap.size S (.slice A want.length c) (.slice (some ⟨w.heap.size + 1, 0, none⟩) n n) (.slice (some ⟨W4.heap.size, 0, none⟩) 1 1) := fun W a b c => by
      rw [hS]
      exact ⟨a, b, c⟩
    have hP6 := hPm _ (HW.out _ hB6) ((got_new hrow6).wide (Nat.zero_le _) (Nat.le_refl _)) (hs6.wide (Nat.zero_le _) (by rw [hz6]; omega))
    have hG6 := got_new (n := n) hrow6
    have hFS : Fit S := by
      rw [hS]
      refine ⟨hF, fun l hl => ?_⟩
      obtain ⟨-, rfl⟩ := List.mem_replicate.1 hl
      intro x hx
      simp at hx
    have cM := Lib.hid (refmay15_calls S _ _ _ _ hP6 hFS)
    have hSP := Lib.hid hS
    have hsc : sagaC S (.slice A want.length c) (.slice (some ⟨w.heap.size + 1, 0, none⟩) n n) (.slice (some ⟨W4.heap.size, 0, none⟩) 1 1) = #[.int .i64 order, .int .i64 first, .int .i64 n, .slice A want.length c, .bool waits, .int .i64 1, .int .i64 1, .slice (some ⟨w.heap.size + 1, 0, none⟩) n n, .slice (some ⟨W4.heap.size, 0, none⟩) 1 1, .bool false] := by rw [hS]; rfl
    rw [hsc] at cM
    rw [← hS]
    have HG6 := Lib.hid hG6
    have HS6 := Lib.hid hs6
    have HO6 := Lib.hid ho6
    have HOR6 := Lib.hid hoR6
    have HB6 := Lib.hid hB6
    have HSC := Lib.hid hsc
    clear hS hFS hPm hP6 hG6 ho6 hoR6 hB6 hrow6 hs6 hrow5 hs5 hB5 hoR5 hal5 hal6 hrow4' hrow4 hoR4 hB4 hgr4 hal hoR hsc
    go_enter Tryz.func32, Tryz.ntmps32
    go_wp2_with (refine wpList_load_obg (by rfl) _ _ rfl rfl _ HO6.out Tryz.underlying26 rfl (by kernel_rfl) ?_)
    refine cM.out.mono ?_
    rintro e W7 ⟨rfl, hb7⟩
    have hoR7 := HOR6.out.same hb7
    have hB7 := HB6.out.trans (hb7.mono HB6.out.size)
    have hob7 := HO6.out.same hb7
    have hG7 := HG6.out.mono hb7 hb7.size
    have hS7 := HS6.out.mono (hb7.mono (by omega)) (show W4.heap.size + 1 ≤ W7.heap.size by have := hb7.size; omega)
    generalize hm : mayS S = m
    have HM := Lib.hid hm
    clear hm
    have hs7 := hoR7.lt
    have HZ34 := Lib.hid hz34
    clear hmk hz34 hz5 hz6
    cases m with
    | false =>
      go_wp2_with (refine wpList_store_ob (cells := #[.int .i64 0, .int .i64 0, .int .i64 0, .slice none 0 0, .bool false, .int .i64 0, .int .i64 0, .slice none 0 0, .slice none 0 0, .bool false]) rfl 26 (.tmp 10) (.tmp 34) rfl rfl rfl hoR7 rfl (by kernel_rfl) (by simp [Value.oneCell']) ?_; intro W8 ho8 hg8)
      have hBf := hB7.grown hg8 (by omega) (fun g e => by have e2 : w.heap.size = g := Option.some.inj e; omega)
      obtain ⟨p0, p1, p2, p3, p4, p5, p6, p7, p8, p9⟩ := ob_ten ho8
      refine bodyPost_ret (v := .tuple #[.agg (sagaC saga0 nilS nilS nilS), nilS, .int .i64 1]) ?_ rfl ⟨by unfold beginU; rw [HM.out]; exact rfl, hBf⟩
      simp [results, Tryz.f32, go_sem, sagaC, saga0, nilS, p0, p1, p2, p3, p4, p5, p6, p7, p8, p9]
    | true =>
      have hal8 := (Below.refl W7.heap.size W7).alloc (Nat.le_refl _) (.cells #[.int .i64 3, .int .i64 first, .slice A want.length c, .int .i64 0] 52)
      have hst8 : Sl (W7.alloc (.cells #[.int .i64 3, .int .i64 first, .slice A want.length c, .int .i64 0] 52)) W7.heap.size (W7.heap.size + 1) 4 (.slice (some ⟨W7.heap.size, 0, none⟩) 1 1) 1 [.int .i64 3, .int .i64 first, .slice A want.length c, .int .i64 0] := Sl.new W7 #[.int .i64 3, .int .i64 first, .slice A want.length c, .int .i64 0] 52 (size := 4) (n := 1) rfl (by unfold maxLen; omega)
      have hoR8 := hoR7.same hal8
      have hG8 := hG7.mono hal8 hal8.size
      have hS8 := hS7.mono hal8 hal8.size
      have hB8 := hB7.trans (hal8.mono hB7.size)
      have hz8 : (W7.alloc (.cells #[.int .i64 3, .int .i64 first, .slice A want.length c, .int .i64 0] 52)).heap.size = W7.heap.size + 1 := World.size_alloc _ _
      go_wp2_with (first
        | (refine wpList_load_obg (by rfl) _ _ rfl rfl _ hob7 Tryz.underlying26 rfl (by kernel_rfl) ?_)
        | (refine wpList_store_ob (cells := #[.int .i64 order, .int .i64 first, .int .i64 n, .slice A want.length c, .bool waits, .int .i64 1, .int .i64 1, .slice (some ⟨w.heap.size + 1, 0, none⟩) n n, .slice (some ⟨W4.heap.size, 0, none⟩) 1 1, .bool false]) rfl 26 (.tmp 10) (.tmp 35) rfl rfl rfl hoR8 rfl (by kernel_rfl) (by simp [Value.oneCell']) ?_; intro W9 ho9 hg9))
      have hs9 := hg9.size
      have hz34 := HZ34.out
      have hk9 := Kept.of_grown (Fr := fun i => i < (W7.alloc (.cells #[.int .i64 3, .int .i64 first, .slice A want.length c, .int .i64 0] 52)).heap.size ∧ i ≠ w.heap.size) hg9 fun i hi => ⟨hi.1, fun e => hi.2 (by cases e; rfl)⟩
      have hB9 := hB8.grown hg9 (by omega) (fun g e => by have e2 : w.heap.size = g := Option.some.inj e; omega)
      have hG9 := (hG8.kept hk9 fun i ha hb => ⟨hb, by omega⟩).wide (Nat.zero_le _) hs9
      have hS9 := (hk9.sl hS8 fun i ha hb => ⟨hb, by omega⟩).wide (Nat.zero_le _) hs9
      have hst9 := (hk9.sl hst8 fun i ha hb => ⟨by omega, by omega⟩).wide (Nat.zero_le _) (show W7.heap.size + 1 ≤ W9.heap.size by omega)
      have hP9 : Parts W9 0 W9.heap.size S (.slice A want.length c) (.slice (some ⟨w.heap.size + 1, 0, none⟩) n n) (.slice (some ⟨W4.heap.size, 0, none⟩) 1 1) := by
        rw [hSP.out]
        exact ⟨HW.out _ hB9, hG9, hS9⟩
      have hT9 : StepsAt W9 0 W9.heap.size (.slice (some ⟨W7.heap.size, 0, none⟩) 1 1) [⟨3, first, want, 0⟩] := by
        refine ⟨[.slice A want.length c], rfl, hst9, fun k hk => ?_⟩
        have : k = 0 := by simp at hk; omega
        subst this
        exact HW.out _ hB9
      obtain ⟨p0, p1, p2, p3, p4, p5, p6, p7, p8, p9⟩ := ob_ten ho9
      have hSw : S.want = want ∧ S.first = first := by rw [hSP.out]; exact ⟨rfl, rfl⟩
      refine bodyPost_ret (v := .tuple #[.agg (sagaC S (.slice A want.length c) (.slice (some ⟨w.heap.size + 1, 0, none⟩) n n) (.slice (some ⟨W4.heap.size, 0, none⟩) 1 1)), .slice (some ⟨W7.heap.size, 0, none⟩) 1 1, .int .i64 0]) ?_ rfl ⟨by unfold beginU; rw [HM.out, hSw.1, hSw.2]; exact ⟨_, _, _, _, rfl, hP9, hT9⟩, hB9⟩
      rw [HSC.out]
      simp [results, Tryz.f32, go_sem, p0, p1, p2, p3, p4, p5, p6, p7, p8, p9]
end Sa
end Go.Proofs.YthfpfomifebpbaaGreat

namespace Go.Proofs.YthfpfomifebpbaaGreat
open Go.RowKit Go.Maps
namespace Sa
open It
set_option linter.unusedSimpArgs false

instance : DecidableEq Step := fun a b =>
  if h : a.kind = b.kind ∧ a.region = b.region ∧ a.items = b.items ∧ a.state = b.state then
    isTrue (by
      obtain ⟨a1, a2, a3, a4⟩ := a
      obtain ⟨b1, b2, b3, b4⟩ := b
      obtain ⟨rfl, rfl, rfl, rfl⟩ := h
      rfl)
  else isFalse fun e => h (by rw [e]; exact ⟨rfl, rfl, rfl, rfl⟩)
theorem steps_of_getD {a b : List Step} (hl : a.length = b.length) (h : ∀ j, j < a.length → a.getD j step0 = b.getD j step0) : a = b := by
  apply List.ext_getElem hl
  intro i h1 h2
  have := h i h1
  simpa [List.getD, h1, h2] using this

set_option maxRecDepth 100000 in
set_option maxHeartbeats 8000000 in
theorem samesteps_calls (a b : List Step) (va vb : Value) (w : World) (ha : StepsAt w 0 w.heap.size va a) (hb : StepsAt w 0 w.heap.size vb b) :
    Calls Tryz.prog 12 #[va, vb] w fun e w' => e = .returned (.bool (decide (a = b))) ∧ Below w.heap.size w w' := by
  have HA := Lib.hid ha
  have HB := Lib.hid hb
  obtain ⟨A, c, rfl, hc1, hc2⟩ := ha.form
  obtain ⟨A', c', rfl, hc1', hc2'⟩ := hb.form
  unfold maxLen at hc2 hc2'
  clear ha hb
  have hmx : Tryz.prog.follows .mixedOrders = true := by kernel_rfl
  by_cases hl : a.length = b.length
  · have hln : ((a.length : Int) == (b.length : Int)) = true := by simp; omega
    have hln2 : ((a.length : Int) != (b.length : Int)) = false := by simp; omega
    have hln3 : decide ((a.length : Int) = (b.length : Int)) = true := decide_eq_true (by omega)
    have HL := Lib.hid hl
    clear hl
    go_enter Tryz.func12, Tryz.ntmps12
    go_wp2
    go_loopw [5] (fun i wr => ∃ k : Nat, k ≤ a.length ∧ i = .int .i64 k ∧ (∀ j, j < k → a.getD j step0 = b.getD j step0) ∧ Below w.heap.size w wr) (fun i _ => a.length - (intOf i).toNat)
    case atStart => exact ⟨0, by omega, rfl, (fun j hj => by omega), Below.refl _ _⟩
    case round =>
      obtain ⟨k, hk, rfl, hm, hW⟩ := hrel
      by_cases hlt : k < a.length
      · have hltb : k < b.length := by have := HL.out; omega
        have hd : decide ((k : Int) < (a.length : Int)) = true := decide_eq_true (by omega)
        have hd' : decide ((k : Int) < (b.length : Int)) = true := decide_eq_true (by omega)
        have hdr : Below wr.heap.size wr wr.drew := (Below.refl _ _).drew
        obtain ⟨p, o, xv, rfl, -, hp, g0, g1, g2, g3, hx⟩ := (HA.out.later hW).cellAt hlt
        obtain ⟨p', o', yv, rfl, -, hp', f0, f1, f2, f3, hy⟩ := (HB.out.later hW).cellAt hltb
        have hno : a.getD k step0 ≠ b.getD k step0 → decide (a = b) = false := fun h => decide_eq_false fun e => h (by rw [e])
        have hye : a.getD k step0 = b.getD k step0 → ∀ j, j < k + 1 → a.getD j step0 = b.getD j step0 := fun h => allTo_snoc hm h
        generalize a.getD k step0 = x at hno hye g0 g1 g2 g3 hx
        generalize b.getD k step0 = y at hno hye f0 f1 f2 f3 hy
        obtain ⟨xk, xr, xi, xs⟩ := x
        obtain ⟨yk, yr, yi, ys⟩ := y
        dsimp only at g0 g1 g2 g3 hx f0 f1 f2 f3 hy
        have cE := Lib.hid (fun V (h : Below wr.drew.heap.size wr.drew V) => refsame_calls xi yi xv yv V (hx.mono (hdr.trans h) (by have := h.size; have : wr.drew.heap.size = wr.heap.size := rfl; omega)) (hy.mono (hdr.trans h) (by have := h.size; have : wr.drew.heap.size = wr.heap.size := rfl; omega)))
        obtain ⟨A7, c7, rfl, -⟩ := hx.form
        obtain ⟨B7, d7, rfl, -⟩ := hy.form
        have HQ := Lib.hid (fun V (h : Below wr.drew.heap.size wr.drew V) => show V.cell? ⟨p, o + k * 4, none⟩ = some (.int .i64 xk) ∧ V.cell? ⟨p, o + k * 4 + 1, none⟩ = some (.int .i64 xr) ∧ V.cell? ⟨p, o + k * 4 + 2, none⟩ = some (.slice A7 xi.length c7) ∧ V.cell? ⟨p, o + k * 4 + 3, none⟩ = some (.int .i64 xs) ∧
            V.cell? ⟨p', o' + k * 4, none⟩ = some (.int .i64 yk) ∧ V.cell? ⟨p', o' + k * 4 + 1, none⟩ = some (.int .i64 yr) ∧ V.cell? ⟨p', o' + k * 4 + 2, none⟩ = some (.slice B7 yi.length d7) ∧ V.cell? ⟨p', o' + k * 4 + 3, none⟩ = some (.int .i64 ys) from
          ⟨(Below.cell (p := ⟨p, o + k * 4, none⟩) h hp).trans g0, (Below.cell (p := ⟨p, o + k * 4 + 1, none⟩) h hp).trans g1, (Below.cell (p := ⟨p, o + k * 4 + 2, none⟩) h hp).trans g2, (Below.cell (p := ⟨p, o + k * 4 + 3, none⟩) h hp).trans g3,
           (Below.cell (p := ⟨p', o' + k * 4, none⟩) h hp').trans f0, (Below.cell (p := ⟨p', o' + k * 4 + 1, none⟩) h hp').trans f1, (Below.cell (p := ⟨p', o' + k * 4 + 2, none⟩) h hp').trans f2, (Below.cell (p := ⟨p', o' + k * 4 + 3, none⟩) h hp').trans f3⟩)
        have HNO := Lib.hid hno
        have HYE := Lib.hid hye
        clear hno hye hx hy hm g0 g1 g2 g3 f0 f1 f2 f3
        have hws := hW.size
        rcases neq_cases xk yk with ⟨h0, x0, y0, z0⟩ | ⟨h0, x0, y0, z0⟩
        rotate_left
        · have HD := Lib.hid (HNO.out fun e => h0 (by injection e))
          clear h0
          go_wp2
          refine Pu.regionW (fun Wq => Below wr.drew.heap.size wr.drew Wq) hmx (by kernel_rfl) (by kernel_rfl) (Below.refl _ _) rfl ?_
          repeat (first
            | (refine Pu.Walk.off (by rfl) ?_; simp only [Act.put, List.setIfInBounds_toArray, List.set_cons_succ, List.set_cons_zero])
            | (apply Pu.Walk.on (by rfl)
               · intro V1 hV1
                 obtain ⟨a0, a1, a2, a3, b0, b1, b2, b3⟩ := HQ.out V1 hV1
                 go_wp2_with (go_at_call 35; refine (cE.out V1 hV1).mono ?_; rintro e V2 ⟨rfl, hb⟩; replace hV1 := hV1.trans (hb.mono hV1.size); clear hb)
                 refine ⟨rfl, ?_, hV1⟩
                 try simp only [Act.put, List.setIfInBounds_toArray, List.set_cons_succ, List.set_cons_zero]
                 rfl
               simp only [Act.put, List.setIfInBounds_toArray, List.set_cons_succ, List.set_cons_zero]))
          refine Pu.Walk.nil (fun V h1 => ?_)
          have hBV : Below w.heap.size w V := (hW.drew).trans (h1.mono hws)
          go_wp2
          go_ret
          exact ⟨by rw [HD.out]; rfl, hBV⟩
        rcases neq_cases xr yr with ⟨h1, x1, y1, z1⟩ | ⟨h1, x1, y1, z1⟩
        rotate_left
        · have HD := Lib.hid (HNO.out fun e => h1 (by injection e))
          clear h0 h1
          go_wp2
          refine Pu.regionW (fun Wq => Below wr.drew.heap.size wr.drew Wq) hmx (by kernel_rfl) (by kernel_rfl) (Below.refl _ _) rfl ?_
          repeat (first
            | (refine Pu.Walk.off (by rfl) ?_; simp only [Act.put, List.setIfInBounds_toArray, List.set_cons_succ, List.set_cons_zero])
            | (apply Pu.Walk.on (by rfl)
               · intro V1 hV1
                 obtain ⟨a0, a1, a2, a3, b0, b1, b2, b3⟩ := HQ.out V1 hV1
                 go_wp2_with (go_at_call 35; refine (cE.out V1 hV1).mono ?_; rintro e V2 ⟨rfl, hb⟩; replace hV1 := hV1.trans (hb.mono hV1.size); clear hb)
                 refine ⟨rfl, ?_, hV1⟩
                 try simp only [Act.put, List.setIfInBounds_toArray, List.set_cons_succ, List.set_cons_zero]
                 rfl
               simp only [Act.put, List.setIfInBounds_toArray, List.set_cons_succ, List.set_cons_zero]))
          refine Pu.Walk.nil (fun V h1 => ?_)
          have hBV : Below w.heap.size w V := (hW.drew).trans (h1.mono hws)
          go_wp2
          go_ret
          exact ⟨by rw [HD.out]; rfl, hBV⟩
        rcases neq_cases xs ys with ⟨h2, x2, y2, z2⟩ | ⟨h2, x2, y2, z2⟩
        rotate_left
        · have HD := Lib.hid (HNO.out fun e => h2 (by injection e))
          clear h0 h1 h2
          go_wp2
          refine Pu.regionW (fun Wq => Below wr.drew.heap.size wr.drew Wq) hmx (by kernel_rfl) (by kernel_rfl) (Below.refl _ _) rfl ?_
          repeat (first
            | (refine Pu.Walk.off (by rfl) ?_; simp only [Act.put, List.setIfInBounds_toArray, List.set_cons_succ, List.set_cons_zero])
            | (apply Pu.Walk.on (by rfl)
               · intro V1 hV1
                 obtain ⟨a0, a1, a2, a3, b0, b1, b2, b3⟩ := HQ.out V1 hV1
                 go_wp2_with (go_at_call 35; refine (cE.out V1 hV1).mono ?_; rintro e V2 ⟨rfl, hb⟩; replace hV1 := hV1.trans (hb.mono hV1.size); clear hb)
                 refine ⟨rfl, ?_, hV1⟩
                 try simp only [Act.put, List.setIfInBounds_toArray, List.set_cons_succ, List.set_cons_zero]
                 rfl
               simp only [Act.put, List.setIfInBounds_toArray, List.set_cons_succ, List.set_cons_zero]))
          refine Pu.Walk.nil (fun V h1 => ?_)
          have hBV : Below w.heap.size w V := (hW.drew).trans (h1.mono hws)
          go_wp2
          go_ret
          exact ⟨by rw [HD.out]; rfl, hBV⟩
        have HI := Lib.hid (And.intro h0 (And.intro h1 h2))
        clear h0 h1 h2
        generalize hq : decide (xi = yi) = q at cE
        have HDQ := Lib.hid hq
        clear hq
        go_wp2
        refine Pu.regionW (fun Wq => Below wr.drew.heap.size wr.drew Wq) hmx (by kernel_rfl) (by kernel_rfl) (Below.refl _ _) rfl ?_
        repeat (first
          | (refine Pu.Walk.off (by rfl) ?_; simp only [Act.put, List.setIfInBounds_toArray, List.set_cons_succ, List.set_cons_zero])
          | (apply Pu.Walk.on (by rfl)
             · intro V1 hV1
               obtain ⟨a0, a1, a2, a3, b0, b1, b2, b3⟩ := HQ.out V1 hV1
               go_wp2_with (go_at_call 35; refine (cE.out V1 hV1).mono ?_; rintro e V2 ⟨rfl, hb⟩; replace hV1 := hV1.trans (hb.mono hV1.size); clear hb)
               refine ⟨rfl, ?_, hV1⟩
               try simp only [Act.put, List.setIfInBounds_toArray, List.set_cons_succ, List.set_cons_zero]
               rfl
             simp only [Act.put, List.setIfInBounds_toArray, List.set_cons_succ, List.set_cons_zero]))
        refine Pu.Walk.nil (fun V h1 => ?_)
        have hBV : Below w.heap.size w V := (hW.drew).trans (h1.mono hws)
        cases q with
        | false =>
          have HD := Lib.hid (HNO.out fun e => of_decide_eq_false HDQ.out (by injection e))
          go_wp2
          go_ret
          exact ⟨by rw [HD.out]; rfl, hBV⟩
        | true =>
          have HD := Lib.hid (HYE.out (by obtain ⟨rfl, rfl, rfl⟩ := HI.out; rw [of_decide_eq_true HDQ.out]))
          go_wp2
          go_roundw
          case rel => exact ⟨k + 1, by omega, by go_num, HD.out, hBV⟩
          case measure => simp [intOf]; omega
      · obtain rfl : k = a.length := by omega
        have HD := Lib.hid (show decide (a = b) = true from decide_eq_true (steps_of_getD HL.out hm))
        have hd : decide ((a.length : Int) < (a.length : Int)) = false := decide_eq_false (by omega)
        go_wp2
        go_ret
        exact ⟨by rw [HD.out]; rfl, hW⟩
  · have hln : ((a.length : Int) != (b.length : Int)) = true := by rw [bne_iff_ne]; omega
    have HD := Lib.hid (show decide (a = b) = false from decide_eq_false fun h => hl (by rw [h]))
    clear hl
    go_enter Tryz.func12, Tryz.ntmps12
    go_wp2
    go_ret
    exact ⟨by rw [HD.out]; rfl, Below.refl _ _⟩
end Sa
end Go.Proofs.YthfpfomifebpbaaGreat

namespace Go.Proofs.YthfpfomifebpbaaGreat
open Go.RowKit Go.Maps
namespace Sa
open It
set_option linter.unusedSimpArgs false

def outS : Except Int (Saga × List Step) → Saga
  | .error _ => saga0
  | .ok u => u.1
def outL : Except Int (Saga × List Step) → List Step
  | .error _ => []
  | .ok u => u.2
def outE : Except Int (Saga × List Step) → Int
  | .error x => x
  | .ok _ => 0
theorem parts0 (w : World) (lo B : Nat) : Parts w lo B saga0 nilS nilS nilS := ⟨ItemsAt.nil _ _ _, GotAt.nil _ _ _, Sl.nil _ _ _ _⟩
theorem Ret3.all {lo : Nat} {W : World} {e : Ending} {r : Except Int (Saga × List Step)} (h : Ret3 lo W e r) :
    ∃ vw vg vp vl, e = .returned (.tuple #[.agg (sagaC (outS r) vw vg vp), vl, .int .i64 (outE r)]) ∧ Parts W lo W.heap.size (outS r) vw vg vp ∧ StepsAt W lo W.heap.size vl (outL r) := by
  cases r with
  | error x => exact ⟨_, _, _, _, h, parts0 _ _ _, StepsAt.nil _ _ _⟩
  | ok u =>
    obtain ⟨vw, vg, vp, vl, rfl, hP, hS⟩ := h
    exact ⟨_, _, _, _, rfl, hP, hS⟩

abbrev zeroS : Array Value := #[.int .i64 0, .int .i64 0, .int .i64 0, .slice none 0 0, .bool false, .int .i64 0, .int .i64 0, .slice none 0 0, .slice none 0 0, .bool false]

end Sa
end Go.Proofs.YthfpfomifebpbaaGreat
