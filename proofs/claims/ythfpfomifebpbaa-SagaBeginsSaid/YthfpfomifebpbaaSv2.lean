/-
  saga: plain: a saga that may be goes on to one that may be.
  saga: the document's Begin.
  saga: the law's sameSteps.
  saga: the law SagaBegins.
  the row SagaBegins: for every input the call returns true, and the arguments read as they did.
  saga: plain: which state comes behind one.
  life: the walks of Code and of the reference's Reach.
  life: the walk of Reach, with its closure that calls itself.
  life: the walks of lives and of four laws.
  saga: the law LifeNexts.
  the row LifeNexts: for every input the call returns true, and the arguments read as they did.
-/
import Derived.Test.YthfpfomifebpbaaSv1
import Derived.Test.YthfpfomifebpbaaSs7
import Derived.Test.YthfpfomifebpbaaSs3
import Derived.Laws.EntriesVeiled

set_option linter.unusedVariables false
set_option linter.unusedSimpArgs false
namespace Go.Proofs.Ythfpfomifebpbaa
open Go.RowKit Go.Maps
namespace Sa
open It

-- numbers of all goods
theorem tot_flat (k : Bs) : ∀ L : List (List It.Item), tot k L.flatten = sumT k L
  | [] => rfl
  | l :: L => by rw [List.flatten_cons, tot_append, tot_flat k L]; rfl
theorem sumN_append (a b : List It.Item) : sumN (a ++ b) = sumN a + sumN b := by
  induction a with
  | nil => simp [sumN]
  | cons x a ih => show x.2 + sumN (a ++ b) = x.2 + sumN a + sumN b; rw [ih]; omega
theorem sumN_flat : ∀ L : List (List It.Item), sumN L.flatten = sumG L
  | [] => rfl
  | l :: L => by rw [List.flatten_cons, sumN_append, sumN_flat L]; rfl
theorem sumK_le {a b c : List It.Item} (h : ∀ k, tot k c ≤ tot k a + tot k b) : ∀ ks : List Bs, sumK c ks ≤ sumK a ks + sumK b ks
  | [] => Int.le_refl _
  | k :: r => by
    have h1 := h k
    have h2 := sumK_le h r
    simp only [sumK]
    omega
theorem sumK_lt {a b c : List It.Item} (h : ∀ k, tot k c ≤ tot k a + tot k b) {k0 : Bs} (h0 : tot k0 c < tot k0 a + tot k0 b) : ∀ ks : List Bs, k0 ∈ ks → sumK c ks < sumK a ks + sumK b ks
  | [], hk => by simp at hk
  | k :: r, hk => by
    have h1 := h k
    simp only [sumK]
    rcases List.mem_cons.1 hk with rfl | hk
    · have h2 := sumK_le h r
      omega
    · have h2 := sumK_lt h h0 r hk
      omega
theorem sumN_lt {a b c : List It.Item} (h : ∀ k, tot k c ≤ tot k a + tot k b) {k0 : Bs} (h0 : tot k0 c < tot k0 a + tot k0 b) : sumN c < sumN a + sumN b := by
  have hn : (ksOf ((a ++ b ++ c).map key)).Nodup := by
    rw [List.nodup_iff_pairwise_ne]
    refine (ksOf_sorted _).imp fun {x y} h e => ?_
    rw [e] at h
    exact bs_irr _ h
  have hmem : ∀ x, x ∈ a ++ b ++ c → key x ∈ ksOf ((a ++ b ++ c).map key) := fun x hx => (ksOf_mem _ _).2 (List.mem_map_of_mem hx)
  have ha := sumK_eq hn a fun x hx => hmem x (by simp [hx])
  have hb := sumK_eq hn b fun x hx => hmem x (by simp [hx])
  have hc := sumK_eq hn c fun x hx => hmem x (by simp [hx])
  have hk : k0 ∈ ksOf ((a ++ b ++ c).map key) := by
    rw [ksOf_mem]
    apply Decidable.byContradiction
    intro hno
    rw [List.map_append, List.map_append, List.mem_append, List.mem_append] at hno
    have e1 := tot_out (k := k0) (l := a) fun h => hno (.inl (.inl h))
    have e2 := tot_out (k := k0) (l := b) fun h => hno (.inl (.inr h))
    have e3 := tot_out (k := k0) (l := c) fun h => hno (.inr h)
    omega
  have := sumK_lt h h0 _ hk
  omega
/-- what regions hold is wanted, of each good -/
def Wanted (want : List It.Item) (L : List (List It.Item)) : Prop := ∀ k, sumT k L ≤ tot k want
theorem wanted_iff {want : List It.Item} {L : List (List It.Item)} (hw : M want) (hL : ∀ l ∈ L, M l) : sumG L = sumN want - sumN (leftR want L) ↔ Wanted want L := by
  obtain ⟨h1, h2⟩ := leftR_M hw hL
  constructor
  · intro hs k
    apply Decidable.byContradiction
    intro hk
    have := sumN_lt (a := leftR want L) (b := L.flatten) (c := want) (fun k => by rw [tot_flat, h2]; omega) (k0 := k) (by rw [tot_flat, h2]; have := hw.nonneg k; omega)
    rw [sumN_flat] at this
    omega
  · intro hk
    have := sumN_add (a := leftR want L) (b := L.flatten) (c := want) (fun k => by rw [tot_flat, h2]; have := hk k; omega)
    rw [sumN_flat] at this
    omega
theorem mayS_iff {s : Saga} : mayS s = true ↔ RHead s ∧ Wanted s.want s.got ∧ bodyAt s s.state = true := by
  constructor
  · intro h
    have hr : RHead s := by
      cases hh : refHead s with
      | true => exact rhead_of hh
      | false => rw [refHead_no hh] at h; cases h
    obtain ⟨-, hb⟩ := mayS_split h
    refine ⟨hr, ?_, hb⟩
    unfold mayS at h
    rw [Bool.and_eq_true, okHead_sum hr, decide_eq_true_eq] at h
    exact (wanted_iff hr.M.1 hr.M.2.1).1 h.1
  · rintro ⟨hr, hw, hb⟩
    unfold mayS
    rw [Bool.and_eq_true, okHead_sum hr, decide_eq_true_eq]
    exact ⟨(wanted_iff hr.M.1 hr.M.2.1).2 hw, hb⟩
/-- a head does not hang on the state, and who is pending -/
theorem RHead.of {s t : Saga} (h : RHead s) (h1 : t.order = s.order) (h2 : t.first = s.first) (h3 : t.regions = s.regions) (h4 : t.want = s.want) (h5 : (t.got.length : Int) = s.regions) (h6 : ∀ l ∈ t.got, may l = true) (h7 : 1 ≤ t.asked ∧ t.asked ≤ s.regions) : RHead t := by
  have hm := h.all
  unfold mayAll at hm
  simp only [Bool.and_eq_true, decide_eq_true_eq] at hm
  have := h.r2
  exact ⟨h1 ▸ h.o1, h1 ▸ h.o2, h3 ▸ h.r1, h3 ▸ h.r2, h2 ▸ h.f1, by rw [h2, h3]; exact h.f2, h4 ▸ h.want, by rw [h3]; exact h5, h7.1, by rw [h3]; exact h7.2, mayAll_of (h4 ▸ hm.1.1) h6 (by omega)⟩
theorem RHead.may {s : Saga} (h : RHead s) : ∀ l ∈ s.got, may l = true := fun l hl => (may_iff l).2 (h.M.2.1 l hl)

-- who is pending
theorem idx_none {r : Int} {l : List Int} : Life.idxOf r l ≠ -1 ↔ r ∈ l := by
  have h := Life.inL_iff r l
  unfold Life.inL at h
  rcases idx_cases r l with e | ⟨i, hi, e, hg⟩
  · rw [e] at h ⊢
    have : ¬ r ∈ l := fun hm => by rw [decide_eq_true hm] at h; cases h
    simp [this]
  · rw [e] at h ⊢
    have : r ∈ l := by rw [← hg, getD_get hi]; exact List.getElem_mem hi
    simp [this]
    try omega
theorem take_off {r : Int} {l : List Int} (hl : l.Pairwise (· < ·)) (hr : r ∈ l) : takeOff r l = l.filter fun x => decide (x ≠ r) := by
  rcases idx_cases r l with e | ⟨i, hi, e, hg⟩
  · exact absurd e (idx_none.2 hr)
  unfold takeOff delAt
  rw [e, Int.toNat_natCast]
  rw [getD_get hi] at hg
  have hp := List.pairwise_iff_getElem.1 hl
  conv => rhs; rw [← List.take_append_drop i l, List.drop_eq_getElem_cons hi, List.filter_append, List.filter_cons]
  have e1 : (l.take i).filter (fun x => decide (x ≠ r)) = l.take i := by
    rw [List.filter_eq_self]
    intro x hx
    obtain ⟨j, hj, rfl⟩ := List.getElem_of_mem hx
    rw [List.length_take] at hj
    rw [List.getElem_take]
    have := hp j i (by omega) hi (by omega)
    simp only [ne_eq, decide_not, Bool.not_eq_true', decide_eq_false_iff_not]
    omega
  have e2 : (l.drop (i + 1)).filter (fun x => decide (x ≠ r)) = l.drop (i + 1) := by
    rw [List.filter_eq_self]
    intro x hx
    obtain ⟨j, hj, rfl⟩ := List.getElem_of_mem hx
    rw [List.length_drop] at hj
    rw [List.getElem_drop]
    have := hp i (i + 1 + j) hi (by omega) (by omega)
    simp only [ne_eq, decide_not, Bool.not_eq_true', decide_eq_false_iff_not]
    omega
  rw [e1, e2, if_neg (by simp [hg])]
theorem holders_iff {L : List (List It.Item)} {x : Int} : x ∈ holders L ↔ 0 ≤ x ∧ x < L.length ∧ L.getD x.toNat [] ≠ [] := by
  constructor
  · intro h
    obtain ⟨i, rfl, hi, hl⟩ := holders_mem h
    refine ⟨by omega, by omega, ?_⟩
    rw [Int.toNat_natCast]
    exact List.ne_nil_of_length_pos hl
  · rintro ⟨h0, h1, h2⟩
    unfold holders holdersTo
    refine List.mem_map.2 ⟨x.toNat, List.mem_filter.2 ⟨List.mem_range.2 (by omega), ?_⟩, by omega⟩
    rw [decide_eq_true_eq]
    exact List.length_pos_iff.2 h2
theorem getD_set {L : List (List It.Item)} {r i : Nat} {l : List It.Item} (hr : r < L.length) : (L.set r l).getD i [] = if i = r then l else L.getD i [] := by
  unfold List.getD
  rw [List.getElem?_set]
  by_cases h : r = i
  · subst h
    rw [if_pos rfl, if_pos rfl, if_pos hr]
    rfl
  · rw [if_neg h, if_neg fun e => h e.symm]
theorem holders_set {L : List (List It.Item)} {r : Int} {l : List It.Item} (hr : 0 ≤ r ∧ r < L.length) {x : Int} : x ∈ holders (L.set r.toNat l) ↔ (x = r ∧ l ≠ []) ∨ (x ≠ r ∧ x ∈ holders L) := by
  rw [holders_iff, holders_iff, getD_set (by omega), List.length_set]
  by_cases h : x = r
  · subst h
    rw [if_pos rfl]
    simp [hr]
  · by_cases h0 : 0 ≤ x
    · rw [if_neg (by omega)]
      simp [h]
    · simp [h, h0]
theorem up_uniq {a b : List Int} (ha : a.Pairwise (· < ·)) (hb : b.Pairwise (· < ·)) (h : ∀ x, x ∈ a ↔ x ∈ b) : a = b :=
  uniq (r := fun a b : Int => a < b) (fun _ => Int.lt_irrefl _) (fun _ _ => Int.lt_asymm) ha hb h
theorem holders_free {L : List (List It.Item)} {r : Int} (hr : 0 ≤ r ∧ r < L.length) : holders (L.set r.toNat []) = (holders L).filter fun x => decide (x ≠ r) := by
  refine up_uniq (holders_up _) ((holders_up L).filter _) fun x => ?_
  rw [holders_set hr, List.mem_filter]
  simp [and_comm]
theorem sumT_none {k : Bs} {L : List (List It.Item)} (h : holders L = []) : sumT k L = 0 := by
  have hall : ∀ l ∈ L, l = [] := fun l hl => by
    obtain ⟨i, hi, rfl⟩ := List.getElem_of_mem hl
    apply Decidable.byContradiction
    intro hn
    have : ((i : Nat) : Int) ∈ holders L := holders_iff.2 ⟨by omega, by omega, by rw [Int.toNat_natCast, getD_get hi]; exact hn⟩
    rw [h] at this
    simp at this
  clear h
  induction L with
  | nil => rfl
  | cons l L ih =>
    rw [sumT_cons, hall l (by simp), ih fun x hx => hall x (List.mem_cons_of_mem _ hx)]
    rfl
theorem wanted_none {s : Saga} (h : RHead s) (hl : leftN s = 0) : holders s.got ≠ [] := by
  intro e
  obtain ⟨hw, hL, -⟩ := h.M
  obtain ⟨h1, h2⟩ := leftR_M hw hL
  have hwn : s.want ≠ [] := List.ne_nil_of_length_pos h.want
  have h3 := (sumN_pos hw).2 hwn
  have h4 : sumN (leftR s.want s.got) = sumN s.want := by
    rw [M.ext h1 hw fun k => by rw [h2, sumT_none e]; have := hw.nonneg k; omega]
  unfold leftN at hl
  omega
theorem may_of {l : List It.Item} (h : M l) : may l = true := (may_iff l).2 h

-- what ends, and what undoes
theorem may_end {s : Saga} (h : RHead s) (hw : Wanted s.want s.got) (hh : holders s.got = []) : mayS (endS s) = true := by
  rw [mayS_iff]
  refine ⟨h.of rfl rfl rfl rfl h.got h.may ⟨h.a1, h.a2⟩, hw, ?_⟩
  have hl : (holders (endS s).got).length = 0 := by show (holders s.got).length = 0; rw [hh]; rfl
  show bodyAt (endS s) (endSt s) = true
  unfold endSt
  cases hc : s.cancelled with
  | true =>
    rw [if_pos rfl, bodyG]
    simp only [Bool.and_eq_true, decide_eq_true_eq]
    exact ⟨⟨hl, rfl⟩, hc⟩
  | false =>
    rw [if_neg (by simp)]
    have hc' : (endS s).cancelled = false := hc
    cases hq : s.waits with
    | true =>
      have hq' : (endS s).waits = true := hq
      rw [if_pos rfl, bodyW (.inl rfl), hc', hq', decide_eq_true hl]
      rfl
    | false =>
      have hq' : (endS s).waits = false := hq
      rw [if_neg (by simp), bodyW (.inr rfl), hc', hq', decide_eq_true hl]
      rfl
theorem may_undo {s : Saga} (h : RHead s) (hw : Wanted s.want s.got) : mayS (undoS s).1 = true := by
  unfold undoS
  split
  · rename_i e
    exact may_end h hw (List.eq_nil_of_length_eq_zero e)
  · rename_i e
    rw [mayS_iff]
    refine ⟨h.of rfl rfl rfl rfl h.got h.may ⟨h.a1, h.a2⟩, hw, ?_⟩
    show bodyAt (eachS s 4) 4 = true
    rw [bodyU]
    simp only [Bool.and_eq_true, Bool.not_eq_true', decide_eq_false_iff_not, decide_eq_true_eq]
    exact ⟨e, rfl⟩

theorem covers_left {a b : List It.Item} (ha : M a) (h : covers a b = true) : M b ∧ ∀ k, tot k b ≤ tot k a := by
  have h' := h
  unfold covers at h'
  simp only [Bool.and_eq_true] at h'
  have hb := M_of h'.1.2
  exact ⟨hb, (covers_iff ha hb).1 h⟩
/-- what a region's answer makes of what is held -/
theorem took_head {s : Saga} {l : List It.Item} {r : Int} (h : RHead s) (hw : Wanted s.want s.got) (hr : 0 ≤ r ∧ r < s.got.length) (h0 : s.got.getD r.toNat [] = []) (hc : covers (leftR s.want s.got) l = true) (t : Saga) (a : Int)
    (ht : t = { s with got := s.got.set r.toNat l, asked := a, pending := t.pending, state := t.state }) (ha : 1 ≤ a ∧ a ≤ s.regions) : RHead t ∧ Wanted t.want t.got ∧ leftR t.want t.got = It.eachL restF (leftR s.want s.got) l := by
  obtain ⟨hMw, hMg, h8⟩ := h.M
  obtain ⟨h1, h2⟩ := leftR_M hMw hMg
  obtain ⟨hMl, hle⟩ := covers_left h1 hc
  have hg : t.got = s.got.set r.toNat l := by rw [ht]
  have hwt : t.want = s.want := by rw [ht]
  refine ⟨h.of (by rw [ht]) (by rw [ht]) (by rw [ht]) hwt (by rw [hg, List.length_set]; exact h.got) (fun x hx => ?_) (by rw [ht]; exact ha), fun k => ?_, ?_⟩
  · rw [hg] at hx
    rcases List.mem_or_eq_of_mem_set hx with hx | rfl
    · exact h.may x hx
    · exact may_of hMl
  · rw [hg, hwt, sumT_set (by omega), h0]
    have h3 := hle k
    rw [h2] at h3
    have h4 := hw k
    have e : tot k ([] : List It.Item) = 0 := rfl
    omega
  · rw [hg, hwt]
    exact (left_set hMw hMg hMl (by omega) h0).symm
theorem may_held {t : Saga} (h : RHead t) (hw : Wanted t.want t.got) (hs : t.state = 2 ∨ t.state = 8 ∨ t.state = 10) (hl : (leftR t.want t.got).length = 0) (hp : t.pending.length = 0) (hc : t.cancelled = false) : mayS t = true := by
  rw [mayS_iff]
  refine ⟨h, hw, ?_⟩
  rw [bodyH h hs]
  have hl' : leftN t = 0 := by unfold leftN; rw [List.eq_nil_of_length_eq_zero hl]; rfl
  simp only [Bool.and_eq_true, Bool.not_eq_true', decide_eq_true_eq]
  exact ⟨⟨hl', hp⟩, hc⟩
theorem visit_get {f r : Int} {i : Nat} (h : i < (visit f r).length) : (visit f r).getD i 0 = (f + (i : Int)) % r := by
  rw [getD_get h]
  exact (visit_at h).1
theorem took_may {s : Saga} {e : Ev} {r : Saga × List Step} (hm : mayS s = true) (h : tookS s e = .ok r) : mayS r.1 = true := by
  obtain ⟨hh, hw, hb⟩ := mayS_iff.1 hm
  obtain ⟨hMw, hMg, h8⟩ := hh.M
  unfold tookS tookU at h
  split at h
  rotate_left
  · cases h
  rename_i hst
  obtain ⟨h1, hix⟩ := hst
  have hmem := idx_none.1 hix
  rw [missing_R hMw hMg h8] at h
  split at h
  rotate_left
  · cases h
  rename_i hc
  cases h
  have hr := (pend_in hm).1 _ hmem
  have h0 := asked_none hm h1 hmem
  rw [h1] at hb
  obtain ⟨hah, hleft, hp⟩ := (body1 hh).1 hb
  have hone : takeOff e.region s.pending = [] := by
    rw [hp] at hmem ⊢
    have he := List.mem_singleton.1 hmem
    rw [← he]
    unfold takeOff delAt Life.idxOf
    simp
  have hreg : e.region = (s.first + s.asked - 1) % s.regions := by
    rw [hp] at hmem
    exact List.mem_singleton.1 hmem
  rw [hone]
  have hb0 : both restF (leftR s.want s.got) e.items = It.eachL restF (leftR s.want s.got) e.items := both_of (leftR_M hMw hMg).1 (covers_left (leftR_M hMw hMg).1 hc).1
  rw [hb0]
  have a1 := hh.a1
  have a2 := hh.a2
  have ht := took_head hh hw ⟨hr.1, hr.2⟩ h0 hc
  unfold tookT
  split
  · obtain ⟨t1, t2, -⟩ := ht { s with pending := [], got := s.got.set e.region.toNat e.items } s.asked rfl ⟨a1, a2⟩
    exact may_undo t1 t2
  rename_i hcn
  have hcn' : s.cancelled = false := by simpa using hcn
  split
  · rename_i hl
    obtain ⟨t1, t2, t3⟩ := ht { s with pending := [], got := s.got.set e.region.toNat e.items, state := 2 } s.asked rfl ⟨a1, a2⟩
    exact may_held t1 t2 (.inl rfl) (by rw [t3]; exact hl) rfl hcn'
  split
  · rename_i hl hlt
    have hlt' : s.asked < s.regions := hlt
    have hv : ((visit s.first s.regions).length : Int) = s.regions := (mayS_split hm).1.visit
    have hnx : (visit s.first s.regions).getD s.asked.toNat 0 = (s.first + s.asked) % s.regions := by
      rw [visit_get (by omega)]
      congr 1
      omega
    dsimp only
    rw [hnx]
    obtain ⟨t1, t2, t3⟩ := ht { s with pending := [(s.first + s.asked) % s.regions], got := s.got.set e.region.toNat e.items, asked := s.asked + 1 } (s.asked + 1) rfl ⟨by omega, by omega⟩
    rw [mayS_iff]
    refine ⟨t1, t2, (congrArg (bodyAt _) h1).trans ((body1 t1).2 ⟨fun x hx => ?_, ?_, ?_⟩)⟩
    · rcases (holders_set ⟨hr.1, hr.2⟩).1 hx with ⟨rfl, -⟩ | ⟨-, hx⟩
      · show (e.region - s.first + s.regions) % s.regions < s.asked + 1 - 1
        have f1 := hh.f1
        have f2 := hh.f2
        rw [hreg, mod2 (x := s.first + s.asked - 1) (by omega) (by omega)]
        split
        · rw [mod2 (by omega) (by omega)]
          split <;> omega
        · rw [mod2 (by omega) (by omega)]
          split <;> omega
      · have := hah x hx
        show (x - s.first + s.regions) % s.regions < s.asked + 1 - 1
        omega
    · unfold leftN
      rw [t3]
      refine (sumN_pos (rest_M (leftR_M hMw hMg).1 (covers_left (leftR_M hMw hMg).1 hc).1)).2 ?_
      exact List.ne_nil_of_length_pos (by omega)
    · show [(s.first + s.asked) % s.regions] = [(s.first + (s.asked + 1) - 1) % s.regions]
      congr 2
      omega
  · obtain ⟨t1, t2, -⟩ := ht { s with pending := [], got := s.got.set e.region.toNat e.items } s.asked rfl ⟨a1, a2⟩
    exact may_undo t1 t2
theorem freed_may {s : Saga} {e : Ev} {r : Saga × List Step} (hm : mayS s = true) (h : freedS s e = .ok r) : mayS r.1 = true := by
  obtain ⟨hh, hw, hb⟩ := mayS_iff.1 hm
  obtain ⟨hMw, hMg, h8⟩ := hh.M
  unfold freedS at h
  split at h
  rotate_left
  · cases h
  rename_i hst
  obtain ⟨h1, hix⟩ := hst
  have hmem := idx_none.1 hix
  cases h
  have hr := (pend_in hm).1 _ hmem
  rw [h1, bodyU] at hb
  simp only [Bool.and_eq_true, Bool.not_eq_true', decide_eq_false_iff_not, decide_eq_true_eq] at hb
  have hp := hb.2
  rw [hp] at hmem
  have hoff : takeOff e.region s.pending = holders (s.got.set e.region.toNat []) := by
    rw [hp, take_off (holders_up _) hmem, holders_free ⟨hr.1, hr.2⟩]
  rw [hoff]
  obtain ⟨t, ht⟩ : ∃ t : Saga, t = { s with pending := holders (s.got.set e.region.toNat []), got := s.got.set e.region.toNat [] } := ⟨_, rfl⟩
  rw [← ht]
  have hg : t.got = s.got.set e.region.toNat [] := by rw [ht]
  have hwt : t.want = s.want := by rw [ht]
  have t1 : RHead t := hh.of (by rw [ht]) (by rw [ht]) (by rw [ht]) hwt (by rw [hg, List.length_set]; exact hh.got) (fun x hx => by
    rw [hg] at hx
    rcases List.mem_or_eq_of_mem_set hx with hx | rfl
    · exact hh.may x hx
    · exact may_of M_nil) ⟨by rw [ht]; exact hh.a1, by rw [ht]; exact hh.a2⟩
  have t2 : Wanted t.want t.got := fun k => by
    rw [hg, hwt, sumT_set (by omega)]
    have h4 := hw k
    have e0 : tot k ([] : List It.Item) = 0 := rfl
    have e1 : 0 ≤ tot k (s.got.getD e.region.toNat []) := by
      rw [getD_get (by omega)]
      exact (hMg _ (List.getElem_mem (by omega))).nonneg k
    omega
  have hpt : t.pending = holders t.got := by rw [ht]
  unfold freedT
  split
  · rename_i hl
    rw [hpt] at hl
    exact may_end t1 t2 (List.eq_nil_of_length_eq_zero hl)
  · rename_i hl
    rw [mayS_iff]
    refine ⟨t1, t2, ?_⟩
    have h4 : t.state = 4 := by rw [ht]; exact h1
    show bodyAt t t.state = true
    rw [h4, bodyU]
    simp only [Bool.and_eq_true, Bool.not_eq_true', decide_eq_false_iff_not, decide_eq_true_eq]
    exact ⟨by rw [← hpt]; exact hl, hpt⟩
theorem rises_up' {l all : List Int} (h : rises l all = true) : l.Pairwise (· < ·) ∧ ∀ x ∈ l, x ∈ all := by
  refine ⟨?_, fun x hx => rises_mem h hx⟩
  have h' := of_decide_eq_true h
  have step : ∀ i j, i < j → j < l.length → l.getD i 0 < l.getD j 0 := fun i j hij => by
    induction j with
    | zero => omega
    | succ j ih =>
      intro hj
      have h1 := (h' (j + 1) hj).1
      have h2 : l.getD j 0 < l.getD (j + 1) 0 := by
        rw [Nat.add_sub_cancel] at h1
        omega
      rcases Nat.lt_or_ge i j with h3 | h3
      · have := ih h3 (by omega)
        omega
      · obtain rfl : i = j := by omega
        exact h2
  rw [List.pairwise_iff_getElem]
  intro i j hi hj hij
  have := step i j hij hj
  rwa [getD_get hi, getD_get hj] at this
theorem did_may {s : Saga} {e : Ev} {r : Saga × List Step} {a b : Int} (hab : (a = 7 ∧ b = 8) ∨ (a = 9 ∧ b = 10)) (hm : mayS s = true) (h : didS s e a b = .ok r) : mayS r.1 = true := by
  obtain ⟨hh, hw, hb⟩ := mayS_iff.1 hm
  unfold didS didU at h
  split at h
  rotate_left
  · cases h
  rename_i hst
  obtain ⟨h1, hix⟩ := hst
  have hmem := idx_none.1 hix
  split at h
  rotate_left
  · cases h
  cases h
  have ha : a = 7 ∨ a = 9 := by omega
  rw [h1, bodyP hh ha] at hb
  simp only [Bool.and_eq_true, Bool.not_eq_true', decide_eq_false_iff_not, decide_eq_true_eq] at hb
  obtain ⟨⟨⟨hl, -⟩, hcn⟩, hris⟩ := hb
  obtain ⟨hup, hin⟩ := rises_up' hris
  have hoff := take_off hup hmem
  rw [hoff]
  have hleft : (leftR s.want s.got).length = 0 := by
    have hM := (leftR_M hh.M.1 hh.M.2.1).1
    apply Decidable.byContradiction
    intro hn
    have := (sumN_pos hM).2 fun e => hn (by rw [e]; rfl)
    unfold leftN at hl
    omega
  unfold didT
  split
  · rename_i hp
    exact may_held (hh.of rfl rfl rfl rfl hh.got hh.may ⟨hh.a1, hh.a2⟩) hw (by show b = 2 ∨ b = 8 ∨ b = 10; omega) hleft hp hcn
  · rename_i hp
    rw [mayS_iff]
    have t1 : RHead { s with pending := s.pending.filter fun x => decide (x ≠ e.region) } := hh.of rfl rfl rfl rfl hh.got hh.may ⟨hh.a1, hh.a2⟩
    refine ⟨t1, hw, (congrArg (bodyAt _) h1).trans ((bodyP t1 ha).trans ?_)⟩
    simp only [Bool.and_eq_true, Bool.not_eq_true', decide_eq_false_iff_not, decide_eq_true_eq]
    refine ⟨⟨⟨hl, hp⟩, hcn⟩, ?_⟩
    rw [rises_of (hup.filter _), decide_eq_true_eq]
    exact fun x hx => hin x (List.mem_filter.1 hx).1
theorem all_may {s : Saga} {r : Saga × List Step} {a b k : Int} (hab : (a = 2 ∧ b = 7) ∨ (a = 8 ∧ b = 9)) (hm : mayS s = true) (h : allS s a b k = .ok r) : mayS r.1 = true := by
  obtain ⟨hh, hw, hb⟩ := mayS_iff.1 hm
  unfold allS at h
  split at h
  rotate_left
  · cases h
  rename_i hst
  cases h
  rw [hst, bodyH hh (by omega)] at hb
  simp only [Bool.and_eq_true, Bool.not_eq_true', decide_eq_true_eq] at hb
  obtain ⟨⟨hl, -⟩, hcn⟩ := hb
  have t1 : RHead (eachS s b) := hh.of rfl rfl rfl rfl hh.got hh.may ⟨hh.a1, hh.a2⟩
  rw [mayS_iff]
  refine ⟨t1, hw, ?_⟩
  show bodyAt _ b = true
  rw [bodyP t1 (by omega)]
  simp only [Bool.and_eq_true, Bool.not_eq_true', decide_eq_false_iff_not, decide_eq_true_eq]
  refine ⟨⟨⟨hl, fun e => wanted_none hh hl (List.eq_nil_of_length_eq_zero e)⟩, hcn⟩, ?_⟩
  show rises (holders s.got) (holders s.got) = true
  rw [rises_of (holders_up _), decide_eq_true_eq]
  exact fun x hx => hx
theorem cancel_may {s : Saga} {r : Saga × List Step} (hm : mayS s = true) (h : cancelS s = .ok r) : mayS r.1 = true := by
  obtain ⟨hh, hw, hb⟩ := mayS_iff.1 hm
  have t1 : RHead { s with cancelled := true } := hh.of rfl rfl rfl rfl hh.got hh.may ⟨hh.a1, hh.a2⟩
  unfold cancelS cancelAt at h
  split at h
  · rename_i h14
    split at h
    · cases h
    · cases h
      rw [mayS_iff]
      refine ⟨t1, hw, ?_⟩
      rcases h14 with e | e
      · exact (congrArg (bodyAt _) e).trans ((body1 t1).2 ((body1 hh).1 ((congrArg (bodyAt s) e).symm.trans hb)))
      · exact (congrArg (bodyAt _) e).trans (bodyU.trans (bodyU.symm.trans ((congrArg (bodyAt s) e).symm.trans hb)))
  split at h
  · rename_i e
    cases h
    rw [e, bodyW (.inl rfl)] at hb
    simp only [Bool.and_eq_true, Bool.not_eq_true', decide_eq_true_eq] at hb
    exact may_end t1 hw (List.eq_nil_of_length_eq_zero hb.1.1.1)
  split at h
  · cases h
    exact may_undo t1 hw
  · cases h
theorem begin_may {order first regions : Int} {want : List It.Item} {waits : Bool} {r : Saga × List Step} (h : beginS order first regions want waits = .ok r) : mayS r.1 = true := by
  unfold beginS beginU at h
  split at h
  · cases h
  · split at h
    · rename_i hm
      cases h
      exact hm
    · cases h
theorem next_may {s : Saga} {e : Ev} {r : Saga × List Step} (h : nextS s e = .ok r) : mayS s = true ∧ mayS r.1 = true := by
  unfold nextS nextU at h
  split at h
  rotate_left
  · cases h
  rename_i hm
  refine ⟨hm, ?_⟩
  unfold happenS at h
  split at h
  · exact took_may hm h
  split at h
  · exact freed_may hm h
  split at h
  · exact cancel_may hm h
  split at h
  · unfold retryS at h
    split at h
    · exact begin_may h
    · cases h
  split at h
  · exact all_may (.inl ⟨rfl, rfl⟩) hm h
  split at h
  · exact did_may (.inl ⟨rfl, rfl⟩) hm h
  split at h
  · exact all_may (.inr ⟨rfl, rfl⟩) hm h
  split at h
  · exact did_may (.inr ⟨rfl, rfl⟩) hm h
  · cases h
end Sa
end Go.Proofs.Ythfpfomifebpbaa

namespace Go.Proofs.Ythfpfomifebpbaa
open Go.RowKit Go.Maps
namespace Sa
open It
set_option linter.unusedSimpArgs false

theorem beginS_ref {order first regions : Int} {want : List It.Item} {waits : Bool} (h : 1 ≤ regions ∧ regions ≤ 8) : beginS order first regions want waits = beginU (saga1 order first regions want waits) := by
  unfold beginS
  split
  · rename_i hv
    unfold beginU
    rw [if_neg]
    intro hm
    have := (mayS_split hm).1.visit
    have e : ((visit first regions).length : Int) = regions := this
    omega
  · rfl
theorem beginS_no {order first regions : Int} {want : List It.Item} {waits : Bool} (h : ¬ (1 ≤ regions ∧ regions ≤ 8)) : beginS order first regions want waits = .error 1 := by
  unfold beginS
  rw [if_pos (by rw [visit_none (by omega)]; rfl)]

theorem got_new {W : World} {B n : Nat} {v : Value} (h : W.ownsRow B 22 1 v n (List.replicate n nilS)) : GotAt W B W.heap.size v (List.replicate n []) := by
  refine ⟨List.replicate n nilS, by simp, ?_, fun k hk' => ?_⟩
  · have := Sl.of_own h
    simpa using this
  · have hk' : k < n := by simpa using hk'
    rw [show (List.replicate n nilS).getD k (.slice none 0 0) = nilS by simp [List.getD, hk'], show (List.replicate n ([] : List It.Item)).getD k [] = [] by simp [List.getD, hk']]
    exact ItemsAt.nil _ _ _
set_option maxRecDepth 100000 in
set_option maxHeartbeats 4000000 in
theorem refbegin_calls (order first regions : Int) (want : List It.Item) (waits : Bool) (vw : Value) (w : World) (hw : ItemsAt w 0 w.heap.size vw want) (hF : Fits want) :
    Calls Try.prog 11 #[.int .i64 order, .int .i64 first, .int .i64 regions, vw, .bool waits] w fun e w' => Ret3 0 w' e (beginS order first regions want waits) ∧ Below w.heap.size w w' := by
  obtain ⟨i0, hi0, hz0⟩ := Option.map_eq_some_iff.1 list_info
  simp only [Prod.mk.injEq] at hz0
  obtain ⟨hz0, hz1, hz2⟩ := hz0
  have HW := Lib.hid (fun W (hb : Below w.heap.size w W) => hw.mono hb hb.size)
  obtain ⟨A, c, rfl, -⟩ := hw.form
  clear hw
  have hal := (Below.refl w.heap.size w).alloc (Nat.le_refl _) (.cells #[.int .i64 0, .int .i64 0, .int .i64 0, .slice none 0 0, .bool false, .int .i64 0, .int .i64 0, .slice none 0 0, .slice none 0 0, .bool false] 27)
  have hoR := Ob.new w 27 #[.int .i64 0, .int .i64 0, .int .i64 0, .slice none 0 0, .bool false, .int .i64 0, .int .i64 0, .slice none 0 0, .slice none 0 0, .bool false]
  have hza : (w.alloc (.cells #[.int .i64 0, .int .i64 0, .int .i64 0, .slice none 0 0, .bool false, .int .i64 0, .int .i64 0, .slice none 0 0, .slice none 0 0, .bool false] 27)).heap.size = w.heap.size + 1 := World.size_alloc _ _
  by_cases hr : 1 ≤ regions ∧ regions ≤ 8
  rotate_left
  · rw [beginS_no hr]
    have hcs : regions < 1 ∨ (¬ regions < 1 ∧ regions > 8) := by omega
    clear hr
    rcases hcs with h1 | ⟨h1, h2⟩
    · have d1 : decide (regions < 1) = true := decide_eq_true h1
      clear h1
      go_enter Try.func11, Try.ntmps11
      go_wp2_with (refine wpList_store_ob (cells := #[.int .i64 0, .int .i64 0, .int .i64 0, .slice none 0 0, .bool false, .int .i64 0, .int .i64 0, .slice none 0 0, .slice none 0 0, .bool false]) rfl 27 (.tmp 10) (.tmp 20) rfl rfl rfl hoR rfl (by kernel_rfl) (by simp [Value.oneCell']) ?_; intro W8 ho8 hg8)
      have hBf := hal.grown hg8 (by omega) (fun g e => by have e2 : w.heap.size = g := Option.some.inj e; omega)
      obtain ⟨p0, p1, p2, p3, p4, p5, p6, p7, p8, p9⟩ := ob_ten ho8
      refine bodyPost_ret (v := .tuple #[.agg (sagaC saga0 nilS nilS nilS), nilS, .int .i64 1]) ?_ rfl ⟨rfl, hBf⟩
      simp [results, Try.f11, go_sem, sagaC, saga0, nilS, p0, p1, p2, p3, p4, p5, p6, p7, p8, p9]
    · have d1 : decide (regions < 1) = false := decide_eq_false h1
      have d2 : decide (regions > 8) = true := decide_eq_true h2
      clear h1 h2
      go_enter Try.func11, Try.ntmps11
      go_wp2_with (refine wpList_store_ob (cells := #[.int .i64 0, .int .i64 0, .int .i64 0, .slice none 0 0, .bool false, .int .i64 0, .int .i64 0, .slice none 0 0, .slice none 0 0, .bool false]) rfl 27 (.tmp 10) (.tmp 20) rfl rfl rfl hoR rfl (by kernel_rfl) (by simp [Value.oneCell']) ?_; intro W8 ho8 hg8)
      have hBf := hal.grown hg8 (by omega) (fun g e => by have e2 : w.heap.size = g := Option.some.inj e; omega)
      obtain ⟨p0, p1, p2, p3, p4, p5, p6, p7, p8, p9⟩ := ob_ten ho8
      refine bodyPost_ret (v := .tuple #[.agg (sagaC saga0 nilS nilS nilS), nilS, .int .i64 1]) ?_ rfl ⟨rfl, hBf⟩
      simp [results, Try.f11, go_sem, sagaC, saga0, nilS, p0, p1, p2, p3, p4, p5, p6, p7, p8, p9]
  · rw [beginS_ref hr]
    obtain ⟨n, hn⟩ : ∃ n : Nat, regions = n := ⟨regions.toNat, by omega⟩
    have hn1 : 1 ≤ n ∧ n ≤ 8 := by omega
    unfold saga1
    rw [hn]
    rw [Int.toNat_natCast]
    clear hr hn
    have d1 : decide ((n : Int) < 1) = false := decide_eq_false (by omega)
    have d2 : decide ((n : Int) > 8) = false := decide_eq_false (by omega)
    obtain ⟨W4, hmk, hrow4, hgr4⟩ := run_make_full (P := Try.prog) (w.alloc (.cells #[.int .i64 0, .int .i64 0, .int .i64 0, .slice none 0 0, .bool false, .int .i64 0, .int .i64 0, .slice none 0 0, .slice none 0 0, .bool false] 27)) (w.heap.size + 1) 24 22 i0 _ 1 Try.underlying24 hi0 hz0 hz1 .i64 .i64 n (by rw [hz2]; omega) (by unfold maxLen; omega) (by omega)
    have hz34 := hgr4.size
    rw [hza] at hmk hrow4 hz34
    have hrow4' : W4.ownsRow (w.heap.size + 1) 22 1 (.slice (some ⟨w.heap.size + 1, 0, none⟩) n n) n (List.replicate n nilS) := by
      rw [← toList_madeCells_one]
      have h := hrow4
      rw [Nat.mul_one] at h
      exact h
    have hB4 : Below w.heap.size w W4 := hal.grown hgr4 (by omega) (fun g e => by cases e)
    have hoR4 := hoR.kept hgr4 (by simp)
    obtain ⟨S, hS⟩ : ∃ S : Saga, S = ⟨order, first, n, want, waits, 1, 1, List.replicate n [], [first], false⟩ := ⟨_, rfl⟩
    have hal5 := (Below.refl W4.heap.size W4).alloc (Nat.le_refl _) (.cells #[.int .i64 first] 3)
    have hs5 : Sl (W4.alloc (.cells #[.int .i64 first] 3)) W4.heap.size (W4.heap.size + 1) 1 (.slice (some ⟨W4.heap.size, 0, none⟩) 1 1) 1 [.int .i64 first] := Sl.new W4 #[.int .i64 first] 3 (size := 1) (n := 1) rfl (by unfold maxLen; omega)
    have hz5 : (W4.alloc (.cells #[.int .i64 first] 3)).heap.size = W4.heap.size + 1 := World.size_alloc _ _
    have hrow5 := row_later hrow4' hal5
    have hoR5 := hoR4.same hal5
    have hB5 := hB4.trans (hal5.mono (by omega))
    have hal6 := (Below.refl (W4.alloc (.cells #[.int .i64 first] 3)).heap.size (W4.alloc (.cells #[.int .i64 first] 3))).alloc (Nat.le_refl _) (.cells #[.int .i64 order, .int .i64 first, .int .i64 n, .slice A want.length c, .bool waits, .int .i64 1, .int .i64 1, .slice (some ⟨w.heap.size + 1, 0, none⟩) n n, .slice (some ⟨W4.heap.size, 0, none⟩) 1 1, .bool false] 27)
    have ho6 := Ob.new (W4.alloc (.cells #[.int .i64 first] 3)) 27 #[.int .i64 order, .int .i64 first, .int .i64 n, .slice A want.length c, .bool waits, .int .i64 1, .int .i64 1, .slice (some ⟨w.heap.size + 1, 0, none⟩) n n, .slice (some ⟨W4.heap.size, 0, none⟩) 1 1, .bool false]
    have hz6 : ((W4.alloc (.cells #[.int .i64 first] 3)).alloc (.cells #[.int .i64 order, .int .i64 first, .int .i64 n, .slice A want.length c, .bool waits, .int .i64 1, .int .i64 1, .slice (some ⟨w.heap.size + 1, 0, none⟩) n n, .slice (some ⟨W4.heap.size, 0, none⟩) 1 1, .bool false] 27)).heap.size = W4.heap.size + 1 + 1 := by rw [World.size_alloc, hz5]
    have hrow6 := row_later hrow5 hal6
    have hoR6 := hoR5.same hal6
    have hB6 := hB5.trans (hal6.mono hB5.size)
    have hs6 := hs5.mono (hal6.mono (by omega)) (show W4.heap.size + 1 ≤ W4.heap.size + 1 from Nat.le_refl _)
    rw [hz5] at ho6
    have hPm : ∀ W, ItemsAt W 0 W.heap.size (.slice A want.length c) want → GotAt W 0 W.heap.size (.slice (some ⟨w.heap.size + 1, 0, none⟩) n n) (List.replicate n []) → IntsAt W 0 W.heap.size (.slice (some ⟨W4.heap.size, 0, none⟩) 1 1) [first] → Parts W 0 W.heap.size S (.slice A want.length c) (.slice (some ⟨w.heap.size + 1, 0, none⟩) n n) (.slice (some ⟨W4.heap.size, 0, none⟩) 1 1) := fun W a b c => by
      rw [hS]
      exact ⟨a, b, c⟩
    have hP6 := hPm _ (HW.out _ hB6) ((got_new hrow6).wide (Nat.zero_le _) (Nat.le_refl _)) (hs6.wide (Nat.zero_le _) (by rw [hz6]; omega))
    have hG6 := got_new (n := n) hrow6
    have hFS : Fit S := by
      rw [hS]
      refine ⟨hF, fun l hl => ?_⟩
      obtain ⟨-, rfl⟩ := List.mem_replicate.1 hl
      intro x hx
      simp at hx
    have cM := Lib.hid (refmay15_calls S _ _ _ _ hP6 hFS)
    have hSP := Lib.hid hS
    have hsc : sagaC S (.slice A want.length c) (.slice (some ⟨w.heap.size + 1, 0, none⟩) n n) (.slice (some ⟨W4.heap.size, 0, none⟩) 1 1) = #[.int .i64 order, .int .i64 first, .int .i64 n, .slice A want.length c, .bool waits, .int .i64 1, .int .i64 1, .slice (some ⟨w.heap.size + 1, 0, none⟩) n n, .slice (some ⟨W4.heap.size, 0, none⟩) 1 1, .bool false] := by rw [hS]; rfl
    rw [hsc] at cM
    rw [← hS]
    have HG6 := Lib.hid hG6
    have HS6 := Lib.hid hs6
    have HO6 := Lib.hid ho6
    have HOR6 := Lib.hid hoR6
    have HB6 := Lib.hid hB6
    have HSC := Lib.hid hsc
    clear hS hFS hPm hP6 hG6 ho6 hoR6 hB6 hrow6 hs6 hrow5 hs5 hB5 hoR5 hal5 hal6 hrow4' hrow4 hoR4 hB4 hgr4 hal hoR hsc
    go_enter Try.func11, Try.ntmps11
    go_wp2_with (refine wpList_load_obg (by rfl) _ _ rfl rfl _ HO6.out Try.underlying27 rfl (by kernel_rfl) ?_)
    refine cM.out.mono ?_
    rintro e W7 ⟨rfl, hb7⟩
    have hoR7 := HOR6.out.same hb7
    have hB7 := HB6.out.trans (hb7.mono HB6.out.size)
    have hob7 := HO6.out.same hb7
    have hG7 := HG6.out.mono hb7 hb7.size
    have hS7 := HS6.out.mono (hb7.mono (by omega)) (show W4.heap.size + 1 ≤ W7.heap.size by have := hb7.size; omega)
    generalize hm : mayS S = m
    have HM := Lib.hid hm
    clear hm
    have hs7 := hoR7.lt
    have HZ34 := Lib.hid hz34
    clear hmk hz34 hz5 hz6
    cases m with
    | false =>
      go_wp2_with (refine wpList_store_ob (cells := #[.int .i64 0, .int .i64 0, .int .i64 0, .slice none 0 0, .bool false, .int .i64 0, .int .i64 0, .slice none 0 0, .slice none 0 0, .bool false]) rfl 27 (.tmp 10) (.tmp 34) rfl rfl rfl hoR7 rfl (by kernel_rfl) (by simp [Value.oneCell']) ?_; intro W8 ho8 hg8)
      have hBf := hB7.grown hg8 (by omega) (fun g e => by have e2 : w.heap.size = g := Option.some.inj e; omega)
      obtain ⟨p0, p1, p2, p3, p4, p5, p6, p7, p8, p9⟩ := ob_ten ho8
      refine bodyPost_ret (v := .tuple #[.agg (sagaC saga0 nilS nilS nilS), nilS, .int .i64 1]) ?_ rfl ⟨by unfold beginU; rw [HM.out]; exact rfl, hBf⟩
      simp [results, Try.f11, go_sem, sagaC, saga0, nilS, p0, p1, p2, p3, p4, p5, p6, p7, p8, p9]
    | true =>
      have hal8 := (Below.refl W7.heap.size W7).alloc (Nat.le_refl _) (.cells #[.int .i64 3, .int .i64 first, .slice A want.length c, .int .i64 0] 52)
      have hst8 : Sl (W7.alloc (.cells #[.int .i64 3, .int .i64 first, .slice A want.length c, .int .i64 0] 52)) W7.heap.size (W7.heap.size + 1) 4 (.slice (some ⟨W7.heap.size, 0, none⟩) 1 1) 1 [.int .i64 3, .int .i64 first, .slice A want.length c, .int .i64 0] := Sl.new W7 #[.int .i64 3, .int .i64 first, .slice A want.length c, .int .i64 0] 52 (size := 4) (n := 1) rfl (by unfold maxLen; omega)
      have hoR8 := hoR7.same hal8
      have hG8 := hG7.mono hal8 hal8.size
      have hS8 := hS7.mono hal8 hal8.size
      have hB8 := hB7.trans (hal8.mono hB7.size)
      have hz8 : (W7.alloc (.cells #[.int .i64 3, .int .i64 first, .slice A want.length c, .int .i64 0] 52)).heap.size = W7.heap.size + 1 := World.size_alloc _ _
      go_wp2_with (first
        | (refine wpList_load_obg (by rfl) _ _ rfl rfl _ hob7 Try.underlying27 rfl (by kernel_rfl) ?_)
        | (refine wpList_store_ob (cells := #[.int .i64 order, .int .i64 first, .int .i64 n, .slice A want.length c, .bool waits, .int .i64 1, .int .i64 1, .slice (some ⟨w.heap.size + 1, 0, none⟩) n n, .slice (some ⟨W4.heap.size, 0, none⟩) 1 1, .bool false]) rfl 27 (.tmp 10) (.tmp 35) rfl rfl rfl hoR8 rfl (by kernel_rfl) (by simp [Value.oneCell']) ?_; intro W9 ho9 hg9))
      have hs9 := hg9.size
      have hz34 := HZ34.out
      have hk9 := Kept.of_grown (Fr := fun i => i < (W7.alloc (.cells #[.int .i64 3, .int .i64 first, .slice A want.length c, .int .i64 0] 52)).heap.size ∧ i ≠ w.heap.size) hg9 fun i hi => ⟨hi.1, fun e => hi.2 (by cases e; rfl)⟩
      have hB9 := hB8.grown hg9 (by omega) (fun g e => by have e2 : w.heap.size = g := Option.some.inj e; omega)
      have hG9 := (hG8.kept hk9 fun i ha hb => ⟨hb, by omega⟩).wide (Nat.zero_le _) hs9
      have hS9 := (hk9.sl hS8 fun i ha hb => ⟨hb, by omega⟩).wide (Nat.zero_le _) hs9
      have hst9 := (hk9.sl hst8 fun i ha hb => ⟨by omega, by omega⟩).wide (Nat.zero_le _) (show W7.heap.size + 1 ≤ W9.heap.size by omega)
      have hP9 : Parts W9 0 W9.heap.size S (.slice A want.length c) (.slice (some ⟨w.heap.size + 1, 0, none⟩) n n) (.slice (some ⟨W4.heap.size, 0, none⟩) 1 1) := by
        rw [hSP.out]
        exact ⟨HW.out _ hB9, hG9, hS9⟩
      have hT9 : StepsAt W9 0 W9.heap.size (.slice (some ⟨W7.heap.size, 0, none⟩) 1 1) [⟨3, first, want, 0⟩] := by
        refine ⟨[.slice A want.length c], rfl, hst9, fun k hk => ?_⟩
        have : k = 0 := by simp at hk; omega
        subst this
        exact HW.out _ hB9
      obtain ⟨p0, p1, p2, p3, p4, p5, p6, p7, p8, p9⟩ := ob_ten ho9
      have hSw : S.want = want ∧ S.first = first := by rw [hSP.out]; exact ⟨rfl, rfl⟩
      refine bodyPost_ret (v := .tuple #[.agg (sagaC S (.slice A want.length c) (.slice (some ⟨w.heap.size + 1, 0, none⟩) n n) (.slice (some ⟨W4.heap.size, 0, none⟩) 1 1)), .slice (some ⟨W7.heap.size, 0, none⟩) 1 1, .int .i64 0]) ?_ rfl ⟨by unfold beginU; rw [HM.out, hSw.1, hSw.2]; exact ⟨_, _, _, _, rfl, hP9, hT9⟩, hB9⟩
      rw [HSC.out]
      simp [results, Try.f11, go_sem, p0, p1, p2, p3, p4, p5, p6, p7, p8, p9]
end Sa
end Go.Proofs.Ythfpfomifebpbaa

namespace Go.Proofs.Ythfpfomifebpbaa
open Go.RowKit Go.Maps
namespace Sa
open It
set_option linter.unusedSimpArgs false

instance : DecidableEq Step := fun a b =>
  if h : a.kind = b.kind ∧ a.region = b.region ∧ a.items = b.items ∧ a.state = b.state then
    isTrue (by
      obtain ⟨a1, a2, a3, a4⟩ := a
      obtain ⟨b1, b2, b3, b4⟩ := b
      obtain ⟨rfl, rfl, rfl, rfl⟩ := h
      rfl)
  else isFalse fun e => h (by rw [e]; exact ⟨rfl, rfl, rfl, rfl⟩)
theorem steps_of_getD {a b : List Step} (hl : a.length = b.length) (h : ∀ j, j < a.length → a.getD j step0 = b.getD j step0) : a = b := by
  apply List.ext_getElem hl
  intro i h1 h2
  have := h i h1
  simpa [List.getD, h1, h2] using this

set_option maxRecDepth 100000 in
set_option maxHeartbeats 8000000 in
theorem samesteps_calls (a b : List Step) (va vb : Value) (w : World) (ha : StepsAt w 0 w.heap.size va a) (hb : StepsAt w 0 w.heap.size vb b) :
    Calls Try.prog 13 #[va, vb] w fun e w' => e = .returned (.bool (decide (a = b))) ∧ Below w.heap.size w w' := by
  have HA := Lib.hid ha
  have HB := Lib.hid hb
  obtain ⟨A, c, rfl, hc1, hc2⟩ := ha.form
  obtain ⟨A', c', rfl, hc1', hc2'⟩ := hb.form
  unfold maxLen at hc2 hc2'
  clear ha hb
  have hmx : Try.prog.follows .mixedOrders = true := by kernel_rfl
  by_cases hl : a.length = b.length
  · have hln : ((a.length : Int) == (b.length : Int)) = true := by simp; omega
    have hln2 : ((a.length : Int) != (b.length : Int)) = false := by simp; omega
    have hln3 : decide ((a.length : Int) = (b.length : Int)) = true := decide_eq_true (by omega)
    have HL := Lib.hid hl
    clear hl
    go_enter Try.func13, Try.ntmps13
    go_wp2
    go_loopw [5] (fun i wr => ∃ k : Nat, k ≤ a.length ∧ i = .int .i64 k ∧ (∀ j, j < k → a.getD j step0 = b.getD j step0) ∧ Below w.heap.size w wr) (fun i _ => a.length - (intOf i).toNat)
    case atStart => exact ⟨0, by omega, rfl, (fun j hj => by omega), Below.refl _ _⟩
    case round =>
      obtain ⟨k, hk, rfl, hm, hW⟩ := hrel
      by_cases hlt : k < a.length
      · have hltb : k < b.length := by have := HL.out; omega
        have hd : decide ((k : Int) < (a.length : Int)) = true := decide_eq_true (by omega)
        have hd' : decide ((k : Int) < (b.length : Int)) = true := decide_eq_true (by omega)
        have hdr : Below wr.heap.size wr wr.drew := (Below.refl _ _).drew
        obtain ⟨p, o, xv, rfl, -, hp, g0, g1, g2, g3, hx⟩ := (HA.out.later hW).cellAt hlt
        obtain ⟨p', o', yv, rfl, -, hp', f0, f1, f2, f3, hy⟩ := (HB.out.later hW).cellAt hltb
        have hno : a.getD k step0 ≠ b.getD k step0 → decide (a = b) = false := fun h => decide_eq_false fun e => h (by rw [e])
        have hye : a.getD k step0 = b.getD k step0 → ∀ j, j < k + 1 → a.getD j step0 = b.getD j step0 := fun h => allTo_snoc hm h
        generalize a.getD k step0 = x at hno hye g0 g1 g2 g3 hx
        generalize b.getD k step0 = y at hno hye f0 f1 f2 f3 hy
        obtain ⟨xk, xr, xi, xs⟩ := x
        obtain ⟨yk, yr, yi, ys⟩ := y
        dsimp only at g0 g1 g2 g3 hx f0 f1 f2 f3 hy
        have cE := Lib.hid (fun V (h : Below wr.drew.heap.size wr.drew V) => refsame_calls xi yi xv yv V (hx.mono (hdr.trans h) (by have := h.size; have : wr.drew.heap.size = wr.heap.size := rfl; omega)) (hy.mono (hdr.trans h) (by have := h.size; have : wr.drew.heap.size = wr.heap.size := rfl; omega)))
        obtain ⟨A7, c7, rfl, -⟩ := hx.form
        obtain ⟨B7, d7, rfl, -⟩ := hy.form
        have HQ := Lib.hid (fun V (h : Below wr.drew.heap.size wr.drew V) => show V.cell? ⟨p, o + k * 4, none⟩ = some (.int .i64 xk) ∧ V.cell? ⟨p, o + k * 4 + 1, none⟩ = some (.int .i64 xr) ∧ V.cell? ⟨p, o + k * 4 + 2, none⟩ = some (.slice A7 xi.length c7) ∧ V.cell? ⟨p, o + k * 4 + 3, none⟩ = some (.int .i64 xs) ∧
            V.cell? ⟨p', o' + k * 4, none⟩ = some (.int .i64 yk) ∧ V.cell? ⟨p', o' + k * 4 + 1, none⟩ = some (.int .i64 yr) ∧ V.cell? ⟨p', o' + k * 4 + 2, none⟩ = some (.slice B7 yi.length d7) ∧ V.cell? ⟨p', o' + k * 4 + 3, none⟩ = some (.int .i64 ys) from
          ⟨(Below.cell (p := ⟨p, o + k * 4, none⟩) h hp).trans g0, (Below.cell (p := ⟨p, o + k * 4 + 1, none⟩) h hp).trans g1, (Below.cell (p := ⟨p, o + k * 4 + 2, none⟩) h hp).trans g2, (Below.cell (p := ⟨p, o + k * 4 + 3, none⟩) h hp).trans g3,
           (Below.cell (p := ⟨p', o' + k * 4, none⟩) h hp').trans f0, (Below.cell (p := ⟨p', o' + k * 4 + 1, none⟩) h hp').trans f1, (Below.cell (p := ⟨p', o' + k * 4 + 2, none⟩) h hp').trans f2, (Below.cell (p := ⟨p', o' + k * 4 + 3, none⟩) h hp').trans f3⟩)
        have HNO := Lib.hid hno
        have HYE := Lib.hid hye
        clear hno hye hx hy hm g0 g1 g2 g3 f0 f1 f2 f3
        have hws := hW.size
        rcases neq_cases xk yk with ⟨h0, x0, y0, z0⟩ | ⟨h0, x0, y0, z0⟩
        rotate_left
        · have HD := Lib.hid (HNO.out fun e => h0 (by injection e))
          clear h0
          go_wp2
          refine Pu.regionW (fun Wq => Below wr.drew.heap.size wr.drew Wq) hmx (by kernel_rfl) (by kernel_rfl) (Below.refl _ _) rfl ?_
          repeat (first
            | (refine Pu.Walk.off (by rfl) ?_; simp only [Act.put, List.setIfInBounds_toArray, List.set_cons_succ, List.set_cons_zero])
            | (apply Pu.Walk.on (by rfl)
               · intro V1 hV1
                 obtain ⟨a0, a1, a2, a3, b0, b1, b2, b3⟩ := HQ.out V1 hV1
                 go_wp2_with (go_at_call 21; refine (cE.out V1 hV1).mono ?_; rintro e V2 ⟨rfl, hb⟩; replace hV1 := hV1.trans (hb.mono hV1.size); clear hb)
                 refine ⟨rfl, ?_, hV1⟩
                 try simp only [Act.put, List.setIfInBounds_toArray, List.set_cons_succ, List.set_cons_zero]
                 rfl
               simp only [Act.put, List.setIfInBounds_toArray, List.set_cons_succ, List.set_cons_zero]))
          refine Pu.Walk.nil (fun V h1 => ?_)
          have hBV : Below w.heap.size w V := (hW.drew).trans (h1.mono hws)
          go_wp2
          go_ret
          exact ⟨by rw [HD.out]; rfl, hBV⟩
        rcases neq_cases xr yr with ⟨h1, x1, y1, z1⟩ | ⟨h1, x1, y1, z1⟩
        rotate_left
        · have HD := Lib.hid (HNO.out fun e => h1 (by injection e))
          clear h0 h1
          go_wp2
          refine Pu.regionW (fun Wq => Below wr.drew.heap.size wr.drew Wq) hmx (by kernel_rfl) (by kernel_rfl) (Below.refl _ _) rfl ?_
          repeat (first
            | (refine Pu.Walk.off (by rfl) ?_; simp only [Act.put, List.setIfInBounds_toArray, List.set_cons_succ, List.set_cons_zero])
            | (apply Pu.Walk.on (by rfl)
               · intro V1 hV1
                 obtain ⟨a0, a1, a2, a3, b0, b1, b2, b3⟩ := HQ.out V1 hV1
                 go_wp2_with (go_at_call 21; refine (cE.out V1 hV1).mono ?_; rintro e V2 ⟨rfl, hb⟩; replace hV1 := hV1.trans (hb.mono hV1.size); clear hb)
                 refine ⟨rfl, ?_, hV1⟩
                 try simp only [Act.put, List.setIfInBounds_toArray, List.set_cons_succ, List.set_cons_zero]
                 rfl
               simp only [Act.put, List.setIfInBounds_toArray, List.set_cons_succ, List.set_cons_zero]))
          refine Pu.Walk.nil (fun V h1 => ?_)
          have hBV : Below w.heap.size w V := (hW.drew).trans (h1.mono hws)
          go_wp2
          go_ret
          exact ⟨by rw [HD.out]; rfl, hBV⟩
        rcases neq_cases xs ys with ⟨h2, x2, y2, z2⟩ | ⟨h2, x2, y2, z2⟩
        rotate_left
        · have HD := Lib.hid (HNO.out fun e => h2 (by injection e))
          clear h0 h1 h2
          go_wp2
          refine Pu.regionW (fun Wq => Below wr.drew.heap.size wr.drew Wq) hmx (by kernel_rfl) (by kernel_rfl) (Below.refl _ _) rfl ?_
          repeat (first
            | (refine Pu.Walk.off (by rfl) ?_; simp only [Act.put, List.setIfInBounds_toArray, List.set_cons_succ, List.set_cons_zero])
            | (apply Pu.Walk.on (by rfl)
               · intro V1 hV1
                 obtain ⟨a0, a1, a2, a3, b0, b1, b2, b3⟩ := HQ.out V1 hV1
                 go_wp2_with (go_at_call 21; refine (cE.out V1 hV1).mono ?_; rintro e V2 ⟨rfl, hb⟩; replace hV1 := hV1.trans (hb.mono hV1.size); clear hb)
                 refine ⟨rfl, ?_, hV1⟩
                 try simp only [Act.put, List.setIfInBounds_toArray, List.set_cons_succ, List.set_cons_zero]
                 rfl
               simp only [Act.put, List.setIfInBounds_toArray, List.set_cons_succ, List.set_cons_zero]))
          refine Pu.Walk.nil (fun V h1 => ?_)
          have hBV : Below w.heap.size w V := (hW.drew).trans (h1.mono hws)
          go_wp2
          go_ret
          exact ⟨by rw [HD.out]; rfl, hBV⟩
        have HI := Lib.hid (And.intro h0 (And.intro h1 h2))
        clear h0 h1 h2
        generalize hq : decide (xi = yi) = q at cE
        have HDQ := Lib.hid hq
        clear hq
        go_wp2
        refine Pu.regionW (fun Wq => Below wr.drew.heap.size wr.drew Wq) hmx (by kernel_rfl) (by kernel_rfl) (Below.refl _ _) rfl ?_
        repeat (first
          | (refine Pu.Walk.off (by rfl) ?_; simp only [Act.put, List.setIfInBounds_toArray, List.set_cons_succ, List.set_cons_zero])
          | (apply Pu.Walk.on (by rfl)
             · intro V1 hV1
               obtain ⟨a0, a1, a2, a3, b0, b1, b2, b3⟩ := HQ.out V1 hV1
               go_wp2_with (go_at_call 21; refine (cE.out V1 hV1).mono ?_; rintro e V2 ⟨rfl, hb⟩; replace hV1 := hV1.trans (hb.mono hV1.size); clear hb)
               refine ⟨rfl, ?_, hV1⟩
               try simp only [Act.put, List.setIfInBounds_toArray, List.set_cons_succ, List.set_cons_zero]
               rfl
             simp only [Act.put, List.setIfInBounds_toArray, List.set_cons_succ, List.set_cons_zero]))
        refine Pu.Walk.nil (fun V h1 => ?_)
        have hBV : Below w.heap.size w V := (hW.drew).trans (h1.mono hws)
        cases q with
        | false =>
          have HD := Lib.hid (HNO.out fun e => of_decide_eq_false HDQ.out (by injection e))
          go_wp2
          go_ret
          exact ⟨by rw [HD.out]; rfl, hBV⟩
        | true =>
          have HD := Lib.hid (HYE.out (by obtain ⟨rfl, rfl, rfl⟩ := HI.out; rw [of_decide_eq_true HDQ.out]))
          go_wp2
          go_roundw
          case rel => exact ⟨k + 1, by omega, by go_num, HD.out, hBV⟩
          case measure => simp [intOf]; omega
      · obtain rfl : k = a.length := by omega
        have HD := Lib.hid (show decide (a = b) = true from decide_eq_true (steps_of_getD HL.out hm))
        have hd : decide ((a.length : Int) < (a.length : Int)) = false := decide_eq_false (by omega)
        go_wp2
        go_ret
        exact ⟨by rw [HD.out]; rfl, hW⟩
  · have hln : ((a.length : Int) != (b.length : Int)) = true := by rw [bne_iff_ne]; omega
    have HD := Lib.hid (show decide (a = b) = false from decide_eq_false fun h => hl (by rw [h]))
    clear hl
    go_enter Try.func13, Try.ntmps13
    go_wp2
    go_ret
    exact ⟨by rw [HD.out]; rfl, Below.refl _ _⟩
end Sa
end Go.Proofs.Ythfpfomifebpbaa

namespace Go.Proofs.Ythfpfomifebpbaa
open Go.RowKit Go.Maps
namespace Sa
open It
set_option linter.unusedSimpArgs false

def outS : Except Int (Saga × List Step) → Saga
  | .error _ => saga0
  | .ok u => u.1
def outL : Except Int (Saga × List Step) → List Step
  | .error _ => []
  | .ok u => u.2
def outE : Except Int (Saga × List Step) → Int
  | .error x => x
  | .ok _ => 0
theorem parts0 (w : World) (lo B : Nat) : Parts w lo B saga0 nilS nilS nilS := ⟨ItemsAt.nil _ _ _, GotAt.nil _ _ _, Sl.nil _ _ _ _⟩
theorem Ret3.all {lo : Nat} {W : World} {e : Ending} {r : Except Int (Saga × List Step)} (h : Ret3 lo W e r) :
    ∃ vw vg vp vl, e = .returned (.tuple #[.agg (sagaC (outS r) vw vg vp), vl, .int .i64 (outE r)]) ∧ Parts W lo W.heap.size (outS r) vw vg vp ∧ StepsAt W lo W.heap.size vl (outL r) := by
  cases r with
  | error x => exact ⟨_, _, _, _, h, parts0 _ _ _, StepsAt.nil _ _ _⟩
  | ok u =>
    obtain ⟨vw, vg, vp, vl, rfl, hP, hS⟩ := h
    exact ⟨_, _, _, _, rfl, hP, hS⟩

abbrev zeroS : Array Value := #[.int .i64 0, .int .i64 0, .int .i64 0, .slice none 0 0, .bool false, .int .i64 0, .int .i64 0, .slice none 0 0, .slice none 0 0, .bool false]

set_option maxRecDepth 100000 in
set_option maxHeartbeats 8000000 in
theorem begins_law (order first regions : Int) (want : List It.Item) (waits : Bool) (vw : Value) (w : World) (hw : ItemsAt w 0 w.heap.size vw want) (hF : Fits want) :
    Calls Try.prog 3 #[.int .i64 order, .int .i64 first, .int .i64 regions, vw, .bool waits] w fun e w' => e = .returned (.bool true) ∧ Below w.heap.size w w' := by
  obtain ⟨i0, hi0, hz0⟩ := Option.map_eq_some_iff.1 item_info
  simp only [Prod.mk.injEq] at hz0
  obtain ⟨hz0, hz1, hz2⟩ := hz0
  have HW := Lib.hid (fun W (hb : Below w.heap.size w W) => hw.mono hb hb.size)
  have HW0 := Lib.hid (fun W (hb : Below w.heap.size w W) => hw.below hb)
  have cL := Lib.hid (fun W => lives_calls W)
  obtain ⟨A, c, rfl, -⟩ := hw.form
  clear hw
  by_cases hl : want.length ≤ 100
  rotate_left
  · have d0 : decide ((want.length : Int) > 100) = true := decide_eq_true (by omega)
    clear hl
    go_enter Try.func3, Try.ntmps3
    go_wp2_with fail
    refine (cL.out _).mono ?_
    rintro e W2 ⟨rfl, hb2⟩
    go_wp2
    go_ret
    exact ⟨rfl, hb2⟩
  have d0 : decide ((want.length : Int) > 100) = false := decide_eq_false (by omega)
  have hal := (Below.refl w.heap.size w).alloc (Nat.le_refl _) (.cells #[] 41)
  have hown := World.ownsRow_lit (e := 41) (size := 2) (base := w.heap.size) w #[] 0 (Nat.le_refl _) (Nat.zero_le _) rfl
  have hone := itemCells_one want
  have hsrc := HW0.out _ hal
  have hz : (w.alloc (.cells #[] 41)).heap.size = w.heap.size + 1 := World.size_alloc _ _
  go_enter Try.func3, Try.ntmps3
  go_wp2_with (refine wpList_append_sl _ rfl (.tmp 25) (.tmp 26) _ rfl w.heap.size 41 i0 _ 2 24 Try.underlying22 hi0 hz0 hz1 hz2 rfl (by omega) (.slice (some ⟨w.heap.size, 0, none⟩) 0 0) 0 [] rfl hown 0 w.heap.size _ want.length (itemCells want) rfl hsrc hone (by unfold maxLen; omega) (by omega) (by omega) ?_
               intro v1 W1 hv1 hg1 hat1)
  have hb1 : Below w.heap.size w W1 := hal.grown hg1 (by omega) (fun g e => (hown.lt g e).1)
  have hv1' : W1.ownsRow w.heap.size 41 2 v1 want.length (itemCells want) := by simpa using hv1
  have cB := Lib.hid (begin_calls order first regions want waits v1 W1 ((ItemsAt.of_own hv1').wide (Nat.zero_le _) (Nat.le_refl _)) hF (by omega))
  clear hal hown hsrc hz hv1 hg1 hat1 hv1' hi0 hz0 hz1 hz2
  go_wp2_with fail
  refine cB.out.mono ?_
  rintro e W2 ⟨hR, hb2⟩
  have hB2 := hb1.trans (hb2.mono hb1.size)
  obtain ⟨uw, ug, up, ul, rfl, hP, hS⟩ := hR.all
  clear hR cB hb2 hb1
  generalize hr : beginS order first regions want waits = r at hP hS ⊢
  have HR := Lib.hid hr
  clear hr
  have hP := Lib.hid (hP.wide (Nat.zero_le _) (Nat.le_refl _))
  have hS := Lib.hid (hS.wide (Nat.zero_le _) (Nat.le_refl _))
  obtain ⟨A1, m1, rfl, -⟩ := hP.out.want.form
  obtain ⟨A2, m2, rfl, -⟩ := hP.out.got.form
  obtain ⟨A3, m3, rfl, -⟩ := hP.out.pend.form
  obtain ⟨A4, m4, rfl, -⟩ := hS.out.form
  obtain ⟨sd, hsd⟩ : ∃ sd, sd = sagaC (outS r) (.slice A1 (outS r).want.length m1) (.slice A2 (outS r).got.length m2) (.slice A3 (outS r).pending.length m3) := ⟨_, rfl⟩
  rw [← hsd]
  have hd1 : sd.size = 10 := by rw [hsd]; rfl
  have hd2 : sd.all (·.oneCell') = true := by rw [hsd]; simp [sagaC, Value.oneCell']
  have HSD := Lib.hid hsd
  clear hsd
  have hoN := Ob.new W2 27 zeroS
  have hal3 := (Below.refl W2.heap.size W2).alloc (Nat.le_refl _) (.cells zeroS 27)
  have z3 : (W2.alloc (.cells zeroS 27)).heap.size = W2.heap.size + 1 := World.size_alloc _ _
  unfold zeroS at hoN hal3 z3
  go_wp2_with (refine wpList_store_ob (cells := sd) rfl 27 (.tmp 11) (.tmp 30) rfl rfl rfl hoN hd1 (by rw [hd1]; kernel_rfl) hd2 ?_
               intro W3 ho3 hg3
               have hb3 : Below W2.heap.size W2 W3 := hal3.grown hg3 (by omega) (fun g e => by have e2 : W2.heap.size = g := Option.some.inj e; omega)
               have hB3 := hB2.trans (hb3.mono hB2.size)
               have cR := Lib.hid (refbegin_calls order first regions want waits _ W3 (HW.out _ hB3) hF))
  refine cR.out.mono ?_
  rintro e W4 ⟨hR, hb4⟩
  have ho4 := ho3.same hb4
  have hb24 := hb3.trans (hb4.mono hb3.size)
  have hB4 := hB3.trans (hb4.mono hB3.size)
  rw [HR.out] at hR
  obtain ⟨uw, ug, up, ul, rfl, hP', hS'⟩ := hR.all
  clear hR cR hb3 hb4 hoN hal3 z3 hg3 ho3 hB3
  have hPl := Lib.hid (hP.out.later hb24)
  have hSl := Lib.hid (hS.out.later hb24)
  have hP' := Lib.hid hP'
  have hS' := Lib.hid hS'
  obtain ⟨B1, k1, rfl, -⟩ := hP'.out.want.form
  obtain ⟨B2, k2, rfl, -⟩ := hP'.out.got.form
  obtain ⟨B3, k3, rfl, -⟩ := hP'.out.pend.form
  obtain ⟨B4, k4, rfl, -⟩ := hS'.out.form
  obtain ⟨se, hse⟩ : ∃ se, se = sagaC (outS r) (.slice B1 (outS r).want.length k1) (.slice B2 (outS r).got.length k2) (.slice B3 (outS r).pending.length k3) := ⟨_, rfl⟩
  rw [← hse]
  have he1 : se.size = 10 := by rw [hse]; rfl
  have he2 : se.all (·.oneCell') = true := by rw [hse]; simp [sagaC, Value.oneCell']
  have HSE := Lib.hid hse
  clear hse hP hS hb24
  have hoN := Ob.new W4 27 zeroS
  have hal5 := (Below.refl W4.heap.size W4).alloc (Nat.le_refl _) (.cells zeroS 27)
  have z5 : (W4.alloc (.cells zeroS 27)).heap.size = W4.heap.size + 1 := World.size_alloc _ _
  unfold zeroS at hoN hal5 z5
  go_wp2_with (refine wpList_store_ob (cells := se) rfl 27 (.tmp 14) (.tmp 40) rfl rfl rfl hoN he1 (by rw [he1]; kernel_rfl) he2 ?_
               intro W5 ho5 hg5
               have hb5 : Below W4.heap.size W4 W5 := hal5.grown hg5 (by omega) (fun g e => by have e2 : W4.heap.size = g := Option.some.inj e; omega)
               have hB5 := hB4.trans (hb5.mono hB4.size))
  refine (cL.out _).mono ?_
  rintro e W6 ⟨rfl, hb6⟩
  have hb46 := hb5.trans (hb6.mono hb5.size)
  have hB6 := hB4.trans (hb46.mono hB4.size)
  have ho46 := ho4.same hb46
  have ho56 := ho5.same hb6
  have hPa := hPl.out.later hb46
  have hPb := hP'.out.later hb46
  have hSa := Lib.hid (hSl.out.later hb46)
  have hSb := Lib.hid (hS'.out.later hb46)
  have cS := Lib.hid (refsame15_calls _ _ _ _ _ _ _ _ W6 hPa hPb)
  rw [sameS_iff.2 rfl, ← HSD.out, ← HSE.out] at cS
  clear hb5 hb6 hoN hal5 z5 hg5 ho5 hB5 hPa hPb hPl hP' ho4 hb46
  go_wp2_with (first
    | (refine wpList_load_obg (by rfl) _ _ rfl rfl _ ho46 Try.underlying27 rfl (by rw [hd1]; kernel_rfl) ?_)
    | (refine wpList_load_obg (by rfl) _ _ rfl rfl _ ho56 Try.underlying27 rfl (by rw [he1]; kernel_rfl) ?_))
  refine cS.out.mono ?_
  rintro e W7 ⟨rfl, hb7⟩
  have hB7 := hB6.trans (hb7.mono hB6.size)
  have cT := Lib.hid (samesteps_calls _ _ _ _ W7 (hSa.out.later hb7) (hSb.out.later hb7))
  rw [decide_eq_true rfl] at cT
  clear hb7 ho46 ho56 cS hSa hSb
  go_wp2_with fail
  refine cT.out.mono ?_
  rintro e W8 ⟨rfl, hb8⟩
  go_wp2
  go_ret
  exact ⟨by first | rfl | simp, hB7.trans (hb8.mono hB7.size)⟩
end Sa
end Go.Proofs.Ythfpfomifebpbaa

namespace Go.Proofs.Ythfpfomifebpbaa
open Go.ChangeShapes Go.WideShapes Go.ChangeAt Go.RowKit
namespace Sa
set_option maxRecDepth 100000 in
theorem sagaBegins_lifted (os : Os) (started : os.Started) (H : Type) (enc : TypeId × Value → H) :
    ReturnsInHanded {} Try.checked os 3 .any (Rows.sagaBeginsSpec.pre6 enc Try.prog Try.f3 Rows.sagaBeginsRow.domain false) (Rows.sagaBeginsSpec.post enc Try.prog Try.f3 false true false false) := by
  refine returnsInHanded_of_change (C := Try.checked) own started (by kernel_rfl) Try.func3
    (ChangeSpec.witness6 (enc := enc) (C := Try.checked) false ⟨#[], #[.int .i64 0, .int .i64 0, .int .i64 0, .slice none 0 0, .bool false], []⟩ 8 (by kernel_rfl) (by kernel_rfl) (by kernel_rfl) (by kernel_rfl)) ?_
  intro W base args ds gs before hval0 hW _ _
  have hval : ∀ (j : Nat) t v, Try.f3.params[j]? = some t → args[j]? = some v → Value.okWide Try.prog W .any base t v := hval0
  obtain ⟨p, q, hA0, hV, hps, hfz, hnd⟩ := id hW
  have hA : DataW.TrodAll enc Try.prog W 0 (fun _ => true) true Try.f3.params.toList args.toList ds p := hA0
  rw [Try.params3] at hA hval
  obtain ⟨v0, vs0, d0, ds0, p0, q0, hargs, rfl, rfl, h0, r0⟩ := trodAll_cons hA
  obtain ⟨v1, vs1, d1, ds1, p1, q1, rfl, rfl, rfl, h1, r1⟩ := trodAll_cons r0
  obtain ⟨v2, vs2, d2, ds2, p2, q2, rfl, rfl, rfl, h2, r2⟩ := trodAll_cons r1
  obtain ⟨v3, vs3, d3, ds3, p3, q3, rfl, rfl, rfl, h3, r3⟩ := trodAll_cons r2
  obtain ⟨v4, vs4, d4, ds4, p4, q4, rfl, rfl, rfl, h4, r4⟩ := trodAll_cons r3
  obtain ⟨rfl, rfl, rfl⟩ := trodAll_nil r4
  obtain rfl : args = #[v0, v1, v2, v3, v4] := by cases args; simp_all
  obtain ⟨rfl, rfl⟩ := trodVars_none hV
  obtain ⟨order, rfl, rfl, rfl, worder⟩ := open_int Try.underlying3 (hval 0 3 v0 rfl rfl) h0
  obtain ⟨first, rfl, rfl, rfl, wfirst⟩ := open_int Try.underlying3 (hval 1 3 v1 rfl rfl) h1
  obtain ⟨regions, rfl, rfl, rfl, wregions⟩ := open_int Try.underlying3 (hval 2 3 v2 rfl rfl) h2
  obtain ⟨waits, rfl, rfl, rfl⟩ := open_bool Try.underlying4 (hval 4 4 v4 rfl rfl) h4
  obtain ⟨want, hwant, fwant, dwant⟩ := It.open_items (hval 3 22 v3 rfl rfl) h3
  have border : -9223372036854775808 ≤ order ∧ order ≤ 9223372036854775807 := by simpa [Lit.wf, IntKind.min, IntKind.max, IntKind.signed, IntKind.bits] using worder
  have bfirst : -9223372036854775808 ≤ first ∧ first ≤ 9223372036854775807 := by simpa [Lit.wf, IntKind.min, IntKind.max, IntKind.signed, IntKind.bits] using wfirst
  have bregions : -9223372036854775808 ≤ regions ∧ regions ≤ 9223372036854775807 := by simpa [Lit.wf, IntKind.min, IntKind.max, IntKind.signed, IntKind.bits] using wregions
  refine (begins_law order first regions want waits _ W hwant fwant).mono fun e W' ⟨he, hb⟩ => ?_
  subst he
  exact ⟨_, rfl, law_post laidOut (by kernel_rfl) rfl Try.underlying4 rfl hW rfl hb⟩

theorem sagaBegins_holds : Rows.SagaBeginsSaid :=
  OpenClaim.holds_of_wide 3 Try.f3 rfl rfl rfl rfl rfl rfl rfl ⟨rfl, rfl, rfl, rfl, rfl⟩ rfl rfl rfl rfl rfl (by kernel_rfl) Try.func3 (by kernel_rfl)
    (of_decide_eq_true (by kernel_rfl)) (by unfold Func.isWrapper; first | (rw [if_pos (by decide +kernel)]; kernel_rfl) | (rw [if_neg (by decide +kernel)]; exact ⟨rfl, rfl⟩))
    (fun os started H enc _ => sagaBegins_lifted os started H enc)

end Sa
end Go.Proofs.Ythfpfomifebpbaa

namespace Go.Proofs.Ythfpfomifebpbaa
open Go.RowKit Go.Maps
namespace Sa
open It

theorem undo_state (s : Saga) : (undoS s).1.state = 4 ∨ ((undoS s).1.state = endSt s ∧ holders s.got = []) := by
  unfold undoS
  split
  · rename_i e
    exact .inr ⟨rfl, List.eq_nil_of_length_eq_zero e⟩
  · exact .inl rfl
theorem end_state (s : Saga) : endSt s = 6 ∨ endSt s = 3 ∨ endSt s = 5 := by
  unfold endSt
  split
  · exact .inl rfl
  · split
    · exact .inr (.inl rfl)
    · exact .inr (.inr rfl)
/-- the state that an event makes -/
def Behind (a b k : Int) : Prop :=
  (a = 1 ∧ (b = 1 ∨ b = 2 ∨ b = 3 ∨ b = 4 ∨ b = 5 ∨ b = 6)) ∨ (a = 2 ∧ (b = 4 ∨ b = 7)) ∨ (a = 3 ∧ (b = 1 ∨ b = 6)) ∨ (a = 4 ∧ (b = 3 ∨ b = 4 ∨ b = 5 ∨ b = 6)) ∨
  (a = 7 ∧ (b = 7 ∨ b = 8)) ∨ (a = 8 ∧ b = 9) ∨ (a = 9 ∧ (b = 9 ∨ b = 10)) ∨ (k = 3 ∧ b = a)
theorem behind_undo {t : Saga} {a k : Int} (h : (a = 1 ∨ a = 4)) : Behind a (undoS t).1.state k := by
  unfold Behind
  rcases undo_state t with e | ⟨e, -⟩
  · omega
  · rw [e]
    rcases end_state t with e | e | e <;> rw [e] <;> omega
theorem all_behind {s : Saga} {a b c k : Int} {r : Saga × List Step} (hab : (a = 2 ∧ b = 7) ∨ (a = 8 ∧ b = 9)) (h : allS s a b c = .ok r) : Behind s.state r.1.state k := by
  unfold allS at h
  split at h
  · rename_i hs
    cases h
    rcases hab with ⟨e1, e2⟩ | ⟨e1, e2⟩
    · exact .inr (.inl ⟨hs.trans e1, .inr e2⟩)
    · exact .inr (.inr (.inr (.inr (.inr (.inl ⟨hs.trans e1, e2⟩)))))
  · cases h
theorem did_behind {s : Saga} {e : Ev} {a b k : Int} {r : Saga × List Step} (hab : (a = 7 ∧ b = 8) ∨ (a = 9 ∧ b = 10)) (h : didS s e a b = .ok r) : Behind s.state r.1.state k := by
  unfold didS didU at h
  split at h
  rotate_left
  · cases h
  rename_i hst
  split at h
  rotate_left
  · cases h
  cases h
  unfold didT
  split
  · rcases hab with ⟨e1, e2⟩ | ⟨e1, e2⟩
    · exact .inr (.inr (.inr (.inr (.inl ⟨hst.1.trans e1, .inr e2⟩))))
    · exact .inr (.inr (.inr (.inr (.inr (.inr (.inl ⟨hst.1.trans e1, .inr e2⟩))))))
  · rcases hab with ⟨e1, e2⟩ | ⟨e1, e2⟩
    · exact .inr (.inr (.inr (.inr (.inl ⟨hst.1.trans e1, .inl (hst.1.trans e1)⟩))))
    · exact .inr (.inr (.inr (.inr (.inr (.inr (.inl ⟨hst.1.trans e1, .inl (hst.1.trans e1)⟩))))))
theorem next_behind {s : Saga} {e : Ev} {r : Saga × List Step} (h : nextS s e = .ok r) : Behind s.state r.1.state e.kind := by
  unfold nextS nextU at h
  split at h
  rotate_left
  · cases h
  rename_i hm
  obtain ⟨hh, hw, hb⟩ := mayS_iff.1 hm
  unfold happenS at h
  split at h
  · unfold tookS tookU at h
    split at h
    rotate_left
    · cases h
    rename_i hst
    split at h
    rotate_left
    · cases h
    cases h
    unfold tookT
    split
    · exact behind_undo (.inl hst.1)
    split
    · unfold Behind; dsimp only; have := hst.1; omega
    split
    · unfold Behind; dsimp only; have := hst.1; omega
    · exact behind_undo (.inl hst.1)
  split at h
  · unfold freedS at h
    split at h
    rotate_left
    · cases h
    rename_i hst
    cases h
    unfold freedT
    split
    · show Behind s.state (endSt _) _
      unfold Behind
      have := hst.1
      rcases end_state { s with pending := takeOff e.region s.pending, got := s.got.set e.region.toNat [] } with e | e | e <;> rw [e] <;> omega
    · show Behind s.state s.state _
      unfold Behind
      have := hst.1
      omega
  split at h
  · rename_i hk
    unfold cancelS cancelAt at h
    split at h
    · split at h
      · cases h
      · cases h
        show Behind s.state s.state _
        unfold Behind
        omega
    split at h
    · rename_i e3
      cases h
      show Behind s.state (endSt { s with cancelled := true }) _
      have e6 : endSt { s with cancelled := true } = 6 := rfl
      rw [e6]
      unfold Behind
      omega
    split at h
    · rename_i e2
      cases h
      have hne : holders s.got ≠ [] := by
        rw [e2, bodyH hh (.inl rfl)] at hb
        simp only [Bool.and_eq_true, decide_eq_true_eq] at hb
        exact wanted_none hh hb.1.1
      rcases undo_state { s with cancelled := true } with e | ⟨-, e⟩
      · rw [e]
        unfold Behind
        omega
      · exact absurd e hne
    · cases h
  split at h
  · unfold retryS at h
    split at h
    · rename_i e3
      unfold beginS beginU at h
      split at h
      · cases h
      · split at h
        · cases h
          show Behind s.state 1 _
          unfold Behind
          omega
        · cases h
    · cases h
  split at h
  · exact all_behind (.inl ⟨rfl, rfl⟩) h
  split at h
  · exact did_behind (.inl ⟨rfl, rfl⟩) h
  split at h
  · exact all_behind (.inr ⟨rfl, rfl⟩) h
  split at h
  · exact did_behind (.inr ⟨rfl, rfl⟩) h
  · cases h
theorem life_step {s : Saga} {e : Ev} {r : Saga × List Step} (h : nextS s e = .ok r) : (Life.inL r.1.state (Life.behind s.state) || (decide (e.kind = 3) && decide (r.1.state = s.state))) = true := by
  have hb := next_behind h
  unfold Behind at hb
  generalize r.1.state = b at *
  generalize s.state = a at *
  generalize e.kind = k at *
  rw [Life.inL_iff, Bool.or_eq_true, Bool.and_eq_true, decide_eq_true_eq, decide_eq_true_eq, decide_eq_true_eq]
  rcases hb with ⟨rfl, h⟩ | ⟨rfl, h⟩ | ⟨rfl, h⟩ | ⟨rfl, h⟩ | ⟨rfl, h⟩ | ⟨rfl, h⟩ | ⟨rfl, h⟩ | ⟨h1, h2⟩
  · left
    rcases h with rfl | rfl | rfl | rfl | rfl | rfl <;> decide
  · left
    rcases h with rfl | rfl <;> decide
  · left
    rcases h with rfl | rfl <;> decide
  · left
    rcases h with rfl | rfl | rfl | rfl <;> decide
  · left
    rcases h with rfl | rfl <;> decide
  · left
    subst h
    decide
  · left
    rcases h with rfl | rfl <;> decide
  · exact .inr ⟨h1, h2⟩
end Sa
end Go.Proofs.Ythfpfomifebpbaa

namespace Go.Proofs.Ythfpfomifebpbaa
open Go.RowKit
namespace Life

def codeE (k s : Int) : Int := if k = 1 ∧ s = 3 then 200 else if k = 1 ∧ s = 5 then 51 else if k = 1 ∧ s = 6 then 4 else 0
def codeB (k s : Int) : Bool := decide (k = 1 ∧ (s = 2 ∨ s = 3 ∨ s = 5 ∨ s = 6)) || decide (k = 2 ∧ s = 6) || decide (k = 3 ∧ s = 8) || decide (k = 4 ∧ s = 10)
def CodePost (k s : Int) (e : Ending) : Prop := e = .returned (.tuple #[.int .i64 (codeE k s), .bool (codeB k s)])
theorem codePost_mk {k s a : Int} {b : Bool} (h1 : codeE k s = a) (h2 : codeB k s = b) : CodePost k s (.returned (.tuple #[.int .i64 a, .bool b])) := by rw [← h1, ← h2]; exact rfl

set_option maxHeartbeats 1000000 in
theorem code_calls (k s : Int) (w : World) :
    Calls Try.prog 39 #[.int .i64 k, .int .i64 s] w fun e w' => CodePost k s e ∧ w = w' := by
  go_enter Try.func39, Try.ntmps39
  go_wp2
  all_goals
    go_ret2
    refine ⟨codePost_mk ?_ ?_, rfl⟩
    all_goals first | rfl | (simp [codeE, codeB, *])

/-- the inner loop's list behind k rounds -/
def innerTo (seen b m0 : List Int) : Nat → List Int
  | 0 => m0
  | k + 1 => if !inL (b.getD k 0) seen && !inL (b.getD k 0) (innerTo seen b m0 k) then innerTo seen b m0 k ++ [b.getD k 0] else innerTo seen b m0 k
def outerTo (seen : List Int) : Nat → List Int
  | 0 => []
  | i + 1 => innerTo seen (behind (seen.getD i 0)) (outerTo seen i) (behind (seen.getD i 0)).length
def roundTo (s0 : List Int) : Nat → List Int
  | 0 => s0
  | r + 1 => roundTo s0 r ++ outerTo (roundTo s0 r) (roundTo s0 r).length
theorem behind_len (n : Int) : (behind n).length ≤ 6 := by
  rcases @nine n with h | h | h | h | h | h | h | h
  all_goals try subst h
  all_goals first | decide | (rw [behind_out h]; decide)
theorem innerTo_len (seen b m0 : List Int) (k : Nat) : (innerTo seen b m0 k).length ≤ m0.length + k := by
  induction k with
  | zero => simp [innerTo]
  | succ k ih => unfold innerTo; split <;> (try simp) <;> omega
theorem outerTo_len (seen : List Int) (i : Nat) : (outerTo seen i).length ≤ 6 * i := by
  induction i with
  | zero => simp [outerTo]
  | succ i ih =>
    unfold outerTo
    have := innerTo_len seen (behind (seen.getD i 0)) (outerTo seen i) (behind (seen.getD i 0)).length
    have := behind_len (seen.getD i 0)
    omega
def cap7 : Nat → Nat
  | 0 => 6
  | r + 1 => 7 * cap7 r
theorem roundTo_len (s0 : List Int) (h : s0.length ≤ 6) (r : Nat) : (roundTo s0 r).length ≤ cap7 r := by
  induction r with
  | zero => simpa [roundTo, cap7] using h
  | succ r ih =>
    unfold roundTo cap7
    have := outerTo_len (roundTo s0 r) (roundTo s0 r).length
    rw [List.length_append]
    omega
theorem cap7_le (r : Nat) (h : r ≤ 11) : cap7 r ≤ 11863960458 := by
  have : ∀ r, r ≤ 11 → cap7 r ≤ cap7 11 := by
    intro r hr
    induction r with
    | zero => decide
    | succ r ih =>
      obtain h1 | h1 : r + 1 = 11 ∨ r + 1 ≤ 10 := by omega
      · rw [h1]; exact Nat.le_refl _
      · have : ∀ m, m ≤ 10 → cap7 m * 7 ≤ cap7 11 := by decide
        have := this (r + 1) h1
        omega
  have h2 := this r h
  have h3 : cap7 11 = 11863960458 := by decide
  omega

theorem int_info : (Try.prog.info? 3).map (fun i => (i.zero, i.size, i.bytes)) = some (some (.int .i64 0), 1, 8) := by kernel_rfl

end Life
end Go.Proofs.Ythfpfomifebpbaa

namespace Go.Proofs.Ythfpfomifebpbaa
open Go.RowKit Go.Maps
namespace Life

abbrev Seen := List (Int × Value)
def visTo (rec : Seen → Int → Seen) (m : Seen) (l : List Int) : Nat → Seen
  | 0 => m
  | i + 1 => if (mGet (visTo rec m l i) (l.getD i 0)).isSome then visTo rec m l i else rec (mPut intK (visTo rec m l i) (l.getD i 0) (.bool true)) (l.getD i 0)
def vis : Nat → Seen → Int → Seen
  | 0 => fun m _ => m
  | f + 1 => fun m s => visTo (vis f) m (behind s) (behind s).length

/-- what is kept of the states that were seen -/
def Good (m : Seen) : Prop := ∀ p ∈ m, 1 ≤ p.1 ∧ p.1 ≤ 10 ∧ p.2 = .bool true
theorem behind_in {n : Int} {j : Nat} (h : j < (behind n).length) : 1 ≤ (behind n).getD j 0 ∧ (behind n).getD j 0 ≤ 10 := by
  have key : ∀ l : List Int, (∀ x ∈ l, 1 ≤ x ∧ x ≤ 10) → j < l.length → 1 ≤ l.getD j 0 ∧ l.getD j 0 ≤ 10 := by
    intro l hl hj
    have : l.getD j 0 = l[j] := by simp [hj]
    rw [this]
    exact hl _ (List.getElem_mem hj)
  refine key _ ?_ h
  clear h key
  rcases @nine n with h | h | h | h | h | h | h | h
  all_goals try subst h
  all_goals first | decide | (rw [behind_out h]; simp)
theorem mIns_mem {m : Seen} {k : Int} {v : Value} {p : Int × Value} (h : p ∈ mIns intK k v m) : p = (k, v) ∨ p ∈ m := by
  induction m with
  | nil => simpa [mIns] using h
  | cons q r ih =>
    unfold mIns at h
    split at h
    · rcases List.mem_cons.1 h with h | h
      · exact .inl h
      · exact .inr h
    · rcases List.mem_cons.1 h with h | h
      · exact .inr (by rw [h]; simp)
      · rcases ih h with h | h
        · exact .inl h
        · exact .inr (List.mem_cons_of_mem _ h)
theorem Good.put {m : Seen} (h : Good m) {x : Int} (h1 : 1 ≤ x) (h2 : x ≤ 10) : Good (mPut intK m x (.bool true)) := by
  intro p hp
  rcases mIns_mem hp with hp | hp
  · subst hp; exact ⟨h1, h2, rfl⟩
  · exact h p (List.mem_filter.1 hp).1
theorem mDel_none {m : Seen} {x : Int} (h : (mGet m x).isSome = false) : mDel m x = m := by
  unfold mDel
  rw [List.filter_eq_self]
  intro p hp
  simp only [Bool.not_eq_true', decide_eq_false_iff_not]
  intro e
  unfold mGet at h
  have : (m.find? (fun p => decide (p.1 = x))).isSome = true := List.find?_isSome.2 ⟨p, hp, by simp [e]⟩
  cases hf : m.find? (fun p => decide (p.1 = x)) with
  | none => rw [hf] at this; cases this
  | some q => rw [hf] at h; cases h
theorem put_len {m : Seen} {x : Int} (h : (mGet m x).isSome = false) : (mPut intK m x (.bool true)).length = m.length + 1 := by
  unfold mPut; rw [mIns_length, mDel_none h]
theorem Good.vis {f : Nat} : ∀ {m : Seen} {s : Int}, Good m → Good (vis f m s) ∧ m.length ≤ (vis f m s).length := by
  induction f with
  | zero => intro m s h; exact ⟨h, Nat.le_refl _⟩
  | succ f ih =>
    intro m s h
    have key : ∀ i, i ≤ (behind s).length → Good (visTo (Life.vis f) m (behind s) i) ∧ m.length ≤ (visTo (Life.vis f) m (behind s) i).length := by
      intro i
      induction i with
      | zero => intro _; exact ⟨h, Nat.le_refl _⟩
      | succ i ih2 =>
        intro hi
        obtain ⟨g1, g2⟩ := ih2 (by omega)
        simp only [visTo]
        split
        · exact ⟨g1, g2⟩
        · rename_i hn
          have hb := behind_in (n := s) (j := i) (by omega)
          obtain ⟨k1, k2⟩ := ih (s := (behind s).getD i 0) (g1.put hb.1 hb.2)
          have := put_len (m := visTo (Life.vis f) m (behind s) i) (x := (behind s).getD i 0) (by simpa using hn)
          exact ⟨k1, by omega⟩
    exact key _ (Nat.le_refl _)
theorem visTo_good {f : Nat} {m : Seen} {s : Int} (h : Good m) : ∀ i, i ≤ (behind s).length → Good (visTo (Life.vis f) m (behind s) i) ∧ m.length ≤ (visTo (Life.vis f) m (behind s) i).length := by
  intro i
  induction i with
  | zero => intro _; exact ⟨h, Nat.le_refl _⟩
  | succ i ih2 =>
    intro hi
    obtain ⟨g1, g2⟩ := ih2 (by omega)
    simp only [visTo]
    split
    · exact ⟨g1, g2⟩
    · rename_i hn
      have hb := behind_in (n := s) (j := i) (by omega)
      obtain ⟨k1, k2⟩ := Good.vis (f := f) (s := (behind s).getD i 0) (g1.put hb.1 hb.2)
      have := put_len (m := visTo (Life.vis f) m (behind s) i) (x := (behind s).getD i 0) (by simpa using hn)
      exact ⟨k1, by omega⟩
theorem sorted_len : ∀ (m : Seen) (a : Int), m.Pairwise (fun p q => p.1 < q.1) → (∀ p ∈ m, a ≤ p.1 ∧ p.1 ≤ 10) → (m.length : Int) ≤ 11 - a ∨ m = [] := by
  intro m
  induction m with
  | nil => intro a _ _; exact .inr rfl
  | cons p r ih =>
    intro a hs hb
    left
    rw [List.pairwise_cons] at hs
    have h0 := hb p (by simp)
    rcases ih (p.1 + 1) hs.2 (fun q hq => ⟨by have := hs.1 q hq; omega, (hb q (List.mem_cons_of_mem _ hq)).2⟩) with h | h
    · simp only [List.length_cons]; omega
    · subst h; simp; omega
theorem good_len {m : Seen} (h : Good m) (hs : m.Pairwise (fun p q => intK.lt p.1 q.1 = true)) : m.length ≤ 10 := by
  have hs' : m.Pairwise (fun p q => p.1 < q.1) := hs.imp (by intro a b h; exact of_decide_eq_true h)
  rcases sorted_len m 1 hs' (fun p hp => ⟨(h p hp).1, (h p hp).2.1⟩) with h | h
  · omega
  · subst h; simp
theorem good_get {m : Seen} (h : Good m) (x : Int) : (mGet m x).getD (.bool false) = .bool (mGet m x).isSome := by
  cases hx : mGet m x with
  | none => rfl
  | some v =>
    unfold mGet at hx
    cases hf : m.find? (fun p => decide (p.1 = x)) with
    | none => rw [hf] at hx; cases hx
    | some p =>
      rw [hf] at hx
      cases hx
      have := (h p (List.mem_of_find?_eq_some hf)).2.2
      simp [this]

theorem keyed : Keyed Try.prog 3 := int_keyed Try.underlying3
theorem zeroB (w : World) : (zeroValue 4).run Try.prog w = .ok (.bool false) w := by kernel_rfl
theorem key_int {x : Int} (h1 : -9223372036854775808 ≤ x) (h2 : x ≤ 9223372036854775807) : keyOf Try.prog 3 (.int .i64 x) = some (intK.lit x) :=
  keyOf_int_mk Try.underlying3 (WalkArith.wf_i64 (by omega))

set_option maxRecDepth 100000 in
/-- the closure: it marks what may be reached -/
theorem visit_calls (f : Nat) : ∀ (m : Seen) (s : Int) (bs bv bm : Nat) (w : World), Good m → 10 < f + m.length → GMap intK w Try.prog 3 bm m →
    w.cell? ⟨bs, 0, none⟩ = some (.map (some bm)) → w.cell? ⟨bv, 0, none⟩ = some (.func (.func 64) #[] #[.pointer (some ⟨bs, 0, none⟩), .pointer (some ⟨bv, 0, none⟩)]) → bs ≠ bm → bv ≠ bm →
    Calls Try.prog 64 #[.int .i64 s, .pointer (some ⟨bs, 0, none⟩), .pointer (some ⟨bv, 0, none⟩)] w fun e w' =>
      e = .returned (.tuple #[]) ∧ GMap intK w' Try.prog 3 bm (vis f m s) ∧ w.grownBy w' (some bm) := by
  induction f with
  | zero =>
    intro m s bs bv bm w hg hf hm
    have := good_len hg (hm.sorted keyed)
    omega
  | succ f ih =>
    intro m s bs bv bm w hg hf hm hcs hcv hn1 hn2
    have hlt1 : bs < w.heap.size := by
      rcases Nat.lt_or_ge bs w.heap.size with h | h
      · exact h
      · simp [World.cell?, Array.getElem?_eq_none h] at hcs
    have hlt2 : bv < w.heap.size := by
      rcases Nat.lt_or_ge bv w.heap.size with h | h
      · exact h
      · simp [World.cell?, Array.getElem?_eq_none h] at hcv
    have hlt3 := hm.lt
    have HV := Lib.hid (visTo_good (f := f) (s := s) hg)
    have HB := Lib.hid (show ∀ j, j < (behind s).length → 1 ≤ (behind s).getD j 0 ∧ (behind s).getD j 0 ≤ 10 from fun j hj => behind_in hj)
    have HT := Lib.hid (show ∀ i, visTo (vis f) m (behind s) (i + 1) = if (mGet (visTo (vis f) m (behind s) i) ((behind s).getD i 0)).isSome then visTo (vis f) m (behind s) i else vis f (mPut intK (visTo (vis f) m (behind s) i) ((behind s).getD i 0) (.bool true)) ((behind s).getD i 0) from fun _ => rfl)
    have IH := Lib.hid ih
    clear ih
    have hl6 := behind_len s
    have HC := Lib.hid (fun W => behind_calls s W)
    show Calls Try.prog _ _ w fun e w' => e = .returned (.tuple #[]) ∧ GMap intK w' Try.prog 3 bm (visTo (vis f) m (behind s) (behind s).length) ∧ w.grownBy w' (some bm)
    generalize hG : visTo (vis f) m (behind s) = g at *
    generalize behind s = bl at *
    have hg0 : g 0 = m := by rw [← hG]; rfl
    clear hG
    have Hg0 := Lib.hid hg0
    clear hg0
    go_enter Try.func64, Try.ntmps64
    go_wp2_with (go_at_call 43; refine (HC.out _).mono ?_; rintro e w1 ⟨⟨v, rfl, hv⟩, hb⟩; obtain ⟨A, c, rfl, hc1, hc2, _⟩ := (IntsAt.of_own hv).form; unfold maxLen at hc2)
    have hm1 := hm.below hb hlt3
    have hcs1 := (hb.cell (p := ⟨bs, 0, none⟩) hlt1).trans hcs
    have hcv1 := (hb.cell (p := ⟨bv, 0, none⟩) hlt2).trans hcv
    have Hhc := Lib.hid (And.intro hcs hcv)
    clear hcs hcv
    have hsz := hb.size
    go_loopw [5, 9] (fun _ i wr => ∃ k : Nat, k ≤ bl.length ∧ i = .int .i64 k ∧ GMap intK wr Try.prog 3 bm (g k) ∧ w1.grownBy wr (some bm)) (fun _ i _ => bl.length - (intOf i).toNat)
    case atStart => exact ⟨0, by omega, rfl, by rw [Hg0.out]; exact hm1, World.grownBy.refl w1 _⟩
    case round =>
      obtain ⟨k, hk, rfl, hmk, hgr⟩ := hrel
      obtain ⟨w2, rfl⟩ : ∃ w2 : World, w2 = wr := ⟨_, rfl⟩
      have hcs2 := (World.cell?_of_block (w := w1) (a := ⟨bs, 0, none⟩) (hgr.block bs (by omega) (by simpa using hn1))).trans hcs1
      have hcv2 := (World.cell?_of_block (w := w1) (a := ⟨bv, 0, none⟩) (hgr.block bv (by omega) (by simpa using hn2))).trans hcv1
      have Hhc1 := Lib.hid (And.intro hcs1 hcv1)
      clear hcs1 hcv1
      by_cases hlt : k < bl.length
      · have hv2 := hv.kept hgr (.inr (fun e => by have := hv.lt _ e; omega))
        obtain ⟨b, o, rfl, _, hb2, hck⟩ := (IntsAt.of_own hv2).cellAt hlt
        have hx := HB.out k hlt
        have hT := HT.out k
        generalize hy : bl.getD k 0 = x at *
        have HT2 := Lib.hid hT
        clear hT
        have HY := Lib.hid hy
        clear hy
        have hgk := HV.out k hk
        have HL := Lib.hid (hmk.look keyed Try.underlying91 (zeroB w2) (key_int (x := x) (by omega) (by omega)))
        rw [good_get hgk.1] at HL
        by_cases hs : (mGet (g k) x).isSome = true
        · rw [hs] at HL
          have hL := HL.out
          have hE : g (k + 1) = g k := by rw [HT2.out, if_pos hs]
          have HE := Lib.hid hE
          clear hE hs hgk hx HL
          go_wp2
          go_roundw
          case rel => exact ⟨k + 1, by omega, by go_num, by rw [HE.out]; exact hmk, hgr⟩
          case measure => simp [intOf]; omega
        · have hs : (mGet (g k) x).isSome = false := by simpa using hs
          rw [hs] at HL
          have hL := HL.out
          have hE : g (k + 1) = vis f (mPut intK (g k) x (.bool true)) x := by rw [HT2.out, if_neg (by simp [hs])]
          have HE := Lib.hid hE
          have HP := Lib.hid (put_len hs)
          have hG2 := hgk.1.put hx.1 hx.2
          have hlen : (g k).length ≤ 10 := good_len hgk.1 (hmk.sorted keyed)
          have hkl : 10 < f + (mPut intK (g k) x (.bool true)).length := by have := HP.out; omega
          have HK := Lib.hid (key_int (x := x) (by omega) (by omega))
          clear hE hs HL
          go_wp2_with (first
            | (at_mapUpdate
               refine wpList_put_g rfl _ _ _ 91 rfl 3 4 keyed Try.underlying91 rfl hmk (by unfold maxLen; omega) (.int .i64 x) (.bool true) x rfl rfl HK.out ?_
               intro w3 hm3 hg3
               have hgr3 := hgr.trans hg3
               have hcs3 := (World.cell?_of_block (w := w1) (a := ⟨bs, 0, none⟩) (hgr3.block bs (by omega) (by simpa using hn1))).trans Hhc1.out.1
               have hcv3 := (World.cell?_of_block (w := w1) (a := ⟨bv, 0, none⟩) (hgr3.block bv (by omega) (by simpa using hn2))).trans Hhc1.out.2
               clear hcs2 hcv2 hL)
            | (go_at_call 64; refine (IH.out _ x bs bv bm _ hG2 hkl hm3 hcs3 hcv3 hn1 hn2).mono ?_; rintro e w4 ⟨rfl, hm4, hg4⟩))
          go_roundw
          case rel => exact ⟨k + 1, by omega, by go_num, by rw [HE.out]; exact hm4, hgr3.trans hg4⟩
          case measure => simp [intOf]; omega
      · obtain rfl : k = bl.length := by omega
        go_wp2
        go_end0
        refine ⟨rfl, hmk, ?_⟩
        exact (only_of_below hb (some bm)).trans hgr

set_option maxHeartbeats 400000 in
theorem reach_calls (a b : Int) (w : World) (h1 : -9223372036854775808 ≤ b) (h2 : b ≤ 9223372036854775807) :
    Calls Try.prog 41 #[.int .i64 a, .int .i64 b] w fun e w' => e = .returned (.bool (mGet (vis 11 [] a) b).isSome) ∧ Below w.heap.size w w' := by
  have hmm := @run_makeMap Try.prog
  go_enter Try.func41, Try.ntmps41
  go_wp2_with fail
  obtain ⟨w3, hw3⟩ : ∃ w3 : World, w3 = (((w.alloc (.map #[] 0)).alloc (.cells #[.map (some w.heap.size)] 91)).alloc
    (.cells #[.func (.func 64) #[] #[.pointer (some ⟨w.heap.size + 1, 0, none⟩), .pointer (some ⟨w.heap.size + 1 + 1, 0, none⟩)]] 92)) := ⟨_, rfl⟩
  have hbw : Below w.heap.size w w3 := by rw [hw3]; exact ((((Below.refl _ w).alloc (Nat.le_refl _) _).alloc (by simp) _).alloc (by simp; omega) _)
  have hsz : w3.heap.size = w.heap.size + 3 := by rw [hw3]; simp
  have hm : GMap intK w3 Try.prog 3 w.heap.size [] := by
    rw [hw3]
    exact ((GMap.made w _ _).kept (World.grownBy_alloc _ _ none) (by simp)).kept (World.grownBy_alloc _ _ none) (by simp)
  have hcs : w3.cell? ⟨w.heap.size + 1, 0, none⟩ = some (.map (some w.heap.size)) := by rw [hw3]; go_simp
  have hcv : w3.cell? ⟨w.heap.size + 1 + 1, 0, none⟩ = some (.func (.func 64) #[] #[.pointer (some ⟨w.heap.size + 1, 0, none⟩), .pointer (some ⟨w.heap.size + 1 + 1, 0, none⟩)]) := by rw [hw3]; go_simp
  rw [← hw3]
  refine (visit_calls 11 [] a _ _ _ _ (by intro p hp; cases hp) (by simp) hm hcs hcv (by omega) (by omega)).mono ?_
  rintro e w4 ⟨rfl, hm4, hg4⟩
  have hcs4 := (World.cell?_of_block (w := w3) (a := ⟨w.heap.size + 1, 0, none⟩) (hg4.block _ (by simp; omega) (by simp))).trans hcs
  have hgd : Good (vis 11 [] a) := (Good.vis (f := 11) (m := []) (s := a) (by intro p hp; cases hp)).1
  have hL := hm4.look keyed Try.underlying91 (zeroB w4) (key_int (x := b) h1 h2)
  rw [good_get hgd] at hL
  clear hcs hcv hw3
  go_wp2
  go_ret
  exact ⟨rfl, hbw.grown hg4 (by omega) (by intro k hk; cases hk; omega)⟩

def keys (a : Int) : List Int := (vis 11 [] a).map (·.1)
theorem isSome_keys (m : Seen) (x : Int) : (mGet m x).isSome = decide (x ∈ m.map (·.1)) := by
  induction m with
  | nil => rfl
  | cons p r ih =>
    rw [mGet_cons]
    by_cases h : p.1 = x
    · simp [h]
    · rw [if_neg h, ih]
      simp [Ne.symm h]
theorem vis_out {a : Int} (h : a ≠ 1 ∧ a ≠ 2 ∧ a ≠ 3 ∧ a ≠ 4 ∧ a ≠ 7 ∧ a ≠ 8 ∧ a ≠ 9) : vis 11 [] a = [] := by
  show visTo _ _ _ _ = _
  rw [behind_out h]; rfl
theorem round_out {a : Int} (h : a ≠ 1 ∧ a ≠ 2 ∧ a ≠ 3 ∧ a ≠ 4 ∧ a ≠ 7 ∧ a ≠ 8 ∧ a ≠ 9) : roundTo (behind a) 12 = [] := by rw [behind_out h]; decide
/-- both say the same -/
theorem reach_same (a b : Int) : (mGet (vis 11 [] a) b).isSome = inL b (roundTo (behind a) 12) := by
  rw [isSome_keys, inL_iff]
  rcases @nine a with h | h | h | h | h | h | h | h
  case inr.inr.inr.inr.inr.inr.inr => rw [vis_out h, round_out h]; rfl
  all_goals
    subst h
    rw [decide_eq_decide]
    constructor
    · revert b; decide +kernel
    · revert b; decide +kernel
end Life
end Go.Proofs.Ythfpfomifebpbaa

namespace Go.Proofs.Ythfpfomifebpbaa
open Go.RowKit Go.Maps
namespace Life

theorem behind2_len (w : World) : Calls Try.prog 43 #[.int .i64 2] w fun e w' => (∃ A c, e = .returned (.slice A 2 c)) ∧ Below w.heap.size w w' :=
  (behind_calls 2 w).mono fun e w' ⟨⟨v, he, hv⟩, hb⟩ => by
    obtain ⟨A, c, hc, _⟩ := (IntsAt.of_own hv).form
    exact ⟨⟨A, c, by rw [he, hc]; rfl⟩, hb⟩
set_option maxHeartbeats 1000000 in
theorem lives_calls (w : World) :
    Calls Try.prog 23 #[] w fun e w' => e = .returned (.bool true) ∧ Below w.heap.size w w' := by
  have c1 := fun W => (named_calls ⟨#[104, 101, 108, 100]⟩ W)
  rw [show namedN ⟨#[104, 101, 108, 100]⟩ = 2 by decide +kernel] at c1
  have c2 := fun W => (code_calls 1 3 W)
  have c3 := fun W => (name_calls 6 W)
  rw [show nameOf 6 = ⟨#[103, 111, 110, 101]⟩ by decide] at c3
  have c4 := fun W => (may_calls 2 7 W)
  rw [show inL 7 (behind 2) = true by decide] at c4
  have c5 := fun W => (may_calls 8 6 W)
  rw [show inL 6 (behind 8) = false by decide] at c5
  have c6 := fun W => (reach_calls 1 10 W (by omega) (by omega))
  rw [reach_same, show inL 10 (roundTo (behind 1) 12) = true by decide +kernel] at c6
  have c7 := fun W => (quiet_calls 2 W)
  rw [show quiet 2 = true by decide] at c7
  have C1 := Lib.hid c1
  have C2 := Lib.hid c2
  have C3 := Lib.hid c3
  have C4 := Lib.hid c4
  have C5 := Lib.hid c5
  have C6 := Lib.hid c6
  have C7 := Lib.hid c7
  clear c1 c2 c3 c4 c5 c6 c7
  go_enter Try.func23, Try.ntmps23
  go_wp2_with fail
  refine (C1.out _).mono ?_
  rintro e w1 ⟨rfl, h1⟩
  go_wp2_with fail
  refine (C2.out _).mono ?_
  rintro e w2 ⟨rfl, rfl⟩
  go_wp2_with fail
  refine (C3.out _).mono ?_
  rintro e w3 ⟨rfl, h3⟩
  go_wp2_with fail
  refine (C4.out _).mono ?_
  rintro e w4 ⟨rfl, h4⟩
  go_wp2_with fail
  refine (C5.out _).mono ?_
  rintro e w5 ⟨rfl, h5⟩
  go_wp2_with fail
  refine (C6.out _).mono ?_
  rintro e w6 ⟨rfl, h6⟩
  go_wp2_with fail
  refine (C7.out _).mono ?_
  rintro e w7 ⟨rfl, rfl⟩
  go_wp2_with fail
  refine (behind2_len _).mono ?_
  rintro e w8 ⟨⟨A, c, rfl⟩, h8⟩
  go_wp2
  go_ret
  have s1 := h1.size
  have s3 := h3.size
  have s4 := h4.size
  have s5 := h5.size
  have s6 := h6.size
  exact ⟨rfl, h1.trans ((h3.mono (by omega)).trans ((h4.mono (by omega)).trans ((h5.mono (by omega)).trans ((h6.mono (by omega)).trans (h8.mono (by omega))))))⟩
end Life
end Go.Proofs.Ythfpfomifebpbaa

namespace Go.Proofs.Ythfpfomifebpbaa
open Go.RowKit Go.Maps
namespace Sa
open It
set_option linter.unusedSimpArgs false

set_option maxRecDepth 100000 in
set_option maxHeartbeats 8000000 in
theorem lifenexts_law (s : Saga) (ev : Ev) (vw vg vp ve : Value) (w : World) (h : Parts w 0 w.heap.size s vw vg vp) (hF : Fit s) (hv : ItemsAt w 0 w.heap.size ve ev.items) (hFe : Fits ev.items) :
    Calls Try.prog 8 #[.agg (sagaC s vw vg vp), .agg (evC ev ve)] w fun e w' => e = .returned (.bool true) ∧ Below w.heap.size w w' := by
  have hmx : Try.prog.follows .mixedOrders = true := by kernel_rfl
  obtain ⟨A1, c1, rfl, -⟩ := h.want.form
  obtain ⟨A2, c2, rfl, hg1, hg2⟩ := h.got.form
  obtain ⟨A3, c3, rfl, -⟩ := h.pend.form
  obtain ⟨A4, c4, rfl, -⟩ := hv.form
  unfold maxLen at hg2
  obtain ⟨sc, hsc⟩ : ∃ sc, sc = sagaC s (.slice A1 s.want.length c1) (.slice A2 s.got.length c2) (.slice A3 s.pending.length c3) := ⟨_, rfl⟩
  obtain ⟨ec, hec⟩ : ∃ ec, ec = evC ev (.slice A4 ev.items.length c4) := ⟨_, rfl⟩
  have cN := Lib.hid (fun W (hb : Below w.heap.size w W) => next_calls s _ _ _ ev _ W (h.later hb) hF (hv.mono hb hb.size) hFe)
  have cM := Lib.hid (fun W (hb : Below w.heap.size w W) => refmay15_calls s _ _ _ W (h.later hb) hF)
  have cL := Lib.hid (fun W => Life.lives_calls W)
  have HG := Lib.hid (fun W (hb : Below w.heap.size w W) => (h.later hb).got)
  rw [← hsc] at cM cN
  rw [← hec] at cN
  rw [← hsc, ← hec]
  have ha1 := (Below.refl w.heap.size w).alloc (Nat.le_refl _) (.cells sc 27)
  have ha2 := ha1.alloc ha1.size (.cells ec 44)
  have o1 := (Ob.new w 27 sc).alloc (.cells ec 44)
  have o2 := Ob.new (w.alloc (.cells sc 27)) 44 ec
  rw [World.size_alloc] at o2
  have hs1 : sc.size = 10 := by rw [hsc]; rfl
  have he1 : ec.size = 3 := by rw [hec]; rfl
  have HTEN := Lib.hid (show ∀ V, Ob V w.heap.size 27 sc → _ from fun V hV => by rw [hsc] at hV; exact ob_ten hV)
  have HEV := Lib.hid (show ∀ V, Ob V (w.heap.size + 1) 44 ec → _ from fun V hV => by rw [hec] at hV; exact ob_three hV)
  obtain ⟨-, -, -, k3, -, -, -, k7, k8, -⟩ := HTEN.out _ o1
  obtain ⟨j0, -, j2⟩ := HEV.out _ o2
  clear h hv hsc hec ha1
  have hcs : (¬ s.want.length ≤ 50) ∨ (s.want.length ≤ 50 ∧ ¬ s.got.length ≤ 20) ∨ (s.want.length ≤ 50 ∧ s.got.length ≤ 20 ∧ ¬ s.pending.length ≤ 20) ∨
      (s.want.length ≤ 50 ∧ s.got.length ≤ 20 ∧ s.pending.length ≤ 20 ∧ ¬ ev.items.length ≤ 50) ∨ (s.want.length ≤ 50 ∧ s.got.length ≤ 20 ∧ s.pending.length ≤ 20 ∧ ev.items.length ≤ 50) := by omega
  rcases hcs with h0 | ⟨h0, h1⟩ | ⟨h0, h1, h2⟩ | ⟨h0, h1, h2, h3⟩ | ⟨h0, h1, h2, h3⟩
  · have d0 : decide ((s.want.length : Int) > 50) = true := decide_eq_true (by omega)
    clear h0
    go_enter Try.func8, Try.ntmps8
    go_wp2_with fail
    refine (cL.out _).mono ?_
    rintro e W2 ⟨rfl, hb2⟩
    go_wp2
    go_ret
    exact ⟨rfl, ha2.trans (hb2.mono ha2.size)⟩
  · have d0 : decide ((s.want.length : Int) > 50) = false := decide_eq_false (by omega)
    have d1 : decide ((s.got.length : Int) > 20) = true := decide_eq_true (by omega)
    clear h0 h1
    go_enter Try.func8, Try.ntmps8
    go_wp2_with fail
    refine (cL.out _).mono ?_
    rintro e W2 ⟨rfl, hb2⟩
    go_wp2
    go_ret
    exact ⟨rfl, ha2.trans (hb2.mono ha2.size)⟩
  · have d0 : decide ((s.want.length : Int) > 50) = false := decide_eq_false (by omega)
    have d1 : decide ((s.got.length : Int) > 20) = false := decide_eq_false (by omega)
    have d2 : decide ((s.pending.length : Int) > 20) = true := decide_eq_true (by omega)
    clear h0 h1 h2
    go_enter Try.func8, Try.ntmps8
    go_wp2_with fail
    refine (cL.out _).mono ?_
    rintro e W2 ⟨rfl, hb2⟩
    go_wp2
    go_ret
    exact ⟨rfl, ha2.trans (hb2.mono ha2.size)⟩
  · have d0 : decide ((s.want.length : Int) > 50) = false := decide_eq_false (by omega)
    have d1 : decide ((s.got.length : Int) > 20) = false := decide_eq_false (by omega)
    have d2 : decide ((s.pending.length : Int) > 20) = false := decide_eq_false (by omega)
    have d3 : decide ((ev.items.length : Int) > 50) = true := decide_eq_true (by omega)
    clear h0 h1 h2 h3
    go_enter Try.func8, Try.ntmps8
    go_wp2_with fail
    refine (cL.out _).mono ?_
    rintro e W2 ⟨rfl, hb2⟩
    go_wp2
    go_ret
    exact ⟨rfl, ha2.trans (hb2.mono ha2.size)⟩
  have d0 : decide ((s.want.length : Int) > 50) = false := decide_eq_false (by omega)
  have d1 : decide ((s.got.length : Int) > 20) = false := decide_eq_false (by omega)
  have d2 : decide ((s.pending.length : Int) > 20) = false := decide_eq_false (by omega)
  have d3 : decide ((ev.items.length : Int) > 50) = false := decide_eq_false (by omega)
  have HGL := Lib.hid h1
  clear h0 h1 h2 h3
  go_enter Try.func8, Try.ntmps8
  go_wp2_with fail
  generalize (w.alloc (.cells sc 27)).alloc (.cells ec 44) = W0 at *
  have HG0 := Lib.hid (HG.out W0 ha2)
  clear d0 d1 d2 d3 k3 k8 j0 j2
  go_loop [5] (fun i => ∃ k : Nat, k ≤ s.got.length ∧ i = .int .i64 k) (fun i => s.got.length - (intOf i).toNat)
  case atStart => exact ⟨0, by omega, rfl⟩
  case round =>
    obtain ⟨k, hk, rfl⟩ := hrel
    have hgl := HGL.out
    by_cases hlt : k < s.got.length
    · have hd : decide ((k : Int) < s.got.length) = true := decide_eq_true (by omega)
      obtain ⟨p, o, x, rfl, -, hp, q1, hx⟩ := HG0.out.cellAt hlt
      generalize s.got.getD k [] = l at hx
      obtain ⟨A7, c7, rfl, -⟩ := hx.form
      clear hx
      by_cases hl : l.length ≤ 50
      · have dl : decide ((l.length : Int) > 50) = false := decide_eq_false (by omega)
        clear hl hgl
        go_wp2
        go_round
        case rel => exact ⟨k + 1, by omega, by go_num⟩
        case measure => simp [intOf]; omega
      · have dl : decide ((l.length : Int) > 50) = true := decide_eq_true (by omega)
        clear hl hgl
        go_wp2_with fail
        refine (cL.out _).mono ?_
        rintro e W2 ⟨rfl, hb2⟩
        go_wp2
        go_ret
        exact ⟨rfl, ha2.trans (hb2.mono ha2.size)⟩
    · obtain rfl : k = s.got.length := by omega
      have hd : decide ((s.got.length : Int) < s.got.length) = false := decide_eq_false (by omega)
      clear hgl hlt
      go_wp2_with (first
        | (refine wpList_load_obg (by rfl) _ _ rfl rfl _ o1 Try.underlying27 rfl (by rw [hs1]; kernel_rfl) ?_)
        | (refine wpList_load_obg (by rfl) _ _ rfl rfl _ o2 Try.underlying44 rfl (by rw [he1]; kernel_rfl) ?_))
      refine (cN.out _ ha2).mono ?_
      rintro e W2 ⟨hR, hb2⟩
      have hB2 := ha2.trans (hb2.mono ha2.size)
      have o1 := o1.same hb2
      have o2 := o2.same hb2
      generalize hnx : nextS s ev = r at hR
      have HNX := Lib.hid hnx
      clear hnx cN hb2 ha2
      obtain ⟨y, D1, m1, e1, D2, m2, e2, D3, m3, e3, D4, m4, e4, xx, rfl, hG⟩ := hR.form
      clear hR
      obtain ⟨sd, hsd⟩ : ∃ sd, sd = sagaC y (.slice D1 m1 e1) (.slice D2 m2 e2) (.slice D3 m3 e3) := ⟨_, rfl⟩
      rw [← hsd]
      have hd1 : sd.size = 10 := by rw [hsd]; rfl
      have hd2 : sd.all (·.oneCell') = true := by rw [hsd]; simp [sagaC, Value.oneCell']
      have hoN := Ob.new W2 27 #[.int .i64 0, .int .i64 0, .int .i64 0, .slice none 0 0, .bool false, .int .i64 0, .int .i64 0, .slice none 0 0, .slice none 0 0, .bool false]
      have hal3 := (Below.refl W2.heap.size W2).alloc (Nat.le_refl _) (.cells #[.int .i64 0, .int .i64 0, .int .i64 0, .slice none 0 0, .bool false, .int .i64 0, .int .i64 0, .slice none 0 0, .slice none 0 0, .bool false] 27)
      have z3 : (W2.alloc (.cells #[.int .i64 0, .int .i64 0, .int .i64 0, .slice none 0 0, .bool false, .int .i64 0, .int .i64 0, .slice none 0 0, .slice none 0 0, .bool false] 27)).heap.size = W2.heap.size + 1 := World.size_alloc _ _
      have HSD := Lib.hid hsd
      clear hsd
      go_wp2_with (refine wpList_store_ob (cells := sd) rfl 27 (.tmp 6) (.tmp 51) rfl rfl rfl hoN hd1 (by rw [hd1]; kernel_rfl) hd2 ?_
                   intro W3 ho3 hg3
                   have hb3 : Below W2.heap.size W2 W3 := hal3.grown hg3 (by omega) (fun g e => by have e2 : W2.heap.size = g := Option.some.inj e; omega)
                   have hB3 := hB2.trans (hb3.mono hB2.size)
                   have o1 := o1.same hb3
                   have o2 := o2.same hb3)
      refine (cL.out _).mono ?_
      rintro e W4 ⟨rfl, hb4⟩
      have ho4 := ho3.same hb4
      have o1 := o1.same hb4
      have o2 := o2.same hb4
      have hB4 := hB3.trans (hb4.mono hB3.size)
      clear hoN hal3 hg3 hb3 hb4 ho3 z3
      rw [HSD.out] at ho4
      cases r with
      | error z =>
        obtain ⟨rfl, hnil⟩ := hG
        have hx0 : z ≠ 0 := by
          intro e0
          have hn := HNX.out
          unfold nextS nextU at hn
          split at hn
          · exact happen_err hn e0
          · cases hn
            omega
        have dx : decide (z = 0) = false := decide_eq_false hx0
        have dx2 : (z == 0) = false := by rw [beq_eq_false_iff_ne]; exact hx0
        have dx3 : (z != 0) = true := by simp [bne, dx2]
        clear hnil hx0
        go_wp2_with fail
        refine (cL.out _).mono ?_
        rintro e W5 ⟨rfl, hb5⟩
        go_wp2
        go_ret
        exact ⟨rfl, hB4.trans (hb5.mono hB4.size)⟩
      | ok u =>
        obtain ⟨rfl, rfl, -, -⟩ := hG
        have hms : mayS s = true := (next_may HNX.out).1
        have hls := life_step HNX.out
        rw [hms] at cM
        generalize u.1 = t at hls ho4
        clear HNX hms
        obtain ⟨-, -, -, -, -, t5, -, -, -, -⟩ := ob_ten ho4
        have hol := ho4.lt
        have o1l := o1.lt
        have HO4 := Lib.hid ho4
        clear ho4
        go_wp2_with (refine wpList_load_obg (by rfl) _ _ rfl rfl _ o1 Try.underlying27 rfl (by rw [hs1]; kernel_rfl) ?_)
        refine (cM.out _ hB4).mono ?_
        rintro e W5 ⟨rfl, hb5⟩
        have hB5 := hB4.trans (hb5.mono hB4.size)
        have o1 := o1.same hb5
        have o2 := o2.same hb5
        have ho5 := HO4.out.same hb5
        obtain ⟨-, -, -, -, -, q5, -, -, -, -⟩ := HTEN.out _ o1
        obtain ⟨r0, -, -⟩ := HEV.out _ o2
        obtain ⟨-, -, -, -, -, t5, -, -, -, -⟩ := ob_ten ho5
        have hb5' := hb5
        clear hb5 cM
        have cA := Lib.hid (Life.may_calls s.state t.state W5)
        generalize Life.inL t.state (Life.behind s.state) = q at hls cA
        cases q with
        | true =>
          clear hls
          go_wp2_with fail
          refine cA.out.mono ?_
          rintro e W6 ⟨rfl, hb6⟩
          go_wp2
          go_ret
          exact ⟨rfl, hB5.trans (hb6.mono hB5.size)⟩
        | false =>
          rw [Bool.false_or, Bool.and_eq_true, decide_eq_true_eq, decide_eq_true_eq] at hls
          obtain ⟨e1, e2⟩ := hls
          have dk : decide (ev.kind = 3) = true := decide_eq_true e1
          have dk2 : (ev.kind == 3) = true := by rw [beq_iff_eq]; exact e1
          have ds : decide (t.state = s.state) = true := decide_eq_true e2
          have ds2 : (t.state == s.state) = true := by rw [beq_iff_eq]; exact e2
          have HE := Lib.hid (And.intro e1 e2)
          clear e1 e2
          go_wp2_with fail
          refine cA.out.mono ?_
          rintro e W6 ⟨rfl, hb6⟩
          have ho6 := HO4.out.same (hb5'.trans (hb6.mono hb5'.size))
          have o1 := o1.same hb6
          have o2 := o2.same hb6
          obtain ⟨-, -, -, -, -, p5, -, -, -, -⟩ := HTEN.out _ o1
          obtain ⟨p0, -, -⟩ := HEV.out _ o2
          obtain ⟨-, -, -, -, -, u5, -, -, -, -⟩ := ob_ten ho6
          go_wp2
          go_ret
          exact ⟨rfl, hB5.trans (hb6.mono hB5.size)⟩
end Sa
end Go.Proofs.Ythfpfomifebpbaa

namespace Go.Proofs.Ythfpfomifebpbaa
open Go.ChangeShapes Go.WideShapes Go.ChangeAt Go.RowKit
namespace Sa
set_option maxRecDepth 100000 in
theorem lifeNexts_lifted (os : Os) (started : os.Started) (H : Type) (enc : TypeId × Value → H) :
    ReturnsInHanded {} Try.checked os 8 .any (Rows.lifeNextsSpec.pre6 enc Try.prog Try.f8 Rows.lifeNextsRow.domain false) (Rows.lifeNextsSpec.post enc Try.prog Try.f8 false true false false) := by
  refine returnsInHanded_of_change (C := Try.checked) own started (by kernel_rfl) Try.func8
    (ChangeSpec.witness6 (enc := enc) (C := Try.checked) false ⟨#[], #[.agg #[.int .i64 0, .int .i64 0, .int .i64 0, .slice none 0 0, .bool false, .int .i64 0, .int .i64 0, .slice none 0 0, .slice none 0 0, .bool false], .agg #[.int .i64 0, .int .i64 0, .slice none 0 0]], []⟩ 8 (by kernel_rfl) (by kernel_rfl) (by kernel_rfl) (by kernel_rfl)) ?_
  intro W base args ds gs before hval0 hW _ _
  have hval : ∀ (j : Nat) t v, Try.f8.params[j]? = some t → args[j]? = some v → Value.okWide Try.prog W .any base t v := hval0
  obtain ⟨p, q, hA0, hV, hps, hfz, hnd⟩ := id hW
  have hA : DataW.TrodAll enc Try.prog W 0 (fun _ => true) true Try.f8.params.toList args.toList ds p := hA0
  rw [Try.params8] at hA hval
  obtain ⟨v0, vs0, d0, ds0, p0, q0, hargs, rfl, rfl, h0, r0⟩ := trodAll_cons hA
  obtain ⟨v1, vs1, d1, ds1, p1, q1, rfl, rfl, rfl, h1, r1⟩ := trodAll_cons r0
  obtain ⟨rfl, rfl, rfl⟩ := trodAll_nil r1
  obtain rfl : args = #[v0, v1] := by cases args; simp_all
  obtain ⟨rfl, rfl⟩ := trodVars_none hV
  obtain ⟨s, sw, sg, sp, rfl, fs, hs⟩ := Sa.open_saga (hval 0 27 v0 rfl rfl) h0
  obtain ⟨e, ev, rfl, fe, he⟩ := Sa.open_event (hval 1 44 v1 rfl rfl) h1
  refine (lifenexts_law s e _ _ _ _ W hs fs.fit he fe.2.2).mono fun e W' ⟨he, hb⟩ => ?_
  subst he
  exact ⟨_, rfl, law_post laidOut (by kernel_rfl) rfl Try.underlying4 rfl hW rfl hb⟩

theorem lifeNexts_holds : Rows.LifeNextsSaid :=
  OpenClaim.holds_of_wide 8 Try.f8 rfl rfl rfl rfl rfl rfl rfl ⟨rfl, rfl, rfl, rfl, rfl⟩ rfl rfl rfl rfl rfl (by kernel_rfl) Try.func8 (by kernel_rfl)
    (of_decide_eq_true (by kernel_rfl)) (by unfold Func.isWrapper; first | (rw [if_pos (by decide +kernel)]; kernel_rfl) | (rw [if_neg (by decide +kernel)]; exact ⟨rfl, rfl⟩))
    (fun os started H enc _ => lifeNexts_lifted os started H enc)

end Sa
end Go.Proofs.Ythfpfomifebpbaa
