/-
  items: lists that may be, in plain words: each is known by how many of each good it has.
  the document's answers on items: May.
  the document's answers on items: Of, Same, Both.
  saga: Equal of items, EqualFunc and Clone of lists of items.
  saga: freed, did, cancel, all.
  saga: did, cancel, all.
  saga: took.
-/
import Derived.Test.YthfpfomifebpbaaSs4
import Derived.Test.YthfpfomifebpbaaSs3

set_option linter.unusedVariables false
set_option linter.unusedSimpArgs false
namespace Go.Proofs.Ythfpfomifebpbaa
open Go.RowKit Go.Maps
namespace It

theorem toList_key (s : ByteArray) : s.toList = s.data.toList := ByteArray.toList_eq s
theorem strLe_eq (a b : ByteArray) : strLe a b = !(Op.bytesLess b.toList a.toList) := by
  unfold strLe
  rw [less_eq, less_eq, Bool.eq_iff_iff]
  simp only [Bool.or_eq_true, decide_eq_true_eq, beq_iff_eq, Bool.not_eq_true', decide_eq_false_iff_not]
  constructor
  · rintro (h | h) h2
    · exact bs_asy _ _ h h2
    · rw [h] at h2; exact bs_irr _ h2
  · intro h
    rcases bs_tri a.toList b.toList with h1 | h1 | h1
    · exact .inl h1
    · exact .inr h1
    · exact absurd h1 h

def okI (x : Item) : Bool := good x.1 && decide (1 ≤ x.2) && countOk x.2
theorem okItem_eq (x : Item) (last : ByteArray) : okItem x last = (okI x && decide (last.data.toList < key x)) := by
  unfold okItem okI key
  rw [strLe_eq, Bool.not_not, less_eq, toList_key, toList_key]
theorem mayTo_iff : ∀ (l : List Item) (last : ByteArray), mayTo last l = true ↔ (∀ x ∈ l, okI x = true) ∧ (last.data.toList :: l.map key).Pairwise (· < ·)
  | [], last => by simp [mayTo]
  | x :: r, last => by
    simp only [mayTo, okItem_eq, Bool.and_eq_true, mayTo_iff r x.1, decide_eq_true_eq, List.map_cons]
    rw [show x.1.data.toList = key x from rfl]
    simp only [List.pairwise_cons, List.mem_cons, List.mem_map, forall_eq_or_imp]
    constructor
    · rintro ⟨⟨h1, h2⟩, h3, h4, h5⟩
      refine ⟨⟨h1, h3⟩, ⟨h2, fun a ha => List.lt_trans h2 (h4 a ha)⟩, h4, h5⟩
    · rintro ⟨⟨h1, h3⟩, ⟨h2, _⟩, h4, h5⟩
      exact ⟨⟨h1, h2⟩, h3, h4, h5⟩

/-- a list that may be -/
structure M (l : List Item) : Prop where
  len : l.length ≤ 16
  ok : ∀ x ∈ l, good x.1 = true ∧ 1 ≤ x.2 ∧ x.2 ≤ 1099511627776
  sorted : l.Pairwise fun a b => key a < key b
theorem good_key {x : Item} (h : good x.1 = true) : [] < key x := by
  unfold good at h
  simp only [Bool.and_eq_true, decide_eq_true_eq] at h
  have h1 := h.1.2
  unfold key
  rw [← ByteArray.size_data] at h1
  have h2 : x.1.data.toList.length = x.1.data.size := by simp
  match hl : x.1.data.toList with
  | [] => rw [hl] at h2; simp at h2; omega
  | c :: r => simp
theorem okI_iff (x : Item) : okI x = true ↔ good x.1 = true ∧ 1 ≤ x.2 ∧ x.2 ≤ 1099511627776 := by
  unfold okI
  simp only [Bool.and_eq_true, decide_eq_true_eq, countOk_iff]
  constructor
  · rintro ⟨⟨h1, h2⟩, h3⟩; exact ⟨h1, h2, h3.2⟩
  · rintro ⟨h1, h2, h3⟩; exact ⟨⟨h1, h2⟩, by omega, h3⟩
theorem may_iff (l : List Item) : may l = true ↔ M l := by
  unfold may
  rw [Bool.and_eq_true, decide_eq_true_eq, mayTo_iff]
  constructor
  · rintro ⟨⟨h1, h2⟩, h3⟩
    refine ⟨h3, fun x hx => (okI_iff x).1 (h1 x hx), ?_⟩
    have := (List.pairwise_cons.1 h2).2
    rwa [List.pairwise_map] at this
  · rintro ⟨h1, h2, h3⟩
    refine ⟨⟨fun x hx => (okI_iff x).2 (h2 x hx), List.pairwise_cons.2 ⟨fun k hk => ?_, ?_⟩⟩, h1⟩
    · obtain ⟨x, hx, rfl⟩ := List.mem_map.1 hk
      exact good_key (h2 x hx).1
    · rw [List.pairwise_map]; exact h3

theorem key_item (x : Item) : ∀ y : Item, key x = key y → x.2 = y.2 → x = y := fun y h1 h2 => by
  rw [item_eta x, item_eta y, h1, h2]
theorem tot_mem {l : List Item} (h : l.Pairwise fun a b => key a < key b) {x : Item} (hx : x ∈ l) : tot (key x) l = x.2 := by
  induction l with
  | nil => cases hx
  | cons y r ih =>
    have h' := List.pairwise_cons.1 h
    simp only [tot]
    rcases List.mem_cons.1 hx with rfl | hx
    · rw [if_pos rfl, tot_out, Int.add_zero]
      intro hk
      obtain ⟨z, hz, e⟩ := List.mem_map.1 hk
      have := h'.1 z hz
      rw [e] at this
      exact bs_irr _ this
    · rw [ih h'.2 hx, if_neg, Int.zero_add]
      intro e
      have := h'.1 x hx
      rw [e] at this
      exact bs_irr _ this
theorem tot_pos {k : Bs} {l : List Item} (h : tot k l ≠ 0) : k ∈ l.map key := Decidable.byContradiction fun hk => h (tot_out hk)
theorem M.nonneg {l : List Item} (h : M l) (k : Bs) : 0 ≤ tot k l := by
  by_cases hk : k ∈ l.map key
  · obtain ⟨x, hx, rfl⟩ := List.mem_map.1 hk
    rw [tot_mem h.sorted hx]
    have := h.ok x hx; omega
  · rw [tot_out hk]; omega
theorem M.le {l : List Item} (h : M l) (k : Bs) : tot k l ≤ 1099511627776 := by
  by_cases hk : k ∈ l.map key
  · obtain ⟨x, hx, rfl⟩ := List.mem_map.1 hk
    rw [tot_mem h.sorted hx]
    have := h.ok x hx; omega
  · rw [tot_out hk]; omega
theorem M.norm {a b : List Item} (hb : b.Pairwise fun a b => key a < key b) (hp : ∀ x ∈ b, 0 < x.2) (hk : ∀ k, tot k a = tot k b) : IsNorm a b := by
  refine ⟨hb, fun x => ⟨fun hx => ?_, fun ⟨h1, h2, h3⟩ => ?_⟩⟩
  · have h1 := tot_mem hb hx
    have h2 := hp x hx
    rw [← hk] at h1
    exact ⟨tot_pos (by omega), h1.symm, h2⟩
  · rw [hk] at h2
    obtain ⟨y, hy, e⟩ := List.mem_map.1 (tot_pos (k := key x) (l := b) (by omega))
    have := tot_mem hb hy
    rw [e, ← h2] at this
    rw [key_item x y e.symm this]
    exact hy
theorem M.ext {a b : List Item} (ha : M a) (hb : M b) (hk : ∀ k, tot k a = tot k b) : a = b :=
  (M.norm ha.sorted (fun x hx => by have := ha.ok x hx; omega) (fun _ => rfl)).unique (M.norm hb.sorted (fun x hx => by have := hb.ok x hx; omega) hk)

/-! Of, as a sum -/
theorem wrap_small {n : Int} (h1 : -9223372036854775808 ≤ n) (h2 : n ≤ 9223372036854775807) : wrap64 n = n := by unfold wrap64; omega
theorem ofStep_key (s : ByteArray) (t : Int) (x : Item) : ofStep s t x = if key x = s.data.toList then wrap64 (t + x.2) else t := by
  unfold ofStep key
  rw [toList_key, toList_key]
  by_cases h : x.1.data.toList = s.data.toList
  · rw [if_pos (by simpa using h), if_pos h]
  · rw [if_neg (by simpa using h), if_neg h]
theorem ofSum_foldl (s : ByteArray) : ∀ (l : List Item) (t : Int), (∀ x ∈ l, 0 ≤ x.2 ∧ x.2 ≤ 1099511627776) → 0 ≤ t → t + l.length * 1099511627776 ≤ 9223372036854775807 → l.foldl (ofStep s) t = t + tot s.data.toList l
  | [], t, _, _, _ => by simp [tot]
  | x :: l, t, h, h0, h1 => by
    have hx := h x (by simp)
    simp only [List.length_cons] at h1
    rw [List.foldl_cons, ofStep_key]
    simp only [tot]
    by_cases e : key x = s.data.toList
    · rw [if_pos e, if_pos e, wrap_small (by omega) (by omega), ofSum_foldl s l _ (fun y hy => h y (by simp [hy])) (by omega) (by omega)]
      omega
    · rw [if_neg e, if_neg e, ofSum_foldl s l _ (fun y hy => h y (by simp [hy])) h0 (by omega)]
      omega
theorem M.of {l : List Item} (h : M l) (s : ByteArray) : ofSum s l = tot s.data.toList l := by
  have := ofSum_foldl s l 0 (fun x hx => by have := h.ok x hx; omega) (Int.le_refl _) (by have := h.len; omega)
  unfold ofSum
  omega

/-! what is made of each item of a list -/
def made (h : Item → Int) (a : List Item) : List Item := a.filterMap fun x => if 0 < h x then some (x.1, h x) else none
theorem made_nil (h : Item → Int) : made h [] = [] := rfl
theorem made_cons (h : Item → Int) (x : Item) (l : List Item) : made h (x :: l) = (if 0 < h x then [(x.1, h x)] else []) ++ made h l := by
  unfold made
  rw [List.filterMap_cons]
  split <;> rename_i e <;> split at e <;> simp_all
theorem made_mem {h : Item → Int} {a : List Item} {y : Item} (hy : y ∈ made h a) : ∃ x ∈ a, key x = key y ∧ x.1 = y.1 ∧ y.2 = h x ∧ 0 < h x := by
  unfold made at hy
  obtain ⟨x, hx, e⟩ := List.mem_filterMap.1 hy
  split at e
  · cases e; exact ⟨x, hx, rfl, rfl, rfl, by assumption⟩
  · cases e
theorem made_sorted {h : Item → Int} {a : List Item} (ha : a.Pairwise fun a b => key a < key b) : (made h a).Pairwise fun a b => key a < key b := by
  unfold made
  rw [List.pairwise_filterMap]
  refine ha.imp fun {x y} hxy u hu v hv => ?_
  split at hu <;> cases hu
  split at hv <;> cases hv
  exact hxy
theorem made_M {h : Item → Int} {a : List Item} (ha : M a) (hh : ∀ x ∈ a, h x ≤ 1099511627776) : M (made h a) := by
  refine ⟨Nat.le_trans (List.length_filterMap_le _ _) ha.len, fun y hy => ?_, made_sorted ha.sorted⟩
  obtain ⟨x, hx, _, e, e2, h3⟩ := made_mem hy
  have := hh x hx
  rw [← e, e2]
  exact ⟨(ha.ok x hx).1, by omega, this⟩
theorem made_tot (h : Item → Int) (k : Bs) : ∀ (a : List Item), a.Pairwise (fun a b => key a < key b) → tot k (made h a) = match a.find? (fun x => decide (key x = k)) with | some x => (if 0 < h x then h x else 0) | none => 0
  | [], _ => rfl
  | x :: l, ha => by
    have h' := List.pairwise_cons.1 ha
    rw [made_cons, tot_append, made_tot h k l h'.2, List.find?_cons]
    by_cases e : key x = k
    · have hn : l.find? (fun x => decide (key x = k)) = none := by
        rw [List.find?_eq_none]
        intro y hy
        simp only [decide_eq_true_eq]
        intro e2
        have := h'.1 y hy
        rw [e, e2] at this
        exact bs_irr _ this
      simp only [hn, e, decide_true]
      split
      · simp [tot, key] at *; simp [e]
      · simp [tot]
    · simp only [e, decide_false]
      split
      · have : key (x.1, h x) = key x := rfl
        simp [tot, this, e]
      · simp [tot]
theorem find_none {k : Bs} {a : List Item} (h : a.find? (fun x => decide (key x = k)) = none) : k ∉ a.map key := by
  rw [List.find?_eq_none] at h
  intro hk
  obtain ⟨x, hx, e⟩ := List.mem_map.1 hk
  exact h x hx (by simpa using e)
theorem find_some {k : Bs} {a : List Item} {x : Item} (h : a.find? (fun x => decide (key x = k)) = some x) : x ∈ a ∧ key x = k := by
  exact ⟨List.mem_of_find?_eq_some h, by simpa using List.find?_some h⟩
/-- of each good: what is made of how many there are -/
theorem made_of {h : Item → Int} {a : List Item} (ha : M a) (g : Bs → Int → Int) (hg : ∀ x ∈ a, h x = g (key x) x.2) (h0 : ∀ k, g k 0 ≤ 0) (k : Bs) : tot k (made h a) = if 0 < g k (tot k a) then g k (tot k a) else 0 := by
  rw [made_tot h k a ha.sorted]
  cases hf : a.find? (fun x => decide (key x = k)) with
  | none =>
    have := h0 k
    rw [tot_out (find_none hf)]
    simp only
    rw [if_neg (by omega)]
  | some x =>
    obtain ⟨hx, rfl⟩ := find_some hf
    simp only
    rw [tot_mem ha.sorted hx, hg x hx]

theorem eachL_made (f : Int → Int → Int) (a b : List Item) : eachL f a b = made (fun x => f x.2 (ofSum x.1 b)) a := rfl
theorem meet_M {a b : List Item} (ha : M a) (_hb : M b) : M (eachL meetF a b) := by
  rw [eachL_made]
  refine made_M ha fun x hx => ?_
  have := ha.ok x hx
  unfold meetF
  omega
theorem rest_M {a b : List Item} (ha : M a) (hb : M b) : M (eachL restF a b) := by
  rw [eachL_made]
  refine made_M ha fun x hx => ?_
  have := ha.ok x hx
  have h1 := hb.nonneg x.1.data.toList
  have h2 := hb.le x.1.data.toList
  unfold restF
  rw [hb.of, wrap_small (by omega) (by omega)]
  omega
theorem meet_tot {a b : List Item} (ha : M a) (hb : M b) (k : Bs) : tot k (eachL meetF a b) = min (tot k a) (tot k b) := by
  rw [eachL_made, made_of ha (fun k n => min n (tot k b)) (fun x hx => by unfold meetF key; rw [hb.of]) (fun k => by have := hb.nonneg k; omega)]
  have := ha.nonneg k
  have := hb.nonneg k
  split <;> omega
theorem rest_tot {a b : List Item} (ha : M a) (hb : M b) (k : Bs) : tot k (eachL restF a b) = max 0 (tot k a - tot k b) := by
  rw [eachL_made, made_of ha (fun k n => n - tot k b) (fun x hx => by
    have h1 := hb.nonneg x.1.data.toList
    have h2 := hb.le x.1.data.toList
    have := ha.ok x hx
    unfold restF key; rw [hb.of, wrap_small (by omega) (by omega)]) (fun k => by have := hb.nonneg k; omega)]
  split <;> omega
theorem rest_nil {a b : List Item} (ha : M a) (hb : M b) : eachL restF b a = [] ↔ ∀ k, tot k b ≤ tot k a := by
  constructor
  · intro h k
    have := rest_tot hb ha k
    rw [h] at this
    simp only [tot] at this
    omega
  · intro h
    refine (rest_M hb ha).ext ⟨by simp, (fun x hx => by cases hx), List.Pairwise.nil⟩ fun k => ?_
    rw [rest_tot hb ha]
    have := h k
    simp only [tot]
    omega
theorem covers_iff {a b : List Item} (ha : M a) (hb : M b) : covers a b = true ↔ ∀ k, tot k b ≤ tot k a := by
  unfold covers both
  rw [(may_iff a).2 ha, (may_iff b).2 hb]
  simp only [Bool.and_self, if_true, Bool.true_and]
  rw [← rest_nil ha hb, beq_iff_eq, List.length_eq_zero_iff]
theorem covers_eq {a b : List Item} (ha : M a) (hb : M b) (p : Prop) [Decidable p] (h : p ↔ ∀ k, tot k b ≤ tot k a) : covers a b = decide p := by
  rw [Bool.eq_iff_iff, covers_iff ha hb, decide_eq_true_eq, h]

/-! sums of lists that may be -/
theorem M.okC {l : List Item} (h : M l) : l.all okC = true := by
  rw [List.all_eq_true]
  intro x hx
  unfold It.okC
  have := h.ok x hx
  rw [this.1, Bool.true_and, countOk_iff]
  omega
theorem over_iff {l : List Item} : over l = true ↔ ∃ k, 1099511627776 < tot k l := by
  unfold over
  rw [List.any_eq_true]
  constructor
  · rintro ⟨x, _, hd⟩
    exact ⟨key x, by simpa using hd⟩
  · rintro ⟨k, hk⟩
    obtain ⟨x, hx, rfl⟩ := List.mem_map.1 (tot_pos (k := k) (l := l) (by omega))
    exact ⟨x, hx, by simpa using hk⟩
theorem normL_of {L out : List Item} (h : IsNorm L out) : normL L = out := (isNorm_normL L).unique h
theorem norm_tot {L : List Item} (h : ∀ k, 0 ≤ tot k L) (k : Bs) : tot k (normL L) = tot k L := by
  have hn := isNorm_normL L
  by_cases hk : k ∈ (normL L).map key
  · obtain ⟨x, hx, rfl⟩ := List.mem_map.1 hk
    rw [tot_mem hn.sorted hx]
    exact ((hn.has x).1 hx).2.1
  · rw [tot_out hk]
    by_cases h0 : tot k L = 0
    · exact h0.symm
    · exfalso
      refine hk (List.mem_map.2 ⟨(⟨k.toArray⟩, tot k L), (hn.has _).2 ?_, key_mk _ _⟩)
      rw [key_mk]
      have := h k
      exact ⟨tot_pos h0, rfl, by simp only; omega⟩
theorem normL_M {L : List Item} (hg : ∀ x ∈ L, good x.1 = true) (ho : ∀ k, tot k L ≤ 1099511627776) (hl : (normL L).length ≤ 16) : M (normL L) := by
  have hn := isNorm_normL L
  refine ⟨hl, fun x hx => ?_, hn.sorted⟩
  obtain ⟨h1, h2, h3⟩ := (hn.has x).1 hx
  obtain ⟨y, hy, e⟩ := List.mem_map.1 h1
  have hg1 := hg y hy
  have e1 : y.1 = x.1 := by
    have h1 := congrArg (fun z : Item => z.1) (item_eta y)
    have h2 := congrArg (fun z : Item => z.1) (item_eta x)
    simp only at h1 h2
    rw [h1, h2, e]
  rw [e1] at hg1
  have := ho (key x)
  exact ⟨hg1, by omega, by omega⟩

/-- two lists together -/
theorem plus_cases {a b : List Item} (ha : M a) (hb : M b) :
    (plusOf a b).2 = 0 → M (plusOf a b).1 ∧ ∀ k, tot k (plusOf a b).1 = tot k a + tot k b := by
  intro h
  unfold plusOf at h ⊢
  rw [(may_iff a).2 ha, (may_iff b).2 hb] at h ⊢
  simp only [Bool.and_self, if_true] at h ⊢
  have hall : (a ++ b).all okC = true := by rw [List.all_append, ha.okC, hb.okC]; rfl
  have hnn : ∀ k, 0 ≤ tot k (a ++ b) := fun k => tot_nonneg k _ hall
  unfold normRes sumsCode at h ⊢
  simp only [hall, if_true] at h ⊢
  cases hov : over (a ++ b) with
  | true => rw [hov] at h; simp at h
  | false =>
    rw [hov] at h
    simp only [Bool.false_eq_true, if_false, if_true] at h ⊢
    by_cases hl : (normL (a ++ b)).length ≤ 16
    · rw [if_pos hl] at h ⊢
      refine ⟨normL_M (fun x hx => ?_) (tot_le hov) hl, fun k => ?_⟩
      · rcases List.mem_append.1 hx with hx | hx
        · exact (ha.ok x hx).1
        · exact (hb.ok x hx).1
      · simp only
        rw [norm_tot hnn, tot_append]
    · rw [if_neg hl] at h
      simp at h
theorem plus_ok {a b c : List Item} (ha : M a) (hb : M b) (hc : M c) (h : ∀ k, tot k a + tot k b = tot k c) : plusOf a b = (c, 0) := by
  unfold plusOf
  rw [(may_iff a).2 ha, (may_iff b).2 hb]
  simp only [Bool.and_self, if_true]
  have hall : (a ++ b).all okC = true := by rw [List.all_append, ha.okC, hb.okC]; rfl
  have hnn : ∀ k, 0 ≤ tot k (a ++ b) := fun k => tot_nonneg k _ hall
  have hov : over (a ++ b) = false := by
    cases hov : over (a ++ b) with
    | false => rfl
    | true =>
      obtain ⟨k, hk⟩ := over_iff.1 hov
      rw [tot_append, h k] at hk
      have := hc.le k
      omega
  have hn : normL (a ++ b) = c := by
    refine normL_of ⟨hc.sorted, fun x => ⟨fun hx => ?_, fun ⟨h1, h2, h3⟩ => ?_⟩⟩
    · have h1 := tot_mem hc.sorted hx
      have h2 := hc.ok x hx
      rw [← h, ← tot_append] at h1
      exact ⟨tot_pos (by omega), h1.symm, by omega⟩
    · rw [tot_append, h] at h2
      obtain ⟨y, hy, e⟩ := List.mem_map.1 (tot_pos (k := key x) (l := c) (by omega))
      have := tot_mem hc.sorted hy
      rw [e, ← h2] at this
      rw [key_item x y e.symm this]
      exact hy
  unfold normRes sumsCode
  simp only [hall, hov, hn, hc.len, if_true, Bool.false_eq_true, if_false]

/-! totals -/
def sumN : List Item → Int
  | [] => 0
  | x :: l => x.2 + sumN l
theorem totSum_foldl : ∀ (l : List Item) (t : Int), (∀ x ∈ l, 0 ≤ x.2 ∧ x.2 ≤ 1099511627776) → 0 ≤ t → t + l.length * 1099511627776 ≤ 9223372036854775807 → l.foldl totStep t = t + sumN l
  | [], t, _, _, _ => by simp [sumN]
  | x :: l, t, h, h0, h1 => by
    have hx := h x (by simp)
    simp only [List.length_cons] at h1
    rw [List.foldl_cons, show totStep t x = t + x.2 from wrap_small (by omega) (by omega), totSum_foldl l _ (fun y hy => h y (by simp [hy])) (by omega) (by omega)]
    simp only [sumN]
    omega
theorem M.sum {l : List Item} (h : M l) : totSum l = sumN l := by
  have := totSum_foldl l 0 (fun x hx => by have := h.ok x hx; omega) (Int.le_refl _) (by have := h.len; omega)
  unfold totSum
  omega
def sumK (l : List Item) : List Bs → Int
  | [] => 0
  | k :: r => tot k l + sumK l r
theorem sumK_nil : ∀ ks : List Bs, sumK [] ks = 0
  | [] => rfl
  | k :: r => by simp [sumK, tot, sumK_nil r]
theorem sumK_cons (x : Item) (l : List Item) : ∀ ks : List Bs, ks.Nodup → sumK (x :: l) ks = (if key x ∈ ks then x.2 else 0) + sumK l ks
  | [], _ => by simp [sumK]
  | k :: r, h => by
    have h' := List.nodup_cons.1 h
    simp only [sumK, sumK_cons x l r h'.2, tot, List.mem_cons]
    by_cases e : key x = k
    · have hn : key x ∉ r := by rw [e]; exact h'.1
      rw [if_pos e, if_neg hn, if_pos (.inl e)]
      omega
    · rw [if_neg e]
      by_cases hr : key x ∈ r
      · rw [if_pos hr, if_pos (.inr hr)]; omega
      · rw [if_neg hr, if_neg (by simp [e, hr])]; omega
theorem sumK_eq {ks : List Bs} (h : ks.Nodup) : ∀ l : List Item, (∀ x ∈ l, key x ∈ ks) → sumK l ks = sumN l
  | [], _ => by rw [sumK_nil]; rfl
  | x :: l, hk => by
    rw [sumK_cons x l ks h, if_pos (hk x (by simp)), sumK_eq h l fun y hy => hk y (by simp [hy])]
    rfl
theorem sumK_add {a b c : List Item} (h : ∀ k, tot k c = tot k a + tot k b) : ∀ ks : List Bs, sumK c ks = sumK a ks + sumK b ks
  | [] => rfl
  | k :: r => by simp only [sumK, h, sumK_add h r]; omega
theorem sumN_add {a b c : List Item} (h : ∀ k, tot k c = tot k a + tot k b) : sumN c = sumN a + sumN b := by
  have hn : (ksOf ((a ++ b ++ c).map key)).Nodup := by
    rw [List.nodup_iff_pairwise_ne]
    refine (ksOf_sorted _).imp fun {x y} h e => ?_
    rw [e] at h
    exact bs_irr _ h
  rw [← sumK_eq hn a fun x hx => (ksOf_mem _ _).2 (List.mem_map.2 ⟨x, by simp [hx], rfl⟩), ← sumK_eq hn b fun x hx => (ksOf_mem _ _).2 (List.mem_map.2 ⟨x, by simp [hx], rfl⟩),
    ← sumK_eq hn c fun x hx => (ksOf_mem _ _).2 (List.mem_map.2 ⟨x, by simp [hx], rfl⟩), sumK_add h]
theorem sumN_bounds : ∀ (l : List Item), (∀ x ∈ l, 0 ≤ x.2 ∧ x.2 ≤ 1099511627776) → 0 ≤ sumN l ∧ sumN l ≤ l.length * 1099511627776
  | [], _ => by simp [sumN]
  | x :: l, h => by
    have := sumN_bounds l fun y hy => h y (by simp [hy])
    have := h x (by simp)
    simp only [sumN, List.length_cons]
    omega
theorem M.bounds {l : List Item} (h : M l) : 0 ≤ sumN l ∧ sumN l ≤ 17592186044416 := by
  have := sumN_bounds l fun x hx => by have := h.ok x hx; omega
  have := h.len
  omega

/-! what the laws say, in plain words -/
theorem both_of {f : Int → Int → Int} {a b : List Item} (ha : M a) (hb : M b) : both f a b = eachL f a b := by
  unfold both
  rw [(may_iff a).2 ha, (may_iff b).2 hb]
  rfl
theorem parts_plus {a b : List Item} (ha : M a) (hb : M b) : plusOf (both meetF a b) (both restF a b) = (a, 0) := by
  rw [both_of ha hb, both_of ha hb]
  refine plus_ok (meet_M ha hb) (rest_M ha hb) ha fun k => ?_
  rw [meet_tot ha hb, rest_tot ha hb]
  have := ha.nonneg k
  omega
theorem parts_minus {a b : List Item} (ha : M a) (hb : M b) (h : (plusOf a b).2 = 0) :
    minusOf (plusOf a b).1 b = (a, 0) ∧ covers (plusOf a b).1 a = true ∧ covers (plusOf a b).1 b = true ∧ totSum (plusOf a b).1 = wrap64 (totSum a + totSum b) := by
  obtain ⟨hp, ht⟩ := plus_cases ha hb h
  generalize (plusOf a b).1 = p at *
  have c1 : covers p a = true := (covers_iff hp ha).2 fun k => by rw [ht]; have := hb.nonneg k; omega
  have c2 : covers p b = true := (covers_iff hp hb).2 fun k => by rw [ht]; have := ha.nonneg k; omega
  refine ⟨?_, c1, c2, ?_⟩
  · unfold minusOf
    rw [(may_iff p).2 hp, (may_iff b).2 hb, c2, both_of hp hb]
    simp only [Bool.and_self, if_true]
    have : eachL restF p b = a := (rest_M hp hb).ext ha fun k => by
      rw [rest_tot hp hb, ht]
      have := ha.nonneg k
      omega
    rw [this]
  · rw [hp.sum, ha.sum, hb.sum, sumN_add ht]
    have := ha.bounds
    have := hb.bounds
    rw [wrap_small (by omega) (by omega)]
theorem order_refl {a : List Item} (ha : M a) : covers a a = true := (covers_iff ha ha).2 fun _ => Int.le_refl _
theorem order_trans {a b c : List Item} (ha : M a) (hb : M b) (hc : M c) (h1 : covers a b = true) (h2 : covers b c = true) : covers a c = true :=
  (covers_iff ha hc).2 fun k => Int.le_trans ((covers_iff hb hc).1 h2 k) ((covers_iff ha hb).1 h1 k)
theorem order_anti {a b : List Item} (ha : M a) (hb : M b) (h1 : covers a b = true) (h2 : covers b a = true) : a = b :=
  ha.ext hb fun k => Int.le_antisymm ((covers_iff hb ha).1 h2 k) ((covers_iff ha hb).1 h1 k)
theorem order_meet {a b : List Item} (ha : M a) (hb : M b) : covers a (both meetF a b) = true ∧ covers b (both meetF a b) = true := by
  rw [both_of ha hb]
  refine ⟨(covers_iff ha (meet_M ha hb)).2 fun k => ?_, (covers_iff hb (meet_M ha hb)).2 fun k => ?_⟩ <;> rw [meet_tot ha hb] <;> omega
end It
end Go.Proofs.Ythfpfomifebpbaa

namespace Go.Proofs.Ythfpfomifebpbaa
open Go.RowKit Go.Maps
namespace It

theorem good_first {s : ByteArray} (h : good s = true) : strLe s ⟨#[]⟩ = false := by
  rw [strLe_eq, less_eq]
  have := good_key (x := (s, 0)) h
  unfold key at this
  rw [toList_key, toList_key, decide_eq_true (show ([] : Bs) < s.data.toList from this)]
  rfl
theorem lastOf_take {L : List Item} {j : Nat} (h : j < L.length) : lastOf ⟨#[]⟩ (L.take (j + 1)) = L[j].1 := by
  rw [List.take_succ_eq_append_getElem h, lastOf_snoc]

set_option maxRecDepth 100000 in
set_option maxHeartbeats 4000000 in
theorem refmay_calls (L : List Item) (v : Value) (w : World) (hI : ItemsAt w 0 w.heap.size v L) (hF : Fits L) :
    Calls Try.prog 65 #[v] w fun e w' => e = .returned (.bool (may L)) ∧ Below w.heap.size w w' := by
  obtain ⟨A, c, rfl, hc1, hc2⟩ := hI.form
  unfold maxLen at hc2
  have hmx : Try.prog.follows .mixedOrders = true := by kernel_rfl
  go_enter Try.func65, Try.ntmps65
  go_wp2
  go_loopw [3] (fun i wr => ∃ k : Nat, k ≤ L.length ∧ i = .int .i64 k ∧ mayTo ⟨#[]⟩ (L.take k) = true ∧ Below w.heap.size w wr) (fun i _ => L.length - (intOf i).toNat)
  case atStart => exact ⟨0, by omega, rfl, rfl, Below.refl _ _⟩
  case round =>
    obtain ⟨k, hk, rfl, hm, hB⟩ := hrel
    by_cases hlt : k < L.length
    · have hIr := hI.mono hB hB.size
      have hsn : L.take (k + 1) = L.take k ++ [L[k]] := List.take_succ_eq_append_getElem hlt
      have HS := Lib.hid (show mayTo ⟨#[]⟩ (L.take (k + 1)) = okItem L[k] (lastOf ⟨#[]⟩ (L.take k)) by rw [hsn, mayTo_snoc, hm, Bool.true_and])
      have HN := Lib.hid (show mayTo ⟨#[]⟩ (L.take (k + 1)) = false → may L = false from fun h => by unfold may; rw [mayTo_prefix (List.take_prefix _ _) h]; rfl)
      clear hm hsn
      obtain ⟨b, o, rfl, -, hb, g1, g2⟩ := hIr.cellAt hlt
      have G3 := Lib.hid (show ∀ j (h : j < L.length), wr.cell? ⟨b, o + j * 2, none⟩ = some (.string L[j].1) from fun j h => by
        obtain ⟨b', o', e, -, -, h1, -⟩ := hIr.cellAt h
        cases e; exact h1)
      have hfit := hF _ (List.getElem_mem hlt)
      have hd : decide ((k : Int) < (L.length : Int)) = true := by simp; omega
      have hO : okItem L[k] (lastOf ⟨#[]⟩ (L.take k)) = (good L[k].1 && decide (1 ≤ L[k].2) && countOk L[k].2 && !strLe L[k].1 (lastOf ⟨#[]⟩ (L.take k))) := rfl
      have hT := HS.out.trans hO
      clear HS hO
      have HL := Lib.hid (fun (j : Nat) (h : j < L.length) => lastOf_take h)
      generalize hx : L[k] = x at *
      obtain ⟨xs, xn⟩ := x
      dsimp only at g1 g2 hfit hT
      have HG := Lib.hid (fun h => @good_first xs h)
      have HT := Lib.hid hT
      clear hT hx
      have cG := Lib.hid (fun W => refgood_calls xs W hfit.1)
      have cN := Lib.hid (fun W => refcount_calls xn W)
      generalize good xs = g at *
      generalize countOk xn = cn at *
      rcases Nat.eq_zero_or_pos k with hk0 | hk0
      · have HLS : lastOf ⟨#[]⟩ (L.take k) = ⟨#[]⟩ := by rw [hk0]; rfl
        have HLS := Lib.hid HLS
        have hz : decide (0 < k) = false := by simp; omega
        clear hk0
        rw [HLS.out] at HT
        have hcs : g = false ∨ (g = true ∧ decide (xn < 1) = true) ∨ (g = true ∧ decide (xn < 1) = false ∧ cn = false) ∨ (g = true ∧ decide (xn < 1) = false ∧ cn = true) := by
          cases g <;> cases decide (xn < 1) <;> cases cn <;> simp
        rcases hcs with rfl | ⟨rfl, hn1⟩ | ⟨rfl, hn1, rfl⟩ | ⟨rfl, hn1, rfl⟩
        all_goals
          go_wp2_with fail
          refine Pu.regionW (fun W' => Below wr.drew.heap.size wr.drew W') hmx (by kernel_rfl) (by kernel_rfl) (Below.refl _ _) rfl ?_
          iterate 42 (first
            | (refine Pu.Walk.off (by rfl) ?_; simp only [Act.put, List.setIfInBounds_toArray, List.set_cons_succ, List.set_cons_zero])
            | (apply Pu.Walk.on (by rfl)
               · intro W1 h1
                 have g1' : W1.cell? ⟨b, o + k * 2, none⟩ = some (.string xs) := (Below.cell (p := ⟨b, o + k * 2, none⟩) h1 hb).trans g1
                 have g2' : W1.cell? ⟨b, o + k * 2 + 1, none⟩ = some (.int .i64 xn) := (Below.cell (p := ⟨b, o + k * 2 + 1, none⟩) h1 hb).trans g2
                 go_wp2_with (first
                   | (go_at_call 85; refine (cG.out _).mono ?_; rintro e W2 ⟨rfl, rfl⟩)
                   | (go_at_call 86; refine (cN.out _).mono ?_; rintro e W2 ⟨rfl, rfl⟩))
                 refine ⟨rfl, ?_, h1⟩
                 try simp only [Act.put, List.setIfInBounds_toArray, List.set_cons_succ, List.set_cons_zero]
                 rfl
               simp only [Act.put, List.setIfInBounds_toArray, List.set_cons_succ, List.set_cons_zero]))
          refine Pu.Walk.nil (fun W1 h1 => ?_)
          have hB1 : Below w.heap.size w W1 := (hB.trans ((Below.refl w.heap.size wr).drew)).trans (h1.mono hB.size)
          go_wp2
          first
            | (go_ret
               exact ⟨ret1 (boo (HN.out (by rw [HT.out]; simp; try (simp at hn1; omega))).symm), hB1⟩)
            | (go_roundw
               case rel => exact ⟨k + 1, by omega, by go_num, by rw [HT.out, HG.out trivial]; simp; try (simp at hn1; omega), hB1⟩
               case measure => simp [intOf]; omega)
      · obtain ⟨j, hj⟩ : ∃ j, k = j + 1 := ⟨k - 1, by omega⟩
        have hjl : j < L.length := by omega
        have HLS : lastOf ⟨#[]⟩ (L.take k) = L[j].1 := by rw [hj]; exact HL.out j hjl
        have g3 := G3.out j hjl
        generalize L[j].1 = last at *
        rw [HLS, strLe_eq] at HT
        clear HLS
        have hw : IntKind.i64.wrap ((k : Int) - 1) = (j : Int) := (IntWalk.i64_in _ (by omega)).trans (by omega)
        have HJ := Lib.hid hj
        have hz : decide (0 < k) = true := by simp; omega
        clear hk0 hj
        generalize hle : Op.bytesLess last.toList xs.toList = le at *
        have hcs : g = false ∨ (g = true ∧ decide (xn < 1) = true) ∨ (g = true ∧ decide (xn < 1) = false ∧ cn = false) ∨ (g = true ∧ decide (xn < 1) = false ∧ cn = true ∧ le = true) ∨ (g = true ∧ decide (xn < 1) = false ∧ cn = true ∧ le = false) := by
          cases g <;> cases decide (xn < 1) <;> cases cn <;> cases le <;> simp
        rcases hcs with rfl | ⟨rfl, hn1⟩ | ⟨rfl, hn1, rfl⟩ | ⟨rfl, hn1, rfl, rfl⟩ | ⟨rfl, hn1, rfl, rfl⟩
        all_goals
          go_wp2_with fail
          refine Pu.regionW (fun W' => Below wr.drew.heap.size wr.drew W') hmx (by kernel_rfl) (by kernel_rfl) (Below.refl _ _) rfl ?_
          iterate 42 (first
            | (refine Pu.Walk.off (by rfl) ?_; simp only [Act.put, List.setIfInBounds_toArray, List.set_cons_succ, List.set_cons_zero])
            | (apply Pu.Walk.on (by rfl)
               · intro W1 h1
                 have g1' : W1.cell? ⟨b, o + k * 2, none⟩ = some (.string xs) := (Below.cell (p := ⟨b, o + k * 2, none⟩) h1 hb).trans g1
                 have g2' : W1.cell? ⟨b, o + k * 2 + 1, none⟩ = some (.int .i64 xn) := (Below.cell (p := ⟨b, o + k * 2 + 1, none⟩) h1 hb).trans g2
                 have g3' : W1.cell? ⟨b, o + j * 2, none⟩ = some (.string last) := (Below.cell (p := ⟨b, o + j * 2, none⟩) h1 hb).trans g3
                 go_wp2_with (first
                   | (go_at_call 85; refine (cG.out _).mono ?_; rintro e W2 ⟨rfl, rfl⟩)
                   | (go_at_call 86; refine (cN.out _).mono ?_; rintro e W2 ⟨rfl, rfl⟩))
                 refine ⟨rfl, ?_, h1⟩
                 try simp only [Act.put, List.setIfInBounds_toArray, List.set_cons_succ, List.set_cons_zero]
                 rfl
               simp only [Act.put, List.setIfInBounds_toArray, List.set_cons_succ, List.set_cons_zero]))
          refine Pu.Walk.nil (fun W1 h1 => ?_)
          have hB1 : Below w.heap.size w W1 := (hB.trans ((Below.refl w.heap.size wr).drew)).trans (h1.mono hB.size)
          go_wp2
          first
            | (go_ret
               exact ⟨ret1 (boo (HN.out (by rw [HT.out]; simp; try (simp at hn1; omega))).symm), hB1⟩)
            | (go_roundw
               case rel => exact ⟨k + 1, by omega, by go_num, by rw [HT.out, Bool.not_not]; simp; try (simp at hn1; omega), hB1⟩
               case measure => simp [intOf]; omega)
    · obtain rfl : k = L.length := by omega
      rw [List.take_length] at hm
      have HM := Lib.hid (show may L = decide (L.length ≤ 16) by unfold may; rw [hm, Bool.true_and])
      clear hm
      go_wp2
      go_ret
      exact ⟨ret1 (boo (by rw [HM.out]; exact decide_eq_decide.2 (by omega))), hB⟩
end It
end Go.Proofs.Ythfpfomifebpbaa

namespace Go.Proofs.Ythfpfomifebpbaa
open Go.RowKit Go.Maps
namespace It

set_option maxRecDepth 100000 in
set_option maxHeartbeats 1000000 in
theorem refof_calls (L : List Item) (good : ByteArray) (v : Value) (w : World) (hI : ItemsAt w 0 w.heap.size v L) :
    Calls Try.prog 34 #[v, .string good] w fun e w' => e = .returned (.int .i64 (ofSum good L)) ∧ w = w' := by
  obtain ⟨A, c, rfl, hc1, hc2⟩ := hI.form
  unfold maxLen at hc2
  go_enter Try.func34, Try.ntmps34
  go_wp2
  go_loop [5, 6] (fun t i => ∃ k : Nat, k ≤ L.length ∧ i = .int .i64 k ∧ t = .int .i64 (ofSum good (L.take k))) (fun _ i => L.length - (intOf i).toNat)
  case atStart => exact ⟨0, by omega, rfl, rfl⟩
  case round =>
    obtain ⟨k, hk, rfl, rfl⟩ := hrel
    by_cases hlt : k < L.length
    · have HS := Lib.hid (show ofSum good (L.take (k + 1)) = ofStep good (ofSum good (L.take k)) L[k] by rw [List.take_succ_eq_append_getElem hlt, ofSum_snoc])
      obtain ⟨b, o, rfl, -, hb, g1, g2⟩ := hI.cellAt hlt
      have hd : decide ((k : Int) < (L.length : Int)) = true := by simp; omega
      generalize L[k] = x at *
      obtain ⟨xs, xn⟩ := x
      dsimp only at g1 g2
      have HE := Lib.hid (show ofStep good (ofSum good (L.take k)) (xs, xn) = if xs.toList == good.toList then wrap64 (ofSum good (L.take k) + xn) else ofSum good (L.take k) from rfl)
      generalize ofSum good (L.take k) = t at *
      cases ht : (xs.toList == good.toList)
      · go_wp2
        go_round
        case rel => exact ⟨k + 1, by omega, by go_num, by rw [HS.out, HE.out, ht]; rfl⟩
        case measure => simp [intOf]; omega
      · go_wp2
        go_round
        case rel => exact ⟨k + 1, by omega, by go_num, by rw [HS.out, HE.out, ht]; rfl⟩
        case measure => simp [intOf]; omega
    · obtain rfl : k = L.length := by omega
      rw [List.take_length]
      go_wp2
      go_ret
      exact ⟨rfl, rfl⟩

set_option maxRecDepth 100000 in
set_option maxHeartbeats 1000000 in
theorem refsame_calls (a b : List Item) (va vb : Value) (w : World) (ha : ItemsAt w 0 w.heap.size va a) (hb : ItemsAt w 0 w.heap.size vb b) :
    Calls Try.prog 21 #[va, vb] w fun e w' => e = .returned (.bool (decide (a = b))) ∧ Below w.heap.size w w' := by
  obtain ⟨A, c, rfl, hc1, hc2⟩ := ha.form
  obtain ⟨A', c', rfl, hc1', hc2'⟩ := hb.form
  unfold maxLen at hc2 hc2'
  have hmx : Try.prog.follows .mixedOrders = true := by kernel_rfl
  by_cases hl : a.length = b.length
  · have hln : ((a.length : Int) == (b.length : Int)) = true := by simp; omega
    have hln2 : ((a.length : Int) != (b.length : Int)) = false := by simp; omega
    have HL := Lib.hid hl
    clear hl
    go_enter Try.func21, Try.ntmps21
    go_wp2
    go_loopw [5] (fun i wr => ∃ k : Nat, k ≤ a.length ∧ i = .int .i64 k ∧ a.take k = b.take k ∧ Below w.heap.size w wr) (fun i _ => a.length - (intOf i).toNat)
    case atStart => exact ⟨0, by omega, rfl, rfl, Below.refl _ _⟩
    case round =>
      obtain ⟨k, hk, rfl, hm, hB⟩ := hrel
      by_cases hlt : k < a.length
      · have hltb : k < b.length := by have := HL.out; omega
        obtain ⟨p, o, rfl, -, hp, g1, g2⟩ := (ha.mono hB hB.size).cellAt hlt
        obtain ⟨p', o', rfl, -, hp', g1', g2'⟩ := (hb.mono hB hB.size).cellAt hltb
        have hd : decide ((k : Int) < (a.length : Int)) = true := by simp; omega
        have hd' : decide ((k : Int) < (b.length : Int)) = true := by simp; omega
        have HS := Lib.hid (show a.take (k + 1) = b.take (k + 1) ↔ a[k] = b[k] by
          rw [List.take_succ_eq_append_getElem hlt, List.take_succ_eq_append_getElem hltb, hm, List.append_cancel_left_eq]; simp)
        have HN := Lib.hid (fun (h : a = b) => show a.take (k + 1) = b.take (k + 1) by rw [h])
        clear hm
        generalize a[k] = x at *
        generalize b[k] = y at *
        obtain ⟨xs, xn⟩ := x
        obtain ⟨ys, yn⟩ := y
        dsimp only at g1 g2 g1' g2'
        have hcs : (xs.toList = ys.toList ∧ xn = yn) ∨ ¬ xs.toList = ys.toList ∨ (xs.toList = ys.toList ∧ ¬ xn = yn) := by
          by_cases e : xs.toList = ys.toList <;> by_cases e2 : xn = yn <;> simp [e, e2]
        have hxy : xs.toList = ys.toList → xs = ys := fun h => by
          rw [toList_key, toList_key] at h
          exact ByteArray.ext (Array.toList_inj.1 h)
        have HXY := Lib.hid hxy
        clear hxy
        rcases hcs with ⟨e1, e2⟩ | e1 | ⟨e1, e2⟩
        all_goals
          go_wp2_with fail
          refine Pu.regionW (fun W' => Below wr.drew.heap.size wr.drew W') hmx (by kernel_rfl) (by kernel_rfl) (Below.refl _ _) rfl ?_
          iterate 9 (first
            | (refine Pu.Walk.off (by rfl) ?_; simp only [Act.put, List.setIfInBounds_toArray, List.set_cons_succ, List.set_cons_zero])
            | (apply Pu.Walk.on (by rfl)
               · intro W1 h1
                 have g1a : W1.cell? ⟨p, o + k * 2, none⟩ = some (.string xs) := (Below.cell (p := ⟨p, o + k * 2, none⟩) h1 hp).trans g1
                 have g2a : W1.cell? ⟨p, o + k * 2 + 1, none⟩ = some (.int .i64 xn) := (Below.cell (p := ⟨p, o + k * 2 + 1, none⟩) h1 hp).trans g2
                 have g1b : W1.cell? ⟨p', o' + k * 2, none⟩ = some (.string ys) := (Below.cell (p := ⟨p', o' + k * 2, none⟩) h1 hp').trans g1'
                 have g2b : W1.cell? ⟨p', o' + k * 2 + 1, none⟩ = some (.int .i64 yn) := (Below.cell (p := ⟨p', o' + k * 2 + 1, none⟩) h1 hp').trans g2'
                 go_wp2_with fail
                 refine ⟨rfl, ?_, h1⟩
                 try simp only [Act.put, List.setIfInBounds_toArray, List.set_cons_succ, List.set_cons_zero]
                 rfl
               simp only [Act.put, List.setIfInBounds_toArray, List.set_cons_succ, List.set_cons_zero]))

        all_goals
          refine Pu.Walk.nil (fun W1 h1 => ?_)
          have hB1 : Below w.heap.size w W1 := (hB.trans ((Below.refl w.heap.size wr).drew)).trans (h1.mono hB.size)
          clear g1 g2 g1' g2'
        · have HE := Lib.hid (HXY.out e1)
          have HF := Lib.hid e2
          clear e1 e2
          go_wp2
          go_roundw
          case rel => exact ⟨k + 1, by omega, by go_num, HS.out.2 (by rw [HE.out, HF.out]), hB1⟩
          case measure => simp [intOf]; omega
        all_goals
          have HD := Lib.hid (show decide (a = b) = false from decide_eq_false fun h => by
            have := HS.out.1 (HN.out h)
            simp only [Prod.mk.injEq] at this
            first | exact e1 (by rw [this.1]) | exact e2 this.2)
          go_wp2
          go_ret
          exact ⟨ret1 (boo HD.out.symm), hB1⟩
      · obtain rfl : k = a.length := by omega
        have HD := Lib.hid (show decide (a = b) = true from decide_eq_true (by rw [List.take_length, HL.out, List.take_length] at hm; exact hm))
        go_wp2
        go_ret
        exact ⟨ret1 (boo HD.out.symm), hB⟩
  · have hln : ((a.length : Int) != (b.length : Int)) = true := by rw [bne_iff_ne]; omega
    have HD := Lib.hid (show decide (a = b) = false from decide_eq_false fun h => hl (by rw [h]))
    clear hl
    go_enter Try.func21, Try.ntmps21
    go_wp2
    go_ret
    exact ⟨ret1 (boo HD.out.symm), Below.refl _ _⟩

set_option maxRecDepth 100000 in
set_option maxHeartbeats 4000000 in
theorem refboth_calls (kind : Int) (f : Int → Int → Int) (hkf : (kind = 1 ∧ f = meetF) ∨ (kind = 2 ∧ f = restF)) (a b : List Item) (va vb : Value) (w : World) (ha : ItemsAt w 0 w.heap.size va a) (hb : ItemsAt w 0 w.heap.size vb b) (hla : a.length ≤ 1000000) :
    Calls Try.prog 84 #[va, vb, .int .i64 kind] w fun e w' =>
      (∃ v, e = .returned v ∧ w'.ownsRow w.heap.size 41 2 v (eachL f a b).length (itemCells (eachL f a b))) ∧ Below w.heap.size w w' := by
  obtain ⟨A, c, rfl, hc1, hc2⟩ := ha.form
  obtain ⟨A', c', rfl, hc1', hc2'⟩ := hb.form
  unfold maxLen at hc2 hc2'
  have hmx : Try.prog.follows .mixedOrders = true := by kernel_rfl
  have HKF := Lib.hid hkf
  clear hkf
  obtain ⟨i0, hi0, hz0⟩ := Option.map_eq_some_iff.1 item_info
  simp only [Prod.mk.injEq] at hz0
  obtain ⟨hz0, hz1, hz2⟩ := hz0
  have HOL := Lib.hid (fun k => show (eachL f (a.take k) b).length ≤ 1000000 from Nat.le_trans (eachL_len _ _ _) (Nat.le_trans (List.length_take_le' _ _) hla))
  go_enter Try.func84, Try.ntmps84
  go_wp2
  go_loopw [7, 8, 9, 10, 11] (fun o i _ _ _ wr => ∃ k : Nat, k ≤ a.length ∧ i = .int .i64 k ∧ wr.ownsRow w.heap.size 41 2 o (eachL f (a.take k) b).length (itemCells (eachL f (a.take k) b)) ∧ Below w.heap.size w wr) (fun _ i _ _ _ _ => a.length - (intOf i).toNat)
  case atStart => exact ⟨0, by omega, rfl, World.ownsRow_nil _ _ _ _, Below.refl _ _⟩
  case round =>
    obtain ⟨k, hk, rfl, hown, hB⟩ := hrel
    by_cases hlt : k < a.length
    · have har := ha.mono hB hB.size
      have hbr := hb.mono hB hB.size
      have HS := Lib.hid (show eachL f (a.take (k + 1)) b = eachL f (a.take k) b ++ (if 0 < f a[k].2 (ofSum a[k].1 b) then [(a[k].1, f a[k].2 (ofSum a[k].1 b))] else []) by rw [List.take_succ_eq_append_getElem hlt, eachL_snoc])
      have HL := Lib.hid (HOL.out k)
      obtain ⟨p, o, rfl, -, hp, g1, g2⟩ := har.cellAt hlt
      have hd : decide ((k : Int) < (a.length : Int)) = true := by simp; omega
      generalize a[k] = x at *
      obtain ⟨xs, xn⟩ := x
      dsimp only at g1 g2
      generalize eachL f (a.take k) b = S at *
      have cO := Lib.hid (fun v W hI => refof_calls b xs v W hI)
      dsimp only at HS
      generalize ofSum xs b = t at *
      go_wp2_with fail
      refine Pu.regionW (fun W' => Below wr.drew.heap.size wr.drew W') hmx (by kernel_rfl) (by kernel_rfl) (Below.refl _ _) rfl ?_
      iterate 14 (first
        | (refine Pu.Walk.off (by rfl) ?_; simp only [Act.put, List.setIfInBounds_toArray, List.set_cons_succ, List.set_cons_zero])
        | (apply Pu.Walk.on (by rfl)
           · intro W1 h1
             have hb1 := (hbr.mono (Below.refl wr.heap.size wr).drew (B' := wr.drew.heap.size) (Nat.le_refl _)).mono h1 h1.size
             have g1a : W1.cell? ⟨p, o + k * 2, none⟩ = some (.string xs) := (Below.cell (p := ⟨p, o + k * 2, none⟩) h1 hp).trans g1
             have g2a : W1.cell? ⟨p, o + k * 2 + 1, none⟩ = some (.int .i64 xn) := (Below.cell (p := ⟨p, o + k * 2 + 1, none⟩) h1 hp).trans g2
             go_wp2_with (go_at_call 34; refine (cO.out _ _ hb1).mono ?_; rintro e W2 ⟨rfl, rfl⟩)
             refine ⟨rfl, ?_, h1⟩
             try simp only [Act.put, List.setIfInBounds_toArray, List.set_cons_succ, List.set_cons_zero]
             rfl
           simp only [Act.put, List.setIfInBounds_toArray, List.set_cons_succ, List.set_cons_zero]))
      refine Pu.Walk.nil (fun W1 h1 => ?_)
      have hB1 : Below w.heap.size w W1 := (hB.trans ((Below.refl w.heap.size wr).drew)).trans (h1.mono hB.size)
      have hown1 : W1.ownsRow w.heap.size 41 2 u7 S.length (itemCells S) := row_below (show wr.drew.ownsRow _ _ _ _ _ _ from hown) h1
      have hcx : W1.cell? ⟨p, o + k * 2, none⟩ = some (.string xs) := (Below.cell (p := ⟨p, o + k * 2, none⟩) h1 hp).trans g1
      clear g1 g2 hown
      have hcases : (kind = 1 ∧ f xn t = t ∧ t < xn) ∨ (kind = 1 ∧ f xn t = xn ∧ ¬ t < xn) ∨ (kind = 2 ∧ f xn t = wrap64 (xn - t)) := by
        rcases HKF.out with ⟨h1, rfl⟩ | ⟨h1, rfl⟩
        · by_cases h : t < xn
          · exact .inl ⟨h1, by unfold meetF; omega, h⟩
          · exact .inr (.inl ⟨h1, by unfold meetF; omega, h⟩)
        · exact .inr (.inr ⟨h1, rfl⟩)
      rcases hcases with ⟨rfl, hf, hx⟩ | ⟨rfl, hf, hx⟩ | ⟨rfl, hf⟩
      · clear HKF
        have hdx : decide (t < xn) = true := by simpa using hx
        by_cases ht : 0 < t
        · have HS2 := Lib.hid (show eachL f (a.take (k + 1)) b = S ++ [(xs, t)] by rw [HS.out, hf, if_pos ht])
          have hd : decide (0 < t) = true := by simpa using ht
          clear HS hf ht
          go_wp2_with (at_builtin
                       refine wpList_append_sl _ rfl (.tmp 42) (.tmp 50) _ rfl w.heap.size 41 i0 _ 2 24 Try.underlying22 hi0 hz0 hz1 hz2 rfl (by omega) u7 S.length (itemCells S) rfl (hown1.alloc _) W1.heap.size (W1.heap.size + 1) _ 1 [.string xs, .int .i64 (t)] rfl (Sl.new W1 #[.string xs, .int .i64 (t)] 41 (n := 1) rfl (by unfold maxLen; omega)) (by simp [Value.oneCell']) (by have := HL.out; unfold maxLen; omega) (by have := HL.out; omega) (by have := hB1.size; simp; omega) ?_
                       intro v1 w5 hv1 hg1 hat1)
          have hB4 : Below w.heap.size w w5 := (hB1.alloc hB1.size _).grown hg1 (by have := hB1.size; simp; omega) (fun g hg => (hown1.lt g hg).1)
          go_roundw
          case rel =>
            refine ⟨k + 1, by omega, by go_num, ?_, hB4⟩
            rw [HS2.out, List.length_append, itemCells_append]
            exact hv1
          case measure => simp [intOf]; omega
        · have HS2 := Lib.hid (show eachL f (a.take (k + 1)) b = S by rw [HS.out, hf, if_neg ht, List.append_nil])
          have hd : decide (0 < t) = false := by simpa using ht
          clear HS hf ht
          go_wp2
          go_roundw
          case rel => exact ⟨k + 1, by omega, by go_num, by rw [HS2.out]; exact hown1, hB1⟩
          case measure => simp [intOf]; omega
      · clear HKF
        have hdx : decide (t < xn) = false := by simpa using hx
        by_cases ht : 0 < xn
        · have HS2 := Lib.hid (show eachL f (a.take (k + 1)) b = S ++ [(xs, xn)] by rw [HS.out, hf, if_pos ht])
          have hd : decide (0 < xn) = true := by simpa using ht
          clear HS hf ht
          go_wp2_with (at_builtin
                       refine wpList_append_sl _ rfl (.tmp 42) (.tmp 50) _ rfl w.heap.size 41 i0 _ 2 24 Try.underlying22 hi0 hz0 hz1 hz2 rfl (by omega) u7 S.length (itemCells S) rfl (hown1.alloc _) W1.heap.size (W1.heap.size + 1) _ 1 [.string xs, .int .i64 (xn)] rfl (Sl.new W1 #[.string xs, .int .i64 (xn)] 41 (n := 1) rfl (by unfold maxLen; omega)) (by simp [Value.oneCell']) (by have := HL.out; unfold maxLen; omega) (by have := HL.out; omega) (by have := hB1.size; simp; omega) ?_
                       intro v1 w5 hv1 hg1 hat1)
          have hB4 : Below w.heap.size w w5 := (hB1.alloc hB1.size _).grown hg1 (by have := hB1.size; simp; omega) (fun g hg => (hown1.lt g hg).1)
          go_roundw
          case rel =>
            refine ⟨k + 1, by omega, by go_num, ?_, hB4⟩
            rw [HS2.out, List.length_append, itemCells_append]
            exact hv1
          case measure => simp [intOf]; omega
        · have HS2 := Lib.hid (show eachL f (a.take (k + 1)) b = S by rw [HS.out, hf, if_neg ht, List.append_nil])
          have hd : decide (0 < xn) = false := by simpa using ht
          clear HS hf ht
          go_wp2
          go_roundw
          case rel => exact ⟨k + 1, by omega, by go_num, by rw [HS2.out]; exact hown1, hB1⟩
          case measure => simp [intOf]; omega
      · clear HKF
        by_cases ht : 0 < wrap64 (xn - t)
        · have HS2 := Lib.hid (show eachL f (a.take (k + 1)) b = S ++ [(xs, wrap64 (xn - t))] by rw [HS.out, hf, if_pos ht])
          have hd : decide (0 < wrap64 (xn - t)) = true := by simpa using ht
          clear HS hf ht
          go_wp2_with (at_builtin
                       refine wpList_append_sl _ rfl (.tmp 42) (.tmp 50) _ rfl w.heap.size 41 i0 _ 2 24 Try.underlying22 hi0 hz0 hz1 hz2 rfl (by omega) u7 S.length (itemCells S) rfl (hown1.alloc _) W1.heap.size (W1.heap.size + 1) _ 1 [.string xs, .int .i64 (wrap64 (xn - t))] rfl (Sl.new W1 #[.string xs, .int .i64 (wrap64 (xn - t))] 41 (n := 1) rfl (by unfold maxLen; omega)) (by simp [Value.oneCell']) (by have := HL.out; unfold maxLen; omega) (by have := HL.out; omega) (by have := hB1.size; simp; omega) ?_
                       intro v1 w5 hv1 hg1 hat1)
          have hB4 : Below w.heap.size w w5 := (hB1.alloc hB1.size _).grown hg1 (by have := hB1.size; simp; omega) (fun g hg => (hown1.lt g hg).1)
          go_roundw
          case rel =>
            refine ⟨k + 1, by omega, by go_num, ?_, hB4⟩
            rw [HS2.out, List.length_append, itemCells_append]
            exact hv1
          case measure => simp [intOf]; omega
        · have HS2 := Lib.hid (show eachL f (a.take (k + 1)) b = S by rw [HS.out, hf, if_neg ht, List.append_nil])
          have hd : decide (0 < wrap64 (xn - t)) = false := by simpa using ht
          clear HS hf ht
          go_wp2
          go_roundw
          case rel => exact ⟨k + 1, by omega, by go_num, by rw [HS2.out]; exact hown1, hB1⟩
          case measure => simp [intOf]; omega
    · obtain rfl : k = a.length := by omega
      rw [List.take_length] at hown
      obtain ⟨A5, c5, rfl, -⟩ := (ItemsAt.of_own hown).form
      go_wp2
      go_ret
      exact ⟨⟨_, rfl, hown⟩, hB⟩
end It
end Go.Proofs.Ythfpfomifebpbaa

namespace Go.Proofs.Ythfpfomifebpbaa
open Go.RowKit Go.Maps
namespace Sa
open It

set_option maxRecDepth 100000 in
set_option maxHeartbeats 1000000 in
theorem equali_calls (a b : List It.Item) (va vb : Value) (w : World) (ha : ItemsAt w 0 w.heap.size va a) (hb : ItemsAt w 0 w.heap.size vb b) :
    Calls Try.prog 31 #[va, vb] w fun e w' => e = .returned (.bool (decide (a = b))) ∧ Below w.heap.size w w' := by
  obtain ⟨A, c, rfl, hc1, hc2⟩ := ha.form
  obtain ⟨A', c', rfl, hc1', hc2'⟩ := hb.form
  unfold maxLen at hc2 hc2'
  have hmx : Try.prog.follows .mixedOrders = true := by kernel_rfl
  by_cases hl : a.length = b.length
  · have hln : ((a.length : Int) == (b.length : Int)) = true := by simp; omega
    have hln2 : ((a.length : Int) != (b.length : Int)) = false := by simp; omega
    have HL := Lib.hid hl
    clear hl
    go_enter Try.func31, Try.ntmps31
    go_wp2
    go_loopw [13] (fun i wr => ∃ k : Nat, k ≤ a.length ∧ i = .int .i64 k ∧ a.take k = b.take k ∧ Below w.heap.size w wr) (fun i _ => a.length - (intOf i).toNat)
    case atStart => exact ⟨0, by omega, rfl, rfl, Below.refl _ _⟩
    case round =>
      obtain ⟨k, hk, rfl, hm, hB⟩ := hrel
      by_cases hlt : k < a.length
      · have hltb : k < b.length := by have := HL.out; omega
        obtain ⟨p, o, rfl, -, hp, g1, g2⟩ := (ha.mono hB hB.size).cellAt hlt
        obtain ⟨p', o', rfl, -, hp', g1', g2'⟩ := (hb.mono hB hB.size).cellAt hltb
        have hd : decide ((k : Int) < (a.length : Int)) = true := by simp; omega
        have hd' : decide ((k : Int) < (b.length : Int)) = true := by simp; omega
        have HS := Lib.hid (show a.take (k + 1) = b.take (k + 1) ↔ a[k] = b[k] by
          rw [List.take_succ_eq_append_getElem hlt, List.take_succ_eq_append_getElem hltb, hm, List.append_cancel_left_eq]; simp)
        have HN := Lib.hid (fun (h : a = b) => show a.take (k + 1) = b.take (k + 1) by rw [h])
        clear hm
        generalize a[k] = x at *
        generalize b[k] = y at *
        obtain ⟨xs, xn⟩ := x
        obtain ⟨ys, yn⟩ := y
        dsimp only at g1 g2 g1' g2'
        have hcs : (xs.toList = ys.toList ∧ xn = yn) ∨ ¬ xs.toList = ys.toList ∨ (xs.toList = ys.toList ∧ ¬ xn = yn) := by
          by_cases e : xs.toList = ys.toList <;> by_cases e2 : xn = yn <;> simp [e, e2]
        have hxy : xs.toList = ys.toList → xs = ys := fun h => by
          rw [toList_key, toList_key] at h
          exact ByteArray.ext (Array.toList_inj.1 h)
        have HXY := Lib.hid hxy
        clear hxy
        rcases hcs with ⟨e1, e2⟩ | e1 | ⟨e1, e2⟩
        all_goals
          go_wp2_with fail
          refine Pu.regionW (fun W' => Below wr.drew.heap.size wr.drew W') hmx (by kernel_rfl) (by kernel_rfl) (Below.refl _ _) rfl ?_
          iterate 9 (first
            | (refine Pu.Walk.off (by rfl) ?_; simp only [Act.put, List.setIfInBounds_toArray, List.set_cons_succ, List.set_cons_zero])
            | (apply Pu.Walk.on (by rfl)
               · intro W1 h1
                 have g1a : W1.cell? ⟨p, o + k * 2, none⟩ = some (.string xs) := (Below.cell (p := ⟨p, o + k * 2, none⟩) h1 hp).trans g1
                 have g2a : W1.cell? ⟨p, o + k * 2 + 1, none⟩ = some (.int .i64 xn) := (Below.cell (p := ⟨p, o + k * 2 + 1, none⟩) h1 hp).trans g2
                 have g1b : W1.cell? ⟨p', o' + k * 2, none⟩ = some (.string ys) := (Below.cell (p := ⟨p', o' + k * 2, none⟩) h1 hp').trans g1'
                 have g2b : W1.cell? ⟨p', o' + k * 2 + 1, none⟩ = some (.int .i64 yn) := (Below.cell (p := ⟨p', o' + k * 2 + 1, none⟩) h1 hp').trans g2'
                 go_wp2_with fail
                 refine ⟨rfl, ?_, h1⟩
                 try simp only [Act.put, List.setIfInBounds_toArray, List.set_cons_succ, List.set_cons_zero]
                 rfl
               simp only [Act.put, List.setIfInBounds_toArray, List.set_cons_succ, List.set_cons_zero]))

        all_goals
          refine Pu.Walk.nil (fun W1 h1 => ?_)
          have hB1 : Below w.heap.size w W1 := (hB.trans ((Below.refl w.heap.size wr).drew)).trans (h1.mono hB.size)
          clear g1 g2 g1' g2'
        · have HE := Lib.hid (HXY.out e1)
          have HF := Lib.hid e2
          clear e1 e2
          go_wp2
          go_roundw
          case rel => exact ⟨k + 1, by omega, by go_num, HS.out.2 (by rw [HE.out, HF.out]), hB1⟩
          case measure => simp [intOf]; omega
        all_goals
          have HD := Lib.hid (show decide (a = b) = false from decide_eq_false fun h => by
            have := HS.out.1 (HN.out h)
            simp only [Prod.mk.injEq] at this
            first | exact e1 (by rw [this.1]) | exact e2 this.2)
          go_wp2
          go_ret
          exact ⟨ret1 (boo HD.out.symm), hB1⟩
      · obtain rfl : k = a.length := by omega
        have HD := Lib.hid (show decide (a = b) = true from decide_eq_true (by rw [List.take_length, HL.out, List.take_length] at hm; exact hm))
        go_wp2
        go_ret
        exact ⟨ret1 (boo HD.out.symm), hB⟩
  · have hln : ((a.length : Int) != (b.length : Int)) = true := by rw [bne_iff_ne]; omega
    have HD := Lib.hid (show decide (a = b) = false from decide_eq_false fun h => hl (by rw [h]))
    clear hl
    go_enter Try.func31, Try.ntmps31
    go_wp2
    go_ret
    exact ⟨ret1 (boo HD.out.symm), Below.refl _ _⟩


theorem got_of_getD {a b : List (List It.Item)} (hl : a.length = b.length) (h : ∀ j, j < a.length → a.getD j [] = b.getD j []) : a = b := by
  apply List.ext_getElem hl
  intro i h1 h2
  have := h i h1
  rwa [getD_get h1, getD_get h2] at this
set_option maxRecDepth 100000 in
set_option maxHeartbeats 2000000 in
theorem equalf_calls (a b : List (List It.Item)) (va vb : Value) (w : World) (ha : GotAt w 0 w.heap.size va a) (hb : GotAt w 0 w.heap.size vb b) :
    Calls Try.prog 33 #[va, vb, .func (.func 31) #[] #[]] w fun e w' => e = .returned (.bool (decide (a = b))) ∧ Below w.heap.size w w' := by
  have HA := Lib.hid ha
  have HB := Lib.hid hb
  obtain ⟨A, c, rfl, hc1, hc2⟩ := ha.form
  obtain ⟨A', c', rfl, hc1', hc2'⟩ := hb.form
  unfold maxLen at hc2 hc2'
  clear ha hb
  by_cases hlen : a.length = b.length
  · have hln : ((a.length : Int) == (b.length : Int)) = true := by simp; omega
    have hln2 : ((a.length : Int) != (b.length : Int)) = false := by simp; omega
    have HL := Lib.hid hlen
    clear hlen
    go_enter Try.func33, Try.ntmps33
    go_wp2
    go_loopw [7, 8, 9, 17] (fun _ _ _ i wr => ∃ k : Nat, k ≤ a.length ∧ i = .int .i64 k ∧ (∀ j, j < k → a.getD j [] = b.getD j []) ∧ Below w.heap.size w wr) (fun _ _ _ i _ => a.length - (intOf i).toNat)
    case atStart => exact ⟨0, by omega, rfl, (fun j hj => by omega), Below.refl _ _⟩
    case round =>
      obtain ⟨k, hk, rfl, hN, hW⟩ := hrel
      have HN := Lib.hid hN
      clear hN
      by_cases hlt : k < a.length
      · have hd : decide ((k : Int) < a.length) = true := decide_eq_true (by omega)
        have hltb : k < b.length := by have := HL.out; omega
        obtain ⟨p, o, x, rfl, _, hp, g1, hx⟩ := (HA.out.mono hW hW.size).cellAt hlt
        obtain ⟨p', o', y, rfl, _, hp', g2, hy⟩ := (HB.out.mono hW hW.size).cellAt hltb
        have hno : a.getD k [] ≠ b.getD k [] → decide (a = b) = false := fun h => decide_eq_false fun e => h (by rw [e])
        have hye : a.getD k [] = b.getD k [] → ∀ j, j < k + 1 → a.getD j [] = b.getD j [] := fun h => allTo_snoc HN.out h
        have cE := Lib.hid (equali_calls (a.getD k []) (b.getD k []) x y wr hx hy)
        generalize a.getD k [] = la at cE hno hye hx
        generalize b.getD k [] = lb at cE hno hye hy
        obtain ⟨A1, c1, rfl, -⟩ := hx.form
        obtain ⟨A2, c2, rfl, -⟩ := hy.form
        have HNO := Lib.hid hno
        have HYE := Lib.hid hye
        clear hno hye hx hy
        by_cases hxy : la = lb
        · rw [decide_eq_true hxy] at cE
          have HXY := Lib.hid hxy
          clear hxy
          go_wp2_with fail
          refine cE.out.mono ?_
          rintro e w2 ⟨rfl, hb2⟩
          go_wp2
          go_roundw
          case rel => exact ⟨k + 1, by omega, by go_num, HYE.out HXY.out, hW.trans (hb2.mono hW.size)⟩
          case measure => simp [intOf]; omega
        · rw [decide_eq_false hxy] at cE
          have HXY := Lib.hid hxy
          clear hxy
          go_wp2_with fail
          refine cE.out.mono ?_
          rintro e w2 ⟨rfl, hb2⟩
          go_wp2
          go_ret
          exact ⟨by rw [HNO.out HXY.out]; rfl, hW.trans (hb2.mono hW.size)⟩
      · obtain rfl : k = a.length := by omega
        go_wp2
        go_ret
        exact ⟨by rw [decide_eq_true (got_of_getD HL.out HN.out)]; rfl, hW⟩
  · have hln2 : ((a.length : Int) != (b.length : Int)) = true := by simp; omega
    rw [decide_eq_false (fun e : a = b => hlen (by rw [e]))]
    go_enter Try.func33, Try.ntmps33
    go_wp2
    go_ret
    exact ⟨rfl, Below.refl _ _⟩

set_option maxRecDepth 100000 in
set_option maxHeartbeats 1000000 in
theorem cloneg_calls (L : List (List It.Item)) (v : Value) (vs : List Value) (w : World) (h : Sl w 0 w.heap.size 1 v L.length vs) (h1 : ∀ y ∈ vs, y.oneCell' = true) (hl : L.length ≤ 1000000) :
    Calls Try.prog 55 #[v] w fun e w' => (∃ v', e = .returned v' ∧ w'.ownsRow w.heap.size 22 1 v' L.length vs) ∧ Below w.heap.size w w' := by
  obtain ⟨i0, hi0, hz0⟩ := Option.map_eq_some_iff.1 list_info
  simp only [Prod.mk.injEq] at hz0
  obtain ⟨hz0, hz1, hz2⟩ := hz0
  have h0 := h
  obtain ⟨A, c, rfl, hc1, hc2, -⟩ := h.at_
  unfold maxLen at hc2
  have heq := Lib.run_eql_slice_nil (P := Try.prog) w 24 22 A L.length c 0 0 Try.underlying24
  rcases A with _ | ad
  · have hl0 : L.length = 0 := by
      rcases Nat.eq_zero_or_pos L.length with h2 | h2
      · exact h2
      · obtain ⟨A', c', e, -, -, h3⟩ := h0.at_
        cases e
        obtain ⟨b, o, e, -⟩ := h3 h2
        cases e
    have hvs : vs = [] := List.eq_nil_of_length_eq_zero (by have := h0.len; omega)
    subst hvs
    rw [hl0] at heq ⊢
    go_enter Try.func55, Try.ntmps55
    go_wp2
    go_ret
    exact ⟨⟨_, rfl, World.ownsRow_nil _ _ _ _⟩, Below.refl _ _⟩
  · go_enter Try.func55, Try.ntmps55
    go_wp2_with (at_builtin
                 refine wpList_append_sl _ rfl (.tmp 5) (.tmp 6) _ rfl w.heap.size 22 i0 _ 1 24 Try.underlying24 hi0 hz0 hz1 hz2 rfl (by omega) (.slice (some ⟨w.heap.size, 0, none⟩) 0 0) 0 [] rfl (World.ownsRow_lit w #[] 0 (Nat.le_refl _) (Nat.zero_le _) rfl) 0 w.heap.size _ L.length vs rfl (Sl.below h0 ((Below.refl _ w).alloc (Nat.le_refl _) _)) h1 (by unfold maxLen; omega) (by omega) (by simp) ?_
                 intro v1 w1 hv1 hg1 hat1
                 have hB : Below w.heap.size w w1 := ((Below.refl _ w).alloc (Nat.le_refl _) (.cells #[] 22)).grown hg1 (by simp) (fun g hg => by cases hg; exact Nat.le_refl _)
                 clear hg1 hat1)
    have hown : w1.ownsRow w.heap.size 22 1 v1 L.length vs := by simpa using hv1
    obtain ⟨A1, c1, rfl, -⟩ := (Sl.of_own hown).at_
    clear hv1
    go_wp2
    go_ret
    exact ⟨⟨_, rfl, hown⟩, hB⟩
end Sa
end Go.Proofs.Ythfpfomifebpbaa

namespace Go.Proofs.Ythfpfomifebpbaa
open Go.RowKit Go.Maps
namespace Sa
open It
variable {mlo : Nat}

theorem ob_three {w : World} {b : Nat} {t : TypeId} {c0 c1 c2 : Value} (h : Ob w b t #[c0, c1, c2]) :
    w.cell? ⟨b, 0, none⟩ = some c0 ∧ w.cell? ⟨b, 1, none⟩ = some c1 ∧ w.cell? ⟨b, 2, none⟩ = some c2 := ⟨h.cell rfl, h.cell rfl, h.cell rfl⟩
def takeOff (r : Int) (l : List Int) : List Int := delAt l (Life.idxOf r l).toNat
theorem idx_cases (r : Int) (l : List Int) : Life.idxOf r l = -1 ∨ ∃ i, i < l.length ∧ Life.idxOf r l = (i : Nat) ∧ l.getD i 0 = r := by
  unfold Life.idxOf
  cases h : l.findIdx? (r == ·) with
  | none => exact .inl rfl
  | some i =>
    obtain ⟨h1, h2, -⟩ := List.findIdx?_eq_some_iff_getElem.1 h
    exact .inr ⟨i, h1, rfl, by rw [getD_get h1]; simpa using Eq.symm (by simpa using h2)⟩
def freedT (t : Saga) : Saga × List Step := if t.pending.length = 0 then (endS t, told (endSt t)) else (t, [])
def freedS (s : Saga) (e : Ev) : Except Int (Saga × List Step) :=
  if s.state = 4 ∧ Life.idxOf e.region s.pending ≠ -1 then .ok (freedT { s with pending := takeOff e.region s.pending, got := s.got.set e.region.toNat [] }) else .error 80
def didT (t : Saga) (to : Int) : Saga × List Step := if t.pending.length = 0 then ({ t with state := to }, told to) else (t, [])
def didU (a b : List It.Item) (t : Saga) (to : Int) : Except Int (Saga × List Step) := if a = b then .ok (didT t to) else .error 60
def didS (s : Saga) (e : Ev) (from_ to : Int) : Except Int (Saga × List Step) :=
  if s.state = from_ ∧ Life.idxOf e.region s.pending ≠ -1 then
    didU e.items (s.got.getD e.region.toNat []) { s with pending := takeOff e.region s.pending } to
  else .error 80
def cancelAt (st : Int) (was : Bool) (t : Saga) : Except Int (Saga × List Step) :=
  if st = 1 ∨ st = 4 then (if was then .error 5 else .ok (t, []))
  else if st = 3 then .ok (endS t, told (endSt t))
  else if st = 2 then .ok (undoS t)
  else .error 80
def cancelS (s : Saga) : Except Int (Saga × List Step) := cancelAt s.state s.cancelled { s with cancelled := true }
def allS (s : Saga) (from_ to kind : Int) : Except Int (Saga × List Step) := if s.state = from_ then .ok (eachS s to, eachL kind (holders s.got)) else .error 80

def tookT (t : Saga) (left : List It.Item) : Saga × List Step :=
  if t.cancelled then undoS t
  else if left.length = 0 then ({ t with state := 2 }, told 2)
  else if t.asked < t.regions then ({ t with asked := t.asked + 1, pending := [(visit t.first t.regions).getD t.asked.toNat 0] }, [⟨3, (visit t.first t.regions).getD t.asked.toNat 0, left, 0⟩])
  else undoS t
def tookU (c : Bool) (t : Saga) (left : List It.Item) : Except Int (Saga × List Step) := if c then .ok (tookT t left) else .error 60
def tookS (s : Saga) (e : Ev) : Except Int (Saga × List Step) :=
  if s.state = 1 ∧ Life.idxOf e.region s.pending ≠ -1 then
    tookU (covers (missing s.want s.got) e.items) { s with pending := takeOff e.region s.pending, got := s.got.set e.region.toNat e.items } (both restF (missing s.want s.got) e.items)
  else .error 80

/-- what a call that lets something happen to the saga in block b gives -/
def Ret (mlo : Nat) (w' : World) (b : Nat) (e : Ending) : Except Int (Saga × List Step) → Prop
  | .error x => e = .returned (.tuple #[.slice none 0 0, .int .i64 x])
  | .ok y => ∃ vl, e = .returned (.tuple #[vl, .int .i64 0]) ∧ StepsAt w' mlo w'.heap.size vl y.2 ∧ ∃ vw vg vp, Ob w' b 27 (sagaC y.1 vw vg vp) ∧ Off mlo w' b y.1 vw vg vp
theorem Ret.none {w' : World} {b : Nat} {s : Saga} {vw vg vp : Value} (ho : Ob w' b 27 (sagaC s vw vg vp)) (hf : Off mlo w' b s vw vg vp) : Ret mlo w' b (.returned (.tuple #[.slice none 0 0, .int .i64 0])) (.ok (s, [])) :=
  ⟨_, rfl, StepsAt.nil _ _ _, _, _, _, ho, hf⟩

set_option maxRecDepth 100000 in
set_option maxHeartbeats 2000000 in
theorem freed_calls (s : Saga) (vw vg vp : Value) (P G L b base : Nat) (ev : Ev) (ve : Value) (w : World) (hm : Mine mlo w P G L b s vw vg vp) (hbase : base ≤ P) (hr : ∀ x ∈ s.pending, 0 ≤ x ∧ x < s.got.length) (hv : ItemsAt w 0 base ve ev.items) :
    Calls Try.prog 57 #[.pointer (some ⟨b, 0, none⟩), .agg (evC ev ve)] w fun e w' => Ret mlo w' b e (freedS s ev) ∧ Below base w w' := by
  have hmx : Try.prog.follows .mixedOrders = true := by kernel_rfl
  obtain ⟨A, c, rfl, -⟩ := hv.form
  unfold evC
  have hlt := hm.ob.lt
  have h1 := hm.PG
  have h2 := hm.GL
  have h3 := hm.Lb
  have hal := (Below.refl w.heap.size w).alloc (Nat.le_refl _) (.cells #[.int .i64 ev.kind, .int .i64 ev.region, .slice A ev.items.length c] 44)
  have hm0 := hm.later hal
  have hoE := Ob.new w 44 #[.int .i64 ev.kind, .int .i64 ev.region, .slice A ev.items.length c]
  have HBA := Lib.hid (hal.mono (show base ≤ w.heap.size by omega))
  clear hv hm
  unfold freedS
  by_cases hy : s.state = 4 ∧ Life.idxOf ev.region s.pending ≠ -1
  · rw [if_pos hy]
    obtain ⟨hst, hix⟩ := hy
    rcases idx_cases ev.region s.pending with h | ⟨i, hil, hi, hgi⟩
    · exact absurd h hix
    have hrr := hr ev.region (by rw [← hgi, getD_get hil]; exact List.getElem_mem hil)
    unfold takeOff
    rw [hi, Int.toNat_natCast]
    obtain ⟨r, hr'⟩ : ∃ r : Nat, ev.region = r := ⟨ev.region.toNat, by omega⟩
    have cA := Lib.hid (mine_yes i 4 ev.region hm0 hst hi hil)
    have hlen := delAt_length s.pending hil
    have hnil : ev.region.toNat = r := by omega
    rw [hnil]
    have hrl : r < s.got.length := by omega
    rw [hr'] at cA hoE HBA ⊢
    clear hr hgi hi hix hrr hm0 hal hst
    have HR' := Lib.hid hr'
    clear hr' hnil
    generalize hW : w.alloc _ = W0 at *
    go_enter Try.func57, Try.ntmps57
    obtain ⟨e0, e1, e2⟩ := ob_three hoE
    have hWs : W0.heap.size = w.heap.size + 1 := by rw [← hW, World.size_alloc]
    go_wp2_with fail
    refine cA.out.mono ?_
    rintro e W1 ⟨rfl, ⟨vp', hm1⟩, hk1⟩
    have hoE1 := hk1.ob hoE ⟨by omega, .inr hlt⟩
    obtain ⟨j0, j1, j2⟩ := ob_three hoE1
    clear e0 e1 e2 hoE cA hW
    have HB1 := Lib.hid (HBA.out.trans (hk1.below (B := base) fun j hj => ⟨by omega, .inl (by omega)⟩))
    have hdr : Below W1.heap.size W1 W1.drew := (Below.refl _ W1).drew
    have hm1 := hm1.later hdr
    have hoE1 := hoE1.same hdr
    have HB1 := Lib.hid (HB1.out.trans (hdr.mono (by have := HB1.out.size; omega)))
    obtain ⟨j0, j1, j2⟩ := ob_three hoE1
    obtain ⟨gb, cap, x, hvg, hcap, hcapm, hgG, hgL, hcell, hfz, -⟩ := hm1.place (r := r) hrl
    subst hvg
    obtain ⟨hob2, hoff2⟩ := hm1.put (r := r) (x := .slice none 0 0) (l := []) hrl (ItemsAt.nil _ _ _)
    obtain ⟨-, -, -, -, -, -, -, k7, -, -⟩ := ob_ten hm1.ob
    obtain ⟨-, -, -, -, -, -, -, -, k8, -⟩ := ob_ten hob2
    have hB2 := HB1.out.trans (Kept.below (B := base) (Kept.of_grown (Fr := fun j => j < W1.drew.heap.size ∧ j ≠ gb) (grownBy_set W1.drew gb r (.slice none 0 0)) fun j hj => ⟨hj.1, fun e => hj.2 (by cases e; rfl)⟩) fun j hj => ⟨by have := HB1.out.size; omega, by omega⟩)
    have hrz : (0 : Nat) + r = r := Nat.zero_add r
    unfold maxLen at hcapm
    clear hm1 hk1
    have hD := hob2.lt
    go_wp2
    refine Pu.regionM [(0, false), (1, false), (2, false), (3, false), (4, false), (5, false), (6, false), (7, true)] (fun V => V = W1.drew) hmx (by kernel_rfl) (by kernel_rfl) (by kernel_rfl) rfl rfl ?_
    simp only [Pu.named, List.filterMap_cons, List.filterMap_nil, List.getElem?_toArray, List.getElem?_cons_succ, List.getElem?_cons_zero, Option.map_some]
    iterate 7 (
      apply Pu.WalkM.on (by rfl)
      · rintro W rfl
        go_wp2_with fail
        refine ⟨rfl, ?_, rfl⟩
        try simp only [Act.put, List.setIfInBounds_toArray, List.set_cons_succ, List.set_cons_zero]
        rfl
      simp only [Act.put, List.setIfInBounds_toArray, List.set_cons_succ, List.set_cons_zero])
    refine Pu.WalkM.make (by rfl) ?_
    rintro W rfl
    go_wp2_with fail
    refine ⟨rfl, undef, (fun _ => True), (fun V => V = _), rfl, rfl, (fun _ _ => trivial), (.inl (by kernel_rfl)), Pu.WalkM.nil ?_⟩
    rintro V rfl
    simp only [Act.put]
    rw [show W1.drew.setCell ⟨gb, r, none⟩ (.slice none 0 0) = (W1.setCell ⟨gb, r, none⟩ (.slice none 0 0)).drew from rfl] at hob2 hoff2 hB2 k8 hD
    generalize (W1.setCell ⟨gb, r, none⟩ (.slice none 0 0)).drew = W2 at *
    by_cases hz : (delAt s.pending i).length = 0
    · have dz : decide (((delAt s.pending i).length : Int) > 0) = false := decide_eq_false (by omega)
      have cE := Lib.hid (end_calls _ _ _ _ b _ hob2 hoff2)
      obtain ⟨A5, c5, rfl, -⟩ := (hoff2.pend.ints).form
      clear hob2 hoff2
      go_wp2_with fail
      refine cE.out.mono ?_
      rintro e W4 ⟨⟨vl, rfl, hv⟩, ⟨uw, ug, up, ho4, hf4⟩, hb4⟩
      obtain ⟨A6, c6, rfl, -⟩ := hv.form
      go_wp2
      go_ret2
      exact ⟨by unfold freedT; rw [if_pos hz]; exact ⟨_, rfl, hv, uw, ug, up, ho4, hf4⟩, hB2.trans (hb4.mono (by omega))⟩
    · have dz : decide (((delAt s.pending i).length : Int) > 0) = true := decide_eq_true (by omega)
      obtain ⟨A5, c5, rfl, -⟩ := (hoff2.pend.ints).form
      go_wp2
      go_ret2
      exact ⟨by unfold freedT; rw [if_neg hz]; exact Ret.none hob2 hoff2, hB2⟩
  · rw [if_neg hy]
    have hn : s.state ≠ 4 ∨ Life.idxOf ev.region s.pending = -1 := by
      by_cases h : s.state = 4
      · exact .inr (Decidable.byContradiction fun h' => hy ⟨h, h'⟩)
      · exact .inl h
    have cN := Lib.hid (mine_no 4 ev.region hm0 hn)
    clear hy hn hm0 hal
    go_enter Try.func57, Try.ntmps57
    go_wp2_with fail
    refine cN.out.mono ?_
    rintro e w1 ⟨rfl, rfl⟩
    go_wp2
    go_ret2
    exact ⟨rfl, HBA.out⟩
end Sa
end Go.Proofs.Ythfpfomifebpbaa

namespace Go.Proofs.Ythfpfomifebpbaa
open Go.RowKit Go.Maps
namespace Sa
open It
variable {mlo : Nat}

set_option maxRecDepth 100000 in
set_option maxHeartbeats 2000000 in
theorem did_calls (s : Saga) (vw vg vp : Value) (P G L b base : Nat) (ev : Ev) (ve : Value) (from_ to : Int) (w : World) (hm : Mine mlo w P G L b s vw vg vp) (hbase : base ≤ P) (hr : ∀ x ∈ s.pending, 0 ≤ x ∧ x < s.got.length) (hv : ItemsAt w 0 base ve ev.items) :
    Calls Try.prog 61 #[.pointer (some ⟨b, 0, none⟩), .agg (evC ev ve), .int .i64 from_, .int .i64 to] w fun e w' => Ret mlo w' b e (didS s ev from_ to) ∧ Below base w w' := by
  have hmx : Try.prog.follows .mixedOrders = true := by kernel_rfl
  have HV := Lib.hid hv
  obtain ⟨A, c, rfl, -⟩ := hv.form
  unfold evC
  have hlt := hm.ob.lt
  have h1 := hm.PG
  have h2 := hm.GL
  have h3 := hm.Lb
  have hal := (Below.refl w.heap.size w).alloc (Nat.le_refl _) (.cells #[.int .i64 ev.kind, .int .i64 ev.region, .slice A ev.items.length c] 44)
  have hm0 := hm.later hal
  have hoE := Ob.new w 44 #[.int .i64 ev.kind, .int .i64 ev.region, .slice A ev.items.length c]
  have HBA := Lib.hid (hal.mono (show base ≤ w.heap.size by omega))
  clear hv hm
  unfold didS
  by_cases hy : s.state = from_ ∧ Life.idxOf ev.region s.pending ≠ -1
  · rw [if_pos hy]
    obtain ⟨hst, hix⟩ := hy
    rcases idx_cases ev.region s.pending with h | ⟨i, hil, hi, hgi⟩
    · exact absurd h hix
    have hrr := hr ev.region (by rw [← hgi, getD_get hil]; exact List.getElem_mem hil)
    unfold takeOff
    rw [hi, Int.toNat_natCast]
    obtain ⟨r, hr'⟩ : ∃ r : Nat, ev.region = r := ⟨ev.region.toNat, by omega⟩
    have cA := Lib.hid (mine_yes i from_ ev.region hm0 hst hi hil)
    have hlen := delAt_length s.pending hil
    have hnil : ev.region.toNat = r := by omega
    rw [hnil]
    have hrl : r < s.got.length := by omega
    rw [hr'] at cA hoE HBA ⊢
    clear hr hgi hi hix hrr hm0 hal hst
    have HR' := Lib.hid hr'
    clear hr' hnil
    generalize hgr : s.got.getD r [] = gr
    have HGR := Lib.hid hgr
    clear hgr
    generalize hW : w.alloc _ = W0 at *
    go_enter Try.func61, Try.ntmps61
    obtain ⟨e0, e1, e2⟩ := ob_three hoE
    have hWs : W0.heap.size = w.heap.size + 1 := by rw [← hW, World.size_alloc]
    go_wp2_with fail
    refine cA.out.mono ?_
    rintro e W1 ⟨rfl, ⟨vp', hm1⟩, hk1⟩
    have hoE1 := hk1.ob hoE ⟨by omega, .inr hlt⟩
    clear e0 e1 e2 hoE cA hW
    have HB1 := Lib.hid (HBA.out.trans (hk1.below (B := base) fun j hj => ⟨by omega, .inl (by omega)⟩))
    have hdr : Below W1.heap.size W1 W1.drew := (Below.refl _ W1).drew
    have hm1 := hm1.later hdr
    have hoE1 := hoE1.same hdr
    have HB1 := Lib.hid (HB1.out.trans (hdr.mono (by have := HB1.out.size; omega)))
    obtain ⟨gb, cap, x, hvg, hcap, hcapm, hgG, hgL, hcell, hfz, hx⟩ := hm1.place (r := r) hrl
    have hx : ItemsAt W1.drew L b x gr := by rw [← HGR.out]; exact hx
    subst hvg
    have hrz : (0 : Nat) + r = r := Nat.zero_add r
    unfold maxLen at hcapm
    have hD := hm1.ob.lt
    have cE := Lib.hid (fun V (h : Below W1.drew.heap.size W1.drew V) => equali_calls ev.items gr (.slice A ev.items.length c) x V ((HV.out.mono (HB1.out.trans (h.mono (by have := HB1.out.size; omega))) (Nat.le_refl _)).wide (Nat.le_refl _) (by have := HB1.out.size; have := h.size; omega)) ((hx.mono (h.mono (by omega)) (Nat.le_refl _)).wide (Nat.zero_le _) (by have := h.size; omega)))
    have hC := Lib.hid (fun V (h : Below W1.drew.heap.size W1.drew V) => show V.cell? ⟨b, 7, none⟩ = some (.slice (some ⟨gb, 0, none⟩) s.got.length cap) ∧ V.cell? ⟨w.heap.size, 1, none⟩ = some (.int .i64 (r : Int)) ∧ V.cell? ⟨w.heap.size, 2, none⟩ = some (.slice A ev.items.length c) ∧ V.cell? ⟨gb, r, none⟩ = some x from
      ⟨(hm1.ob.same h).cell rfl, (hoE1.same h).cell rfl, (hoE1.same h).cell rfl, (Below.cell (p := ⟨gb, r, none⟩) h (by show gb < W1.drew.heap.size; omega)).trans hcell⟩)
    have HM := Lib.hid (fun V (h : Below W1.drew.heap.size W1.drew V) => hm1.later h)
    have cT := Lib.hid (fun V (h : Below W1.drew.heap.size W1.drew V) => tell_calls _ _ _ _ b to V (hm1.later h).ob (hm1.later h).off)
    have HX := Lib.hid hx
    obtain ⟨A3, c3, rfl, -⟩ := hx.form
    obtain ⟨A4, c4, hA4, -⟩ := hm1.off.pend.ints.form
    subst hA4
    clear hm1 hk1 hoE1 hx
    generalize hq : decide (ev.items = gr) = q at cE
    have HQ := Lib.hid hq
    clear hq
    go_wp2
    refine Pu.regionW (fun Wq => Below W1.drew.heap.size W1.drew Wq) hmx (by kernel_rfl) (by kernel_rfl) (Below.refl _ _) rfl ?_
    iterate 13 (first
      | (refine Pu.Walk.off (by rfl) ?_; simp only [Act.put, List.setIfInBounds_toArray, List.set_cons_succ, List.set_cons_zero])
      | (apply Pu.Walk.on (by rfl)
         · intro V1 h1
           obtain ⟨q7, j1, j2, hce⟩ := hC.out V1 h1
           go_wp2_with (first
             | (go_at_call 31; refine (cE.out V1 h1).mono ?_; rintro e V2 ⟨rfl, hb⟩; replace h1 := h1.trans (hb.mono h1.size); clear hb))
           refine ⟨rfl, ?_, h1⟩
           try simp only [Act.put, List.setIfInBounds_toArray, List.set_cons_succ, List.set_cons_zero]
           rfl
         simp only [Act.put, List.setIfInBounds_toArray, List.set_cons_succ, List.set_cons_zero]))
    refine Pu.Walk.nil (fun V h1 => ?_)
    have hBV := HB1.out.trans (h1.mono (by have := HB1.out.size; omega))
    have hmV := HM.out V h1
    have cTV := Lib.hid (cT.out V h1)
    clear cT cE hC HM
    cases q with
    | false =>
      go_wp2
      go_ret2
      exact ⟨by unfold didU; rw [if_neg (of_decide_eq_false HQ.out)]; exact rfl, hBV⟩
    | true =>
      have HY := Lib.hid (of_decide_eq_true HQ.out)
      obtain ⟨-, -, -, -, -, -, -, -, k8, -⟩ := ob_ten hmV.ob
      by_cases hz : (delAt s.pending i).length = 0
      · have dz : decide (((delAt s.pending i).length : Int) > 0) = false := decide_eq_false (by omega)
        have HMV := Lib.hid hmV
        clear hmV
        go_wp2_with fail
        refine cTV.out.mono ?_
        rintro e W4 ⟨⟨vl, rfl, hv⟩, ho4, hf4, hb4⟩
        obtain ⟨A6, c6, rfl, -⟩ := hv.form
        go_wp2
        go_ret2
        exact ⟨by unfold didU; rw [if_pos HY.out]; unfold didT; rw [if_pos hz]; exact ⟨_, rfl, hv, _, _, _, ho4, hf4⟩, hBV.trans (hb4.mono (by omega))⟩
      · have dz : decide (((delAt s.pending i).length : Int) > 0) = true := decide_eq_true (by omega)
        go_wp2
        go_ret2
        exact ⟨by unfold didU; rw [if_pos HY.out]; unfold didT; rw [if_neg hz]; exact Ret.none hmV.ob hmV.off, hBV⟩
  · rw [if_neg hy]
    have hn : s.state ≠ from_ ∨ Life.idxOf ev.region s.pending = -1 := by
      by_cases h : s.state = from_
      · exact .inr (Decidable.byContradiction fun h' => hy ⟨h, h'⟩)
      · exact .inl h
    have cN := Lib.hid (mine_no from_ ev.region hm0 hn)
    clear hy hn hm0 hal
    go_enter Try.func61, Try.ntmps61
    go_wp2_with fail
    refine cN.out.mono ?_
    rintro e w1 ⟨rfl, rfl⟩
    go_wp2
    go_ret2
    exact ⟨rfl, HBA.out⟩

set_option maxRecDepth 100000 in
set_option maxHeartbeats 2000000 in
theorem cancel_calls (s : Saga) (vw vg vp : Value) (b : Nat) (w : World) (ho : Ob w b 27 (sagaC s vw vg vp)) (hf : Off mlo w b s vw vg vp) (hL : s.got.length ≤ 1000000) :
    Calls Try.prog 58 #[.pointer (some ⟨b, 0, none⟩)] w fun e w' => Ret mlo w' b e (cancelS s) ∧ Below b w w' := by
  have hlt := ho.lt
  obtain ⟨-, -, -, -, -, -, -, -, -, g9⟩ := ob_ten ho
  have f9 := ho.frozen 9
  have ho' : Ob (w.setCell ⟨b, 9, none⟩ (.bool true)) b 27 (sagaC { s with cancelled := true } vw vg vp) := ho.set 9 (.bool true)
  have hf' : Off mlo (w.setCell ⟨b, 9, none⟩ (.bool true)) b { s with cancelled := true } vw vg vp := ⟨hf.mb, (hf.set 9 _).want, (hf.set 9 _).got, (hf.set 9 _).pend⟩
  have hb := below_set w b 9 (.bool true)
  have cE := Lib.hid (end_calls _ _ _ _ b _ ho' hf')
  have cU := Lib.hid (undo_calls _ _ _ _ b _ ho' hf' hL)
  obtain ⟨-, -, -, -, -, k5, -, -, -, -⟩ := ob_ten ho'
  have HO := Lib.hid ho'
  have HF := Lib.hid hf'
  clear ho hf ho' hf'
  unfold cancelS
  replace k5 : (w.setCell ⟨b, 9, none⟩ (.bool true)).cell? ⟨b, 5, none⟩ = some (.int .i64 s.state) := k5
  generalize ({ s with cancelled := true } : Saga) = t at cE cU HO HF ⊢
  generalize s.state = st at k5 ⊢
  unfold cancelAt
  by_cases e1 : st = 1 ∨ st = 4
  · rw [if_pos e1]
    generalize hca : s.cancelled = ca at g9 ⊢
    clear hca
    rcases e1 with rfl | rfl <;> cases ca <;> simp only [if_true, Bool.false_eq_true, if_false] <;> (
      go_enter Try.func58, Try.ntmps58
      go_wp2
      go_ret2
      exact ⟨by first | exact rfl | exact Ret.none HO.out HF.out, hb⟩)
  rw [if_neg e1]
  have d1 : decide (st = 1) = false := decide_eq_false fun e => e1 (.inl e)
  have d4 : decide (st = 4) = false := decide_eq_false fun e => e1 (.inr e)
  by_cases e3 : st = 3
  · rw [if_pos e3]
    subst e3
    go_enter Try.func58, Try.ntmps58
    go_wp2_with fail
    refine cE.out.mono ?_
    rintro e W4 ⟨⟨vl, rfl, hv⟩, ⟨uw, ug, up, ho4, hf4⟩, hb4⟩
    obtain ⟨A6, c6, rfl, -⟩ := hv.form
    go_wp2
    go_ret2
    exact ⟨⟨_, rfl, hv, uw, ug, up, ho4, hf4⟩, hb.trans hb4⟩
  rw [if_neg e3]
  have d3 : decide (st = 3) = false := decide_eq_false e3
  by_cases e2 : st = 2
  · rw [if_pos e2]
    subst e2
    go_enter Try.func58, Try.ntmps58
    go_wp2_with fail
    refine cU.out.mono ?_
    rintro e W4 ⟨⟨vl, rfl, hv⟩, ⟨uw, ug, up, ho4, hf4⟩, hb4⟩
    obtain ⟨A6, c6, rfl, -⟩ := hv.form
    go_wp2
    go_ret2
    exact ⟨⟨_, rfl, hv, uw, ug, up, ho4, hf4⟩, hb.trans hb4⟩
  rw [if_neg e2]
  have d2 : decide (st = 2) = false := decide_eq_false e2
  go_enter Try.func58, Try.ntmps58
  go_wp2
  go_ret2
  exact ⟨rfl, hb⟩

set_option maxRecDepth 100000 in
set_option maxHeartbeats 2000000 in
theorem all_calls (s : Saga) (vw vg vp : Value) (b : Nat) (from_ to kind : Int) (w : World) (ho : Ob w b 27 (sagaC s vw vg vp)) (hf : Off mlo w b s vw vg vp) (hL : s.got.length ≤ 1000000) :
    Calls Try.prog 60 #[.pointer (some ⟨b, 0, none⟩), .int .i64 from_, .int .i64 to, .int .i64 kind] w fun e w' => Ret mlo w' b e (allS s from_ to kind) ∧ Below b w w' := by
  have hlt := ho.lt
  obtain ⟨-, -, -, -, -, k5, -, -, -, -⟩ := ob_ten ho
  have cX := Lib.hid (each_calls s vw vg vp b to kind w ho hf hL)
  clear ho hf
  unfold allS
  by_cases hst : s.state = from_
  · rw [if_pos hst]
    have d1 : decide (s.state = from_) = true := decide_eq_true hst
    have d2 : (s.state == from_) = true := by rw [beq_iff_eq]; exact hst
    have d3 : (s.state != from_) = false := by simp [bne, d2]
    clear hst
    go_enter Try.func60, Try.ntmps60
    go_wp2_with fail
    refine cX.out.mono ?_
    rintro e W4 ⟨⟨vl, rfl, hv⟩, ⟨uw, ug, up, ho4, hf4⟩, hb4⟩
    obtain ⟨A6, c6, rfl, -⟩ := hv.form
    go_wp2
    go_ret2
    exact ⟨⟨_, rfl, hv, uw, ug, up, ho4, hf4⟩, hb4⟩
  · rw [if_neg hst]
    have d1 : decide (s.state = from_) = false := decide_eq_false hst
    go_enter Try.func60, Try.ntmps60
    go_wp2
    go_ret2
    exact ⟨rfl, Below.refl _ _⟩
end Sa
end Go.Proofs.Ythfpfomifebpbaa

namespace Go.Proofs.Ythfpfomifebpbaa
open Go.RowKit Go.Maps
namespace Sa
open It
variable {mlo : Nat}

theorem fits_missing (want : List It.Item) (L : List (List It.Item)) (h : Fits want) : Fits (missing want L) := by
  unfold missing
  split
  · exact fits_left want L h
  · intro x hx
    simp at hx

theorem next_mem {U : World} {b : Nat} {t : Saga} {vw vg vp vr : Value} {rest : List It.Item} (ho : Ob U b 27 (sagaC t vw vg vp)) (hf : Off mlo U b t vw vg vp) (a' nx : Int) (hr : ItemsAt U (b + 1) U.heap.size vr rest) :
    ((U.setCell ⟨b, 6, none⟩ (.int .i64 a')).alloc (.cells #[.int .i64 nx] 3)).cell? ⟨b, 8, none⟩ = some vp ∧
    ((U.setCell ⟨b, 6, none⟩ (.int .i64 a')).alloc (.cells #[.int .i64 nx] 3)).frozen? ⟨b, 8, none⟩ = false ∧
    ∃ U3, ((U.setCell ⟨b, 6, none⟩ (.int .i64 a')).alloc (.cells #[.int .i64 nx] 3)).setCell ⟨b, 8, none⟩ (.slice (some ⟨U.heap.size, 0, none⟩) 1 1) = U3 ∧
      Ob U3 b 27 (sagaC { t with asked := a', pending := [nx] } vw vg (.slice (some ⟨U.heap.size, 0, none⟩) 1 1)) ∧ Off mlo U3 b { t with asked := a', pending := [nx] } vw vg (.slice (some ⟨U.heap.size, 0, none⟩) 1 1) ∧
      ItemsAt U3 (b + 1) U3.heap.size vr rest ∧ Below b U U3 ∧ U3.heap.size = U.heap.size + 1 := by
  have hlt := ho.lt
  have hz := set_size U b 6 (.int .i64 a')
  have ho1 : Ob (U.setCell ⟨b, 6, none⟩ (.int .i64 a')) b 27 (sagaC { t with asked := a' } vw vg vp) := ho.set 6 (.int .i64 a')
  have hf1 := hf.set 6 (.int .i64 a')
  have hr1 := Kept.sl (Fr := fun i => i < U.heap.size ∧ i ≠ b) (Kept.of_grown (grownBy_set U b 6 (.int .i64 a')) fun i hi => ⟨hi.1, fun e => hi.2 (by cases e; rfl)⟩) hr fun i h1 h2 => ⟨h2, by omega⟩
  have hb1 := below_set U b 6 (.int .i64 a')
  generalize U.setCell ⟨b, 6, none⟩ (.int .i64 a') = U1 at *
  rw [← hz] at hr1 ⊢
  have hlt1 := ho1.lt
  have hal := (Below.refl U1.heap.size U1).alloc (Nat.le_refl _) (.cells #[.int .i64 nx] 3)
  have ho2 := ho1.alloc (.cells #[.int .i64 nx] 3)
  have hf2 := hf1.later hal
  have hr2 := Sl.mono hr1 hal hal.size
  have hs2 : Sl (U1.alloc (.cells #[.int .i64 nx] 3)) U1.heap.size (U1.heap.size + 1) 1 (.slice (some ⟨U1.heap.size, 0, none⟩) 1 1) 1 [.int .i64 nx] := Sl.new U1 #[.int .i64 nx] 3 (size := 1) (n := 1) rfl (by unfold maxLen; omega)
  have hb2 := hb1.trans (hal.mono (by omega))
  have hz2 : (U1.alloc (.cells #[.int .i64 nx] 3)).heap.size = U1.heap.size + 1 := World.size_alloc _ _
  generalize U1.alloc (.cells #[.int .i64 nx] 3) = U2 at *
  have hlt2 := ho2.lt
  refine ⟨ho2.cell rfl, ho2.frozen 8, _, rfl, ho2.set 8 (.slice (some ⟨U1.heap.size, 0, none⟩) 1 1), ?_, ?_, hb2.trans (below_set U2 b 8 _), ?_⟩
  · have hf3 := hf2.set 8 (.slice (some ⟨U1.heap.size, 0, none⟩) 1 1)
    refine ⟨hf3.mb, hf3.want, hf3.got, ?_⟩
    have hn : NOff mlo U2 b (.slice (some ⟨U1.heap.size, 0, none⟩) 1 1) [nx] := ⟨U1.heap.size, U1.heap.size + 1, by have := hf.mb; omega, .inr hlt1, by omega, hs2⟩
    exact SlOff.keep hn (Kept.of_grown (grownBy_set U2 b 8 _) fun i hi => ⟨hi.1, fun e => hi.2 (by cases e; rfl)⟩)
  · rw [set_size]
    have := Kept.sl (Fr := fun i => i < U2.heap.size ∧ i ≠ b) (Kept.of_grown (grownBy_set U2 b 8 (.slice (some ⟨U1.heap.size, 0, none⟩) 1 1)) fun i hi => ⟨hi.1, fun e => hi.2 (by cases e; rfl)⟩) hr2 fun i h1 h2 => ⟨h2, by omega⟩
    exact this
  · rw [set_size, hz2]

set_option maxRecDepth 100000 in
set_option maxHeartbeats 4000000 in
theorem took_calls (s : Saga) (vw vg vp : Value) (P G L b base : Nat) (ev : Ev) (ve : Value) (w : World) (hm : Mine mlo w P G L b s vw vg vp) (hbase : base ≤ P) (hr : ∀ x ∈ s.pending, 0 ≤ x ∧ x < s.got.length) (hv : ItemsAt w 0 base ve ev.items)
    (hh : Head s) (hF : Fit s) (hFe : Fits ev.items) :
    Calls Try.prog 56 #[.pointer (some ⟨b, 0, none⟩), .agg (evC ev ve)] w fun e w' => Ret mlo w' b e (tookS s ev) ∧ Below base w w' := by
  have hmx : Try.prog.follows .mixedOrders = true := by kernel_rfl
  have HV := Lib.hid hv
  obtain ⟨A, c, rfl, -⟩ := hv.form
  unfold evC
  have hlt := hm.ob.lt
  have h1 := hm.PG
  have h2 := hm.GL
  have h3 := hm.Lb
  have hal := (Below.refl w.heap.size w).alloc (Nat.le_refl _) (.cells #[.int .i64 ev.kind, .int .i64 ev.region, .slice A ev.items.length c] 44)
  have hm0 := hm.later hal
  have hoE := Ob.new w 44 #[.int .i64 ev.kind, .int .i64 ev.region, .slice A ev.items.length c]
  have HBA := Lib.hid (hal.mono (show base ≤ w.heap.size by omega))
  have hWs : (w.alloc (.cells #[.int .i64 ev.kind, .int .i64 ev.region, .slice A ev.items.length c] 44)).heap.size = w.heap.size + 1 := World.size_alloc _ _
  have cM := Lib.hid (sagamissing_calls s vw vg vp _ hm0.off.parts hF)
  have HO := Lib.hid hm0.ob
  have HFm := Lib.hid (fits_missing s.want s.got hF.want)
  have HH := Lib.hid hh
  unfold tookS
  clear hv hm hF hh
  generalize missing s.want s.got = left at cM HFm ⊢
  by_cases hy : s.state = 1 ∧ Life.idxOf ev.region s.pending ≠ -1
  · rw [if_pos hy]
    obtain ⟨hst, hix⟩ := hy
    rcases idx_cases ev.region s.pending with h | ⟨i, hil, hi, hgi⟩
    · exact absurd h hix
    have hrr := hr ev.region (by rw [← hgi, getD_get hil]; exact List.getElem_mem hil)
    unfold takeOff
    rw [hi, Int.toNat_natCast]
    obtain ⟨r, hr'⟩ : ∃ r : Nat, ev.region = r := ⟨ev.region.toNat, by omega⟩
    have cA := Lib.hid (fun W (h : Below (w.heap.size + 1) _ W) => mine_yes i 1 ev.region (hm0.later (by rw [hWs]; exact h)) hst hi hil)
    have hnil : ev.region.toNat = r := by omega
    rw [hnil]
    have hrl : r < s.got.length := by omega
    rw [hr'] at cA hoE HBA cM HO hWs ⊢
    clear hr hgi hi hix hrr hm0 hal hst
    have HR' := Lib.hid hr'
    clear hr' hnil
    generalize hW : w.alloc _ = W0 at *
    obtain ⟨e0, e1, e2⟩ := ob_three hoE
    go_enter Try.func56, Try.ntmps56
    go_wp2_with (refine wpList_load_obg (by rfl) _ _ rfl rfl _ HO.out Try.underlying27 rfl (by kernel_rfl) ?_)
    refine cM.out.mono ?_
    rintro e W1 ⟨⟨vl, rfl, hvl⟩, hb1⟩
    have hoE1 := hoE.same hb1
    obtain ⟨A1, c1, rfl, -⟩ := (ItemsAt.of_own hvl).form
    have HB1 := Lib.hid (HBA.out.trans (hb1.mono (by omega)))
    have hs1 := hb1.size
    have cA1 := Lib.hid (cA.out W1 (hWs ▸ hb1))
    clear cA cM hb1 e0 e1 e2 HO hoE hW
    obtain ⟨e0, e1, e2⟩ := ob_three hoE1
    go_wp2_with fail
    refine cA1.out.mono ?_
    rintro e W2 ⟨rfl, ⟨vp', hm2⟩, hk2⟩
    have hoE2 := hk2.ob hoE1 ⟨by omega, .inr hlt⟩
    have hvl2 := own_kept hvl hk2 fun g hg => ⟨(hvl.lt g hg).2, .inr (by have := (hvl.lt g hg).1; omega)⟩
    have HB2 := Lib.hid (HB1.out.trans (hk2.below (B := base) fun j hj => ⟨by omega, .inl (by omega)⟩))
    have hlow := Lib.hid (fun g hg => (hvl.lt g hg).1)
    have hs2 := hk2.size
    clear cA1 e0 e1 e2 hoE1 hvl hk2
    obtain ⟨e0, e1, e2⟩ := ob_three hoE2
    have hvi2 := (HV.out.mono HB2.out (Nat.le_refl _)).wide (Nat.le_refl _) (show base ≤ W2.heap.size by omega)
    have cC := Lib.hid (covers_calls left ev.items _ _ W2 ((ItemsAt.of_own hvl2).wide (Nat.zero_le _) (Nat.le_refl _)) hvi2 HFm.out hFe)
    clear hvi2
    go_wp2_with fail
    refine cC.out.mono ?_
    rintro e W3 ⟨rfl, hb3⟩
    have hm3 := hm2.later hb3
    have hoE3 := hoE2.same hb3
    have hvl3 := row_later hvl2 hb3
    have HB3 := Lib.hid (HB2.out.trans (hb3.mono (by omega)))
    have hs3 := hb3.size
    have hcov : covers left ev.items = true → ev.items.length ≤ 1000000 := fun h => by
      unfold covers at h
      simp only [Bool.and_eq_true] at h
      have := may_len h.1.2
      omega
    have HCV := Lib.hid hcov
    clear cC e0 e1 e2 hoE2 hm2 hvl2 hb3 hcov
    generalize hcq : covers left ev.items = q at HCV
    have HCQ := Lib.hid hcq
    clear hcq
    cases q with
    | false =>
      go_wp2
      go_ret2
      exact ⟨by rw [HCQ.out]; exact rfl, HB3.out⟩
    | true =>
      have hdr : Below W3.heap.size W3 W3.drew := (Below.refl _ W3).drew
      have hm4 := hm3.later hdr
      have hoE4 := hoE3.same hdr
      have hvl4 := row_later hvl3 hdr
      have HB4 := Lib.hid (HB3.out.trans (hdr.mono (by omega)))
      have hs4 := hdr.size
      obtain ⟨gb, cap, x, hvg, hcap, hcapm, hgG, hgL, hcell, hfz, -⟩ := hm4.place (r := r) hrl
      subst hvg
      have hrz : (0 : Nat) + r = r := Nat.zero_add r
      unfold maxLen at hcapm
      have cK := Lib.hid (fun V (h : Below W3.drew.heap.size W3.drew V) => clonei_calls ev.items (.slice A ev.items.length c) V ((HV.out.mono (HB4.out.trans (h.mono (by omega))) (Nat.le_refl _)).wide (Nat.le_refl _) (by have := h.size; omega)) (HCV.out rfl))
      have hC := Lib.hid (fun V (h : Below W3.drew.heap.size W3.drew V) => show V.cell? ⟨b, 7, none⟩ = some (.slice (some ⟨gb, 0, none⟩) s.got.length cap) ∧ V.cell? ⟨w.heap.size, 1, none⟩ = some (.int .i64 (r : Int)) ∧ V.cell? ⟨w.heap.size, 2, none⟩ = some (.slice A ev.items.length c) from
        ⟨(hm4.ob.same h).cell rfl, (hoE4.same h).cell rfl, (hoE4.same h).cell rfl⟩)
      have HM4 := Lib.hid hm4
      have HE4 := Lib.hid hoE4
      have HL4 := Lib.hid hvl4
      clear hm3 hoE3 hvl3 hdr hm4 hoE4 hvl4 hcell hfz
      go_wp2
      refine Pu.regionM [(0, false), (1, false), (2, false), (3, false), (4, false), (5, false), (6, false), (7, false), (8, true), (9, false), (10, true)] (fun Wq => Below W3.drew.heap.size W3.drew Wq) hmx (by kernel_rfl) (by kernel_rfl) (by kernel_rfl) (Below.refl _ _) rfl ?_
      simp only [Pu.named, List.filterMap_cons, List.filterMap_nil, List.getElem?_toArray, List.getElem?_cons_succ, List.getElem?_cons_zero, Option.map_some]
      iterate 8 (
        apply Pu.WalkM.on (by rfl)
        · intro V1 h1
          obtain ⟨q7, j1, j2⟩ := hC.out V1 h1
          go_wp2_with fail
          refine ⟨rfl, ?_, rfl⟩
          try simp only [Act.put, List.setIfInBounds_toArray, List.set_cons_succ, List.set_cons_zero]
          rfl
        simp only [Act.put, List.setIfInBounds_toArray, List.set_cons_succ, List.set_cons_zero])
      refine Pu.WalkM.make (by rfl) ?_
      rintro W rfl
      go_wp2_with (go_at_call 29; refine (cK.out _ (Below.refl _ _)).mono ?_; rintro e W5 ⟨⟨v5, rfl, hv5⟩, hb5⟩)
      obtain ⟨A5, c5, rfl, -⟩ := (ItemsAt.of_own hv5).form
      refine ⟨rfl, .slice A5 ev.items.length c5, _, (fun V => V = W5), ?_, rfl, (fun V h => by rw [h]; exact hb5), (.inr (fun _ h => h)), ?_⟩
      · simp only [Act.put, List.setIfInBounds_toArray, List.set_cons_succ, List.set_cons_zero]
      simp only [Act.put, List.setIfInBounds_toArray, List.set_cons_succ, List.set_cons_zero]
      iterate 1 (
        apply Pu.WalkM.on (by rfl)
        · intro V1 h1
          skip
          go_wp2_with fail
          refine ⟨rfl, ?_, rfl⟩
          try simp only [Act.put, List.setIfInBounds_toArray, List.set_cons_succ, List.set_cons_zero]
          rfl
        simp only [Act.put, List.setIfInBounds_toArray, List.set_cons_succ, List.set_cons_zero])
      have hm5 := HM4.out.later hb5
      have hoE5 := HE4.out.same hb5
      have hvl5 := row_later HL4.out hb5
      have HB5 := HB4.out.trans (hb5.mono (by omega))
      have hs5 := hb5.size
      obtain ⟨gb', cap', x', hvg', -, -, hgG', hgL', hcell, hfz, -⟩ := hm5.place (r := r) hrl
      cases hvg'
      obtain ⟨hob6, hoff6⟩ := hm5.put (r := r) (x := .slice A5 ev.items.length c5) (l := ev.items) hrl ((ItemsAt.of_own hv5).wide (by omega) (Nat.le_refl _))
      have hgr6 := grownBy_set W5 gb r (.slice A5 ev.items.length c5)
      have hoE6 := hoE5.kept hgr6 (by simp; omega)
      have hvl6 := hvl5.kept hgr6 (by
        cases hq : Value.ownBlock (.slice A1 left.length c1) with
        | none => exact .inl rfl
        | some g => exact .inr fun e => by have := hlow.out g hq; cases e; omega)
      have HB6 := HB5.grown hgr6 (by omega) (fun g e => by cases e; omega)
      have hsz6 := set_size W5 gb r (.slice A5 ev.items.length c5)
      clear hm5 hoE5 hvl5 HB5 hv5 hb5 cK hC hgr6
      refine Pu.WalkM.make (by rfl) ?_
      rintro W rfl
      go_wp2_with fail
      refine ⟨rfl, undef, (fun _ => True), (fun V => V = _), rfl, rfl, (fun _ _ => trivial), (.inl (by kernel_rfl)), Pu.WalkM.nil ?_⟩
      rintro V rfl
      simp only [Act.put]
      generalize W.setCell ⟨gb, r, none⟩ (.slice A5 ev.items.length c5) = W6 at *
      have hvi6 := (HV.out.mono HB6 (Nat.le_refl _)).wide (Nat.le_refl _) (show base ≤ W6.heap.size by omega)
      have cR := Lib.hid (rest_calls left ev.items _ _ W6 ((ItemsAt.of_own hvl6).wide (Nat.zero_le _) (Nat.le_refl _)) hvi6 HFm.out hFe)
      have HO6 := Lib.hid hob6
      have HF6 := Lib.hid hoff6
      obtain ⟨j0, j1, j2⟩ := ob_three hoE6
      clear hvi6 hob6 hoff6 hvl6 hoE6
      go_wp2_with fail
      refine cR.out.mono ?_
      rintro e W7 ⟨⟨v7, rfl, hv7⟩, hb7⟩
      have hob7 := HO6.out.same hb7
      have hoff7 := HF6.out.later hb7
      have HB7 := Lib.hid (HB6.trans (hb7.mono (by omega)))
      have hs7 := hb7.size
      obtain ⟨A7, c7, rfl, -⟩ := (ItemsAt.of_own hv7).form
      clear cR HO6 HF6 j0 j1 j2 hb7
      generalize hrs : both restF left ev.items = rest at *
      have HRS := Lib.hid hrs
      clear hrs
      obtain ⟨t, ht⟩ : ∃ t : Saga, t = { s with pending := delAt s.pending i, got := s.got.set r ev.items } := ⟨_, rfl⟩
      have HT := Lib.hid ht
      have hgl : t.got.length ≤ 1000000 := by rw [ht]; have := HH.out.got; have := HH.out.r2; simp; omega
      have htr : t.regions = s.regions := by rw [ht]
      have hta : t.asked = s.asked := by rw [ht]
      have htf : t.first = s.first := by rw [ht]
      have hF0 : 0 ≤ t.first ∧ t.first < t.regions ∧ t.regions ≤ 8 ∧ 1 ≤ t.asked ∧ t.asked ≤ t.regions := by
        have := HH.out.f1
        have := HH.out.f2
        have := HH.out.r2
        have := HH.out.a1
        have := HH.out.a2
        omega
      have hvl : ((visit t.first t.regions).length : Int) = t.regions := by rw [htf, htr]; exact HH.out.visit
      rw [← ht] at hob7 hoff7
      clear ht htr hta htf HV HFm HR'
      obtain ⟨-, k1, k2, -, -, -, k6, -, -, k9⟩ := ob_ten hob7
      cases hca : t.cancelled with
      | true =>
        rw [hca] at k9
        have HCA := Lib.hid hca
        clear hca hvl hF0
        have cU := Lib.hid (undo_calls t _ _ _ b W7 hob7 hoff7 hgl)
        clear hob7 hoff7
        go_wp2_with fail
        refine cU.out.mono ?_
        rintro e W8 ⟨⟨vl8, rfl, hv8⟩, ⟨uw, ug, up, ho8, hf8⟩, hb8⟩
        obtain ⟨A8, c8, rfl, -⟩ := hv8.form
        go_wp2
        go_ret2
        exact ⟨by rw [HCQ.out, HRS.out, ← HT.out]; show Ret mlo _ _ _ (.ok (tookT t rest)); unfold tookT; rw [if_pos HCA.out]; exact ⟨_, rfl, hv8, uw, ug, up, ho8, hf8⟩, HB7.out.trans (hb8.mono (by omega))⟩
      | false =>
        rw [hca] at k9
        have HCA := Lib.hid (show ¬ t.cancelled = true by rw [hca]; simp)
        clear hca
        by_cases hre : rest.length = 0
        · have d0 : decide ((rest.length : Int) = 0) = true := decide_eq_true (by omega)
          have d00 : ((rest.length : Int) == 0) = true := by rw [beq_iff_eq]; omega
          have HRE := Lib.hid hre
          clear hre hvl hF0
          have cT := Lib.hid (tell_calls t _ _ _ b 2 W7 hob7 hoff7)
          clear hob7 hoff7
          go_wp2_with fail
          refine cT.out.mono ?_
          rintro e W8 ⟨⟨vl8, rfl, hv8⟩, ho8, hf8, hb8⟩
          obtain ⟨A8, c8, rfl, -⟩ := hv8.form
          go_wp2
          go_ret2
          exact ⟨by rw [HCQ.out, HRS.out, ← HT.out]; show Ret mlo _ _ _ (.ok (tookT t rest)); unfold tookT; rw [if_neg HCA.out, if_pos HRE.out]; exact ⟨_, rfl, hv8, _, _, _, ho8, hf8⟩, HB7.out.trans (hb8.mono (by omega))⟩
        · have d0 : decide ((rest.length : Int) = 0) = false := decide_eq_false (by omega)
          have d00 : ((rest.length : Int) == 0) = false := by rw [beq_eq_false_iff_ne]; omega
          have d01 : ¬ rest.length = 0 := hre
          have HRE := Lib.hid hre
          clear hre
          have HC7 := Lib.hid (fun V (h : Below W7.drew.heap.size W7.drew V) => show V.cell? ⟨b, 1, none⟩ = some (.int .i64 t.first) ∧ V.cell? ⟨b, 2, none⟩ = some (.int .i64 t.regions) ∧ V.cell? ⟨b, 6, none⟩ = some (.int .i64 t.asked) from
            ⟨((hob7.same (Below.refl W7.heap.size W7).drew).same h).cell rfl, ((hob7.same (Below.refl W7.heap.size W7).drew).same h).cell rfl, ((hob7.same (Below.refl W7.heap.size W7).drew).same h).cell rfl⟩)
          by_cases hlt7 : t.asked < t.regions
          · have d1 : decide (t.asked < t.regions) = true := decide_eq_true hlt7
            have HO7 := Lib.hid hob7
            have HF7 := Lib.hid hoff7
            have HV7 := Lib.hid hv7
            have HLT7 := Lib.hid hlt7
            clear hob7 hoff7 hv7 hlt7
            go_wp2
            refine Pu.regionW (fun Wq => Below W7.drew.heap.size W7.drew Wq) hmx (by kernel_rfl) (by kernel_rfl) (Below.refl _ _) rfl ?_
            iterate 10 (first
              | (refine Pu.Walk.off (by rfl) ?_; simp only [Act.put, List.setIfInBounds_toArray, List.set_cons_succ, List.set_cons_zero])
              | (apply Pu.Walk.on (by rfl)
                 · intro V1 h1
                   obtain ⟨q1, q2, q6⟩ := HC7.out V1 h1
                   go_wp2_with fail
                   refine ⟨rfl, ?_, h1⟩
                   try simp only [Act.put, List.setIfInBounds_toArray, List.set_cons_succ, List.set_cons_zero]
                   rfl
                 simp only [Act.put, List.setIfInBounds_toArray, List.set_cons_succ, List.set_cons_zero]))
            refine Pu.Walk.nil (fun V h1 => ?_)
            have hdr7 : Below W7.heap.size W7 V.drew := ((Below.refl W7.heap.size W7).drew.trans h1).drew
            have hob8 := HO7.out.same hdr7
            have hoff8 := HF7.out.later hdr7
            have hv8 := row_later HV7.out hdr7
            have HB8 := Lib.hid (HB7.out.trans (hdr7.mono (by omega)))
            have hs8 := hdr7.size
            clear h1 hdr7 HO7 HF7 HV7 HB7 HC7 k1 k2 k6 k9
            have HC8 := Lib.hid (fun U (h : Below V.drew.heap.size V.drew U) => show U.cell? ⟨b, 1, none⟩ = some (.int .i64 t.first) ∧ U.cell? ⟨b, 2, none⟩ = some (.int .i64 t.regions) ∧ U.cell? ⟨b, 6, none⟩ = some (.int .i64 t.asked) from
              ⟨(hob8.same h).cell rfl, (hob8.same h).cell rfl, (hob8.same h).cell rfl⟩)
            have cV := Lib.hid (fun U => visit_calls t.first t.regions U)
            have HO8 := Lib.hid hob8
            have HF8 := Lib.hid hoff8
            have HV8 := Lib.hid hv8
            clear hob8 hoff8 hv8
            obtain ⟨a, ha⟩ : ∃ a : Nat, t.asked = (a : Int) := ⟨t.asked.toNat, by omega⟩
            have hav : a < (visit t.first t.regions).length := by have := HLT7.out; omega
            have hn : t.asked.toNat = a := by omega
            have HN := Lib.hid hn
            have HA := Lib.hid ha
            have ha8 : (a : Int) ≤ 8 := by omega
            clear hn ha
            generalize hvs : visit t.first t.regions = vs at hvl hav cV
            have HVS := Lib.hid hvs
            clear hvs
            go_wp2
            refine Pu.regionM [(0, false), (1, false), (2, false), (3, false), (4, false), (5, false), (6, false), (7, false), (9, false), (10, false), (11, false), (12, false), (8, true), (13, false), (14, false), (15, false)] (fun Wq => Below V.drew.heap.size V.drew Wq) hmx (by kernel_rfl) (by kernel_rfl) (by kernel_rfl) (Below.refl _ _) rfl ?_
            simp only [Pu.named, List.filterMap_cons, List.filterMap_nil, List.getElem?_toArray, List.getElem?_cons_succ, List.getElem?_cons_zero, Option.map_some]
            iterate 12 (
              apply Pu.WalkM.on (by rfl)
              · intro V1 h1
                obtain ⟨q1, q2, q6⟩ := HC8.out V1 h1
                go_wp2_with fail
                refine ⟨rfl, ?_, rfl⟩
                try simp only [Act.put, List.setIfInBounds_toArray, List.set_cons_succ, List.set_cons_zero]
                rfl
              simp only [Act.put, List.setIfInBounds_toArray, List.set_cons_succ, List.set_cons_zero])
            refine Pu.WalkM.make (by rfl) ?_
            rintro W' rfl
            go_wp2_with (go_at_call 28; refine (cV.out _).mono ?_; rintro e W9 ⟨⟨v9, rfl, hv9⟩, hb9⟩)
            obtain ⟨A9, c9, rfl, hv9l, hv9c, -⟩ := (IntsAt.of_own hv9).form
            unfold maxLen at hv9c
            obtain ⟨b9, o9, rfl, -, -, hck9⟩ := (IntsAt.of_own hv9).cellAt hav
            have hob9 := HO8.out.same hb9
            have hoff9 := HF8.out.later hb9
            have hvr9 := row_later HV8.out hb9
            have HB9 := Lib.hid (HB8.out.trans (hb9.mono (by omega)))
            have hs9 := hb9.size
            clear hv9 HO8 HF8 HV8 HC8 cV
            refine ⟨rfl, .slice (some ⟨b9, o9, none⟩) vs.length c9, (fun U => U = W9), (fun U => U = W9), ?_, rfl, (fun U h => h), (.inr (fun U h => by rw [h]; exact hb9)), ?_⟩
            · simp only [Act.put, List.setIfInBounds_toArray, List.set_cons_succ, List.set_cons_zero]
            simp only [Act.put, List.setIfInBounds_toArray, List.set_cons_succ, List.set_cons_zero]
            generalize hnx : vs.getD a 0 = nx at hck9
            have HNX := Lib.hid hnx
            clear hnx
            rw [HA.out]
            iterate 3 (
              apply Pu.WalkM.on (by rfl)
              · rintro W rfl
                go_wp2_with fail
                refine ⟨rfl, ?_, rfl⟩
                try simp only [Act.put, List.setIfInBounds_toArray, List.set_cons_succ, List.set_cons_zero]
                rfl
              simp only [Act.put, List.setIfInBounds_toArray, List.set_cons_succ, List.set_cons_zero])
            refine Pu.WalkM.nil ?_
            rintro U rfl
            have f6 := hob9.frozen 6
            obtain ⟨-, -, -, -, -, -, k6, -, -, -⟩ := ob_ten hob9
            rw [HA.out] at k6
            obtain ⟨g8, f8, U3, hU3, hob12, hoff12, hrs12, hb12, hz12⟩ := next_mem hob9 hoff9 ((a : Int) + 1) nx ((ItemsAt.of_own hvr9).wide (by omega) (Nat.le_refl _))
            have hst := (StepsAt.one' (w := U3) (lo := mlo) (x := ⟨3, nx, rest, 0⟩) (hrs12.wide (by have := hoff12.mb; omega) (Nat.le_refl _)) (Nat.le_refl _) (by have := hoff12.mb; omega)).wide (Nat.le_refl _) (show U3.heap.size + 1 ≤ (U3.alloc (.cells #[.int .i64 3, .int .i64 nx, .slice A7 rest.length c7, .int .i64 0] 52)).heap.size by rw [World.size_alloc]; omega)
            have hal := (Below.refl U3.heap.size U3).alloc (Nat.le_refl _) (.cells #[.int .i64 3, .int .i64 nx, .slice A7 rest.length c7, .int .i64 0] 52)
            have hob13 := hob12.same hal
            have hoff13 := hoff12.later hal
            have HB13 := Lib.hid ((HB9.out.trans (hb12.mono (by omega))).trans (hal.mono (by omega)))
            have HO13 := Lib.hid hob13
            have HF13 := Lib.hid hoff13
            have HST := Lib.hid hst
            clear hob9 hoff9 hvr9 hob12 hoff12 hrs12 hb12 hal hob13 hoff13 hst
            go_wp2
            go_ret2
            refine ⟨?_, HB13.out⟩
            rw [HCQ.out, HRS.out, ← HT.out]
            show Ret mlo _ _ _ (.ok (tookT t rest))
            unfold tookT
            rw [if_neg HCA.out, if_neg HRE.out, if_pos HLT7.out, HN.out, HVS.out, HNX.out, HA.out]
            rw [← hz12] at *
            exact ⟨_, rfl, HST.out, _, _, _, HO13.out, HF13.out⟩
          · have d1 : decide (t.asked < t.regions) = false := decide_eq_false hlt7
            have HLT7 := Lib.hid hlt7
            clear hlt7 hvl hF0
            have HO7 := Lib.hid hob7
            have HF7 := Lib.hid hoff7
            clear hob7 hoff7 hv7
            go_wp2
            refine Pu.regionW (fun Wq => Below W7.drew.heap.size W7.drew Wq) hmx (by kernel_rfl) (by kernel_rfl) (Below.refl _ _) rfl ?_
            iterate 10 (first
              | (refine Pu.Walk.off (by rfl) ?_; simp only [Act.put, List.setIfInBounds_toArray, List.set_cons_succ, List.set_cons_zero])
              | (apply Pu.Walk.on (by rfl)
                 · intro V1 h1
                   obtain ⟨q1, q2, q6⟩ := HC7.out V1 h1
                   go_wp2_with fail
                   refine ⟨rfl, ?_, h1⟩
                   try simp only [Act.put, List.setIfInBounds_toArray, List.set_cons_succ, List.set_cons_zero]
                   rfl
                 simp only [Act.put, List.setIfInBounds_toArray, List.set_cons_succ, List.set_cons_zero]))
            refine Pu.Walk.nil (fun V h1 => ?_)
            have hdr7 : Below W7.heap.size W7 V := (Below.refl W7.heap.size W7).drew.trans h1
            have hob8 := HO7.out.same hdr7
            have hoff8 := HF7.out.later hdr7
            have HB8 := Lib.hid (HB7.out.trans (hdr7.mono (by omega)))
            have hs8 := hdr7.size
            clear h1 hdr7
            have cU := Lib.hid (undo_calls t _ _ _ b V hob8 hoff8 hgl)
            clear hob8 hoff8
            go_wp2_with fail
            refine cU.out.mono ?_
            rintro e W9 ⟨⟨vl8, rfl, hv8⟩, ⟨uw, ug, up, ho9, hf9⟩, hb9⟩
            obtain ⟨A8, c8, rfl, -⟩ := hv8.form
            go_wp2
            go_ret2
            exact ⟨by rw [HCQ.out, HRS.out, ← HT.out]; show Ret mlo _ _ _ (.ok (tookT t rest)); unfold tookT; rw [if_neg HCA.out, if_neg HRE.out, if_neg (by have := HLT7.out; omega)]; exact ⟨_, rfl, hv8, uw, ug, up, ho9, hf9⟩, HB8.out.trans (hb9.mono (by omega))⟩
  · rw [if_neg hy]
    have hn : s.state ≠ 1 ∨ Life.idxOf ev.region s.pending = -1 := by
      by_cases h : s.state = 1
      · exact .inr (Decidable.byContradiction fun h' => hy ⟨h, h'⟩)
      · exact .inl h
    have cN := Lib.hid (fun W (h : Below (w.heap.size + 1) _ W) => mine_no 1 ev.region (hm0.later (by rw [hWs]; exact h)) hn)
    clear hy hn hm0 hal
    generalize hW : w.alloc _ = W0 at *
    obtain ⟨e0, e1, e2⟩ := ob_three hoE
    go_enter Try.func56, Try.ntmps56
    go_wp2_with (refine wpList_load_obg (by rfl) _ _ rfl rfl _ HO.out Try.underlying27 rfl (by kernel_rfl) ?_)
    refine cM.out.mono ?_
    rintro e W1 ⟨⟨vl, rfl, hvl⟩, hb1⟩
    have hoE1 := hoE.same hb1
    obtain ⟨A1, c1, rfl, -⟩ := (ItemsAt.of_own hvl).form
    have HB1 := Lib.hid (HBA.out.trans (hb1.mono (by omega)))
    have cN1 := Lib.hid (cN.out W1 (hWs ▸ hb1))
    clear cN cM hvl hb1 e0 e1 e2 HO hW
    obtain ⟨e0, e1, e2⟩ := ob_three hoE1
    go_wp2_with fail
    refine cN1.out.mono ?_
    rintro e w1 ⟨rfl, rfl⟩
    go_wp2
    go_ret2
    exact ⟨rfl, HB1.out⟩
end Sa
end Go.Proofs.Ythfpfomifebpbaa
