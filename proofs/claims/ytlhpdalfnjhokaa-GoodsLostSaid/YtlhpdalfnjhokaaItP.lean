/-
  items: lists that may be, in plain words: each is known by how many of each good it has.
-/
import Derived.Test.YtlhpdalfnjhokaaItN
namespace Go.Proofs.Ytlhpdalfnjhokaa
open Go.RowKit Go.Maps
namespace It

theorem toList_key (s : ByteArray) : s.toList = s.data.toList := ByteArray.toList_eq s
theorem strLe_eq (a b : ByteArray) : strLe a b = !(Op.bytesLess b.toList a.toList) := by
  unfold strLe
  rw [less_eq, less_eq, Bool.eq_iff_iff]
  simp only [Bool.or_eq_true, decide_eq_true_eq, beq_iff_eq, Bool.not_eq_true', decide_eq_false_iff_not]
  constructor
  · rintro (h | h) h2
    · exact bs_asy _ _ h h2
    · rw [h] at h2; exact bs_irr _ h2
  · intro h
    rcases bs_tri a.toList b.toList with h1 | h1 | h1
    · exact .inl h1
    · exact .inr h1
    · exact absurd h1 h

def okI (x : Item) : Bool := good x.1 && decide (1 ≤ x.2) && countOk x.2
theorem okItem_eq (x : Item) (last : ByteArray) : okItem x last = (okI x && decide (last.data.toList < key x)) := by
  unfold okItem okI key
  rw [strLe_eq, Bool.not_not, less_eq, toList_key, toList_key]
theorem mayTo_iff : ∀ (l : List Item) (last : ByteArray), mayTo last l = true ↔ (∀ x ∈ l, okI x = true) ∧ (last.data.toList :: l.map key).Pairwise (· < ·)
  | [], last => by simp [mayTo]
  | x :: r, last => by
    simp only [mayTo, okItem_eq, Bool.and_eq_true, mayTo_iff r x.1, decide_eq_true_eq, List.map_cons]
    rw [show x.1.data.toList = key x from rfl]
    simp only [List.pairwise_cons, List.mem_cons, List.mem_map, forall_eq_or_imp]
    constructor
    · rintro ⟨⟨h1, h2⟩, h3, h4, h5⟩
      refine ⟨⟨h1, h3⟩, ⟨h2, fun a ha => List.lt_trans h2 (h4 a ha)⟩, h4, h5⟩
    · rintro ⟨⟨h1, h3⟩, ⟨h2, _⟩, h4, h5⟩
      exact ⟨⟨h1, h2⟩, h3, h4, h5⟩

/-- a list that may be -/
structure M (l : List Item) : Prop where
  len : l.length ≤ 16
  ok : ∀ x ∈ l, good x.1 = true ∧ 1 ≤ x.2 ∧ x.2 ≤ 1099511627776
  sorted : l.Pairwise fun a b => key a < key b
theorem good_key {x : Item} (h : good x.1 = true) : [] < key x := by
  unfold good at h
  simp only [Bool.and_eq_true, decide_eq_true_eq] at h
  have h1 := h.1.2
  unfold key
  rw [← ByteArray.size_data] at h1
  have h2 : x.1.data.toList.length = x.1.data.size := by simp
  match hl : x.1.data.toList with
  | [] => rw [hl] at h2; simp at h2; omega
  | c :: r => simp
theorem okI_iff (x : Item) : okI x = true ↔ good x.1 = true ∧ 1 ≤ x.2 ∧ x.2 ≤ 1099511627776 := by
  unfold okI
  simp only [Bool.and_eq_true, decide_eq_true_eq, countOk_iff]
  constructor
  · rintro ⟨⟨h1, h2⟩, h3⟩; exact ⟨h1, h2, h3.2⟩
  · rintro ⟨h1, h2, h3⟩; exact ⟨⟨h1, h2⟩, by omega, h3⟩
theorem may_iff (l : List Item) : may l = true ↔ M l := by
  unfold may
  rw [Bool.and_eq_true, decide_eq_true_eq, mayTo_iff]
  constructor
  · rintro ⟨⟨h1, h2⟩, h3⟩
    refine ⟨h3, fun x hx => (okI_iff x).1 (h1 x hx), ?_⟩
    have := (List.pairwise_cons.1 h2).2
    rwa [List.pairwise_map] at this
  · rintro ⟨h1, h2, h3⟩
    refine ⟨⟨fun x hx => (okI_iff x).2 (h2 x hx), List.pairwise_cons.2 ⟨fun k hk => ?_, ?_⟩⟩, h1⟩
    · obtain ⟨x, hx, rfl⟩ := List.mem_map.1 hk
      exact good_key (h2 x hx).1
    · rw [List.pairwise_map]; exact h3

theorem key_item (x : Item) : ∀ y : Item, key x = key y → x.2 = y.2 → x = y := fun y h1 h2 => by
  rw [item_eta x, item_eta y, h1, h2]
theorem tot_mem {l : List Item} (h : l.Pairwise fun a b => key a < key b) {x : Item} (hx : x ∈ l) : tot (key x) l = x.2 := by
  induction l with
  | nil => cases hx
  | cons y r ih =>
    have h' := List.pairwise_cons.1 h
    simp only [tot]
    rcases List.mem_cons.1 hx with rfl | hx
    · rw [if_pos rfl, tot_out, Int.add_zero]
      intro hk
      obtain ⟨z, hz, e⟩ := List.mem_map.1 hk
      have := h'.1 z hz
      rw [e] at this
      exact bs_irr _ this
    · rw [ih h'.2 hx, if_neg, Int.zero_add]
      intro e
      have := h'.1 x hx
      rw [e] at this
      exact bs_irr _ this
theorem tot_pos {k : Bs} {l : List Item} (h : tot k l ≠ 0) : k ∈ l.map key := Decidable.byContradiction fun hk => h (tot_out hk)
theorem M.nonneg {l : List Item} (h : M l) (k : Bs) : 0 ≤ tot k l := by
  by_cases hk : k ∈ l.map key
  · obtain ⟨x, hx, rfl⟩ := List.mem_map.1 hk
    rw [tot_mem h.sorted hx]
    have := h.ok x hx; omega
  · rw [tot_out hk]; omega
theorem M.le {l : List Item} (h : M l) (k : Bs) : tot k l ≤ 1099511627776 := by
  by_cases hk : k ∈ l.map key
  · obtain ⟨x, hx, rfl⟩ := List.mem_map.1 hk
    rw [tot_mem h.sorted hx]
    have := h.ok x hx; omega
  · rw [tot_out hk]; omega
theorem M.norm {a b : List Item} (hb : b.Pairwise fun a b => key a < key b) (hp : ∀ x ∈ b, 0 < x.2) (hk : ∀ k, tot k a = tot k b) : IsNorm a b := by
  refine ⟨hb, fun x => ⟨fun hx => ?_, fun ⟨h1, h2, h3⟩ => ?_⟩⟩
  · have h1 := tot_mem hb hx
    have h2 := hp x hx
    rw [← hk] at h1
    exact ⟨tot_pos (by omega), h1.symm, h2⟩
  · rw [hk] at h2
    obtain ⟨y, hy, e⟩ := List.mem_map.1 (tot_pos (k := key x) (l := b) (by omega))
    have := tot_mem hb hy
    rw [e, ← h2] at this
    rw [key_item x y e.symm this]
    exact hy
theorem M.ext {a b : List Item} (ha : M a) (hb : M b) (hk : ∀ k, tot k a = tot k b) : a = b :=
  (M.norm ha.sorted (fun x hx => by have := ha.ok x hx; omega) (fun _ => rfl)).unique (M.norm hb.sorted (fun x hx => by have := hb.ok x hx; omega) hk)

/-! Of, as a sum -/
theorem wrap_small {n : Int} (h1 : -9223372036854775808 ≤ n) (h2 : n ≤ 9223372036854775807) : wrap64 n = n := by unfold wrap64; omega
theorem ofStep_key (s : ByteArray) (t : Int) (x : Item) : ofStep s t x = if key x = s.data.toList then wrap64 (t + x.2) else t := by
  unfold ofStep key
  rw [toList_key, toList_key]
  by_cases h : x.1.data.toList = s.data.toList
  · rw [if_pos (by simpa using h), if_pos h]
  · rw [if_neg (by simpa using h), if_neg h]
theorem ofSum_foldl (s : ByteArray) : ∀ (l : List Item) (t : Int), (∀ x ∈ l, 0 ≤ x.2 ∧ x.2 ≤ 1099511627776) → 0 ≤ t → t + l.length * 1099511627776 ≤ 9223372036854775807 → l.foldl (ofStep s) t = t + tot s.data.toList l
  | [], t, _, _, _ => by simp [tot]
  | x :: l, t, h, h0, h1 => by
    have hx := h x (by simp)
    simp only [List.length_cons] at h1
    rw [List.foldl_cons, ofStep_key]
    simp only [tot]
    by_cases e : key x = s.data.toList
    · rw [if_pos e, if_pos e, wrap_small (by omega) (by omega), ofSum_foldl s l _ (fun y hy => h y (by simp [hy])) (by omega) (by omega)]
      omega
    · rw [if_neg e, if_neg e, ofSum_foldl s l _ (fun y hy => h y (by simp [hy])) h0 (by omega)]
      omega
theorem M.of {l : List Item} (h : M l) (s : ByteArray) : ofSum s l = tot s.data.toList l := by
  have := ofSum_foldl s l 0 (fun x hx => by have := h.ok x hx; omega) (Int.le_refl _) (by have := h.len; omega)
  unfold ofSum
  omega

/-! what is made of each item of a list -/
def made (h : Item → Int) (a : List Item) : List Item := a.filterMap fun x => if 0 < h x then some (x.1, h x) else none
theorem made_nil (h : Item → Int) : made h [] = [] := rfl
theorem made_cons (h : Item → Int) (x : Item) (l : List Item) : made h (x :: l) = (if 0 < h x then [(x.1, h x)] else []) ++ made h l := by
  unfold made
  rw [List.filterMap_cons]
  split <;> rename_i e <;> split at e <;> simp_all
theorem made_mem {h : Item → Int} {a : List Item} {y : Item} (hy : y ∈ made h a) : ∃ x ∈ a, key x = key y ∧ x.1 = y.1 ∧ y.2 = h x ∧ 0 < h x := by
  unfold made at hy
  obtain ⟨x, hx, e⟩ := List.mem_filterMap.1 hy
  split at e
  · cases e; exact ⟨x, hx, rfl, rfl, rfl, by assumption⟩
  · cases e
theorem made_sorted {h : Item → Int} {a : List Item} (ha : a.Pairwise fun a b => key a < key b) : (made h a).Pairwise fun a b => key a < key b := by
  unfold made
  rw [List.pairwise_filterMap]
  refine ha.imp fun {x y} hxy u hu v hv => ?_
  split at hu <;> cases hu
  split at hv <;> cases hv
  exact hxy
theorem made_M {h : Item → Int} {a : List Item} (ha : M a) (hh : ∀ x ∈ a, h x ≤ 1099511627776) : M (made h a) := by
  refine ⟨Nat.le_trans (List.length_filterMap_le _ _) ha.len, fun y hy => ?_, made_sorted ha.sorted⟩
  obtain ⟨x, hx, _, e, e2, h3⟩ := made_mem hy
  have := hh x hx
  rw [← e, e2]
  exact ⟨(ha.ok x hx).1, by omega, this⟩
theorem made_tot (h : Item → Int) (k : Bs) : ∀ (a : List Item), a.Pairwise (fun a b => key a < key b) → tot k (made h a) = match a.find? (fun x => decide (key x = k)) with | some x => (if 0 < h x then h x else 0) | none => 0
  | [], _ => rfl
  | x :: l, ha => by
    have h' := List.pairwise_cons.1 ha
    rw [made_cons, tot_append, made_tot h k l h'.2, List.find?_cons]
    by_cases e : key x = k
    · have hn : l.find? (fun x => decide (key x = k)) = none := by
        rw [List.find?_eq_none]
        intro y hy
        simp only [decide_eq_true_eq]
        intro e2
        have := h'.1 y hy
        rw [e, e2] at this
        exact bs_irr _ this
      simp only [hn, e, decide_true]
      split
      · simp [tot, key] at *; simp [e]
      · simp [tot]
    · simp only [e, decide_false]
      split
      · have : key (x.1, h x) = key x := rfl
        simp [tot, this, e]
      · simp [tot]
theorem find_none {k : Bs} {a : List Item} (h : a.find? (fun x => decide (key x = k)) = none) : k ∉ a.map key := by
  rw [List.find?_eq_none] at h
  intro hk
  obtain ⟨x, hx, e⟩ := List.mem_map.1 hk
  exact h x hx (by simpa using e)
theorem find_some {k : Bs} {a : List Item} {x : Item} (h : a.find? (fun x => decide (key x = k)) = some x) : x ∈ a ∧ key x = k := by
  exact ⟨List.mem_of_find?_eq_some h, by simpa using List.find?_some h⟩
/-- of each good: what is made of how many there are -/
theorem made_of {h : Item → Int} {a : List Item} (ha : M a) (g : Bs → Int → Int) (hg : ∀ x ∈ a, h x = g (key x) x.2) (h0 : ∀ k, g k 0 ≤ 0) (k : Bs) : tot k (made h a) = if 0 < g k (tot k a) then g k (tot k a) else 0 := by
  rw [made_tot h k a ha.sorted]
  cases hf : a.find? (fun x => decide (key x = k)) with
  | none =>
    have := h0 k
    rw [tot_out (find_none hf)]
    simp only
    rw [if_neg (by omega)]
  | some x =>
    obtain ⟨hx, rfl⟩ := find_some hf
    simp only
    rw [tot_mem ha.sorted hx, hg x hx]

theorem eachL_made (f : Int → Int → Int) (a b : List Item) : eachL f a b = made (fun x => f x.2 (ofSum x.1 b)) a := rfl
theorem meet_M {a b : List Item} (ha : M a) (_hb : M b) : M (eachL meetF a b) := by
  rw [eachL_made]
  refine made_M ha fun x hx => ?_
  have := ha.ok x hx
  unfold meetF
  omega
theorem rest_M {a b : List Item} (ha : M a) (hb : M b) : M (eachL restF a b) := by
  rw [eachL_made]
  refine made_M ha fun x hx => ?_
  have := ha.ok x hx
  have h1 := hb.nonneg x.1.data.toList
  have h2 := hb.le x.1.data.toList
  unfold restF
  rw [hb.of, wrap_small (by omega) (by omega)]
  omega
theorem meet_tot {a b : List Item} (ha : M a) (hb : M b) (k : Bs) : tot k (eachL meetF a b) = min (tot k a) (tot k b) := by
  rw [eachL_made, made_of ha (fun k n => min n (tot k b)) (fun x hx => by unfold meetF key; rw [hb.of]) (fun k => by have := hb.nonneg k; omega)]
  have := ha.nonneg k
  have := hb.nonneg k
  split <;> omega
theorem rest_tot {a b : List Item} (ha : M a) (hb : M b) (k : Bs) : tot k (eachL restF a b) = max 0 (tot k a - tot k b) := by
  rw [eachL_made, made_of ha (fun k n => n - tot k b) (fun x hx => by
    have h1 := hb.nonneg x.1.data.toList
    have h2 := hb.le x.1.data.toList
    have := ha.ok x hx
    unfold restF key; rw [hb.of, wrap_small (by omega) (by omega)]) (fun k => by have := hb.nonneg k; omega)]
  split <;> omega
theorem rest_nil {a b : List Item} (ha : M a) (hb : M b) : eachL restF b a = [] ↔ ∀ k, tot k b ≤ tot k a := by
  constructor
  · intro h k
    have := rest_tot hb ha k
    rw [h] at this
    simp only [tot] at this
    omega
  · intro h
    refine (rest_M hb ha).ext ⟨by simp, (fun x hx => by cases hx), List.Pairwise.nil⟩ fun k => ?_
    rw [rest_tot hb ha]
    have := h k
    simp only [tot]
    omega
theorem covers_iff {a b : List Item} (ha : M a) (hb : M b) : covers a b = true ↔ ∀ k, tot k b ≤ tot k a := by
  unfold covers both
  rw [(may_iff a).2 ha, (may_iff b).2 hb]
  simp only [Bool.and_self, if_true, Bool.true_and]
  rw [← rest_nil ha hb, beq_iff_eq, List.length_eq_zero_iff]
theorem covers_eq {a b : List Item} (ha : M a) (hb : M b) (p : Prop) [Decidable p] (h : p ↔ ∀ k, tot k b ≤ tot k a) : covers a b = decide p := by
  rw [Bool.eq_iff_iff, covers_iff ha hb, decide_eq_true_eq, h]

/-! sums of lists that may be -/
theorem M.okC {l : List Item} (h : M l) : l.all okC = true := by
  rw [List.all_eq_true]
  intro x hx
  unfold It.okC
  have := h.ok x hx
  rw [this.1, Bool.true_and, countOk_iff]
  omega
theorem over_iff {l : List Item} : over l = true ↔ ∃ k, 1099511627776 < tot k l := by
  unfold over
  rw [List.any_eq_true]
  constructor
  · rintro ⟨x, _, hd⟩
    exact ⟨key x, by simpa using hd⟩
  · rintro ⟨k, hk⟩
    obtain ⟨x, hx, rfl⟩ := List.mem_map.1 (tot_pos (k := k) (l := l) (by omega))
    exact ⟨x, hx, by simpa using hk⟩
theorem normL_of {L out : List Item} (h : IsNorm L out) : normL L = out := (isNorm_normL L).unique h
theorem norm_tot {L : List Item} (h : ∀ k, 0 ≤ tot k L) (k : Bs) : tot k (normL L) = tot k L := by
  have hn := isNorm_normL L
  by_cases hk : k ∈ (normL L).map key
  · obtain ⟨x, hx, rfl⟩ := List.mem_map.1 hk
    rw [tot_mem hn.sorted hx]
    exact ((hn.has x).1 hx).2.1
  · rw [tot_out hk]
    by_cases h0 : tot k L = 0
    · exact h0.symm
    · exfalso
      refine hk (List.mem_map.2 ⟨(⟨k.toArray⟩, tot k L), (hn.has _).2 ?_, key_mk _ _⟩)
      rw [key_mk]
      have := h k
      exact ⟨tot_pos h0, rfl, by simp only; omega⟩
theorem normL_M {L : List Item} (hg : ∀ x ∈ L, good x.1 = true) (ho : ∀ k, tot k L ≤ 1099511627776) (hl : (normL L).length ≤ 16) : M (normL L) := by
  have hn := isNorm_normL L
  refine ⟨hl, fun x hx => ?_, hn.sorted⟩
  obtain ⟨h1, h2, h3⟩ := (hn.has x).1 hx
  obtain ⟨y, hy, e⟩ := List.mem_map.1 h1
  have hg1 := hg y hy
  have e1 : y.1 = x.1 := by
    have h1 := congrArg (fun z : Item => z.1) (item_eta y)
    have h2 := congrArg (fun z : Item => z.1) (item_eta x)
    simp only at h1 h2
    rw [h1, h2, e]
  rw [e1] at hg1
  have := ho (key x)
  exact ⟨hg1, by omega, by omega⟩

/-- two lists together -/
theorem plus_cases {a b : List Item} (ha : M a) (hb : M b) :
    (plusOf a b).2 = 0 → M (plusOf a b).1 ∧ ∀ k, tot k (plusOf a b).1 = tot k a + tot k b := by
  intro h
  unfold plusOf at h ⊢
  rw [(may_iff a).2 ha, (may_iff b).2 hb] at h ⊢
  simp only [Bool.and_self, if_true] at h ⊢
  have hall : (a ++ b).all okC = true := by rw [List.all_append, ha.okC, hb.okC]; rfl
  have hnn : ∀ k, 0 ≤ tot k (a ++ b) := fun k => tot_nonneg k _ hall
  unfold normRes sumsCode at h ⊢
  simp only [hall, if_true] at h ⊢
  cases hov : over (a ++ b) with
  | true => rw [hov] at h; simp at h
  | false =>
    rw [hov] at h
    simp only [Bool.false_eq_true, if_false, if_true] at h ⊢
    by_cases hl : (normL (a ++ b)).length ≤ 16
    · rw [if_pos hl] at h ⊢
      refine ⟨normL_M (fun x hx => ?_) (tot_le hov) hl, fun k => ?_⟩
      · rcases List.mem_append.1 hx with hx | hx
        · exact (ha.ok x hx).1
        · exact (hb.ok x hx).1
      · simp only
        rw [norm_tot hnn, tot_append]
    · rw [if_neg hl] at h
      simp at h
theorem plus_ok {a b c : List Item} (ha : M a) (hb : M b) (hc : M c) (h : ∀ k, tot k a + tot k b = tot k c) : plusOf a b = (c, 0) := by
  unfold plusOf
  rw [(may_iff a).2 ha, (may_iff b).2 hb]
  simp only [Bool.and_self, if_true]
  have hall : (a ++ b).all okC = true := by rw [List.all_append, ha.okC, hb.okC]; rfl
  have hnn : ∀ k, 0 ≤ tot k (a ++ b) := fun k => tot_nonneg k _ hall
  have hov : over (a ++ b) = false := by
    cases hov : over (a ++ b) with
    | false => rfl
    | true =>
      obtain ⟨k, hk⟩ := over_iff.1 hov
      rw [tot_append, h k] at hk
      have := hc.le k
      omega
  have hn : normL (a ++ b) = c := by
    refine normL_of ⟨hc.sorted, fun x => ⟨fun hx => ?_, fun ⟨h1, h2, h3⟩ => ?_⟩⟩
    · have h1 := tot_mem hc.sorted hx
      have h2 := hc.ok x hx
      rw [← h, ← tot_append] at h1
      exact ⟨tot_pos (by omega), h1.symm, by omega⟩
    · rw [tot_append, h] at h2
      obtain ⟨y, hy, e⟩ := List.mem_map.1 (tot_pos (k := key x) (l := c) (by omega))
      have := tot_mem hc.sorted hy
      rw [e, ← h2] at this
      rw [key_item x y e.symm this]
      exact hy
  unfold normRes sumsCode
  simp only [hall, hov, hn, hc.len, if_true, Bool.false_eq_true, if_false]

/-! totals -/
def sumN : List Item → Int
  | [] => 0
  | x :: l => x.2 + sumN l
theorem totSum_foldl : ∀ (l : List Item) (t : Int), (∀ x ∈ l, 0 ≤ x.2 ∧ x.2 ≤ 1099511627776) → 0 ≤ t → t + l.length * 1099511627776 ≤ 9223372036854775807 → l.foldl totStep t = t + sumN l
  | [], t, _, _, _ => by simp [sumN]
  | x :: l, t, h, h0, h1 => by
    have hx := h x (by simp)
    simp only [List.length_cons] at h1
    rw [List.foldl_cons, show totStep t x = t + x.2 from wrap_small (by omega) (by omega), totSum_foldl l _ (fun y hy => h y (by simp [hy])) (by omega) (by omega)]
    simp only [sumN]
    omega
theorem M.sum {l : List Item} (h : M l) : totSum l = sumN l := by
  have := totSum_foldl l 0 (fun x hx => by have := h.ok x hx; omega) (Int.le_refl _) (by have := h.len; omega)
  unfold totSum
  omega
def sumK (l : List Item) : List Bs → Int
  | [] => 0
  | k :: r => tot k l + sumK l r
theorem sumK_nil : ∀ ks : List Bs, sumK [] ks = 0
  | [] => rfl
  | k :: r => by simp [sumK, tot, sumK_nil r]
theorem sumK_cons (x : Item) (l : List Item) : ∀ ks : List Bs, ks.Nodup → sumK (x :: l) ks = (if key x ∈ ks then x.2 else 0) + sumK l ks
  | [], _ => by simp [sumK]
  | k :: r, h => by
    have h' := List.nodup_cons.1 h
    simp only [sumK, sumK_cons x l r h'.2, tot, List.mem_cons]
    by_cases e : key x = k
    · have hn : key x ∉ r := by rw [e]; exact h'.1
      rw [if_pos e, if_neg hn, if_pos (.inl e)]
      omega
    · rw [if_neg e]
      by_cases hr : key x ∈ r
      · rw [if_pos hr, if_pos (.inr hr)]; omega
      · rw [if_neg hr, if_neg (by simp [e, hr])]; omega
theorem sumK_eq {ks : List Bs} (h : ks.Nodup) : ∀ l : List Item, (∀ x ∈ l, key x ∈ ks) → sumK l ks = sumN l
  | [], _ => by rw [sumK_nil]; rfl
  | x :: l, hk => by
    rw [sumK_cons x l ks h, if_pos (hk x (by simp)), sumK_eq h l fun y hy => hk y (by simp [hy])]
    rfl
theorem sumK_add {a b c : List Item} (h : ∀ k, tot k c = tot k a + tot k b) : ∀ ks : List Bs, sumK c ks = sumK a ks + sumK b ks
  | [] => rfl
  | k :: r => by simp only [sumK, h, sumK_add h r]; omega
theorem sumN_add {a b c : List Item} (h : ∀ k, tot k c = tot k a + tot k b) : sumN c = sumN a + sumN b := by
  have hn : (ksOf ((a ++ b ++ c).map key)).Nodup := by
    rw [List.nodup_iff_pairwise_ne]
    refine (ksOf_sorted _).imp fun {x y} h e => ?_
    rw [e] at h
    exact bs_irr _ h
  rw [← sumK_eq hn a fun x hx => (ksOf_mem _ _).2 (List.mem_map.2 ⟨x, by simp [hx], rfl⟩), ← sumK_eq hn b fun x hx => (ksOf_mem _ _).2 (List.mem_map.2 ⟨x, by simp [hx], rfl⟩),
    ← sumK_eq hn c fun x hx => (ksOf_mem _ _).2 (List.mem_map.2 ⟨x, by simp [hx], rfl⟩), sumK_add h]
theorem sumN_bounds : ∀ (l : List Item), (∀ x ∈ l, 0 ≤ x.2 ∧ x.2 ≤ 1099511627776) → 0 ≤ sumN l ∧ sumN l ≤ l.length * 1099511627776
  | [], _ => by simp [sumN]
  | x :: l, h => by
    have := sumN_bounds l fun y hy => h y (by simp [hy])
    have := h x (by simp)
    simp only [sumN, List.length_cons]
    omega
theorem M.bounds {l : List Item} (h : M l) : 0 ≤ sumN l ∧ sumN l ≤ 17592186044416 := by
  have := sumN_bounds l fun x hx => by have := h.ok x hx; omega
  have := h.len
  omega

/-! what the laws say, in plain words -/
theorem both_of {f : Int → Int → Int} {a b : List Item} (ha : M a) (hb : M b) : both f a b = eachL f a b := by
  unfold both
  rw [(may_iff a).2 ha, (may_iff b).2 hb]
  rfl
theorem parts_plus {a b : List Item} (ha : M a) (hb : M b) : plusOf (both meetF a b) (both restF a b) = (a, 0) := by
  rw [both_of ha hb, both_of ha hb]
  refine plus_ok (meet_M ha hb) (rest_M ha hb) ha fun k => ?_
  rw [meet_tot ha hb, rest_tot ha hb]
  have := ha.nonneg k
  omega
theorem parts_minus {a b : List Item} (ha : M a) (hb : M b) (h : (plusOf a b).2 = 0) :
    minusOf (plusOf a b).1 b = (a, 0) ∧ covers (plusOf a b).1 a = true ∧ covers (plusOf a b).1 b = true ∧ totSum (plusOf a b).1 = wrap64 (totSum a + totSum b) := by
  obtain ⟨hp, ht⟩ := plus_cases ha hb h
  generalize (plusOf a b).1 = p at *
  have c1 : covers p a = true := (covers_iff hp ha).2 fun k => by rw [ht]; have := hb.nonneg k; omega
  have c2 : covers p b = true := (covers_iff hp hb).2 fun k => by rw [ht]; have := ha.nonneg k; omega
  refine ⟨?_, c1, c2, ?_⟩
  · unfold minusOf
    rw [(may_iff p).2 hp, (may_iff b).2 hb, c2, both_of hp hb]
    simp only [Bool.and_self, if_true]
    have : eachL restF p b = a := (rest_M hp hb).ext ha fun k => by
      rw [rest_tot hp hb, ht]
      have := ha.nonneg k
      omega
    rw [this]
  · rw [hp.sum, ha.sum, hb.sum, sumN_add ht]
    have := ha.bounds
    have := hb.bounds
    rw [wrap_small (by omega) (by omega)]
theorem order_refl {a : List Item} (ha : M a) : covers a a = true := (covers_iff ha ha).2 fun _ => Int.le_refl _
theorem order_trans {a b c : List Item} (ha : M a) (hb : M b) (hc : M c) (h1 : covers a b = true) (h2 : covers b c = true) : covers a c = true :=
  (covers_iff ha hc).2 fun k => Int.le_trans ((covers_iff hb hc).1 h2 k) ((covers_iff ha hb).1 h1 k)
theorem order_anti {a b : List Item} (ha : M a) (hb : M b) (h1 : covers a b = true) (h2 : covers b a = true) : a = b :=
  ha.ext hb fun k => Int.le_antisymm ((covers_iff hb ha).1 h2 k) ((covers_iff ha hb).1 h1 k)
theorem order_meet {a b : List Item} (ha : M a) (hb : M b) : covers a (both meetF a b) = true ∧ covers b (both meetF a b) = true := by
  rw [both_of ha hb]
  refine ⟨(covers_iff ha (meet_M ha hb)).2 fun k => ?_, (covers_iff hb (meet_M ha hb)).2 fun k => ?_⟩ <;> rw [meet_tot ha hb] <;> omega
end It
end Go.Proofs.Ytlhpdalfnjhokaa
