/-
  A region that draws its order, each of whose operations only reads what stands before the region, or computes, or calls what answers alike in whatever order: shown once for each operation, at the act that they all end in.
  items: the walks of each, Meet and Rest.
  items: Meet, Rest, Covers, Minus.
  count.Add.
  items: what sums makes of a list, in plain words.
  items: the walk of sums.
  items: lists in order of their goods, in plain words.
  slices.Sorted(maps.Keys(m)): the keys of a map with string keys, sorted, by the library's contracts.
  items: the walk of Norm.
  slices.Concat at items: what it hands back owns the parts, one behind the other.
  items: the walk of Plus.
  items: what lives says.
  items: lists that may be, in plain words: each is known by how many of each good it has.
  the document's answers on items: May.
  a stock of goods in plain words.
-/
import Derived.Test.YtlhpdalfnjhokaaGs1
import Derived.OrdersIn
import Derived.StringKeys
import Derived.Carry
import Derived.Test.YtlhpdalfnjhokaaLayed

set_option linter.unusedVariables false
set_option linter.unusedSimpArgs false
namespace Go.Proofs.Ytlhpdalfnjhokaa
open Go.RowKit
namespace Pu

section
variable {F : Fence} {n : Nat} {P : Program} {ops : Array Oper} {Q : Exit → Act → World → Prop} {md : Region.Mode}

/-- no operation selects or defers; what binds an operation stands ahead of it; what it looks at is written by none but operations that bind it -/
def fine (md : Region.Mode) (ops : Array Oper) : Bool :=
  (List.range ops.size).all fun i => match ops[i]? with
    | none => true
    | some o =>
      (match o.op with | .select .. => false | .defer _ => false | _ => true) &&
      (o.after.all fun e => !Region.binds md e || decide (e.on < i)) &&
      (o.looksAt ops).all fun t => (List.range ops.size).all fun j => match ops[j]? with
        | some p => p.dst != some t || o.after.any fun e => Region.binds md e && e.on == j
        | none => true

theorem fine_at (h : fine md ops = true) {i : Nat} {o : Oper} (hi : ops[i]? = some o) :
    (∀ cs b, o.op ≠ .select cs b) ∧ (∀ c, o.op ≠ .defer c) ∧ (∀ e ∈ o.after, Region.binds md e = true → e.on < i) ∧
    ∀ t ∈ o.looksAt ops, ∀ j p, ops[j]? = some p → p.dst = some t → ∃ e ∈ o.after, Region.binds md e = true ∧ e.on = j := by
  have hlt : i < ops.size := (Array.getElem?_eq_some_iff.1 hi).1
  have h1 := List.all_eq_true.1 h i (List.mem_range.2 hlt)
  simp only [hi, Bool.and_eq_true] at h1
  obtain ⟨⟨a1, a2⟩, a3⟩ := h1
  refine ⟨fun cs b e => ?_, fun c e => ?_, fun e he hb => ?_, fun t ht j p hj hd => ?_⟩
  · rw [e] at a1; cases a1
  · rw [e] at a1; cases a1
  · have := Array.all_eq_true_iff_forall_mem.1 a2 e he
    simpa [hb] using this
  · have hjl : j < ops.size := (Array.getElem?_eq_some_iff.1 hj).1
    have h2 := List.all_eq_true.1 (List.all_eq_true.1 a3 t ht) j (List.mem_range.2 hjl)
    simp only [hj, hd, Bool.or_eq_true, bne_self_eq_false, Bool.false_eq_true, false_or] at h2
    obtain ⟨e, he, hb⟩ := Array.any_eq_true'.1 h2
    simp only [Bool.and_eq_true, beq_iff_eq] at hb
    exact ⟨e, he, hb.1, hb.2⟩

/-- the act agrees with the last one wherever no operation still to come writes -/
structure Agree (ops : Array Oper) (A : Act) (listed : Array Bool) (a : Act) : Prop where
  defers : a.defers = A.defers
  size : a.tmps.size = A.tmps.size
  at' : ∀ t : Nat, (∀ j o, ops[j]? = some o → o.dst = some t → listed.getD j true = true) → a.tmps[t]? = A.tmps[t]?

theorem Agree.eval {A a : Act} {listed : Array Bool} (h : Agree ops A listed a) {o : Oper} (hl : ∀ t ∈ o.looksAt ops, ∀ j p, ops[j]? = some p → p.dst = some t → listed.getD j true = true) :
    ∀ x ∈ o.op.operands, a.eval x = A.eval x := by
  intro x hx
  cases x with
  | tmp t =>
    have : t ∈ o.looksAt ops := List.mem_append_left _ (List.mem_filterMap.2 ⟨.tmp t, by simpa using hx, rfl⟩)
    have h1 := h.at' t (hl t this)
    simp [Act.eval, h1]
  | _ => rfl

theorem Agree.wanted {A a : Act} {listed : Array Bool} (h : Agree ops A listed a) {o : Oper} (hl : ∀ t ∈ o.looksAt ops, ∀ j p, ops[j]? = some p → p.dst = some t → listed.getD j true = true) :
    Region.wanted o (yielded ops a.tmps) = Region.wanted o (yielded ops A.tmps) := by
  unfold Region.wanted
  cases hg : o.guard with
  | none => rfl
  | some gw =>
    obtain ⟨g, want⟩ := gw
    have hy : yielded ops a.tmps g = yielded ops A.tmps g := by
      unfold yielded
      cases ht : (ops[g]?).bind (·.dst) with
      | none => rfl
      | some t =>
        have : t ∈ o.looksAt ops := by simp [Oper.looksAt, hg, ht]
        simp [h.at' t (hl t this)]
    simp only [hy]

theorem Agree.put {A a : Act} {listed : Array Bool} (h : Agree ops A listed a) {i : Nat} {o : Oper} (hi : ops[i]? = some o) {v : Value} (hv : A.put o.dst v = A) :
    Agree ops A (listed.setIfInBounds i true) (a.put o.dst v) := by
  refine ⟨?_, ?_, fun t ht => ?_⟩
  · rw [← h.defers]; cases o.dst <;> rfl
  · rw [← h.size]; cases o.dst <;> simp [Act.put]
  · cases hd : o.dst with
    | none =>
      refine h.at' t fun j p hj hp => ?_
      have h1 := ht j p hj hp
      by_cases e : i = j
      · subst e; rw [hi] at hj; cases hj; rw [hd] at hp; cases hp
      · rwa [getD_set_ne true e] at h1
    | some d =>
      rw [hd] at hv
      by_cases e : d = t
      · subst e
        conv => rhs; rw [← hv]
        simp only [Act.put]
        rw [Array.getElem?_setIfInBounds_self, Array.getElem?_setIfInBounds_self, h.size]
      · simp only [Act.put]
        rw [Array.getElem?_setIfInBounds_ne e]
        refine h.at' t fun j p hj hp => ?_
        have h1 := ht j p hj hp
        by_cases e' : i = j
        · subst e'; rw [hi] at hj; cases hj; rw [hd] at hp; cases hp; exact absurd rfl e
        · rwa [getD_set_ne true e'] at h1

/-- what is asked of each operation -/
def Go (F : Fence) (n : Nat) (P : Program) (ops : Array Oper) (Inv : World → Prop) (A : Act) (l : List Oper) : Prop :=
  ∀ o ∈ l, ∀ w, Inv w → wpListIn F n P ops (fun e a' w' => e = .normal ∧ a' = A ∧ Inv w') [o] A w
theorem Go.nil {Inv : World → Prop} {A : Act} : Go F n P ops Inv A [] := fun _ h => by cases h
theorem Go.cons {Inv : World → Prop} {A : Act} {o : Oper} {l : List Oper} (h : ∀ w, Inv w → wpListIn F n P ops (fun e a' w' => e = .normal ∧ a' = A ∧ Inv w') [o] A w) (hs : Go F n P ops Inv A l) :
    Go F n P ops Inv A (o :: l) := by
  intro p hp
  rcases List.mem_cons.1 hp with rfl | hp
  · exact h
  · exact hs p hp

theorem put_self {A : Act} {d : Option Tmp} {v : Value} {ds : List Deferred} (h : ({ A with defers := ds } : Act).put d v = A) : ds = A.defers ∧ A.put d v = A := by
  have h1 : ds = A.defers := by
    have := congrArg Act.defers h
    cases d <;> simpa [Act.put] using this
  subst h1
  exact ⟨rfl, h⟩

theorem wpAnyIn_pure (hf : fine md ops = true) {Inv : World → Prop} {A : Act} (hgo : Go F n P ops Inv A ops.toList) (hQ : ∀ w, Inv w → Q .normal A w) :
    ∀ (left : List Nat) (listed : Array Bool) (a : Act) (w : World), listed.size = ops.size → left.Nodup → (∀ j, j ∈ left ↔ listed.getD j true = false) → Agree ops A listed a → Inv w →
      wpAnyIn F n P md ops Q left.length listed a w := by
  intro left
  generalize hm : left.length = m
  have hready : ∀ (left : List Nat) (listed : Array Bool), listed.size = ops.size → (∀ j, j ∈ left ↔ listed.getD j true = false) → Region.ready md ops listed = [] → left = [] := by
    intro left listed hsz hl hr
    -- the least one that is left is ready
    have : ∀ k j, j < k → listed.getD j true = false → False := by
      intro k
      induction k with
      | zero => intro j h; omega
      | succ k ih =>
        intro j hj hjl
        have hjs : j < ops.size := by
          rcases Nat.lt_or_ge j ops.size with h | h
          · exact h
          · simp [Array.getElem?_eq_none (show listed.size ≤ j by omega)] at hjl
        obtain ⟨o, ho⟩ : ∃ o, ops[j]? = some o := ⟨ops[j], by simp [hjs]⟩
        have hmem : j ∈ Region.ready md ops listed := by
          rw [mem_ready]
          refine ⟨hjl, o, ho, fun e he hb => ?_⟩
          have hlt := (fine_at hf ho).2.2.1 e he hb
          cases hx : listed.getD e.on true with
          | false => exact (ih e.on (by omega) hx).elim
          | true =>
            have hes : e.on < listed.size := by omega
            simp [hes] at hx ⊢
            exact hx
        rw [hr] at hmem
        cases hmem
    cases left with
    | nil => rfl
    | cons j l => exact (this (j + 1) j (by omega) ((hl j).1 (by simp))).elim
  have hdone : ∀ (listed : Array Bool) (a : Act), (∀ j, j ∈ ([] : List Nat) ↔ listed.getD j true = false) → Agree ops A listed a → a = A := by
    intro listed a hl ha
    have ht : a.tmps = A.tmps := by
      refine Array.ext ha.size fun t h1 h2 => ?_
      have := ha.at' t fun j o _ _ => by
        have := (hl j).2
        cases hx : listed.getD j true with
        | true => rfl
        | false => cases this hx
      simpa [h1, h2] using this
    have hd := ha.defers
    cases a; cases A
    simp only at ht hd
    rw [ht, hd]
  induction m generalizing left with
  | zero =>
    intro listed a w hsz hnd hl ha hI
    have hn : left = [] := List.length_eq_zero_iff.1 hm
    subst hn
    have hA := hdone listed a hl ha
    subst hA
    refine ⟨?_, hQ w hI⟩
    cases hr : Region.ready md ops listed with
    | nil => rfl
    | cons i rs =>
      have : i ∈ Region.ready md ops listed := by rw [hr]; simp
      have := (hl i).2 (mem_ready.1 this).1
      cases this
  | succ m ih =>
    intro listed a w hsz hnd hl ha hI
    refine ⟨fun hr => ?_, fun i hi => ?_⟩
    · rw [hready left listed hsz hl hr] at hm; simp at hm
    obtain ⟨hun, o, ho, hall⟩ := mem_ready.1 hi
    obtain ⟨f1, f2, f3, f4⟩ := fine_at hf ho
    have his : i < ops.size := (Array.getElem?_eq_some_iff.1 ho).1
    have hlook : ∀ t ∈ o.looksAt ops, ∀ j p, ops[j]? = some p → p.dst = some t → listed.getD j true = true := by
      intro t ht j p hj hp
      obtain ⟨e, he, hb, rfl⟩ := f4 t ht j p hj hp
      have h1 := hall e he hb
      have hes : e.on < listed.size := by have := (Array.getElem?_eq_some_iff.1 hj).1; omega
      simp [hes] at h1 ⊢
      exact h1
    have heval := ha.eval hlook
    have hwant := ha.wanted hlook
    have hnext : ∀ v w', A.put o.dst v = A → Inv w' → wpAnyIn F n P md ops Q m (listed.setIfInBounds i true) (a.put o.dst v) w' := by
      intro v w' hv hI'
      have hmem : i ∈ left := (hl i).2 hun
      refine ih (left.erase i) (by rw [List.length_erase_of_mem hmem, hm]; rfl) _ _ _ (by simpa using hsz) (hnd.erase i) (fun j => ?_) (ha.put ho hv) hI'
      rw [hnd.mem_erase_iff, hl j]
      by_cases e : i = j
      · subst e
        simp [show i < listed.size by omega]
      · rw [getD_set_ne true e]
        exact ⟨fun h => h.2, fun h => ⟨fun h' => e h'.symm, h⟩⟩
    have h := hgo o (List.mem_iff_getElem?.2 ⟨i, by simpa using ho⟩) w hI
    unfold wpOpIn
    simp only [ho]
    unfold wpListIn at h
    rw [hwant]
    split
    · rename_i hw
      simp only [hw, if_true] at h
      unfold Oper.wpIn at h ⊢
      rw [about_congr o w heval]
      refine ⟨h.1, ?_⟩
      have h := h.2
      rw [Oper.semAt_eq _ _ _ f2] at h ⊢
      rw [execOp_congr o f1 heval]
      generalize (execOp A.eval o).run P w = r at *
      cases r with
      | ok x w' =>
        cases x <;> simp only [Oper.uponIn] at h ⊢
        case value v => exact hnext v w' h.2.1 h.2.2
        case skip => exact hnext _ w' h.2.1 h.2.2
        case defer d =>
          have := congrArg List.length (put_self h.2.1).1
          simp at this
        case enter f args =>
          refine ⟨h.1, CallsIn.mono h.2 fun e w'' he => ?_⟩
          cases e with
          | returned v => exact hnext v w'' he.2.1 he.2.2
          | panicked c => cases he.1
          | outgrown => obtain ⟨_, _, h, _⟩ := he; cases h
        case row row args => exact ⟨h.1, RowsIn.mono h.2 fun v w'' he => hnext v w'' he.2.1 he.2.2⟩
        case round l f tmps assign body =>
          refine ⟨h.1, RoundIn.mono h.2 fun e w'' he => ?_⟩
          cases e with
          | returned v => exact hnext v w'' he.2.1 he.2.2
          | panicked c => cases he.1
          | outgrown => obtain ⟨_, _, h, _⟩ := he; cases h
      | halt x w' =>
        cases x <;> simp only [Oper.uponIn] at h ⊢
        case panic u => cases h.1
    · rename_i hw
      simp only [hw] at h
      rw [about_congr o w heval]
      exact ⟨h.1, hnext _ w h.2.2.1 h.2.2.2⟩

/-- the region, whole -/
theorem region {id : Nat} {a : Act} {w : World} (Inv : World → Prop) (A : Act) (hm : P.follows .mixedOrders = true) (hf : fine .any ops = true) (hI : Inv w.drew)
    (ha : a.defers = A.defers ∧ a.tmps.size = A.tmps.size ∧ ∀ t, t < A.tmps.size → (ops.any fun o => o.dst == some t) = false → a.tmps[t]? = A.tmps[t]?)
    (hgo : Go F n P ops Inv A ops.toList) (hQ : ∀ w, Inv w → Q .normal A w) : (Code.region id ops true).wpIn F n P Q a w := by
  refine wpIn_region_any hm ?_
  have h := wpAnyIn_pure (md := .any) (F := F) (n := n) (P := P) (Q := Q) hf hgo hQ (List.range ops.size) (Array.replicate ops.size false) a w.drew (by simp) List.nodup_range (fun j => ?_) ⟨ha.1, ha.2.1, fun t ht => ?_⟩ hI
  · rwa [List.length_range] at h
  · rw [List.mem_range]
    by_cases h : j < ops.size
    · simp [h]
    · simp [h]
  · by_cases h : t < A.tmps.size
    · refine ha.2.2 t h ?_
      rw [Bool.eq_false_iff]
      intro hx
      obtain ⟨o, ho, hd⟩ := Array.any_eq_true'.1 hx
      obtain ⟨j, hj⟩ := Array.mem_iff_getElem?.1 ho
      have := ht j o hj (by simpa using hd)
      have hjs : j < ops.size := (Array.getElem?_eq_some_iff.1 hj).1
      simp [hjs] at this
    · have h2 := ha.2.1
      rw [Array.getElem?_eq_none (by omega), Array.getElem?_eq_none (by omega)]
/-- the act after the region, slot by slot -/
def puts : List (Nat × Value) → Act → Act
  | [], a => a
  | c :: l, a => puts l (a.put (some c.1) c.2)

theorem puts_spec (ch : List (Nat × Value)) (hch : (ch.all fun c => ops.any fun o => o.dst == some c.1) = true) : ∀ a : Act,
    (puts ch a).defers = a.defers ∧ (puts ch a).tmps.size = a.tmps.size ∧ ∀ t, (ops.any fun o => o.dst == some t) = false → a.tmps[t]? = (puts ch a).tmps[t]? := by
  induction ch with
  | nil => intro a; exact ⟨rfl, rfl, fun _ _ => rfl⟩
  | cons c l ih =>
    intro a
    rw [List.all_cons, Bool.and_eq_true] at hch
    obtain ⟨h1, h2, h3⟩ := ih hch.2 (a.put (some c.1) c.2)
    refine ⟨h1, ?_, fun t ht => ?_⟩
    · rw [puts, h2]; simp [Act.put]
    · rw [puts, ← h3 t ht]
      have : c.1 ≠ t := fun e => by rw [e, ht] at hch; cases hch.1
      simp [Act.put, Array.getElem?_setIfInBounds_ne this]

theorem region_puts {id : Nat} {a : Act} {w : World} (Inv : World → Prop) (ch : List (Nat × Value)) (hm : P.follows .mixedOrders = true) (hf : fine .any ops = true)
    (hch : (ch.all fun c => ops.any fun o => o.dst == some c.1) = true) (hI : Inv w.drew)
    (hgo : Go F n P ops Inv (puts ch a) ops.toList) (hQ : ∀ w, Inv w → Q .normal (puts ch a) w) : (Code.region id ops true).wpIn F n P Q a w :=
  region Inv (puts ch a) hm hf hI (let h := puts_spec ch hch a; ⟨h.1.symm, h.2.1.symm, fun t _ ht => h.2.2 t ht⟩) hgo hQ

/-- the same outside any fence -/
def GoP (P : Program) (ops : Array Oper) (Inv : World → Prop) (A : Act) (l : List Oper) : Prop :=
  ∀ o ∈ l, ∀ w, Inv w → wpList P ops (fun e a' w' => e = .normal ∧ a' = A ∧ Inv w') [o] A w
theorem GoP.nil {Inv : World → Prop} {A : Act} : GoP P ops Inv A [] := fun _ h => by cases h
theorem GoP.cons {Inv : World → Prop} {A : Act} {o : Oper} {l : List Oper} (h : ∀ w, Inv w → wpList P ops (fun e a' w' => e = .normal ∧ a' = A ∧ Inv w') [o] A w) (hs : GoP P ops Inv A l) :
    GoP P ops Inv A (o :: l) := by
  intro p hp
  rcases List.mem_cons.1 hp with rfl | hp
  · exact h
  · exact hs p hp

theorem wpAny_pure (hf : fine md ops = true) {Inv : World → Prop} {A : Act} (hgo : GoP P ops Inv A ops.toList) (hQ : ∀ w, Inv w → Q .normal A w) :
    ∀ (left : List Nat) (listed : Array Bool) (a : Act) (w : World), listed.size = ops.size → left.Nodup → (∀ j, j ∈ left ↔ listed.getD j true = false) → Agree ops A listed a → Inv w →
      wpAny P md ops Q left.length listed a w := by
  intro left
  generalize hm : left.length = m
  have hready : ∀ (left : List Nat) (listed : Array Bool), listed.size = ops.size → (∀ j, j ∈ left ↔ listed.getD j true = false) → Region.ready md ops listed = [] → left = [] := by
    intro left listed hsz hl hr
    -- the least one that is left is ready
    have : ∀ k j, j < k → listed.getD j true = false → False := by
      intro k
      induction k with
      | zero => intro j h; omega
      | succ k ih =>
        intro j hj hjl
        have hjs : j < ops.size := by
          rcases Nat.lt_or_ge j ops.size with h | h
          · exact h
          · simp [Array.getElem?_eq_none (show listed.size ≤ j by omega)] at hjl
        obtain ⟨o, ho⟩ : ∃ o, ops[j]? = some o := ⟨ops[j], by simp [hjs]⟩
        have hmem : j ∈ Region.ready md ops listed := by
          rw [mem_ready]
          refine ⟨hjl, o, ho, fun e he hb => ?_⟩
          have hlt := (fine_at hf ho).2.2.1 e he hb
          cases hx : listed.getD e.on true with
          | false => exact (ih e.on (by omega) hx).elim
          | true =>
            have hes : e.on < listed.size := by omega
            simp [hes] at hx ⊢
            exact hx
        rw [hr] at hmem
        cases hmem
    cases left with
    | nil => rfl
    | cons j l => exact (this (j + 1) j (by omega) ((hl j).1 (by simp))).elim
  have hdone : ∀ (listed : Array Bool) (a : Act), (∀ j, j ∈ ([] : List Nat) ↔ listed.getD j true = false) → Agree ops A listed a → a = A := by
    intro listed a hl ha
    have ht : a.tmps = A.tmps := by
      refine Array.ext ha.size fun t h1 h2 => ?_
      have := ha.at' t fun j o _ _ => by
        have := (hl j).2
        cases hx : listed.getD j true with
        | true => rfl
        | false => cases this hx
      simpa [h1, h2] using this
    have hd := ha.defers
    cases a; cases A
    simp only at ht hd
    rw [ht, hd]
  induction m generalizing left with
  | zero =>
    intro listed a w hsz hnd hl ha hI
    have hn : left = [] := List.length_eq_zero_iff.1 hm
    subst hn
    have hA := hdone listed a hl ha
    subst hA
    refine ⟨?_, hQ w hI⟩
    cases hr : Region.ready md ops listed with
    | nil => rfl
    | cons i rs =>
      have : i ∈ Region.ready md ops listed := by rw [hr]; simp
      have := (hl i).2 (mem_ready.1 this).1
      cases this
  | succ m ih =>
    intro listed a w hsz hnd hl ha hI
    refine ⟨fun hr => ?_, fun i hi => ?_⟩
    · rw [hready left listed hsz hl hr] at hm; simp at hm
    obtain ⟨hun, o, ho, hall⟩ := mem_ready.1 hi
    obtain ⟨f1, f2, f3, f4⟩ := fine_at hf ho
    have his : i < ops.size := (Array.getElem?_eq_some_iff.1 ho).1
    have hlook : ∀ t ∈ o.looksAt ops, ∀ j p, ops[j]? = some p → p.dst = some t → listed.getD j true = true := by
      intro t ht j p hj hp
      obtain ⟨e, he, hb, rfl⟩ := f4 t ht j p hj hp
      have h1 := hall e he hb
      have hes : e.on < listed.size := by have := (Array.getElem?_eq_some_iff.1 hj).1; omega
      simp [hes] at h1 ⊢
      exact h1
    have heval := ha.eval hlook
    have hwant := ha.wanted hlook
    have hnext : ∀ v w', A.put o.dst v = A → Inv w' → wpAny P md ops Q m (listed.setIfInBounds i true) (a.put o.dst v) w' := by
      intro v w' hv hI'
      have hmem : i ∈ left := (hl i).2 hun
      refine ih (left.erase i) (by rw [List.length_erase_of_mem hmem, hm]; rfl) _ _ _ (by simpa using hsz) (hnd.erase i) (fun j => ?_) (ha.put ho hv) hI'
      rw [hnd.mem_erase_iff, hl j]
      by_cases e : i = j
      · subst e
        simp [show i < listed.size by omega]
      · rw [getD_set_ne true e]
        exact ⟨fun h => h.2, fun h => ⟨fun h' => e h'.symm, h⟩⟩
    have h := hgo o (List.mem_iff_getElem?.2 ⟨i, by simpa using ho⟩) w hI
    unfold wpOp
    simp only [ho]
    unfold wpList at h
    rw [hwant]
    split
    · rename_i hw
      simp only [hw, if_true] at h
      rcases h with h | ⟨_, _, _, h, _⟩
      case inr => cases h
      refine .inl ?_
      unfold Oper.wp at h ⊢
      rw [execOp_congr o f1 heval]
      generalize (execOp A.eval o).run P w = r at *
      cases r with
      | ok x w' =>
        cases x <;> simp only [Oper.upon] at h ⊢
        case value v => exact hnext v w' h.2.1 h.2.2
        case skip => exact hnext _ w' h.2.1 h.2.2
        case defer d =>
          have := congrArg List.length (put_self h.2.1).1
          simp at this
        case enter f args =>
          refine Calls.mono h fun e w'' he => ?_
          cases e with
          | returned v => exact hnext v w'' he.2.1 he.2.2
          | panicked c => cases he.1
          | outgrown => obtain ⟨_, _, h, _⟩ := he; cases h
        case row row args => exact Rows.mono h fun v w'' he => hnext v w'' he.2.1 he.2.2
      | halt x w' =>
        cases x <;> simp only [Oper.upon] at h ⊢
        case panic u => cases h.1
    · rename_i hw
      simp only [hw] at h
      exact hnext _ w h.2.1 h.2.2

theorem regionP {id : Nat} {a : Act} {w : World} (Inv : World → Prop) (ch : List (Nat × Value)) (hm : P.follows .mixedOrders = true) (hf : fine .any ops = true)
    (hch : (ch.all fun c => ops.any fun o => o.dst == some c.1) = true) (hI : Inv w.drew)
    (hgo : GoP P ops Inv (puts ch a) ops.toList) (hQ : ∀ w, Inv w → Q .normal (puts ch a) w) : (Code.region id ops true).wp P Q a w := by
  refine wp_region_any hm ?_
  have hp := puts_spec ch hch a
  have h := wpAny_pure (md := .any) (P := P) (Q := Q) hf hgo hQ (List.range ops.size) (Array.replicate ops.size false) a w.drew (by simp) List.nodup_range (fun j => ?_) ⟨hp.1.symm, hp.2.1.symm, fun t ht => ?_⟩ hI
  · rwa [List.length_range] at h
  · rw [List.mem_range]
    by_cases h : j < ops.size
    · simp [h]
    · simp [h]
  · refine hp.2.2 t ?_
    rw [Bool.eq_false_iff]
    intro hx
    obtain ⟨o, ho, hd⟩ := Array.any_eq_true'.1 hx
    obtain ⟨j, hj⟩ := Array.mem_iff_getElem?.1 ho
    have := ht j o hj (by simpa using hd)
    have hjs : j < ops.size := (Array.getElem?_eq_some_iff.1 hj).1
    simp [hjs] at this

/-! the operations walked once, in the listed order, each value found by the walk -/
def okL (ops : Array Oper) : List Oper → Bool
  | [] => true
  | o :: r =>
    (match o.op with | .select .. => false | .defer _ => false | _ => true) &&
    ((o.looksAt ops).all fun t => o.dst != some t && r.all fun p => p.dst != some t) &&
    (match o.dst with | none => true | some d => r.all fun p => p.dst != some d) && okL ops r

def Seq (P : Program) (ops : Array Oper) (Inv : World → Prop) : List Oper → Act → (Act → Prop) → Prop
  | [], a, K => K a
  | o :: r, a, K =>
    if Region.wanted o (yielded ops a.tmps) then
      ∃ v, (∀ w, Inv w → wpList P ops (fun e a' w' => e = .normal ∧ a' = a.put o.dst v ∧ Inv w') [o] a w) ∧ Seq P ops Inv r (a.put o.dst v) K
    else Seq P ops Inv r (a.put o.dst undef) K
theorem Seq.nil {Inv : World → Prop} {a : Act} {K : Act → Prop} (h : K a) : Seq P ops Inv [] a K := h
theorem Seq.skip {Inv : World → Prop} {a : Act} {K : Act → Prop} {o : Oper} {r : List Oper} (hw : Region.wanted o (yielded ops a.tmps) = false) (h : Seq P ops Inv r (a.put o.dst undef) K) : Seq P ops Inv (o :: r) a K := by
  unfold Seq
  rw [hw]
  exact h
theorem Seq.step {Inv : World → Prop} {a : Act} {K : Act → Prop} {o : Oper} {r : List Oper} (hw : Region.wanted o (yielded ops a.tmps) = true) (v : Value)
    (h1 : ∀ w, Inv w → wpList P ops (fun e a' w' => e = .normal ∧ a' = a.put o.dst v ∧ Inv w') [o] a w) (h : Seq P ops Inv r (a.put o.dst v) K) : Seq P ops Inv (o :: r) a K := by
  unfold Seq
  rw [hw]
  exact ⟨v, h1, h⟩

theorem put_same {a A : Act} {d : Option Tmp} {u v : Value} (h : a.put d u = a.put d v) (hs : a.tmps.size = A.tmps.size) (hA : A.put d v = A) : A.put d u = A := by
  cases d with
  | none => rfl
  | some d =>
    by_cases hd : d < a.tmps.size
    · have h1 := congrArg (fun b : Act => b.tmps[d]?) h
      simp only [Act.put, Array.getElem?_setIfInBounds_self, hd, if_true, Option.some.injEq] at h1
      subst h1
      exact hA
    · have hd' : A.tmps.size ≤ d := by rw [← hs]; exact Nat.le_of_not_lt hd
      simp only [Act.put]
      rw [Array.setIfInBounds_eq_of_size_le hd']
theorem put_of {A : Act} {d : Nat} {v : Value} (h : A.tmps[d]? = if d < A.tmps.size then some v else none) : A.put (some d) v = A := by
  have : A.tmps.setIfInBounds d v = A.tmps := by
    refine Array.ext (by simp) fun i h1 h2 => ?_
    by_cases e : d = i
    · subst e
      rw [if_pos h2] at h
      have : A.tmps[d] = v := by simpa [h2] using h
      simp [this]
    · simp [Array.getElem_setIfInBounds_ne h2 e]
  simp only [Act.put, this]

theorem Seq.done {Inv : World → Prop} {K : Act → Prop} : ∀ (l : List Oper) (a : Act), okL ops l = true → Seq P ops Inv l a K →
    ∃ A, K A ∧ A.defers = a.defers ∧ A.tmps.size = a.tmps.size ∧ (∀ t : Nat, (∀ o ∈ l, o.dst ≠ some t) → A.tmps[t]? = a.tmps[t]?) ∧ GoP P ops Inv A l
  | [], a, _, h => ⟨a, h, rfl, rfl, fun _ _ => rfl, GoP.nil⟩
  | o :: r, a, hok, h => by
    simp only [okL, Bool.and_eq_true] at hok
    obtain ⟨⟨⟨hop, hlk⟩, hd⟩, hr⟩ := hok
    have hlook : ∀ t ∈ o.looksAt ops, o.dst ≠ some t ∧ ∀ p ∈ r, p.dst ≠ some t := fun t ht => by
      have := List.all_eq_true.1 hlk t ht
      simp only [Bool.and_eq_true, bne_iff_ne, List.all_eq_true] at this
      exact this
    have key : ∀ v, Seq P ops Inv r (a.put o.dst v) K →
        ((∀ w, Inv w → wpList P ops (fun e a' w' => e = .normal ∧ a' = a.put o.dst v ∧ Inv w') [o] a w) ∨ (Region.wanted o (yielded ops a.tmps) = false ∧ v = undef)) →
        ∃ A, K A ∧ A.defers = a.defers ∧ A.tmps.size = a.tmps.size ∧ (∀ t : Nat, (∀ o' ∈ o :: r, o'.dst ≠ some t) → A.tmps[t]? = a.tmps[t]?) ∧ GoP P ops Inv A (o :: r) := by
      intro v hs ho
      obtain ⟨A, hK, h1, h2, h3, h4⟩ := Seq.done r (a.put o.dst v) hr hs
      have h1' : A.defers = a.defers := by rw [h1]; cases o.dst <;> rfl
      have h2' : A.tmps.size = a.tmps.size := by rw [h2]; cases o.dst <;> simp [Act.put]
      have h3' : ∀ t : Nat, (∀ o' ∈ o :: r, o'.dst ≠ some t) → A.tmps[t]? = a.tmps[t]? := fun t ht => by
        rw [h3 t fun p hp => ht p (List.mem_cons_of_mem _ hp)]
        have := ht o (by simp)
        cases hod : o.dst with
        | none => rfl
        | some d =>
          rw [hod] at this
          have hne : d ≠ t := fun e => this (by rw [e])
          simp [Act.put, Array.getElem?_setIfInBounds_ne hne]
      have hput : A.put o.dst v = A := by
        cases hod : o.dst with
        | none => rfl
        | some d =>
          rw [hod] at hd h3 h2
          refine put_of ?_
          have := h3 d fun p hp => by
            have := List.all_eq_true.1 hd p hp
            simpa using this
          rw [this, h2]
          simp only [Act.put, Array.getElem?_setIfInBounds_self, Array.size_setIfInBounds]
      have hagree : Agree ops A (Array.replicate ops.size false) A := ⟨rfl, rfl, fun _ _ => rfl⟩
      have heval : ∀ x ∈ o.op.operands, A.eval x = a.eval x := by
        intro x hx
        cases x with
        | tmp t =>
          have hm : t ∈ o.looksAt ops := List.mem_append_left _ (List.mem_filterMap.2 ⟨.tmp t, by simpa using hx, rfl⟩)
          have h5 := hlook t hm
          have := h3' t fun p hp => by
            rcases List.mem_cons.1 hp with rfl | hp
            · exact h5.1
            · exact h5.2 p hp
          simp [Act.eval, this]
        | _ => rfl
      have hwant : Region.wanted o (yielded ops A.tmps) = Region.wanted o (yielded ops a.tmps) := by
        unfold Region.wanted
        cases hg : o.guard with
        | none => rfl
        | some gw =>
          obtain ⟨g, want⟩ := gw
          have hy : yielded ops A.tmps g = yielded ops a.tmps g := by
            unfold yielded
            cases ht : (ops[g]?).bind (·.dst) with
            | none => rfl
            | some t =>
              have hm : t ∈ o.looksAt ops := by simp [Oper.looksAt, hg, ht]
              have h5 := hlook t hm
              have := h3' t fun p hp => by
                rcases List.mem_cons.1 hp with rfl | hp
                · exact h5.1
                · exact h5.2 p hp
              simp [this]
          simp only [hy]
      refine ⟨A, hK, h1', h2', h3', GoP.cons (fun w hI => ?_) h4⟩
      unfold wpList
      rw [hwant]
      rcases ho with ho | ⟨hw, rfl⟩
      case inr =>
        rw [hw]
        exact ⟨rfl, hput, hI⟩
      have ho := ho w hI
      unfold wpList at ho
      split
      · rename_i hw
        simp only [hw, if_true] at ho
        rcases ho with ho | ⟨_, _, _, ho, _⟩
        case inr => cases ho
        refine .inl ?_
        have f1 : ∀ cs b, o.op ≠ .select cs b := fun cs b e => by rw [e] at hop; cases hop
        unfold Oper.wp at ho ⊢
        rw [execOp_congr o f1 heval]
        generalize (execOp a.eval o).run P w = r at *
        have fin : ∀ u w', a.put o.dst u = a.put o.dst v → Inv w' → A.put o.dst u = A := fun u w' h _ => put_same h h2'.symm hput
        cases r with
        | ok x w' =>
          cases x <;> simp only [Oper.upon] at ho ⊢
          case value u => exact ⟨rfl, put_same ho.2.1 h2'.symm hput, ho.2.2⟩
          case skip => exact ⟨rfl, put_same ho.2.1 h2'.symm hput, ho.2.2⟩
          case defer d =>
            have := congrArg (fun b : Act => b.defers.length) ho.2.1
            cases hod : o.dst <;> simp [Act.put, hod] at this
          case enter f args =>
            refine Calls.mono ho fun e w'' he => ?_
            cases e with
            | returned u => exact ⟨rfl, put_same he.2.1 h2'.symm hput, he.2.2⟩
            | panicked c => cases he.1
            | outgrown => obtain ⟨_, _, h, _⟩ := he; cases h
          case row row args => exact Rows.mono ho fun u w'' he => ⟨rfl, put_same he.2.1 h2'.symm hput, he.2.2⟩
        | halt x w' =>
          cases x <;> simp only [Oper.upon] at ho ⊢
          case panic u => cases ho.1
      · rename_i hw
        simp only [hw] at ho
        refine ⟨rfl, ?_, hI⟩
        exact put_same ho.2.1 h2'.symm hput
    unfold Seq at h
    split at h
    · obtain ⟨v, h1, h2⟩ := h
      exact key v h2 (.inl h1)
    · rename_i hw
      exact key undef h (.inr ⟨by simpa using hw, rfl⟩)

theorem regionS {id : Nat} {a : Act} {w : World} (Inv : World → Prop) (hm : P.follows .mixedOrders = true) (hf : fine .any ops = true) (hok : okL ops ops.toList = true) (hI : Inv w.drew)
    (hs : Seq P ops Inv ops.toList a fun A => ∀ w, Inv w → Q .normal A w) : (Code.region id ops true).wp P Q a w := by
  obtain ⟨A, hK, h1, h2, h3, h4⟩ := Seq.done _ _ hok hs
  refine wp_region_any hm ?_
  have h := wpAny_pure (md := .any) (P := P) (Q := Q) hf h4 hK (List.range ops.size) (Array.replicate ops.size false) a w.drew (by simp) List.nodup_range (fun j => ?_) ⟨h1.symm, h2.symm, fun t ht => ?_⟩ hI
  · rwa [List.length_range] at h
  · rw [List.mem_range]
    by_cases h : j < ops.size
    · simp [h]
    · simp [h]
  · refine (h3 t fun o ho hd => ?_).symm
    obtain ⟨j, hj⟩ := List.mem_iff_getElem?.1 ho
    have hj : ops[j]? = some o := by simpa using hj
    have := ht j o hj hd
    have hjs : j < ops.size := (Array.getElem?_eq_some_iff.1 hj).1
    simp [hjs] at this
/-- the operations walked in the listed order, behind a name that nothing unfolds -/
structure Walk (P : Program) (ops : Array Oper) (Inv : World → Prop) (l : List Oper) (a : Act) (K : Act → Prop) : Prop where
  go : Seq P ops Inv l a K
/-- where an operation ends -/
structure Ends (A : Act) (Inv : World → Prop) (e : Exit) (a' : Act) (w' : World) : Prop where
  e : e = .normal
  a : a' = A
  i : Inv w'
theorem Ends.eq {A : Act} {Inv : World → Prop} : Ends A Inv = fun e a' w' => e = .normal ∧ a' = A ∧ Inv w' := by
  funext e a' w'
  exact propext ⟨fun h => ⟨h.e, h.a, h.i⟩, fun h => ⟨h.1, h.2.1, h.2.2⟩⟩
theorem Walk.nil {Inv : World → Prop} {a : Act} {K : Act → Prop} (h : K a) : Walk P ops Inv [] a K := ⟨h⟩
theorem Walk.skip {Inv : World → Prop} {a : Act} {K : Act → Prop} {o : Oper} {r : List Oper} (hw : Region.wanted o (yielded ops a.tmps) = false) (h : Walk P ops Inv r (a.put o.dst undef) K) : Walk P ops Inv (o :: r) a K := ⟨Seq.skip hw h.go⟩
theorem Walk.next {Inv : World → Prop} {a : Act} {K : Act → Prop} {o : Oper} {r : List Oper} (hw : Region.wanted o (yielded ops a.tmps) = true) {v : Value}
    (h1 : ∀ w, Inv w → wpList P ops (Ends (a.put o.dst v) Inv) [o] a w) (h : Walk P ops Inv r (a.put o.dst v) K) : Walk P ops Inv (o :: r) a K :=
  ⟨Seq.step hw v (fun w hI => Ends.eq ▸ h1 w hI) h.go⟩
/-- what binds an operation, read off lists -/
def asks (l : List Oper) (o : Oper) (t : List Value) : Bool :=
  match o.guard with
  | none => true
  | some (g, want) => match l[g]? with
    | some p => match p.dst with
      | some d => match t[d]? with
        | some (.bool b) => b == want
        | _ => false
      | none => false
    | none => false
theorem asks_eq (ops : Array Oper) (o : Oper) (t : Array Value) : Region.wanted o (yielded ops t) = asks ops.toList o t.toList := by
  unfold Region.wanted asks
  cases hg : o.guard with
  | none => rfl
  | some gw =>
    obtain ⟨g, want⟩ := gw
    dsimp only
    unfold yielded
    rw [← Array.getElem?_toList]
    cases ops.toList[g]? with
    | none => rfl
    | some p =>
      dsimp only [Option.bind_some]
      cases hd : p.dst with
      | none => rfl
      | some d =>
        dsimp only [Option.bind_some]
        rw [← Array.getElem?_toList]
        cases t.toList[d]? with
        | none => rfl
        | some v => cases v <;> first | rfl | (rename_i b; cases b <;> cases want <;> rfl)
theorem Walk.off {Inv : World → Prop} {a : Act} {K : Act → Prop} {o : Oper} {r : List Oper} (hw : asks ops.toList o a.tmps.toList = false) (h : Walk P ops Inv r (a.put o.dst undef) K) : Walk P ops Inv (o :: r) a K :=
  Walk.skip ((asks_eq _ _ _).trans hw) h
theorem Walk.on {Inv : World → Prop} {a : Act} {K : Act → Prop} {o : Oper} {r : List Oper} (hw : asks ops.toList o a.tmps.toList = true) {v : Value}
    (h1 : ∀ w, Inv w → wpList P ops (Ends (a.put o.dst v) Inv) [o] a w) (h : Walk P ops Inv r (a.put o.dst v) K) : Walk P ops Inv (o :: r) a K :=
  Walk.next ((asks_eq _ _ _).trans hw) h1 h
theorem regionW {id : Nat} {a : Act} {w : World} (Inv : World → Prop) (hm : P.follows .mixedOrders = true) (hf : fine .any ops = true) (hok : okL ops ops.toList = true) (hI : Inv w.drew) {l : List Oper} (hl : ops.toList = l)
    (hs : Walk P ops Inv l a fun A => ∀ w, Inv w → Q .normal A w) : (Code.region id ops true).wp P Q a w := by
  subst hl
  exact regionS Inv hm hf hok hI hs.go
end
end Pu
end Go.Proofs.Ytlhpdalfnjhokaa

namespace Go.Proofs.Ytlhpdalfnjhokaa
open Go.RowKit
namespace It
attribute [local go_sem] Oper.semAt_some

/-- what is made of each item and how many another list has, where it is above 0 -/
def eachL (f : Int → Int → Int) (a b : List Item) : List Item := a.filterMap fun x => if 0 < f x.2 (ofSum x.1 b) then some (x.1, f x.2 (ofSum x.1 b)) else none
theorem eachL_snoc (f : Int → Int → Int) (a b : List Item) (x : Item) : eachL f (a ++ [x]) b = eachL f a b ++ (if 0 < f x.2 (ofSum x.1 b) then [(x.1, f x.2 (ofSum x.1 b))] else []) := by
  unfold eachL
  rw [List.filterMap_append]
  congr 1
  simp only [List.filterMap_cons, List.filterMap_nil]
  split <;> simp_all
theorem eachL_len (f : Int → Int → Int) (a b : List Item) : (eachL f a b).length ≤ a.length := List.length_filterMap_le _ _
def meetF (a b : Int) : Int := min a b
def restF (a b : Int) : Int := wrap64 (a - b)
def both (f : Int → Int → Int) (a b : List Item) : List Item := if may a && may b then eachL f a b else []

/-- an item's type's row -/
theorem item_info : (Try.prog.info? 64).map (fun i => (i.zero, i.size, i.bytes)) = some (some (.agg #[.string ⟨#[]⟩, .int .i64 0]), 2, 24) := by kernel_rfl

theorem row_below {A B : World} {lo : Nat} {e : TypeId} {size n : Nat} {v : Value} {xs : List Value} (h : A.ownsRow lo e size v n xs) (hb : Below A.heap.size A B) : B.ownsRow lo e size v n xs := by
  refine ⟨h.1, h.2.elim Or.inl fun hx => .inr ?_⟩
  revert hx
  rintro ⟨g, cap, cur, rfl, hbg, hg, hnc⟩
  exact ⟨g, cap, cur, rfl, hbg, (hb.block g (Array.getElem?_eq_some_iff.1 hg).1).trans hg, hnc⟩

end It
end Go.Proofs.Ytlhpdalfnjhokaa

namespace Go.Proofs.Ytlhpdalfnjhokaa
open Go.RowKit
namespace It

theorem ownsRow_wide {w : World} {lo lo' : Nat} {e : TypeId} {size n : Nat} {v : Value} {xs : List Value} (h : w.ownsRow lo e size v n xs) (hl : lo' ≤ lo) : w.ownsRow lo' e size v n xs := by
  refine ⟨h.1, h.2.elim Or.inl fun hx => .inr ?_⟩
  revert hx
  rintro ⟨g, cap, cur, rfl, hbg, hg⟩
  exact ⟨g, cap, cur, rfl, Nat.le_trans hl hbg, hg⟩

/-- a has at least what b has -/
def covers (a b : List Item) : Bool := may a && may b && ((both restF b a).length == 0)

/-- the rest, and why not -/
def minusOf (a b : List Item) : List Item × Int := if may a && may b then if covers a b then (both restF a b, 0) else ([], 51) else ([], 60)

end It
end Go.Proofs.Ytlhpdalfnjhokaa

namespace Go.Proofs.Ytlhpdalfnjhokaa
open Go.RowKit
namespace It

def okTo (l : List Int) (k : Nat) : Prop := ∀ j, j < k → countOk (l.getD j 0) = true
theorem allTo_snoc {l : List Int} {k : Nat} (h : okTo l k) (h1 : countOk (l.getD k 0) = true) : okTo l (k + 1) := by
  intro j hj
  rcases Nat.lt_or_ge j k with h2 | h2
  · exact h j h2
  · have : j = k := by omega
    subst this
    exact h1

theorem countOk_iff (n : Int) : countOk n = true ↔ 0 ≤ n ∧ n ≤ 1099511627776 := by unfold countOk; simp

/-- the sum, and why not -/
def addOf (a b : Int) : Int × Int := if countOk a && countOk b then if a + b ≤ 1099511627776 then (a + b, 0) else (0, 50) else (0, 1)

end It
end Go.Proofs.Ytlhpdalfnjhokaa

namespace Go.Proofs.Ytlhpdalfnjhokaa
open Go.RowKit Go.Maps
namespace It

def key (x : Item) : List UInt8 := x.1.data.toList
def okC (x : Item) : Bool := good x.1 && countOk x.2
/-- how many of a good a list has in all -/
def tot (k : List UInt8) : List Item → Int
  | [] => 0
  | x :: l => (if key x = k then x.2 else 0) + tot k l
def over (l : List Item) : Bool := l.any fun x => decide (1099511627776 < tot (key x) l)
def sumsCode (l : List Item) : Int := if l.all okC then (if over l then 50 else 0) else 60

theorem tot_snoc (k : List UInt8) (l : List Item) (x : Item) : tot k (l ++ [x]) = tot k l + (if key x = k then x.2 else 0) := by
  induction l with
  | nil => simp [tot]
  | cons y l ih => simp only [List.cons_append, tot, ih]; omega
theorem tot_append (k : List UInt8) (l r : List Item) : tot k (l ++ r) = tot k l + tot k r := by
  induction l with
  | nil => simp [tot]
  | cons y l ih => simp only [List.cons_append, tot, ih]; omega
theorem okC_le {x : Item} (h : okC x = true) : 0 ≤ x.2 ∧ x.2 ≤ 1099511627776 := by
  unfold okC at h
  rw [Bool.and_eq_true] at h
  exact (countOk_iff _).1 h.2
theorem tot_nonneg (k : List UInt8) : ∀ (l : List Item), l.all okC = true → 0 ≤ tot k l
  | [], _ => by simp [tot]
  | x :: l, h => by
    rw [List.all_cons, Bool.and_eq_true] at h
    have h1 := tot_nonneg k l h.2
    have h2 := okC_le h.1
    simp only [tot]
    split <;> omega
theorem all_snoc (l : List Item) (x : Item) : (l ++ [x]).all okC = (l.all okC && okC x) := by simp
theorem all_prefix {p l : List Item} (h : p <+: l) (hl : l.all okC = true) : p.all okC = true := by
  obtain ⟨r, rfl⟩ := h
  rw [List.all_append, Bool.and_eq_true] at hl
  exact hl.1
theorem over_prefix {p l : List Item} (h : p <+: l) (hl : l.all okC = true) (hp : over p = true) : over l = true := by
  obtain ⟨r, rfl⟩ := h
  rw [List.all_append, Bool.and_eq_true] at hl
  obtain ⟨x, hx, hd⟩ := List.any_eq_true.1 hp
  refine List.any_eq_true.2 ⟨x, by simp [hx], ?_⟩
  rw [decide_eq_true_iff] at hd ⊢
  rw [tot_append]
  have := tot_nonneg (key x) r hl.2
  omega
theorem over_not {l : List Item} (h : over l = false) {x : Item} (hx : x ∈ l) : tot (key x) l ≤ 1099511627776 := by
  have := List.any_eq_false.1 h x hx
  simpa using this
theorem tot_out {k : List UInt8} : ∀ {l : List Item}, k ∉ l.map key → tot k l = 0
  | [], _ => rfl
  | x :: l, h => by
    rw [List.map_cons, List.mem_cons, not_or] at h
    simp only [tot]
    rw [if_neg (fun e => h.1 e.symm), tot_out h.2]
    rfl
theorem over_snoc {l : List Item} {x : Item} (h : over l = false) (hx : 0 ≤ x.2) : over (l ++ [x]) = decide (1099511627776 < tot (key x) l + x.2) := by
  rw [Bool.eq_iff_iff, decide_eq_true_iff]
  unfold over
  rw [List.any_eq_true]
  constructor
  · rintro ⟨y, hy, hd⟩
    rw [decide_eq_true_iff, tot_snoc] at hd
    by_cases e : key x = key y
    · rw [if_pos e] at hd; rw [e]; exact hd
    · rw [if_neg e] at hd
      rw [List.mem_append, List.mem_singleton] at hy
      rcases hy with hy | rfl
      · have := over_not h hy; omega
      · exact absurd rfl e
  · intro hd
    refine ⟨x, by simp, ?_⟩
    rw [decide_eq_true_iff, tot_snoc, if_pos rfl]
    exact hd
theorem tot_le {l : List Item} (h : over l = false) (k : List UInt8) : tot k l ≤ 1099511627776 := by
  by_cases hk : k ∈ l.map key
  · obtain ⟨x, hx, rfl⟩ := List.mem_map.1 hk
    exact over_not h hx
  · rw [tot_out hk]; omega

/-- the map says of each good how many there are -/
def Tells (m : List (List UInt8 × Value)) (l : List Item) : Prop := ∀ k, mGet m k = if k ∈ l.map key then some (.int .i64 (tot k l)) else none
theorem Tells.nil : Tells [] [] := fun _ => rfl
theorem Tells.put {m : List (List UInt8 × Value)} {l : List Item} (h : Tells m l) (x : Item) : Tells (mPut strK m (key x) (.int .i64 (tot (key x) l + x.2))) (l ++ [x]) := by
  intro k
  rw [tot_snoc]
  by_cases e : k = key x
  · subst e
    rw [mGet_put_same, if_pos (by simp), if_pos rfl]
  · rw [mGet_put_other _ _ _ _ e, h k, if_neg (Ne.symm e), Int.add_zero]
    have : k ∈ (l ++ [x]).map key ↔ k ∈ l.map key := by simp [e]
    by_cases hk : k ∈ l.map key
    · rw [if_pos hk, if_pos (this.2 hk)]
    · rw [if_neg hk, if_neg (fun h => hk (this.1 h))]
theorem Tells.have_ {m : List (List UInt8 × Value)} {l : List Item} (h : Tells m l) (k : List UInt8) : (mGet m k).getD (.int .i64 0) = .int .i64 (tot k l) := by
  rw [h k]
  by_cases hk : k ∈ l.map key
  · rw [if_pos hk]; rfl
  · rw [if_neg hk, tot_out hk]; rfl
end It
end Go.Proofs.Ytlhpdalfnjhokaa

namespace Go.Proofs.Ytlhpdalfnjhokaa
open Go.RowKit Go.Maps
namespace It
attribute [local go_sem] Oper.semAt_some

theorem keyedS : Keyed Try.prog 9 := string_keyed Try.underlying9
theorem zeroI (w : World) : (zeroValue 3).run Try.prog w = .ok (.int .i64 0) w := by kernel_rfl
theorem key_str {s : ByteArray} (h : s.size ≤ maxLen) : keyOf Try.prog 9 (.string s) = some (strK.lit s.data.toList) := WideMaps.keyOf_string_mk Try.underlying9 h

end It
end Go.Proofs.Ytlhpdalfnjhokaa

namespace Go.Proofs.Ytlhpdalfnjhokaa
open Go.RowKit Go.Maps
namespace It

theorem uniq {α : Type} {r : α → α → Prop} (irr : ∀ x, ¬ r x x) (asy : ∀ x y, r x y → ¬ r y x) : ∀ {a b : List α}, a.Pairwise r → b.Pairwise r → (∀ x, x ∈ a ↔ x ∈ b) → a = b
  | [], [], _, _, _ => rfl
  | [], y :: b, _, _, h => by have := (h y).2 (by simp); simp at this
  | x :: a, [], _, _, h => by have := (h x).1 (by simp); simp at this
  | x :: a, y :: b, ha, hb, h => by
    rw [List.pairwise_cons] at ha hb
    have e : x = y := by
      rcases List.mem_cons.1 ((h x).1 (by simp)) with e | h1
      · exact e
      · rcases List.mem_cons.1 ((h y).2 (by simp)) with e | h2
        · exact e.symm
        · exact absurd (hb.1 x h1) (asy _ _ (ha.1 y h2))
    subst e
    rw [uniq irr asy ha.2 hb.2 fun z => ?_]
    constructor
    · intro hz
      rcases List.mem_cons.1 ((h z).1 (List.mem_cons_of_mem _ hz)) with rfl | h1
      · exact absurd (ha.1 _ hz) (irr _)
      · exact h1
    · intro hz
      rcases List.mem_cons.1 ((h z).2 (List.mem_cons_of_mem _ hz)) with rfl | h1
      · exact absurd (hb.1 _ hz) (irr _)
      · exact h1

abbrev Bs := List UInt8
theorem bs_irr (x : Bs) : ¬ x < x := List.lt_irrefl x
theorem bs_asy (x y : Bs) (h : x < y) : ¬ y < x := List.lt_asymm h
theorem bs_tri (x y : Bs) : x < y ∨ x = y ∨ y < x := by
  by_cases h1 : x < y
  · exact .inl h1
  · by_cases h2 : y < x
    · exact .inr (.inr h2)
    · exact .inr (.inl (List.le_antisymm (List.not_lt.1 h2) (List.not_lt.1 h1)))
theorem less_eq : ∀ (x y : Bs), Op.bytesLess x y = decide (x < y)
  | [], [] => by simp [Op.bytesLess]
  | [], _ :: _ => by simp [Op.bytesLess]
  | _ :: _, [] => by simp [Op.bytesLess]
  | a :: x, b :: y => by
    rw [Op.bytesLess, less_eq x y, Bool.eq_iff_iff]
    simp only [List.cons_lt_cons_iff]
    by_cases h1 : a < b
    · simp [h1]
    · by_cases h2 : a = b
      · subst h2; simp
      · simp [h1, h2]

def insK (k : Bs) : List Bs → List Bs
  | [] => [k]
  | y :: r => if k < y then k :: y :: r else if k = y then y :: r else y :: insK k r
def ksOf (l : List Bs) : List Bs := l.foldr insK []
theorem insK_mem (k : Bs) : ∀ (l : List Bs) (x : Bs), x ∈ insK k l ↔ x = k ∨ x ∈ l
  | [], x => by simp [insK]
  | y :: r, x => by
    unfold insK
    split
    · simp
    · split
      · rename_i h; subst h; simp
      · simp only [List.mem_cons, insK_mem k r x]
        constructor
        · rintro (h | h | h) <;> simp [h]
        · rintro (h | h | h) <;> simp [h]
theorem insK_sorted (k : Bs) : ∀ {l : List Bs}, l.Pairwise (· < ·) → (insK k l).Pairwise (· < ·)
  | [], _ => by simp [insK]
  | y :: r, h => by
    have h' := List.pairwise_cons.1 h
    unfold insK
    split
    · rename_i hk
      refine List.pairwise_cons.2 ⟨fun x hx => ?_, h⟩
      rcases List.mem_cons.1 hx with rfl | hx
      · exact hk
      · exact List.lt_trans hk (h'.1 x hx)
    · split
      · exact h
      · rename_i h1 h2
        refine List.pairwise_cons.2 ⟨fun x hx => ?_, insK_sorted k h'.2⟩
        rcases (insK_mem k r x).1 hx with rfl | hx
        · rcases bs_tri x y with h | h | h
          · exact absurd h h1
          · exact absurd h h2
          · exact h
        · exact h'.1 x hx
theorem ksOf_mem (l : List Bs) (x : Bs) : x ∈ ksOf l ↔ x ∈ l := by
  induction l with
  | nil => simp [ksOf]
  | cons y l ih => unfold ksOf at ih ⊢; rw [List.foldr_cons, insK_mem, ih]; simp
theorem ksOf_sorted (l : List Bs) : (ksOf l).Pairwise (· < ·) := by
  induction l with
  | nil => simp [ksOf]
  | cons y l ih => unfold ksOf at ih ⊢; rw [List.foldr_cons]; exact insK_sorted _ ih

/-- each good once, in order, with what there is of it in all, where that is above 0 -/
def pick (L : List Item) (k : Bs) : Option Item := if 0 < tot k L then some (⟨k.toArray⟩, tot k L) else none
def normL (L : List Item) : List Item := (ksOf (L.map key)).filterMap (pick L)
theorem key_mk (k : Bs) (n : Int) : key (⟨k.toArray⟩, n) = k := by simp [key]
theorem item_eta (x : Item) : x = (⟨(key x).toArray⟩, x.2) := by
  obtain ⟨⟨⟨s⟩⟩, n⟩ := x
  rfl
structure IsNorm (L out : List Item) : Prop where
  sorted : out.Pairwise fun a b => key a < key b
  has : ∀ x, x ∈ out ↔ (key x ∈ L.map key ∧ x.2 = tot (key x) L ∧ 0 < x.2)
theorem pick_some {L : List Item} {k : Bs} {x : Item} (h : pick L k = some x) : key x = k ∧ x.2 = tot k L ∧ 0 < x.2 := by
  unfold pick at h
  split at h
  · cases h; exact ⟨key_mk _ _, rfl, by assumption⟩
  · cases h
theorem isNorm_normL (L : List Item) : IsNorm L (normL L) := by
  refine ⟨?_, fun x => ?_⟩
  · unfold normL
    rw [List.pairwise_filterMap]
    refine (ksOf_sorted (L.map key)).imp_of_mem fun {a b} _ _ h x hx y hy => ?_
    rw [(pick_some hx).1, (pick_some hy).1]
    exact h
  · unfold normL
    rw [List.mem_filterMap]
    constructor
    · rintro ⟨k, hk, hx⟩
      obtain ⟨rfl, h2, h3⟩ := pick_some hx
      exact ⟨(ksOf_mem _ _).1 hk, h2, h3⟩
    · rintro ⟨h1, h2, h3⟩
      refine ⟨key x, (ksOf_mem _ _).2 h1, ?_⟩
      unfold pick
      rw [← h2, if_pos h3, ← item_eta]
theorem IsNorm.unique {L a b : List Item} (ha : IsNorm L a) (hb : IsNorm L b) : a = b :=
  uniq (r := fun a b : Item => key a < key b) (fun _ => bs_irr _) (fun _ _ => bs_asy _ _) ha.sorted hb.sorted fun x => by rw [ha.has, hb.has]
/-- the normal list, and why there is none -/
def normRes (L : List Item) : List Item × Int := if sumsCode L = 0 then (if (normL L).length ≤ 16 then (normL L, 0) else ([], 3)) else ([], sumsCode L)
end It
end Go.Proofs.Ytlhpdalfnjhokaa

namespace Go.Proofs.Ytlhpdalfnjhokaa
open Go.RowKit Go.Maps Go.Sort Go.Shelf
namespace Ks

theorem sorts (m : Nat) : AnyZ.SortsIn Try.prog Try.sorted27_ren Fence.wide m :=
  ⟨fun blk off cap ss W hH hblk hsz => callsIn_wide.2 (AnyM.slices_Sort_string Try.sort48 blk off cap ss W hH hblk hsz),
   fun p cap W => callsIn_wide.2 (AnyM.slices_Sort_string_none Try.sort48 p cap W)⟩

end Ks
end Go.Proofs.Ytlhpdalfnjhokaa

namespace Go.Proofs.Ytlhpdalfnjhokaa
open Go.RowKit Go.Maps Go.Sort
namespace It

theorem mem_keys {m : List (Bs × Value)} {k : Bs} : k ∈ m.map (·.1) ↔ (mGet m k).isSome = true := by
  unfold mGet
  rw [Option.isSome_map, List.find?_isSome, List.mem_map]
  simp
theorem keys_eq {m : List (Bs × Value)} {ss : List Bs} {L : List Item} (hT : Tells m L) (hs : m.Pairwise (fun p q => strK.lt p.1 q.1 = true)) (hp : ss.Perm (m.map (·.1))) :
    ss.mergeSort (fun x y => decide (x ≤ y)) = ksOf (L.map key) := by
  have hpm := (List.mergeSort_perm ss (fun x y => decide (x ≤ y))).trans hp
  refine uniq bs_irr bs_asy ?_ (ksOf_sorted _) fun x => ?_
  · have h1 : (ss.mergeSort (fun x y => decide (x ≤ y))).Pairwise (fun a b => decide (a ≤ b) = true) :=
      List.pairwise_mergeSort (fun a b c h1 h2 => by simp only [decide_eq_true_eq] at *; exact List.le_trans h1 h2) (fun a b => by simp only [Bool.or_eq_true, decide_eq_true_eq]; exact List.le_total a b) ss
    have h2 : (ss.mergeSort (fun x y => decide (x ≤ y))).Nodup := by
      rw [hpm.nodup_iff, List.nodup_iff_pairwise_ne, List.pairwise_map]
      refine hs.imp_of_mem fun {p q} _ _ h e => ?_
      rw [e] at h
      rw [show strK.lt q.1 q.1 = bytesBefore q.1 q.1 from rfl, WideAt.bytes_irrefl] at h
      cases h
    refine (h1.and (List.nodup_iff_pairwise_ne.1 h2)).imp_of_mem fun {a b} _ _ h => ?_
    simp only [decide_eq_true_eq] at h
    rcases bs_tri a b with h3 | h3 | h3
    · exact h3
    · exact absurd h3 h.2
    · exact absurd h3 (List.not_lt.2 h.1)
  · rw [hpm.mem_iff, mem_keys, hT x, ksOf_mem]
    by_cases hx : x ∈ L.map key <;> simp [hx]
theorem strKeys_mEs (m : List (Bs × Value)) : strKeys (DataW.map (mEs strK m)) = m.map (·.1) := by
  simp [strKeys, mEs, Function.comp_def, strOf, strK]
theorem normL_len (L : List Item) : (normL L).length ≤ (ksOf (L.map key)).length := List.length_filterMap_le _ _
def outTo (L : List Item) (k : Nat) : List Item := ((ksOf (L.map key)).take k).filterMap (pick L)
theorem outTo_len (L : List Item) (k : Nat) : (outTo L k).length ≤ k := Nat.le_trans (List.length_filterMap_le _ _) (by rw [List.length_take]; omega)
theorem outTo_succ (L : List Item) (k : Nat) (h : k < (ksOf (L.map key)).length) : outTo L (k + 1) = outTo L k ++ (if 0 < tot ((ksOf (L.map key)).getD k []) L then [(⟨((ksOf (L.map key)).getD k []).toArray⟩, tot ((ksOf (L.map key)).getD k []) L)] else []) := by
  have hg : (ksOf (L.map key)).getD k [] = (ksOf (L.map key))[k] := by simp [h]
  unfold outTo
  rw [List.take_add_one, List.getElem?_eq_getElem h, List.filterMap_append, hg]
  congr 1
  simp only [Option.toList_some, List.filterMap_cons, List.filterMap_nil, pick]
  split <;> simp_all
theorem outTo_all (L : List Item) : outTo L (ksOf (L.map key)).length = normL L := by unfold outTo normL; rw [List.take_length]

end It
end Go.Proofs.Ytlhpdalfnjhokaa

namespace Go.Proofs.Ytlhpdalfnjhokaa
open Go.RowKit Go.Shelf
namespace CatI

/-- a part: its address, length, capacity, cells -/
abbrev Part := Option Addr × Nat × Nat × List Value
def pv (p : Part) : Value := .slice p.1 p.2.1 p.2.2.1
def lens : List Part → Nat
  | [] => 0
  | p :: r => p.2.1 + lens r
def all (l : List Part) : List Value := (l.map (·.2.2.2)).flatten
theorem lens_le (l : List Part) (k : Nat) : lens (l.take k) ≤ lens l := by
  induction l generalizing k with
  | nil => simp [lens]
  | cons p r ih =>
    cases k with
    | zero => simp [lens]
    | succ k => simp only [List.take_succ_cons, lens]; have := ih k; omega
theorem lens_succ (l : List Part) (k : Nat) (h : k < l.length) : lens (l.take (k + 1)) = lens (l.take k) + l[k].2.1 := by
  induction l generalizing k with
  | nil => simp at h
  | cons p r ih =>
    cases k with
    | zero => simp [lens]
    | succ k => simp only [List.take_succ_cons, lens, List.getElem_cons_succ]; rw [ih k (by simpa using h)]; omega
theorem all_succ (l : List Part) (k : Nat) (h : k < l.length) : all (l.take (k + 1)) = all (l.take k) ++ l[k].2.2.2 := by
  unfold all
  induction l generalizing k with
  | nil => simp at h
  | cons p r ih =>
    cases k with
    | zero => simp
    | succ k =>
      simp only [List.take_succ_cons, List.map_cons, List.flatten_cons, List.getElem_cons_succ, List.append_assoc]
      rw [ih k (by simpa using h)]

/-- the parts lie in memory -/
structure Parts (w : World) (B : Nat) (l : List Part) : Prop where
  sl : ∀ p ∈ l, Sl w 0 B 2 (pv p) p.2.1 p.2.2.2
  one : ∀ p ∈ l, ∀ y ∈ p.2.2.2, y.oneCell' = true

end CatI
end Go.Proofs.Ytlhpdalfnjhokaa

namespace Go.Proofs.Ytlhpdalfnjhokaa
open Go.RowKit Go.Maps
namespace It

def plusOf (a b : List Item) : List Item × Int := if may a && may b then normRes (a ++ b) else ([], 60)
theorem may_len {l : List Item} (h : may l = true) : l.length ≤ 16 := by
  unfold may at h
  rw [Bool.and_eq_true, decide_eq_true_iff] at h
  exact h.2
theorem Fits.append {a b : List Item} (ha : Fits a) (hb : Fits b) : Fits (a ++ b) := fun x hx => (List.mem_append.1 hx).elim (ha x) (hb x)

end It
end Go.Proofs.Ytlhpdalfnjhokaa

namespace Go.Proofs.Ytlhpdalfnjhokaa
open Go.RowKit Go.Maps
namespace It

def sa : ByteArray := ⟨#[97]⟩
def sb : ByteArray := ⟨#[98]⟩
def sc : ByteArray := ⟨#[99]⟩
def la : List Item := [(sa, 3), (sb, 2)]
def lb : List Item := [(sa, 1), (sc, 5)]
theorem l_meet : both meetF la lb = [(sa, 1)] := by kernel_rfl
theorem l_rest : both restF la lb = [(sa, 2), (sb, 2)] := by kernel_rfl
theorem l_plus : plusOf la lb = ([(sa, 4), (sb, 2), (sc, 5)], 0) := by kernel_rfl
theorem l_minus : minusOf la lb = ([], 51) := by kernel_rfl
theorem l_covers : covers la [(sa, 1)] = true := by kernel_rfl
theorem l_of : ofSum sb la = 2 := by kernel_rfl
theorem l_may : may la = true := by kernel_rfl
theorem fitsA : Fits la := by
  intro x hx
  simp only [la, List.mem_cons, List.not_mem_nil, or_false] at hx
  rcases hx with rfl | rfl <;> exact ⟨by simp [sa, sb, ByteArray.size, maxLen], by omega, by omega⟩
theorem fitsB : Fits lb := by
  intro x hx
  simp only [lb, List.mem_cons, List.not_mem_nil, or_false] at hx
  rcases hx with rfl | rfl <;> exact ⟨by simp [sa, sc, ByteArray.size, maxLen], by omega, by omega⟩
theorem fitsM : Fits [(sa, 1)] := by
  intro x hx
  simp only [List.mem_cons, List.not_mem_nil, or_false] at hx
  rcases hx with rfl
  exact ⟨by simp [sa, ByteArray.size, maxLen], by omega, by omega⟩

theorem neq_nil (b : Nat) (w : World) : (binOp .neq 90 (.func (.func 60) #[] #[.pointer (some ⟨b, 0, none⟩)]) .nilFunc).run Try.prog w = .ok (.bool true) w := by kernel_rfl

end It
end Go.Proofs.Ytlhpdalfnjhokaa

namespace Go.Proofs.Ytlhpdalfnjhokaa
open Go.RowKit Go.Maps
namespace It

theorem toList_key (s : ByteArray) : s.toList = s.data.toList := ByteArray.toList_eq s
theorem strLe_eq (a b : ByteArray) : strLe a b = !(Op.bytesLess b.toList a.toList) := by
  unfold strLe
  rw [less_eq, less_eq, Bool.eq_iff_iff]
  simp only [Bool.or_eq_true, decide_eq_true_eq, beq_iff_eq, Bool.not_eq_true', decide_eq_false_iff_not]
  constructor
  · rintro (h | h) h2
    · exact bs_asy _ _ h h2
    · rw [h] at h2; exact bs_irr _ h2
  · intro h
    rcases bs_tri a.toList b.toList with h1 | h1 | h1
    · exact .inl h1
    · exact .inr h1
    · exact absurd h1 h

def okI (x : Item) : Bool := good x.1 && decide (1 ≤ x.2) && countOk x.2
theorem okItem_eq (x : Item) (last : ByteArray) : okItem x last = (okI x && decide (last.data.toList < key x)) := by
  unfold okItem okI key
  rw [strLe_eq, Bool.not_not, less_eq, toList_key, toList_key]
theorem mayTo_iff : ∀ (l : List Item) (last : ByteArray), mayTo last l = true ↔ (∀ x ∈ l, okI x = true) ∧ (last.data.toList :: l.map key).Pairwise (· < ·)
  | [], last => by simp [mayTo]
  | x :: r, last => by
    simp only [mayTo, okItem_eq, Bool.and_eq_true, mayTo_iff r x.1, decide_eq_true_eq, List.map_cons]
    rw [show x.1.data.toList = key x from rfl]
    simp only [List.pairwise_cons, List.mem_cons, List.mem_map, forall_eq_or_imp]
    constructor
    · rintro ⟨⟨h1, h2⟩, h3, h4, h5⟩
      refine ⟨⟨h1, h3⟩, ⟨h2, fun a ha => List.lt_trans h2 (h4 a ha)⟩, h4, h5⟩
    · rintro ⟨⟨h1, h3⟩, ⟨h2, _⟩, h4, h5⟩
      exact ⟨⟨h1, h2⟩, h3, h4, h5⟩

/-- a list that may be -/
structure M (l : List Item) : Prop where
  len : l.length ≤ 16
  ok : ∀ x ∈ l, good x.1 = true ∧ 1 ≤ x.2 ∧ x.2 ≤ 1099511627776
  sorted : l.Pairwise fun a b => key a < key b
theorem good_key {x : Item} (h : good x.1 = true) : [] < key x := by
  unfold good at h
  simp only [Bool.and_eq_true, decide_eq_true_eq] at h
  have h1 := h.1.2
  unfold key
  rw [← ByteArray.size_data] at h1
  have h2 : x.1.data.toList.length = x.1.data.size := by simp
  match hl : x.1.data.toList with
  | [] => rw [hl] at h2; simp at h2; omega
  | c :: r => simp
theorem okI_iff (x : Item) : okI x = true ↔ good x.1 = true ∧ 1 ≤ x.2 ∧ x.2 ≤ 1099511627776 := by
  unfold okI
  simp only [Bool.and_eq_true, decide_eq_true_eq, countOk_iff]
  constructor
  · rintro ⟨⟨h1, h2⟩, h3⟩; exact ⟨h1, h2, h3.2⟩
  · rintro ⟨h1, h2, h3⟩; exact ⟨⟨h1, h2⟩, by omega, h3⟩
theorem may_iff (l : List Item) : may l = true ↔ M l := by
  unfold may
  rw [Bool.and_eq_true, decide_eq_true_eq, mayTo_iff]
  constructor
  · rintro ⟨⟨h1, h2⟩, h3⟩
    refine ⟨h3, fun x hx => (okI_iff x).1 (h1 x hx), ?_⟩
    have := (List.pairwise_cons.1 h2).2
    rwa [List.pairwise_map] at this
  · rintro ⟨h1, h2, h3⟩
    refine ⟨⟨fun x hx => (okI_iff x).2 (h2 x hx), List.pairwise_cons.2 ⟨fun k hk => ?_, ?_⟩⟩, h1⟩
    · obtain ⟨x, hx, rfl⟩ := List.mem_map.1 hk
      exact good_key (h2 x hx).1
    · rw [List.pairwise_map]; exact h3

theorem key_item (x : Item) : ∀ y : Item, key x = key y → x.2 = y.2 → x = y := fun y h1 h2 => by
  rw [item_eta x, item_eta y, h1, h2]
theorem tot_mem {l : List Item} (h : l.Pairwise fun a b => key a < key b) {x : Item} (hx : x ∈ l) : tot (key x) l = x.2 := by
  induction l with
  | nil => cases hx
  | cons y r ih =>
    have h' := List.pairwise_cons.1 h
    simp only [tot]
    rcases List.mem_cons.1 hx with rfl | hx
    · rw [if_pos rfl, tot_out, Int.add_zero]
      intro hk
      obtain ⟨z, hz, e⟩ := List.mem_map.1 hk
      have := h'.1 z hz
      rw [e] at this
      exact bs_irr _ this
    · rw [ih h'.2 hx, if_neg, Int.zero_add]
      intro e
      have := h'.1 x hx
      rw [e] at this
      exact bs_irr _ this
theorem tot_pos {k : Bs} {l : List Item} (h : tot k l ≠ 0) : k ∈ l.map key := Decidable.byContradiction fun hk => h (tot_out hk)
theorem M.nonneg {l : List Item} (h : M l) (k : Bs) : 0 ≤ tot k l := by
  by_cases hk : k ∈ l.map key
  · obtain ⟨x, hx, rfl⟩ := List.mem_map.1 hk
    rw [tot_mem h.sorted hx]
    have := h.ok x hx; omega
  · rw [tot_out hk]; omega
theorem M.le {l : List Item} (h : M l) (k : Bs) : tot k l ≤ 1099511627776 := by
  by_cases hk : k ∈ l.map key
  · obtain ⟨x, hx, rfl⟩ := List.mem_map.1 hk
    rw [tot_mem h.sorted hx]
    have := h.ok x hx; omega
  · rw [tot_out hk]; omega
theorem M.norm {a b : List Item} (hb : b.Pairwise fun a b => key a < key b) (hp : ∀ x ∈ b, 0 < x.2) (hk : ∀ k, tot k a = tot k b) : IsNorm a b := by
  refine ⟨hb, fun x => ⟨fun hx => ?_, fun ⟨h1, h2, h3⟩ => ?_⟩⟩
  · have h1 := tot_mem hb hx
    have h2 := hp x hx
    rw [← hk] at h1
    exact ⟨tot_pos (by omega), h1.symm, h2⟩
  · rw [hk] at h2
    obtain ⟨y, hy, e⟩ := List.mem_map.1 (tot_pos (k := key x) (l := b) (by omega))
    have := tot_mem hb hy
    rw [e, ← h2] at this
    rw [key_item x y e.symm this]
    exact hy
theorem M.ext {a b : List Item} (ha : M a) (hb : M b) (hk : ∀ k, tot k a = tot k b) : a = b :=
  (M.norm ha.sorted (fun x hx => by have := ha.ok x hx; omega) (fun _ => rfl)).unique (M.norm hb.sorted (fun x hx => by have := hb.ok x hx; omega) hk)

/-! Of, as a sum -/
theorem wrap_small {n : Int} (h1 : -9223372036854775808 ≤ n) (h2 : n ≤ 9223372036854775807) : wrap64 n = n := by unfold wrap64; omega
theorem ofStep_key (s : ByteArray) (t : Int) (x : Item) : ofStep s t x = if key x = s.data.toList then wrap64 (t + x.2) else t := by
  unfold ofStep key
  rw [toList_key, toList_key]
  by_cases h : x.1.data.toList = s.data.toList
  · rw [if_pos (by simpa using h), if_pos h]
  · rw [if_neg (by simpa using h), if_neg h]
theorem ofSum_foldl (s : ByteArray) : ∀ (l : List Item) (t : Int), (∀ x ∈ l, 0 ≤ x.2 ∧ x.2 ≤ 1099511627776) → 0 ≤ t → t + l.length * 1099511627776 ≤ 9223372036854775807 → l.foldl (ofStep s) t = t + tot s.data.toList l
  | [], t, _, _, _ => by simp [tot]
  | x :: l, t, h, h0, h1 => by
    have hx := h x (by simp)
    simp only [List.length_cons] at h1
    rw [List.foldl_cons, ofStep_key]
    simp only [tot]
    by_cases e : key x = s.data.toList
    · rw [if_pos e, if_pos e, wrap_small (by omega) (by omega), ofSum_foldl s l _ (fun y hy => h y (by simp [hy])) (by omega) (by omega)]
      omega
    · rw [if_neg e, if_neg e, ofSum_foldl s l _ (fun y hy => h y (by simp [hy])) h0 (by omega)]
      omega
theorem M.of {l : List Item} (h : M l) (s : ByteArray) : ofSum s l = tot s.data.toList l := by
  have := ofSum_foldl s l 0 (fun x hx => by have := h.ok x hx; omega) (Int.le_refl _) (by have := h.len; omega)
  unfold ofSum
  omega

/-! what is made of each item of a list -/
def made (h : Item → Int) (a : List Item) : List Item := a.filterMap fun x => if 0 < h x then some (x.1, h x) else none
theorem made_nil (h : Item → Int) : made h [] = [] := rfl
theorem made_cons (h : Item → Int) (x : Item) (l : List Item) : made h (x :: l) = (if 0 < h x then [(x.1, h x)] else []) ++ made h l := by
  unfold made
  rw [List.filterMap_cons]
  split <;> rename_i e <;> split at e <;> simp_all
theorem made_mem {h : Item → Int} {a : List Item} {y : Item} (hy : y ∈ made h a) : ∃ x ∈ a, key x = key y ∧ x.1 = y.1 ∧ y.2 = h x ∧ 0 < h x := by
  unfold made at hy
  obtain ⟨x, hx, e⟩ := List.mem_filterMap.1 hy
  split at e
  · cases e; exact ⟨x, hx, rfl, rfl, rfl, by assumption⟩
  · cases e
theorem made_sorted {h : Item → Int} {a : List Item} (ha : a.Pairwise fun a b => key a < key b) : (made h a).Pairwise fun a b => key a < key b := by
  unfold made
  rw [List.pairwise_filterMap]
  refine ha.imp fun {x y} hxy u hu v hv => ?_
  split at hu <;> cases hu
  split at hv <;> cases hv
  exact hxy
theorem made_M {h : Item → Int} {a : List Item} (ha : M a) (hh : ∀ x ∈ a, h x ≤ 1099511627776) : M (made h a) := by
  refine ⟨Nat.le_trans (List.length_filterMap_le _ _) ha.len, fun y hy => ?_, made_sorted ha.sorted⟩
  obtain ⟨x, hx, _, e, e2, h3⟩ := made_mem hy
  have := hh x hx
  rw [← e, e2]
  exact ⟨(ha.ok x hx).1, by omega, this⟩
theorem made_tot (h : Item → Int) (k : Bs) : ∀ (a : List Item), a.Pairwise (fun a b => key a < key b) → tot k (made h a) = match a.find? (fun x => decide (key x = k)) with | some x => (if 0 < h x then h x else 0) | none => 0
  | [], _ => rfl
  | x :: l, ha => by
    have h' := List.pairwise_cons.1 ha
    rw [made_cons, tot_append, made_tot h k l h'.2, List.find?_cons]
    by_cases e : key x = k
    · have hn : l.find? (fun x => decide (key x = k)) = none := by
        rw [List.find?_eq_none]
        intro y hy
        simp only [decide_eq_true_eq]
        intro e2
        have := h'.1 y hy
        rw [e, e2] at this
        exact bs_irr _ this
      simp only [hn, e, decide_true]
      split
      · simp [tot, key] at *; simp [e]
      · simp [tot]
    · simp only [e, decide_false]
      split
      · have : key (x.1, h x) = key x := rfl
        simp [tot, this, e]
      · simp [tot]
theorem find_none {k : Bs} {a : List Item} (h : a.find? (fun x => decide (key x = k)) = none) : k ∉ a.map key := by
  rw [List.find?_eq_none] at h
  intro hk
  obtain ⟨x, hx, e⟩ := List.mem_map.1 hk
  exact h x hx (by simpa using e)
theorem find_some {k : Bs} {a : List Item} {x : Item} (h : a.find? (fun x => decide (key x = k)) = some x) : x ∈ a ∧ key x = k := by
  exact ⟨List.mem_of_find?_eq_some h, by simpa using List.find?_some h⟩
/-- of each good: what is made of how many there are -/
theorem made_of {h : Item → Int} {a : List Item} (ha : M a) (g : Bs → Int → Int) (hg : ∀ x ∈ a, h x = g (key x) x.2) (h0 : ∀ k, g k 0 ≤ 0) (k : Bs) : tot k (made h a) = if 0 < g k (tot k a) then g k (tot k a) else 0 := by
  rw [made_tot h k a ha.sorted]
  cases hf : a.find? (fun x => decide (key x = k)) with
  | none =>
    have := h0 k
    rw [tot_out (find_none hf)]
    simp only
    rw [if_neg (by omega)]
  | some x =>
    obtain ⟨hx, rfl⟩ := find_some hf
    simp only
    rw [tot_mem ha.sorted hx, hg x hx]

theorem eachL_made (f : Int → Int → Int) (a b : List Item) : eachL f a b = made (fun x => f x.2 (ofSum x.1 b)) a := rfl
theorem meet_M {a b : List Item} (ha : M a) (_hb : M b) : M (eachL meetF a b) := by
  rw [eachL_made]
  refine made_M ha fun x hx => ?_
  have := ha.ok x hx
  unfold meetF
  omega
theorem rest_M {a b : List Item} (ha : M a) (hb : M b) : M (eachL restF a b) := by
  rw [eachL_made]
  refine made_M ha fun x hx => ?_
  have := ha.ok x hx
  have h1 := hb.nonneg x.1.data.toList
  have h2 := hb.le x.1.data.toList
  unfold restF
  rw [hb.of, wrap_small (by omega) (by omega)]
  omega
theorem meet_tot {a b : List Item} (ha : M a) (hb : M b) (k : Bs) : tot k (eachL meetF a b) = min (tot k a) (tot k b) := by
  rw [eachL_made, made_of ha (fun k n => min n (tot k b)) (fun x hx => by unfold meetF key; rw [hb.of]) (fun k => by have := hb.nonneg k; omega)]
  have := ha.nonneg k
  have := hb.nonneg k
  split <;> omega
theorem rest_tot {a b : List Item} (ha : M a) (hb : M b) (k : Bs) : tot k (eachL restF a b) = max 0 (tot k a - tot k b) := by
  rw [eachL_made, made_of ha (fun k n => n - tot k b) (fun x hx => by
    have h1 := hb.nonneg x.1.data.toList
    have h2 := hb.le x.1.data.toList
    have := ha.ok x hx
    unfold restF key; rw [hb.of, wrap_small (by omega) (by omega)]) (fun k => by have := hb.nonneg k; omega)]
  split <;> omega
theorem rest_nil {a b : List Item} (ha : M a) (hb : M b) : eachL restF b a = [] ↔ ∀ k, tot k b ≤ tot k a := by
  constructor
  · intro h k
    have := rest_tot hb ha k
    rw [h] at this
    simp only [tot] at this
    omega
  · intro h
    refine (rest_M hb ha).ext ⟨by simp, (fun x hx => by cases hx), List.Pairwise.nil⟩ fun k => ?_
    rw [rest_tot hb ha]
    have := h k
    simp only [tot]
    omega
theorem covers_iff {a b : List Item} (ha : M a) (hb : M b) : covers a b = true ↔ ∀ k, tot k b ≤ tot k a := by
  unfold covers both
  rw [(may_iff a).2 ha, (may_iff b).2 hb]
  simp only [Bool.and_self, if_true, Bool.true_and]
  rw [← rest_nil ha hb, beq_iff_eq, List.length_eq_zero_iff]
theorem covers_eq {a b : List Item} (ha : M a) (hb : M b) (p : Prop) [Decidable p] (h : p ↔ ∀ k, tot k b ≤ tot k a) : covers a b = decide p := by
  rw [Bool.eq_iff_iff, covers_iff ha hb, decide_eq_true_eq, h]

/-! sums of lists that may be -/
theorem M.okC {l : List Item} (h : M l) : l.all okC = true := by
  rw [List.all_eq_true]
  intro x hx
  unfold It.okC
  have := h.ok x hx
  rw [this.1, Bool.true_and, countOk_iff]
  omega
theorem over_iff {l : List Item} : over l = true ↔ ∃ k, 1099511627776 < tot k l := by
  unfold over
  rw [List.any_eq_true]
  constructor
  · rintro ⟨x, _, hd⟩
    exact ⟨key x, by simpa using hd⟩
  · rintro ⟨k, hk⟩
    obtain ⟨x, hx, rfl⟩ := List.mem_map.1 (tot_pos (k := k) (l := l) (by omega))
    exact ⟨x, hx, by simpa using hk⟩
theorem normL_of {L out : List Item} (h : IsNorm L out) : normL L = out := (isNorm_normL L).unique h
theorem norm_tot {L : List Item} (h : ∀ k, 0 ≤ tot k L) (k : Bs) : tot k (normL L) = tot k L := by
  have hn := isNorm_normL L
  by_cases hk : k ∈ (normL L).map key
  · obtain ⟨x, hx, rfl⟩ := List.mem_map.1 hk
    rw [tot_mem hn.sorted hx]
    exact ((hn.has x).1 hx).2.1
  · rw [tot_out hk]
    by_cases h0 : tot k L = 0
    · exact h0.symm
    · exfalso
      refine hk (List.mem_map.2 ⟨(⟨k.toArray⟩, tot k L), (hn.has _).2 ?_, key_mk _ _⟩)
      rw [key_mk]
      have := h k
      exact ⟨tot_pos h0, rfl, by simp only; omega⟩
theorem normL_M {L : List Item} (hg : ∀ x ∈ L, good x.1 = true) (ho : ∀ k, tot k L ≤ 1099511627776) (hl : (normL L).length ≤ 16) : M (normL L) := by
  have hn := isNorm_normL L
  refine ⟨hl, fun x hx => ?_, hn.sorted⟩
  obtain ⟨h1, h2, h3⟩ := (hn.has x).1 hx
  obtain ⟨y, hy, e⟩ := List.mem_map.1 h1
  have hg1 := hg y hy
  have e1 : y.1 = x.1 := by
    have h1 := congrArg (fun z : Item => z.1) (item_eta y)
    have h2 := congrArg (fun z : Item => z.1) (item_eta x)
    simp only at h1 h2
    rw [h1, h2, e]
  rw [e1] at hg1
  have := ho (key x)
  exact ⟨hg1, by omega, by omega⟩

/-- two lists together -/
theorem plus_cases {a b : List Item} (ha : M a) (hb : M b) :
    (plusOf a b).2 = 0 → M (plusOf a b).1 ∧ ∀ k, tot k (plusOf a b).1 = tot k a + tot k b := by
  intro h
  unfold plusOf at h ⊢
  rw [(may_iff a).2 ha, (may_iff b).2 hb] at h ⊢
  simp only [Bool.and_self, if_true] at h ⊢
  have hall : (a ++ b).all okC = true := by rw [List.all_append, ha.okC, hb.okC]; rfl
  have hnn : ∀ k, 0 ≤ tot k (a ++ b) := fun k => tot_nonneg k _ hall
  unfold normRes sumsCode at h ⊢
  simp only [hall, if_true] at h ⊢
  cases hov : over (a ++ b) with
  | true => rw [hov] at h; simp at h
  | false =>
    rw [hov] at h
    simp only [Bool.false_eq_true, if_false, if_true] at h ⊢
    by_cases hl : (normL (a ++ b)).length ≤ 16
    · rw [if_pos hl] at h ⊢
      refine ⟨normL_M (fun x hx => ?_) (tot_le hov) hl, fun k => ?_⟩
      · rcases List.mem_append.1 hx with hx | hx
        · exact (ha.ok x hx).1
        · exact (hb.ok x hx).1
      · simp only
        rw [norm_tot hnn, tot_append]
    · rw [if_neg hl] at h
      simp at h
theorem plus_ok {a b c : List Item} (ha : M a) (hb : M b) (hc : M c) (h : ∀ k, tot k a + tot k b = tot k c) : plusOf a b = (c, 0) := by
  unfold plusOf
  rw [(may_iff a).2 ha, (may_iff b).2 hb]
  simp only [Bool.and_self, if_true]
  have hall : (a ++ b).all okC = true := by rw [List.all_append, ha.okC, hb.okC]; rfl
  have hnn : ∀ k, 0 ≤ tot k (a ++ b) := fun k => tot_nonneg k _ hall
  have hov : over (a ++ b) = false := by
    cases hov : over (a ++ b) with
    | false => rfl
    | true =>
      obtain ⟨k, hk⟩ := over_iff.1 hov
      rw [tot_append, h k] at hk
      have := hc.le k
      omega
  have hn : normL (a ++ b) = c := by
    refine normL_of ⟨hc.sorted, fun x => ⟨fun hx => ?_, fun ⟨h1, h2, h3⟩ => ?_⟩⟩
    · have h1 := tot_mem hc.sorted hx
      have h2 := hc.ok x hx
      rw [← h, ← tot_append] at h1
      exact ⟨tot_pos (by omega), h1.symm, by omega⟩
    · rw [tot_append, h] at h2
      obtain ⟨y, hy, e⟩ := List.mem_map.1 (tot_pos (k := key x) (l := c) (by omega))
      have := tot_mem hc.sorted hy
      rw [e, ← h2] at this
      rw [key_item x y e.symm this]
      exact hy
  unfold normRes sumsCode
  simp only [hall, hov, hn, hc.len, if_true, Bool.false_eq_true, if_false]

/-! totals -/
def sumN : List Item → Int
  | [] => 0
  | x :: l => x.2 + sumN l
theorem totSum_foldl : ∀ (l : List Item) (t : Int), (∀ x ∈ l, 0 ≤ x.2 ∧ x.2 ≤ 1099511627776) → 0 ≤ t → t + l.length * 1099511627776 ≤ 9223372036854775807 → l.foldl totStep t = t + sumN l
  | [], t, _, _, _ => by simp [sumN]
  | x :: l, t, h, h0, h1 => by
    have hx := h x (by simp)
    simp only [List.length_cons] at h1
    rw [List.foldl_cons, show totStep t x = t + x.2 from wrap_small (by omega) (by omega), totSum_foldl l _ (fun y hy => h y (by simp [hy])) (by omega) (by omega)]
    simp only [sumN]
    omega
theorem M.sum {l : List Item} (h : M l) : totSum l = sumN l := by
  have := totSum_foldl l 0 (fun x hx => by have := h.ok x hx; omega) (Int.le_refl _) (by have := h.len; omega)
  unfold totSum
  omega
def sumK (l : List Item) : List Bs → Int
  | [] => 0
  | k :: r => tot k l + sumK l r
theorem sumK_nil : ∀ ks : List Bs, sumK [] ks = 0
  | [] => rfl
  | k :: r => by simp [sumK, tot, sumK_nil r]
theorem sumK_cons (x : Item) (l : List Item) : ∀ ks : List Bs, ks.Nodup → sumK (x :: l) ks = (if key x ∈ ks then x.2 else 0) + sumK l ks
  | [], _ => by simp [sumK]
  | k :: r, h => by
    have h' := List.nodup_cons.1 h
    simp only [sumK, sumK_cons x l r h'.2, tot, List.mem_cons]
    by_cases e : key x = k
    · have hn : key x ∉ r := by rw [e]; exact h'.1
      rw [if_pos e, if_neg hn, if_pos (.inl e)]
      omega
    · rw [if_neg e]
      by_cases hr : key x ∈ r
      · rw [if_pos hr, if_pos (.inr hr)]; omega
      · rw [if_neg hr, if_neg (by simp [e, hr])]; omega
theorem sumK_eq {ks : List Bs} (h : ks.Nodup) : ∀ l : List Item, (∀ x ∈ l, key x ∈ ks) → sumK l ks = sumN l
  | [], _ => by rw [sumK_nil]; rfl
  | x :: l, hk => by
    rw [sumK_cons x l ks h, if_pos (hk x (by simp)), sumK_eq h l fun y hy => hk y (by simp [hy])]
    rfl
theorem sumK_add {a b c : List Item} (h : ∀ k, tot k c = tot k a + tot k b) : ∀ ks : List Bs, sumK c ks = sumK a ks + sumK b ks
  | [] => rfl
  | k :: r => by simp only [sumK, h, sumK_add h r]; omega
theorem sumN_add {a b c : List Item} (h : ∀ k, tot k c = tot k a + tot k b) : sumN c = sumN a + sumN b := by
  have hn : (ksOf ((a ++ b ++ c).map key)).Nodup := by
    rw [List.nodup_iff_pairwise_ne]
    refine (ksOf_sorted _).imp fun {x y} h e => ?_
    rw [e] at h
    exact bs_irr _ h
  rw [← sumK_eq hn a fun x hx => (ksOf_mem _ _).2 (List.mem_map.2 ⟨x, by simp [hx], rfl⟩), ← sumK_eq hn b fun x hx => (ksOf_mem _ _).2 (List.mem_map.2 ⟨x, by simp [hx], rfl⟩),
    ← sumK_eq hn c fun x hx => (ksOf_mem _ _).2 (List.mem_map.2 ⟨x, by simp [hx], rfl⟩), sumK_add h]
theorem sumN_bounds : ∀ (l : List Item), (∀ x ∈ l, 0 ≤ x.2 ∧ x.2 ≤ 1099511627776) → 0 ≤ sumN l ∧ sumN l ≤ l.length * 1099511627776
  | [], _ => by simp [sumN]
  | x :: l, h => by
    have := sumN_bounds l fun y hy => h y (by simp [hy])
    have := h x (by simp)
    simp only [sumN, List.length_cons]
    omega
theorem M.bounds {l : List Item} (h : M l) : 0 ≤ sumN l ∧ sumN l ≤ 17592186044416 := by
  have := sumN_bounds l fun x hx => by have := h.ok x hx; omega
  have := h.len
  omega

/-! what the laws say, in plain words -/
theorem both_of {f : Int → Int → Int} {a b : List Item} (ha : M a) (hb : M b) : both f a b = eachL f a b := by
  unfold both
  rw [(may_iff a).2 ha, (may_iff b).2 hb]
  rfl
theorem parts_plus {a b : List Item} (ha : M a) (hb : M b) : plusOf (both meetF a b) (both restF a b) = (a, 0) := by
  rw [both_of ha hb, both_of ha hb]
  refine plus_ok (meet_M ha hb) (rest_M ha hb) ha fun k => ?_
  rw [meet_tot ha hb, rest_tot ha hb]
  have := ha.nonneg k
  omega
theorem parts_minus {a b : List Item} (ha : M a) (hb : M b) (h : (plusOf a b).2 = 0) :
    minusOf (plusOf a b).1 b = (a, 0) ∧ covers (plusOf a b).1 a = true ∧ covers (plusOf a b).1 b = true ∧ totSum (plusOf a b).1 = wrap64 (totSum a + totSum b) := by
  obtain ⟨hp, ht⟩ := plus_cases ha hb h
  generalize (plusOf a b).1 = p at *
  have c1 : covers p a = true := (covers_iff hp ha).2 fun k => by rw [ht]; have := hb.nonneg k; omega
  have c2 : covers p b = true := (covers_iff hp hb).2 fun k => by rw [ht]; have := ha.nonneg k; omega
  refine ⟨?_, c1, c2, ?_⟩
  · unfold minusOf
    rw [(may_iff p).2 hp, (may_iff b).2 hb, c2, both_of hp hb]
    simp only [Bool.and_self, if_true]
    have : eachL restF p b = a := (rest_M hp hb).ext ha fun k => by
      rw [rest_tot hp hb, ht]
      have := ha.nonneg k
      omega
    rw [this]
  · rw [hp.sum, ha.sum, hb.sum, sumN_add ht]
    have := ha.bounds
    have := hb.bounds
    rw [wrap_small (by omega) (by omega)]
theorem order_refl {a : List Item} (ha : M a) : covers a a = true := (covers_iff ha ha).2 fun _ => Int.le_refl _
theorem order_trans {a b c : List Item} (ha : M a) (hb : M b) (hc : M c) (h1 : covers a b = true) (h2 : covers b c = true) : covers a c = true :=
  (covers_iff ha hc).2 fun k => Int.le_trans ((covers_iff hb hc).1 h2 k) ((covers_iff ha hb).1 h1 k)
theorem order_anti {a b : List Item} (ha : M a) (hb : M b) (h1 : covers a b = true) (h2 : covers b a = true) : a = b :=
  ha.ext hb fun k => Int.le_antisymm ((covers_iff hb ha).1 h2 k) ((covers_iff ha hb).1 h1 k)
theorem order_meet {a b : List Item} (ha : M a) (hb : M b) : covers a (both meetF a b) = true ∧ covers b (both meetF a b) = true := by
  rw [both_of ha hb]
  refine ⟨(covers_iff ha (meet_M ha hb)).2 fun k => ?_, (covers_iff hb (meet_M ha hb)).2 fun k => ?_⟩ <;> rw [meet_tot ha hb] <;> omega
end It
end Go.Proofs.Ytlhpdalfnjhokaa

namespace Go.Proofs.Ytlhpdalfnjhokaa
open Go.RowKit Go.Maps
namespace It

theorem good_first {s : ByteArray} (h : good s = true) : strLe s ⟨#[]⟩ = false := by
  rw [strLe_eq, less_eq]
  have := good_key (x := (s, 0)) h
  unfold key at this
  rw [toList_key, toList_key, decide_eq_true (show ([] : Bs) < s.data.toList from this)]
  rfl
theorem lastOf_take {L : List Item} {j : Nat} (h : j < L.length) : lastOf ⟨#[]⟩ (L.take (j + 1)) = L[j].1 := by
  rw [List.take_succ_eq_append_getElem h, lastOf_snoc]

set_option maxRecDepth 100000 in
set_option maxHeartbeats 4000000 in
theorem refmay_calls (L : List Item) (v : Value) (w : World) (hI : ItemsAt w 0 w.heap.size v L) (hF : Fits L) :
    Calls Try.prog 55 #[v] w fun e w' => e = .returned (.bool (may L)) ∧ Below w.heap.size w w' := by
  obtain ⟨A, c, rfl, hc1, hc2⟩ := hI.form
  unfold maxLen at hc2
  have hmx : Try.prog.follows .mixedOrders = true := by kernel_rfl
  go_enter Try.func55, Try.ntmps55
  go_wp2
  go_loopw [3] (fun i wr => ∃ k : Nat, k ≤ L.length ∧ i = .int .i64 k ∧ mayTo ⟨#[]⟩ (L.take k) = true ∧ Below w.heap.size w wr) (fun i _ => L.length - (intOf i).toNat)
  case atStart => exact ⟨0, by omega, rfl, rfl, Below.refl _ _⟩
  case round =>
    obtain ⟨k, hk, rfl, hm, hB⟩ := hrel
    by_cases hlt : k < L.length
    · have hIr := hI.mono hB hB.size
      have hsn : L.take (k + 1) = L.take k ++ [L[k]] := List.take_succ_eq_append_getElem hlt
      have HS := Lib.hid (show mayTo ⟨#[]⟩ (L.take (k + 1)) = okItem L[k] (lastOf ⟨#[]⟩ (L.take k)) by rw [hsn, mayTo_snoc, hm, Bool.true_and])
      have HN := Lib.hid (show mayTo ⟨#[]⟩ (L.take (k + 1)) = false → may L = false from fun h => by unfold may; rw [mayTo_prefix (List.take_prefix _ _) h]; rfl)
      clear hm hsn
      obtain ⟨b, o, rfl, -, hb, g1, g2⟩ := hIr.cellAt hlt
      have G3 := Lib.hid (show ∀ j (h : j < L.length), wr.cell? ⟨b, o + j * 2, none⟩ = some (.string L[j].1) from fun j h => by
        obtain ⟨b', o', e, -, -, h1, -⟩ := hIr.cellAt h
        cases e; exact h1)
      have hfit := hF _ (List.getElem_mem hlt)
      have hd : decide ((k : Int) < (L.length : Int)) = true := by simp; omega
      have hO : okItem L[k] (lastOf ⟨#[]⟩ (L.take k)) = (good L[k].1 && decide (1 ≤ L[k].2) && countOk L[k].2 && !strLe L[k].1 (lastOf ⟨#[]⟩ (L.take k))) := rfl
      have hT := HS.out.trans hO
      clear HS hO
      have HL := Lib.hid (fun (j : Nat) (h : j < L.length) => lastOf_take h)
      generalize hx : L[k] = x at *
      obtain ⟨xs, xn⟩ := x
      dsimp only at g1 g2 hfit hT
      have HG := Lib.hid (fun h => @good_first xs h)
      have HT := Lib.hid hT
      clear hT hx
      have cG := Lib.hid (fun W => refgood_calls xs W hfit.1)
      have cN := Lib.hid (fun W => refcount_calls xn W)
      generalize good xs = g at *
      generalize countOk xn = cn at *
      rcases Nat.eq_zero_or_pos k with hk0 | hk0
      · have HLS : lastOf ⟨#[]⟩ (L.take k) = ⟨#[]⟩ := by rw [hk0]; rfl
        have HLS := Lib.hid HLS
        have hz : decide (0 < k) = false := by simp; omega
        clear hk0
        rw [HLS.out] at HT
        have hcs : g = false ∨ (g = true ∧ decide (xn < 1) = true) ∨ (g = true ∧ decide (xn < 1) = false ∧ cn = false) ∨ (g = true ∧ decide (xn < 1) = false ∧ cn = true) := by
          cases g <;> cases decide (xn < 1) <;> cases cn <;> simp
        rcases hcs with rfl | ⟨rfl, hn1⟩ | ⟨rfl, hn1, rfl⟩ | ⟨rfl, hn1, rfl⟩
        all_goals
          go_wp2_with fail
          refine Pu.regionW (fun W' => Below wr.drew.heap.size wr.drew W') hmx (by kernel_rfl) (by kernel_rfl) (Below.refl _ _) rfl ?_
          iterate 42 (first
            | (refine Pu.Walk.off (by rfl) ?_; simp only [Act.put, List.setIfInBounds_toArray, List.set_cons_succ, List.set_cons_zero])
            | (apply Pu.Walk.on (by rfl)
               · intro W1 h1
                 have g1' : W1.cell? ⟨b, o + k * 2, none⟩ = some (.string xs) := (Below.cell (p := ⟨b, o + k * 2, none⟩) h1 hb).trans g1
                 have g2' : W1.cell? ⟨b, o + k * 2 + 1, none⟩ = some (.int .i64 xn) := (Below.cell (p := ⟨b, o + k * 2 + 1, none⟩) h1 hb).trans g2
                 go_wp2_with (first
                   | (go_at_call 67; refine (cG.out _).mono ?_; rintro e W2 ⟨rfl, rfl⟩)
                   | (go_at_call 51; refine (cN.out _).mono ?_; rintro e W2 ⟨rfl, rfl⟩))
                 refine ⟨rfl, ?_, h1⟩
                 try simp only [Act.put, List.setIfInBounds_toArray, List.set_cons_succ, List.set_cons_zero]
                 rfl
               simp only [Act.put, List.setIfInBounds_toArray, List.set_cons_succ, List.set_cons_zero]))
          refine Pu.Walk.nil (fun W1 h1 => ?_)
          have hB1 : Below w.heap.size w W1 := (hB.trans ((Below.refl w.heap.size wr).drew)).trans (h1.mono hB.size)
          go_wp2
          first
            | (go_ret
               exact ⟨ret1 (boo (HN.out (by rw [HT.out]; simp; try (simp at hn1; omega))).symm), hB1⟩)
            | (go_roundw
               case rel => exact ⟨k + 1, by omega, by go_num, by rw [HT.out, HG.out trivial]; simp; try (simp at hn1; omega), hB1⟩
               case measure => simp [intOf]; omega)
      · obtain ⟨j, hj⟩ : ∃ j, k = j + 1 := ⟨k - 1, by omega⟩
        have hjl : j < L.length := by omega
        have HLS : lastOf ⟨#[]⟩ (L.take k) = L[j].1 := by rw [hj]; exact HL.out j hjl
        have g3 := G3.out j hjl
        generalize L[j].1 = last at *
        rw [HLS, strLe_eq] at HT
        clear HLS
        have hw : IntKind.i64.wrap ((k : Int) - 1) = (j : Int) := (IntWalk.i64_in _ (by omega)).trans (by omega)
        have HJ := Lib.hid hj
        have hz : decide (0 < k) = true := by simp; omega
        clear hk0 hj
        generalize hle : Op.bytesLess last.toList xs.toList = le at *
        have hcs : g = false ∨ (g = true ∧ decide (xn < 1) = true) ∨ (g = true ∧ decide (xn < 1) = false ∧ cn = false) ∨ (g = true ∧ decide (xn < 1) = false ∧ cn = true ∧ le = true) ∨ (g = true ∧ decide (xn < 1) = false ∧ cn = true ∧ le = false) := by
          cases g <;> cases decide (xn < 1) <;> cases cn <;> cases le <;> simp
        rcases hcs with rfl | ⟨rfl, hn1⟩ | ⟨rfl, hn1, rfl⟩ | ⟨rfl, hn1, rfl, rfl⟩ | ⟨rfl, hn1, rfl, rfl⟩
        all_goals
          go_wp2_with fail
          refine Pu.regionW (fun W' => Below wr.drew.heap.size wr.drew W') hmx (by kernel_rfl) (by kernel_rfl) (Below.refl _ _) rfl ?_
          iterate 42 (first
            | (refine Pu.Walk.off (by rfl) ?_; simp only [Act.put, List.setIfInBounds_toArray, List.set_cons_succ, List.set_cons_zero])
            | (apply Pu.Walk.on (by rfl)
               · intro W1 h1
                 have g1' : W1.cell? ⟨b, o + k * 2, none⟩ = some (.string xs) := (Below.cell (p := ⟨b, o + k * 2, none⟩) h1 hb).trans g1
                 have g2' : W1.cell? ⟨b, o + k * 2 + 1, none⟩ = some (.int .i64 xn) := (Below.cell (p := ⟨b, o + k * 2 + 1, none⟩) h1 hb).trans g2
                 have g3' : W1.cell? ⟨b, o + j * 2, none⟩ = some (.string last) := (Below.cell (p := ⟨b, o + j * 2, none⟩) h1 hb).trans g3
                 go_wp2_with (first
                   | (go_at_call 67; refine (cG.out _).mono ?_; rintro e W2 ⟨rfl, rfl⟩)
                   | (go_at_call 51; refine (cN.out _).mono ?_; rintro e W2 ⟨rfl, rfl⟩))
                 refine ⟨rfl, ?_, h1⟩
                 try simp only [Act.put, List.setIfInBounds_toArray, List.set_cons_succ, List.set_cons_zero]
                 rfl
               simp only [Act.put, List.setIfInBounds_toArray, List.set_cons_succ, List.set_cons_zero]))
          refine Pu.Walk.nil (fun W1 h1 => ?_)
          have hB1 : Below w.heap.size w W1 := (hB.trans ((Below.refl w.heap.size wr).drew)).trans (h1.mono hB.size)
          go_wp2
          first
            | (go_ret
               exact ⟨ret1 (boo (HN.out (by rw [HT.out]; simp; try (simp at hn1; omega))).symm), hB1⟩)
            | (go_roundw
               case rel => exact ⟨k + 1, by omega, by go_num, by rw [HT.out, Bool.not_not]; simp; try (simp at hn1; omega), hB1⟩
               case measure => simp [intOf]; omega)
    · obtain rfl : k = L.length := by omega
      rw [List.take_length] at hm
      have HM := Lib.hid (show may L = decide (L.length ≤ 16) by unfold may; rw [hm, Bool.true_and])
      clear hm
      go_wp2
      go_ret
      exact ⟨ret1 (boo (by rw [HM.out]; exact decide_eq_decide.2 (by omega))), hB⟩
end It
end Go.Proofs.Ytlhpdalfnjhokaa

namespace Go.Proofs.Ytlhpdalfnjhokaa
open Go.RowKit Go.Maps
namespace Sk
open It Al

abbrev Key := List UInt8
/-- free, held, picked, aside; received, returned, counted, came, shipped, scrapped, sent -/
abbrev Row := List Int
def row0 : Row := List.replicate 11 0
def at_ (r : Row) (j : Nat) : Int := r.getD j 0
def addR (r : Row) (j : Option Nat) (n : Int) : Row := match j with
  | none => r
  | some j => r.set j (wrap64 (at_ r j + n))
/-- where a kind takes from, where it goes, which flow it is -/
def road (k : Int) : Option Nat × Option Nat × Option Nat :=
  if k = 1 then (none, some 0, some 4) else if k = 2 then (some 0, some 1, none) else if k = 3 then (some 1, some 0, none) else if k = 4 then (some 1, some 2, none) else if k = 5 then (some 2, some 1, none)
  else if k = 6 then (some 2, none, some 8) else if k = 7 then (none, some 3, some 5) else if k = 8 then (some 3, some 0, none) else if k = 9 then (some 3, none, some 9) else if k = 10 then (some 0, none, some 10) else if k = 11 then (none, some 0, some 7) else (none, none, none)
def stepR (k : Int) (r : Row) (n : Int) : Row := addR (addR (addR r (road k).1 (-n)) (road k).2.1 n) (road k).2.2 n
def flowOk (n : Int) : Bool := decide (0 ≤ n) && decide (n ≤ 72057594037927936)
def okAt (j : Nat) (x : Int) : Bool := if j < 4 then countOk x else if j = 6 then true else flowOk x
def eachR (r : Row) : Bool := (List.range 11).all fun j => okAt j (at_ r j)
def rightR (r : Row) : Bool := eachR r && countOk (at_ r 0 + at_ r 1 + at_ r 2 + at_ r 3)
structure OkRow (r : Row) : Prop where
  len : r.length = 11
  bd : ∀ x ∈ r, -9223372036854775808 ≤ x ∧ x ≤ 9223372036854775807
abbrev Stk := List (Key × Row)
def rowC (r : Row) : Array Value := (r.map (Value.int .i64)).toArray
def rowV (r : Row) : Value := .agg (rowC r)
theorem rowC_get {r : Row} {j : Nat} (h : j < r.length) : (rowC r)[j]? = some (.int .i64 (at_ r j)) := by
  unfold rowC at_
  rw [List.getElem?_toArray, List.getElem?_map, List.getElem?_eq_getElem h, List.getD_eq_getElem?_getD, List.getElem?_eq_getElem h]
  rfl
theorem rowC_set (r : Row) (j : Nat) (x : Int) : (rowC r).setIfInBounds j (.int .i64 x) = rowC (r.set j x) := by
  unfold rowC
  rw [List.setIfInBounds_toArray, List.map_set]
theorem OkRow.zero : OkRow row0 := ⟨by simp [row0], fun x hx => by rw [List.eq_of_mem_replicate hx]; omega⟩
theorem OkRow.at_ {r : Row} (h : OkRow r) (j : Nat) : -9223372036854775808 ≤ at_ r j ∧ at_ r j ≤ 9223372036854775807 := by
  unfold Sk.at_
  rw [List.getD_eq_getElem?_getD]
  by_cases hj : j < r.length
  · rw [List.getElem?_eq_getElem hj]
    exact h.bd _ (List.getElem_mem hj)
  · rw [List.getElem?_eq_none (by omega)]
    simp
theorem wrap_bd (x : Int) : -9223372036854775808 ≤ wrap64 x ∧ wrap64 x ≤ 9223372036854775807 := by unfold wrap64; omega
theorem OkRow.set {r : Row} (h : OkRow r) (j : Nat) (x : Int) : OkRow (r.set j (wrap64 x)) := by
  refine ⟨by rw [List.length_set]; exact h.len, fun y hy => ?_⟩
  rcases List.mem_or_eq_of_mem_set hy with h1 | h1
  · exact h.bd y h1
  · rw [h1]; exact wrap_bd x
theorem OkRow.add {r : Row} (h : OkRow r) (j : Option Nat) (n : Int) : OkRow (addR r j n) := by
  cases j with
  | none => exact h
  | some j => exact h.set j _
theorem OkRow.step {r : Row} (h : OkRow r) (k n : Int) : OkRow (stepR k r n) := ((h.add _ _).add _ _).add _ _
theorem eachR_all {r : Row} (h : ∀ j, j < 11 → okAt j (at_ r j) = true) : eachR r = true := List.all_eq_true.2 fun j hj => h j (List.mem_range.1 hj)
theorem eachR_no {r : Row} {j : Nat} (hj : j < 11) (h : okAt j (at_ r j) = false) : eachR r = false := by
  unfold eachR
  rw [List.all_eq_false]
  exact ⟨j, List.mem_range.2 hj, by simp [h]⟩
theorem eachR_at {r : Row} (h : eachR r = true) {j : Nat} (hj : j < 11) : okAt j (at_ r j) = true := List.all_eq_true.1 h j (List.mem_range.2 hj)
theorem eachR_four {r : Row} (h : eachR r = true) {j : Nat} (hj : j < 4) : 0 ≤ at_ r j ∧ at_ r j ≤ 1099511627776 := by
  have := eachR_at h (show j < 11 by omega)
  unfold okAt countOk at this
  rw [if_pos hj] at this
  simpa using this
end Sk
end Go.Proofs.Ytlhpdalfnjhokaa
