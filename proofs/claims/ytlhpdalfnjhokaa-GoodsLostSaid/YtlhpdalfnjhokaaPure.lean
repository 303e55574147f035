/-
  A region that draws its order, each of whose operations only reads what stands before the region, or computes, or calls what answers alike in whatever order: shown once for each operation, at the act that they all end in.
-/
import Derived.Test.YtlhpdalfnjhokaaWords
import Derived.OrdersIn
namespace Go.Proofs.Ytlhpdalfnjhokaa
open Go.RowKit
namespace Pu

section
variable {F : Fence} {n : Nat} {P : Program} {ops : Array Oper} {Q : Exit → Act → World → Prop} {md : Region.Mode}

/-- no operation selects or defers; what binds an operation stands ahead of it; what it looks at is written by none but operations that bind it -/
def fine (md : Region.Mode) (ops : Array Oper) : Bool :=
  (List.range ops.size).all fun i => match ops[i]? with
    | none => true
    | some o =>
      (match o.op with | .select .. => false | .defer _ => false | _ => true) &&
      (o.after.all fun e => !Region.binds md e || decide (e.on < i)) &&
      (o.looksAt ops).all fun t => (List.range ops.size).all fun j => match ops[j]? with
        | some p => p.dst != some t || o.after.any fun e => Region.binds md e && e.on == j
        | none => true

theorem fine_at (h : fine md ops = true) {i : Nat} {o : Oper} (hi : ops[i]? = some o) :
    (∀ cs b, o.op ≠ .select cs b) ∧ (∀ c, o.op ≠ .defer c) ∧ (∀ e ∈ o.after, Region.binds md e = true → e.on < i) ∧
    ∀ t ∈ o.looksAt ops, ∀ j p, ops[j]? = some p → p.dst = some t → ∃ e ∈ o.after, Region.binds md e = true ∧ e.on = j := by
  have hlt : i < ops.size := (Array.getElem?_eq_some_iff.1 hi).1
  have h1 := List.all_eq_true.1 h i (List.mem_range.2 hlt)
  simp only [hi, Bool.and_eq_true] at h1
  obtain ⟨⟨a1, a2⟩, a3⟩ := h1
  refine ⟨fun cs b e => ?_, fun c e => ?_, fun e he hb => ?_, fun t ht j p hj hd => ?_⟩
  · rw [e] at a1; cases a1
  · rw [e] at a1; cases a1
  · have := Array.all_eq_true_iff_forall_mem.1 a2 e he
    simpa [hb] using this
  · have hjl : j < ops.size := (Array.getElem?_eq_some_iff.1 hj).1
    have h2 := List.all_eq_true.1 (List.all_eq_true.1 a3 t ht) j (List.mem_range.2 hjl)
    simp only [hj, hd, Bool.or_eq_true, bne_self_eq_false, Bool.false_eq_true, false_or] at h2
    obtain ⟨e, he, hb⟩ := Array.any_eq_true'.1 h2
    simp only [Bool.and_eq_true, beq_iff_eq] at hb
    exact ⟨e, he, hb.1, hb.2⟩

/-- the act agrees with the last one wherever no operation still to come writes -/
structure Agree (ops : Array Oper) (A : Act) (listed : Array Bool) (a : Act) : Prop where
  defers : a.defers = A.defers
  size : a.tmps.size = A.tmps.size
  at' : ∀ t : Nat, (∀ j o, ops[j]? = some o → o.dst = some t → listed.getD j true = true) → a.tmps[t]? = A.tmps[t]?

theorem Agree.eval {A a : Act} {listed : Array Bool} (h : Agree ops A listed a) {o : Oper} (hl : ∀ t ∈ o.looksAt ops, ∀ j p, ops[j]? = some p → p.dst = some t → listed.getD j true = true) :
    ∀ x ∈ o.op.operands, a.eval x = A.eval x := by
  intro x hx
  cases x with
  | tmp t =>
    have : t ∈ o.looksAt ops := List.mem_append_left _ (List.mem_filterMap.2 ⟨.tmp t, by simpa using hx, rfl⟩)
    have h1 := h.at' t (hl t this)
    simp [Act.eval, h1]
  | _ => rfl

theorem Agree.wanted {A a : Act} {listed : Array Bool} (h : Agree ops A listed a) {o : Oper} (hl : ∀ t ∈ o.looksAt ops, ∀ j p, ops[j]? = some p → p.dst = some t → listed.getD j true = true) :
    Region.wanted o (yielded ops a.tmps) = Region.wanted o (yielded ops A.tmps) := by
  unfold Region.wanted
  cases hg : o.guard with
  | none => rfl
  | some gw =>
    obtain ⟨g, want⟩ := gw
    have hy : yielded ops a.tmps g = yielded ops A.tmps g := by
      unfold yielded
      cases ht : (ops[g]?).bind (·.dst) with
      | none => rfl
      | some t =>
        have : t ∈ o.looksAt ops := by simp [Oper.looksAt, hg, ht]
        simp [h.at' t (hl t this)]
    simp only [hy]

theorem Agree.put {A a : Act} {listed : Array Bool} (h : Agree ops A listed a) {i : Nat} {o : Oper} (hi : ops[i]? = some o) {v : Value} (hv : A.put o.dst v = A) :
    Agree ops A (listed.setIfInBounds i true) (a.put o.dst v) := by
  refine ⟨?_, ?_, fun t ht => ?_⟩
  · rw [← h.defers]; cases o.dst <;> rfl
  · rw [← h.size]; cases o.dst <;> simp [Act.put]
  · cases hd : o.dst with
    | none =>
      refine h.at' t fun j p hj hp => ?_
      have h1 := ht j p hj hp
      by_cases e : i = j
      · subst e; rw [hi] at hj; cases hj; rw [hd] at hp; cases hp
      · rwa [getD_set_ne true e] at h1
    | some d =>
      rw [hd] at hv
      by_cases e : d = t
      · subst e
        conv => rhs; rw [← hv]
        simp only [Act.put]
        rw [Array.getElem?_setIfInBounds_self, Array.getElem?_setIfInBounds_self, h.size]
      · simp only [Act.put]
        rw [Array.getElem?_setIfInBounds_ne e]
        refine h.at' t fun j p hj hp => ?_
        have h1 := ht j p hj hp
        by_cases e' : i = j
        · subst e'; rw [hi] at hj; cases hj; rw [hd] at hp; cases hp; exact absurd rfl e
        · rwa [getD_set_ne true e'] at h1

/-- what is asked of each operation -/
def Go (F : Fence) (n : Nat) (P : Program) (ops : Array Oper) (Inv : World → Prop) (A : Act) (l : List Oper) : Prop :=
  ∀ o ∈ l, ∀ w, Inv w → wpListIn F n P ops (fun e a' w' => e = .normal ∧ a' = A ∧ Inv w') [o] A w
theorem Go.nil {Inv : World → Prop} {A : Act} : Go F n P ops Inv A [] := fun _ h => by cases h
theorem Go.cons {Inv : World → Prop} {A : Act} {o : Oper} {l : List Oper} (h : ∀ w, Inv w → wpListIn F n P ops (fun e a' w' => e = .normal ∧ a' = A ∧ Inv w') [o] A w) (hs : Go F n P ops Inv A l) :
    Go F n P ops Inv A (o :: l) := by
  intro p hp
  rcases List.mem_cons.1 hp with rfl | hp
  · exact h
  · exact hs p hp

theorem put_self {A : Act} {d : Option Tmp} {v : Value} {ds : List Deferred} (h : ({ A with defers := ds } : Act).put d v = A) : ds = A.defers ∧ A.put d v = A := by
  have h1 : ds = A.defers := by
    have := congrArg Act.defers h
    cases d <;> simpa [Act.put] using this
  subst h1
  exact ⟨rfl, h⟩

theorem wpAnyIn_pure (hf : fine md ops = true) {Inv : World → Prop} {A : Act} (hgo : Go F n P ops Inv A ops.toList) (hQ : ∀ w, Inv w → Q .normal A w) :
    ∀ (left : List Nat) (listed : Array Bool) (a : Act) (w : World), listed.size = ops.size → left.Nodup → (∀ j, j ∈ left ↔ listed.getD j true = false) → Agree ops A listed a → Inv w →
      wpAnyIn F n P md ops Q left.length listed a w := by
  intro left
  generalize hm : left.length = m
  have hready : ∀ (left : List Nat) (listed : Array Bool), listed.size = ops.size → (∀ j, j ∈ left ↔ listed.getD j true = false) → Region.ready md ops listed = [] → left = [] := by
    intro left listed hsz hl hr
    -- the least one that is left is ready
    have : ∀ k j, j < k → listed.getD j true = false → False := by
      intro k
      induction k with
      | zero => intro j h; omega
      | succ k ih =>
        intro j hj hjl
        have hjs : j < ops.size := by
          rcases Nat.lt_or_ge j ops.size with h | h
          · exact h
          · simp [Array.getElem?_eq_none (show listed.size ≤ j by omega)] at hjl
        obtain ⟨o, ho⟩ : ∃ o, ops[j]? = some o := ⟨ops[j], by simp [hjs]⟩
        have hmem : j ∈ Region.ready md ops listed := by
          rw [mem_ready]
          refine ⟨hjl, o, ho, fun e he hb => ?_⟩
          have hlt := (fine_at hf ho).2.2.1 e he hb
          cases hx : listed.getD e.on true with
          | false => exact (ih e.on (by omega) hx).elim
          | true =>
            have hes : e.on < listed.size := by omega
            simp [hes] at hx ⊢
            exact hx
        rw [hr] at hmem
        cases hmem
    cases left with
    | nil => rfl
    | cons j l => exact (this (j + 1) j (by omega) ((hl j).1 (by simp))).elim
  have hdone : ∀ (listed : Array Bool) (a : Act), (∀ j, j ∈ ([] : List Nat) ↔ listed.getD j true = false) → Agree ops A listed a → a = A := by
    intro listed a hl ha
    have ht : a.tmps = A.tmps := by
      refine Array.ext ha.size fun t h1 h2 => ?_
      have := ha.at' t fun j o _ _ => by
        have := (hl j).2
        cases hx : listed.getD j true with
        | true => rfl
        | false => cases this hx
      simpa [h1, h2] using this
    have hd := ha.defers
    cases a; cases A
    simp only at ht hd
    rw [ht, hd]
  induction m generalizing left with
  | zero =>
    intro listed a w hsz hnd hl ha hI
    have hn : left = [] := List.length_eq_zero_iff.1 hm
    subst hn
    have hA := hdone listed a hl ha
    subst hA
    refine ⟨?_, hQ w hI⟩
    cases hr : Region.ready md ops listed with
    | nil => rfl
    | cons i rs =>
      have : i ∈ Region.ready md ops listed := by rw [hr]; simp
      have := (hl i).2 (mem_ready.1 this).1
      cases this
  | succ m ih =>
    intro listed a w hsz hnd hl ha hI
    refine ⟨fun hr => ?_, fun i hi => ?_⟩
    · rw [hready left listed hsz hl hr] at hm; simp at hm
    obtain ⟨hun, o, ho, hall⟩ := mem_ready.1 hi
    obtain ⟨f1, f2, f3, f4⟩ := fine_at hf ho
    have his : i < ops.size := (Array.getElem?_eq_some_iff.1 ho).1
    have hlook : ∀ t ∈ o.looksAt ops, ∀ j p, ops[j]? = some p → p.dst = some t → listed.getD j true = true := by
      intro t ht j p hj hp
      obtain ⟨e, he, hb, rfl⟩ := f4 t ht j p hj hp
      have h1 := hall e he hb
      have hes : e.on < listed.size := by have := (Array.getElem?_eq_some_iff.1 hj).1; omega
      simp [hes] at h1 ⊢
      exact h1
    have heval := ha.eval hlook
    have hwant := ha.wanted hlook
    have hnext : ∀ v w', A.put o.dst v = A → Inv w' → wpAnyIn F n P md ops Q m (listed.setIfInBounds i true) (a.put o.dst v) w' := by
      intro v w' hv hI'
      have hmem : i ∈ left := (hl i).2 hun
      refine ih (left.erase i) (by rw [List.length_erase_of_mem hmem, hm]; rfl) _ _ _ (by simpa using hsz) (hnd.erase i) (fun j => ?_) (ha.put ho hv) hI'
      rw [hnd.mem_erase_iff, hl j]
      by_cases e : i = j
      · subst e
        simp [show i < listed.size by omega]
      · rw [getD_set_ne true e]
        exact ⟨fun h => h.2, fun h => ⟨fun h' => e h'.symm, h⟩⟩
    have h := hgo o (List.mem_iff_getElem?.2 ⟨i, by simpa using ho⟩) w hI
    unfold wpOpIn
    simp only [ho]
    unfold wpListIn at h
    rw [hwant]
    split
    · rename_i hw
      simp only [hw, if_true] at h
      unfold Oper.wpIn at h ⊢
      rw [about_congr o w heval]
      refine ⟨h.1, ?_⟩
      have h := h.2
      rw [Oper.semAt_eq _ _ _ f2] at h ⊢
      rw [execOp_congr o f1 heval]
      generalize (execOp A.eval o).run P w = r at *
      cases r with
      | ok x w' =>
        cases x <;> simp only [Oper.uponIn] at h ⊢
        case value v => exact hnext v w' h.2.1 h.2.2
        case skip => exact hnext _ w' h.2.1 h.2.2
        case defer d =>
          have := congrArg List.length (put_self h.2.1).1
          simp at this
        case enter f args =>
          refine ⟨h.1, CallsIn.mono h.2 fun e w'' he => ?_⟩
          cases e with
          | returned v => exact hnext v w'' he.2.1 he.2.2
          | panicked c => cases he.1
          | outgrown => obtain ⟨_, _, h, _⟩ := he; cases h
        case row row args => exact ⟨h.1, RowsIn.mono h.2 fun v w'' he => hnext v w'' he.2.1 he.2.2⟩
        case round l f tmps assign body =>
          refine ⟨h.1, RoundIn.mono h.2 fun e w'' he => ?_⟩
          cases e with
          | returned v => exact hnext v w'' he.2.1 he.2.2
          | panicked c => cases he.1
          | outgrown => obtain ⟨_, _, h, _⟩ := he; cases h
      | halt x w' =>
        cases x <;> simp only [Oper.uponIn] at h ⊢
        case panic u => cases h.1
    · rename_i hw
      simp only [hw] at h
      rw [about_congr o w heval]
      exact ⟨h.1, hnext _ w h.2.2.1 h.2.2.2⟩

/-- the region, whole -/
theorem region {id : Nat} {a : Act} {w : World} (Inv : World → Prop) (A : Act) (hm : P.follows .mixedOrders = true) (hf : fine .any ops = true) (hI : Inv w.drew)
    (ha : a.defers = A.defers ∧ a.tmps.size = A.tmps.size ∧ ∀ t, t < A.tmps.size → (ops.any fun o => o.dst == some t) = false → a.tmps[t]? = A.tmps[t]?)
    (hgo : Go F n P ops Inv A ops.toList) (hQ : ∀ w, Inv w → Q .normal A w) : (Code.region id ops true).wpIn F n P Q a w := by
  refine wpIn_region_any hm ?_
  have h := wpAnyIn_pure (md := .any) (F := F) (n := n) (P := P) (Q := Q) hf hgo hQ (List.range ops.size) (Array.replicate ops.size false) a w.drew (by simp) List.nodup_range (fun j => ?_) ⟨ha.1, ha.2.1, fun t ht => ?_⟩ hI
  · rwa [List.length_range] at h
  · rw [List.mem_range]
    by_cases h : j < ops.size
    · simp [h]
    · simp [h]
  · by_cases h : t < A.tmps.size
    · refine ha.2.2 t h ?_
      rw [Bool.eq_false_iff]
      intro hx
      obtain ⟨o, ho, hd⟩ := Array.any_eq_true'.1 hx
      obtain ⟨j, hj⟩ := Array.mem_iff_getElem?.1 ho
      have := ht j o hj (by simpa using hd)
      have hjs : j < ops.size := (Array.getElem?_eq_some_iff.1 hj).1
      simp [hjs] at this
    · have h2 := ha.2.1
      rw [Array.getElem?_eq_none (by omega), Array.getElem?_eq_none (by omega)]
/-- the act after the region, slot by slot -/
def puts : List (Nat × Value) → Act → Act
  | [], a => a
  | c :: l, a => puts l (a.put (some c.1) c.2)

theorem puts_spec (ch : List (Nat × Value)) (hch : (ch.all fun c => ops.any fun o => o.dst == some c.1) = true) : ∀ a : Act,
    (puts ch a).defers = a.defers ∧ (puts ch a).tmps.size = a.tmps.size ∧ ∀ t, (ops.any fun o => o.dst == some t) = false → a.tmps[t]? = (puts ch a).tmps[t]? := by
  induction ch with
  | nil => intro a; exact ⟨rfl, rfl, fun _ _ => rfl⟩
  | cons c l ih =>
    intro a
    rw [List.all_cons, Bool.and_eq_true] at hch
    obtain ⟨h1, h2, h3⟩ := ih hch.2 (a.put (some c.1) c.2)
    refine ⟨h1, ?_, fun t ht => ?_⟩
    · rw [puts, h2]; simp [Act.put]
    · rw [puts, ← h3 t ht]
      have : c.1 ≠ t := fun e => by rw [e, ht] at hch; cases hch.1
      simp [Act.put, Array.getElem?_setIfInBounds_ne this]

theorem region_puts {id : Nat} {a : Act} {w : World} (Inv : World → Prop) (ch : List (Nat × Value)) (hm : P.follows .mixedOrders = true) (hf : fine .any ops = true)
    (hch : (ch.all fun c => ops.any fun o => o.dst == some c.1) = true) (hI : Inv w.drew)
    (hgo : Go F n P ops Inv (puts ch a) ops.toList) (hQ : ∀ w, Inv w → Q .normal (puts ch a) w) : (Code.region id ops true).wpIn F n P Q a w :=
  region Inv (puts ch a) hm hf hI (let h := puts_spec ch hch a; ⟨h.1.symm, h.2.1.symm, fun t _ ht => h.2.2 t ht⟩) hgo hQ

/-- the same outside any fence -/
def GoP (P : Program) (ops : Array Oper) (Inv : World → Prop) (A : Act) (l : List Oper) : Prop :=
  ∀ o ∈ l, ∀ w, Inv w → wpList P ops (fun e a' w' => e = .normal ∧ a' = A ∧ Inv w') [o] A w
theorem GoP.nil {Inv : World → Prop} {A : Act} : GoP P ops Inv A [] := fun _ h => by cases h
theorem GoP.cons {Inv : World → Prop} {A : Act} {o : Oper} {l : List Oper} (h : ∀ w, Inv w → wpList P ops (fun e a' w' => e = .normal ∧ a' = A ∧ Inv w') [o] A w) (hs : GoP P ops Inv A l) :
    GoP P ops Inv A (o :: l) := by
  intro p hp
  rcases List.mem_cons.1 hp with rfl | hp
  · exact h
  · exact hs p hp

theorem wpAny_pure (hf : fine md ops = true) {Inv : World → Prop} {A : Act} (hgo : GoP P ops Inv A ops.toList) (hQ : ∀ w, Inv w → Q .normal A w) :
    ∀ (left : List Nat) (listed : Array Bool) (a : Act) (w : World), listed.size = ops.size → left.Nodup → (∀ j, j ∈ left ↔ listed.getD j true = false) → Agree ops A listed a → Inv w →
      wpAny P md ops Q left.length listed a w := by
  intro left
  generalize hm : left.length = m
  have hready : ∀ (left : List Nat) (listed : Array Bool), listed.size = ops.size → (∀ j, j ∈ left ↔ listed.getD j true = false) → Region.ready md ops listed = [] → left = [] := by
    intro left listed hsz hl hr
    -- the least one that is left is ready
    have : ∀ k j, j < k → listed.getD j true = false → False := by
      intro k
      induction k with
      | zero => intro j h; omega
      | succ k ih =>
        intro j hj hjl
        have hjs : j < ops.size := by
          rcases Nat.lt_or_ge j ops.size with h | h
          · exact h
          · simp [Array.getElem?_eq_none (show listed.size ≤ j by omega)] at hjl
        obtain ⟨o, ho⟩ : ∃ o, ops[j]? = some o := ⟨ops[j], by simp [hjs]⟩
        have hmem : j ∈ Region.ready md ops listed := by
          rw [mem_ready]
          refine ⟨hjl, o, ho, fun e he hb => ?_⟩
          have hlt := (fine_at hf ho).2.2.1 e he hb
          cases hx : listed.getD e.on true with
          | false => exact (ih e.on (by omega) hx).elim
          | true =>
            have hes : e.on < listed.size := by omega
            simp [hes] at hx ⊢
            exact hx
        rw [hr] at hmem
        cases hmem
    cases left with
    | nil => rfl
    | cons j l => exact (this (j + 1) j (by omega) ((hl j).1 (by simp))).elim
  have hdone : ∀ (listed : Array Bool) (a : Act), (∀ j, j ∈ ([] : List Nat) ↔ listed.getD j true = false) → Agree ops A listed a → a = A := by
    intro listed a hl ha
    have ht : a.tmps = A.tmps := by
      refine Array.ext ha.size fun t h1 h2 => ?_
      have := ha.at' t fun j o _ _ => by
        have := (hl j).2
        cases hx : listed.getD j true with
        | true => rfl
        | false => cases this hx
      simpa [h1, h2] using this
    have hd := ha.defers
    cases a; cases A
    simp only at ht hd
    rw [ht, hd]
  induction m generalizing left with
  | zero =>
    intro listed a w hsz hnd hl ha hI
    have hn : left = [] := List.length_eq_zero_iff.1 hm
    subst hn
    have hA := hdone listed a hl ha
    subst hA
    refine ⟨?_, hQ w hI⟩
    cases hr : Region.ready md ops listed with
    | nil => rfl
    | cons i rs =>
      have : i ∈ Region.ready md ops listed := by rw [hr]; simp
      have := (hl i).2 (mem_ready.1 this).1
      cases this
  | succ m ih =>
    intro listed a w hsz hnd hl ha hI
    refine ⟨fun hr => ?_, fun i hi => ?_⟩
    · rw [hready left listed hsz hl hr] at hm; simp at hm
    obtain ⟨hun, o, ho, hall⟩ := mem_ready.1 hi
    obtain ⟨f1, f2, f3, f4⟩ := fine_at hf ho
    have his : i < ops.size := (Array.getElem?_eq_some_iff.1 ho).1
    have hlook : ∀ t ∈ o.looksAt ops, ∀ j p, ops[j]? = some p → p.dst = some t → listed.getD j true = true := by
      intro t ht j p hj hp
      obtain ⟨e, he, hb, rfl⟩ := f4 t ht j p hj hp
      have h1 := hall e he hb
      have hes : e.on < listed.size := by have := (Array.getElem?_eq_some_iff.1 hj).1; omega
      simp [hes] at h1 ⊢
      exact h1
    have heval := ha.eval hlook
    have hwant := ha.wanted hlook
    have hnext : ∀ v w', A.put o.dst v = A → Inv w' → wpAny P md ops Q m (listed.setIfInBounds i true) (a.put o.dst v) w' := by
      intro v w' hv hI'
      have hmem : i ∈ left := (hl i).2 hun
      refine ih (left.erase i) (by rw [List.length_erase_of_mem hmem, hm]; rfl) _ _ _ (by simpa using hsz) (hnd.erase i) (fun j => ?_) (ha.put ho hv) hI'
      rw [hnd.mem_erase_iff, hl j]
      by_cases e : i = j
      · subst e
        simp [show i < listed.size by omega]
      · rw [getD_set_ne true e]
        exact ⟨fun h => h.2, fun h => ⟨fun h' => e h'.symm, h⟩⟩
    have h := hgo o (List.mem_iff_getElem?.2 ⟨i, by simpa using ho⟩) w hI
    unfold wpOp
    simp only [ho]
    unfold wpList at h
    rw [hwant]
    split
    · rename_i hw
      simp only [hw, if_true] at h
      rcases h with h | ⟨_, _, _, h, _⟩
      case inr => cases h
      refine .inl ?_
      unfold Oper.wp at h ⊢
      rw [execOp_congr o f1 heval]
      generalize (execOp A.eval o).run P w = r at *
      cases r with
      | ok x w' =>
        cases x <;> simp only [Oper.upon] at h ⊢
        case value v => exact hnext v w' h.2.1 h.2.2
        case skip => exact hnext _ w' h.2.1 h.2.2
        case defer d =>
          have := congrArg List.length (put_self h.2.1).1
          simp at this
        case enter f args =>
          refine Calls.mono h fun e w'' he => ?_
          cases e with
          | returned v => exact hnext v w'' he.2.1 he.2.2
          | panicked c => cases he.1
          | outgrown => obtain ⟨_, _, h, _⟩ := he; cases h
        case row row args => exact Rows.mono h fun v w'' he => hnext v w'' he.2.1 he.2.2
      | halt x w' =>
        cases x <;> simp only [Oper.upon] at h ⊢
        case panic u => cases h.1
    · rename_i hw
      simp only [hw] at h
      exact hnext _ w h.2.1 h.2.2

theorem regionP {id : Nat} {a : Act} {w : World} (Inv : World → Prop) (ch : List (Nat × Value)) (hm : P.follows .mixedOrders = true) (hf : fine .any ops = true)
    (hch : (ch.all fun c => ops.any fun o => o.dst == some c.1) = true) (hI : Inv w.drew)
    (hgo : GoP P ops Inv (puts ch a) ops.toList) (hQ : ∀ w, Inv w → Q .normal (puts ch a) w) : (Code.region id ops true).wp P Q a w := by
  refine wp_region_any hm ?_
  have hp := puts_spec ch hch a
  have h := wpAny_pure (md := .any) (P := P) (Q := Q) hf hgo hQ (List.range ops.size) (Array.replicate ops.size false) a w.drew (by simp) List.nodup_range (fun j => ?_) ⟨hp.1.symm, hp.2.1.symm, fun t ht => ?_⟩ hI
  · rwa [List.length_range] at h
  · rw [List.mem_range]
    by_cases h : j < ops.size
    · simp [h]
    · simp [h]
  · refine hp.2.2 t ?_
    rw [Bool.eq_false_iff]
    intro hx
    obtain ⟨o, ho, hd⟩ := Array.any_eq_true'.1 hx
    obtain ⟨j, hj⟩ := Array.mem_iff_getElem?.1 ho
    have := ht j o hj (by simpa using hd)
    have hjs : j < ops.size := (Array.getElem?_eq_some_iff.1 hj).1
    simp [hjs] at this

/-! the operations walked once, in the listed order, each value found by the walk -/
def okL (ops : Array Oper) : List Oper → Bool
  | [] => true
  | o :: r =>
    (match o.op with | .select .. => false | .defer _ => false | _ => true) &&
    ((o.looksAt ops).all fun t => o.dst != some t && r.all fun p => p.dst != some t) &&
    (match o.dst with | none => true | some d => r.all fun p => p.dst != some d) && okL ops r

def Seq (P : Program) (ops : Array Oper) (Inv : World → Prop) : List Oper → Act → (Act → Prop) → Prop
  | [], a, K => K a
  | o :: r, a, K =>
    if Region.wanted o (yielded ops a.tmps) then
      ∃ v, (∀ w, Inv w → wpList P ops (fun e a' w' => e = .normal ∧ a' = a.put o.dst v ∧ Inv w') [o] a w) ∧ Seq P ops Inv r (a.put o.dst v) K
    else Seq P ops Inv r (a.put o.dst undef) K
theorem Seq.nil {Inv : World → Prop} {a : Act} {K : Act → Prop} (h : K a) : Seq P ops Inv [] a K := h
theorem Seq.skip {Inv : World → Prop} {a : Act} {K : Act → Prop} {o : Oper} {r : List Oper} (hw : Region.wanted o (yielded ops a.tmps) = false) (h : Seq P ops Inv r (a.put o.dst undef) K) : Seq P ops Inv (o :: r) a K := by
  unfold Seq
  rw [hw]
  exact h
theorem Seq.step {Inv : World → Prop} {a : Act} {K : Act → Prop} {o : Oper} {r : List Oper} (hw : Region.wanted o (yielded ops a.tmps) = true) (v : Value)
    (h1 : ∀ w, Inv w → wpList P ops (fun e a' w' => e = .normal ∧ a' = a.put o.dst v ∧ Inv w') [o] a w) (h : Seq P ops Inv r (a.put o.dst v) K) : Seq P ops Inv (o :: r) a K := by
  unfold Seq
  rw [hw]
  exact ⟨v, h1, h⟩

theorem put_same {a A : Act} {d : Option Tmp} {u v : Value} (h : a.put d u = a.put d v) (hs : a.tmps.size = A.tmps.size) (hA : A.put d v = A) : A.put d u = A := by
  cases d with
  | none => rfl
  | some d =>
    by_cases hd : d < a.tmps.size
    · have h1 := congrArg (fun b : Act => b.tmps[d]?) h
      simp only [Act.put, Array.getElem?_setIfInBounds_self, hd, if_true, Option.some.injEq] at h1
      subst h1
      exact hA
    · have hd' : A.tmps.size ≤ d := by rw [← hs]; exact Nat.le_of_not_lt hd
      simp only [Act.put]
      rw [Array.setIfInBounds_eq_of_size_le hd']
theorem put_of {A : Act} {d : Nat} {v : Value} (h : A.tmps[d]? = if d < A.tmps.size then some v else none) : A.put (some d) v = A := by
  have : A.tmps.setIfInBounds d v = A.tmps := by
    refine Array.ext (by simp) fun i h1 h2 => ?_
    by_cases e : d = i
    · subst e
      rw [if_pos h2] at h
      have : A.tmps[d] = v := by simpa [h2] using h
      simp [this]
    · simp [Array.getElem_setIfInBounds_ne h2 e]
  simp only [Act.put, this]

theorem Seq.done {Inv : World → Prop} {K : Act → Prop} : ∀ (l : List Oper) (a : Act), okL ops l = true → Seq P ops Inv l a K →
    ∃ A, K A ∧ A.defers = a.defers ∧ A.tmps.size = a.tmps.size ∧ (∀ t : Nat, (∀ o ∈ l, o.dst ≠ some t) → A.tmps[t]? = a.tmps[t]?) ∧ GoP P ops Inv A l
  | [], a, _, h => ⟨a, h, rfl, rfl, fun _ _ => rfl, GoP.nil⟩
  | o :: r, a, hok, h => by
    simp only [okL, Bool.and_eq_true] at hok
    obtain ⟨⟨⟨hop, hlk⟩, hd⟩, hr⟩ := hok
    have hlook : ∀ t ∈ o.looksAt ops, o.dst ≠ some t ∧ ∀ p ∈ r, p.dst ≠ some t := fun t ht => by
      have := List.all_eq_true.1 hlk t ht
      simp only [Bool.and_eq_true, bne_iff_ne, List.all_eq_true] at this
      exact this
    have key : ∀ v, Seq P ops Inv r (a.put o.dst v) K →
        ((∀ w, Inv w → wpList P ops (fun e a' w' => e = .normal ∧ a' = a.put o.dst v ∧ Inv w') [o] a w) ∨ (Region.wanted o (yielded ops a.tmps) = false ∧ v = undef)) →
        ∃ A, K A ∧ A.defers = a.defers ∧ A.tmps.size = a.tmps.size ∧ (∀ t : Nat, (∀ o' ∈ o :: r, o'.dst ≠ some t) → A.tmps[t]? = a.tmps[t]?) ∧ GoP P ops Inv A (o :: r) := by
      intro v hs ho
      obtain ⟨A, hK, h1, h2, h3, h4⟩ := Seq.done r (a.put o.dst v) hr hs
      have h1' : A.defers = a.defers := by rw [h1]; cases o.dst <;> rfl
      have h2' : A.tmps.size = a.tmps.size := by rw [h2]; cases o.dst <;> simp [Act.put]
      have h3' : ∀ t : Nat, (∀ o' ∈ o :: r, o'.dst ≠ some t) → A.tmps[t]? = a.tmps[t]? := fun t ht => by
        rw [h3 t fun p hp => ht p (List.mem_cons_of_mem _ hp)]
        have := ht o (by simp)
        cases hod : o.dst with
        | none => rfl
        | some d =>
          rw [hod] at this
          have hne : d ≠ t := fun e => this (by rw [e])
          simp [Act.put, Array.getElem?_setIfInBounds_ne hne]
      have hput : A.put o.dst v = A := by
        cases hod : o.dst with
        | none => rfl
        | some d =>
          rw [hod] at hd h3 h2
          refine put_of ?_
          have := h3 d fun p hp => by
            have := List.all_eq_true.1 hd p hp
            simpa using this
          rw [this, h2]
          simp only [Act.put, Array.getElem?_setIfInBounds_self, Array.size_setIfInBounds]
      have hagree : Agree ops A (Array.replicate ops.size false) A := ⟨rfl, rfl, fun _ _ => rfl⟩
      have heval : ∀ x ∈ o.op.operands, A.eval x = a.eval x := by
        intro x hx
        cases x with
        | tmp t =>
          have hm : t ∈ o.looksAt ops := List.mem_append_left _ (List.mem_filterMap.2 ⟨.tmp t, by simpa using hx, rfl⟩)
          have h5 := hlook t hm
          have := h3' t fun p hp => by
            rcases List.mem_cons.1 hp with rfl | hp
            · exact h5.1
            · exact h5.2 p hp
          simp [Act.eval, this]
        | _ => rfl
      have hwant : Region.wanted o (yielded ops A.tmps) = Region.wanted o (yielded ops a.tmps) := by
        unfold Region.wanted
        cases hg : o.guard with
        | none => rfl
        | some gw =>
          obtain ⟨g, want⟩ := gw
          have hy : yielded ops A.tmps g = yielded ops a.tmps g := by
            unfold yielded
            cases ht : (ops[g]?).bind (·.dst) with
            | none => rfl
            | some t =>
              have hm : t ∈ o.looksAt ops := by simp [Oper.looksAt, hg, ht]
              have h5 := hlook t hm
              have := h3' t fun p hp => by
                rcases List.mem_cons.1 hp with rfl | hp
                · exact h5.1
                · exact h5.2 p hp
              simp [this]
          simp only [hy]
      refine ⟨A, hK, h1', h2', h3', GoP.cons (fun w hI => ?_) h4⟩
      unfold wpList
      rw [hwant]
      rcases ho with ho | ⟨hw, rfl⟩
      case inr =>
        rw [hw]
        exact ⟨rfl, hput, hI⟩
      have ho := ho w hI
      unfold wpList at ho
      split
      · rename_i hw
        simp only [hw, if_true] at ho
        rcases ho with ho | ⟨_, _, _, ho, _⟩
        case inr => cases ho
        refine .inl ?_
        have f1 : ∀ cs b, o.op ≠ .select cs b := fun cs b e => by rw [e] at hop; cases hop
        unfold Oper.wp at ho ⊢
        rw [execOp_congr o f1 heval]
        generalize (execOp a.eval o).run P w = r at *
        have fin : ∀ u w', a.put o.dst u = a.put o.dst v → Inv w' → A.put o.dst u = A := fun u w' h _ => put_same h h2'.symm hput
        cases r with
        | ok x w' =>
          cases x <;> simp only [Oper.upon] at ho ⊢
          case value u => exact ⟨rfl, put_same ho.2.1 h2'.symm hput, ho.2.2⟩
          case skip => exact ⟨rfl, put_same ho.2.1 h2'.symm hput, ho.2.2⟩
          case defer d =>
            have := congrArg (fun b : Act => b.defers.length) ho.2.1
            cases hod : o.dst <;> simp [Act.put, hod] at this
          case enter f args =>
            refine Calls.mono ho fun e w'' he => ?_
            cases e with
            | returned u => exact ⟨rfl, put_same he.2.1 h2'.symm hput, he.2.2⟩
            | panicked c => cases he.1
            | outgrown => obtain ⟨_, _, h, _⟩ := he; cases h
          case row row args => exact Rows.mono ho fun u w'' he => ⟨rfl, put_same he.2.1 h2'.symm hput, he.2.2⟩
        | halt x w' =>
          cases x <;> simp only [Oper.upon] at ho ⊢
          case panic u => cases ho.1
      · rename_i hw
        simp only [hw] at ho
        refine ⟨rfl, ?_, hI⟩
        exact put_same ho.2.1 h2'.symm hput
    unfold Seq at h
    split at h
    · obtain ⟨v, h1, h2⟩ := h
      exact key v h2 (.inl h1)
    · rename_i hw
      exact key undef h (.inr ⟨by simpa using hw, rfl⟩)

theorem regionS {id : Nat} {a : Act} {w : World} (Inv : World → Prop) (hm : P.follows .mixedOrders = true) (hf : fine .any ops = true) (hok : okL ops ops.toList = true) (hI : Inv w.drew)
    (hs : Seq P ops Inv ops.toList a fun A => ∀ w, Inv w → Q .normal A w) : (Code.region id ops true).wp P Q a w := by
  obtain ⟨A, hK, h1, h2, h3, h4⟩ := Seq.done _ _ hok hs
  refine wp_region_any hm ?_
  have h := wpAny_pure (md := .any) (P := P) (Q := Q) hf h4 hK (List.range ops.size) (Array.replicate ops.size false) a w.drew (by simp) List.nodup_range (fun j => ?_) ⟨h1.symm, h2.symm, fun t ht => ?_⟩ hI
  · rwa [List.length_range] at h
  · rw [List.mem_range]
    by_cases h : j < ops.size
    · simp [h]
    · simp [h]
  · refine (h3 t fun o ho hd => ?_).symm
    obtain ⟨j, hj⟩ := List.mem_iff_getElem?.1 ho
    have hj : ops[j]? = some o := by simpa using hj
    have := ht j o hj hd
    have hjs : j < ops.size := (Array.getElem?_eq_some_iff.1 hj).1
    simp [hjs] at this
/-- the operations walked in the listed order, behind a name that nothing unfolds -/
structure Walk (P : Program) (ops : Array Oper) (Inv : World → Prop) (l : List Oper) (a : Act) (K : Act → Prop) : Prop where
  go : Seq P ops Inv l a K
/-- where an operation ends -/
structure Ends (A : Act) (Inv : World → Prop) (e : Exit) (a' : Act) (w' : World) : Prop where
  e : e = .normal
  a : a' = A
  i : Inv w'
theorem Ends.eq {A : Act} {Inv : World → Prop} : Ends A Inv = fun e a' w' => e = .normal ∧ a' = A ∧ Inv w' := by
  funext e a' w'
  exact propext ⟨fun h => ⟨h.e, h.a, h.i⟩, fun h => ⟨h.1, h.2.1, h.2.2⟩⟩
theorem Walk.nil {Inv : World → Prop} {a : Act} {K : Act → Prop} (h : K a) : Walk P ops Inv [] a K := ⟨h⟩
theorem Walk.skip {Inv : World → Prop} {a : Act} {K : Act → Prop} {o : Oper} {r : List Oper} (hw : Region.wanted o (yielded ops a.tmps) = false) (h : Walk P ops Inv r (a.put o.dst undef) K) : Walk P ops Inv (o :: r) a K := ⟨Seq.skip hw h.go⟩
theorem Walk.next {Inv : World → Prop} {a : Act} {K : Act → Prop} {o : Oper} {r : List Oper} (hw : Region.wanted o (yielded ops a.tmps) = true) {v : Value}
    (h1 : ∀ w, Inv w → wpList P ops (Ends (a.put o.dst v) Inv) [o] a w) (h : Walk P ops Inv r (a.put o.dst v) K) : Walk P ops Inv (o :: r) a K :=
  ⟨Seq.step hw v (fun w hI => Ends.eq ▸ h1 w hI) h.go⟩
/-- what binds an operation, read off lists -/
def asks (l : List Oper) (o : Oper) (t : List Value) : Bool :=
  match o.guard with
  | none => true
  | some (g, want) => match l[g]? with
    | some p => match p.dst with
      | some d => match t[d]? with
        | some (.bool b) => b == want
        | _ => false
      | none => false
    | none => false
theorem asks_eq (ops : Array Oper) (o : Oper) (t : Array Value) : Region.wanted o (yielded ops t) = asks ops.toList o t.toList := by
  unfold Region.wanted asks
  cases hg : o.guard with
  | none => rfl
  | some gw =>
    obtain ⟨g, want⟩ := gw
    dsimp only
    unfold yielded
    rw [← Array.getElem?_toList]
    cases ops.toList[g]? with
    | none => rfl
    | some p =>
      dsimp only [Option.bind_some]
      cases hd : p.dst with
      | none => rfl
      | some d =>
        dsimp only [Option.bind_some]
        rw [← Array.getElem?_toList]
        cases t.toList[d]? with
        | none => rfl
        | some v => cases v <;> first | rfl | (rename_i b; cases b <;> cases want <;> rfl)
theorem Walk.off {Inv : World → Prop} {a : Act} {K : Act → Prop} {o : Oper} {r : List Oper} (hw : asks ops.toList o a.tmps.toList = false) (h : Walk P ops Inv r (a.put o.dst undef) K) : Walk P ops Inv (o :: r) a K :=
  Walk.skip ((asks_eq _ _ _).trans hw) h
theorem Walk.on {Inv : World → Prop} {a : Act} {K : Act → Prop} {o : Oper} {r : List Oper} (hw : asks ops.toList o a.tmps.toList = true) {v : Value}
    (h1 : ∀ w, Inv w → wpList P ops (Ends (a.put o.dst v) Inv) [o] a w) (h : Walk P ops Inv r (a.put o.dst v) K) : Walk P ops Inv (o :: r) a K :=
  Walk.next ((asks_eq _ _ _).trans hw) h1 h
theorem regionW {id : Nat} {a : Act} {w : World} (Inv : World → Prop) (hm : P.follows .mixedOrders = true) (hf : fine .any ops = true) (hok : okL ops ops.toList = true) (hI : Inv w.drew) {l : List Oper} (hl : ops.toList = l)
    (hs : Walk P ops Inv l a fun A => ∀ w, Inv w → Q .normal A w) : (Code.region id ops true).wp P Q a w := by
  subst hl
  exact regionS Inv hm hf hok hI hs.go
end
end Pu
end Go.Proofs.Ytlhpdalfnjhokaa
