/-
  A region that draws its order, each of whose operations only reads what stands before the region, or computes, or calls what answers alike in whatever order: shown once for each operation, at the act that they all end in.
  items: the walks of each, Meet and Rest.
  items: Meet, Rest, Covers, Minus.
  count.Add.
-/
import Derived.Test.YtdbkkldgobkjcaaGreatPd1
import Derived.OrdersIn
namespace Go.Proofs.YtdbkkldgobkjcaaGreat
open Go.RowKit
namespace Pu

section
variable {F : Fence} {n : Nat} {P : Program} {ops : Array Oper} {Q : Exit → Act → World → Prop} {md : Region.Mode}

/-- no operation selects or defers; what binds an operation stands ahead of it; what it looks at is written by none but operations that bind it -/
def fine (md : Region.Mode) (ops : Array Oper) : Bool :=
  (List.range ops.size).all fun i => match ops[i]? with
    | none => true
    | some o =>
      (match o.op with | .select .. => false | .defer _ => false | _ => true) &&
      (o.after.all fun e => !Region.binds md e || decide (e.on < i)) &&
      (o.looksAt ops).all fun t => (List.range ops.size).all fun j => match ops[j]? with
        | some p => p.dst != some t || o.after.any fun e => Region.binds md e && e.on == j
        | none => true

theorem fine_at (h : fine md ops = true) {i : Nat} {o : Oper} (hi : ops[i]? = some o) :
    (∀ cs b, o.op ≠ .select cs b) ∧ (∀ c, o.op ≠ .defer c) ∧ (∀ e ∈ o.after, Region.binds md e = true → e.on < i) ∧
    ∀ t ∈ o.looksAt ops, ∀ j p, ops[j]? = some p → p.dst = some t → ∃ e ∈ o.after, Region.binds md e = true ∧ e.on = j := by
  have hlt : i < ops.size := (Array.getElem?_eq_some_iff.1 hi).1
  have h1 := List.all_eq_true.1 h i (List.mem_range.2 hlt)
  simp only [hi, Bool.and_eq_true] at h1
  obtain ⟨⟨a1, a2⟩, a3⟩ := h1
  refine ⟨fun cs b e => ?_, fun c e => ?_, fun e he hb => ?_, fun t ht j p hj hd => ?_⟩
  · rw [e] at a1; cases a1
  · rw [e] at a1; cases a1
  · have := Array.all_eq_true_iff_forall_mem.1 a2 e he
    simpa [hb] using this
  · have hjl : j < ops.size := (Array.getElem?_eq_some_iff.1 hj).1
    have h2 := List.all_eq_true.1 (List.all_eq_true.1 a3 t ht) j (List.mem_range.2 hjl)
    simp only [hj, hd, Bool.or_eq_true, bne_self_eq_false, Bool.false_eq_true, false_or] at h2
    obtain ⟨e, he, hb⟩ := Array.any_eq_true'.1 h2
    simp only [Bool.and_eq_true, beq_iff_eq] at hb
    exact ⟨e, he, hb.1, hb.2⟩

/-- the act agrees with the last one wherever no operation still to come writes -/
structure Agree (ops : Array Oper) (A : Act) (listed : Array Bool) (a : Act) : Prop where
  defers : a.defers = A.defers
  size : a.tmps.size = A.tmps.size
  at' : ∀ t : Nat, (∀ j o, ops[j]? = some o → o.dst = some t → listed.getD j true = true) → a.tmps[t]? = A.tmps[t]?

theorem Agree.eval {A a : Act} {listed : Array Bool} (h : Agree ops A listed a) {o : Oper} (hl : ∀ t ∈ o.looksAt ops, ∀ j p, ops[j]? = some p → p.dst = some t → listed.getD j true = true) :
    ∀ x ∈ o.op.operands, a.eval x = A.eval x := by
  intro x hx
  cases x with
  | tmp t =>
    have : t ∈ o.looksAt ops := List.mem_append_left _ (List.mem_filterMap.2 ⟨.tmp t, by simpa using hx, rfl⟩)
    have h1 := h.at' t (hl t this)
    simp [Act.eval, h1]
  | _ => rfl

theorem Agree.wanted {A a : Act} {listed : Array Bool} (h : Agree ops A listed a) {o : Oper} (hl : ∀ t ∈ o.looksAt ops, ∀ j p, ops[j]? = some p → p.dst = some t → listed.getD j true = true) :
    Region.wanted o (yielded ops a.tmps) = Region.wanted o (yielded ops A.tmps) := by
  unfold Region.wanted
  cases hg : o.guard with
  | none => rfl
  | some gw =>
    obtain ⟨g, want⟩ := gw
    have hy : yielded ops a.tmps g = yielded ops A.tmps g := by
      unfold yielded
      cases ht : (ops[g]?).bind (·.dst) with
      | none => rfl
      | some t =>
        have : t ∈ o.looksAt ops := by simp [Oper.looksAt, hg, ht]
        simp [h.at' t (hl t this)]
    simp only [hy]

theorem Agree.put {A a : Act} {listed : Array Bool} (h : Agree ops A listed a) {i : Nat} {o : Oper} (hi : ops[i]? = some o) {v : Value} (hv : A.put o.dst v = A) :
    Agree ops A (listed.setIfInBounds i true) (a.put o.dst v) := by
  refine ⟨?_, ?_, fun t ht => ?_⟩
  · rw [← h.defers]; cases o.dst <;> rfl
  · rw [← h.size]; cases o.dst <;> simp [Act.put]
  · cases hd : o.dst with
    | none =>
      refine h.at' t fun j p hj hp => ?_
      have h1 := ht j p hj hp
      by_cases e : i = j
      · subst e; rw [hi] at hj; cases hj; rw [hd] at hp; cases hp
      · rwa [getD_set_ne true e] at h1
    | some d =>
      rw [hd] at hv
      by_cases e : d = t
      · subst e
        conv => rhs; rw [← hv]
        simp only [Act.put]
        rw [Array.getElem?_setIfInBounds_self, Array.getElem?_setIfInBounds_self, h.size]
      · simp only [Act.put]
        rw [Array.getElem?_setIfInBounds_ne e]
        refine h.at' t fun j p hj hp => ?_
        have h1 := ht j p hj hp
        by_cases e' : i = j
        · subst e'; rw [hi] at hj; cases hj; rw [hd] at hp; cases hp; exact absurd rfl e
        · rwa [getD_set_ne true e'] at h1

/-- what is asked of each operation -/
def Go (F : Fence) (n : Nat) (P : Program) (ops : Array Oper) (Inv : World → Prop) (A : Act) (l : List Oper) : Prop :=
  ∀ o ∈ l, ∀ w, Inv w → wpListIn F n P ops (fun e a' w' => e = .normal ∧ a' = A ∧ Inv w') [o] A w
theorem Go.nil {Inv : World → Prop} {A : Act} : Go F n P ops Inv A [] := fun _ h => by cases h
theorem Go.cons {Inv : World → Prop} {A : Act} {o : Oper} {l : List Oper} (h : ∀ w, Inv w → wpListIn F n P ops (fun e a' w' => e = .normal ∧ a' = A ∧ Inv w') [o] A w) (hs : Go F n P ops Inv A l) :
    Go F n P ops Inv A (o :: l) := by
  intro p hp
  rcases List.mem_cons.1 hp with rfl | hp
  · exact h
  · exact hs p hp

theorem put_self {A : Act} {d : Option Tmp} {v : Value} {ds : List Deferred} (h : ({ A with defers := ds } : Act).put d v = A) : ds = A.defers ∧ A.put d v = A := by
  have h1 : ds = A.defers := by
    have := congrArg Act.defers h
    cases d <;> simpa [Act.put] using this
  subst h1
  exact ⟨rfl, h⟩

theorem wpAnyIn_pure (hf : fine md ops = true) {Inv : World → Prop} {A : Act} (hgo : Go F n P ops Inv A ops.toList) (hQ : ∀ w, Inv w → Q .normal A w) :
    ∀ (left : List Nat) (listed : Array Bool) (a : Act) (w : World), listed.size = ops.size → left.Nodup → (∀ j, j ∈ left ↔ listed.getD j true = false) → Agree ops A listed a → Inv w →
      wpAnyIn F n P md ops Q left.length listed a w := by
  intro left
  generalize hm : left.length = m
  have hready : ∀ (left : List Nat) (listed : Array Bool), listed.size = ops.size → (∀ j, j ∈ left ↔ listed.getD j true = false) → Region.ready md ops listed = [] → left = [] := by
    intro left listed hsz hl hr
    -- the least one that is left is ready
    have : ∀ k j, j < k → listed.getD j true = false → False := by
      intro k
      induction k with
      | zero => intro j h; omega
      | succ k ih =>
        intro j hj hjl
        have hjs : j < ops.size := by
          rcases Nat.lt_or_ge j ops.size with h | h
          · exact h
          · simp [Array.getElem?_eq_none (show listed.size ≤ j by omega)] at hjl
        obtain ⟨o, ho⟩ : ∃ o, ops[j]? = some o := ⟨ops[j], by simp [hjs]⟩
        have hmem : j ∈ Region.ready md ops listed := by
          rw [mem_ready]
          refine ⟨hjl, o, ho, fun e he hb => ?_⟩
          have hlt := (fine_at hf ho).2.2.1 e he hb
          cases hx : listed.getD e.on true with
          | false => exact (ih e.on (by omega) hx).elim
          | true =>
            have hes : e.on < listed.size := by omega
            simp [hes] at hx ⊢
            exact hx
        rw [hr] at hmem
        cases hmem
    cases left with
    | nil => rfl
    | cons j l => exact (this (j + 1) j (by omega) ((hl j).1 (by simp))).elim
  have hdone : ∀ (listed : Array Bool) (a : Act), (∀ j, j ∈ ([] : List Nat) ↔ listed.getD j true = false) → Agree ops A listed a → a = A := by
    intro listed a hl ha
    have ht : a.tmps = A.tmps := by
      refine Array.ext ha.size fun t h1 h2 => ?_
      have := ha.at' t fun j o _ _ => by
        have := (hl j).2
        cases hx : listed.getD j true with
        | true => rfl
        | false => cases this hx
      simpa [h1, h2] using this
    have hd := ha.defers
    cases a; cases A
    simp only at ht hd
    rw [ht, hd]
  induction m generalizing left with
  | zero =>
    intro listed a w hsz hnd hl ha hI
    have hn : left = [] := List.length_eq_zero_iff.1 hm
    subst hn
    have hA := hdone listed a hl ha
    subst hA
    refine ⟨?_, hQ w hI⟩
    cases hr : Region.ready md ops listed with
    | nil => rfl
    | cons i rs =>
      have : i ∈ Region.ready md ops listed := by rw [hr]; simp
      have := (hl i).2 (mem_ready.1 this).1
      cases this
  | succ m ih =>
    intro listed a w hsz hnd hl ha hI
    refine ⟨fun hr => ?_, fun i hi => ?_⟩
    · rw [hready left listed hsz hl hr] at hm; simp at hm
    obtain ⟨hun, o, ho, hall⟩ := mem_ready.1 hi
    obtain ⟨f1, f2, f3, f4⟩ := fine_at hf ho
    have his : i < ops.size := (Array.getElem?_eq_some_iff.1 ho).1
    have hlook : ∀ t ∈ o.looksAt ops, ∀ j p, ops[j]? = some p → p.dst = some t → listed.getD j true = true := by
      intro t ht j p hj hp
      obtain ⟨e, he, hb, rfl⟩ := f4 t ht j p hj hp
      have h1 := hall e he hb
      have hes : e.on < listed.size := by have := (Array.getElem?_eq_some_iff.1 hj).1; omega
      simp [hes] at h1 ⊢
      exact h1
    have heval := ha.eval hlook
    have hwant := ha.wanted hlook
    have hnext : ∀ v w', A.put o.dst v = A → Inv w' → wpAnyIn F n P md ops Q m (listed.setIfInBounds i true) (a.put o.dst v) w' := by
      intro v w' hv hI'
      have hmem : i ∈ left := (hl i).2 hun
      refine ih (left.erase i) (by rw [List.length_erase_of_mem hmem, hm]; rfl) _ _ _ (by simpa using hsz) (hnd.erase i) (fun j => ?_) (ha.put ho hv) hI'
      rw [hnd.mem_erase_iff, hl j]
      by_cases e : i = j
      · subst e
        simp [show i < listed.size by omega]
      · rw [getD_set_ne true e]
        exact ⟨fun h => h.2, fun h => ⟨fun h' => e h'.symm, h⟩⟩
    have h := hgo o (List.mem_iff_getElem?.2 ⟨i, by simpa using ho⟩) w hI
    unfold wpOpIn
    simp only [ho]
    unfold wpListIn at h
    rw [hwant]
    split
    · rename_i hw
      simp only [hw, if_true] at h
      unfold Oper.wpIn at h ⊢
      rw [about_congr o w heval]
      refine ⟨h.1, ?_⟩
      have h := h.2
      rw [Oper.semAt_eq _ _ _ f2] at h ⊢
      rw [execOp_congr o f1 heval]
      generalize (execOp A.eval o).run P w = r at *
      cases r with
      | ok x w' =>
        cases x <;> simp only [Oper.uponIn] at h ⊢
        case value v => exact hnext v w' h.2.1 h.2.2
        case skip => exact hnext _ w' h.2.1 h.2.2
        case defer d =>
          have := congrArg List.length (put_self h.2.1).1
          simp at this
        case enter f args =>
          refine ⟨h.1, CallsIn.mono h.2 fun e w'' he => ?_⟩
          cases e with
          | returned v => exact hnext v w'' he.2.1 he.2.2
          | panicked c => cases he.1
          | outgrown => obtain ⟨_, _, h, _⟩ := he; cases h
        case row row args => exact ⟨h.1, RowsIn.mono h.2 fun v w'' he => hnext v w'' he.2.1 he.2.2⟩
        case round l f tmps assign body =>
          refine ⟨h.1, RoundIn.mono h.2 fun e w'' he => ?_⟩
          cases e with
          | returned v => exact hnext v w'' he.2.1 he.2.2
          | panicked c => cases he.1
          | outgrown => obtain ⟨_, _, h, _⟩ := he; cases h
      | halt x w' =>
        cases x <;> simp only [Oper.uponIn] at h ⊢
        case panic u => cases h.1
    · rename_i hw
      simp only [hw] at h
      rw [about_congr o w heval]
      exact ⟨h.1, hnext _ w h.2.2.1 h.2.2.2⟩

/-- the region, whole -/
theorem region {id : Nat} {a : Act} {w : World} (Inv : World → Prop) (A : Act) (hm : P.follows .mixedOrders = true) (hf : fine .any ops = true) (hI : Inv w.drew)
    (ha : a.defers = A.defers ∧ a.tmps.size = A.tmps.size ∧ ∀ t, t < A.tmps.size → (ops.any fun o => o.dst == some t) = false → a.tmps[t]? = A.tmps[t]?)
    (hgo : Go F n P ops Inv A ops.toList) (hQ : ∀ w, Inv w → Q .normal A w) : (Code.region id ops true).wpIn F n P Q a w := by
  refine wpIn_region_any hm ?_
  have h := wpAnyIn_pure (md := .any) (F := F) (n := n) (P := P) (Q := Q) hf hgo hQ (List.range ops.size) (Array.replicate ops.size false) a w.drew (by simp) List.nodup_range (fun j => ?_) ⟨ha.1, ha.2.1, fun t ht => ?_⟩ hI
  · rwa [List.length_range] at h
  · rw [List.mem_range]
    by_cases h : j < ops.size
    · simp [h]
    · simp [h]
  · by_cases h : t < A.tmps.size
    · refine ha.2.2 t h ?_
      rw [Bool.eq_false_iff]
      intro hx
      obtain ⟨o, ho, hd⟩ := Array.any_eq_true'.1 hx
      obtain ⟨j, hj⟩ := Array.mem_iff_getElem?.1 ho
      have := ht j o hj (by simpa using hd)
      have hjs : j < ops.size := (Array.getElem?_eq_some_iff.1 hj).1
      simp [hjs] at this
    · have h2 := ha.2.1
      rw [Array.getElem?_eq_none (by omega), Array.getElem?_eq_none (by omega)]
/-- the act after the region, slot by slot -/
def puts : List (Nat × Value) → Act → Act
  | [], a => a
  | c :: l, a => puts l (a.put (some c.1) c.2)

theorem puts_spec (ch : List (Nat × Value)) (hch : (ch.all fun c => ops.any fun o => o.dst == some c.1) = true) : ∀ a : Act,
    (puts ch a).defers = a.defers ∧ (puts ch a).tmps.size = a.tmps.size ∧ ∀ t, (ops.any fun o => o.dst == some t) = false → a.tmps[t]? = (puts ch a).tmps[t]? := by
  induction ch with
  | nil => intro a; exact ⟨rfl, rfl, fun _ _ => rfl⟩
  | cons c l ih =>
    intro a
    rw [List.all_cons, Bool.and_eq_true] at hch
    obtain ⟨h1, h2, h3⟩ := ih hch.2 (a.put (some c.1) c.2)
    refine ⟨h1, ?_, fun t ht => ?_⟩
    · rw [puts, h2]; simp [Act.put]
    · rw [puts, ← h3 t ht]
      have : c.1 ≠ t := fun e => by rw [e, ht] at hch; cases hch.1
      simp [Act.put, Array.getElem?_setIfInBounds_ne this]

theorem region_puts {id : Nat} {a : Act} {w : World} (Inv : World → Prop) (ch : List (Nat × Value)) (hm : P.follows .mixedOrders = true) (hf : fine .any ops = true)
    (hch : (ch.all fun c => ops.any fun o => o.dst == some c.1) = true) (hI : Inv w.drew)
    (hgo : Go F n P ops Inv (puts ch a) ops.toList) (hQ : ∀ w, Inv w → Q .normal (puts ch a) w) : (Code.region id ops true).wpIn F n P Q a w :=
  region Inv (puts ch a) hm hf hI (let h := puts_spec ch hch a; ⟨h.1.symm, h.2.1.symm, fun t _ ht => h.2.2 t ht⟩) hgo hQ

/-- the same outside any fence -/
def GoP (P : Program) (ops : Array Oper) (Inv : World → Prop) (A : Act) (l : List Oper) : Prop :=
  ∀ o ∈ l, ∀ w, Inv w → wpList P ops (fun e a' w' => e = .normal ∧ a' = A ∧ Inv w') [o] A w
theorem GoP.nil {Inv : World → Prop} {A : Act} : GoP P ops Inv A [] := fun _ h => by cases h
theorem GoP.cons {Inv : World → Prop} {A : Act} {o : Oper} {l : List Oper} (h : ∀ w, Inv w → wpList P ops (fun e a' w' => e = .normal ∧ a' = A ∧ Inv w') [o] A w) (hs : GoP P ops Inv A l) :
    GoP P ops Inv A (o :: l) := by
  intro p hp
  rcases List.mem_cons.1 hp with rfl | hp
  · exact h
  · exact hs p hp

theorem wpAny_pure (hf : fine md ops = true) {Inv : World → Prop} {A : Act} (hgo : GoP P ops Inv A ops.toList) (hQ : ∀ w, Inv w → Q .normal A w) :
    ∀ (left : List Nat) (listed : Array Bool) (a : Act) (w : World), listed.size = ops.size → left.Nodup → (∀ j, j ∈ left ↔ listed.getD j true = false) → Agree ops A listed a → Inv w →
      wpAny P md ops Q left.length listed a w := by
  intro left
  generalize hm : left.length = m
  have hready : ∀ (left : List Nat) (listed : Array Bool), listed.size = ops.size → (∀ j, j ∈ left ↔ listed.getD j true = false) → Region.ready md ops listed = [] → left = [] := by
    intro left listed hsz hl hr
    -- the least one that is left is ready
    have : ∀ k j, j < k → listed.getD j true = false → False := by
      intro k
      induction k with
      | zero => intro j h; omega
      | succ k ih =>
        intro j hj hjl
        have hjs : j < ops.size := by
          rcases Nat.lt_or_ge j ops.size with h | h
          · exact h
          · simp [Array.getElem?_eq_none (show listed.size ≤ j by omega)] at hjl
        obtain ⟨o, ho⟩ : ∃ o, ops[j]? = some o := ⟨ops[j], by simp [hjs]⟩
        have hmem : j ∈ Region.ready md ops listed := by
          rw [mem_ready]
          refine ⟨hjl, o, ho, fun e he hb => ?_⟩
          have hlt := (fine_at hf ho).2.2.1 e he hb
          cases hx : listed.getD e.on true with
          | false => exact (ih e.on (by omega) hx).elim
          | true =>
            have hes : e.on < listed.size := by omega
            simp [hes] at hx ⊢
            exact hx
        rw [hr] at hmem
        cases hmem
    cases left with
    | nil => rfl
    | cons j l => exact (this (j + 1) j (by omega) ((hl j).1 (by simp))).elim
  have hdone : ∀ (listed : Array Bool) (a : Act), (∀ j, j ∈ ([] : List Nat) ↔ listed.getD j true = false) → Agree ops A listed a → a = A := by
    intro listed a hl ha
    have ht : a.tmps = A.tmps := by
      refine Array.ext ha.size fun t h1 h2 => ?_
      have := ha.at' t fun j o _ _ => by
        have := (hl j).2
        cases hx : listed.getD j true with
        | true => rfl
        | false => cases this hx
      simpa [h1, h2] using this
    have hd := ha.defers
    cases a; cases A
    simp only at ht hd
    rw [ht, hd]
  induction m generalizing left with
  | zero =>
    intro listed a w hsz hnd hl ha hI
    have hn : left = [] := List.length_eq_zero_iff.1 hm
    subst hn
    have hA := hdone listed a hl ha
    subst hA
    refine ⟨?_, hQ w hI⟩
    cases hr : Region.ready md ops listed with
    | nil => rfl
    | cons i rs =>
      have : i ∈ Region.ready md ops listed := by rw [hr]; simp
      have := (hl i).2 (mem_ready.1 this).1
      cases this
  | succ m ih =>
    intro listed a w hsz hnd hl ha hI
    refine ⟨fun hr => ?_, fun i hi => ?_⟩
    · rw [hready left listed hsz hl hr] at hm; simp at hm
    obtain ⟨hun, o, ho, hall⟩ := mem_ready.1 hi
    obtain ⟨f1, f2, f3, f4⟩ := fine_at hf ho
    have his : i < ops.size := (Array.getElem?_eq_some_iff.1 ho).1
    have hlook : ∀ t ∈ o.looksAt ops, ∀ j p, ops[j]? = some p → p.dst = some t → listed.getD j true = true := by
      intro t ht j p hj hp
      obtain ⟨e, he, hb, rfl⟩ := f4 t ht j p hj hp
      have h1 := hall e he hb
      have hes : e.on < listed.size := by have := (Array.getElem?_eq_some_iff.1 hj).1; omega
      simp [hes] at h1 ⊢
      exact h1
    have heval := ha.eval hlook
    have hwant := ha.wanted hlook
    have hnext : ∀ v w', A.put o.dst v = A → Inv w' → wpAny P md ops Q m (listed.setIfInBounds i true) (a.put o.dst v) w' := by
      intro v w' hv hI'
      have hmem : i ∈ left := (hl i).2 hun
      refine ih (left.erase i) (by rw [List.length_erase_of_mem hmem, hm]; rfl) _ _ _ (by simpa using hsz) (hnd.erase i) (fun j => ?_) (ha.put ho hv) hI'
      rw [hnd.mem_erase_iff, hl j]
      by_cases e : i = j
      · subst e
        simp [show i < listed.size by omega]
      · rw [getD_set_ne true e]
        exact ⟨fun h => h.2, fun h => ⟨fun h' => e h'.symm, h⟩⟩
    have h := hgo o (List.mem_iff_getElem?.2 ⟨i, by simpa using ho⟩) w hI
    unfold wpOp
    simp only [ho]
    unfold wpList at h
    rw [hwant]
    split
    · rename_i hw
      simp only [hw, if_true] at h
      rcases h with h | ⟨_, _, _, h, _⟩
      case inr => cases h
      refine .inl ?_
      unfold Oper.wp at h ⊢
      rw [execOp_congr o f1 heval]
      generalize (execOp A.eval o).run P w = r at *
      cases r with
      | ok x w' =>
        cases x <;> simp only [Oper.upon] at h ⊢
        case value v => exact hnext v w' h.2.1 h.2.2
        case skip => exact hnext _ w' h.2.1 h.2.2
        case defer d =>
          have := congrArg List.length (put_self h.2.1).1
          simp at this
        case enter f args =>
          refine Calls.mono h fun e w'' he => ?_
          cases e with
          | returned v => exact hnext v w'' he.2.1 he.2.2
          | panicked c => cases he.1
          | outgrown => obtain ⟨_, _, h, _⟩ := he; cases h
        case row row args => exact Rows.mono h fun v w'' he => hnext v w'' he.2.1 he.2.2
      | halt x w' =>
        cases x <;> simp only [Oper.upon] at h ⊢
        case panic u => cases h.1
    · rename_i hw
      simp only [hw] at h
      exact hnext _ w h.2.1 h.2.2

theorem regionP {id : Nat} {a : Act} {w : World} (Inv : World → Prop) (ch : List (Nat × Value)) (hm : P.follows .mixedOrders = true) (hf : fine .any ops = true)
    (hch : (ch.all fun c => ops.any fun o => o.dst == some c.1) = true) (hI : Inv w.drew)
    (hgo : GoP P ops Inv (puts ch a) ops.toList) (hQ : ∀ w, Inv w → Q .normal (puts ch a) w) : (Code.region id ops true).wp P Q a w := by
  refine wp_region_any hm ?_
  have hp := puts_spec ch hch a
  have h := wpAny_pure (md := .any) (P := P) (Q := Q) hf hgo hQ (List.range ops.size) (Array.replicate ops.size false) a w.drew (by simp) List.nodup_range (fun j => ?_) ⟨hp.1.symm, hp.2.1.symm, fun t ht => ?_⟩ hI
  · rwa [List.length_range] at h
  · rw [List.mem_range]
    by_cases h : j < ops.size
    · simp [h]
    · simp [h]
  · refine hp.2.2 t ?_
    rw [Bool.eq_false_iff]
    intro hx
    obtain ⟨o, ho, hd⟩ := Array.any_eq_true'.1 hx
    obtain ⟨j, hj⟩ := Array.mem_iff_getElem?.1 ho
    have := ht j o hj (by simpa using hd)
    have hjs : j < ops.size := (Array.getElem?_eq_some_iff.1 hj).1
    simp [hjs] at this

/-! the operations walked once, in the listed order, each value found by the walk -/
def okL (ops : Array Oper) : List Oper → Bool
  | [] => true
  | o :: r =>
    (match o.op with | .select .. => false | .defer _ => false | _ => true) &&
    ((o.looksAt ops).all fun t => o.dst != some t && r.all fun p => p.dst != some t) &&
    (match o.dst with | none => true | some d => r.all fun p => p.dst != some d) && okL ops r

def Seq (P : Program) (ops : Array Oper) (Inv : World → Prop) : List Oper → Act → (Act → Prop) → Prop
  | [], a, K => K a
  | o :: r, a, K =>
    if Region.wanted o (yielded ops a.tmps) then
      ∃ v, (∀ w, Inv w → wpList P ops (fun e a' w' => e = .normal ∧ a' = a.put o.dst v ∧ Inv w') [o] a w) ∧ Seq P ops Inv r (a.put o.dst v) K
    else Seq P ops Inv r (a.put o.dst undef) K
theorem Seq.nil {Inv : World → Prop} {a : Act} {K : Act → Prop} (h : K a) : Seq P ops Inv [] a K := h
theorem Seq.skip {Inv : World → Prop} {a : Act} {K : Act → Prop} {o : Oper} {r : List Oper} (hw : Region.wanted o (yielded ops a.tmps) = false) (h : Seq P ops Inv r (a.put o.dst undef) K) : Seq P ops Inv (o :: r) a K := by
  unfold Seq
  rw [hw]
  exact h
theorem Seq.step {Inv : World → Prop} {a : Act} {K : Act → Prop} {o : Oper} {r : List Oper} (hw : Region.wanted o (yielded ops a.tmps) = true) (v : Value)
    (h1 : ∀ w, Inv w → wpList P ops (fun e a' w' => e = .normal ∧ a' = a.put o.dst v ∧ Inv w') [o] a w) (h : Seq P ops Inv r (a.put o.dst v) K) : Seq P ops Inv (o :: r) a K := by
  unfold Seq
  rw [hw]
  exact ⟨v, h1, h⟩

theorem put_same {a A : Act} {d : Option Tmp} {u v : Value} (h : a.put d u = a.put d v) (hs : a.tmps.size = A.tmps.size) (hA : A.put d v = A) : A.put d u = A := by
  cases d with
  | none => rfl
  | some d =>
    by_cases hd : d < a.tmps.size
    · have h1 := congrArg (fun b : Act => b.tmps[d]?) h
      simp only [Act.put, Array.getElem?_setIfInBounds_self, hd, if_true, Option.some.injEq] at h1
      subst h1
      exact hA
    · have hd' : A.tmps.size ≤ d := by rw [← hs]; exact Nat.le_of_not_lt hd
      simp only [Act.put]
      rw [Array.setIfInBounds_eq_of_size_le hd']
theorem put_of {A : Act} {d : Nat} {v : Value} (h : A.tmps[d]? = if d < A.tmps.size then some v else none) : A.put (some d) v = A := by
  have : A.tmps.setIfInBounds d v = A.tmps := by
    refine Array.ext (by simp) fun i h1 h2 => ?_
    by_cases e : d = i
    · subst e
      rw [if_pos h2] at h
      have : A.tmps[d] = v := by simpa [h2] using h
      simp [this]
    · simp [Array.getElem_setIfInBounds_ne h2 e]
  simp only [Act.put, this]

theorem Seq.done {Inv : World → Prop} {K : Act → Prop} : ∀ (l : List Oper) (a : Act), okL ops l = true → Seq P ops Inv l a K →
    ∃ A, K A ∧ A.defers = a.defers ∧ A.tmps.size = a.tmps.size ∧ (∀ t : Nat, (∀ o ∈ l, o.dst ≠ some t) → A.tmps[t]? = a.tmps[t]?) ∧ GoP P ops Inv A l
  | [], a, _, h => ⟨a, h, rfl, rfl, fun _ _ => rfl, GoP.nil⟩
  | o :: r, a, hok, h => by
    simp only [okL, Bool.and_eq_true] at hok
    obtain ⟨⟨⟨hop, hlk⟩, hd⟩, hr⟩ := hok
    have hlook : ∀ t ∈ o.looksAt ops, o.dst ≠ some t ∧ ∀ p ∈ r, p.dst ≠ some t := fun t ht => by
      have := List.all_eq_true.1 hlk t ht
      simp only [Bool.and_eq_true, bne_iff_ne, List.all_eq_true] at this
      exact this
    have key : ∀ v, Seq P ops Inv r (a.put o.dst v) K →
        ((∀ w, Inv w → wpList P ops (fun e a' w' => e = .normal ∧ a' = a.put o.dst v ∧ Inv w') [o] a w) ∨ (Region.wanted o (yielded ops a.tmps) = false ∧ v = undef)) →
        ∃ A, K A ∧ A.defers = a.defers ∧ A.tmps.size = a.tmps.size ∧ (∀ t : Nat, (∀ o' ∈ o :: r, o'.dst ≠ some t) → A.tmps[t]? = a.tmps[t]?) ∧ GoP P ops Inv A (o :: r) := by
      intro v hs ho
      obtain ⟨A, hK, h1, h2, h3, h4⟩ := Seq.done r (a.put o.dst v) hr hs
      have h1' : A.defers = a.defers := by rw [h1]; cases o.dst <;> rfl
      have h2' : A.tmps.size = a.tmps.size := by rw [h2]; cases o.dst <;> simp [Act.put]
      have h3' : ∀ t : Nat, (∀ o' ∈ o :: r, o'.dst ≠ some t) → A.tmps[t]? = a.tmps[t]? := fun t ht => by
        rw [h3 t fun p hp => ht p (List.mem_cons_of_mem _ hp)]
        have := ht o (by simp)
        cases hod : o.dst with
        | none => rfl
        | some d =>
          rw [hod] at this
          have hne : d ≠ t := fun e => this (by rw [e])
          simp [Act.put, Array.getElem?_setIfInBounds_ne hne]
      have hput : A.put o.dst v = A := by
        cases hod : o.dst with
        | none => rfl
        | some d =>
          rw [hod] at hd h3 h2
          refine put_of ?_
          have := h3 d fun p hp => by
            have := List.all_eq_true.1 hd p hp
            simpa using this
          rw [this, h2]
          simp only [Act.put, Array.getElem?_setIfInBounds_self, Array.size_setIfInBounds]
      have hagree : Agree ops A (Array.replicate ops.size false) A := ⟨rfl, rfl, fun _ _ => rfl⟩
      have heval : ∀ x ∈ o.op.operands, A.eval x = a.eval x := by
        intro x hx
        cases x with
        | tmp t =>
          have hm : t ∈ o.looksAt ops := List.mem_append_left _ (List.mem_filterMap.2 ⟨.tmp t, by simpa using hx, rfl⟩)
          have h5 := hlook t hm
          have := h3' t fun p hp => by
            rcases List.mem_cons.1 hp with rfl | hp
            · exact h5.1
            · exact h5.2 p hp
          simp [Act.eval, this]
        | _ => rfl
      have hwant : Region.wanted o (yielded ops A.tmps) = Region.wanted o (yielded ops a.tmps) := by
        unfold Region.wanted
        cases hg : o.guard with
        | none => rfl
        | some gw =>
          obtain ⟨g, want⟩ := gw
          have hy : yielded ops A.tmps g = yielded ops a.tmps g := by
            unfold yielded
            cases ht : (ops[g]?).bind (·.dst) with
            | none => rfl
            | some t =>
              have hm : t ∈ o.looksAt ops := by simp [Oper.looksAt, hg, ht]
              have h5 := hlook t hm
              have := h3' t fun p hp => by
                rcases List.mem_cons.1 hp with rfl | hp
                · exact h5.1
                · exact h5.2 p hp
              simp [this]
          simp only [hy]
      refine ⟨A, hK, h1', h2', h3', GoP.cons (fun w hI => ?_) h4⟩
      unfold wpList
      rw [hwant]
      rcases ho with ho | ⟨hw, rfl⟩
      case inr =>
        rw [hw]
        exact ⟨rfl, hput, hI⟩
      have ho := ho w hI
      unfold wpList at ho
      split
      · rename_i hw
        simp only [hw, if_true] at ho
        rcases ho with ho | ⟨_, _, _, ho, _⟩
        case inr => cases ho
        refine .inl ?_
        have f1 : ∀ cs b, o.op ≠ .select cs b := fun cs b e => by rw [e] at hop; cases hop
        unfold Oper.wp at ho ⊢
        rw [execOp_congr o f1 heval]
        generalize (execOp a.eval o).run P w = r at *
        have fin : ∀ u w', a.put o.dst u = a.put o.dst v → Inv w' → A.put o.dst u = A := fun u w' h _ => put_same h h2'.symm hput
        cases r with
        | ok x w' =>
          cases x <;> simp only [Oper.upon] at ho ⊢
          case value u => exact ⟨rfl, put_same ho.2.1 h2'.symm hput, ho.2.2⟩
          case skip => exact ⟨rfl, put_same ho.2.1 h2'.symm hput, ho.2.2⟩
          case defer d =>
            have := congrArg (fun b : Act => b.defers.length) ho.2.1
            cases hod : o.dst <;> simp [Act.put, hod] at this
          case enter f args =>
            refine Calls.mono ho fun e w'' he => ?_
            cases e with
            | returned u => exact ⟨rfl, put_same he.2.1 h2'.symm hput, he.2.2⟩
            | panicked c => cases he.1
            | outgrown => obtain ⟨_, _, h, _⟩ := he; cases h
          case row row args => exact Rows.mono ho fun u w'' he => ⟨rfl, put_same he.2.1 h2'.symm hput, he.2.2⟩
        | halt x w' =>
          cases x <;> simp only [Oper.upon] at ho ⊢
          case panic u => cases ho.1
      · rename_i hw
        simp only [hw] at ho
        refine ⟨rfl, ?_, hI⟩
        exact put_same ho.2.1 h2'.symm hput
    unfold Seq at h
    split at h
    · obtain ⟨v, h1, h2⟩ := h
      exact key v h2 (.inl h1)
    · rename_i hw
      exact key undef h (.inr ⟨by simpa using hw, rfl⟩)

theorem regionS {id : Nat} {a : Act} {w : World} (Inv : World → Prop) (hm : P.follows .mixedOrders = true) (hf : fine .any ops = true) (hok : okL ops ops.toList = true) (hI : Inv w.drew)
    (hs : Seq P ops Inv ops.toList a fun A => ∀ w, Inv w → Q .normal A w) : (Code.region id ops true).wp P Q a w := by
  obtain ⟨A, hK, h1, h2, h3, h4⟩ := Seq.done _ _ hok hs
  refine wp_region_any hm ?_
  have h := wpAny_pure (md := .any) (P := P) (Q := Q) hf h4 hK (List.range ops.size) (Array.replicate ops.size false) a w.drew (by simp) List.nodup_range (fun j => ?_) ⟨h1.symm, h2.symm, fun t ht => ?_⟩ hI
  · rwa [List.length_range] at h
  · rw [List.mem_range]
    by_cases h : j < ops.size
    · simp [h]
    · simp [h]
  · refine (h3 t fun o ho hd => ?_).symm
    obtain ⟨j, hj⟩ := List.mem_iff_getElem?.1 ho
    have hj : ops[j]? = some o := by simpa using hj
    have := ht j o hj hd
    have hjs : j < ops.size := (Array.getElem?_eq_some_iff.1 hj).1
    simp [hjs] at this
/-- the operations walked in the listed order, behind a name that nothing unfolds -/
structure Walk (P : Program) (ops : Array Oper) (Inv : World → Prop) (l : List Oper) (a : Act) (K : Act → Prop) : Prop where
  go : Seq P ops Inv l a K
/-- where an operation ends -/
structure Ends (A : Act) (Inv : World → Prop) (e : Exit) (a' : Act) (w' : World) : Prop where
  e : e = .normal
  a : a' = A
  i : Inv w'
theorem Ends.eq {A : Act} {Inv : World → Prop} : Ends A Inv = fun e a' w' => e = .normal ∧ a' = A ∧ Inv w' := by
  funext e a' w'
  exact propext ⟨fun h => ⟨h.e, h.a, h.i⟩, fun h => ⟨h.1, h.2.1, h.2.2⟩⟩
theorem Walk.nil {Inv : World → Prop} {a : Act} {K : Act → Prop} (h : K a) : Walk P ops Inv [] a K := ⟨h⟩
theorem Walk.skip {Inv : World → Prop} {a : Act} {K : Act → Prop} {o : Oper} {r : List Oper} (hw : Region.wanted o (yielded ops a.tmps) = false) (h : Walk P ops Inv r (a.put o.dst undef) K) : Walk P ops Inv (o :: r) a K := ⟨Seq.skip hw h.go⟩
theorem Walk.next {Inv : World → Prop} {a : Act} {K : Act → Prop} {o : Oper} {r : List Oper} (hw : Region.wanted o (yielded ops a.tmps) = true) {v : Value}
    (h1 : ∀ w, Inv w → wpList P ops (Ends (a.put o.dst v) Inv) [o] a w) (h : Walk P ops Inv r (a.put o.dst v) K) : Walk P ops Inv (o :: r) a K :=
  ⟨Seq.step hw v (fun w hI => Ends.eq ▸ h1 w hI) h.go⟩
/-- what binds an operation, read off lists -/
def asks (l : List Oper) (o : Oper) (t : List Value) : Bool :=
  match o.guard with
  | none => true
  | some (g, want) => match l[g]? with
    | some p => match p.dst with
      | some d => match t[d]? with
        | some (.bool b) => b == want
        | _ => false
      | none => false
    | none => false
theorem asks_eq (ops : Array Oper) (o : Oper) (t : Array Value) : Region.wanted o (yielded ops t) = asks ops.toList o t.toList := by
  unfold Region.wanted asks
  cases hg : o.guard with
  | none => rfl
  | some gw =>
    obtain ⟨g, want⟩ := gw
    dsimp only
    unfold yielded
    rw [← Array.getElem?_toList]
    cases ops.toList[g]? with
    | none => rfl
    | some p =>
      dsimp only [Option.bind_some]
      cases hd : p.dst with
      | none => rfl
      | some d =>
        dsimp only [Option.bind_some]
        rw [← Array.getElem?_toList]
        cases t.toList[d]? with
        | none => rfl
        | some v => cases v <;> first | rfl | (rename_i b; cases b <;> cases want <;> rfl)
theorem Walk.off {Inv : World → Prop} {a : Act} {K : Act → Prop} {o : Oper} {r : List Oper} (hw : asks ops.toList o a.tmps.toList = false) (h : Walk P ops Inv r (a.put o.dst undef) K) : Walk P ops Inv (o :: r) a K :=
  Walk.skip ((asks_eq _ _ _).trans hw) h
theorem Walk.on {Inv : World → Prop} {a : Act} {K : Act → Prop} {o : Oper} {r : List Oper} (hw : asks ops.toList o a.tmps.toList = true) {v : Value}
    (h1 : ∀ w, Inv w → wpList P ops (Ends (a.put o.dst v) Inv) [o] a w) (h : Walk P ops Inv r (a.put o.dst v) K) : Walk P ops Inv (o :: r) a K :=
  Walk.next ((asks_eq _ _ _).trans hw) h1 h
theorem regionW {id : Nat} {a : Act} {w : World} (Inv : World → Prop) (hm : P.follows .mixedOrders = true) (hf : fine .any ops = true) (hok : okL ops ops.toList = true) (hI : Inv w.drew) {l : List Oper} (hl : ops.toList = l)
    (hs : Walk P ops Inv l a fun A => ∀ w, Inv w → Q .normal A w) : (Code.region id ops true).wp P Q a w := by
  subst hl
  exact regionS Inv hm hf hok hI hs.go
end
end Pu
end Go.Proofs.YtdbkkldgobkjcaaGreat

namespace Go.Proofs.YtdbkkldgobkjcaaGreat
open Go.RowKit
namespace It
attribute [local go_sem] Oper.semAt_some

/-- what is made of each item and how many another list has, where it is above 0 -/
def eachL (f : Int → Int → Int) (a b : List Item) : List Item := a.filterMap fun x => if 0 < f x.2 (ofSum x.1 b) then some (x.1, f x.2 (ofSum x.1 b)) else none
theorem eachL_snoc (f : Int → Int → Int) (a b : List Item) (x : Item) : eachL f (a ++ [x]) b = eachL f a b ++ (if 0 < f x.2 (ofSum x.1 b) then [(x.1, f x.2 (ofSum x.1 b))] else []) := by
  unfold eachL
  rw [List.filterMap_append]
  congr 1
  simp only [List.filterMap_cons, List.filterMap_nil]
  split <;> simp_all
theorem eachL_len (f : Int → Int → Int) (a b : List Item) : (eachL f a b).length ≤ a.length := List.length_filterMap_le _ _
def meetF (a b : Int) : Int := min a b
def restF (a b : Int) : Int := wrap64 (a - b)
def both (f : Int → Int → Int) (a b : List Item) : List Item := if may a && may b then eachL f a b else []

set_option maxHeartbeats 400000 in
theorem rest1_calls (a b : Int) (w : World) : Calls Tryz.prog 95 #[.int .i64 a, .int .i64 b] w fun e w' => e = .returned (.int .i64 (restF a b)) ∧ w = w' := by
  go_enter Tryz.func95, Tryz.ntmps95
  go_wp2
  go_ret
  exact ⟨rfl, rfl⟩

/-- an item's type's row -/
theorem item_info : (Tryz.prog.info? 37).map (fun i => (i.zero, i.size, i.bytes)) = some (some (.agg #[.string ⟨#[]⟩, .int .i64 0]), 2, 24) := by kernel_rfl

theorem row_below {A B : World} {lo : Nat} {e : TypeId} {size n : Nat} {v : Value} {xs : List Value} (h : A.ownsRow lo e size v n xs) (hb : Below A.heap.size A B) : B.ownsRow lo e size v n xs := by
  refine ⟨h.1, h.2.elim Or.inl fun hx => .inr ?_⟩
  revert hx
  rintro ⟨g, cap, cur, rfl, hbg, hg, hnc⟩
  exact ⟨g, cap, cur, rfl, hbg, (hb.block g (Array.getElem?_eq_some_iff.1 hg).1).trans hg, hnc⟩

set_option maxRecDepth 100000 in
set_option maxHeartbeats 4000000 in
theorem each_rest (a b : List Item) (va vb : Value) (w : World) (ha : ItemsAt w 0 w.heap.size va a) (hb : ItemsAt w 0 w.heap.size vb b) (hFa : Fits a) (hFb : Fits b) :
    Calls Tryz.prog 94 #[va, vb, .func (.func 95) #[] #[]] w fun e w' =>
      (∃ v, e = .returned v ∧ w'.ownsRow w.heap.size 37 2 v (both restF a b).length (itemCells (both restF a b))) ∧ Below w.heap.size w w' := by
  obtain ⟨A, c, rfl, hc1, hc2⟩ := ha.form
  obtain ⟨A', c', rfl, hc1', hc2'⟩ := hb.form
  unfold maxLen at hc2 hc2'
  have cA := Lib.hid (fun W hI => may_calls a (.slice A a.length c) W hI hFa)
  have cB := Lib.hid (fun W hI => may_calls b (.slice A' b.length c') W hI hFb)
  have hBoth := Lib.hid (show both restF a b = if may a && may b then eachL restF a b else [] from rfl)
  generalize both restF a b = R at *
  have hma := Lib.hid (show may a = true → a.length ≤ 16 from fun h => by unfold may at h; simp at h; exact h.2)
  generalize may a = ma at *
  generalize may b = mb at *
  refine (callsIn_wide (n := 6)).1 ?_
  refine callsIn_of_wp_marks Tryz.func94 rfl trivial ?_ rfl
  simp only [Tryz.ntmps94, List.size_toArray, List.length_cons, List.length_nil, Nat.reduceAdd, Nat.reduceSub, Array.replicate_succ, Array.replicate_zero, List.push_toArray, List.append_toArray, List.nil_append, List.cons_append]
  gi_wp2_with fail
  refine ⟨trivial, ?_⟩
  have bb : Boxed ((w.alloc (.cells #[.slice A' b.length c'] 30)).alloc (.cells #[.func (.func 95) #[] #[]] 121)) w.heap.size 30 (.slice A' b.length c') := (Boxed.new w _ _).alloc _
  have bf : Boxed ((w.alloc (.cells #[.slice A' b.length c'] 30)).alloc (.cells #[.func (.func 95) #[] #[]] 121)) (w.heap.size + 1) 121 (.func (.func 95) #[] #[]) := by
    have := Boxed.new (w.alloc (.cells #[.slice A' b.length c'] 30)) 121 (.func (.func 95) #[] #[])
    rwa [World.size_alloc] at this
  have hB1 : Below w.heap.size w ((w.alloc (.cells #[.slice A' b.length c'] 30)).alloc (.cells #[.func (.func 95) #[] #[]] 121)) := ((Below.refl _ w).alloc (Nat.le_refl _) _).alloc (by simp) _
  have hs1 : w.heap.size + 2 = ((w.alloc (.cells #[.slice A' b.length c'] 30)).alloc (.cells #[.func (.func 95) #[] #[]] 121)).heap.size := by simp
  generalize ((w.alloc (.cells #[.slice A' b.length c'] 30)).alloc (.cells #[.func (.func 95) #[] #[]] 121)) = w1 at *
  refine (callsIn_wide.2 (cA.out _ (ha.mono hB1 (by omega)))).mono ?_
  rintro e w2 ⟨rfl, h2⟩
  have bb2 := boxed_below bb h2
  have bf2 := boxed_below bf h2
  have hB2 := hB1.trans (h2.mono (by omega))
  have hs2 := h2.size
  have hcb := bb2.cell
  cases ma with
  | false =>
    have HR := Lib.hid (show R = [] by rw [hBoth.out]; rfl)
    gi_wp2_with (refine ⟨trivial, ?_⟩)
    exact ⟨_, results_tmp rfl _ _ _, ⟨_, rfl, by rw [HR.out]; exact World.ownsRow_nil _ _ _ _⟩, hB2⟩
  | true =>
    gi_wp2_with fail
    refine ⟨trivial, ?_⟩
    refine (callsIn_wide.2 (cB.out _ (hb.mono hB2 (by omega)))).mono ?_
    rintro e w3 ⟨rfl, h3⟩
    have bb3 := boxed_below bb2 h3
    have bf3 := boxed_below bf2 h3
    have hB3 := hB2.trans (h3.mono (by omega))
    have hs3 := h3.size
    clear hcb
    cases mb with
    | false =>
      have HR := Lib.hid (show R = [] by rw [hBoth.out]; rfl)
      gi_wp2_with (refine ⟨trivial, ?_⟩)
      exact ⟨_, results_tmp rfl _ _ _, ⟨_, rfl, by rw [HR.out]; exact World.ownsRow_nil _ _ _ _⟩, hB3⟩
    | true =>
      have HR := Lib.hid (show R = eachL restF a b by rw [hBoth.out]; rfl)
      have hlen := hma.out trivial
      gi_wp2_with (refine ⟨trivial, ?_⟩; gi_at_call 86; refine (callsIn_wide.2 (all_calls A _ c _)).mono ?_; rintro e w' ⟨rfl, rfl⟩)
      have b4 : Boxed ((w3.alloc (.cells #[.slice none 0 0] 30)).alloc (.cells #[.slice A a.length c] 30)) w3.heap.size 30 (.slice none 0 0) := (Boxed.new w3 _ _).alloc _
      have bl4 : Boxed ((w3.alloc (.cells #[.slice none 0 0] 30)).alloc (.cells #[.slice A a.length c] 30)) (w3.heap.size + 1) 30 (.slice A a.length c) := by
        have := Boxed.new (w3.alloc (.cells #[.slice none 0 0] 30)) 30 (.slice A a.length c)
        rwa [World.size_alloc] at this
      have bb4 : Boxed ((w3.alloc (.cells #[.slice none 0 0] 30)).alloc (.cells #[.slice A a.length c] 30)) w.heap.size 30 (.slice A' b.length c') := (bb3.alloc _).alloc _
      have bf4 : Boxed ((w3.alloc (.cells #[.slice none 0 0] 30)).alloc (.cells #[.slice A a.length c] 30)) (w.heap.size + 1) 121 (.func (.func 95) #[] #[]) := (bf3.alloc _).alloc _
      have hB4 : Below w.heap.size w ((w3.alloc (.cells #[.slice none 0 0] 30)).alloc (.cells #[.slice A a.length c] 30)) := (hB3.alloc (by omega) _).alloc (by simp; omega) _
      have hs4 : w3.heap.size + 2 = ((w3.alloc (.cells #[.slice none 0 0] 30)).alloc (.cells #[.slice A a.length c] 30)).heap.size := by simp
      generalize ((w3.alloc (.cells #[.slice none 0 0] 30)).alloc (.cells #[.slice A a.length c] 30)) = w4 at *
      refine range_all (n := 6) rfl trivial (by omega) (Bs := w3.heap.size + 1) (n₀ := w.heap.size) (v := .slice A a.length c) (L := a) rfl rfl (by omega) (by omega) bl4.cell ((ha.mono hB4 (Nat.le_refl _)))
        (fun pre W => Boxed W w.heap.size 30 (.slice A' b.length c') ∧ Boxed W (w.heap.size + 1) 121 (.func (.func 95) #[] #[]) ∧
          ∃ v, Boxed W w3.heap.size 30 v ∧ W.ownsRow w.heap.size 37 2 v (eachL restF (vals pre) b).length (itemCells (eachL restF (vals pre) b)))
        (fun _ _ _ => False)
        (fun s A B row hs hg hr => ⟨boxed_keep hs.1 hg (fun r e => (hr r e).2), boxed_keep hs.2.1 hg (fun r e => (hr r e).2), by
          obtain ⟨v, h1, h2⟩ := hs.2.2
          exact ⟨v, boxed_keep h1 hg (fun r e => (hr r e).2), row_keep h2 hg (fun r e => (hr r e).2)⟩⟩)
        (fun c s A B row hs hg hr => hs)
        ⟨bb4, bf4, _, b4, World.ownsRow_nil _ _ _ _⟩
        (fun x => { tmps := #[.slice A a.length c, .slice A' b.length c', .func (.func 95) #[] #[], undef, .pointer (some ⟨w.heap.size, 0, none⟩), .pointer (some ⟨w.heap.size + 1, 0, none⟩), .slice none 0 0, .pointer (some ⟨w3.heap.size, 0, none⟩), .string x.1.1, .int .i64 x.1.2, undef, .slice A a.length c, .bool true, .bool false, .bool false, .slice A' b.length c', .bool true, .bool false, .bool false, .slice A a.length c, .func (.func 117) #[] #[.pointer (some ⟨w3.heap.size + 1, 0, none⟩)], .string x.1.1, .int .i64 x.1.2, undef, undef, undef, undef, undef, undef, undef, undef, undef, undef, undef, undef, undef, undef, undef], defers := [] }) ?assign ?body ?done ?stop
      case assign =>
        intro l x W K hK
        dsimp only [enc2]
        gi_wp2
        exact hK
      case body =>
        rintro l pre ⟨⟨xs, xn⟩, hx⟩ W ⟨hbb, hbf, v, hbv, hown⟩ hB hsz hlen'
        have hS := Lib.hid (show eachL restF (vals (pre ++ [⟨(xs, xn), hx⟩])) b = eachL restF (vals pre) b ++ (if 0 < restF xn (ofSum xs b) then [(xs, restF xn (ofSum xs b))] else []) by rw [vals_snoc, eachL_snoc])
        have hPL := Lib.hid (show (eachL restF (vals pre) b).length ≤ 16 from Nat.le_trans (eachL_len _ _ _) (by simp [vals]; omega))
        have hbW : ItemsAt W.drew 0 W.drew.heap.size (.slice A' b.length c') b := ((hb.below (hB4.trans hB)).wide (B' := W.heap.size) (Nat.le_refl _) (by omega)).mono ((Below.refl _ W).drew) (Nat.le_refl _)
        have hcb := hbb.cell
        have hcf := hbf.cell
        have hmx : Tryz.prog.follows .mixedOrders = true := by kernel_rfl
        have cO := Lib.hid (fun W hI => of_calls b xs (.slice A' b.length c') W hI)
        dsimp only
        generalize ofSum xs b = o at *
        have cM := Lib.hid (fun W => rest1_calls xn o W)
        generalize restF xn o = m at *
        generalize eachL restF (vals pre) b = S at *
        gi_wp2
        refine Pu.region_puts (fun W' => Below W.drew.heap.size W.drew W') [(23, .func (.func 95) #[] #[]), (24, .int .i64 xn), (25, .slice A' b.length c'), (26, .string xs), (27, .int .i64 o), (28, .int .i64 m), (10, .int .i64 m)] hmx (by kernel_rfl) (by kernel_rfl) (Below.refl _ _) ?_ ?_
        all_goals simp only [Pu.puts, Act.put, List.setIfInBounds_toArray, List.set_cons_succ, List.set_cons_zero]
        · repeat' refine Pu.Go.cons (fun W1 h1 => ?_) ?_
          all_goals try exact Pu.Go.nil
          all_goals have hcb1 := (boxed_below (show Boxed W.drew _ _ _ from hbb) h1).cell
          all_goals have hcf1 := (boxed_below (show Boxed W.drew _ _ _ from hbf) h1).cell
          all_goals gi_wp2_with (first
            | (refine ⟨trivial, ?_⟩; gi_at_call 121; refine (CallsIn.inRound l (callsIn_wide.2 (cO.out _ (hbW.mono h1 h1.size)))).mono ?_; rintro e W2 ⟨rfl, h2⟩)
            | (refine ⟨trivial, ?_⟩; gi_at_call 95; refine (CallsIn.inRound l (callsIn_wide.2 (cM.out _))).mono ?_; rintro e W2 ⟨rfl, rfl⟩))
          all_goals first
            | exact h1
            | exact (show Below W.drew.heap.size W.drew W1 from h1).trans (h2.mono h1.size)
        · intro W1 h1
          have hbb1 := boxed_below (show Boxed W.drew _ _ _ from hbb) h1
          have hbf1 := boxed_below (show Boxed W.drew _ _ _ from hbf) h1
          have hbv1 := boxed_below (show Boxed W.drew _ _ _ from hbv) h1
          have hown1 : W1.ownsRow w.heap.size 37 2 v S.length (itemCells S) := row_below (show W.drew.ownsRow _ _ _ _ _ _ from hown) h1
          have hcv1 := hbv1.cell
          have hfv1 := hbv1.frozen
          have hB1 : Below w.heap.size W W1 := ((Below.refl w.heap.size W).drew).trans (h1.mono (show w.heap.size ≤ W.heap.size by omega))
          clear hbW hcb hcf
          by_cases hm : 0 < m
          · have hd : decide (0 < m) = true := by simpa using hm
            have hS2 := Lib.hid (show eachL restF (vals (pre ++ [⟨(xs, xn), hx⟩])) b = S ++ [(xs, m)] by rw [hS.out, if_pos hm])
            clear hS
            obtain ⟨i0, hi0, hz0⟩ := Option.map_eq_some_iff.1 item_info
            simp only [Prod.mk.injEq] at hz0
            obtain ⟨hz0, hz1, hz2⟩ := hz0
            gi_wp2_with (gi_at_builtin
                         refine wpListIn_append_sl _ rfl (.tmp 31) (.tmp 35) _ rfl w.heap.size 37 i0 _ 2 24 Tryz.underlying30 hi0 hz0 hz1 hz2 rfl (by omega) v S.length (itemCells S) rfl (hown1.alloc _) W1.heap.size (W1.heap.size + 1) _ 1 [.string xs, .int .i64 m] rfl (Sl.new W1 #[.string xs, .int .i64 m] 37 (n := 1) rfl (by unfold maxLen; omega)) (by simp [Value.oneCell']) (by have := hPL.out; unfold maxLen; omega) (by have := hPL.out; omega) (by have := hB1.size; simp; omega) ?_
                         intro v1 W2 hv1 hg1 hat1
                         obtain ⟨k1, k2, k3, k4, k5⟩ := hbv1.appended (by decide) hown1 (by have := hB1.size; omega) (by omega) hv1 hg1
                         obtain ⟨g, cap, rfl⟩ := ownsRow_succ hv1
                         have hcv2 := k1.cell
                         have hfv2 := k1.frozen)
            refine ⟨(show KeepsFrom w4.heap.size W W1 from ⟨hB1.size, fun k _ _ hk _ => (h1.block k (Array.getElem?_eq_some_iff.1 hk).1).trans hk⟩).trans (k4.from _), hB1.trans k5, ?_⟩
            have n1 := hbb1.not_row (show 30 ≠ 37 by decide) hown1
            have n2 := hbf1.not_row (show 121 ≠ 37 by decide) hown1
            have hv2 : (W2.setCell ⟨w3.heap.size, 0, none⟩ (.slice (some ⟨g, 0, none⟩) (S.length + 1) cap)).ownsRow w.heap.size 37 2 (.slice (some ⟨g, 0, none⟩) (S.length + 1) cap) (S ++ [(xs, m)]).length (itemCells (S ++ [(xs, m)])) := by
              rw [itemCells_append, List.length_append]; exact k3
            dsimp only
            rw [hS2.out]
            exact ⟨((hbb1.alloc _).kept hg1 n1).other (by omega) _, ((hbf1.alloc _).kept hg1 n2).other (by omega) _, _, k2, hv2⟩
          · have hd : decide (0 < m) = false := by simpa using hm
            have hS2 := Lib.hid (show eachL restF (vals (pre ++ [⟨(xs, xn), hx⟩])) b = S by rw [hS.out, if_neg hm, List.append_nil])
            clear hS
            gi_wp2
            refine ⟨?_, hB1, ?_⟩
            · exact ⟨hB1.size, fun k _ _ hk _ => (h1.block k (Array.getElem?_eq_some_iff.1 hk).1).trans hk⟩
            · dsimp only
              rw [hS2.out]
              exact ⟨hbb1, hbf1, v, hbv1, hown1⟩
      case done =>
        rintro D W hD ⟨hbb, hbf, v, hbv, hown⟩ hB hK
        rw [vals_all] at hown
        have hc0 := hbv.cell
        gi_wp2
        refine ⟨by simp, .inl ⟨_, _, rfl, run_takeDeferred hK, ?_⟩⟩
        refine ⟨_, results_tmp rfl _ _ _, ⟨v, rfl, ?_⟩, below_end (hB4.trans hB) (by omega) hK⟩
        rw [HR.out]
        exact row_keep hown (grownBy_putObj' _ D (.deferred none)) (fun r e => by cases e; exact ⟨_, hK, rfl⟩)
      case stop =>
        rintro D c pre W hD hpre h hB hK
        exact h.elim
end It
end Go.Proofs.YtdbkkldgobkjcaaGreat

namespace Go.Proofs.YtdbkkldgobkjcaaGreat
open Go.RowKit
namespace It

theorem ownsRow_wide {w : World} {lo lo' : Nat} {e : TypeId} {size n : Nat} {v : Value} {xs : List Value} (h : w.ownsRow lo e size v n xs) (hl : lo' ≤ lo) : w.ownsRow lo' e size v n xs := by
  refine ⟨h.1, h.2.elim Or.inl fun hx => .inr ?_⟩
  revert hx
  rintro ⟨g, cap, cur, rfl, hbg, hg⟩
  exact ⟨g, cap, cur, rfl, Nat.le_trans hl hbg, hg⟩

set_option maxHeartbeats 400000 in
theorem rest_calls (a b : List Item) (va vb : Value) (w : World) (ha : ItemsAt w 0 w.heap.size va a) (hb : ItemsAt w 0 w.heap.size vb b) (hFa : Fits a) (hFb : Fits b) :
    Calls Tryz.prog 53 #[va, vb] w fun e w' =>
      (∃ v, e = .returned v ∧ w'.ownsRow w.heap.size 37 2 v (both restF a b).length (itemCells (both restF a b))) ∧ Below w.heap.size w w' := by
  have cE := Lib.hid (each_rest a b va vb w ha hb hFa hFb)
  obtain ⟨A, c, rfl, -⟩ := ha.form
  obtain ⟨A', c', rfl, -⟩ := hb.form
  generalize both restF a b = R at *
  go_enter Tryz.func53, Tryz.ntmps53
  go_wp2_with fail
  refine cE.out.mono ?_
  rintro e w1 ⟨⟨v, rfl, h1⟩, h2⟩
  obtain ⟨A1, c1, rfl, -⟩ := (ItemsAt.of_own h1).form
  go_wp2
  go_ret
  exact ⟨⟨_, rfl, h1⟩, h2⟩

/-- a has at least what b has -/
def covers (a b : List Item) : Bool := may a && may b && ((both restF b a).length == 0)

set_option maxRecDepth 100000 in
set_option maxHeartbeats 1000000 in
theorem covers_calls (a b : List Item) (va vb : Value) (w : World) (ha : ItemsAt w 0 w.heap.size va a) (hb : ItemsAt w 0 w.heap.size vb b) (hFa : Fits a) (hFb : Fits b) :
    Calls Tryz.prog 92 #[va, vb] w fun e w' => e = .returned (.bool (covers a b)) ∧ Below w.heap.size w w' := by
  have cA := Lib.hid (fun W hI => may_calls a va W hI hFa)
  have cB := Lib.hid (fun W hI => may_calls b vb W hI hFb)
  have cR := Lib.hid (fun W hI hJ => rest_calls b a vb va W hI hJ hFb hFa)
  have HC := Lib.hid (show covers a b = (may a && may b && ((both restF b a).length == 0)) from rfl)
  obtain ⟨A, c, rfl, hc1, hc2⟩ := ha.form
  obtain ⟨A', c', rfl, hc1', hc2'⟩ := hb.form
  generalize covers a b = C at *
  generalize both restF b a = R at *
  generalize may a = ma at *
  generalize may b = mb at *
  go_enter Tryz.func92, Tryz.ntmps92
  go_wp2_with fail
  refine (cA.out _ ha).mono ?_
  rintro e w1 ⟨rfl, h1⟩
  have hb1 := hb.mono h1 h1.size
  have ha1 := ha.mono h1 h1.size
  cases ma with
  | false =>
    have HC2 := Lib.hid (show C = false by rw [HC.out]; rfl)
    go_wp2_with fail
    go_ret
    exact ⟨ret1 (boo HC2.out.symm), h1⟩
  | true =>
    go_wp2_with fail
    refine (cB.out _ hb1).mono ?_
    rintro e w2 ⟨rfl, h2⟩
    have hb2 := hb1.mono h2 h2.size
    have ha2 := ha1.mono h2 h2.size
    have hB2 := h1.trans (h2.mono h1.size)
    cases mb with
    | false =>
      have HC2 := Lib.hid (show C = false by rw [HC.out]; rfl)
      go_wp2_with fail
      go_ret
      exact ⟨ret1 (boo HC2.out.symm), hB2⟩
    | true =>
      go_wp2_with fail
      refine (cR.out _ hb2 ha2).mono ?_
      rintro e w3 ⟨⟨v, rfl, hv⟩, h3⟩
      have hB3 := hB2.trans (h3.mono hB2.size)
      obtain ⟨A1, c1, rfl, -⟩ := (ItemsAt.of_own hv).form
      have HC2 := Lib.hid (show C = ((R.length : Int) == 0) by rw [HC.out, Bool.eq_iff_iff]; simp [Int.natCast_eq_zero])
      go_wp2
      go_ret
      exact ⟨ret1 (boo (by rw [HC2.out])), hB3⟩

/-- the rest, and why not -/
def minusOf (a b : List Item) : List Item × Int := if may a && may b then if covers a b then (both restF a b, 0) else ([], 51) else ([], 60)

set_option maxRecDepth 100000 in
set_option maxHeartbeats 1000000 in
theorem minus_calls (a b : List Item) (va vb : Value) (w : World) (ha : ItemsAt w 0 w.heap.size va a) (hb : ItemsAt w 0 w.heap.size vb b) (hFa : Fits a) (hFb : Fits b) :
    Calls Tryz.prog 51 #[va, vb] w fun e w' =>
      (∃ v, e = .returned (.tuple #[v, .int .i64 (minusOf a b).2]) ∧ w'.ownsRow w.heap.size 37 2 v (minusOf a b).1.length (itemCells (minusOf a b).1)) ∧ Below w.heap.size w w' := by
  have cA := Lib.hid (fun W hI => may_calls a va W hI hFa)
  have cB := Lib.hid (fun W hI => may_calls b vb W hI hFb)
  have cC := Lib.hid (fun W hI hJ => covers_calls a b va vb W hI hJ hFa hFb)
  have cR := Lib.hid (fun W hI hJ => rest_calls a b va vb W hI hJ hFa hFb)
  have HM := Lib.hid (show minusOf a b = if may a && may b then if covers a b then (both restF a b, 0) else ([], 51) else ([], 60) from rfl)
  obtain ⟨A, c, rfl, hc1, hc2⟩ := ha.form
  obtain ⟨A', c', rfl, hc1', hc2'⟩ := hb.form
  generalize minusOf a b = M at *
  generalize covers a b = C at *
  generalize both restF a b = R at *
  generalize may a = ma at *
  generalize may b = mb at *
  go_enter Tryz.func51, Tryz.ntmps51
  go_wp2_with fail
  refine (cA.out _ ha).mono ?_
  rintro e w1 ⟨rfl, h1⟩
  have hb1 := hb.mono h1 h1.size
  have ha1 := ha.mono h1 h1.size
  cases ma with
  | false =>
    obtain rfl : M = ([], 60) := by rw [HM.out]; rfl
    go_wp2_with fail
    go_ret2
    exact ⟨⟨_, rfl, World.ownsRow_nil _ _ _ _⟩, h1⟩
  | true =>
    go_wp2_with fail
    refine (cB.out _ hb1).mono ?_
    rintro e w2 ⟨rfl, h2⟩
    have hb2 := hb1.mono h2 h2.size
    have ha2 := ha1.mono h2 h2.size
    have hB2 := h1.trans (h2.mono h1.size)
    cases mb with
    | false =>
      obtain rfl : M = ([], 60) := by rw [HM.out]; rfl
      go_wp2_with fail
      go_ret2
      exact ⟨⟨_, rfl, World.ownsRow_nil _ _ _ _⟩, hB2⟩
    | true =>
      go_wp2_with fail
      refine (cC.out _ ha2 hb2).mono ?_
      rintro e w3 ⟨rfl, h3⟩
      have hb3 := hb2.mono h3 h3.size
      have ha3 := ha2.mono h3 h3.size
      have hB3 := hB2.trans (h3.mono hB2.size)
      cases C with
      | false =>
        obtain rfl : M = ([], 51) := by rw [HM.out]; rfl
        go_wp2_with fail
        go_ret2
        exact ⟨⟨_, rfl, World.ownsRow_nil _ _ _ _⟩, hB3⟩
      | true =>
        obtain rfl : M = (R, 0) := by rw [HM.out]; rfl
        go_wp2_with fail
        refine (cR.out _ ha3 hb3).mono ?_
        rintro e w4 ⟨⟨v, rfl, hv⟩, h4⟩
        obtain ⟨A1, c1, rfl, -⟩ := (ItemsAt.of_own hv).form
        go_wp2
        go_ret2
        exact ⟨⟨_, rfl, ownsRow_wide hv hB3.size⟩, hB3.trans (h4.mono hB3.size)⟩
end It
end Go.Proofs.YtdbkkldgobkjcaaGreat

namespace Go.Proofs.YtdbkkldgobkjcaaGreat
open Go.RowKit
namespace It

set_option maxHeartbeats 400000 in
theorem none1_calls (n : Int) (w : World) : Calls Tryz.prog 160 #[.int .i64 n] w fun e w' => e = .returned (.bool (!countOk n)) ∧ w = w' := by
  have cM := Lib.hid (fun W => count_calls n W)
  generalize countOk n = b at *
  go_enter Tryz.func160, Tryz.ntmps160
  go_wp2_with fail
  refine (cM.out _).mono ?_
  rintro e w' ⟨rfl, rfl⟩
  go_wp2
  go_ret
  exact ⟨rfl, rfl⟩

def okTo (l : List Int) (k : Nat) : Prop := ∀ j, j < k → countOk (l.getD j 0) = true
theorem allTo_snoc {l : List Int} {k : Nat} (h : okTo l k) (h1 : countOk (l.getD k 0) = true) : okTo l (k + 1) := by
  intro j hj
  rcases Nat.lt_or_ge j k with h2 | h2
  · exact h j h2
  · have : j = k := by omega
    subst this
    exact h1

set_option maxRecDepth 100000 in
set_option maxHeartbeats 1000000 in
theorem indexFunc_calls (l : List Int) (v : Value) (lo B : Nat) (w : World) (hv : IntsAt w lo B v l) :
    Calls Tryz.prog 170 #[v, .func (.func 160) #[] #[]] w fun e w' => (∃ r : Int, e = .returned (.int .i64 r) ∧ (0 ≤ r ↔ ¬ okTo l l.length)) ∧ w = w' := by
  obtain ⟨A, c, rfl, hc1, hc2, hc⟩ := hv.form
  unfold maxLen at hc2
  go_enter Tryz.func170, Tryz.ntmps170
  go_wp2
  go_loop [8] (fun i => ∃ k : Nat, k ≤ l.length ∧ i = .int .i64 k ∧ okTo l k) (fun i => l.length - (intOf i).toNat)
  case atStart => exact ⟨0, by omega, rfl, fun j hj => by omega⟩
  case round =>
    obtain ⟨k, hk, rfl, hN⟩ := hrel
    have HN := Lib.hid hN
    clear hN
    by_cases hlt : k < l.length
    · obtain ⟨b, o, rfl, _, hb, hcell⟩ := hc (by omega)
      have hck := hcell k hlt
      clear hcell hc
      generalize hy : l.getD k 0 = y at hck
      have HY := Lib.hid hy
      clear hy
      have cN := Lib.hid (fun W => none1_calls y W)
      generalize ho : countOk y = ok at cN
      have HO := Lib.hid ho
      clear ho
      go_wp2_with fail
      refine (cN.out _).mono ?_
      rintro e w' ⟨rfl, rfl⟩
      cases ok with
      | true =>
        go_wp2_with fail
        go_round
        case rel => exact ⟨k + 1, by omega, by go_num, allTo_snoc HN.out (by rw [HY.out, HO.out])⟩
        case measure => simp [intOf]; omega
      | false =>
        go_wp2_with fail
        go_ret
        refine ⟨⟨k, rfl, ⟨fun _ h => ?_, fun _ => by omega⟩⟩, rfl⟩
        have := h k hlt
        rw [HY.out, HO.out] at this
        cases this
    · clear hc
      obtain rfl : k = l.length := by omega
      go_wp2
      go_ret
      exact ⟨⟨-1, rfl, Iff.intro (fun h => by omega) (fun h => absurd HN.out h)⟩, rfl⟩

set_option maxHeartbeats 1000000 in
theorem containsFunc_calls (l : List Int) (v : Value) (lo B : Nat) (w : World) (hv : IntsAt w lo B v l) :
    Calls Tryz.prog 159 #[v, .func (.func 160) #[] #[]] w fun e w' => e = .returned (.bool (!(l.all countOk))) ∧ w = w' := by
  have cI := Lib.hid (indexFunc_calls l v lo B w hv)
  obtain ⟨A, c, rfl, hc1, hc2, hc⟩ := hv.form
  clear hc
  go_enter Tryz.func159, Tryz.ntmps159
  go_wp2_with fail
  refine cI.out.mono ?_
  rintro e w' ⟨⟨r, rfl, hr⟩, rfl⟩
  have HR := Lib.hid (show (!(l.all countOk)) = decide (r ≥ 0) by
    have h1 : okTo l l.length ↔ l.all countOk = true := by
      unfold okTo
      rw [List.all_eq_true]
      constructor
      · intro h x hx
        obtain ⟨j, hj, rfl⟩ := List.getElem_of_mem hx
        have := h j hj
        simpa [hj] using this
      · intro h j hj
        have : l.getD j 0 = l[j] := by simp [hj]
        rw [this]
        exact h _ (List.getElem_mem hj)
    rw [h1] at hr
    cases h : l.all countOk <;> simp [h] at hr ⊢ <;> omega)
  clear hr
  go_wp2
  go_ret
  exact ⟨ret1 (boo HR.out.symm), rfl⟩

set_option maxHeartbeats 1000000 in
theorem none_calls (l : List Int) (v : Value) (lo B : Nat) (w : World) (hv : IntsAt w lo B v l) :
    Calls Tryz.prog 155 #[v] w fun e w' => e = .returned (.bool (!(l.all countOk))) ∧ w = w' := by
  have cI := Lib.hid (containsFunc_calls l v lo B w hv)
  generalize l.all countOk = b at *
  obtain ⟨A, c, rfl, hc1, hc2, hc⟩ := hv.form
  clear hc
  go_enter Tryz.func155, Tryz.ntmps155
  go_wp2_with fail
  refine cI.out.mono ?_
  rintro e w' ⟨rfl, rfl⟩
  go_wp2
  go_ret
  exact ⟨rfl, rfl⟩

theorem countOk_iff (n : Int) : countOk n = true ↔ 0 ≤ n ∧ n ≤ 1099511627776 := by unfold countOk; simp

/-- the sum, and why not -/
def addOf (a b : Int) : Int × Int := if countOk a && countOk b then if a + b ≤ 1099511627776 then (a + b, 0) else (0, 50) else (0, 1)

set_option maxHeartbeats 1000000 in
theorem add_calls (a b : Int) (w : World) :
    Calls Tryz.prog 145 #[.int .i64 a, .int .i64 b] w fun e w' => e = .returned (.tuple #[.int .i64 (addOf a b).1, .int .i64 (addOf a b).2]) ∧ Below w.heap.size w w' := by
  have HA := Lib.hid (show addOf a b = if countOk a && countOk b then if a + b ≤ 1099511627776 then (a + b, 0) else (0, 50) else (0, 1) from rfl)
  have hoa := Lib.hid (countOk_iff a)
  have hob := Lib.hid (countOk_iff b)
  have cN := Lib.hid (none_calls [a, b] (.slice (some ⟨w.heap.size, 0, none⟩) 2 2) w.heap.size (w.heap.size + 1) (w.alloc (.cells #[.int .i64 a, .int .i64 b] 3)) (Sl.new w #[.int .i64 a, .int .i64 b] 3 (n := 2) rfl (by unfold maxLen; omega)))
  simp only [List.all_cons, List.all_nil, Bool.and_true] at cN
  generalize addOf a b = S at *
  generalize countOk a = oa at *
  generalize countOk b = ob at *
  go_enter Tryz.func145, Tryz.ntmps145
  go_wp2_with fail
  refine cN.out.mono ?_
  rintro e w' ⟨rfl, rfl⟩
  have hB : Below w.heap.size w (w.alloc (.cells #[.int .i64 a, .int .i64 b] 3)) := (Below.refl _ w).alloc (Nat.le_refl _) _
  generalize w.alloc (.cells #[.int .i64 a, .int .i64 b] 3) = w1 at *
  cases hoo : (oa && ob) with
  | false =>
    obtain rfl : S = (0, 1) := by rw [HA.out, hoo]; rfl
    simp only [Bool.not_false]
    go_wp2_with fail
    go_ret2
    exact ⟨rfl, hB⟩
  | true =>
    have hoo' := hoo
    rw [Bool.and_eq_true] at hoo'
    have h1 := hoa.out.1 hoo'.1
    have h2 := hob.out.1 hoo'.2
    have hw : wrap64 (1099511627776 - a) = 1099511627776 - a := by
      unfold wrap64; omega
    by_cases hle : a + b ≤ 1099511627776
    · obtain rfl : S = (a + b, 0) := by rw [HA.out, hoo, if_pos rfl, if_pos hle]
      simp only [Bool.not_true]
      go_wp2_with fail
      go_ret2
      exact ⟨by go_num, hB⟩
    · obtain rfl : S = (0, 50) := by rw [HA.out, hoo, if_pos rfl, if_neg hle]
      simp only [Bool.not_true]
      go_wp2_with fail
      go_ret2
      exact ⟨rfl, hB⟩
end It
end Go.Proofs.YtdbkkldgobkjcaaGreat
