/-
  part of the proof of TopNames.
-/
import Derived.Test.YtgcnhmjpfbbfcaaGreatTy1
import Derived.OrdersIn
set_option linter.unusedVariables false
set_option linter.unusedSimpArgs false
set_option maxRecDepth 100000
set_option maxHeartbeats 8000000
namespace Go.Proofs.YtgcnhmjpfbbfcaaGreat
namespace Pu
section
open Go.RowKit
section
variable {F : Fence} {n : Nat} {P : Program} {ops : Array Oper} {Q : Exit → Act → World → Prop} {md : Region.Mode}
def fine (md : Region.Mode) (ops : Array Oper) : Bool :=
 (List.range ops.size).all fun i => match ops[i]? with
   | none => true
   | some o =>
     (match o.op with | .select .. => false | .defer _ => false | _ => true) &&
     (o.after.all fun e => !Region.binds md e || decide (e.on < i)) &&
     (o.looksAt ops).all fun t => (List.range ops.size).all fun j => match ops[j]? with
       | some p => p.dst != some t || o.after.any fun e => Region.binds md e && e.on == j
       | none => true
theorem fine_at (h : fine md ops = true) {i : Nat} {o : Oper} (hi : ops[i]? = some o) :
   (∀ cs b, o.op ≠ .select cs b) ∧ (∀ c, o.op ≠ .defer c) ∧ (∀ e ∈ o.after, Region.binds md e = true → e.on < i) ∧
   ∀ t ∈ o.looksAt ops, ∀ j p, ops[j]? = some p → p.dst = some t → ∃ e ∈ o.after, Region.binds md e = true ∧ e.on = j := by
 have hlt : i < ops.size := (Array.getElem?_eq_some_iff.1 hi).1; have h1 := List.all_eq_true.1 h i (List.mem_range.2 hlt); simp only [hi, Bool.and_eq_true] at h1; obtain ⟨⟨a1, a2⟩, a3⟩ := h1; refine ⟨fun cs b e => ?_, fun c e => ?_, fun e he hb => ?_, fun t ht j p hj hd => ?_⟩
 · rw [e] at a1; cases a1
 · rw [e] at a1; cases a1
 · have := Array.all_eq_true_iff_forall_mem.1 a2 e he
   simpa [hb] using this
 · have hjl : j < ops.size := (Array.getElem?_eq_some_iff.1 hj).1
   have h2 := List.all_eq_true.1 (List.all_eq_true.1 a3 t ht) j (List.mem_range.2 hjl); simp only [hj, hd, Bool.or_eq_true, bne_self_eq_false, Bool.false_eq_true, false_or] at h2; obtain ⟨e, he, hb⟩ := Array.any_eq_true'.1 h2; simp only [Bool.and_eq_true, beq_iff_eq] at hb; exact ⟨e, he, hb.1, hb.2⟩
structure Agree (ops : Array Oper) (A : Act) (listed : Array Bool) (a : Act) : Prop where
 defers : a.defers = A.defers
 size : a.tmps.size = A.tmps.size
 at' : ∀ t : Nat, (∀ j o, ops[j]? = some o → o.dst = some t → listed.getD j true = true) → a.tmps[t]? = A.tmps[t]?
theorem Agree.eval {A a : Act} {listed : Array Bool} (h : Agree ops A listed a) {o : Oper} (hl : ∀ t ∈ o.looksAt ops, ∀ j p, ops[j]? = some p → p.dst = some t → listed.getD j true = true) :
   ∀ x ∈ o.op.operands, a.eval x = A.eval x := by
 intro x hx
 cases x with
 | tmp t =>
   have : t ∈ o.looksAt ops := List.mem_append_left _ (List.mem_filterMap.2 ⟨.tmp t, by simpa using hx, rfl⟩); have h1 := h.at' t (hl t this); simp [Act.eval, h1]
 | _ => rfl
theorem Agree.wanted {A a : Act} {listed : Array Bool} (h : Agree ops A listed a) {o : Oper} (hl : ∀ t ∈ o.looksAt ops, ∀ j p, ops[j]? = some p → p.dst = some t → listed.getD j true = true) :
   Region.wanted o (yielded ops a.tmps) = Region.wanted o (yielded ops A.tmps) := by
 unfold Region.wanted
 cases hg : o.guard with
 | none => rfl
 | some gw =>
   obtain ⟨g, want⟩ := gw
   have hy : yielded ops a.tmps g = yielded ops A.tmps g := by
     unfold yielded
     cases ht : (ops[g]?).bind (·.dst) with
     | none => rfl
     | some t =>
       have : t ∈ o.looksAt ops := by simp [Oper.looksAt, hg, ht]
       simp [h.at' t (hl t this)]
   simp only [hy]
theorem Agree.put {A a : Act} {listed : Array Bool} (h : Agree ops A listed a) {i : Nat} {o : Oper} (hi : ops[i]? = some o) {v : Value} (hv : A.put o.dst v = A) :
   Agree ops A (listed.setIfInBounds i true) (a.put o.dst v) := by
 refine ⟨?_, ?_, fun t ht => ?_⟩
 · rw [← h.defers]; cases o.dst <;> rfl
 · rw [← h.size]; cases o.dst <;> simp [Act.put]
 · cases hd : o.dst with
   | none =>
     refine h.at' t fun j p hj hp => ?_
     have h1 := ht j p hj hp
     by_cases e : i = j
     · subst e; rw [hi] at hj; cases hj; rw [hd] at hp; cases hp
     · rwa [getD_set_ne true e] at h1
   | some d =>
     rw [hd] at hv
     by_cases e : d = t
     · subst e
       conv => rhs; rw [← hv]
       simp only [Act.put]; rw [Array.getElem?_setIfInBounds_self, Array.getElem?_setIfInBounds_self, h.size]
     · simp only [Act.put]
       rw [Array.getElem?_setIfInBounds_ne e]; refine h.at' t fun j p hj hp => ?_
       have h1 := ht j p hj hp
       by_cases e' : i = j
       · subst e'; rw [hi] at hj; cases hj; rw [hd] at hp; cases hp; exact absurd rfl e
       · rwa [getD_set_ne true e'] at h1
def Go (F : Fence) (n : Nat) (P : Program) (ops : Array Oper) (Inv : World → Prop) (A : Act) (l : List Oper) : Prop :=
 ∀ o ∈ l, ∀ w, Inv w → wpListIn F n P ops (fun e a' w' => e = .normal ∧ a' = A ∧ Inv w') [o] A w
theorem Go.nil {Inv : World → Prop} {A : Act} : Go F n P ops Inv A [] := fun _ h => by cases h
theorem Go.cons {Inv : World → Prop} {A : Act} {o : Oper} {l : List Oper} (h : ∀ w, Inv w → wpListIn F n P ops (fun e a' w' => e = .normal ∧ a' = A ∧ Inv w') [o] A w) (hs : Go F n P ops Inv A l) :
   Go F n P ops Inv A (o :: l) := by
 intro p hp; rcases List.mem_cons.1 hp with rfl | hp
 · exact h
 · exact hs p hp
theorem put_self {A : Act} {d : Option Tmp} {v : Value} {ds : List Deferred} (h : ({ A with defers := ds } : Act).put d v = A) : ds = A.defers ∧ A.put d v = A := by
 have h1 : ds = A.defers := by
   have := congrArg Act.defers h
   cases d <;> simpa [Act.put] using this
 subst h1; exact ⟨rfl, h⟩
theorem wpAnyIn_pure (hf : fine md ops = true) {Inv : World → Prop} {A : Act} (hgo : Go F n P ops Inv A ops.toList) (hQ : ∀ w, Inv w → Q .normal A w) :
   ∀ (left : List Nat) (listed : Array Bool) (a : Act) (w : World), listed.size = ops.size → left.Nodup → (∀ j, j ∈ left ↔ listed.getD j true = false) → Agree ops A listed a → Inv w →
     wpAnyIn F n P md ops Q left.length listed a w := by
 intro left; generalize hm : left.length = m
 have hready : ∀ (left : List Nat) (listed : Array Bool), listed.size = ops.size → (∀ j, j ∈ left ↔ listed.getD j true = false) → Region.ready md ops listed = [] → left = [] := by
   intro left listed hsz hl hr
   have : ∀ k j, j < k → listed.getD j true = false → False := by
     intro k
     induction k with
     | zero => intro j h; omega
     | succ k ih =>
       intro j hj hjl
       have hjs : j < ops.size := by
         rcases Nat.lt_or_ge j ops.size with h | h
         · exact h
         · simp [Array.getElem?_eq_none (show listed.size ≤ j by omega)] at hjl
       obtain ⟨o, ho⟩ : ∃ o, ops[j]? = some o := ⟨ops[j], by simp [hjs]⟩
       have hmem : j ∈ Region.ready md ops listed := by
         rw [mem_ready]; refine ⟨hjl, o, ho, fun e he hb => ?_⟩; have hlt := (fine_at hf ho).2.2.1 e he hb
         cases hx : listed.getD e.on true with
         | false => exact (ih e.on (by omega) hx).elim
         | true =>
           have hes : e.on < listed.size := by omega
           simp [hes] at hx ⊢; exact hx
       rw [hr] at hmem
       cases hmem
   cases left with
   | nil => rfl
   | cons j l => exact (this (j + 1) j (by omega) ((hl j).1 (by simp))).elim
 have hdone : ∀ (listed : Array Bool) (a : Act), (∀ j, j ∈ ([] : List Nat) ↔ listed.getD j true = false) → Agree ops A listed a → a = A := by
   intro listed a hl ha
   have ht : a.tmps = A.tmps := by
     refine Array.ext ha.size fun t h1 h2 => ?_
     have := ha.at' t fun j o _ _ => by
       have := (hl j).2
       cases hx : listed.getD j true with
       | true => rfl
       | false => cases this hx
     simpa [h1, h2] using this
   have hd := ha.defers
   cases a; cases A
   simp only at ht hd; rw [ht, hd]
 induction m generalizing left with
 | zero =>
   intro listed a w hsz hnd hl ha hI; have hn : left = [] := List.length_eq_zero_iff.1 hm; subst hn; have hA := hdone listed a hl ha; subst hA; refine ⟨?_, hQ w hI⟩
   cases hr : Region.ready md ops listed with
   | nil => rfl
   | cons i rs =>
     have : i ∈ Region.ready md ops listed := by rw [hr]; simp
     have := (hl i).2 (mem_ready.1 this).1
     cases this
 | succ m ih =>
   intro listed a w hsz hnd hl ha hI; refine ⟨fun hr => ?_, fun i hi => ?_⟩
   · rw [hready left listed hsz hl hr] at hm; simp at hm
   obtain ⟨hun, o, ho, hall⟩ := mem_ready.1 hi; obtain ⟨f1, f2, f3, f4⟩ := fine_at hf ho; have his : i < ops.size := (Array.getElem?_eq_some_iff.1 ho).1
   have hlook : ∀ t ∈ o.looksAt ops, ∀ j p, ops[j]? = some p → p.dst = some t → listed.getD j true = true := by
     intro t ht j p hj hp; obtain ⟨e, he, hb, rfl⟩ := f4 t ht j p hj hp; have h1 := hall e he hb; have hes : e.on < listed.size := by have := (Array.getElem?_eq_some_iff.1 hj).1; omega
     simp [hes] at h1 ⊢; exact h1
   have heval := ha.eval hlook; have hwant := ha.wanted hlook
   have hnext : ∀ v w', A.put o.dst v = A → Inv w' → wpAnyIn F n P md ops Q m (listed.setIfInBounds i true) (a.put o.dst v) w' := by
     intro v w' hv hI'; have hmem : i ∈ left := (hl i).2 hun; refine ih (left.erase i) (by rw [List.length_erase_of_mem hmem, hm]; rfl) _ _ _ (by simpa using hsz) (hnd.erase i) (fun j => ?_) (ha.put ho hv) hI'; rw [hnd.mem_erase_iff, hl j]
     by_cases e : i = j
     · subst e
       simp [show i < listed.size by omega]
     · rw [getD_set_ne true e]
       exact ⟨fun h => h.2, fun h => ⟨fun h' => e h'.symm, h⟩⟩
   have h := hgo o (List.mem_iff_getElem?.2 ⟨i, by simpa using ho⟩) w hI; unfold wpOpIn; simp only [ho]; unfold wpListIn at h; rw [hwant]
   split
   · rename_i hw
     simp only [hw, if_true] at h; unfold Oper.wpIn at h ⊢; rw [about_congr o w heval]; refine ⟨h.1, ?_⟩; have h := h.2; rw [Oper.semAt_eq _ _ _ f2] at h ⊢; rw [execOp_congr o f1 heval]; generalize (execOp A.eval o).run P w = r at *
     cases r with
     | ok x w' =>
       cases x <;> simp only [Oper.uponIn] at h ⊢
       case value v => exact hnext v w' h.2.1 h.2.2
       case skip => exact hnext _ w' h.2.1 h.2.2
       case defer d =>
         have := congrArg List.length (put_self h.2.1).1; simp at this
       case enter f args =>
         refine ⟨h.1, CallsIn.mono h.2 fun e w'' he => ?_⟩
         cases e with
         | returned v => exact hnext v w'' he.2.1 he.2.2
         | panicked c => cases he.1
         | outgrown => obtain ⟨_, _, h, _⟩ := he; cases h
       case row row args => exact ⟨h.1, RowsIn.mono h.2 fun v w'' he => hnext v w'' he.2.1 he.2.2⟩
       case round l f tmps assign body =>
         refine ⟨h.1, RoundIn.mono h.2 fun e w'' he => ?_⟩
         cases e with
         | returned v => exact hnext v w'' he.2.1 he.2.2
         | panicked c => cases he.1
         | outgrown => obtain ⟨_, _, h, _⟩ := he; cases h
     | halt x w' =>
       cases x <;> simp only [Oper.uponIn] at h ⊢
       case panic u => cases h.1
   · rename_i hw
     simp only [hw] at h; rw [about_congr o w heval]; exact ⟨h.1, hnext _ w h.2.2.1 h.2.2.2⟩
def GoP (P : Program) (ops : Array Oper) (Inv : World → Prop) (A : Act) (l : List Oper) : Prop :=
 ∀ o ∈ l, ∀ w, Inv w → wpList P ops (fun e a' w' => e = .normal ∧ a' = A ∧ Inv w') [o] A w
theorem GoP.nil {Inv : World → Prop} {A : Act} : GoP P ops Inv A [] := fun _ h => by cases h
theorem GoP.cons {Inv : World → Prop} {A : Act} {o : Oper} {l : List Oper} (h : ∀ w, Inv w → wpList P ops (fun e a' w' => e = .normal ∧ a' = A ∧ Inv w') [o] A w) (hs : GoP P ops Inv A l) :
   GoP P ops Inv A (o :: l) := by
 intro p hp; rcases List.mem_cons.1 hp with rfl | hp
 · exact h
 · exact hs p hp
theorem wpAny_pure (hf : fine md ops = true) {Inv : World → Prop} {A : Act} (hgo : GoP P ops Inv A ops.toList) (hQ : ∀ w, Inv w → Q .normal A w) :
   ∀ (left : List Nat) (listed : Array Bool) (a : Act) (w : World), listed.size = ops.size → left.Nodup → (∀ j, j ∈ left ↔ listed.getD j true = false) → Agree ops A listed a → Inv w →
     wpAny P md ops Q left.length listed a w := by
 intro left; generalize hm : left.length = m
 have hready : ∀ (left : List Nat) (listed : Array Bool), listed.size = ops.size → (∀ j, j ∈ left ↔ listed.getD j true = false) → Region.ready md ops listed = [] → left = [] := by
   intro left listed hsz hl hr
   have : ∀ k j, j < k → listed.getD j true = false → False := by
     intro k
     induction k with
     | zero => intro j h; omega
     | succ k ih =>
       intro j hj hjl
       have hjs : j < ops.size := by
         rcases Nat.lt_or_ge j ops.size with h | h
         · exact h
         · simp [Array.getElem?_eq_none (show listed.size ≤ j by omega)] at hjl
       obtain ⟨o, ho⟩ : ∃ o, ops[j]? = some o := ⟨ops[j], by simp [hjs]⟩
       have hmem : j ∈ Region.ready md ops listed := by
         rw [mem_ready]; refine ⟨hjl, o, ho, fun e he hb => ?_⟩; have hlt := (fine_at hf ho).2.2.1 e he hb
         cases hx : listed.getD e.on true with
         | false => exact (ih e.on (by omega) hx).elim
         | true =>
           have hes : e.on < listed.size := by omega
           simp [hes] at hx ⊢; exact hx
       rw [hr] at hmem
       cases hmem
   cases left with
   | nil => rfl
   | cons j l => exact (this (j + 1) j (by omega) ((hl j).1 (by simp))).elim
 have hdone : ∀ (listed : Array Bool) (a : Act), (∀ j, j ∈ ([] : List Nat) ↔ listed.getD j true = false) → Agree ops A listed a → a = A := by
   intro listed a hl ha
   have ht : a.tmps = A.tmps := by
     refine Array.ext ha.size fun t h1 h2 => ?_
     have := ha.at' t fun j o _ _ => by
       have := (hl j).2
       cases hx : listed.getD j true with
       | true => rfl
       | false => cases this hx
     simpa [h1, h2] using this
   have hd := ha.defers
   cases a; cases A
   simp only at ht hd; rw [ht, hd]
 induction m generalizing left with
 | zero =>
   intro listed a w hsz hnd hl ha hI; have hn : left = [] := List.length_eq_zero_iff.1 hm; subst hn; have hA := hdone listed a hl ha; subst hA; refine ⟨?_, hQ w hI⟩
   cases hr : Region.ready md ops listed with
   | nil => rfl
   | cons i rs =>
     have : i ∈ Region.ready md ops listed := by rw [hr]; simp
     have := (hl i).2 (mem_ready.1 this).1
     cases this
 | succ m ih =>
   intro listed a w hsz hnd hl ha hI; refine ⟨fun hr => ?_, fun i hi => ?_⟩
   · rw [hready left listed hsz hl hr] at hm; simp at hm
   obtain ⟨hun, o, ho, hall⟩ := mem_ready.1 hi; obtain ⟨f1, f2, f3, f4⟩ := fine_at hf ho; have his : i < ops.size := (Array.getElem?_eq_some_iff.1 ho).1
   have hlook : ∀ t ∈ o.looksAt ops, ∀ j p, ops[j]? = some p → p.dst = some t → listed.getD j true = true := by
     intro t ht j p hj hp; obtain ⟨e, he, hb, rfl⟩ := f4 t ht j p hj hp; have h1 := hall e he hb; have hes : e.on < listed.size := by have := (Array.getElem?_eq_some_iff.1 hj).1; omega
     simp [hes] at h1 ⊢; exact h1
   have heval := ha.eval hlook; have hwant := ha.wanted hlook
   have hnext : ∀ v w', A.put o.dst v = A → Inv w' → wpAny P md ops Q m (listed.setIfInBounds i true) (a.put o.dst v) w' := by
     intro v w' hv hI'; have hmem : i ∈ left := (hl i).2 hun; refine ih (left.erase i) (by rw [List.length_erase_of_mem hmem, hm]; rfl) _ _ _ (by simpa using hsz) (hnd.erase i) (fun j => ?_) (ha.put ho hv) hI'; rw [hnd.mem_erase_iff, hl j]
     by_cases e : i = j
     · subst e
       simp [show i < listed.size by omega]
     · rw [getD_set_ne true e]
       exact ⟨fun h => h.2, fun h => ⟨fun h' => e h'.symm, h⟩⟩
   have h := hgo o (List.mem_iff_getElem?.2 ⟨i, by simpa using ho⟩) w hI; unfold wpOp; simp only [ho]; unfold wpList at h; rw [hwant]
   split
   · rename_i hw
     simp only [hw, if_true] at h; rcases h with h | ⟨_, _, _, h, _⟩
     case inr => cases h
     refine .inl ?_; unfold Oper.wp at h ⊢; rw [execOp_congr o f1 heval]; generalize (execOp A.eval o).run P w = r at *
     cases r with
     | ok x w' =>
       cases x <;> simp only [Oper.upon] at h ⊢
       case value v => exact hnext v w' h.2.1 h.2.2
       case skip => exact hnext _ w' h.2.1 h.2.2
       case defer d =>
         have := congrArg List.length (put_self h.2.1).1; simp at this
       case enter f args =>
         refine Calls.mono h fun e w'' he => ?_
         cases e with
         | returned v => exact hnext v w'' he.2.1 he.2.2
         | panicked c => cases he.1
         | outgrown => obtain ⟨_, _, h, _⟩ := he; cases h
       case row row args => exact Rows.mono h fun v w'' he => hnext v w'' he.2.1 he.2.2
     | halt x w' =>
       cases x <;> simp only [Oper.upon] at h ⊢
       case panic u => cases h.1
   · rename_i hw
     simp only [hw] at h; exact hnext _ w h.2.1 h.2.2
def okL (ops : Array Oper) : List Oper → Bool
 | [] => true
 | o :: r =>
   (match o.op with | .select .. => false | .defer _ => false | _ => true) &&
   ((o.looksAt ops).all fun t => o.dst != some t && r.all fun p => p.dst != some t) &&
   (match o.dst with | none => true | some d => r.all fun p => p.dst != some d) && okL ops r
def Seq (P : Program) (ops : Array Oper) (Inv : World → Prop) : List Oper → Act → (Act → Prop) → Prop
 | [], a, K => K a
 | o :: r, a, K =>
   if Region.wanted o (yielded ops a.tmps) then
     ∃ v, (∀ w, Inv w → wpList P ops (fun e a' w' => e = .normal ∧ a' = a.put o.dst v ∧ Inv w') [o] a w) ∧ Seq P ops Inv r (a.put o.dst v) K
   else Seq P ops Inv r (a.put o.dst undef) K
theorem Seq.skip {Inv : World → Prop} {a : Act} {K : Act → Prop} {o : Oper} {r : List Oper} (hw : Region.wanted o (yielded ops a.tmps) = false) (h : Seq P ops Inv r (a.put o.dst undef) K) : Seq P ops Inv (o :: r) a K := by
 unfold Seq; rw [hw]; exact h
theorem Seq.step {Inv : World → Prop} {a : Act} {K : Act → Prop} {o : Oper} {r : List Oper} (hw : Region.wanted o (yielded ops a.tmps) = true) (v : Value)
   (h1 : ∀ w, Inv w → wpList P ops (fun e a' w' => e = .normal ∧ a' = a.put o.dst v ∧ Inv w') [o] a w) (h : Seq P ops Inv r (a.put o.dst v) K) : Seq P ops Inv (o :: r) a K := by
 unfold Seq; rw [hw]; exact ⟨v, h1, h⟩
theorem put_same {a A : Act} {d : Option Tmp} {u v : Value} (h : a.put d u = a.put d v) (hs : a.tmps.size = A.tmps.size) (hA : A.put d v = A) : A.put d u = A := by
 cases d with
 | none => rfl
 | some d =>
   by_cases hd : d < a.tmps.size
   · have h1 := congrArg (fun b : Act => b.tmps[d]?) h
     simp only [Act.put, Array.getElem?_setIfInBounds_self, hd, if_true, Option.some.injEq] at h1; subst h1; exact hA
   · have hd' : A.tmps.size ≤ d := by rw [← hs]; exact Nat.le_of_not_lt hd
     simp only [Act.put]; rw [Array.setIfInBounds_eq_of_size_le hd']
theorem put_of {A : Act} {d : Nat} {v : Value} (h : A.tmps[d]? = if d < A.tmps.size then some v else none) : A.put (some d) v = A := by
 have : A.tmps.setIfInBounds d v = A.tmps := by
   refine Array.ext (by simp) fun i h1 h2 => ?_
   by_cases e : d = i
   · subst e
     rw [if_pos h2] at h; have : A.tmps[d] = v := by simpa [h2] using h
     simp [this]
   · simp [Array.getElem_setIfInBounds_ne h2 e]
 simp only [Act.put, this]
theorem Seq.done {Inv : World → Prop} {K : Act → Prop} : ∀ (l : List Oper) (a : Act), okL ops l = true → Seq P ops Inv l a K →
   ∃ A, K A ∧ A.defers = a.defers ∧ A.tmps.size = a.tmps.size ∧ (∀ t : Nat, (∀ o ∈ l, o.dst ≠ some t) → A.tmps[t]? = a.tmps[t]?) ∧ GoP P ops Inv A l
 | [], a, _, h => ⟨a, h, rfl, rfl, fun _ _ => rfl, GoP.nil⟩
 | o :: r, a, hok, h => by
   simp only [okL, Bool.and_eq_true] at hok; obtain ⟨⟨⟨hop, hlk⟩, hd⟩, hr⟩ := hok
   have hlook : ∀ t ∈ o.looksAt ops, o.dst ≠ some t ∧ ∀ p ∈ r, p.dst ≠ some t := fun t ht => by
     have := List.all_eq_true.1 hlk t ht; simp only [Bool.and_eq_true, bne_iff_ne, List.all_eq_true] at this; exact this
   have key : ∀ v, Seq P ops Inv r (a.put o.dst v) K →
       ((∀ w, Inv w → wpList P ops (fun e a' w' => e = .normal ∧ a' = a.put o.dst v ∧ Inv w') [o] a w) ∨ (Region.wanted o (yielded ops a.tmps) = false ∧ v = undef)) →
       ∃ A, K A ∧ A.defers = a.defers ∧ A.tmps.size = a.tmps.size ∧ (∀ t : Nat, (∀ o' ∈ o :: r, o'.dst ≠ some t) → A.tmps[t]? = a.tmps[t]?) ∧ GoP P ops Inv A (o :: r) := by
     intro v hs ho; obtain ⟨A, hK, h1, h2, h3, h4⟩ := Seq.done r (a.put o.dst v) hr hs; have h1' : A.defers = a.defers := by rw [h1]; cases o.dst <;> rfl
     have h2' : A.tmps.size = a.tmps.size := by rw [h2]; cases o.dst <;> simp [Act.put]
     have h3' : ∀ t : Nat, (∀ o' ∈ o :: r, o'.dst ≠ some t) → A.tmps[t]? = a.tmps[t]? := fun t ht => by
       rw [h3 t fun p hp => ht p (List.mem_cons_of_mem _ hp)]; have := ht o (by simp)
       cases hod : o.dst with
       | none => rfl
       | some d =>
         rw [hod] at this; have hne : d ≠ t := fun e => this (by rw [e])
         simp [Act.put, Array.getElem?_setIfInBounds_ne hne]
     have hput : A.put o.dst v = A := by
       cases hod : o.dst with
       | none => rfl
       | some d =>
         rw [hod] at hd h3 h2; refine put_of ?_
         have := h3 d fun p hp => by
           have := List.all_eq_true.1 hd p hp; simpa using this
         rw [this, h2]; simp only [Act.put, Array.getElem?_setIfInBounds_self, Array.size_setIfInBounds]
     have hagree : Agree ops A (Array.replicate ops.size false) A := ⟨rfl, rfl, fun _ _ => rfl⟩
     have heval : ∀ x ∈ o.op.operands, A.eval x = a.eval x := by
       intro x hx
       cases x with
       | tmp t =>
         have hm : t ∈ o.looksAt ops := List.mem_append_left _ (List.mem_filterMap.2 ⟨.tmp t, by simpa using hx, rfl⟩); have h5 := hlook t hm
         have := h3' t fun p hp => by
           rcases List.mem_cons.1 hp with rfl | hp
           · exact h5.1
           · exact h5.2 p hp
         simp [Act.eval, this]
       | _ => rfl
     have hwant : Region.wanted o (yielded ops A.tmps) = Region.wanted o (yielded ops a.tmps) := by
       unfold Region.wanted
       cases hg : o.guard with
       | none => rfl
       | some gw =>
         obtain ⟨g, want⟩ := gw
         have hy : yielded ops A.tmps g = yielded ops a.tmps g := by
           unfold yielded
           cases ht : (ops[g]?).bind (·.dst) with
           | none => rfl
           | some t =>
             have hm : t ∈ o.looksAt ops := by simp [Oper.looksAt, hg, ht]
             have h5 := hlook t hm
             have := h3' t fun p hp => by
               rcases List.mem_cons.1 hp with rfl | hp
               · exact h5.1
               · exact h5.2 p hp
             simp [this]
         simp only [hy]
     refine ⟨A, hK, h1', h2', h3', GoP.cons (fun w hI => ?_) h4⟩; unfold wpList; rw [hwant]; rcases ho with ho | ⟨hw, rfl⟩
     case inr =>
       rw [hw]; exact ⟨rfl, hput, hI⟩
     have ho := ho w hI; unfold wpList at ho
     split
     · rename_i hw
       simp only [hw, if_true] at ho; rcases ho with ho | ⟨_, _, _, ho, _⟩
       case inr => cases ho
       refine .inl ?_; have f1 : ∀ cs b, o.op ≠ .select cs b := fun cs b e => by rw [e] at hop; cases hop
       unfold Oper.wp at ho ⊢; rw [execOp_congr o f1 heval]; generalize (execOp a.eval o).run P w = r at *; have fin : ∀ u w', a.put o.dst u = a.put o.dst v → Inv w' → A.put o.dst u = A := fun u w' h _ => put_same h h2'.symm hput
       cases r with
       | ok x w' =>
         cases x <;> simp only [Oper.upon] at ho ⊢
         case value u => exact ⟨rfl, put_same ho.2.1 h2'.symm hput, ho.2.2⟩
         case skip => exact ⟨rfl, put_same ho.2.1 h2'.symm hput, ho.2.2⟩
         case defer d =>
           have := congrArg (fun b : Act => b.defers.length) ho.2.1
           cases hod : o.dst <;> simp [Act.put, hod] at this
         case enter f args =>
           refine Calls.mono ho fun e w'' he => ?_
           cases e with
           | returned u => exact ⟨rfl, put_same he.2.1 h2'.symm hput, he.2.2⟩
           | panicked c => cases he.1
           | outgrown => obtain ⟨_, _, h, _⟩ := he; cases h
         case row row args => exact Rows.mono ho fun u w'' he => ⟨rfl, put_same he.2.1 h2'.symm hput, he.2.2⟩
       | halt x w' =>
         cases x <;> simp only [Oper.upon] at ho ⊢
         case panic u => cases ho.1
     · rename_i hw
       simp only [hw] at ho; refine ⟨rfl, ?_, hI⟩; exact put_same ho.2.1 h2'.symm hput
   unfold Seq at h
   split at h
   · obtain ⟨v, h1, h2⟩ := h
     exact key v h2 (.inl h1)
   · rename_i hw
     exact key undef h (.inr ⟨by simpa using hw, rfl⟩)
theorem regionS {id : Nat} {a : Act} {w : World} (Inv : World → Prop) (hm : P.follows .mixedOrders = true) (hf : fine .any ops = true) (hok : okL ops ops.toList = true) (hI : Inv w.drew)
   (hs : Seq P ops Inv ops.toList a fun A => ∀ w, Inv w → Q .normal A w) : (Code.region id ops true).wp P Q a w := by
 obtain ⟨A, hK, h1, h2, h3, h4⟩ := Seq.done _ _ hok hs; refine wp_region_any hm ?_; have h := wpAny_pure (md := .any) (P := P) (Q := Q) hf h4 hK (List.range ops.size) (Array.replicate ops.size false) a w.drew (by simp) List.nodup_range (fun j => ?_) ⟨h1.symm, h2.symm, fun t ht => ?_⟩ hI
 · rwa [List.length_range] at h
 · rw [List.mem_range]
   by_cases h : j < ops.size
   · simp [h]
   · simp [h]
 · refine (h3 t fun o ho hd => ?_).symm
   obtain ⟨j, hj⟩ := List.mem_iff_getElem?.1 ho; have hj : ops[j]? = some o := by simpa using hj
   have := ht j o hj hd; have hjs : j < ops.size := (Array.getElem?_eq_some_iff.1 hj).1; simp [hjs] at this
structure Walk (P : Program) (ops : Array Oper) (Inv : World → Prop) (l : List Oper) (a : Act) (K : Act → Prop) : Prop where
 go : Seq P ops Inv l a K
structure Ends (A : Act) (Inv : World → Prop) (e : Exit) (a' : Act) (w' : World) : Prop where
 e : e = .normal
 a : a' = A
 i : Inv w'
theorem Ends.eq {A : Act} {Inv : World → Prop} : Ends A Inv = fun e a' w' => e = .normal ∧ a' = A ∧ Inv w' := by
 funext e a' w'
 exact propext ⟨fun h => ⟨h.e, h.a, h.i⟩, fun h => ⟨h.1, h.2.1, h.2.2⟩⟩
theorem Walk.nil {Inv : World → Prop} {a : Act} {K : Act → Prop} (h : K a) : Walk P ops Inv [] a K := ⟨h⟩
theorem Walk.skip {Inv : World → Prop} {a : Act} {K : Act → Prop} {o : Oper} {r : List Oper} (hw : Region.wanted o (yielded ops a.tmps) = false) (h : Walk P ops Inv r (a.put o.dst undef) K) : Walk P ops Inv (o :: r) a K := ⟨Seq.skip hw h.go⟩
theorem Walk.next {Inv : World → Prop} {a : Act} {K : Act → Prop} {o : Oper} {r : List Oper} (hw : Region.wanted o (yielded ops a.tmps) = true) {v : Value}
   (h1 : ∀ w, Inv w → wpList P ops (Ends (a.put o.dst v) Inv) [o] a w) (h : Walk P ops Inv r (a.put o.dst v) K) : Walk P ops Inv (o :: r) a K :=
 ⟨Seq.step hw v (fun w hI => Ends.eq ▸ h1 w hI) h.go⟩
def asks (l : List Oper) (o : Oper) (t : List Value) : Bool :=
 match o.guard with
 | none => true
 | some (g, want) => match l[g]? with
   | some p => match p.dst with
     | some d => match t[d]? with
       | some (.bool b) => b == want
       | _ => false
     | none => false
   | none => false
theorem asks_eq (ops : Array Oper) (o : Oper) (t : Array Value) : Region.wanted o (yielded ops t) = asks ops.toList o t.toList := by
 unfold Region.wanted asks
 cases hg : o.guard with
 | none => rfl
 | some gw =>
   obtain ⟨g, want⟩ := gw; dsimp only; unfold yielded; rw [← Array.getElem?_toList]
   cases ops.toList[g]? with
   | none => rfl
   | some p =>
     dsimp only [Option.bind_some]
     cases hd : p.dst with
     | none => rfl
     | some d =>
       dsimp only [Option.bind_some]; rw [← Array.getElem?_toList]
       cases t.toList[d]? with
       | none => rfl
       | some v => cases v <;> first | rfl | (rename_i b; cases b <;> cases want <;> rfl)
theorem Walk.off {Inv : World → Prop} {a : Act} {K : Act → Prop} {o : Oper} {r : List Oper} (hw : asks ops.toList o a.tmps.toList = false) (h : Walk P ops Inv r (a.put o.dst undef) K) : Walk P ops Inv (o :: r) a K :=
 Walk.skip ((asks_eq _ _ _).trans hw) h
theorem Walk.on {Inv : World → Prop} {a : Act} {K : Act → Prop} {o : Oper} {r : List Oper} (hw : asks ops.toList o a.tmps.toList = true) {v : Value}
   (h1 : ∀ w, Inv w → wpList P ops (Ends (a.put o.dst v) Inv) [o] a w) (h : Walk P ops Inv r (a.put o.dst v) K) : Walk P ops Inv (o :: r) a K :=
 Walk.next ((asks_eq _ _ _).trans hw) h1 h
theorem regionW {id : Nat} {a : Act} {w : World} (Inv : World → Prop) (hm : P.follows .mixedOrders = true) (hf : fine .any ops = true) (hok : okL ops ops.toList = true) (hI : Inv w.drew) {l : List Oper} (hl : ops.toList = l)
   (hs : Walk P ops Inv l a fun A => ∀ w, Inv w → Q .normal A w) : (Code.region id ops true).wp P Q a w := by
 subst hl; exact regionS Inv hm hf hok hI hs.go
end
end
section
open Go.RowKit
section
variable {P : Program} {ops : Array Oper} {Q : Exit → Act → World → Prop} {md : Region.Mode}
theorem shift {o : Oper} {a A a2 A2 : Act} {w : World} {R : World → Prop} (hop : (match o.op with | .select .. => false | .defer _ => false | _ => true) = true) (heval : ∀ x ∈ o.op.operands, A.eval x = a.eval x)
   (hwant : Region.wanted o (yielded ops A.tmps) = Region.wanted o (yielded ops a.tmps)) (hd : a2.defers = a.defers) (hp : ∀ u, a.put o.dst u = a2 → A.put o.dst u = A2)
   (ho : wpList P ops (fun e a' w' => e = .normal ∧ a' = a2 ∧ R w') [o] a w) : wpList P ops (fun e a' w' => e = .normal ∧ a' = A2 ∧ R w') [o] A w := by
 unfold wpList at ho ⊢; rw [hwant]
 split
 · rename_i hw
   simp only [hw, if_true] at ho; rcases ho with ho | ⟨_, _, _, ho, _⟩
   case inr => cases ho
   refine .inl ?_; have f1 : ∀ cs b, o.op ≠ .select cs b := fun cs b e => by rw [e] at hop; cases hop
   unfold Oper.wp at ho ⊢; rw [execOp_congr o f1 heval]; generalize (execOp a.eval o).run P w = r at *
   cases r with
   | ok x w' =>
     cases x <;> simp only [Oper.upon] at ho ⊢
     case value u => exact ⟨rfl, hp _ ho.2.1, ho.2.2⟩
     case skip => exact ⟨rfl, hp _ ho.2.1, ho.2.2⟩
     case defer d =>
       have := congrArg (fun b : Act => b.defers.length) ho.2.1; simp only [hd] at this
       cases hod : o.dst <;> simp [Act.put, hod] at this
     case enter f args =>
       refine Calls.mono ho fun e w'' he => ?_
       cases e with
       | returned u => exact ⟨rfl, hp _ he.2.1, he.2.2⟩
       | panicked c => cases he.1
       | outgrown => obtain ⟨_, _, h, _⟩ := he; cases h
     case row row args => exact Rows.mono ho fun u w'' he => ⟨rfl, hp _ he.2.1, he.2.2⟩
   | halt x w' =>
     cases x <;> simp only [Oper.upon] at ho ⊢
     case panic u => cases ho.1
 · rename_i hw
   simp only [hw] at ho; exact ⟨rfl, hp _ ho.2.1, ho.2.2⟩
def endsAll (ops : Array Oper) (o : Oper) : Bool := decide (((List.range ops.size).filter fun j => !(o.after.any fun e => Region.binds .any e && e.on == j)).length ≤ 1)
def SeqM (P : Program) (ops : Array Oper) (Q : Exit → Act → World → Prop) : List (Oper × Bool) → Act → (World → Prop) → (World → Prop) → Prop
 | [], a, _, J => ∀ w, J w → Q .normal a w
 | (o, false) :: r, a, B, J =>
   if Region.wanted o (yielded ops a.tmps) = true then
     ∃ v, (∀ w, B w → wpList P ops (fun e a' w' => e = .normal ∧ a' = a.put o.dst v ∧ w' = w) [o] a w) ∧ SeqM P ops Q r (a.put o.dst v) B J
   else SeqM P ops Q r (a.put o.dst undef) B J
 | (o, true) :: r, a, B, J =>
   if Region.wanted o (yielded ops a.tmps) = true then
     ∀ w, J w → wpList P ops (fun e a' w' => e = .normal ∧ ∃ v B' J', a' = a.put o.dst v ∧ J' w' ∧ SeqM P ops Q r (a.put o.dst v) B' J' ∧ (∀ w, J' w → B' w) ∧ (endsAll ops o = true ∨ ∀ w, B' w → B w)) [o] a w
   else SeqM P ops Q r (a.put o.dst undef) B J
def bound (md : Region.Mode) (ops : Array Oper) (i : Nat) (js : List Nat) : Bool := match ops[i]? with
 | none => false
 | some o => o.after.any fun e => Region.binds md e && js.contains e.on
def okM (md : Region.Mode) (ops : Array Oper) : List (Nat × Bool) → Bool
 | [] => true
 | (i, b) :: r =>
   (match ops[i]? with
     | none => false
     | some o =>
       (match o.op with | .select .. => false | .defer _ => false | _ => true) &&
       ((o.looksAt ops).all fun t => o.dst != some t && r.all fun p => match ops[p.1]? with | some q => q.dst != some t | none => false) &&
       (match o.dst with | none => true | some d => r.all fun p => match ops[p.1]? with | some q => q.dst != some d | none => false)) &&
   (r.all fun p => p.1 != i) &&
   (!b || (List.range r.length).all fun k => bound md ops ((r.getD k (0, false)).1) (i :: (r.take k).map (·.1))) &&
   okM md ops r
def whole (ops : Array Oper) (ord : List (Nat × Bool)) : Bool := (List.range ops.size).all fun i => ord.any fun p => p.1 == i
def named (ops : Array Oper) (ord : List (Nat × Bool)) : List (Oper × Bool) := ord.filterMap fun p => (ops[p.1]?).map fun o => (o, p.2)
theorem put_put (A : Act) (d : Option Tmp) (u v : Value) : (A.put d v).put d u = A.put d u := by
 cases d with
 | none => rfl
 | some d => simp [Act.put]
theorem put_comm (A : Act) {d e : Option Tmp} (h : ∀ t, d = some t → e ≠ some t) (u v : Value) : (A.put d v).put e u = (A.put e u).put d v := by
 cases d with
 | none => rfl
 | some d =>
   cases e with
   | none => rfl
   | some e =>
     have : d ≠ e := fun x => h d rfl (by rw [x])
     simp [Act.put, Array.setIfInBounds_comm _ _ this]
theorem put_defers (A : Act) (d : Option Tmp) (v : Value) : (A.put d v).defers = A.defers := by cases d <;> rfl
theorem put_size (A : Act) (d : Option Tmp) (v : Value) : (A.put d v).tmps.size = A.tmps.size := by cases d <;> simp [Act.put]
theorem put_at (A : Act) {d : Option Tmp} {t : Nat} (h : d ≠ some t) (v : Value) : (A.put d v).tmps[t]? = A.tmps[t]? := by
 cases d with
 | none => rfl
 | some d =>
   have : d ≠ t := fun x => h (by rw [x])
   simp [Act.put, Array.getElem?_setIfInBounds_ne this]
theorem put_eval (A : Act) {o : Oper} {d : Option Tmp} (h : ∀ t ∈ o.looksAt ops, d ≠ some t) (v : Value) : ∀ x ∈ o.op.operands, (A.put d v).eval x = A.eval x := by
 intro x hx
 cases x with
 | tmp t =>
   have hm : t ∈ o.looksAt ops := List.mem_append_left _ (List.mem_filterMap.2 ⟨.tmp t, by simpa using hx, rfl⟩); have := put_at A (h t hm) v; simp [Act.eval, this]
 | _ => rfl
theorem put_wanted (A : Act) {o : Oper} {d : Option Tmp} (h : ∀ t ∈ o.looksAt ops, d ≠ some t) (v : Value) : Region.wanted o (yielded ops (A.put d v).tmps) = Region.wanted o (yielded ops A.tmps) := by
 unfold Region.wanted
 cases hg : o.guard with
 | none => rfl
 | some gw =>
   obtain ⟨g, want⟩ := gw
   have hy : yielded ops (A.put d v).tmps g = yielded ops A.tmps g := by
     unfold yielded
     cases ht : (ops[g]?).bind (·.dst) with
     | none => rfl
     | some t =>
       have hm : t ∈ o.looksAt ops := by simp [Oper.looksAt, hg, ht]
       simp [put_at A (h t hm) v]
   simp only [hy]
structure St (P : Program) (ops : Array Oper) (Q : Exit → Act → World → Prop) (md : Region.Mode) (post : List (Nat × Bool)) (pre : List Nat) (A : Act) (B J : World → Prop) : Prop where
 sub : ∀ w, J w → B w
 op : ∀ i ∈ pre, ∀ o, ops[i]? = some o → (match o.op with | .select .. => false | .defer _ => false | _ => true) = true
 fact : ∀ i ∈ pre, ∀ o, ops[i]? = some o → ∀ w, B w → wpList P ops (fun e a' w' => e = .normal ∧ a' = A ∧ w' = w) [o] A w
 looks : ∀ i ∈ pre, ∀ o, ops[i]? = some o → ∀ t ∈ o.looksAt ops, ∀ p ∈ post, ∀ q, ops[p.1]? = some q → q.dst ≠ some t
 dst : ∀ i ∈ pre, ∀ o, ops[i]? = some o → ∀ d, o.dst = some d → ∀ p ∈ post, ∀ q, ops[p.1]? = some q → q.dst ≠ some d
 ok : okM md ops post = true
 seq : SeqM P ops Q (named ops post) A B J
theorem okM_cons {i : Nat} {b : Bool} {r : List (Nat × Bool)} (h : okM md ops ((i, b) :: r) = true) : ∃ o, ops[i]? = some o ∧ (match o.op with | .select .. => false | .defer _ => false | _ => true) = true ∧
   (∀ t ∈ o.looksAt ops, o.dst ≠ some t ∧ ∀ p ∈ r, ∀ q, ops[p.1]? = some q → q.dst ≠ some t) ∧ (∀ d, o.dst = some d → ∀ p ∈ r, ∀ q, ops[p.1]? = some q → q.dst ≠ some d) ∧
   (∀ p ∈ r, p.1 ≠ i) ∧ (b = true → ∀ k, k < r.length → bound md ops ((r.getD k (0, false)).1) (i :: (r.take k).map (·.1)) = true) ∧ okM md ops r = true := by
 simp only [okM, Bool.and_eq_true] at h; obtain ⟨⟨⟨h1, h2⟩, h3⟩, h4⟩ := h
 cases ho : ops[i]? with
 | none => rw [ho] at h1; cases h1
 | some o =>
   rw [ho] at h1; simp only [Bool.and_eq_true] at h1; obtain ⟨⟨g1, g2⟩, g3⟩ := h1; refine ⟨o, rfl, g1, fun t ht => ?_, fun d hd p hp q hq => ?_, fun p hp => ?_, fun hb k hk => ?_, h4⟩
   · have := List.all_eq_true.1 g2 t ht
     simp only [Bool.and_eq_true, bne_iff_ne, List.all_eq_true] at this; refine ⟨this.1, fun p hp q hq => ?_⟩; have h5 := this.2 p hp; rw [hq] at h5; simpa using h5
   · rw [hd] at g3
     have h5 := List.all_eq_true.1 g3 p hp; rw [hq] at h5; simpa using h5
   · have := List.all_eq_true.1 h2 p hp
     simpa using this
   · rw [hb] at h3
     simp only [Bool.not_true, Bool.false_or] at h3; exact List.all_eq_true.1 h3 k (List.mem_range.2 hk)
theorem named_cons {i : Nat} {b : Bool} {r : List (Nat × Bool)} {o : Oper} (h : ops[i]? = some o) : named ops ((i, b) :: r) = (o, b) :: named ops r := by
 unfold named; rw [List.filterMap_cons]; simp [h]
theorem St.step {i : Nat} {b : Bool} {r : List (Nat × Bool)} {pre : List Nat} {A : Act} {B J B' J' : World → Prop} {o : Oper} {v : Value} (h : St P ops Q md ((i, b) :: r) pre A B J) (ho : ops[i]? = some o) (hB : ∀ w, B' w → B w) (hJ : ∀ w, J' w → B' w)
   (hs : SeqM P ops Q (named ops r) (A.put o.dst v) B' J') : St P ops Q md r pre (A.put o.dst v) B' J' := by
 obtain ⟨o', ho', g1, g2, g3, g4, g5, g6⟩ := okM_cons h.ok; rw [ho] at ho'
 cases ho'
 refine ⟨hJ, h.op, fun k hk ok hok w hw => ?_, fun k hk ok hok t ht p hp => h.looks k hk ok hok t ht p (List.mem_cons_of_mem _ hp), fun k hk ok hok d hd p hp => h.dst k hk ok hok d hd p (List.mem_cons_of_mem _ hp), g6, hs⟩; have hl : ∀ t ∈ ok.looksAt ops, o.dst ≠ some t := fun t ht => h.looks k hk ok hok t ht (i, b) (by simp) o ho
 refine shift (h.op k hk ok hok) (put_eval A hl v) (put_wanted A hl v) rfl (fun u hu => ?_) (h.fact k hk ok hok w (hB w hw)); rw [put_comm A (d := o.dst) (e := ok.dst) (fun t ht he => h.dst k hk ok hok t he (i, b) (by simp) o ho ht) u v, hu]
theorem St.still {i : Nat} {b : Bool} {r : List (Nat × Bool)} {pre : List Nat} {A : Act} {B J : World → Prop} {o : Oper} {v : Value} (h : St P ops Q md ((i, b) :: r) pre A B J) (ho : ops[i]? = some o)
   (hv : ∀ w, B w → wpList P ops (fun e a' w' => e = .normal ∧ a' = A.put o.dst v ∧ w' = w) [o] A w)
   (hs : SeqM P ops Q (named ops r) (A.put o.dst v) B J) : St P ops Q md r (i :: pre) (A.put o.dst v) B J := by
 have h1 := h.step ho (fun _ h => h) h.sub hs; obtain ⟨o', ho', g1, g2, g3, g4, g5, g6⟩ := okM_cons h.ok; rw [ho] at ho'
 cases ho'
 refine ⟨h.sub, fun k hk ok hok => ?_, fun k hk ok hok w hw => ?_, fun k hk ok hok t ht p hp q hq => ?_, fun k hk ok hok d hd p hp q hq => ?_, h1.ok, h1.seq⟩
 · rcases List.mem_cons.1 hk with rfl | hk
   · rw [ho] at hok; cases hok; exact g1
   · exact h1.op k hk ok hok
 · rcases List.mem_cons.1 hk with rfl | hk
   · rw [ho] at hok; cases hok
     have hl : ∀ t ∈ o.looksAt ops, o.dst ≠ some t := fun t ht => (g2 t ht).1
     refine shift g1 (put_eval A hl v) (put_wanted A hl v) (put_defers _ _ _) (fun u hu => ?_) (hv w hw); rw [put_put, hu]
   · exact h1.fact k hk ok hok w hw
 · rcases List.mem_cons.1 hk with rfl | hk
   · rw [ho] at hok; cases hok; exact (g2 t ht).2 p hp q hq
   · exact h1.looks k hk ok hok t ht p hp q hq
 · rcases List.mem_cons.1 hk with rfl | hk
   · rw [ho] at hok; cases hok; exact g3 d hd p hp q hq
   · exact h1.dst k hk ok hok d hd p hp q hq
theorem Agree.more {A a : Act} {listed : Array Bool} {i : Nat} {o : Oper} {v : Value} (h : Agree ops A listed a) (ho : ops[i]? = some o) (hl : listed.getD i true = false) : Agree ops (A.put o.dst v) listed a := by
 refine ⟨by rw [put_defers]; exact h.defers, by rw [put_size]; exact h.size, fun t ht => ?_⟩; rw [put_at A (fun e => by have := ht i o ho e; rw [hl] at this; cases this) v]; exact h.at' t ht
theorem advance {a : Act} {listed : Array Bool} {B J : World → Prop} : ∀ (post : List (Nat × Bool)) (pre : List Nat) (A : Act), St P ops Q md post pre A B J → Agree ops A listed a → (∀ p ∈ post, listed.getD p.1 true = false) →
   ∃ post' pre' A', St P ops Q md post' pre' A' B J ∧ Agree ops A' listed a ∧ (∀ p ∈ post', listed.getD p.1 true = false) ∧ (∀ j, (j ∈ pre ∨ ∃ p ∈ post, p.1 = j) → j ∈ pre' ∨ ∃ p ∈ post', p.1 = j) ∧
     (post' = [] ∨ ∃ c o r, post' = (c, true) :: r ∧ ops[c]? = some o ∧ Region.wanted o (yielded ops A'.tmps) = true)
 | [], pre, A, h, ha, hu => ⟨[], pre, A, h, ha, hu, fun _ h => h, .inl rfl⟩
 | (i, b) :: r, pre, A, h, ha, hu => by
   obtain ⟨o, ho, g1, g2, g3, g4, g5, g6⟩ := okM_cons h.ok; have hs := h.seq; rw [named_cons ho] at hs; have hi := hu (i, b) (by simp)
   have key : ∀ v, (∀ w, B w → wpList P ops (fun e a' w' => e = .normal ∧ a' = A.put o.dst v ∧ w' = w) [o] A w) → SeqM P ops Q (named ops r) (A.put o.dst v) B J →
       ∃ post' pre' A', St P ops Q md post' pre' A' B J ∧ Agree ops A' listed a ∧ (∀ p ∈ post', listed.getD p.1 true = false) ∧ (∀ j, (j ∈ pre ∨ ∃ p ∈ (i, b) :: r, p.1 = j) → j ∈ pre' ∨ ∃ p ∈ post', p.1 = j) ∧
         (post' = [] ∨ ∃ c o r, post' = (c, true) :: r ∧ ops[c]? = some o ∧ Region.wanted o (yielded ops A'.tmps) = true) := by
     intro v hv hs2; obtain ⟨post', pre', A', k1, k2, k3, k4, k5⟩ := advance r (i :: pre) _ (h.still ho hv hs2) (ha.more ho hi) (fun p hp => hu p (List.mem_cons_of_mem _ hp)); refine ⟨post', pre', A', k1, k2, k3, fun j hj => k4 j ?_, k5⟩; rcases hj with hj | ⟨p, hp, rfl⟩
     · exact .inl (List.mem_cons_of_mem _ hj)
     · rcases List.mem_cons.1 hp with rfl | hp
       · exact .inl (by simp)
       · exact .inr ⟨p, hp, rfl⟩
   by_cases hw : Region.wanted o (yielded ops A.tmps) = true
   · cases b with
     | true => exact ⟨_, pre, A, h, ha, hu, fun _ h => h, .inr ⟨i, o, r, rfl, ho, hw⟩⟩
     | false =>
       simp only [SeqM, hw, if_true] at hs; obtain ⟨v, hv, hs2⟩ := hs; exact key v hv hs2
   · have hoff : ∀ w, B w → wpList P ops (fun e a' w' => e = .normal ∧ a' = A.put o.dst undef ∧ w' = w) [o] A w := fun w _ => by
       unfold wpList; rw [if_neg hw]; exact ⟨rfl, rfl, rfl⟩
     cases b with
     | true =>
       simp only [SeqM, hw] at hs; exact key undef hoff hs
     | false =>
       simp only [SeqM, hw] at hs; exact key undef hoff hs
theorem ready_some (hf : fine md ops = true) (left : List Nat) (listed : Array Bool) (hsz : listed.size = ops.size) (hl : ∀ j, j ∈ left ↔ listed.getD j true = false) (hr : Region.ready md ops listed = []) : left = [] := by
 have : ∀ k j, j < k → listed.getD j true = false → False := by
   intro k
   induction k with
   | zero => intro j h; omega
   | succ k ih =>
     intro j hj hjl
     have hjs : j < ops.size := by
       rcases Nat.lt_or_ge j ops.size with h | h
       · exact h
       · simp [Array.getElem?_eq_none (show listed.size ≤ j by omega)] at hjl
     obtain ⟨o, ho⟩ : ∃ o, ops[j]? = some o := ⟨ops[j], by simp [hjs]⟩
     have hmem : j ∈ Region.ready md ops listed := by
       rw [mem_ready]; refine ⟨hjl, o, ho, fun e he hb => ?_⟩; have hlt := (fine_at hf ho).2.2.1 e he hb
       cases hx : listed.getD e.on true with
       | false => exact (ih e.on (by omega) hx).elim
       | true =>
         have hes : e.on < listed.size := by omega
         simp [hes] at hx ⊢; exact hx
     rw [hr] at hmem
     cases hmem
 cases left with
 | nil => rfl
 | cons j l => exact (this (j + 1) j (by omega) ((hl j).1 (by simp))).elim
theorem St.step0 {i : Nat} {b : Bool} {r : List (Nat × Bool)} {pre : List Nat} {A : Act} {B J B' J' : World → Prop} {v : Value} {o : Oper} (h : St P ops Q md ((i, b) :: r) pre A B J) (hJ : ∀ w, J' w → B' w)
   (hs : SeqM P ops Q (named ops r) (A.put o.dst v) B' J') : St P ops Q md r [] (A.put o.dst v) B' J' := by
 obtain ⟨o', ho', g1, g2, g3, g4, g5, g6⟩ := okM_cons h.ok; exact ⟨hJ, fun k hk => (by cases hk), fun k hk => (by cases hk), fun k hk => (by cases hk), fun k hk => (by cases hk), g6, hs⟩
theorem endsAll_at {o : Oper} {i : Nat} {listed : Array Bool} (h : endsAll ops o = true) (hsz : listed.size = ops.size) (hi : i < ops.size) (hun : listed.getD i true = false)
   (hall : ∀ e ∈ o.after, Region.binds .any e = true → listed.getD e.on true = true) : ∀ j, listed.getD j true = false → j = i := by
 intro j hj
 have hjs : j < ops.size := by
   rcases Nat.lt_or_ge j ops.size with h | h
   · exact h
   · simp [show ¬ j < listed.size by omega] at hj
 have free : ∀ k, listed.getD k true = false → (o.after.any fun e => Region.binds .any e && e.on == k) = false := fun k hk => by
   cases hx : o.after.any fun e => Region.binds .any e && e.on == k with
   | false => rfl
   | true =>
     obtain ⟨e, he, hbe⟩ := Array.any_eq_true'.1 hx; simp only [Bool.and_eq_true, beq_iff_eq] at hbe; have := hall e he hbe.1; rw [hbe.2, hk] at this
     cases this
 unfold endsAll at h; have hlen := of_decide_eq_true h; have mi : i ∈ (List.range ops.size).filter fun j => !(o.after.any fun e => Region.binds .any e && e.on == j) := List.mem_filter.2 ⟨List.mem_range.2 hi, by rw [free i hun]; rfl⟩
 have mj : j ∈ (List.range ops.size).filter fun j => !(o.after.any fun e => Region.binds .any e && e.on == j) := List.mem_filter.2 ⟨List.mem_range.2 hjs, by rw [free j hj]; rfl⟩
 generalize ((List.range ops.size).filter fun j => !(o.after.any fun e => Region.binds .any e && e.on == j)) = F at *
 match F, hlen with
 | [], _ => cases mi
 | [x], _ =>
   rw [List.mem_singleton] at mi mj; rw [mi, mj]
 | _ :: _ :: _, h => simp at h
theorem run_made (hmd : md = .any) (hf : fine md ops = true) : ∀ (m : Nat) (left : List Nat) (listed : Array Bool) (a A : Act) (w : World) (B J : World → Prop) (post : List (Nat × Bool)) (pre : List Nat), left.length = m → listed.size = ops.size → left.Nodup → (∀ j, j ∈ left ↔ listed.getD j true = false) →
   (∀ j, listed.getD j true = false → j ∈ pre ∨ ∃ p ∈ post, p.1 = j) → (∀ p ∈ post, listed.getD p.1 true = false) → Agree ops A listed a → J w → St P ops Q md post pre A B J → wpAny P md ops Q m listed a w := by
 intro m
 induction m with
 | zero =>
   intro left listed a A w B J post pre hm hsz hnd hl hc hu ha hJ hS; have hn : left = [] := List.length_eq_zero_iff.1 hm; subst hn; obtain ⟨post', pre', A', k1, k2, k3, k4, k5⟩ := advance post pre A hS ha hu
   have hp : post' = [] := by
     cases post' with
     | nil => rfl
     | cons p r => have := (hl p.1).2 (k3 p (by simp)); cases this
   subst hp
   have ht : a = A' := by
     have ht : a.tmps = A'.tmps := by
       refine Array.ext k2.size fun t h1 h2 => ?_
       have := k2.at' t fun j o _ _ => by
         have := (hl j).2
         cases hx : listed.getD j true with
         | true => rfl
         | false => cases this hx
       simpa [h1, h2] using this
     have hd := k2.defers
     cases a; cases A'
     simp only at ht hd; rw [ht, hd]
   subst ht; refine ⟨?_, k1.seq w hJ⟩
   cases hr : Region.ready md ops listed with
   | nil => rfl
   | cons i rs =>
     have : i ∈ Region.ready md ops listed := by rw [hr]; simp
     have := (hl i).2 (mem_ready.1 this).1
     cases this
 | succ m ih =>
   intro left listed a A w B J post pre hm hsz hnd hl hc hu ha hJ hS; refine ⟨fun hr => ?_, fun i hi => ?_⟩
   · rw [ready_some hf left listed hsz hl hr] at hm; simp at hm
   obtain ⟨post', pre', A', k1, k2, k3, k4, k5⟩ := advance post pre A hS ha hu; obtain ⟨hun, o, ho, hall⟩ := mem_ready.1 hi; obtain ⟨f1, f2, f3, f4⟩ := fine_at hf ho; have his : i < ops.size := (Array.getElem?_eq_some_iff.1 ho).1
   have hlook : ∀ t ∈ o.looksAt ops, ∀ j p, ops[j]? = some p → p.dst = some t → listed.getD j true = true := by
     intro t ht j p hj hp; obtain ⟨e, he, hb, rfl⟩ := f4 t ht j p hj hp; have h1 := hall e he hb; have hes : e.on < listed.size := by have := (Array.getElem?_eq_some_iff.1 hj).1; omega
     simp [hes] at h1 ⊢; exact h1
   have heval := k2.eval hlook; have hwant := k2.wanted hlook; have hmem : i ∈ left := (hl i).2 hun
   have hnext : ∀ (A1 : Act) (B1 J1 : World → Prop) (post1 : List (Nat × Bool)) (pre1 : List Nat) (v : Value) (w' : World), A1.put o.dst v = A1 → Agree ops A1 listed a → J1 w' → St P ops Q md post1 pre1 A1 B1 J1 →
       (∀ j, listed.getD j true = false → j ≠ i → j ∈ pre1 ∨ ∃ p ∈ post1, p.1 = j) → (∀ p ∈ post1, listed.getD p.1 true = false ∧ p.1 ≠ i) → wpAny P md ops Q m (listed.setIfInBounds i true) (a.put o.dst v) w' := by
     intro A1 B1 J1 post1 pre1 v w' hv hag hJ1 hS1 hc1 hu1; refine ih (left.erase i) _ _ A1 w' B1 J1 post1 pre1 (by rw [List.length_erase_of_mem hmem, hm]; rfl) (by simpa using hsz) (hnd.erase i) (fun j => ?_) (fun j hj => ?_) (fun p hp => ?_) (hag.put ho hv) hJ1 hS1
     · rw [hnd.mem_erase_iff, hl j]
       by_cases e : i = j
       · subst e
         simp [show i < listed.size by omega]
       · rw [getD_set_ne true e]
         exact ⟨fun h => h.2, fun h => ⟨fun h' => e h'.symm, h⟩⟩
     · by_cases e : i = j
       · subst e
         simp [show i < listed.size by omega] at hj
       · rw [getD_set_ne true e] at hj
         exact hc1 j hj (fun h => e h.symm)
     · rw [getD_set_ne true (fun e => (hu1 p hp).2 e.symm)]
       exact (hu1 p hp).1
   have hcase : i ∈ pre' ∨ ∃ p ∈ post', p.1 = i := k4 i (hc i hun)
   have hkeep : ∀ v w', A'.put o.dst v = A' → w' = w → (∀ p ∈ post', p.1 ≠ i) → wpAny P md ops Q m (listed.setIfInBounds i true) (a.put o.dst v) w' := fun v w' hv hw hn =>
     hnext A' B J post' pre' v w' hv k2 (hw ▸ hJ) k1 (fun j hj hne => k4 j (hc j hj)) (fun p hp => ⟨k3 p hp, hn p hp⟩)
   by_cases hpost : ∃ p ∈ post', p.1 = i
   · rcases k5 with rfl | ⟨c, oc, r, rfl, hoc, hwc⟩
     · obtain ⟨p, hp, _⟩ := hpost; cases hp
     obtain ⟨o', ho', g1, g2, g3, g4, g5, g6⟩ := okM_cons k1.ok
     have hci : i = c := by
       obtain ⟨p, hp, rfl⟩ := hpost; rcases List.mem_cons.1 hp with rfl | hp
       · rfl
       · exfalso
         obtain ⟨k, hk, hpk⟩ := List.getElem_of_mem hp; have hb := g5 rfl k hk; rw [List.getD_eq_getElem?_getD, List.getElem?_eq_getElem hk, Option.getD_some, hpk] at hb; unfold bound at hb; rw [ho] at hb; obtain ⟨e, he, hbe⟩ := Array.any_eq_true'.1 hb; simp only [Bool.and_eq_true, List.contains_iff_mem] at hbe; have h1 := hall e he hbe.1
         have hun2 : listed.getD e.on true = false := by
           rcases List.mem_cons.1 hbe.2 with h | h
           · rw [h]; exact k3 (c, true) (by simp)
           · obtain ⟨q, hq, hqe⟩ := List.mem_map.1 h
             rw [← hqe]; exact k3 q (List.mem_cons_of_mem _ (List.mem_of_mem_take hq))
         have hes : e.on < listed.size := by
           have := f3 e he hbe.1; omega
         simp [hes] at h1 hun2; rw [h1] at hun2
         cases hun2
     subst hci; rw [ho] at hoc ho'
     cases hoc
     cases ho'
     have hs := k1.seq; rw [named_cons ho] at hs; simp only [SeqM, hwc, if_true] at hs; have h := hs w hJ
     have hmake : ∀ u w', (∃ v B' J', A'.put o.dst u = A'.put o.dst v ∧ J' w' ∧ SeqM P ops Q (named ops r) (A'.put o.dst v) B' J' ∧ (∀ w, J' w → B' w) ∧ (endsAll ops o = true ∨ ∀ w, B' w → B w)) → wpAny P md ops Q m (listed.setIfInBounds i true) (a.put o.dst u) w' := by
       rintro u w' ⟨v, B', J', h1, h2, h3, h4, h5⟩; rw [← h1] at h3; rcases h5 with h5 | h5
       · have hend := endsAll_at (listed := listed) h5 hsz his hun (fun e he hb => by
           have h1 := hall e he (by rw [hmd]; exact hb); rcases Nat.lt_or_ge e.on listed.size with hes | hes
           · simp [hes] at h1 ⊢
             exact h1
           · simp [show ¬ e.on < listed.size by omega])
         exact hnext (A'.put o.dst u) B' J' r [] u w' (put_put _ _ _ _) (k2.more ho (k3 (i, true) (by simp))) h2 (k1.step0 h4 h3) (fun j hj hne => (hne (hend j hj)).elim) (fun p hp => ⟨k3 p (List.mem_cons_of_mem _ hp), g4 p hp⟩)
       refine hnext (A'.put o.dst u) B' J' r pre' u w' (put_put _ _ _ _) (k2.more ho (k3 (i, true) (by simp))) h2 (k1.step ho h5 h4 h3) (fun j hj hne => ?_) (fun p hp => ⟨k3 p (List.mem_cons_of_mem _ hp), g4 p hp⟩); rcases k4 j (hc j hj) with h | ⟨p, hp, rfl⟩
       · exact .inl h
       · rcases List.mem_cons.1 hp with rfl | hp
         · exact (hne rfl).elim
         · exact .inr ⟨p, hp, rfl⟩
     unfold wpOp; simp only [ho]; unfold wpList at h; rw [hwant]; simp only [hwc, if_true] at h ⊢; rcases h with h | ⟨_, _, _, h, _⟩
     case inr => cases h
     refine .inl ?_; unfold Oper.wp at h ⊢; rw [execOp_congr o f1 heval]; generalize (execOp A'.eval o).run P w = x at *
     cases x with
     | ok x w' =>
       cases x <;> simp only [Oper.upon] at h ⊢
       case value v => exact hmake v w' h.2
       case skip => exact hmake _ w' h.2
       case defer d =>
         obtain ⟨v, B', J', h1, _⟩ := h.2; have := congrArg (fun b : Act => b.defers.length) h1; simp only [put_defers] at this; simp at this
       case enter f args =>
         refine Calls.mono h fun e w'' he => ?_
         cases e with
         | returned v => exact hmake v w'' he.2
         | panicked c => cases he.1
         | outgrown => obtain ⟨_, _, h, _⟩ := he; cases h
       case row row args => exact Rows.mono h fun v w'' he => hmake v w'' he.2
     | halt x w' =>
       cases x <;> simp only [Oper.upon] at h ⊢
       case panic u => cases h.1
   · have hpre : i ∈ pre' := hcase.resolve_right hpost
     have hne : ∀ p ∈ post', p.1 ≠ i := fun p hp e => hpost ⟨p, hp, e⟩
     have h := k1.fact i hpre o ho w (k1.sub w hJ); unfold wpOp; simp only [ho]; unfold wpList at h; rw [hwant]
     split
     · rename_i hw
       simp only [hw, if_true] at h; rcases h with h | ⟨_, _, _, h, _⟩
       case inr => cases h
       refine .inl ?_; unfold Oper.wp at h ⊢; rw [execOp_congr o f1 heval]; generalize (execOp A'.eval o).run P w = r at *
       cases r with
       | ok x w' =>
         cases x <;> simp only [Oper.upon] at h ⊢
         case value v => exact hkeep v w' h.2.1 h.2.2 hne
         case skip => exact hkeep _ w' h.2.1 h.2.2 hne
         case defer d =>
           have := congrArg List.length (put_self h.2.1).1; simp at this
         case enter f args =>
           refine Calls.mono h fun e w'' he => ?_
           cases e with
           | returned v => exact hkeep v w'' he.2.1 he.2.2 hne
           | panicked c => cases he.1
           | outgrown => obtain ⟨_, _, h, _⟩ := he; cases h
         case row row args => exact Rows.mono h fun v w'' he => hkeep v w'' he.2.1 he.2.2 hne
       | halt x w' =>
         cases x <;> simp only [Oper.upon] at h ⊢
         case panic u => cases h.1
     · rename_i hw
       simp only [hw] at h; exact hkeep _ w h.2.1 rfl hne
structure WalkM (P : Program) (ops : Array Oper) (Q : Exit → Act → World → Prop) (l : List (Oper × Bool)) (a : Act) (B J : World → Prop) : Prop where
 go : SeqM P ops Q l a B J
theorem WalkM.nil {a : Act} {B J : World → Prop} (h : ∀ w, J w → Q .normal a w) : WalkM P ops Q [] a B J := ⟨h⟩
theorem WalkM.off {a : Act} {B J : World → Prop} {o : Oper} {b : Bool} {r : List (Oper × Bool)} (hw : asks ops.toList o a.tmps.toList = false) (h : WalkM P ops Q r (a.put o.dst undef) B J) : WalkM P ops Q ((o, b) :: r) a B J := by
 have hw' : Region.wanted o (yielded ops a.tmps) = false := (asks_eq _ _ _).trans hw; refine ⟨?_⟩
 cases b <;> (simp only [SeqM, hw']; exact h.go)
structure Lets (A : Act) (w : World) (e : Exit) (a' : Act) (w' : World) : Prop where
 e : e = .normal
 a : a' = A
 i : w' = w
theorem Lets.eq {A : Act} {w : World} : Lets A w = fun e a' w' => e = .normal ∧ a' = A ∧ w' = w := by
 funext e a' w'
 exact propext ⟨fun h => ⟨h.e, h.a, h.i⟩, fun h => ⟨h.1, h.2.1, h.2.2⟩⟩
theorem WalkM.on {a : Act} {B J : World → Prop} {o : Oper} {r : List (Oper × Bool)} (hw : asks ops.toList o a.tmps.toList = true) {v : Value}
   (h1 : ∀ w, B w → wpList P ops (Lets (a.put o.dst v) w) [o] a w) (h : WalkM P ops Q r (a.put o.dst v) B J) : WalkM P ops Q ((o, false) :: r) a B J := by
 have hw' : Region.wanted o (yielded ops a.tmps) = true := (asks_eq _ _ _).trans hw; refine ⟨?_⟩; simp only [SeqM, hw', if_true]; exact ⟨v, fun w hB => Lets.eq ▸ h1 w hB, h.go⟩
structure Made (P : Program) (ops : Array Oper) (Q : Exit → Act → World → Prop) (r : List (Oper × Bool)) (a : Act) (o : Oper) (B : World → Prop) (e : Exit) (a' : Act) (w' : World) : Prop where
 e : e = .normal
 on : ∃ v B' J', a' = a.put o.dst v ∧ J' w' ∧ (∀ w, J' w → B' w) ∧ (endsAll ops o = true ∨ ∀ w, B' w → B w) ∧ WalkM P ops Q r (a.put o.dst v) B' J'
theorem mk3 {P : Program} {ops : Array Oper} {Q : Exit → Act → World → Prop} {r : List (Oper × Bool)} {a a' : Act} {o : Oper} {B : World → Prop} {w' : World} (v : Value) (hB : B w') (ha : a' = a.put o.dst v) (hw : WalkM P ops Q r (a.put o.dst v) B (fun V => V = w')) : Made P ops Q r a o B .normal a' w' := ⟨rfl, v, B, fun V => V = w', ha, rfl, fun V h => h ▸ hB, .inr fun _ h => h, hw⟩
theorem WalkM.make {a : Act} {B J : World → Prop} {o : Oper} {r : List (Oper × Bool)} (hw : asks ops.toList o a.tmps.toList = true)
   (h1 : ∀ w, J w → wpList P ops (Made P ops Q r a o B) [o] a w) : WalkM P ops Q ((o, true) :: r) a B J := by
 have hw' : Region.wanted o (yielded ops a.tmps) = true := (asks_eq _ _ _).trans hw
 have he : Made P ops Q r a o B = fun e a' w' => e = .normal ∧ ∃ v B' J', a' = a.put o.dst v ∧ J' w' ∧ SeqM P ops Q r (a.put o.dst v) B' J' ∧ (∀ w, J' w → B' w) ∧ (endsAll ops o = true ∨ ∀ w, B' w → B w) := by
   funext e a' w'
   exact propext ⟨fun h => ⟨h.e, let ⟨v, B', J', h1, h2, h3, h4, h5⟩ := h.on; ⟨v, B', J', h1, h2, h5.go, h3, h4⟩⟩, fun h => ⟨h.1, let ⟨v, B', J', h1, h2, h3, h4, h5⟩ := h.2; ⟨v, B', J', h1, h2, h4, h5, ⟨h3⟩⟩⟩⟩
 refine ⟨?_⟩; simp only [SeqM, hw', if_true]; exact fun w hJ => he ▸ h1 w hJ
theorem regionM {id : Nat} {a : Act} {w : World} (ord : List (Nat × Bool)) (B : World → Prop) (hm : P.follows .mixedOrders = true) (hf : fine .any ops = true) (hok : okM .any ops ord = true) (hwh : whole ops ord = true) (hB : B w.drew)
   {l : List (Oper × Bool)} (hl : named ops ord = l) (hs : WalkM P ops Q l a B (fun W => W = w.drew)) : (Code.region id ops true).wp P Q a w := by
 subst hl; refine wp_region_any hm ?_
 have h := run_made (md := .any) (P := P) (Q := Q) rfl hf ops.size (List.range ops.size) (Array.replicate ops.size false) a a w.drew B (fun W => W = w.drew) ord [] (by simp) (by simp) List.nodup_range (fun j => ?_) (fun j hj => ?_) (fun p hp => ?_) ⟨rfl, rfl, fun _ _ => rfl⟩ rfl
   ⟨fun W h => h ▸ hB, (fun i hi => nomatch hi), (fun i hi => nomatch hi), (fun i hi => nomatch hi), (fun i hi => nomatch hi), hok, hs.go⟩
 · exact h
 · rw [List.mem_range]
   by_cases h : j < ops.size
   · simp [h]
   · simp [h]
 · right
   have hjs : j < ops.size := by
     rcases Nat.lt_or_ge j ops.size with h | h
     · exact h
     · simp [h] at hj
   have := List.all_eq_true.1 hwh j (List.mem_range.2 hjs); obtain ⟨p, hp, hpj⟩ := List.any_eq_true.1 this; exact ⟨p, hp, by simpa using hpj⟩
 · have hlt : p.1 < ops.size := by
     clear hs hwh
     induction ord with
     | nil => cases hp
     | cons q r ih =>
       obtain ⟨o, ho, _, _, _, _, _, g6⟩ := okM_cons (i := q.1) (b := q.2) hok; rcases List.mem_cons.1 hp with rfl | hp
       · exact (Array.getElem?_eq_some_iff.1 ho).1
       · exact ih g6 hp
   simp [hlt]
end
end
end Pu
end Go.Proofs.YtgcnhmjpfbbfcaaGreat
