/-
  sector: spend, Stop, Counts.
  A region that draws its order, each of whose operations only reads what stands before the region, or computes, or calls what answers alike in whatever order: shown once for each operation, at the act that they all end in.
  A region that draws its order, some of whose operations make or write memory, one behind the other: walked once, in an order in which whatever comes behind such an operation is bound to it.
  sector: Counts, Write.
  sector: Write.
  sector: Write (what it refuses), Read.
  sector: Read.
  sector: Flush.
-/
import Derived.Test.YteiniahikhiadaaWn2
import Derived.Laws.LoneSync
import Derived.Test.YteiniahikhiadaaWn1
import Derived.OrdersIn

set_option linter.unusedVariables false
set_option linter.unusedSimpArgs false
namespace Go.Proofs.Yteiniahikhiadaa
open Go.RowKit Go.Maps
namespace Se
open Ce

section
variable {w w' : World} {base d sb mb : Nat} {D D' : Dv}
/-- the device's own block is written -/
theorem DvAt.own (h : DvAt w base d sb mb D) (hg : w.grownBy w' (some d)) (ho : Ob w' d 86 (devC D' sb mb)) (hs : D'.sure = D.sure) (hm : D'.dm = D.dm) (hok : OkD D') : DvAt w' base d sb mb D' := by
  refine ⟨ho, ?_, ?_, hok, h.ne, h.lo, by rw [hs]; exact h.len⟩
  · rw [hs]
    exact h.sure.kept (hg.block sb h.sure.lt (fun e => h.ne.1 (Option.some.inj e).symm)) hg.size
  · rw [hm]
    exact h.map.kept hg (fun e => h.ne.2.1 (Option.some.inj e).symm)
/-- what a call may write -/
def Dev (d sb mb : Nat) (w w' : World) : Prop := Kept (fun i => i < w.heap.size ∧ i ≠ d ∧ i ≠ sb ∧ i ≠ mb) w w'
theorem Dev.of_own (hg : w.grownBy w' (some d)) : Dev d sb mb w w' := Kept.of_grown hg fun _ hi => ⟨hi.1, fun e => hi.2.1 (Option.some.inj e)⟩
theorem spend_off (h : DvAt w base d sb mb D) (ho : offD D = true) :
    Calls Try.prog 70 #[.pointer (some ⟨d, 0, none⟩)] w fun e w' => e = .returned (.bool false) ∧ w = w' := by
  have cO := off_calls h
  rw [ho] at cO
  have CO := Lib.hid cO
  clear cO h
  go_enter Try.func70, Try.ntmps70
  go_wp2_with fail
  refine CO.out.mono ?_
  rintro e W ⟨rfl, rfl⟩
  go_wp2
  go_ret
  exact ⟨rfl, rfl⟩
theorem OkD.spend (h : OkD D) (ho : offD D = false) : OkD (spendD D) :=
  ⟨by rw [spendD_sure]; exact h.sure, by rw [spendD_sure, spendD_dm]; exact h.dm, spendD_left h ho, by rw [spendD_wr]; exact h.wr, by rw [spendD_fl]; exact h.fl⟩
set_option maxRecDepth 100000 in
theorem spend_calls (h : DvAt w base d sb mb D) (ho : offD D = false) :
    Calls Try.prog 70 #[.pointer (some ⟨d, 0, none⟩)] w fun e w' => e = .returned (.bool true) ∧ DvAt w' base d sb mb (spendD D) ∧ w.grownBy w' (some d) := by
  have cO := off_calls h
  rw [ho] at cO
  have CO := Lib.hid cO
  obtain ⟨y0, y1, y2, y3, -⟩ := Ob.dev h.ob
  have hl := h.ok.left
  have hz := h.ob.frozen 3
  cases hs : D.stops with
  | false =>
    have e : spendD D = D := by unfold spendD; rw [hs]; rfl
    have H := Lib.hid h
    rw [hs] at y2
    rw [e]
    clear cO h hs ho e
    go_enter Try.func70, Try.ntmps70
    go_wp2_with fail
    refine CO.out.mono ?_
    rintro e W ⟨rfl, rfl⟩
    go_wp2
    go_ret
    exact ⟨rfl, H.out, ⟨rfl, rfl, rfl, Nat.le_refl _, fun _ _ _ => rfl⟩⟩
  | true =>
    have hlp : 0 < D.left := by unfold offD at ho; rw [hs] at ho; simpa using ho
    have hst := h.ob.set 3 (.int .i64 (D.left - 1))
    have hg := grownBy_set w d 3 (.int .i64 (D.left - 1))
    have hC : (devC D sb mb).setIfInBounds 3 (.int .i64 (D.left - 1)) = devC (spendD D) sb mb := by
      unfold devC spendD
      rw [hs]
      rfl
    rw [hC] at hst
    have HD := Lib.hid (h.own hg hst (spendD_sure D) (spendD_dm D) (h.ok.spend ho))
    have HG := Lib.hid hg
    rw [hs] at y2
    clear cO h hs ho hC hst hg
    generalize D.left = L at *
    go_enter Try.func70, Try.ntmps70
    go_wp2_with fail
    refine CO.out.mono ?_
    rintro e W ⟨rfl, rfl⟩
    go_wp2
    go_ret
    exact ⟨rfl, HD.out, HG.out⟩
set_option maxRecDepth 100000 in
theorem stop_calls (h : DvAt w base d sb mb D) (n : Int) (h0 : -9223372036854775808 ≤ n) (h1 : n ≤ 9223372036854775807) :
    Calls Try.prog 33 #[.pointer (some ⟨d, 0, none⟩), .int .i64 n] w fun e w' => e = .returned (.tuple #[]) ∧ DvAt w' base d sb mb (stopD D n) ∧ w.grownBy w' (some d) := by
  obtain ⟨y0, y1, y2, y3, -⟩ := Ob.dev h.ob
  have cM := Lib.hid (made_calls d mb w y1)
  have hz := h.ob.frozen 3
  have hz2 := h.ob.frozen 2
  have hst := (h.ob.set 2 (.bool (decide (0 ≤ n)))).set 3 (.int .i64 n)
  have hg := (grownBy_set w d 2 (.bool (decide (0 ≤ n)))).trans (grownBy_set _ d 3 (.int .i64 n))
  have hC : ((devC D sb mb).setIfInBounds 2 (.bool (decide (0 ≤ n)))).setIfInBounds 3 (.int .i64 n) = devC (stopD D n) sb mb := rfl
  rw [hC] at hst
  have HD := Lib.hid (h.own hg hst rfl rfl (h.ok.stop h0 h1))
  have HG := Lib.hid hg
  clear h hC hst hg
  go_enter Try.func33, Try.ntmps33
  go_wp2_with fail
  refine cM.out.mono ?_
  rintro e W ⟨rfl, rfl⟩
  go_wp2
  go_end0
  exact ⟨rfl, HD.out, HG.out⟩
theorem stop_nil (n : Int) (w : World) : Calls Try.prog 33 #[.pointer none, .int .i64 n] w fun e w' => e = .returned (.tuple #[]) ∧ w = w' := by
  have cM := Lib.hid (made_nil w)
  go_enter Try.func33, Try.ntmps33
  go_wp2_with fail
  refine cM.out.mono ?_
  rintro e W ⟨rfl, rfl⟩
  go_wp2
  go_end0
  exact ⟨rfl, rfl⟩
/-- the counters -/
theorem add_calls (j : Nat) (x : Int) (w : World) (hc : w.cell? ⟨d, j, none⟩ = some (.int .i64 x)) (hz : w.frozen? ⟨d, j, none⟩ = false) :
    Calls Try.prog 71 #[.pointer (some ⟨d, j, none⟩), .int .i64 1] w fun e w' => e = .returned (.int .i64 (wrap64 (x + 1))) ∧ w' = w.setCell ⟨d, j, none⟩ (.int .i64 (wrap64 (x + 1))) := by
  have hadd := run_call_add (P := Try.prog) Try.func91 (by kernel_rfl) (by kernel_rfl) (by kernel_rfl) .i64 (by kernel_rfl) (y := 1) (s := wrap64 (x + 1)) hc hz (by simp [go_sem, wrap64, IntKind.wrap_i64])
  go_enter Try.func71, Try.ntmps71
  go_wp2
  go_ret
  exact ⟨rfl, rfl⟩
theorem load_calls (j : Nat) (x : Int) (w : World) (hc : w.cell? ⟨d, j, none⟩ = some (.int .i64 x)) :
    Calls Try.prog 75 #[.pointer (some ⟨d, j, none⟩)] w fun e w' => e = .returned (.int .i64 x) ∧ w = w' := by
  have hl := run_call_load (P := Try.prog) Try.func95 (by kernel_rfl) (by kernel_rfl) (by kernel_rfl) .i64 (by kernel_rfl) hc
  go_enter Try.func75, Try.ntmps75
  go_wp2
  go_ret
  exact ⟨rfl, rfl⟩
end
end Se
end Go.Proofs.Yteiniahikhiadaa

namespace Go.Proofs.Yteiniahikhiadaa
open Go.RowKit
namespace Pu

section
variable {F : Fence} {n : Nat} {P : Program} {ops : Array Oper} {Q : Exit → Act → World → Prop} {md : Region.Mode}

/-- no operation selects or defers; what binds an operation stands ahead of it; what it looks at is written by none but operations that bind it -/
def fine (md : Region.Mode) (ops : Array Oper) : Bool :=
  (List.range ops.size).all fun i => match ops[i]? with
    | none => true
    | some o =>
      (match o.op with | .select .. => false | .defer _ => false | _ => true) &&
      (o.after.all fun e => !Region.binds md e || decide (e.on < i)) &&
      (o.looksAt ops).all fun t => (List.range ops.size).all fun j => match ops[j]? with
        | some p => p.dst != some t || o.after.any fun e => Region.binds md e && e.on == j
        | none => true

theorem fine_at (h : fine md ops = true) {i : Nat} {o : Oper} (hi : ops[i]? = some o) :
    (∀ cs b, o.op ≠ .select cs b) ∧ (∀ c, o.op ≠ .defer c) ∧ (∀ e ∈ o.after, Region.binds md e = true → e.on < i) ∧
    ∀ t ∈ o.looksAt ops, ∀ j p, ops[j]? = some p → p.dst = some t → ∃ e ∈ o.after, Region.binds md e = true ∧ e.on = j := by
  have hlt : i < ops.size := (Array.getElem?_eq_some_iff.1 hi).1
  have h1 := List.all_eq_true.1 h i (List.mem_range.2 hlt)
  simp only [hi, Bool.and_eq_true] at h1
  obtain ⟨⟨a1, a2⟩, a3⟩ := h1
  refine ⟨fun cs b e => ?_, fun c e => ?_, fun e he hb => ?_, fun t ht j p hj hd => ?_⟩
  · rw [e] at a1; cases a1
  · rw [e] at a1; cases a1
  · have := Array.all_eq_true_iff_forall_mem.1 a2 e he
    simpa [hb] using this
  · have hjl : j < ops.size := (Array.getElem?_eq_some_iff.1 hj).1
    have h2 := List.all_eq_true.1 (List.all_eq_true.1 a3 t ht) j (List.mem_range.2 hjl)
    simp only [hj, hd, Bool.or_eq_true, bne_self_eq_false, Bool.false_eq_true, false_or] at h2
    obtain ⟨e, he, hb⟩ := Array.any_eq_true'.1 h2
    simp only [Bool.and_eq_true, beq_iff_eq] at hb
    exact ⟨e, he, hb.1, hb.2⟩

/-- the act agrees with the last one wherever no operation still to come writes -/
structure Agree (ops : Array Oper) (A : Act) (listed : Array Bool) (a : Act) : Prop where
  defers : a.defers = A.defers
  size : a.tmps.size = A.tmps.size
  at' : ∀ t : Nat, (∀ j o, ops[j]? = some o → o.dst = some t → listed.getD j true = true) → a.tmps[t]? = A.tmps[t]?

theorem Agree.eval {A a : Act} {listed : Array Bool} (h : Agree ops A listed a) {o : Oper} (hl : ∀ t ∈ o.looksAt ops, ∀ j p, ops[j]? = some p → p.dst = some t → listed.getD j true = true) :
    ∀ x ∈ o.op.operands, a.eval x = A.eval x := by
  intro x hx
  cases x with
  | tmp t =>
    have : t ∈ o.looksAt ops := List.mem_append_left _ (List.mem_filterMap.2 ⟨.tmp t, by simpa using hx, rfl⟩)
    have h1 := h.at' t (hl t this)
    simp [Act.eval, h1]
  | _ => rfl

theorem Agree.wanted {A a : Act} {listed : Array Bool} (h : Agree ops A listed a) {o : Oper} (hl : ∀ t ∈ o.looksAt ops, ∀ j p, ops[j]? = some p → p.dst = some t → listed.getD j true = true) :
    Region.wanted o (yielded ops a.tmps) = Region.wanted o (yielded ops A.tmps) := by
  unfold Region.wanted
  cases hg : o.guard with
  | none => rfl
  | some gw =>
    obtain ⟨g, want⟩ := gw
    have hy : yielded ops a.tmps g = yielded ops A.tmps g := by
      unfold yielded
      cases ht : (ops[g]?).bind (·.dst) with
      | none => rfl
      | some t =>
        have : t ∈ o.looksAt ops := by simp [Oper.looksAt, hg, ht]
        simp [h.at' t (hl t this)]
    simp only [hy]

theorem Agree.put {A a : Act} {listed : Array Bool} (h : Agree ops A listed a) {i : Nat} {o : Oper} (hi : ops[i]? = some o) {v : Value} (hv : A.put o.dst v = A) :
    Agree ops A (listed.setIfInBounds i true) (a.put o.dst v) := by
  refine ⟨?_, ?_, fun t ht => ?_⟩
  · rw [← h.defers]; cases o.dst <;> rfl
  · rw [← h.size]; cases o.dst <;> simp [Act.put]
  · cases hd : o.dst with
    | none =>
      refine h.at' t fun j p hj hp => ?_
      have h1 := ht j p hj hp
      by_cases e : i = j
      · subst e; rw [hi] at hj; cases hj; rw [hd] at hp; cases hp
      · rwa [getD_set_ne true e] at h1
    | some d =>
      rw [hd] at hv
      by_cases e : d = t
      · subst e
        conv => rhs; rw [← hv]
        simp only [Act.put]
        rw [Array.getElem?_setIfInBounds_self, Array.getElem?_setIfInBounds_self, h.size]
      · simp only [Act.put]
        rw [Array.getElem?_setIfInBounds_ne e]
        refine h.at' t fun j p hj hp => ?_
        have h1 := ht j p hj hp
        by_cases e' : i = j
        · subst e'; rw [hi] at hj; cases hj; rw [hd] at hp; cases hp; exact absurd rfl e
        · rwa [getD_set_ne true e'] at h1

/-- what is asked of each operation -/
def Go (F : Fence) (n : Nat) (P : Program) (ops : Array Oper) (Inv : World → Prop) (A : Act) (l : List Oper) : Prop :=
  ∀ o ∈ l, ∀ w, Inv w → wpListIn F n P ops (fun e a' w' => e = .normal ∧ a' = A ∧ Inv w') [o] A w
theorem Go.nil {Inv : World → Prop} {A : Act} : Go F n P ops Inv A [] := fun _ h => by cases h
theorem Go.cons {Inv : World → Prop} {A : Act} {o : Oper} {l : List Oper} (h : ∀ w, Inv w → wpListIn F n P ops (fun e a' w' => e = .normal ∧ a' = A ∧ Inv w') [o] A w) (hs : Go F n P ops Inv A l) :
    Go F n P ops Inv A (o :: l) := by
  intro p hp
  rcases List.mem_cons.1 hp with rfl | hp
  · exact h
  · exact hs p hp

theorem put_self {A : Act} {d : Option Tmp} {v : Value} {ds : List Deferred} (h : ({ A with defers := ds } : Act).put d v = A) : ds = A.defers ∧ A.put d v = A := by
  have h1 : ds = A.defers := by
    have := congrArg Act.defers h
    cases d <;> simpa [Act.put] using this
  subst h1
  exact ⟨rfl, h⟩

theorem wpAnyIn_pure (hf : fine md ops = true) {Inv : World → Prop} {A : Act} (hgo : Go F n P ops Inv A ops.toList) (hQ : ∀ w, Inv w → Q .normal A w) :
    ∀ (left : List Nat) (listed : Array Bool) (a : Act) (w : World), listed.size = ops.size → left.Nodup → (∀ j, j ∈ left ↔ listed.getD j true = false) → Agree ops A listed a → Inv w →
      wpAnyIn F n P md ops Q left.length listed a w := by
  intro left
  generalize hm : left.length = m
  have hready : ∀ (left : List Nat) (listed : Array Bool), listed.size = ops.size → (∀ j, j ∈ left ↔ listed.getD j true = false) → Region.ready md ops listed = [] → left = [] := by
    intro left listed hsz hl hr
    -- the least one that is left is ready
    have : ∀ k j, j < k → listed.getD j true = false → False := by
      intro k
      induction k with
      | zero => intro j h; omega
      | succ k ih =>
        intro j hj hjl
        have hjs : j < ops.size := by
          rcases Nat.lt_or_ge j ops.size with h | h
          · exact h
          · simp [Array.getElem?_eq_none (show listed.size ≤ j by omega)] at hjl
        obtain ⟨o, ho⟩ : ∃ o, ops[j]? = some o := ⟨ops[j], by simp [hjs]⟩
        have hmem : j ∈ Region.ready md ops listed := by
          rw [mem_ready]
          refine ⟨hjl, o, ho, fun e he hb => ?_⟩
          have hlt := (fine_at hf ho).2.2.1 e he hb
          cases hx : listed.getD e.on true with
          | false => exact (ih e.on (by omega) hx).elim
          | true =>
            have hes : e.on < listed.size := by omega
            simp [hes] at hx ⊢
            exact hx
        rw [hr] at hmem
        cases hmem
    cases left with
    | nil => rfl
    | cons j l => exact (this (j + 1) j (by omega) ((hl j).1 (by simp))).elim
  have hdone : ∀ (listed : Array Bool) (a : Act), (∀ j, j ∈ ([] : List Nat) ↔ listed.getD j true = false) → Agree ops A listed a → a = A := by
    intro listed a hl ha
    have ht : a.tmps = A.tmps := by
      refine Array.ext ha.size fun t h1 h2 => ?_
      have := ha.at' t fun j o _ _ => by
        have := (hl j).2
        cases hx : listed.getD j true with
        | true => rfl
        | false => cases this hx
      simpa [h1, h2] using this
    have hd := ha.defers
    cases a; cases A
    simp only at ht hd
    rw [ht, hd]
  induction m generalizing left with
  | zero =>
    intro listed a w hsz hnd hl ha hI
    have hn : left = [] := List.length_eq_zero_iff.1 hm
    subst hn
    have hA := hdone listed a hl ha
    subst hA
    refine ⟨?_, hQ w hI⟩
    cases hr : Region.ready md ops listed with
    | nil => rfl
    | cons i rs =>
      have : i ∈ Region.ready md ops listed := by rw [hr]; simp
      have := (hl i).2 (mem_ready.1 this).1
      cases this
  | succ m ih =>
    intro listed a w hsz hnd hl ha hI
    refine ⟨fun hr => ?_, fun i hi => ?_⟩
    · rw [hready left listed hsz hl hr] at hm; simp at hm
    obtain ⟨hun, o, ho, hall⟩ := mem_ready.1 hi
    obtain ⟨f1, f2, f3, f4⟩ := fine_at hf ho
    have his : i < ops.size := (Array.getElem?_eq_some_iff.1 ho).1
    have hlook : ∀ t ∈ o.looksAt ops, ∀ j p, ops[j]? = some p → p.dst = some t → listed.getD j true = true := by
      intro t ht j p hj hp
      obtain ⟨e, he, hb, rfl⟩ := f4 t ht j p hj hp
      have h1 := hall e he hb
      have hes : e.on < listed.size := by have := (Array.getElem?_eq_some_iff.1 hj).1; omega
      simp [hes] at h1 ⊢
      exact h1
    have heval := ha.eval hlook
    have hwant := ha.wanted hlook
    have hnext : ∀ v w', A.put o.dst v = A → Inv w' → wpAnyIn F n P md ops Q m (listed.setIfInBounds i true) (a.put o.dst v) w' := by
      intro v w' hv hI'
      have hmem : i ∈ left := (hl i).2 hun
      refine ih (left.erase i) (by rw [List.length_erase_of_mem hmem, hm]; rfl) _ _ _ (by simpa using hsz) (hnd.erase i) (fun j => ?_) (ha.put ho hv) hI'
      rw [hnd.mem_erase_iff, hl j]
      by_cases e : i = j
      · subst e
        simp [show i < listed.size by omega]
      · rw [getD_set_ne true e]
        exact ⟨fun h => h.2, fun h => ⟨fun h' => e h'.symm, h⟩⟩
    have h := hgo o (List.mem_iff_getElem?.2 ⟨i, by simpa using ho⟩) w hI
    unfold wpOpIn
    simp only [ho]
    unfold wpListIn at h
    rw [hwant]
    split
    · rename_i hw
      simp only [hw, if_true] at h
      unfold Oper.wpIn at h ⊢
      rw [about_congr o w heval]
      refine ⟨h.1, ?_⟩
      have h := h.2
      rw [Oper.semAt_eq _ _ _ f2] at h ⊢
      rw [execOp_congr o f1 heval]
      generalize (execOp A.eval o).run P w = r at *
      cases r with
      | ok x w' =>
        cases x <;> simp only [Oper.uponIn] at h ⊢
        case value v => exact hnext v w' h.2.1 h.2.2
        case skip => exact hnext _ w' h.2.1 h.2.2
        case defer d =>
          have := congrArg List.length (put_self h.2.1).1
          simp at this
        case enter f args =>
          refine ⟨h.1, CallsIn.mono h.2 fun e w'' he => ?_⟩
          cases e with
          | returned v => exact hnext v w'' he.2.1 he.2.2
          | panicked c => cases he.1
          | outgrown => obtain ⟨_, _, h, _⟩ := he; cases h
        case row row args => exact ⟨h.1, RowsIn.mono h.2 fun v w'' he => hnext v w'' he.2.1 he.2.2⟩
        case round l f tmps assign body =>
          refine ⟨h.1, RoundIn.mono h.2 fun e w'' he => ?_⟩
          cases e with
          | returned v => exact hnext v w'' he.2.1 he.2.2
          | panicked c => cases he.1
          | outgrown => obtain ⟨_, _, h, _⟩ := he; cases h
      | halt x w' =>
        cases x <;> simp only [Oper.uponIn] at h ⊢
        case panic u => cases h.1
    · rename_i hw
      simp only [hw] at h
      rw [about_congr o w heval]
      exact ⟨h.1, hnext _ w h.2.2.1 h.2.2.2⟩

/-- the region, whole -/
theorem region {id : Nat} {a : Act} {w : World} (Inv : World → Prop) (A : Act) (hm : P.follows .mixedOrders = true) (hf : fine .any ops = true) (hI : Inv w.drew)
    (ha : a.defers = A.defers ∧ a.tmps.size = A.tmps.size ∧ ∀ t, t < A.tmps.size → (ops.any fun o => o.dst == some t) = false → a.tmps[t]? = A.tmps[t]?)
    (hgo : Go F n P ops Inv A ops.toList) (hQ : ∀ w, Inv w → Q .normal A w) : (Code.region id ops true).wpIn F n P Q a w := by
  refine wpIn_region_any hm ?_
  have h := wpAnyIn_pure (md := .any) (F := F) (n := n) (P := P) (Q := Q) hf hgo hQ (List.range ops.size) (Array.replicate ops.size false) a w.drew (by simp) List.nodup_range (fun j => ?_) ⟨ha.1, ha.2.1, fun t ht => ?_⟩ hI
  · rwa [List.length_range] at h
  · rw [List.mem_range]
    by_cases h : j < ops.size
    · simp [h]
    · simp [h]
  · by_cases h : t < A.tmps.size
    · refine ha.2.2 t h ?_
      rw [Bool.eq_false_iff]
      intro hx
      obtain ⟨o, ho, hd⟩ := Array.any_eq_true'.1 hx
      obtain ⟨j, hj⟩ := Array.mem_iff_getElem?.1 ho
      have := ht j o hj (by simpa using hd)
      have hjs : j < ops.size := (Array.getElem?_eq_some_iff.1 hj).1
      simp [hjs] at this
    · have h2 := ha.2.1
      rw [Array.getElem?_eq_none (by omega), Array.getElem?_eq_none (by omega)]
/-- the act after the region, slot by slot -/
def puts : List (Nat × Value) → Act → Act
  | [], a => a
  | c :: l, a => puts l (a.put (some c.1) c.2)

theorem puts_spec (ch : List (Nat × Value)) (hch : (ch.all fun c => ops.any fun o => o.dst == some c.1) = true) : ∀ a : Act,
    (puts ch a).defers = a.defers ∧ (puts ch a).tmps.size = a.tmps.size ∧ ∀ t, (ops.any fun o => o.dst == some t) = false → a.tmps[t]? = (puts ch a).tmps[t]? := by
  induction ch with
  | nil => intro a; exact ⟨rfl, rfl, fun _ _ => rfl⟩
  | cons c l ih =>
    intro a
    rw [List.all_cons, Bool.and_eq_true] at hch
    obtain ⟨h1, h2, h3⟩ := ih hch.2 (a.put (some c.1) c.2)
    refine ⟨h1, ?_, fun t ht => ?_⟩
    · rw [puts, h2]; simp [Act.put]
    · rw [puts, ← h3 t ht]
      have : c.1 ≠ t := fun e => by rw [e, ht] at hch; cases hch.1
      simp [Act.put, Array.getElem?_setIfInBounds_ne this]

theorem region_puts {id : Nat} {a : Act} {w : World} (Inv : World → Prop) (ch : List (Nat × Value)) (hm : P.follows .mixedOrders = true) (hf : fine .any ops = true)
    (hch : (ch.all fun c => ops.any fun o => o.dst == some c.1) = true) (hI : Inv w.drew)
    (hgo : Go F n P ops Inv (puts ch a) ops.toList) (hQ : ∀ w, Inv w → Q .normal (puts ch a) w) : (Code.region id ops true).wpIn F n P Q a w :=
  region Inv (puts ch a) hm hf hI (let h := puts_spec ch hch a; ⟨h.1.symm, h.2.1.symm, fun t _ ht => h.2.2 t ht⟩) hgo hQ

/-- the same outside any fence -/
def GoP (P : Program) (ops : Array Oper) (Inv : World → Prop) (A : Act) (l : List Oper) : Prop :=
  ∀ o ∈ l, ∀ w, Inv w → wpList P ops (fun e a' w' => e = .normal ∧ a' = A ∧ Inv w') [o] A w
theorem GoP.nil {Inv : World → Prop} {A : Act} : GoP P ops Inv A [] := fun _ h => by cases h
theorem GoP.cons {Inv : World → Prop} {A : Act} {o : Oper} {l : List Oper} (h : ∀ w, Inv w → wpList P ops (fun e a' w' => e = .normal ∧ a' = A ∧ Inv w') [o] A w) (hs : GoP P ops Inv A l) :
    GoP P ops Inv A (o :: l) := by
  intro p hp
  rcases List.mem_cons.1 hp with rfl | hp
  · exact h
  · exact hs p hp

theorem wpAny_pure (hf : fine md ops = true) {Inv : World → Prop} {A : Act} (hgo : GoP P ops Inv A ops.toList) (hQ : ∀ w, Inv w → Q .normal A w) :
    ∀ (left : List Nat) (listed : Array Bool) (a : Act) (w : World), listed.size = ops.size → left.Nodup → (∀ j, j ∈ left ↔ listed.getD j true = false) → Agree ops A listed a → Inv w →
      wpAny P md ops Q left.length listed a w := by
  intro left
  generalize hm : left.length = m
  have hready : ∀ (left : List Nat) (listed : Array Bool), listed.size = ops.size → (∀ j, j ∈ left ↔ listed.getD j true = false) → Region.ready md ops listed = [] → left = [] := by
    intro left listed hsz hl hr
    -- the least one that is left is ready
    have : ∀ k j, j < k → listed.getD j true = false → False := by
      intro k
      induction k with
      | zero => intro j h; omega
      | succ k ih =>
        intro j hj hjl
        have hjs : j < ops.size := by
          rcases Nat.lt_or_ge j ops.size with h | h
          · exact h
          · simp [Array.getElem?_eq_none (show listed.size ≤ j by omega)] at hjl
        obtain ⟨o, ho⟩ : ∃ o, ops[j]? = some o := ⟨ops[j], by simp [hjs]⟩
        have hmem : j ∈ Region.ready md ops listed := by
          rw [mem_ready]
          refine ⟨hjl, o, ho, fun e he hb => ?_⟩
          have hlt := (fine_at hf ho).2.2.1 e he hb
          cases hx : listed.getD e.on true with
          | false => exact (ih e.on (by omega) hx).elim
          | true =>
            have hes : e.on < listed.size := by omega
            simp [hes] at hx ⊢
            exact hx
        rw [hr] at hmem
        cases hmem
    cases left with
    | nil => rfl
    | cons j l => exact (this (j + 1) j (by omega) ((hl j).1 (by simp))).elim
  have hdone : ∀ (listed : Array Bool) (a : Act), (∀ j, j ∈ ([] : List Nat) ↔ listed.getD j true = false) → Agree ops A listed a → a = A := by
    intro listed a hl ha
    have ht : a.tmps = A.tmps := by
      refine Array.ext ha.size fun t h1 h2 => ?_
      have := ha.at' t fun j o _ _ => by
        have := (hl j).2
        cases hx : listed.getD j true with
        | true => rfl
        | false => cases this hx
      simpa [h1, h2] using this
    have hd := ha.defers
    cases a; cases A
    simp only at ht hd
    rw [ht, hd]
  induction m generalizing left with
  | zero =>
    intro listed a w hsz hnd hl ha hI
    have hn : left = [] := List.length_eq_zero_iff.1 hm
    subst hn
    have hA := hdone listed a hl ha
    subst hA
    refine ⟨?_, hQ w hI⟩
    cases hr : Region.ready md ops listed with
    | nil => rfl
    | cons i rs =>
      have : i ∈ Region.ready md ops listed := by rw [hr]; simp
      have := (hl i).2 (mem_ready.1 this).1
      cases this
  | succ m ih =>
    intro listed a w hsz hnd hl ha hI
    refine ⟨fun hr => ?_, fun i hi => ?_⟩
    · rw [hready left listed hsz hl hr] at hm; simp at hm
    obtain ⟨hun, o, ho, hall⟩ := mem_ready.1 hi
    obtain ⟨f1, f2, f3, f4⟩ := fine_at hf ho
    have his : i < ops.size := (Array.getElem?_eq_some_iff.1 ho).1
    have hlook : ∀ t ∈ o.looksAt ops, ∀ j p, ops[j]? = some p → p.dst = some t → listed.getD j true = true := by
      intro t ht j p hj hp
      obtain ⟨e, he, hb, rfl⟩ := f4 t ht j p hj hp
      have h1 := hall e he hb
      have hes : e.on < listed.size := by have := (Array.getElem?_eq_some_iff.1 hj).1; omega
      simp [hes] at h1 ⊢
      exact h1
    have heval := ha.eval hlook
    have hwant := ha.wanted hlook
    have hnext : ∀ v w', A.put o.dst v = A → Inv w' → wpAny P md ops Q m (listed.setIfInBounds i true) (a.put o.dst v) w' := by
      intro v w' hv hI'
      have hmem : i ∈ left := (hl i).2 hun
      refine ih (left.erase i) (by rw [List.length_erase_of_mem hmem, hm]; rfl) _ _ _ (by simpa using hsz) (hnd.erase i) (fun j => ?_) (ha.put ho hv) hI'
      rw [hnd.mem_erase_iff, hl j]
      by_cases e : i = j
      · subst e
        simp [show i < listed.size by omega]
      · rw [getD_set_ne true e]
        exact ⟨fun h => h.2, fun h => ⟨fun h' => e h'.symm, h⟩⟩
    have h := hgo o (List.mem_iff_getElem?.2 ⟨i, by simpa using ho⟩) w hI
    unfold wpOp
    simp only [ho]
    unfold wpList at h
    rw [hwant]
    split
    · rename_i hw
      simp only [hw, if_true] at h
      rcases h with h | ⟨_, _, _, h, _⟩
      case inr => cases h
      refine .inl ?_
      unfold Oper.wp at h ⊢
      rw [execOp_congr o f1 heval]
      generalize (execOp A.eval o).run P w = r at *
      cases r with
      | ok x w' =>
        cases x <;> simp only [Oper.upon] at h ⊢
        case value v => exact hnext v w' h.2.1 h.2.2
        case skip => exact hnext _ w' h.2.1 h.2.2
        case defer d =>
          have := congrArg List.length (put_self h.2.1).1
          simp at this
        case enter f args =>
          refine Calls.mono h fun e w'' he => ?_
          cases e with
          | returned v => exact hnext v w'' he.2.1 he.2.2
          | panicked c => cases he.1
          | outgrown => obtain ⟨_, _, h, _⟩ := he; cases h
        case row row args => exact Rows.mono h fun v w'' he => hnext v w'' he.2.1 he.2.2
      | halt x w' =>
        cases x <;> simp only [Oper.upon] at h ⊢
        case panic u => cases h.1
    · rename_i hw
      simp only [hw] at h
      exact hnext _ w h.2.1 h.2.2

theorem regionP {id : Nat} {a : Act} {w : World} (Inv : World → Prop) (ch : List (Nat × Value)) (hm : P.follows .mixedOrders = true) (hf : fine .any ops = true)
    (hch : (ch.all fun c => ops.any fun o => o.dst == some c.1) = true) (hI : Inv w.drew)
    (hgo : GoP P ops Inv (puts ch a) ops.toList) (hQ : ∀ w, Inv w → Q .normal (puts ch a) w) : (Code.region id ops true).wp P Q a w := by
  refine wp_region_any hm ?_
  have hp := puts_spec ch hch a
  have h := wpAny_pure (md := .any) (P := P) (Q := Q) hf hgo hQ (List.range ops.size) (Array.replicate ops.size false) a w.drew (by simp) List.nodup_range (fun j => ?_) ⟨hp.1.symm, hp.2.1.symm, fun t ht => ?_⟩ hI
  · rwa [List.length_range] at h
  · rw [List.mem_range]
    by_cases h : j < ops.size
    · simp [h]
    · simp [h]
  · refine hp.2.2 t ?_
    rw [Bool.eq_false_iff]
    intro hx
    obtain ⟨o, ho, hd⟩ := Array.any_eq_true'.1 hx
    obtain ⟨j, hj⟩ := Array.mem_iff_getElem?.1 ho
    have := ht j o hj (by simpa using hd)
    have hjs : j < ops.size := (Array.getElem?_eq_some_iff.1 hj).1
    simp [hjs] at this

/-! the operations walked once, in the listed order, each value found by the walk -/
def okL (ops : Array Oper) : List Oper → Bool
  | [] => true
  | o :: r =>
    (match o.op with | .select .. => false | .defer _ => false | _ => true) &&
    ((o.looksAt ops).all fun t => o.dst != some t && r.all fun p => p.dst != some t) &&
    (match o.dst with | none => true | some d => r.all fun p => p.dst != some d) && okL ops r

def Seq (P : Program) (ops : Array Oper) (Inv : World → Prop) : List Oper → Act → (Act → Prop) → Prop
  | [], a, K => K a
  | o :: r, a, K =>
    if Region.wanted o (yielded ops a.tmps) then
      ∃ v, (∀ w, Inv w → wpList P ops (fun e a' w' => e = .normal ∧ a' = a.put o.dst v ∧ Inv w') [o] a w) ∧ Seq P ops Inv r (a.put o.dst v) K
    else Seq P ops Inv r (a.put o.dst undef) K
theorem Seq.nil {Inv : World → Prop} {a : Act} {K : Act → Prop} (h : K a) : Seq P ops Inv [] a K := h
theorem Seq.skip {Inv : World → Prop} {a : Act} {K : Act → Prop} {o : Oper} {r : List Oper} (hw : Region.wanted o (yielded ops a.tmps) = false) (h : Seq P ops Inv r (a.put o.dst undef) K) : Seq P ops Inv (o :: r) a K := by
  unfold Seq
  rw [hw]
  exact h
theorem Seq.step {Inv : World → Prop} {a : Act} {K : Act → Prop} {o : Oper} {r : List Oper} (hw : Region.wanted o (yielded ops a.tmps) = true) (v : Value)
    (h1 : ∀ w, Inv w → wpList P ops (fun e a' w' => e = .normal ∧ a' = a.put o.dst v ∧ Inv w') [o] a w) (h : Seq P ops Inv r (a.put o.dst v) K) : Seq P ops Inv (o :: r) a K := by
  unfold Seq
  rw [hw]
  exact ⟨v, h1, h⟩

theorem put_same {a A : Act} {d : Option Tmp} {u v : Value} (h : a.put d u = a.put d v) (hs : a.tmps.size = A.tmps.size) (hA : A.put d v = A) : A.put d u = A := by
  cases d with
  | none => rfl
  | some d =>
    by_cases hd : d < a.tmps.size
    · have h1 := congrArg (fun b : Act => b.tmps[d]?) h
      simp only [Act.put, Array.getElem?_setIfInBounds_self, hd, if_true, Option.some.injEq] at h1
      subst h1
      exact hA
    · have hd' : A.tmps.size ≤ d := by rw [← hs]; exact Nat.le_of_not_lt hd
      simp only [Act.put]
      rw [Array.setIfInBounds_eq_of_size_le hd']
theorem put_of {A : Act} {d : Nat} {v : Value} (h : A.tmps[d]? = if d < A.tmps.size then some v else none) : A.put (some d) v = A := by
  have : A.tmps.setIfInBounds d v = A.tmps := by
    refine Array.ext (by simp) fun i h1 h2 => ?_
    by_cases e : d = i
    · subst e
      rw [if_pos h2] at h
      have : A.tmps[d] = v := by simpa [h2] using h
      simp [this]
    · simp [Array.getElem_setIfInBounds_ne h2 e]
  simp only [Act.put, this]

theorem Seq.done {Inv : World → Prop} {K : Act → Prop} : ∀ (l : List Oper) (a : Act), okL ops l = true → Seq P ops Inv l a K →
    ∃ A, K A ∧ A.defers = a.defers ∧ A.tmps.size = a.tmps.size ∧ (∀ t : Nat, (∀ o ∈ l, o.dst ≠ some t) → A.tmps[t]? = a.tmps[t]?) ∧ GoP P ops Inv A l
  | [], a, _, h => ⟨a, h, rfl, rfl, fun _ _ => rfl, GoP.nil⟩
  | o :: r, a, hok, h => by
    simp only [okL, Bool.and_eq_true] at hok
    obtain ⟨⟨⟨hop, hlk⟩, hd⟩, hr⟩ := hok
    have hlook : ∀ t ∈ o.looksAt ops, o.dst ≠ some t ∧ ∀ p ∈ r, p.dst ≠ some t := fun t ht => by
      have := List.all_eq_true.1 hlk t ht
      simp only [Bool.and_eq_true, bne_iff_ne, List.all_eq_true] at this
      exact this
    have key : ∀ v, Seq P ops Inv r (a.put o.dst v) K →
        ((∀ w, Inv w → wpList P ops (fun e a' w' => e = .normal ∧ a' = a.put o.dst v ∧ Inv w') [o] a w) ∨ (Region.wanted o (yielded ops a.tmps) = false ∧ v = undef)) →
        ∃ A, K A ∧ A.defers = a.defers ∧ A.tmps.size = a.tmps.size ∧ (∀ t : Nat, (∀ o' ∈ o :: r, o'.dst ≠ some t) → A.tmps[t]? = a.tmps[t]?) ∧ GoP P ops Inv A (o :: r) := by
      intro v hs ho
      obtain ⟨A, hK, h1, h2, h3, h4⟩ := Seq.done r (a.put o.dst v) hr hs
      have h1' : A.defers = a.defers := by rw [h1]; cases o.dst <;> rfl
      have h2' : A.tmps.size = a.tmps.size := by rw [h2]; cases o.dst <;> simp [Act.put]
      have h3' : ∀ t : Nat, (∀ o' ∈ o :: r, o'.dst ≠ some t) → A.tmps[t]? = a.tmps[t]? := fun t ht => by
        rw [h3 t fun p hp => ht p (List.mem_cons_of_mem _ hp)]
        have := ht o (by simp)
        cases hod : o.dst with
        | none => rfl
        | some d =>
          rw [hod] at this
          have hne : d ≠ t := fun e => this (by rw [e])
          simp [Act.put, Array.getElem?_setIfInBounds_ne hne]
      have hput : A.put o.dst v = A := by
        cases hod : o.dst with
        | none => rfl
        | some d =>
          rw [hod] at hd h3 h2
          refine put_of ?_
          have := h3 d fun p hp => by
            have := List.all_eq_true.1 hd p hp
            simpa using this
          rw [this, h2]
          simp only [Act.put, Array.getElem?_setIfInBounds_self, Array.size_setIfInBounds]
      have hagree : Agree ops A (Array.replicate ops.size false) A := ⟨rfl, rfl, fun _ _ => rfl⟩
      have heval : ∀ x ∈ o.op.operands, A.eval x = a.eval x := by
        intro x hx
        cases x with
        | tmp t =>
          have hm : t ∈ o.looksAt ops := List.mem_append_left _ (List.mem_filterMap.2 ⟨.tmp t, by simpa using hx, rfl⟩)
          have h5 := hlook t hm
          have := h3' t fun p hp => by
            rcases List.mem_cons.1 hp with rfl | hp
            · exact h5.1
            · exact h5.2 p hp
          simp [Act.eval, this]
        | _ => rfl
      have hwant : Region.wanted o (yielded ops A.tmps) = Region.wanted o (yielded ops a.tmps) := by
        unfold Region.wanted
        cases hg : o.guard with
        | none => rfl
        | some gw =>
          obtain ⟨g, want⟩ := gw
          have hy : yielded ops A.tmps g = yielded ops a.tmps g := by
            unfold yielded
            cases ht : (ops[g]?).bind (·.dst) with
            | none => rfl
            | some t =>
              have hm : t ∈ o.looksAt ops := by simp [Oper.looksAt, hg, ht]
              have h5 := hlook t hm
              have := h3' t fun p hp => by
                rcases List.mem_cons.1 hp with rfl | hp
                · exact h5.1
                · exact h5.2 p hp
              simp [this]
          simp only [hy]
      refine ⟨A, hK, h1', h2', h3', GoP.cons (fun w hI => ?_) h4⟩
      unfold wpList
      rw [hwant]
      rcases ho with ho | ⟨hw, rfl⟩
      case inr =>
        rw [hw]
        exact ⟨rfl, hput, hI⟩
      have ho := ho w hI
      unfold wpList at ho
      split
      · rename_i hw
        simp only [hw, if_true] at ho
        rcases ho with ho | ⟨_, _, _, ho, _⟩
        case inr => cases ho
        refine .inl ?_
        have f1 : ∀ cs b, o.op ≠ .select cs b := fun cs b e => by rw [e] at hop; cases hop
        unfold Oper.wp at ho ⊢
        rw [execOp_congr o f1 heval]
        generalize (execOp a.eval o).run P w = r at *
        have fin : ∀ u w', a.put o.dst u = a.put o.dst v → Inv w' → A.put o.dst u = A := fun u w' h _ => put_same h h2'.symm hput
        cases r with
        | ok x w' =>
          cases x <;> simp only [Oper.upon] at ho ⊢
          case value u => exact ⟨rfl, put_same ho.2.1 h2'.symm hput, ho.2.2⟩
          case skip => exact ⟨rfl, put_same ho.2.1 h2'.symm hput, ho.2.2⟩
          case defer d =>
            have := congrArg (fun b : Act => b.defers.length) ho.2.1
            cases hod : o.dst <;> simp [Act.put, hod] at this
          case enter f args =>
            refine Calls.mono ho fun e w'' he => ?_
            cases e with
            | returned u => exact ⟨rfl, put_same he.2.1 h2'.symm hput, he.2.2⟩
            | panicked c => cases he.1
            | outgrown => obtain ⟨_, _, h, _⟩ := he; cases h
          case row row args => exact Rows.mono ho fun u w'' he => ⟨rfl, put_same he.2.1 h2'.symm hput, he.2.2⟩
        | halt x w' =>
          cases x <;> simp only [Oper.upon] at ho ⊢
          case panic u => cases ho.1
      · rename_i hw
        simp only [hw] at ho
        refine ⟨rfl, ?_, hI⟩
        exact put_same ho.2.1 h2'.symm hput
    unfold Seq at h
    split at h
    · obtain ⟨v, h1, h2⟩ := h
      exact key v h2 (.inl h1)
    · rename_i hw
      exact key undef h (.inr ⟨by simpa using hw, rfl⟩)

theorem regionS {id : Nat} {a : Act} {w : World} (Inv : World → Prop) (hm : P.follows .mixedOrders = true) (hf : fine .any ops = true) (hok : okL ops ops.toList = true) (hI : Inv w.drew)
    (hs : Seq P ops Inv ops.toList a fun A => ∀ w, Inv w → Q .normal A w) : (Code.region id ops true).wp P Q a w := by
  obtain ⟨A, hK, h1, h2, h3, h4⟩ := Seq.done _ _ hok hs
  refine wp_region_any hm ?_
  have h := wpAny_pure (md := .any) (P := P) (Q := Q) hf h4 hK (List.range ops.size) (Array.replicate ops.size false) a w.drew (by simp) List.nodup_range (fun j => ?_) ⟨h1.symm, h2.symm, fun t ht => ?_⟩ hI
  · rwa [List.length_range] at h
  · rw [List.mem_range]
    by_cases h : j < ops.size
    · simp [h]
    · simp [h]
  · refine (h3 t fun o ho hd => ?_).symm
    obtain ⟨j, hj⟩ := List.mem_iff_getElem?.1 ho
    have hj : ops[j]? = some o := by simpa using hj
    have := ht j o hj hd
    have hjs : j < ops.size := (Array.getElem?_eq_some_iff.1 hj).1
    simp [hjs] at this
/-- the operations walked in the listed order, behind a name that nothing unfolds -/
structure Walk (P : Program) (ops : Array Oper) (Inv : World → Prop) (l : List Oper) (a : Act) (K : Act → Prop) : Prop where
  go : Seq P ops Inv l a K
/-- where an operation ends -/
structure Ends (A : Act) (Inv : World → Prop) (e : Exit) (a' : Act) (w' : World) : Prop where
  e : e = .normal
  a : a' = A
  i : Inv w'
theorem Ends.eq {A : Act} {Inv : World → Prop} : Ends A Inv = fun e a' w' => e = .normal ∧ a' = A ∧ Inv w' := by
  funext e a' w'
  exact propext ⟨fun h => ⟨h.e, h.a, h.i⟩, fun h => ⟨h.1, h.2.1, h.2.2⟩⟩
theorem Walk.nil {Inv : World → Prop} {a : Act} {K : Act → Prop} (h : K a) : Walk P ops Inv [] a K := ⟨h⟩
theorem Walk.skip {Inv : World → Prop} {a : Act} {K : Act → Prop} {o : Oper} {r : List Oper} (hw : Region.wanted o (yielded ops a.tmps) = false) (h : Walk P ops Inv r (a.put o.dst undef) K) : Walk P ops Inv (o :: r) a K := ⟨Seq.skip hw h.go⟩
theorem Walk.next {Inv : World → Prop} {a : Act} {K : Act → Prop} {o : Oper} {r : List Oper} (hw : Region.wanted o (yielded ops a.tmps) = true) {v : Value}
    (h1 : ∀ w, Inv w → wpList P ops (Ends (a.put o.dst v) Inv) [o] a w) (h : Walk P ops Inv r (a.put o.dst v) K) : Walk P ops Inv (o :: r) a K :=
  ⟨Seq.step hw v (fun w hI => Ends.eq ▸ h1 w hI) h.go⟩
/-- what binds an operation, read off lists -/
def asks (l : List Oper) (o : Oper) (t : List Value) : Bool :=
  match o.guard with
  | none => true
  | some (g, want) => match l[g]? with
    | some p => match p.dst with
      | some d => match t[d]? with
        | some (.bool b) => b == want
        | _ => false
      | none => false
    | none => false
theorem asks_eq (ops : Array Oper) (o : Oper) (t : Array Value) : Region.wanted o (yielded ops t) = asks ops.toList o t.toList := by
  unfold Region.wanted asks
  cases hg : o.guard with
  | none => rfl
  | some gw =>
    obtain ⟨g, want⟩ := gw
    dsimp only
    unfold yielded
    rw [← Array.getElem?_toList]
    cases ops.toList[g]? with
    | none => rfl
    | some p =>
      dsimp only [Option.bind_some]
      cases hd : p.dst with
      | none => rfl
      | some d =>
        dsimp only [Option.bind_some]
        rw [← Array.getElem?_toList]
        cases t.toList[d]? with
        | none => rfl
        | some v => cases v <;> first | rfl | (rename_i b; cases b <;> cases want <;> rfl)
theorem Walk.off {Inv : World → Prop} {a : Act} {K : Act → Prop} {o : Oper} {r : List Oper} (hw : asks ops.toList o a.tmps.toList = false) (h : Walk P ops Inv r (a.put o.dst undef) K) : Walk P ops Inv (o :: r) a K :=
  Walk.skip ((asks_eq _ _ _).trans hw) h
theorem Walk.on {Inv : World → Prop} {a : Act} {K : Act → Prop} {o : Oper} {r : List Oper} (hw : asks ops.toList o a.tmps.toList = true) {v : Value}
    (h1 : ∀ w, Inv w → wpList P ops (Ends (a.put o.dst v) Inv) [o] a w) (h : Walk P ops Inv r (a.put o.dst v) K) : Walk P ops Inv (o :: r) a K :=
  Walk.next ((asks_eq _ _ _).trans hw) h1 h
theorem regionW {id : Nat} {a : Act} {w : World} (Inv : World → Prop) (hm : P.follows .mixedOrders = true) (hf : fine .any ops = true) (hok : okL ops ops.toList = true) (hI : Inv w.drew) {l : List Oper} (hl : ops.toList = l)
    (hs : Walk P ops Inv l a fun A => ∀ w, Inv w → Q .normal A w) : (Code.region id ops true).wp P Q a w := by
  subst hl
  exact regionS Inv hm hf hok hI hs.go
end
end Pu
end Go.Proofs.Yteiniahikhiadaa

namespace Go.Proofs.Yteiniahikhiadaa
open Go.RowKit
namespace Pu
section
variable {P : Program} {ops : Array Oper} {Q : Exit → Act → World → Prop} {md : Region.Mode}

theorem put_fix {A : Act} {t : Nat} {u : Value} : A.put (some t) u = A ↔ ∀ h : t < A.tmps.size, A.tmps[t] = u := by
  constructor
  · intro h hl
    have h1 := congrArg (fun b : Act => b.tmps[t]?) h
    simp only [Act.put, Array.getElem?_setIfInBounds_self, hl, if_true] at h1
    rw [Array.getElem?_eq_getElem hl] at h1
    exact (Option.some.inj h1).symm
  · intro h
    refine put_of ?_
    by_cases hl : t < A.tmps.size
    · rw [if_pos hl, Array.getElem?_eq_getElem hl, h hl]
    · rw [if_neg hl, Array.getElem?_eq_none (by omega)]

/-- an operation at another act that it looks at alike -/
theorem shift {o : Oper} {a A a2 A2 : Act} {w : World} {R : World → Prop} (hop : (match o.op with | .select .. => false | .defer _ => false | _ => true) = true) (heval : ∀ x ∈ o.op.operands, A.eval x = a.eval x)
    (hwant : Region.wanted o (yielded ops A.tmps) = Region.wanted o (yielded ops a.tmps)) (hd : a2.defers = a.defers) (hp : ∀ u, a.put o.dst u = a2 → A.put o.dst u = A2)
    (ho : wpList P ops (fun e a' w' => e = .normal ∧ a' = a2 ∧ R w') [o] a w) : wpList P ops (fun e a' w' => e = .normal ∧ a' = A2 ∧ R w') [o] A w := by
  unfold wpList at ho ⊢
  rw [hwant]
  split
  · rename_i hw
    simp only [hw, if_true] at ho
    rcases ho with ho | ⟨_, _, _, ho, _⟩
    case inr => cases ho
    refine .inl ?_
    have f1 : ∀ cs b, o.op ≠ .select cs b := fun cs b e => by rw [e] at hop; cases hop
    unfold Oper.wp at ho ⊢
    rw [execOp_congr o f1 heval]
    generalize (execOp a.eval o).run P w = r at *
    cases r with
    | ok x w' =>
      cases x <;> simp only [Oper.upon] at ho ⊢
      case value u => exact ⟨rfl, hp _ ho.2.1, ho.2.2⟩
      case skip => exact ⟨rfl, hp _ ho.2.1, ho.2.2⟩
      case defer d =>
        have := congrArg (fun b : Act => b.defers.length) ho.2.1
        simp only [hd] at this
        cases hod : o.dst <;> simp [Act.put, hod] at this
      case enter f args =>
        refine Calls.mono ho fun e w'' he => ?_
        cases e with
        | returned u => exact ⟨rfl, hp _ he.2.1, he.2.2⟩
        | panicked c => cases he.1
        | outgrown => obtain ⟨_, _, h, _⟩ := he; cases h
      case row row args => exact Rows.mono ho fun u w'' he => ⟨rfl, hp _ he.2.1, he.2.2⟩
    | halt x w' =>
      cases x <;> simp only [Oper.upon] at ho ⊢
      case panic u => cases ho.1
  · rename_i hw
    simp only [hw] at ho
    exact ⟨rfl, hp _ ho.2.1, ho.2.2⟩

/-- is this operation behind all others, by its own edges? -/
def endsAll (ops : Array Oper) (o : Oper) : Bool := decide (((List.range ops.size).filter fun j => !(o.after.any fun e => Region.binds .any e && e.on == j)).length ≤ 1)

/-- walked in an order: what only looks (false), what makes or writes (true) -/
def SeqM (P : Program) (ops : Array Oper) (Q : Exit → Act → World → Prop) : List (Oper × Bool) → Act → (World → Prop) → (World → Prop) → Prop
  | [], a, _, J => ∀ w, J w → Q .normal a w
  | (o, false) :: r, a, B, J =>
    if Region.wanted o (yielded ops a.tmps) = true then
      ∃ v, (∀ w, B w → wpList P ops (fun e a' w' => e = .normal ∧ a' = a.put o.dst v ∧ w' = w) [o] a w) ∧ SeqM P ops Q r (a.put o.dst v) B J
    else SeqM P ops Q r (a.put o.dst undef) B J
  | (o, true) :: r, a, B, J =>
    if Region.wanted o (yielded ops a.tmps) = true then
      ∀ w, J w → wpList P ops (fun e a' w' => e = .normal ∧ ∃ v B' J', a' = a.put o.dst v ∧ J' w' ∧ SeqM P ops Q r (a.put o.dst v) B' J' ∧ (∀ w, J' w → B' w) ∧ (endsAll ops o = true ∨ ∀ w, B' w → B w)) [o] a w
    else SeqM P ops Q r (a.put o.dst undef) B J

/-- the order fits: indices; what is looked at is written by none that comes behind; each that comes behind a making one is bound to it or to one between -/
def bound (md : Region.Mode) (ops : Array Oper) (i : Nat) (js : List Nat) : Bool := match ops[i]? with
  | none => false
  | some o => o.after.any fun e => Region.binds md e && js.contains e.on
def okM (md : Region.Mode) (ops : Array Oper) : List (Nat × Bool) → Bool
  | [] => true
  | (i, b) :: r =>
    (match ops[i]? with
      | none => false
      | some o =>
        (match o.op with | .select .. => false | .defer _ => false | _ => true) &&
        ((o.looksAt ops).all fun t => o.dst != some t && r.all fun p => match ops[p.1]? with | some q => q.dst != some t | none => false) &&
        (match o.dst with | none => true | some d => r.all fun p => match ops[p.1]? with | some q => q.dst != some d | none => false)) &&
    (r.all fun p => p.1 != i) &&
    (!b || (List.range r.length).all fun k => bound md ops ((r.getD k (0, false)).1) (i :: (r.take k).map (·.1))) &&
    okM md ops r
def whole (ops : Array Oper) (ord : List (Nat × Bool)) : Bool := (List.range ops.size).all fun i => ord.any fun p => p.1 == i
def named (ops : Array Oper) (ord : List (Nat × Bool)) : List (Oper × Bool) := ord.filterMap fun p => (ops[p.1]?).map fun o => (o, p.2)

theorem put_put (A : Act) (d : Option Tmp) (u v : Value) : (A.put d v).put d u = A.put d u := by
  cases d with
  | none => rfl
  | some d => simp [Act.put]
theorem put_comm (A : Act) {d e : Option Tmp} (h : ∀ t, d = some t → e ≠ some t) (u v : Value) : (A.put d v).put e u = (A.put e u).put d v := by
  cases d with
  | none => rfl
  | some d =>
    cases e with
    | none => rfl
    | some e =>
      have : d ≠ e := fun x => h d rfl (by rw [x])
      simp [Act.put, Array.setIfInBounds_comm _ _ this]
theorem put_defers (A : Act) (d : Option Tmp) (v : Value) : (A.put d v).defers = A.defers := by cases d <;> rfl
theorem put_size (A : Act) (d : Option Tmp) (v : Value) : (A.put d v).tmps.size = A.tmps.size := by cases d <;> simp [Act.put]
theorem put_at (A : Act) {d : Option Tmp} {t : Nat} (h : d ≠ some t) (v : Value) : (A.put d v).tmps[t]? = A.tmps[t]? := by
  cases d with
  | none => rfl
  | some d =>
    have : d ≠ t := fun x => h (by rw [x])
    simp [Act.put, Array.getElem?_setIfInBounds_ne this]
theorem put_eval (A : Act) {o : Oper} {d : Option Tmp} (h : ∀ t ∈ o.looksAt ops, d ≠ some t) (v : Value) : ∀ x ∈ o.op.operands, (A.put d v).eval x = A.eval x := by
  intro x hx
  cases x with
  | tmp t =>
    have hm : t ∈ o.looksAt ops := List.mem_append_left _ (List.mem_filterMap.2 ⟨.tmp t, by simpa using hx, rfl⟩)
    have := put_at A (h t hm) v
    simp [Act.eval, this]
  | _ => rfl
theorem put_wanted (A : Act) {o : Oper} {d : Option Tmp} (h : ∀ t ∈ o.looksAt ops, d ≠ some t) (v : Value) : Region.wanted o (yielded ops (A.put d v).tmps) = Region.wanted o (yielded ops A.tmps) := by
  unfold Region.wanted
  cases hg : o.guard with
  | none => rfl
  | some gw =>
    obtain ⟨g, want⟩ := gw
    have hy : yielded ops (A.put d v).tmps g = yielded ops A.tmps g := by
      unfold yielded
      cases ht : (ops[g]?).bind (·.dst) with
      | none => rfl
      | some t =>
        have hm : t ∈ o.looksAt ops := by simp [Oper.looksAt, hg, ht]
        simp [put_at A (h t hm) v]
    simp only [hy]

/-- what is known between two operations -/
structure St (P : Program) (ops : Array Oper) (Q : Exit → Act → World → Prop) (md : Region.Mode) (post : List (Nat × Bool)) (pre : List Nat) (A : Act) (B J : World → Prop) : Prop where
  sub : ∀ w, J w → B w
  op : ∀ i ∈ pre, ∀ o, ops[i]? = some o → (match o.op with | .select .. => false | .defer _ => false | _ => true) = true
  fact : ∀ i ∈ pre, ∀ o, ops[i]? = some o → ∀ w, B w → wpList P ops (fun e a' w' => e = .normal ∧ a' = A ∧ w' = w) [o] A w
  looks : ∀ i ∈ pre, ∀ o, ops[i]? = some o → ∀ t ∈ o.looksAt ops, ∀ p ∈ post, ∀ q, ops[p.1]? = some q → q.dst ≠ some t
  dst : ∀ i ∈ pre, ∀ o, ops[i]? = some o → ∀ d, o.dst = some d → ∀ p ∈ post, ∀ q, ops[p.1]? = some q → q.dst ≠ some d
  ok : okM md ops post = true
  seq : SeqM P ops Q (named ops post) A B J

theorem okM_cons {i : Nat} {b : Bool} {r : List (Nat × Bool)} (h : okM md ops ((i, b) :: r) = true) : ∃ o, ops[i]? = some o ∧ (match o.op with | .select .. => false | .defer _ => false | _ => true) = true ∧
    (∀ t ∈ o.looksAt ops, o.dst ≠ some t ∧ ∀ p ∈ r, ∀ q, ops[p.1]? = some q → q.dst ≠ some t) ∧ (∀ d, o.dst = some d → ∀ p ∈ r, ∀ q, ops[p.1]? = some q → q.dst ≠ some d) ∧
    (∀ p ∈ r, p.1 ≠ i) ∧ (b = true → ∀ k, k < r.length → bound md ops ((r.getD k (0, false)).1) (i :: (r.take k).map (·.1)) = true) ∧ okM md ops r = true := by
  simp only [okM, Bool.and_eq_true] at h
  obtain ⟨⟨⟨h1, h2⟩, h3⟩, h4⟩ := h
  cases ho : ops[i]? with
  | none => rw [ho] at h1; cases h1
  | some o =>
    rw [ho] at h1
    simp only [Bool.and_eq_true] at h1
    obtain ⟨⟨g1, g2⟩, g3⟩ := h1
    refine ⟨o, rfl, g1, fun t ht => ?_, fun d hd p hp q hq => ?_, fun p hp => ?_, fun hb k hk => ?_, h4⟩
    · have := List.all_eq_true.1 g2 t ht
      simp only [Bool.and_eq_true, bne_iff_ne, List.all_eq_true] at this
      refine ⟨this.1, fun p hp q hq => ?_⟩
      have h5 := this.2 p hp
      rw [hq] at h5
      simpa using h5
    · rw [hd] at g3
      have h5 := List.all_eq_true.1 g3 p hp
      rw [hq] at h5
      simpa using h5
    · have := List.all_eq_true.1 h2 p hp
      simpa using this
    · rw [hb] at h3
      simp only [Bool.not_true, Bool.false_or] at h3
      exact List.all_eq_true.1 h3 k (List.mem_range.2 hk)
theorem named_cons {i : Nat} {b : Bool} {r : List (Nat × Bool)} {o : Oper} (h : ops[i]? = some o) : named ops ((i, b) :: r) = (o, b) :: named ops r := by
  unfold named
  rw [List.filterMap_cons]
  simp [h]

/-- one more operation is seen through -/
theorem St.step {i : Nat} {b : Bool} {r : List (Nat × Bool)} {pre : List Nat} {A : Act} {B J B' J' : World → Prop} {o : Oper} {v : Value} (h : St P ops Q md ((i, b) :: r) pre A B J) (ho : ops[i]? = some o) (hB : ∀ w, B' w → B w) (hJ : ∀ w, J' w → B' w)
    (hs : SeqM P ops Q (named ops r) (A.put o.dst v) B' J') : St P ops Q md r pre (A.put o.dst v) B' J' := by
  obtain ⟨o', ho', g1, g2, g3, g4, g5, g6⟩ := okM_cons h.ok
  rw [ho] at ho'
  cases ho'
  refine ⟨hJ, h.op, fun k hk ok hok w hw => ?_, fun k hk ok hok t ht p hp => h.looks k hk ok hok t ht p (List.mem_cons_of_mem _ hp), fun k hk ok hok d hd p hp => h.dst k hk ok hok d hd p (List.mem_cons_of_mem _ hp), g6, hs⟩
  have hl : ∀ t ∈ ok.looksAt ops, o.dst ≠ some t := fun t ht => h.looks k hk ok hok t ht (i, b) (by simp) o ho
  refine shift (h.op k hk ok hok) (put_eval A hl v) (put_wanted A hl v) rfl (fun u hu => ?_) (h.fact k hk ok hok w (hB w hw))
  rw [put_comm A (d := o.dst) (e := ok.dst) (fun t ht he => h.dst k hk ok hok t he (i, b) (by simp) o ho ht) u v, hu]
theorem St.still {i : Nat} {b : Bool} {r : List (Nat × Bool)} {pre : List Nat} {A : Act} {B J : World → Prop} {o : Oper} {v : Value} (h : St P ops Q md ((i, b) :: r) pre A B J) (ho : ops[i]? = some o)
    (hv : ∀ w, B w → wpList P ops (fun e a' w' => e = .normal ∧ a' = A.put o.dst v ∧ w' = w) [o] A w)
    (hs : SeqM P ops Q (named ops r) (A.put o.dst v) B J) : St P ops Q md r (i :: pre) (A.put o.dst v) B J := by
  have h1 := h.step ho (fun _ h => h) h.sub hs
  obtain ⟨o', ho', g1, g2, g3, g4, g5, g6⟩ := okM_cons h.ok
  rw [ho] at ho'
  cases ho'
  refine ⟨h.sub, fun k hk ok hok => ?_, fun k hk ok hok w hw => ?_, fun k hk ok hok t ht p hp q hq => ?_, fun k hk ok hok d hd p hp q hq => ?_, h1.ok, h1.seq⟩
  · rcases List.mem_cons.1 hk with rfl | hk
    · rw [ho] at hok; cases hok; exact g1
    · exact h1.op k hk ok hok
  · rcases List.mem_cons.1 hk with rfl | hk
    · rw [ho] at hok; cases hok
      have hl : ∀ t ∈ o.looksAt ops, o.dst ≠ some t := fun t ht => (g2 t ht).1
      refine shift g1 (put_eval A hl v) (put_wanted A hl v) (put_defers _ _ _) (fun u hu => ?_) (hv w hw)
      rw [put_put, hu]
    · exact h1.fact k hk ok hok w hw
  · rcases List.mem_cons.1 hk with rfl | hk
    · rw [ho] at hok; cases hok; exact (g2 t ht).2 p hp q hq
    · exact h1.looks k hk ok hok t ht p hp q hq
  · rcases List.mem_cons.1 hk with rfl | hk
    · rw [ho] at hok; cases hok; exact g3 d hd p hp q hq
    · exact h1.dst k hk ok hok d hd p hp q hq

theorem Agree.more {A a : Act} {listed : Array Bool} {i : Nat} {o : Oper} {v : Value} (h : Agree ops A listed a) (ho : ops[i]? = some o) (hl : listed.getD i true = false) : Agree ops (A.put o.dst v) listed a := by
  refine ⟨by rw [put_defers]; exact h.defers, by rw [put_size]; exact h.size, fun t ht => ?_⟩
  rw [put_at A (fun e => by have := ht i o ho e; rw [hl] at this; cases this) v]
  exact h.at' t ht

theorem advance {a : Act} {listed : Array Bool} {B J : World → Prop} : ∀ (post : List (Nat × Bool)) (pre : List Nat) (A : Act), St P ops Q md post pre A B J → Agree ops A listed a → (∀ p ∈ post, listed.getD p.1 true = false) →
    ∃ post' pre' A', St P ops Q md post' pre' A' B J ∧ Agree ops A' listed a ∧ (∀ p ∈ post', listed.getD p.1 true = false) ∧ (∀ j, (j ∈ pre ∨ ∃ p ∈ post, p.1 = j) → j ∈ pre' ∨ ∃ p ∈ post', p.1 = j) ∧
      (post' = [] ∨ ∃ c o r, post' = (c, true) :: r ∧ ops[c]? = some o ∧ Region.wanted o (yielded ops A'.tmps) = true)
  | [], pre, A, h, ha, hu => ⟨[], pre, A, h, ha, hu, fun _ h => h, .inl rfl⟩
  | (i, b) :: r, pre, A, h, ha, hu => by
    obtain ⟨o, ho, g1, g2, g3, g4, g5, g6⟩ := okM_cons h.ok
    have hs := h.seq
    rw [named_cons ho] at hs
    have hi := hu (i, b) (by simp)
    have key : ∀ v, (∀ w, B w → wpList P ops (fun e a' w' => e = .normal ∧ a' = A.put o.dst v ∧ w' = w) [o] A w) → SeqM P ops Q (named ops r) (A.put o.dst v) B J →
        ∃ post' pre' A', St P ops Q md post' pre' A' B J ∧ Agree ops A' listed a ∧ (∀ p ∈ post', listed.getD p.1 true = false) ∧ (∀ j, (j ∈ pre ∨ ∃ p ∈ (i, b) :: r, p.1 = j) → j ∈ pre' ∨ ∃ p ∈ post', p.1 = j) ∧
          (post' = [] ∨ ∃ c o r, post' = (c, true) :: r ∧ ops[c]? = some o ∧ Region.wanted o (yielded ops A'.tmps) = true) := by
      intro v hv hs2
      obtain ⟨post', pre', A', k1, k2, k3, k4, k5⟩ := advance r (i :: pre) _ (h.still ho hv hs2) (ha.more ho hi) (fun p hp => hu p (List.mem_cons_of_mem _ hp))
      refine ⟨post', pre', A', k1, k2, k3, fun j hj => k4 j ?_, k5⟩
      rcases hj with hj | ⟨p, hp, rfl⟩
      · exact .inl (List.mem_cons_of_mem _ hj)
      · rcases List.mem_cons.1 hp with rfl | hp
        · exact .inl (by simp)
        · exact .inr ⟨p, hp, rfl⟩
    by_cases hw : Region.wanted o (yielded ops A.tmps) = true
    · cases b with
      | true => exact ⟨_, pre, A, h, ha, hu, fun _ h => h, .inr ⟨i, o, r, rfl, ho, hw⟩⟩
      | false =>
        simp only [SeqM, hw, if_true] at hs
        obtain ⟨v, hv, hs2⟩ := hs
        exact key v hv hs2
    · have hoff : ∀ w, B w → wpList P ops (fun e a' w' => e = .normal ∧ a' = A.put o.dst undef ∧ w' = w) [o] A w := fun w _ => by
        unfold wpList
        rw [if_neg hw]
        exact ⟨rfl, rfl, rfl⟩
      cases b with
      | true =>
        simp only [SeqM, hw] at hs
        exact key undef hoff hs
      | false =>
        simp only [SeqM, hw] at hs
        exact key undef hoff hs

theorem ready_some (hf : fine md ops = true) (left : List Nat) (listed : Array Bool) (hsz : listed.size = ops.size) (hl : ∀ j, j ∈ left ↔ listed.getD j true = false) (hr : Region.ready md ops listed = []) : left = [] := by
  have : ∀ k j, j < k → listed.getD j true = false → False := by
    intro k
    induction k with
    | zero => intro j h; omega
    | succ k ih =>
      intro j hj hjl
      have hjs : j < ops.size := by
        rcases Nat.lt_or_ge j ops.size with h | h
        · exact h
        · simp [Array.getElem?_eq_none (show listed.size ≤ j by omega)] at hjl
      obtain ⟨o, ho⟩ : ∃ o, ops[j]? = some o := ⟨ops[j], by simp [hjs]⟩
      have hmem : j ∈ Region.ready md ops listed := by
        rw [mem_ready]
        refine ⟨hjl, o, ho, fun e he hb => ?_⟩
        have hlt := (fine_at hf ho).2.2.1 e he hb
        cases hx : listed.getD e.on true with
        | false => exact (ih e.on (by omega) hx).elim
        | true =>
          have hes : e.on < listed.size := by omega
          simp [hes] at hx ⊢
          exact hx
      rw [hr] at hmem
      cases hmem
  cases left with
  | nil => rfl
  | cons j l => exact (this (j + 1) j (by omega) ((hl j).1 (by simp))).elim

theorem St.step0 {i : Nat} {b : Bool} {r : List (Nat × Bool)} {pre : List Nat} {A : Act} {B J B' J' : World → Prop} {v : Value} {o : Oper} (h : St P ops Q md ((i, b) :: r) pre A B J) (hJ : ∀ w, J' w → B' w)
    (hs : SeqM P ops Q (named ops r) (A.put o.dst v) B' J') : St P ops Q md r [] (A.put o.dst v) B' J' := by
  obtain ⟨o', ho', g1, g2, g3, g4, g5, g6⟩ := okM_cons h.ok
  exact ⟨hJ, fun k hk => (by cases hk), fun k hk => (by cases hk), fun k hk => (by cases hk), fun k hk => (by cases hk), g6, hs⟩
theorem endsAll_at {o : Oper} {i : Nat} {listed : Array Bool} (h : endsAll ops o = true) (hsz : listed.size = ops.size) (hi : i < ops.size) (hun : listed.getD i true = false)
    (hall : ∀ e ∈ o.after, Region.binds .any e = true → listed.getD e.on true = true) : ∀ j, listed.getD j true = false → j = i := by
  intro j hj
  have hjs : j < ops.size := by
    rcases Nat.lt_or_ge j ops.size with h | h
    · exact h
    · simp [show ¬ j < listed.size by omega] at hj
  have free : ∀ k, listed.getD k true = false → (o.after.any fun e => Region.binds .any e && e.on == k) = false := fun k hk => by
    cases hx : o.after.any fun e => Region.binds .any e && e.on == k with
    | false => rfl
    | true =>
      obtain ⟨e, he, hbe⟩ := Array.any_eq_true'.1 hx
      simp only [Bool.and_eq_true, beq_iff_eq] at hbe
      have := hall e he hbe.1
      rw [hbe.2, hk] at this
      cases this
  unfold endsAll at h
  have hlen := of_decide_eq_true h
  have mi : i ∈ (List.range ops.size).filter fun j => !(o.after.any fun e => Region.binds .any e && e.on == j) := List.mem_filter.2 ⟨List.mem_range.2 hi, by rw [free i hun]; rfl⟩
  have mj : j ∈ (List.range ops.size).filter fun j => !(o.after.any fun e => Region.binds .any e && e.on == j) := List.mem_filter.2 ⟨List.mem_range.2 hjs, by rw [free j hj]; rfl⟩
  generalize ((List.range ops.size).filter fun j => !(o.after.any fun e => Region.binds .any e && e.on == j)) = F at *
  match F, hlen with
  | [], _ => cases mi
  | [x], _ =>
    rw [List.mem_singleton] at mi mj
    rw [mi, mj]
  | _ :: _ :: _, h => simp at h
theorem run_made (hmd : md = .any) (hf : fine md ops = true) : ∀ (m : Nat) (left : List Nat) (listed : Array Bool) (a A : Act) (w : World) (B J : World → Prop) (post : List (Nat × Bool)) (pre : List Nat), left.length = m → listed.size = ops.size → left.Nodup → (∀ j, j ∈ left ↔ listed.getD j true = false) →
    (∀ j, listed.getD j true = false → j ∈ pre ∨ ∃ p ∈ post, p.1 = j) → (∀ p ∈ post, listed.getD p.1 true = false) → Agree ops A listed a → J w → St P ops Q md post pre A B J → wpAny P md ops Q m listed a w := by
  intro m
  induction m with
  | zero =>
    intro left listed a A w B J post pre hm hsz hnd hl hc hu ha hJ hS
    have hn : left = [] := List.length_eq_zero_iff.1 hm
    subst hn
    obtain ⟨post', pre', A', k1, k2, k3, k4, k5⟩ := advance post pre A hS ha hu
    have hp : post' = [] := by
      cases post' with
      | nil => rfl
      | cons p r => have := (hl p.1).2 (k3 p (by simp)); cases this
    subst hp
    have ht : a = A' := by
      have ht : a.tmps = A'.tmps := by
        refine Array.ext k2.size fun t h1 h2 => ?_
        have := k2.at' t fun j o _ _ => by
          have := (hl j).2
          cases hx : listed.getD j true with
          | true => rfl
          | false => cases this hx
        simpa [h1, h2] using this
      have hd := k2.defers
      cases a; cases A'
      simp only at ht hd
      rw [ht, hd]
    subst ht
    refine ⟨?_, k1.seq w hJ⟩
    cases hr : Region.ready md ops listed with
    | nil => rfl
    | cons i rs =>
      have : i ∈ Region.ready md ops listed := by rw [hr]; simp
      have := (hl i).2 (mem_ready.1 this).1
      cases this
  | succ m ih =>
    intro left listed a A w B J post pre hm hsz hnd hl hc hu ha hJ hS
    refine ⟨fun hr => ?_, fun i hi => ?_⟩
    · rw [ready_some hf left listed hsz hl hr] at hm; simp at hm
    obtain ⟨post', pre', A', k1, k2, k3, k4, k5⟩ := advance post pre A hS ha hu
    obtain ⟨hun, o, ho, hall⟩ := mem_ready.1 hi
    obtain ⟨f1, f2, f3, f4⟩ := fine_at hf ho
    have his : i < ops.size := (Array.getElem?_eq_some_iff.1 ho).1
    have hlook : ∀ t ∈ o.looksAt ops, ∀ j p, ops[j]? = some p → p.dst = some t → listed.getD j true = true := by
      intro t ht j p hj hp
      obtain ⟨e, he, hb, rfl⟩ := f4 t ht j p hj hp
      have h1 := hall e he hb
      have hes : e.on < listed.size := by have := (Array.getElem?_eq_some_iff.1 hj).1; omega
      simp [hes] at h1 ⊢
      exact h1
    have heval := k2.eval hlook
    have hwant := k2.wanted hlook
    have hmem : i ∈ left := (hl i).2 hun
    have hnext : ∀ (A1 : Act) (B1 J1 : World → Prop) (post1 : List (Nat × Bool)) (pre1 : List Nat) (v : Value) (w' : World), A1.put o.dst v = A1 → Agree ops A1 listed a → J1 w' → St P ops Q md post1 pre1 A1 B1 J1 →
        (∀ j, listed.getD j true = false → j ≠ i → j ∈ pre1 ∨ ∃ p ∈ post1, p.1 = j) → (∀ p ∈ post1, listed.getD p.1 true = false ∧ p.1 ≠ i) → wpAny P md ops Q m (listed.setIfInBounds i true) (a.put o.dst v) w' := by
      intro A1 B1 J1 post1 pre1 v w' hv hag hJ1 hS1 hc1 hu1
      refine ih (left.erase i) _ _ A1 w' B1 J1 post1 pre1 (by rw [List.length_erase_of_mem hmem, hm]; rfl) (by simpa using hsz) (hnd.erase i) (fun j => ?_) (fun j hj => ?_) (fun p hp => ?_) (hag.put ho hv) hJ1 hS1
      · rw [hnd.mem_erase_iff, hl j]
        by_cases e : i = j
        · subst e
          simp [show i < listed.size by omega]
        · rw [getD_set_ne true e]
          exact ⟨fun h => h.2, fun h => ⟨fun h' => e h'.symm, h⟩⟩
      · by_cases e : i = j
        · subst e
          simp [show i < listed.size by omega] at hj
        · rw [getD_set_ne true e] at hj
          exact hc1 j hj (fun h => e h.symm)
      · rw [getD_set_ne true (fun e => (hu1 p hp).2 e.symm)]
        exact (hu1 p hp).1
    have hcase : i ∈ pre' ∨ ∃ p ∈ post', p.1 = i := k4 i (hc i hun)
    have hkeep : ∀ v w', A'.put o.dst v = A' → w' = w → (∀ p ∈ post', p.1 ≠ i) → wpAny P md ops Q m (listed.setIfInBounds i true) (a.put o.dst v) w' := fun v w' hv hw hn =>
      hnext A' B J post' pre' v w' hv k2 (hw ▸ hJ) k1 (fun j hj hne => k4 j (hc j hj)) (fun p hp => ⟨k3 p hp, hn p hp⟩)
    by_cases hpost : ∃ p ∈ post', p.1 = i
    · rcases k5 with rfl | ⟨c, oc, r, rfl, hoc, hwc⟩
      · obtain ⟨p, hp, _⟩ := hpost; cases hp
      obtain ⟨o', ho', g1, g2, g3, g4, g5, g6⟩ := okM_cons k1.ok
      have hci : i = c := by
        obtain ⟨p, hp, rfl⟩ := hpost
        rcases List.mem_cons.1 hp with rfl | hp
        · rfl
        · exfalso
          obtain ⟨k, hk, hpk⟩ := List.getElem_of_mem hp
          have hb := g5 rfl k hk
          rw [List.getD_eq_getElem?_getD, List.getElem?_eq_getElem hk, Option.getD_some, hpk] at hb
          unfold bound at hb
          rw [ho] at hb
          obtain ⟨e, he, hbe⟩ := Array.any_eq_true'.1 hb
          simp only [Bool.and_eq_true, List.contains_iff_mem] at hbe
          have h1 := hall e he hbe.1
          have hun2 : listed.getD e.on true = false := by
            rcases List.mem_cons.1 hbe.2 with h | h
            · rw [h]; exact k3 (c, true) (by simp)
            · obtain ⟨q, hq, hqe⟩ := List.mem_map.1 h
              rw [← hqe]
              exact k3 q (List.mem_cons_of_mem _ (List.mem_of_mem_take hq))
          have hes : e.on < listed.size := by
            have := f3 e he hbe.1
            omega
          simp [hes] at h1 hun2
          rw [h1] at hun2
          cases hun2
      subst hci
      rw [ho] at hoc ho'
      cases hoc
      cases ho'
      have hs := k1.seq
      rw [named_cons ho] at hs
      simp only [SeqM, hwc, if_true] at hs
      have h := hs w hJ
      have hmake : ∀ u w', (∃ v B' J', A'.put o.dst u = A'.put o.dst v ∧ J' w' ∧ SeqM P ops Q (named ops r) (A'.put o.dst v) B' J' ∧ (∀ w, J' w → B' w) ∧ (endsAll ops o = true ∨ ∀ w, B' w → B w)) → wpAny P md ops Q m (listed.setIfInBounds i true) (a.put o.dst u) w' := by
        rintro u w' ⟨v, B', J', h1, h2, h3, h4, h5⟩
        rw [← h1] at h3
        rcases h5 with h5 | h5
        · have hend := endsAll_at (listed := listed) h5 hsz his hun (fun e he hb => by
            have h1 := hall e he (by rw [hmd]; exact hb)
            rcases Nat.lt_or_ge e.on listed.size with hes | hes
            · simp [hes] at h1 ⊢
              exact h1
            · simp [show ¬ e.on < listed.size by omega])
          exact hnext (A'.put o.dst u) B' J' r [] u w' (put_put _ _ _ _) (k2.more ho (k3 (i, true) (by simp))) h2 (k1.step0 h4 h3) (fun j hj hne => (hne (hend j hj)).elim) (fun p hp => ⟨k3 p (List.mem_cons_of_mem _ hp), g4 p hp⟩)
        refine hnext (A'.put o.dst u) B' J' r pre' u w' (put_put _ _ _ _) (k2.more ho (k3 (i, true) (by simp))) h2 (k1.step ho h5 h4 h3) (fun j hj hne => ?_) (fun p hp => ⟨k3 p (List.mem_cons_of_mem _ hp), g4 p hp⟩)
        rcases k4 j (hc j hj) with h | ⟨p, hp, rfl⟩
        · exact .inl h
        · rcases List.mem_cons.1 hp with rfl | hp
          · exact (hne rfl).elim
          · exact .inr ⟨p, hp, rfl⟩
      unfold wpOp
      simp only [ho]
      unfold wpList at h
      rw [hwant]
      simp only [hwc, if_true] at h ⊢
      rcases h with h | ⟨_, _, _, h, _⟩
      case inr => cases h
      refine .inl ?_
      unfold Oper.wp at h ⊢
      rw [execOp_congr o f1 heval]
      generalize (execOp A'.eval o).run P w = x at *
      cases x with
      | ok x w' =>
        cases x <;> simp only [Oper.upon] at h ⊢
        case value v => exact hmake v w' h.2
        case skip => exact hmake _ w' h.2
        case defer d =>
          obtain ⟨v, B', J', h1, _⟩ := h.2
          have := congrArg (fun b : Act => b.defers.length) h1
          simp only [put_defers] at this
          simp at this
        case enter f args =>
          refine Calls.mono h fun e w'' he => ?_
          cases e with
          | returned v => exact hmake v w'' he.2
          | panicked c => cases he.1
          | outgrown => obtain ⟨_, _, h, _⟩ := he; cases h
        case row row args => exact Rows.mono h fun v w'' he => hmake v w'' he.2
      | halt x w' =>
        cases x <;> simp only [Oper.upon] at h ⊢
        case panic u => cases h.1
    · have hpre : i ∈ pre' := hcase.resolve_right hpost
      have hne : ∀ p ∈ post', p.1 ≠ i := fun p hp e => hpost ⟨p, hp, e⟩
      have h := k1.fact i hpre o ho w (k1.sub w hJ)
      unfold wpOp
      simp only [ho]
      unfold wpList at h
      rw [hwant]
      split
      · rename_i hw
        simp only [hw, if_true] at h
        rcases h with h | ⟨_, _, _, h, _⟩
        case inr => cases h
        refine .inl ?_
        unfold Oper.wp at h ⊢
        rw [execOp_congr o f1 heval]
        generalize (execOp A'.eval o).run P w = r at *
        cases r with
        | ok x w' =>
          cases x <;> simp only [Oper.upon] at h ⊢
          case value v => exact hkeep v w' h.2.1 h.2.2 hne
          case skip => exact hkeep _ w' h.2.1 h.2.2 hne
          case defer d =>
            have := congrArg List.length (put_self h.2.1).1
            simp at this
          case enter f args =>
            refine Calls.mono h fun e w'' he => ?_
            cases e with
            | returned v => exact hkeep v w'' he.2.1 he.2.2 hne
            | panicked c => cases he.1
            | outgrown => obtain ⟨_, _, h, _⟩ := he; cases h
          case row row args => exact Rows.mono h fun v w'' he => hkeep v w'' he.2.1 he.2.2 hne
        | halt x w' =>
          cases x <;> simp only [Oper.upon] at h ⊢
          case panic u => cases h.1
      · rename_i hw
        simp only [hw] at h
        exact hkeep _ w h.2.1 rfl hne

/-- the walk, behind a name that nothing unfolds; J: the world as it stands; B: what is known in whatever world there may be from here on -/
structure WalkM (P : Program) (ops : Array Oper) (Q : Exit → Act → World → Prop) (l : List (Oper × Bool)) (a : Act) (B J : World → Prop) : Prop where
  go : SeqM P ops Q l a B J
theorem WalkM.nil {a : Act} {B J : World → Prop} (h : ∀ w, J w → Q .normal a w) : WalkM P ops Q [] a B J := ⟨h⟩
theorem WalkM.off {a : Act} {B J : World → Prop} {o : Oper} {b : Bool} {r : List (Oper × Bool)} (hw : asks ops.toList o a.tmps.toList = false) (h : WalkM P ops Q r (a.put o.dst undef) B J) : WalkM P ops Q ((o, b) :: r) a B J := by
  have hw' : Region.wanted o (yielded ops a.tmps) = false := (asks_eq _ _ _).trans hw
  refine ⟨?_⟩
  cases b <;> (simp only [SeqM, hw']; exact h.go)
/-- where an operation ends that leaves the world alone -/
structure Lets (A : Act) (w : World) (e : Exit) (a' : Act) (w' : World) : Prop where
  e : e = .normal
  a : a' = A
  i : w' = w
theorem Lets.eq {A : Act} {w : World} : Lets A w = fun e a' w' => e = .normal ∧ a' = A ∧ w' = w := by
  funext e a' w'
  exact propext ⟨fun h => ⟨h.e, h.a, h.i⟩, fun h => ⟨h.1, h.2.1, h.2.2⟩⟩
theorem WalkM.on {a : Act} {B J : World → Prop} {o : Oper} {r : List (Oper × Bool)} (hw : asks ops.toList o a.tmps.toList = true) {v : Value}
    (h1 : ∀ w, B w → wpList P ops (Lets (a.put o.dst v) w) [o] a w) (h : WalkM P ops Q r (a.put o.dst v) B J) : WalkM P ops Q ((o, false) :: r) a B J := by
  have hw' : Region.wanted o (yielded ops a.tmps) = true := (asks_eq _ _ _).trans hw
  refine ⟨?_⟩
  simp only [SeqM, hw', if_true]
  exact ⟨v, fun w hB => Lets.eq ▸ h1 w hB, h.go⟩
/-- where an operation ends that makes or writes memory: the walk goes on there; one that stands behind all others (endsAll) need not keep what the others rely on -/
structure Made (P : Program) (ops : Array Oper) (Q : Exit → Act → World → Prop) (r : List (Oper × Bool)) (a : Act) (o : Oper) (B : World → Prop) (e : Exit) (a' : Act) (w' : World) : Prop where
  e : e = .normal
  on : ∃ v B' J', a' = a.put o.dst v ∧ J' w' ∧ (∀ w, J' w → B' w) ∧ (endsAll ops o = true ∨ ∀ w, B' w → B w) ∧ WalkM P ops Q r (a.put o.dst v) B' J'
theorem WalkM.make {a : Act} {B J : World → Prop} {o : Oper} {r : List (Oper × Bool)} (hw : asks ops.toList o a.tmps.toList = true)
    (h1 : ∀ w, J w → wpList P ops (Made P ops Q r a o B) [o] a w) : WalkM P ops Q ((o, true) :: r) a B J := by
  have hw' : Region.wanted o (yielded ops a.tmps) = true := (asks_eq _ _ _).trans hw
  have he : Made P ops Q r a o B = fun e a' w' => e = .normal ∧ ∃ v B' J', a' = a.put o.dst v ∧ J' w' ∧ SeqM P ops Q r (a.put o.dst v) B' J' ∧ (∀ w, J' w → B' w) ∧ (endsAll ops o = true ∨ ∀ w, B' w → B w) := by
    funext e a' w'
    exact propext ⟨fun h => ⟨h.e, let ⟨v, B', J', h1, h2, h3, h4, h5⟩ := h.on; ⟨v, B', J', h1, h2, h5.go, h3, h4⟩⟩, fun h => ⟨h.1, let ⟨v, B', J', h1, h2, h3, h4, h5⟩ := h.2; ⟨v, B', J', h1, h2, h4, h5, ⟨h3⟩⟩⟩⟩
  refine ⟨?_⟩
  simp only [SeqM, hw', if_true]
  exact fun w hJ => he ▸ h1 w hJ

theorem regionM {id : Nat} {a : Act} {w : World} (ord : List (Nat × Bool)) (B : World → Prop) (hm : P.follows .mixedOrders = true) (hf : fine .any ops = true) (hok : okM .any ops ord = true) (hwh : whole ops ord = true) (hB : B w.drew)
    {l : List (Oper × Bool)} (hl : named ops ord = l) (hs : WalkM P ops Q l a B (fun W => W = w.drew)) : (Code.region id ops true).wp P Q a w := by
  subst hl
  refine wp_region_any hm ?_
  have h := run_made (md := .any) (P := P) (Q := Q) rfl hf ops.size (List.range ops.size) (Array.replicate ops.size false) a a w.drew B (fun W => W = w.drew) ord [] (by simp) (by simp) List.nodup_range (fun j => ?_) (fun j hj => ?_) (fun p hp => ?_) ⟨rfl, rfl, fun _ _ => rfl⟩ rfl
    ⟨fun W h => h ▸ hB, (fun i hi => nomatch hi), (fun i hi => nomatch hi), (fun i hi => nomatch hi), (fun i hi => nomatch hi), hok, hs.go⟩
  · exact h
  · rw [List.mem_range]
    by_cases h : j < ops.size
    · simp [h]
    · simp [h]
  · right
    have hjs : j < ops.size := by
      rcases Nat.lt_or_ge j ops.size with h | h
      · exact h
      · simp [h] at hj
    have := List.all_eq_true.1 hwh j (List.mem_range.2 hjs)
    obtain ⟨p, hp, hpj⟩ := List.any_eq_true.1 this
    exact ⟨p, hp, by simpa using hpj⟩
  · have hlt : p.1 < ops.size := by
      clear hs hwh
      induction ord with
      | nil => cases hp
      | cons q r ih =>
        obtain ⟨o, ho, _, _, _, _, _, g6⟩ := okM_cons (i := q.1) (b := q.2) hok
        rcases List.mem_cons.1 hp with rfl | hp
        · exact (Array.getElem?_eq_some_iff.1 ho).1
        · exact ih g6 hp
    simp [hlt]
end
end Pu
end Go.Proofs.Yteiniahikhiadaa

namespace Go.Proofs.Yteiniahikhiadaa
open Go.RowKit Go.Maps
namespace Se
open Ce
theorem hmx : Try.prog.follows .mixedOrders = true := by kernel_rfl

section
variable {w w' : World} {base d sb mb : Nat} {D D' : Dv}
set_option maxRecDepth 100000 in
theorem counts_calls (h : DvAt w base d sb mb D) :
    Calls Try.prog 48 #[.pointer (some ⟨d, 0, none⟩)] w fun e w' => e = .returned (.tuple #[.int .i64 D.wr, .int .i64 D.fl]) ∧ Below w.heap.size w w' := by
  obtain ⟨y0, y1, y2, y3, y4, y5⟩ := Ob.dev h.ob
  have cM := Lib.hid (made_calls d mb w y1)
  have hdr := (Below.refl w.heap.size w).drew
  have hdl := h.ob.lt
  have c4 := Lib.hid (load_calls (d := d) 4 D.wr w.drew ((hdr.cell (p := ⟨d, 4, none⟩) hdl).trans y4))
  have c5 := Lib.hid (load_calls (d := d) 5 D.fl w.drew ((hdr.cell (p := ⟨d, 5, none⟩) hdl).trans y5))
  generalize D.wr = wr at *
  generalize D.fl = fl at *
  clear h
  go_enter Try.func48, Try.ntmps48
  go_wp2_with fail
  refine cM.out.mono ?_
  rintro e W ⟨rfl, rfl⟩
  go_wp2_with fail

  refine Pu.regionM [(0, false), (1, false), (2, false), (4, false), (5, false), (6, false), (3, true), (7, true), (8, false), (9, false)] (fun V => V = w.drew) hmx (by kernel_rfl) (by kernel_rfl) (by kernel_rfl) rfl rfl ?_
  simp only [Pu.named, List.filterMap_cons, List.filterMap_nil, List.getElem?_toArray, List.getElem?_cons_succ, List.getElem?_cons_zero, Option.map_some]
  iterate 6 (apply Pu.WalkM.on (by rfl)
             · intro V hV
               go_wp2_with fail
               refine ⟨rfl, ?_, rfl⟩
               try simp only [Act.put, List.setIfInBounds_toArray, List.set_cons_succ, List.set_cons_zero]
               rfl
             simp only [Act.put, List.setIfInBounds_toArray, List.set_cons_succ, List.set_cons_zero])
  refine Pu.WalkM.make (by rfl) ?_
  intro V hV
  rw [hV]
  clear hV V
  go_wp2_with (go_at_call 75; refine c4.out.mono ?_; rintro e W1 ⟨rfl, rfl⟩)
  refine ⟨rfl, .int .i64 wr, (fun V => V = w.drew), (fun V => V = w.drew), ?_, rfl, (fun _ h => h), (.inr (fun _ h => h)), ?_⟩
  · try simp only [Act.put, List.setIfInBounds_toArray, List.set_cons_succ, List.set_cons_zero]
  try simp only [Act.put, List.setIfInBounds_toArray, List.set_cons_succ, List.set_cons_zero]
  refine Pu.WalkM.make (by rfl) ?_
  intro V hV
  rw [hV]
  clear hV V
  go_wp2_with (go_at_call 75; refine c5.out.mono ?_; rintro e W2 ⟨rfl, rfl⟩)
  refine ⟨rfl, .int .i64 fl, (fun V => V = w.drew), (fun V => V = w.drew), ?_, rfl, (fun _ h => h), (.inr (fun _ h => h)), ?_⟩
  · try simp only [Act.put, List.setIfInBounds_toArray, List.set_cons_succ, List.set_cons_zero]
  try simp only [Act.put, List.setIfInBounds_toArray, List.set_cons_succ, List.set_cons_zero]
  iterate 2 (apply Pu.WalkM.on (by rfl)
             · intro V hV
               go_wp2_with fail
               refine ⟨rfl, ?_, rfl⟩
               try simp only [Act.put, List.setIfInBounds_toArray, List.set_cons_succ, List.set_cons_zero]
               rfl
             simp only [Act.put, List.setIfInBounds_toArray, List.set_cons_succ, List.set_cons_zero])
  refine Pu.WalkM.nil ?_
  intro V hV
  rw [hV]
  clear hV V
  go_wp2
  go_ret2
  exact ⟨rfl, hdr⟩
theorem counts_nil (w : World) : Calls Try.prog 48 #[.pointer none] w fun e w' => e = .returned (.tuple #[.int .i64 0, .int .i64 0]) ∧ w = w' := by
  have cM := Lib.hid (made_nil w)
  go_enter Try.func48, Try.ntmps48
  go_wp2_with fail
  refine cM.out.mono ?_
  rintro e W ⟨rfl, rfl⟩
  go_wp2
  go_ret2
  exact ⟨rfl, rfl⟩
end
end Se
end Go.Proofs.Yteiniahikhiadaa

namespace Go.Proofs.Yteiniahikhiadaa
open Go.RowKit Go.Maps
namespace Se
open Ce

theorem rising_len (hi : Int) : ∀ (l : List Int) (lo : Int), l.Pairwise (· < ·) → (∀ x ∈ l, lo ≤ x ∧ x < hi) → lo ≤ hi → (l.length : Int) ≤ hi - lo
  | [], lo, _, _, h => by simp; omega
  | x :: r, lo, hp, hb, h => by
    rw [List.pairwise_cons] at hp
    have hx := hb x (by simp)
    have := rising_len hi r (x + 1) hp.2 (fun y hy => ⟨by have := hp.1 y hy; omega, (hb y (List.mem_cons_of_mem _ hy)).2⟩) (by omega)
    simp only [List.length_cons, Int.natCast_add, Int.cast_ofNat_Int]
    omega
section
variable {w w' : World} {base d sb mb : Nat} {D D' : Dv}
theorem DvAt.rising (h : DvAt w base d sb mb D) : ((bm D.dm).map (·.1)).Pairwise (· < ·) := by
  rw [List.pairwise_map]
  exact (h.map.sorted keyedI).imp (fun {p q} h => by simpa [intK] using h)
theorem DvAt.short (h : DvAt w base d sb mb D) : (bm D.dm).length ≤ 16384 := by
  have h1 := rising_len D.sure.length ((bm D.dm).map (·.1)) 0 h.rising (fun x hx => by
    obtain ⟨p, hp, rfl⟩ := List.mem_map.1 hx
    obtain ⟨q, hq, rfl⟩ := List.mem_map.1 hp
    have := h.ok.dm q hq
    exact ⟨this.1, this.2.1⟩) (by omega)
  rw [List.length_map] at h1
  have := h.len.2
  omega
theorem DvAt.mapped (h : DvAt w base d sb mb D) {m : List (Int × Blk)} (hg : w.grownBy w' (some mb)) (hm : GMap intK w' Try.prog 3 mb (bm m)) (hok : OkD { D with dm := m }) : DvAt w' base d sb mb { D with dm := m } :=
  ⟨h.ob.kept hg (fun e => h.ne.2.1 (Option.some.inj e)), h.sure.kept (hg.block sb h.sure.lt (fun e => h.ne.2.2 (Option.some.inj e))) hg.size, hm, hok, h.ne, h.lo, h.len⟩
theorem Dev.of_map (hg : w.grownBy w' (some mb)) : Dev d sb mb w w' := Kept.of_grown hg fun _ hi => ⟨hi.1, fun e => hi.2.2.2 (Option.some.inj e)⟩
theorem Dev.of_sure (hg : w.grownBy w' (some sb)) : Dev d sb mb w w' := Kept.of_grown hg fun _ hi => ⟨hi.1, fun e => hi.2.2.1 (Option.some.inj e)⟩
theorem Dev.of_below (hb : Below w.heap.size w w') : Dev d sb mb w w' := Kept.of_below hb fun _ hi => hi.1
theorem Dev.trans {w'' : World} (h : Dev d sb mb w w') (k : Dev d sb mb w' w'') : Dev d sb mb w w'' := Kept.trans h (Kept.mono k fun _ hi => ⟨Nat.lt_of_lt_of_le hi.1 (Kept.size h), hi.2⟩)
theorem Dev.below {B : Nat} (h : Dev d sb mb w w') (hB : B ≤ w.heap.size) (hd : B ≤ d ∧ B ≤ sb ∧ B ≤ mb) : Below B w w' := Kept.below h fun i hi => ⟨by omega, by omega, by omega, by omega⟩
theorem bytes_range {lo hi : Nat} {A : Option Addr} {n c : Nat} {bl : List UInt8} (h : BytesAt w lo hi (.slice A n c) bl) (hl : 0 < bl.length) : ∃ b o, A = some ⟨b, o, none⟩ ∧ lo ≤ b ∧ b < hi ∧ w.rangeAt b o (bytesV bl) := by
  obtain ⟨b, o, e, h1, h2, -⟩ := h.cellAt hl
  subst e
  refine ⟨b, o, rfl, h1, h2, fun j v hv => ?_⟩
  have hj : j < bl.length := by
    have := (List.getElem?_eq_some_iff.1 hv).1
    simpa [bytesV] using this
  obtain ⟨b', o', e', -, -, hc⟩ := h.cellAt hj
  cases e'
  rw [hc, ← hv]
  unfold bytesV
  rw [List.getElem?_map, List.getElem?_eq_getElem hj]
  rfl
set_option maxRecDepth 100000 in
set_option maxHeartbeats 4000000 in
theorem write_good (h : DvAt w base d sb mb D) (ho : offD D = false) (i : Int) (bl : List UInt8) (v : Value) (lo hi : Nat) (hI : BytesAt w lo hi v bl) (hhi : hi ≤ w.heap.size) (hd : d < lo) (hmlo : mb < lo) (hi0 : 0 ≤ i) (hi1 : i < D.sure.length) (hbl : bl.length = 64) :
    Calls Try.prog 38 #[.pointer (some ⟨d, 0, none⟩), .int .i64 i, v] w fun e w' => e = .returned (.int .i64 0) ∧ DvAt w' base d sb mb { spendD D with dm := bPut D.dm i bl, wr := wrap64 (D.wr + 1) } ∧ Dev d sb mb w w' := by
  obtain ⟨y0, y1, -⟩ := Ob.dev h.ob
  have cM := Lib.hid (made_calls d mb w y1)
  have cI := is_calls h i
  have e1 : decide (0 ≤ i ∧ i < (D.sure.length : Int)) = true := by simp; omega
  rw [e1] at cI
  have CI := Lib.hid cI
  have CS := Lib.hid (spend_calls h ho)
  have hW := h.ok.write i bl
  have eW : (writeD D i bl).1 = { spendD D with dm := bPut D.dm i bl, wr := wrap64 (D.wr + 1) } := by
    unfold writeD
    rw [if_neg (by omega), ho]
    rfl
  rw [eW] at hW
  have hln := h.len.2
  have hOK := Lib.hid (show OkD { spendD D with dm := bPut D.dm i bl } from ⟨hW.sure, hW.dm, hW.left, by dsimp only; rw [spendD_wr]; exact h.ok.wr, hW.fl⟩)
  have HW := Lib.hid hW
  have HDM := Lib.hid (spendD_dm D)
  have HWR := Lib.hid (spendD_wr D)
  obtain ⟨A, c, rfl, hc1, hc2⟩ := hI.form
  unfold maxLen at hc2
  rw [hbl]
  rw [hbl] at hI hc1
  have hkey := Lib.hid (keyI (k := i) (by omega) (by omega))
  have HI := Lib.hid hI
  have HBL := Lib.hid hbl
  clear cI e1 h ho hI hbl eW hW
  generalize D.sure.length = n at *
  go_enter Try.func38, Try.ntmps38
  go_wp2_with fail
  refine cM.out.mono ?_
  rintro e W ⟨rfl, rfl⟩
  go_wp2_with fail
  refine CI.out.mono ?_
  rintro e W ⟨rfl, rfl⟩
  go_wp2_with fail
  refine CS.out.mono ?_
  rintro e W ⟨rfl, hS, hg⟩
  have hIW : BytesAt W lo hi (.slice A 64 c) bl := Sl.grown HI.out hg hhi (fun k e => .inl (by cases e; exact hd))
  obtain ⟨bb, oo, rfl, hb1, hb2, hr⟩ := bytes_range hIW (by rw [HBL.out]; omega)
  obtain ⟨x0, x1, x2, x3, x4, -⟩ := Ob.dev hS.ob
  have HS := Lib.hid hS
  have HG := Lib.hid hg
  have hrd : W.drew.rangeAt bb oo (bytesV bl) := (World.rangeAt_drew _ _ _ _).2 hr
  have hx1 : W.drew.cell? ⟨d, 1, none⟩ = some (.map (some mb)) := x1
  clear CI CS cM y0 y1 hIW hS hg hr
  have har : ∀ V : World, (Instr.arrayAt 102 (.slice (some ⟨bb, oo, none⟩) 64 c)).run Try.prog V = .ok (.pointer (some ⟨bb, oo, none⟩)) V := fun V => by
    simp [Instr.arrayAt, run_underlying Try.underlying102, go_sem]
  go_wp2_with fail
  refine Pu.regionM [(0, false), (1, false), (2, false), (3, false), (4, false), (5, false), (6, false), (7, false), (8, true)] (fun V => V.cell? ⟨d, 1, none⟩ = some (.map (some mb)) ∧ V.rangeAt bb oo (bytesV bl)) hmx (by kernel_rfl) (by kernel_rfl) (by kernel_rfl) ⟨hx1, hrd⟩ rfl ?_
  simp only [Pu.named, List.filterMap_cons, List.filterMap_nil, List.getElem?_toArray, List.getElem?_cons_succ, List.getElem?_cons_zero, Option.map_some]
  iterate 6 (apply Pu.WalkM.on (by rfl)
             · rintro V ⟨g1, gr⟩
               go_wp2_with fail
               refine ⟨rfl, ?_, rfl⟩
               try simp only [Act.put, List.setIfInBounds_toArray, List.set_cons_succ, List.set_cons_zero]
               rfl
             simp only [Act.put, List.setIfInBounds_toArray, List.set_cons_succ, List.set_cons_zero])
  apply Pu.WalkM.on (by rfl)
  · rintro V ⟨g1, gr⟩
    go_wp2_with fail
    refine ⟨rfl, ?_, rfl⟩
    try simp only [Act.put, List.setIfInBounds_toArray, List.set_cons_succ, List.set_cons_zero]
    rfl
  simp only [Act.put, List.setIfInBounds_toArray, List.set_cons_succ, List.set_cons_zero]
  apply Pu.WalkM.on (by rfl)
  · rintro V ⟨g1, gr⟩
    refine wpList_load_mid rfl 102 (.tmp 31) rfl bb oo rfl (bytesV bl) _ gr Try.underlying102 rfl (by rw [bytesV_length, HBL.out]; kernel_rfl) ?_
    go_wp2_with fail
    refine ⟨rfl, ?_, rfl⟩
    try simp only [Act.put, List.setIfInBounds_toArray, List.set_cons_succ, List.set_cons_zero]
    rfl
  simp only [Act.put, List.setIfInBounds_toArray, List.set_cons_succ, List.set_cons_zero]
  refine Pu.WalkM.make (by rfl) ?_
  rintro V rfl
  have hm7 : GMap intK W.drew Try.prog 3 mb (bm (spendD D).dm) := HS.out.map
  have hsh := HS.out.short
  refine wpList_put_g rfl (.tmp 28) (.tmp 29) (.tmp 32) _ rfl 3 _ keyedI Try.underlying79 rfl hm7 (by unfold maxLen; omega) _ (blkV bl) _ rfl rfl hkey.out ?_
  intro W3 hM3 hg3
  rw [bm_put, HDM.out] at hM3
  have hg7 : W.grownBy W3 (some mb) := ⟨hg3.os, hg3.tape, hg3.output, hg3.size, hg3.block⟩
  have hne := HS.out.ne
  have hbW : bb < W.heap.size := by have := HG.out.size; omega
  have gr3 : W3.rangeAt bb oo (bytesV bl) := range_of_block (hg3.block bb hbW (fun e => by have := Option.some.inj e; omega)) hrd
  have g13 : W3.cell? ⟨d, 1, none⟩ = some (.map (some mb)) := hg3.cell hx1 (fun e => hne.2.1 (Option.some.inj e))
  refine ⟨rfl, undef, _, (fun W => W = W3), rfl, rfl, (fun W h => by rw [h]; exact ⟨g13, gr3⟩), (.inr (fun _ h => h)), Pu.WalkM.nil ?_⟩
  rintro W' rfl
  simp only [Act.put]
  have HD3 := Lib.hid (HS.out.mapped hg7 hM3 hOK.out)
  obtain ⟨z0, z1, z2, z3, z4, -⟩ := Ob.dev HD3.out.ob
  have hst := HD3.out.ob.set 4 (.int .i64 (wrap64 (D.wr + 1)))
  have hg8 := grownBy_set W' d 4 (.int .i64 (wrap64 (D.wr + 1)))
  have HFIN := Lib.hid (HD3.out.own (D' := { spendD D with dm := bPut D.dm i bl, wr := wrap64 (D.wr + 1) }) hg8 hst rfl rfl HW.out)
  have HDV := Lib.hid ((Dev.of_own (sb := sb) (mb := mb) HG.out).trans ((Dev.of_map hg7).trans (Dev.of_own hg8)))
  dsimp only at z4
  rw [HWR.out] at z4
  have cA := Lib.hid (add_calls 4 D.wr W' z4 (HD3.out.ob.frozen 4))
  clear x0 x1 x2 x3 x4 hM3 hg3 gr3 g13 hst hg8 hm7 hrd hx1
  go_wp2_with fail
  refine cA.out.mono ?_
  rintro e W4 ⟨rfl, rfl⟩
  go_wp2
  go_ret
  exact ⟨rfl, HFIN.out, HDV.out⟩
end
end Se
end Go.Proofs.Yteiniahikhiadaa

namespace Go.Proofs.Yteiniahikhiadaa
open Go.RowKit Go.Maps
namespace Se
open Ce

theorem write_nil (i : Int) (v : Value) (w : World) :
    Calls Try.prog 38 #[.pointer none, .int .i64 i, v] w fun e w' => e = .returned (.int .i64 6) ∧ w = w' := by
  have cM := Lib.hid (made_nil w)
  go_enter Try.func38, Try.ntmps38
  go_wp2_with fail
  refine cM.out.mono ?_
  rintro e W ⟨rfl, rfl⟩
  go_wp2
  go_ret
  exact ⟨rfl, rfl⟩
theorem read_nil (i : Int) (w : World) :
    Calls Try.prog 41 #[.pointer none, .int .i64 i] w fun e w' => e = .returned (.tuple #[.slice none 0 0, .int .i64 6]) ∧ w = w' := by
  have cM := Lib.hid (made_nil w)
  go_enter Try.func41, Try.ntmps41
  go_wp2_with fail
  refine cM.out.mono ?_
  rintro e W ⟨rfl, rfl⟩
  go_wp2
  go_ret2
  exact ⟨rfl, rfl⟩
theorem flush_nil (w : World) :
    Calls Try.prog 40 #[.pointer none] w fun e w' => e = .returned (.int .i64 6) ∧ w = w' := by
  have cM := Lib.hid (made_nil w)
  go_enter Try.func40, Try.ntmps40
  go_wp2_with fail
  refine cM.out.mono ?_
  rintro e W ⟨rfl, rfl⟩
  go_wp2
  go_ret
  exact ⟨rfl, rfl⟩
theorem crash_nil (kv : Value) (t n : Int) (w : World) :
    Calls Try.prog 31 #[.pointer none, kv, .int .i64 t, .int .i64 n] w fun e w' => e = .returned (.int .i64 6) ∧ w = w' := by
  have cM := Lib.hid (made_nil w)
  go_enter Try.func31, Try.ntmps31
  go_wp2_with fail
  refine cM.out.mono ?_
  rintro e W ⟨rfl, rfl⟩
  go_wp2
  go_ret
  exact ⟨rfl, rfl⟩
section
variable {w w' : World} {base d sb mb : Nat} {D D' : Dv}
set_option maxRecDepth 100000 in
theorem write_arg (h : DvAt w base d sb mb D) (i : Int) (bl : List UInt8) (A : Option Addr) (n c : Nat) (hn : n = bl.length) (hbad : i < 0 ∨ (D.sure.length : Int) ≤ i ∨ bl.length ≠ 64) :
    Calls Try.prog 38 #[.pointer (some ⟨d, 0, none⟩), .int .i64 i, .slice A n c] w fun e w' => e = .returned (.int .i64 1) ∧ w = w' := by
  obtain ⟨y0, y1, -⟩ := Ob.dev h.ob
  have cM := Lib.hid (made_calls d mb w y1)
  have CI := Lib.hid (is_calls h i)
  generalize hq : decide (0 ≤ i ∧ i < (D.sure.length : Int)) = q at *
  have hqq : q = false ∨ n ≠ 64 := by
    subst hn
    rcases hbad with h1 | h1 | h1
    · left; rw [← hq]; simp; omega
    · left; rw [← hq]; simp; omega
    · exact .inr h1
  clear h hq hbad y0 y1 hn
  go_enter Try.func38, Try.ntmps38
  go_wp2_with fail
  refine cM.out.mono ?_
  rintro e W ⟨rfl, rfl⟩
  go_wp2_with fail
  refine CI.out.mono ?_
  rintro e W ⟨rfl, rfl⟩
  cases q with
  | false =>
    go_wp2
    go_ret
    exact ⟨rfl, rfl⟩
  | true =>
    have hd : ((n : Int) != 64) = true := by
      rcases hqq with h | h
      · cases h
      · simp; omega
    clear hqq
    go_wp2
    go_ret
    exact ⟨rfl, rfl⟩
set_option maxRecDepth 100000 in
theorem write_off (h : DvAt w base d sb mb D) (ho : offD D = true) (i : Int) (A : Option Addr) (c : Nat) (hi0 : 0 ≤ i) (hi1 : i < D.sure.length) :
    Calls Try.prog 38 #[.pointer (some ⟨d, 0, none⟩), .int .i64 i, .slice A 64 c] w fun e w' => e = .returned (.int .i64 30) ∧ w = w' := by
  obtain ⟨y0, y1, -⟩ := Ob.dev h.ob
  have cM := Lib.hid (made_calls d mb w y1)
  have cI := is_calls h i
  have e1 : decide (0 ≤ i ∧ i < (D.sure.length : Int)) = true := by simp; omega
  rw [e1] at cI
  have CI := Lib.hid cI
  have CS := Lib.hid (spend_off h ho)
  clear cI e1 h ho y0 y1 hi0 hi1
  go_enter Try.func38, Try.ntmps38
  go_wp2_with fail
  refine cM.out.mono ?_
  rintro e W ⟨rfl, rfl⟩
  go_wp2_with fail
  refine CI.out.mono ?_
  rintro e W ⟨rfl, rfl⟩
  go_wp2_with fail
  refine CS.out.mono ?_
  rintro e W ⟨rfl, rfl⟩
  go_wp2
  go_ret
  exact ⟨rfl, rfl⟩
/-- Write, whatever comes -/
theorem write_calls (h : DvAt w base d sb mb D) (i : Int) (bl : List UInt8) (v : Value) (lo hi : Nat) (hI : BytesAt w lo hi v bl) (hhi : hi ≤ w.heap.size) (hd : d < lo) (hmlo : mb < lo) :
    Calls Try.prog 38 #[.pointer (some ⟨d, 0, none⟩), .int .i64 i, v] w fun e w' => e = .returned (.int .i64 (writeD D i bl).2) ∧ DvAt w' base d sb mb (writeD D i bl).1 ∧ Dev d sb mb w w' := by
  by_cases hbad : i < 0 ∨ (D.sure.length : Int) ≤ i ∨ bl.length ≠ 64
  · have e : writeD D i bl = (D, 1) := by unfold writeD; rw [if_pos hbad]
    obtain ⟨A, c, rfl, -⟩ := hI.form
    rw [e]
    refine (write_arg h i bl A _ c rfl hbad).mono ?_
    rintro e W ⟨rfl, rfl⟩
    exact ⟨rfl, h, Kept.refl _ _⟩
  · cases ho : offD D with
    | true =>
      have e : writeD D i bl = (D, 30) := by unfold writeD; rw [if_neg hbad, ho]; rfl
      obtain ⟨A, c, rfl, -⟩ := hI.form
      rw [e, show bl.length = 64 by omega]
      refine (write_off h ho i A c (by omega) (by omega)).mono ?_
      rintro e W ⟨rfl, rfl⟩
      exact ⟨rfl, h, Kept.refl _ _⟩
    | false =>
      have e : writeD D i bl = ({ spendD D with dm := bPut D.dm i bl, wr := wrap64 (D.wr + 1) }, 0) := by unfold writeD; rw [if_neg hbad, ho]; rfl
      rw [e]
      exact write_good h ho i bl v lo hi hI hhi hd hmlo (by omega) (by omega) (by omega)
end
end Se
end Go.Proofs.Yteiniahikhiadaa

namespace Go.Proofs.Yteiniahikhiadaa
open Go.RowKit Go.Maps
namespace Se
open Ce

theorem zero64 (W : World) : (zeroValue 102).run Try.prog W = .ok (.agg (Array.replicate 64 (.int .u8 0))) W := by kernel_rfl
theorem there_new (w : World) (Z : Array Value) (t : TypeId) : (w.alloc (.cells Z t)).there w.heap.size 0 Z.size := fun j hj => by
  have := Ob.new w t Z
  refine ⟨?_, this.frozen _⟩
  rw [this.cell (j := 0 + j) (v := Z[j]) (by rw [Nat.zero_add, Array.getElem?_eq_getElem hj])]
  rfl
theorem store_blk (W : World) (g : Nat) (b : Blk) (hb : b.length = 64) (ht : W.there g 0 64) : (storeCells ⟨g, 0, none⟩ (bytesV b)).run Try.prog W = .ok () (W.setCells g 0 (bytesV b)) := by
  have := run_storeCells_cells (P := Try.prog) g 0 (bytesV b) 0 W (fun j hj => by simpa using (ht j (by rw [bytesV_length, hb] at hj; exact hj)).1) (fun j hj => by simpa using (ht j (by rw [bytesV_length, hb] at hj; exact hj)).2) (bytesV_one b)
  simpa using this
/-- a block of 64 zeros, as the walk makes it -/
def z64 : Array Value := #[.int .u8 0, .int .u8 0, .int .u8 0, .int .u8 0, .int .u8 0, .int .u8 0, .int .u8 0, .int .u8 0, .int .u8 0, .int .u8 0, .int .u8 0, .int .u8 0, .int .u8 0, .int .u8 0, .int .u8 0, .int .u8 0, .int .u8 0, .int .u8 0, .int .u8 0, .int .u8 0, .int .u8 0, .int .u8 0, .int .u8 0, .int .u8 0, .int .u8 0, .int .u8 0, .int .u8 0, .int .u8 0, .int .u8 0, .int .u8 0, .int .u8 0, .int .u8 0, .int .u8 0, .int .u8 0, .int .u8 0, .int .u8 0, .int .u8 0, .int .u8 0, .int .u8 0, .int .u8 0, .int .u8 0, .int .u8 0, .int .u8 0, .int .u8 0, .int .u8 0, .int .u8 0, .int .u8 0, .int .u8 0, .int .u8 0, .int .u8 0, .int .u8 0, .int .u8 0, .int .u8 0, .int .u8 0, .int .u8 0, .int .u8 0, .int .u8 0, .int .u8 0, .int .u8 0, .int .u8 0, .int .u8 0, .int .u8 0, .int .u8 0, .int .u8 0]
theorem new_blk (w : World) (b : Blk) (hb : b.length = 64) : ∃ W2, (storeCells ⟨w.heap.size, 0, none⟩ (bytesV b)).run Try.prog (w.alloc (.cells #[.int .u8 0, .int .u8 0, .int .u8 0, .int .u8 0, .int .u8 0, .int .u8 0, .int .u8 0, .int .u8 0, .int .u8 0, .int .u8 0, .int .u8 0, .int .u8 0, .int .u8 0, .int .u8 0, .int .u8 0, .int .u8 0, .int .u8 0, .int .u8 0, .int .u8 0, .int .u8 0, .int .u8 0, .int .u8 0, .int .u8 0, .int .u8 0, .int .u8 0, .int .u8 0, .int .u8 0, .int .u8 0, .int .u8 0, .int .u8 0, .int .u8 0, .int .u8 0, .int .u8 0, .int .u8 0, .int .u8 0, .int .u8 0, .int .u8 0, .int .u8 0, .int .u8 0, .int .u8 0, .int .u8 0, .int .u8 0, .int .u8 0, .int .u8 0, .int .u8 0, .int .u8 0, .int .u8 0, .int .u8 0, .int .u8 0, .int .u8 0, .int .u8 0, .int .u8 0, .int .u8 0, .int .u8 0, .int .u8 0, .int .u8 0, .int .u8 0, .int .u8 0, .int .u8 0, .int .u8 0, .int .u8 0, .int .u8 0, .int .u8 0, .int .u8 0] 102)) = .ok () W2 ∧ W2.rangeAt w.heap.size 0 (bytesV b) ∧ W2.there w.heap.size 0 64 ∧ Below w.heap.size w W2 ∧ W2.heap.size = w.heap.size + 1 := by
  have ht : (w.alloc (.cells z64 102)).there w.heap.size 0 64 := there_new w z64 _
  have hal := (Below.refl w.heap.size w).alloc (Nat.le_refl _) (.cells z64 102)
  refine ⟨_, store_blk _ _ b hb ht, World.rangeAt_setCells_same _ _ _ _ (by rw [bytesV_length, hb]; exact ht), World.there_setCells ht _ _ _, hal.grown (grownBy_cells _ _ _) hal.size (fun k e => by cases e; exact Nat.le_refl _), ?_⟩
  rw [size_cells]
  simp
section
variable {w w' : World} {base d sb mb : Nat} {D D' : Dv}
set_option maxRecDepth 100000 in
theorem read_arg (h : DvAt w base d sb mb D) (i : Int) (hbad : i < 0 ∨ (D.sure.length : Int) ≤ i) :
    Calls Try.prog 41 #[.pointer (some ⟨d, 0, none⟩), .int .i64 i] w fun e w' => e = .returned (.tuple #[.slice none 0 0, .int .i64 1]) ∧ w = w' := by
  obtain ⟨y0, y1, -⟩ := Ob.dev h.ob
  have cM := Lib.hid (made_calls d mb w y1)
  have cI := is_calls h i
  have e1 : decide (0 ≤ i ∧ i < (D.sure.length : Int)) = false := by simp; omega
  rw [e1] at cI
  have CI := Lib.hid cI
  clear h cI e1 hbad y0 y1
  go_enter Try.func41, Try.ntmps41
  go_wp2_with fail
  refine cM.out.mono ?_
  rintro e W ⟨rfl, rfl⟩
  go_wp2_with fail
  refine CI.out.mono ?_
  rintro e W ⟨rfl, rfl⟩
  go_wp2
  go_ret2
  exact ⟨rfl, rfl⟩
set_option maxRecDepth 100000 in
theorem read_off (h : DvAt w base d sb mb D) (ho : offD D = true) (i : Int) (hi0 : 0 ≤ i) (hi1 : i < D.sure.length) :
    Calls Try.prog 41 #[.pointer (some ⟨d, 0, none⟩), .int .i64 i] w fun e w' => e = .returned (.tuple #[.slice none 0 0, .int .i64 30]) ∧ w = w' := by
  obtain ⟨y0, y1, -⟩ := Ob.dev h.ob
  have cM := Lib.hid (made_calls d mb w y1)
  have cI := is_calls h i
  have e1 : decide (0 ≤ i ∧ i < (D.sure.length : Int)) = true := by simp; omega
  rw [e1] at cI
  have CI := Lib.hid cI
  have cO := off_calls h
  rw [ho] at cO
  have CO := Lib.hid cO
  clear h cI e1 y0 y1 hi0 hi1 cO ho
  go_enter Try.func41, Try.ntmps41
  go_wp2_with fail
  refine cM.out.mono ?_
  rintro e W ⟨rfl, rfl⟩
  go_wp2_with fail
  refine CI.out.mono ?_
  rintro e W ⟨rfl, rfl⟩
  go_wp2_with fail
  refine CO.out.mono ?_
  rintro e W ⟨rfl, rfl⟩
  go_wp2
  go_ret2
  exact ⟨rfl, rfl⟩
/-- a fresh sector's bytes -/
def BlkAt (w w' : World) (v : Value) (b : Blk) : Prop := ∃ g, v = .slice (some ⟨g, 0, none⟩) 64 64 ∧ w.heap.size ≤ g ∧ g < w'.heap.size ∧ w'.rangeAt g 0 (bytesV b) ∧ w'.there g 0 64
set_option maxRecDepth 100000 in
set_option maxHeartbeats 4000000 in
theorem read_good (h : DvAt w base d sb mb D) (ho : offD D = false) (i : Nat) (hi1 : i < D.sure.length) :
    Calls Try.prog 41 #[.pointer (some ⟨d, 0, none⟩), .int .i64 i] w fun e w' => (∃ v, e = .returned (.tuple #[v, .int .i64 0]) ∧ BlkAt w w' v (lastD D i)) ∧ Below w.heap.size w w' := by
  obtain ⟨y0, y1, -⟩ := Ob.dev h.ob
  have cM := Lib.hid (made_calls d mb w y1)
  have cI := is_calls h i
  have e1 : decide (0 ≤ (i : Int) ∧ (i : Int) < (D.sure.length : Int)) = true := by simp; omega
  rw [e1] at cI
  have CI := Lib.hid cI
  have cO := off_calls h
  rw [ho] at cO
  have CO := Lib.hid cO
  have hln := h.len.2
  have hkey := Lib.hid (keyI (k := (i : Int)) (by omega) (by omega))
  have hget := bm_get D.dm i
  have hr := h.sure.at_ i hi1
  have hl64 := lastD_len h.ok hi1
  have hs64 := h.ok.sure _ (List.getElem_mem hi1)
  have eg : D.sure.getD i [] = D.sure[i] := by rw [List.getD_eq_getElem?_getD, List.getElem?_eq_getElem hi1]; rfl
  have HM := Lib.hid h.map
  have hsl := h.sure.lt
  unfold lastD at hl64 ⊢
  rw [eg] at hl64 ⊢
  generalize D.sure[i] = bs at *
  have HR := Lib.hid hr
  clear cI e1 cO ho eg hr
  cases hg : bGet D.dm i with
  | some b =>
    rw [hg] at hget hl64
    simp only [Option.getD_some, Option.map_some] at hl64 hget ⊢
    have HG := Lib.hid (show (mGet (bm D.dm) i).getD (.agg (Array.replicate 64 (.int .u8 0))) = .agg (bytesV b).toArray by rw [hget]; rfl)
    have HIS := Lib.hid (show (mGet (bm D.dm) i).isSome = true by rw [hget]; rfl)
    have HL := Lib.hid hl64
    clear hget hg h hl64
    generalize bm D.dm = m at *
    generalize D.sure.length = n at *
    go_enter Try.func41, Try.ntmps41
    go_wp2_with fail
    refine cM.out.mono ?_
    rintro e W ⟨rfl, rfl⟩
    go_wp2_with fail
    refine CI.out.mono ?_
    rintro e W ⟨rfl, rfl⟩
    go_wp2_with fail
    refine CO.out.mono ?_
    rintro e W ⟨rfl, rfl⟩
    have hsz : (bytesV b).toArray.size = 64 := by simp [bytesV_length, HL.out]
    obtain ⟨W2, hst, hrg, hth, hbl, hw2⟩ := new_blk w b HL.out
    have HRG := Lib.hid hrg
    have HTH := Lib.hid hth
    have HBL := Lib.hid hbl
    have hw2' := Lib.hid hw2
    clear hrg hth hbl hw2
    have hone : ((bytesV b).toArray.all fun x => x.oneCell') = true := all_oneCell_toArray (bytesV_one b)
    go_wp2_with (at_lookup; refine wpList_look_ok_i rfl (.tmp 24) (.tmp 25) 79 rfl 3 102 keyedI Try.underlying79 rfl HM.out (zero64 _) _ _ rfl hkey.out _ _ HG.out HIS.out ?_)
    go_ret2
    exact ⟨⟨_, rfl, _, rfl, Nat.le_refl _, by rw [hw2'.out]; omega, HRG.out, HTH.out⟩, HBL.out⟩
  | none =>
    rw [hg] at hget hl64
    simp only [Option.getD_none, Option.map_none] at hl64 hget ⊢
    obtain ⟨b, hb⟩ : ∃ b : Blk, b = List.replicate 64 0 := ⟨_, rfl⟩
    have hb64 : b.length = 64 := by rw [hb]; rfl
    have HG := Lib.hid (show (mGet (bm D.dm) i).getD (.agg (Array.replicate 64 (.int .u8 0))) = .agg (bytesV b).toArray by rw [hget, hb]; kernel_rfl)
    have HIS := Lib.hid (show (mGet (bm D.dm) i).isSome = false by rw [hget]; rfl)
    have HL := Lib.hid hb64
    have HL2 := Lib.hid hs64
    have hdl := h.ob.lt
    clear hget hg h hl64 hb hb64
    generalize bm D.dm = m at *
    generalize D.sure.length = n at *
    have hsz : (bytesV b).toArray.size = 64 := by simp [bytesV_length, HL.out]
    obtain ⟨W2, hst, hrg, hth, hbl, hw2⟩ := new_blk w b HL.out
    have hsz2 : (bytesV bs).toArray.size = 64 := by simp [bytesV_length, HL2.out]
    have hr2 : W2.rangeAt sb (i * 64) (bytesV bs) := range_of_block (hbl.block sb hsl) HR.out
    have z0 := (hbl.cell (p := ⟨d, 0, none⟩) hdl).trans y0
    have hst2 := store_blk W2 w.heap.size bs HL2.out hth
    have HRG := Lib.hid (World.rangeAt_setCells_same W2 w.heap.size 0 (bytesV bs) (by rw [bytesV_length, HL2.out]; exact hth))
    have HTH := Lib.hid (World.there_setCells hth w.heap.size 0 (bytesV bs))
    have HBL := Lib.hid (hbl.grown (grownBy_cells (b := w.heap.size) (bytesV bs) W2 0) hbl.size (fun k e => by cases e; exact Nat.le_refl _))
    have HSZ := Lib.hid (show w.heap.size < (W2.setCells w.heap.size 0 (bytesV bs)).heap.size by rw [size_cells, hw2]; omega)
    have hw2' := Lib.hid hw2
    have HBC := Lib.hid hbl
    clear hrg hth hbl hw2
    go_enter Try.func41, Try.ntmps41
    go_wp2_with fail
    refine cM.out.mono ?_
    rintro e W ⟨rfl, rfl⟩
    go_wp2_with fail
    refine CI.out.mono ?_
    rintro e W ⟨rfl, rfl⟩
    go_wp2_with fail
    refine CO.out.mono ?_
    rintro e W ⟨rfl, rfl⟩
    go_wp2_with (first
      | (at_lookup; refine wpList_look_ok_i rfl (.tmp 24) (.tmp 25) 79 rfl 3 102 keyedI Try.underlying79 rfl HM.out (zero64 _) _ _ rfl hkey.out _ _ HG.out HIS.out ?_)
      | (refine wpList_load_mid rfl 102 (.tmp 36) rfl sb (i * 64) rfl (bytesV bs) _ hr2 Try.underlying102 rfl (by rw [bytesV_length, HL2.out]; kernel_rfl) ?_))
    go_ret2
    exact ⟨⟨_, rfl, _, rfl, Nat.le_refl _, HSZ.out, HRG.out, HTH.out⟩, HBL.out⟩
end
end Se
end Go.Proofs.Yteiniahikhiadaa

namespace Go.Proofs.Yteiniahikhiadaa
open Go.RowKit Go.Maps
namespace Se
open Ce

section
variable {w w' : World} {base d sb mb : Nat} {D D' : Dv}
theorem flush_off (h : DvAt w base d sb mb D) (ho : offD D = true) :
    Calls Try.prog 40 #[.pointer (some ⟨d, 0, none⟩)] w fun e w' => e = .returned (.int .i64 30) ∧ w = w' := by
  obtain ⟨y0, y1, -⟩ := Ob.dev h.ob
  have cM := Lib.hid (made_calls d mb w y1)
  have CS := Lib.hid (spend_off h ho)
  clear h ho y0 y1
  go_enter Try.func40, Try.ntmps40
  go_wp2_with fail
  refine cM.out.mono ?_
  rintro e W ⟨rfl, rfl⟩
  go_wp2_with fail
  refine CS.out.mono ?_
  rintro e W ⟨rfl, rfl⟩
  go_wp2
  go_ret
  exact ⟨rfl, rfl⟩
/-- so many sectors are sure by now -/
def Half (D : Dv) (S : List Int) (bs : List Blk) : Prop := bs.length = D.sure.length ∧ (∀ c ∈ bs, c.length = 64) ∧ ∀ i, i < D.sure.length → bs.getD i [] = if (i : Int) ∈ S then lastD D i else D.sure.getD i []
theorem Half.start (h : OkD D) : Half D [] D.sure := ⟨rfl, h.sure, fun i _ => by simp⟩
theorem Half.step {S : List Int} {bs : List Blk} (h : Half D S bs) (hok : OkD D) {k : Nat} {b : Blk} (hb : bGet D.dm k = some b) (hk : k < D.sure.length) : Half D (S ++ [(k : Int)]) (bs.set k b) := by
  obtain ⟨h1, h2, h3⟩ := h
  have hl := (hok.dm _ (bGet_mem hb)).2.2
  refine ⟨by rw [List.length_set]; exact h1, fun c hc => ?_, fun i hi => ?_⟩
  · rcases List.mem_or_eq_of_mem_set hc with hc | rfl
    · exact h2 c hc
    · exact hl
  · have h4 := h3 i hi
    rw [List.getD_eq_getElem?_getD] at h4 ⊢
    by_cases e : k = i
    · subst e
      rw [List.getElem?_set_self (by omega)]
      have : lastD D k = b := by unfold lastD; rw [hb]; rfl
      simp [this]
    · rw [List.getElem?_set_ne e, h4]
      have e2 : ¬ (i : Int) = (k : Int) := by omega
      simp [e2]
theorem Half.done {S : List Int} {bs : List Blk} (h : Half D S bs) (hS : ∀ k : Int, (bGet D.dm k).isSome = true → k ∈ S) : bs = (List.range D.sure.length).map (lastD D) := by
  obtain ⟨h1, h2, h3⟩ := h
  refine List.ext_getElem (by simp [h1]) fun i hi hi2 => ?_
  have hi3 : i < D.sure.length := by omega
  have h4 := h3 i hi3
  rw [List.getD_eq_getElem?_getD, List.getElem?_eq_getElem hi, Option.getD_some] at h4
  rw [h4, List.getElem_map, List.getElem_range]
  split
  · rfl
  · rename_i hn
    unfold lastD
    cases hg : bGet D.dm i with
    | none => rfl
    | some b => exact (hn (hS i (by rw [hg]; rfl))).elim
end
end Se
end Go.Proofs.Yteiniahikhiadaa
