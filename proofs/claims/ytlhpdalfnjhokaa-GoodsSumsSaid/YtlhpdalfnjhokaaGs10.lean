/-
  A region that draws its order, some of whose operations make or write memory in one of two orders: a plan that forks.
-/
import Derived.Test.YtlhpdalfnjhokaaGs3

set_option linter.unusedVariables false
set_option linter.unusedSimpArgs false
namespace Go.Proofs.Ytlhpdalfnjhokaa
open Go.RowKit
namespace Pt
open Pu
inductive Plan where
  | nil
  | look (i : Nat) (p : Plan)
  | make (i : Nat) (p : Plan)
  | fork (i : Nat) (p : Plan) (j : Nat) (q : Plan)
inductive PlanO where
  | nil
  | look (o : Oper) (p : PlanO)
  | make (o : Oper) (p : PlanO)
  | fork (o : Oper) (p : PlanO) (o' : Oper) (q : PlanO)
def rest : Plan → List Nat
  | .nil => []
  | .look i p => i :: rest p
  | .make i p => i :: rest p
  | .fork i p _ _ => i :: rest p
section
variable {P : Program} {ops : Array Oper} {Q : Exit → Act → World → Prop} {md : Region.Mode}
def named (ops : Array Oper) : Plan → PlanO
  | .nil => .nil
  | .look i p => match ops[i]? with | some o => .look o (named ops p) | none => .nil
  | .make i p => match ops[i]? with | some o => .make o (named ops p) | none => .nil
  | .fork i p j q => match ops[i]?, ops[j]? with | some o, some o' => .fork o (named ops p) o' (named ops q) | _, _ => .nil
/-- is this operation behind all others, by its own edges and those of the ones it is behind? -/
def reach2 (ops : Array Oper) (o : Oper) (j : Nat) : Bool := o.after.any fun e => Region.binds .any e && (e.on == j || match ops[e.on]? with | some q => q.after.any fun e' => Region.binds .any e' && e'.on == j | none => false)
def endsAll2 (ops : Array Oper) (o : Oper) : Bool := decide (((List.range ops.size).filter fun j => !reach2 ops o j).length ≤ 1)
theorem endsAll2_at {o : Oper} {i : Nat} {listed : Array Bool} (h : endsAll2 ops o = true) (hsz : listed.size = ops.size) (hi : i < ops.size) (hun : listed.getD i true = false)
    (hall : ∀ e ∈ o.after, Region.binds .any e = true → listed.getD e.on true = true) (hcl : ∀ k q, ops[k]? = some q → listed.getD k true = true → ∀ e ∈ q.after, Region.binds .any e = true → listed.getD e.on true = true) : ∀ j, listed.getD j true = false → j = i := by
  intro j hj
  have hjs : j < ops.size := by
    rcases Nat.lt_or_ge j ops.size with h | h
    · exact h
    · simp [show ¬ j < listed.size by omega] at hj
  have free : ∀ k, listed.getD k true = false → reach2 ops o k = false := fun k hk => by
    cases hx : reach2 ops o k with
    | false => rfl
    | true =>
      obtain ⟨e, he, hbe⟩ := Array.any_eq_true'.1 hx
      simp only [Bool.and_eq_true, Bool.or_eq_true, beq_iff_eq] at hbe
      have h1 := hall e he hbe.1
      rcases hbe.2 with h2 | h2
      · rw [h2, hk] at h1
        cases h1
      · cases hq : ops[e.on]? with
        | none => rw [hq] at h2; cases h2
        | some q =>
          rw [hq] at h2
          obtain ⟨e', he', hbe'⟩ := Array.any_eq_true'.1 h2
          simp only [Bool.and_eq_true, beq_iff_eq] at hbe'
          have h3 := hcl e.on q hq h1 e' he' hbe'.1
          rw [hbe'.2, hk] at h3
          cases h3
  unfold endsAll2 at h
  have hlen := of_decide_eq_true h
  have mi : i ∈ (List.range ops.size).filter fun j => !reach2 ops o j := List.mem_filter.2 ⟨List.mem_range.2 hi, by rw [free i hun]; rfl⟩
  have mj : j ∈ (List.range ops.size).filter fun j => !reach2 ops o j := List.mem_filter.2 ⟨List.mem_range.2 hjs, by rw [free j hj]; rfl⟩
  generalize ((List.range ops.size).filter fun j => !reach2 ops o j) = F at *
  match F, hlen with
  | [], _ => cases mi
  | [x], _ =>
    rw [List.mem_singleton] at mi mj
    rw [mi, mj]
  | _ :: _ :: _, h => simp at h
/-- what one making operation owes -/
def Owes (P : Program) (ops : Array Oper) (a : Act) (o : Oper) (B J : World → Prop) (S : Act → (World → Prop) → (World → Prop) → Prop) : Prop :=
  Region.wanted o (yielded ops a.tmps) = true ∧ ∀ w, J w → wpList P ops (fun e a' w' => e = .normal ∧ ∃ v B' J', a' = a.put o.dst v ∧ J' w' ∧ S (a.put o.dst v) B' J' ∧ (∀ w, J' w → B' w) ∧ (endsAll2 ops o = true ∨ ∀ w, B' w → B w)) [o] a w
def SeqT (P : Program) (ops : Array Oper) (Q : Exit → Act → World → Prop) : PlanO → Act → (World → Prop) → (World → Prop) → Prop
  | .nil, a, _, J => ∀ w, J w → Q .normal a w
  | .look o p, a, B, J =>
    if Region.wanted o (yielded ops a.tmps) = true then
      ∃ v, (∀ w, B w → wpList P ops (fun e a' w' => e = .normal ∧ a' = a.put o.dst v ∧ w' = w) [o] a w) ∧ SeqT P ops Q p (a.put o.dst v) B J
    else SeqT P ops Q p (a.put o.dst undef) B J
  | .make o p, a, B, J => Owes P ops a o B J (SeqT P ops Q p)
  | .fork o p o' q, a, B, J => Owes P ops a o B J (SeqT P ops Q p) ∧ Owes P ops a o' B J (SeqT P ops Q q)

def hd (ops : Array Oper) (i : Nat) (r : List Nat) : Bool :=
  (match ops[i]? with
    | none => false
    | some o =>
      (match o.op with | .select .. => false | .defer _ => false | _ => true) &&
      ((o.looksAt ops).all fun t => o.dst != some t && r.all fun p => match ops[p]? with | some q => q.dst != some t | none => false) &&
      (match o.dst with | none => true | some d => r.all fun p => match ops[p]? with | some q => q.dst != some d | none => false)) &&
  (r.all fun p => p != i)
def okT (md : Region.Mode) (ops : Array Oper) : Plan → Bool
  | .nil => true
  | .look i p => hd ops i (rest p) && okT md ops p
  | .make i p => hd ops i (rest p) && ((rest p).all fun k => bound md ops k (i :: rest p)) && okT md ops p
  | .fork i p j q => hd ops i (rest p) && hd ops j (rest q) && (rest p).contains j && (rest q).contains i && ((rest p).all fun k => k == j || (rest q).contains k) && ((rest q).all fun k => k == i || (rest p).contains k) &&
      ((rest p).all fun k => k == j || bound md ops k (i :: rest p)) && okT md ops p && okT md ops q
def whole (ops : Array Oper) (p : Plan) : Bool := (List.range ops.size).all fun i => (rest p).contains i

theorem hd_at {i : Nat} {r : List Nat} (h : hd ops i r = true) : ∃ o, ops[i]? = some o ∧ (match o.op with | .select .. => false | .defer _ => false | _ => true) = true ∧
    (∀ t ∈ o.looksAt ops, o.dst ≠ some t ∧ ∀ p ∈ r, ∀ q, ops[p]? = some q → q.dst ≠ some t) ∧ (∀ d, o.dst = some d → ∀ p ∈ r, ∀ q, ops[p]? = some q → q.dst ≠ some d) ∧ (∀ p ∈ r, p ≠ i) := by
  simp only [hd, Bool.and_eq_true] at h
  obtain ⟨h1, h2⟩ := h
  cases ho : ops[i]? with
  | none => rw [ho] at h1; cases h1
  | some o =>
    rw [ho] at h1
    simp only [Bool.and_eq_true] at h1
    obtain ⟨⟨g1, g2⟩, g3⟩ := h1
    refine ⟨o, rfl, g1, fun t ht => ?_, fun d hd p hp q hq => ?_, fun p hp => ?_⟩
    · have := List.all_eq_true.1 g2 t ht
      simp only [Bool.and_eq_true, bne_iff_ne, List.all_eq_true] at this
      refine ⟨this.1, fun p hp q hq => ?_⟩
      have h5 := this.2 p hp
      rw [hq] at h5
      simpa using h5
    · rw [hd] at g3
      have h5 := List.all_eq_true.1 g3 p hp
      rw [hq] at h5
      simpa using h5
    · have := List.all_eq_true.1 h2 p hp
      simpa using this

/-- what is known between two operations -/
structure St (P : Program) (ops : Array Oper) (Q : Exit → Act → World → Prop) (md : Region.Mode) (post : Plan) (pre : List Nat) (A : Act) (B J : World → Prop) : Prop where
  sub : ∀ w, J w → B w
  op : ∀ i ∈ pre, ∀ o, ops[i]? = some o → (match o.op with | .select .. => false | .defer _ => false | _ => true) = true
  fact : ∀ i ∈ pre, ∀ o, ops[i]? = some o → ∀ w, B w → wpList P ops (fun e a' w' => e = .normal ∧ a' = A ∧ w' = w) [o] A w
  looks : ∀ i ∈ pre, ∀ o, ops[i]? = some o → ∀ t ∈ o.looksAt ops, ∀ p ∈ rest post, ∀ q, ops[p]? = some q → q.dst ≠ some t
  dst : ∀ i ∈ pre, ∀ o, ops[i]? = some o → ∀ d, o.dst = some d → ∀ p ∈ rest post, ∀ q, ops[p]? = some q → q.dst ≠ some d
  ok : okT md ops post = true
  seq : SeqT P ops Q (named ops post) A B J

/-- one more operation is seen through -/
theorem St.step {i : Nat} {post p : Plan} {pre : List Nat} {A : Act} {B J B' J' : World → Prop} {o : Oper} {v : Value} (h : St P ops Q md post pre A B J) (ho : ops[i]? = some o) (hi : i ∈ rest post) (hsub : ∀ k ∈ rest p, k ∈ rest post) (hok : okT md ops p = true)
    (hB : ∀ w, B' w → B w) (hJ : ∀ w, J' w → B' w) (hs : SeqT P ops Q (named ops p) (A.put o.dst v) B' J') : St P ops Q md p pre (A.put o.dst v) B' J' := by
  refine ⟨hJ, h.op, fun k hk ok hok w hw => ?_, fun k hk ok hok t ht p hp => h.looks k hk ok hok t ht p (hsub p hp), fun k hk ok hok d hd p hp => h.dst k hk ok hok d hd p (hsub p hp), hok, hs⟩
  have hl : ∀ t ∈ ok.looksAt ops, o.dst ≠ some t := fun t ht => h.looks k hk ok hok t ht i hi o ho
  refine shift (h.op k hk ok hok) (put_eval A hl v) (put_wanted A hl v) rfl (fun u hu => ?_) (h.fact k hk ok hok w (hB w hw))
  rw [put_comm A (d := o.dst) (e := ok.dst) (fun t ht he => h.dst k hk ok hok t he i hi o ho ht) u v, hu]
theorem St.still {i : Nat} {p : Plan} {pre : List Nat} {A : Act} {B J : World → Prop} {o : Oper} {v : Value} (h : St P ops Q md (.look i p) pre A B J) (ho : ops[i]? = some o)
    (hv : ∀ w, B w → wpList P ops (fun e a' w' => e = .normal ∧ a' = A.put o.dst v ∧ w' = w) [o] A w)
    (hs : SeqT P ops Q (named ops p) (A.put o.dst v) B J) : St P ops Q md p (i :: pre) (A.put o.dst v) B J := by
  have hz := h.ok
  simp only [okT, Bool.and_eq_true] at hz
  have h1 := h.step ho (by simp [rest]) (p := p) (fun k hk => by simp [rest, hk]) hz.2 (fun _ h => h) h.sub hs
  obtain ⟨o', ho', g1, g2, g3, g4⟩ := hd_at hz.1
  clear hz
  rw [ho] at ho'
  cases ho'
  refine ⟨h.sub, fun k hk ok hok => ?_, fun k hk ok hok w hw => ?_, fun k hk ok hok t ht p hp q hq => ?_, fun k hk ok hok d hd p hp q hq => ?_, h1.ok, h1.seq⟩
  · rcases List.mem_cons.1 hk with rfl | hk
    · rw [ho] at hok; cases hok; exact g1
    · exact h1.op k hk ok hok
  · rcases List.mem_cons.1 hk with rfl | hk
    · rw [ho] at hok; cases hok
      have hl : ∀ t ∈ o.looksAt ops, o.dst ≠ some t := fun t ht => (g2 t ht).1
      refine shift g1 (put_eval A hl v) (put_wanted A hl v) (put_defers _ _ _) (fun u hu => ?_) (hv w hw)
      rw [put_put, hu]
    · exact h1.fact k hk ok hok w hw
  · rcases List.mem_cons.1 hk with rfl | hk
    · rw [ho] at hok; cases hok; exact (g2 t ht).2 p hp q hq
    · exact h1.looks k hk ok hok t ht p hp q hq
  · rcases List.mem_cons.1 hk with rfl | hk
    · rw [ho] at hok; cases hok; exact g3 d hd p hp q hq
    · exact h1.dst k hk ok hok d hd p hp q hq
def makes : Plan → Bool
  | .look .. => false
  | _ => true
theorem advance {a : Act} {listed : Array Bool} {B J : World → Prop} : ∀ (post : Plan) (pre : List Nat) (A : Act), St P ops Q md post pre A B J → Agree ops A listed a → (∀ p ∈ rest post, listed.getD p true = false) →
    ∃ post' pre' A', St P ops Q md post' pre' A' B J ∧ Agree ops A' listed a ∧ (∀ p ∈ rest post', listed.getD p true = false) ∧ (∀ j, (j ∈ pre ∨ j ∈ rest post) → j ∈ pre' ∨ j ∈ rest post') ∧ makes post' = true
  | .nil, pre, A, h, ha, hu => ⟨.nil, pre, A, h, ha, hu, fun _ h => h, rfl⟩
  | .make i p, pre, A, h, ha, hu => ⟨.make i p, pre, A, h, ha, hu, fun _ h => h, rfl⟩
  | .fork i p j q, pre, A, h, ha, hu => ⟨.fork i p j q, pre, A, h, ha, hu, fun _ h => h, rfl⟩
  | .look i r, pre, A, h, ha, hu => by
    have hok := h.ok
    simp only [okT, Bool.and_eq_true] at hok
    obtain ⟨o, ho, g1, g2, g3, g4⟩ := hd_at hok.1
    have hs := h.seq
    simp only [named, ho, SeqT] at hs
    have hi := hu i (by simp [rest])
    have key : ∀ v, (∀ w, B w → wpList P ops (fun e a' w' => e = .normal ∧ a' = A.put o.dst v ∧ w' = w) [o] A w) → SeqT P ops Q (named ops r) (A.put o.dst v) B J →
        ∃ post' pre' A', St P ops Q md post' pre' A' B J ∧ Agree ops A' listed a ∧ (∀ p ∈ rest post', listed.getD p true = false) ∧ (∀ j, (j ∈ pre ∨ j ∈ rest (.look i r)) → j ∈ pre' ∨ j ∈ rest post') ∧ makes post' = true := by
      intro v hv hs2
      obtain ⟨post', pre', A', k1, k2, k3, k4, k5⟩ := advance r (i :: pre) _ (h.still ho hv hs2) (ha.more ho hi) (fun p hp => hu p (by simp [rest, hp]))
      refine ⟨post', pre', A', k1, k2, k3, fun j hj => k4 j ?_, k5⟩
      rcases hj with hj | hj
      · exact .inl (List.mem_cons_of_mem _ hj)
      · rcases List.mem_cons.1 hj with rfl | hj
        · exact .inl (by simp)
        · exact .inr hj
    by_cases hw : Region.wanted o (yielded ops A.tmps) = true
    · rw [if_pos hw] at hs
      obtain ⟨v, hv, hs2⟩ := hs
      exact key v hv hs2
    · rw [if_neg hw] at hs
      have hoff : ∀ w, B w → wpList P ops (fun e a' w' => e = .normal ∧ a' = A.put o.dst undef ∧ w' = w) [o] A w := fun w _ => by
        unfold wpList
        rw [if_neg hw]
        exact ⟨rfl, rfl, rfl⟩
      exact key undef hoff hs
/-- behind a plan's looks: which operation may come, and the plan that then goes on -/
theorem next {post : Plan} {A : Act} {B J : World → Prop} {pre : List Nat} (h : St P ops Q md post pre A B J) (hm : makes post = true) {listed : Array Bool} (hu : ∀ p ∈ rest post, listed.getD p true = false) {i : Nat} {o : Oper} (ho : ops[i]? = some o) (hi : i ∈ rest post)
    (hall : ∀ e ∈ o.after, Region.binds md e = true → listed.getD e.on true = true) :
    ∃ p, Owes P ops A o B J (SeqT P ops Q (named ops p)) ∧ okT md ops p = true ∧ (∀ k ∈ rest p, k ∈ rest post ∧ k ≠ i) ∧ (∀ k ∈ rest post, k ≠ i → k ∈ rest p) := by
  have hno : ∀ l : List Nat, (∀ k ∈ l, k ∈ rest post) → bound md ops i l = false := fun l hl => by
    cases hb : bound md ops i l with
    | false => rfl
    | true =>
      unfold bound at hb
      rw [ho] at hb
      obtain ⟨e, he, hbe⟩ := Array.any_eq_true'.1 hb
      simp only [Bool.and_eq_true, List.contains_iff_mem] at hbe
      have h1 := hall e he hbe.1
      rw [hu e.on (hl e.on hbe.2)] at h1
      cases h1
  have hok := h.ok
  have hs := h.seq
  cases post with
  | nil => cases hi
  | look i p => cases hm
  | make c p =>
    simp only [okT, Bool.and_eq_true] at hok
    obtain ⟨⟨k1, k2⟩, k3⟩ := hok
    obtain ⟨oc, hoc, -, -, -, g4⟩ := hd_at k1
    have hci : i = c := by
      rcases List.mem_cons.1 hi with h | h
      · exact h
      · have := List.all_eq_true.1 k2 i h
        rw [hno (c :: rest p) (fun k hk => hk)] at this
        cases this
    subst hci
    rw [ho] at hoc
    cases hoc
    simp only [named, ho, SeqT] at hs
    exact ⟨p, hs, k3, fun k hk => ⟨List.mem_cons_of_mem _ hk, g4 k hk⟩, fun k hk hne => (List.mem_cons.1 hk).resolve_left hne⟩
  | fork c p d q =>
    simp only [okT, Bool.and_eq_true] at hok
    obtain ⟨⟨⟨⟨⟨⟨⟨⟨k1, k2⟩, k3⟩, k4⟩, k5⟩, k6⟩, k7⟩, k8⟩, k9⟩ := hok
    obtain ⟨oc, hoc, -, -, -, g4⟩ := hd_at k1
    obtain ⟨od, hod, -, -, -, g5⟩ := hd_at k2
    simp only [named, hoc, hod, SeqT] at hs
    rw [List.contains_iff_mem] at k3 k4
    have m1 : ∀ k ∈ rest p, k = d ∨ k ∈ rest q := fun k hk => by
      have := List.all_eq_true.1 k5 k hk
      simpa [List.contains_iff_mem] using this
    have m2 : ∀ k ∈ rest q, k = c ∨ k ∈ rest p := fun k hk => by
      have := List.all_eq_true.1 k6 k hk
      simpa [List.contains_iff_mem] using this
    have hcd : i = c ∨ i = d := by
      rcases List.mem_cons.1 hi with h | h
      · exact .inl h
      · have := List.all_eq_true.1 k7 i h
        rw [hno (c :: rest p) (fun k hk => hk)] at this
        simp only [Bool.or_false, beq_iff_eq] at this
        exact .inr this
    rcases hcd with rfl | rfl
    · rw [ho] at hoc
      cases hoc
      exact ⟨p, hs.1, k8, fun k hk => ⟨List.mem_cons_of_mem _ hk, g4 k hk⟩, fun k hk hne => (List.mem_cons.1 hk).resolve_left hne⟩
    · rw [ho] at hod
      cases hod
      refine ⟨q, hs.2, k9, fun k hk => ⟨?_, g5 k hk⟩, fun k hk hne => ?_⟩
      · rcases m2 k hk with rfl | h
        · simp [rest]
        · exact List.mem_cons_of_mem _ h
      · rcases List.mem_cons.1 hk with rfl | h
        · exact k4
        · exact (m1 k h).resolve_left hne
theorem run_made (hmd : md = .any) (hf : fine md ops = true) : ∀ (m : Nat) (left : List Nat) (listed : Array Bool) (a A : Act) (w : World) (B J : World → Prop) (post : Plan) (pre : List Nat), left.length = m → listed.size = ops.size → left.Nodup → (∀ j, j ∈ left ↔ listed.getD j true = false) →
    (∀ j, listed.getD j true = false → j ∈ pre ∨ j ∈ rest post) → (∀ p ∈ rest post, listed.getD p true = false) → (∀ k q, ops[k]? = some q → listed.getD k true = true → ∀ e ∈ q.after, Region.binds md e = true → listed.getD e.on true = true) → Agree ops A listed a → J w → St P ops Q md post pre A B J → wpAny P md ops Q m listed a w := by
  intro m
  induction m with
  | zero =>
    intro left listed a A w B J post pre hm hsz hnd hl hc hu hcl ha hJ hS
    have hn : left = [] := List.length_eq_zero_iff.1 hm
    subst hn
    obtain ⟨post', pre', A', k1, k2, k3, k4, k5⟩ := advance post pre A hS ha hu
    have hp : post' = .nil := by
      cases post' with
      | nil => rfl
      | look i p => cases k5
      | make i p => have := (hl i).2 (k3 i (by simp [rest])); cases this
      | fork i p j q => have := (hl i).2 (k3 i (by simp [rest])); cases this
    subst hp
    have ht : a = A' := by
      have ht : a.tmps = A'.tmps := by
        refine Array.ext k2.size fun t h1 h2 => ?_
        have := k2.at' t fun j o _ _ => by
          have := (hl j).2
          cases hx : listed.getD j true with
          | true => rfl
          | false => cases this hx
        simpa [h1, h2] using this
      have hd := k2.defers
      cases a; cases A'
      simp only at ht hd
      rw [ht, hd]
    subst ht
    refine ⟨?_, k1.seq w hJ⟩
    cases hr : Region.ready md ops listed with
    | nil => rfl
    | cons i rs =>
      have : i ∈ Region.ready md ops listed := by rw [hr]; simp
      have := (hl i).2 (mem_ready.1 this).1
      cases this
  | succ m ih =>
    intro left listed a A w B J post pre hm hsz hnd hl hc hu hcl ha hJ hS
    refine ⟨fun hr => ?_, fun i hi => ?_⟩
    · rw [ready_some hf left listed hsz hl hr] at hm; simp at hm
    obtain ⟨post', pre', A', k1, k2, k3, k4, k5⟩ := advance post pre A hS ha hu
    obtain ⟨hun, o, ho, hall⟩ := mem_ready.1 hi
    obtain ⟨f1, f2, f3, f4⟩ := fine_at hf ho
    have his : i < ops.size := (Array.getElem?_eq_some_iff.1 ho).1
    have hallD : ∀ e ∈ o.after, Region.binds md e = true → listed.getD e.on true = true := fun e he hb => by
      have h1 := hall e he hb
      rcases Nat.lt_or_ge e.on listed.size with hes | hes
      · simp [hes] at h1 ⊢
        exact h1
      · simp [show ¬ e.on < listed.size by omega]
    have hlook : ∀ t ∈ o.looksAt ops, ∀ j p, ops[j]? = some p → p.dst = some t → listed.getD j true = true := by
      intro t ht j p hj hp
      obtain ⟨e, he, hb, rfl⟩ := f4 t ht j p hj hp
      exact hallD e he hb
    have heval := k2.eval hlook
    have hwant := k2.wanted hlook
    have hmem : i ∈ left := (hl i).2 hun
    have hnext : ∀ (A1 : Act) (B1 J1 : World → Prop) (post1 : Plan) (pre1 : List Nat) (v : Value) (w' : World), A1.put o.dst v = A1 → Agree ops A1 listed a → J1 w' → St P ops Q md post1 pre1 A1 B1 J1 →
        (∀ j, listed.getD j true = false → j ≠ i → j ∈ pre1 ∨ j ∈ rest post1) → (∀ p ∈ rest post1, listed.getD p true = false ∧ p ≠ i) → wpAny P md ops Q m (listed.setIfInBounds i true) (a.put o.dst v) w' := by
      intro A1 B1 J1 post1 pre1 v w' hv hag hJ1 hS1 hc1 hu1
      refine ih (left.erase i) _ _ A1 w' B1 J1 post1 pre1 (by rw [List.length_erase_of_mem hmem, hm]; rfl) (by simpa using hsz) (hnd.erase i) (fun j => ?_) (fun j hj => ?_) (fun p hp => ?_) (fun k q hq hk e he hb => ?_) (hag.put ho hv) hJ1 hS1
      · rw [hnd.mem_erase_iff, hl j]
        by_cases e : i = j
        · subst e
          simp [show i < listed.size by omega]
        · rw [getD_set_ne true e]
          exact ⟨fun h => h.2, fun h => ⟨fun h' => e h'.symm, h⟩⟩
      · by_cases e : i = j
        · subst e
          simp [show i < listed.size by omega] at hj
        · rw [getD_set_ne true e] at hj
          exact hc1 j hj (fun h => e h.symm)
      · rw [getD_set_ne true (fun e => (hu1 p hp).2 e.symm)]
        exact (hu1 p hp).1
      · have hold : listed.getD e.on true = true := by
          by_cases ek : i = k
          · subst ek
            rw [ho] at hq
            cases hq
            exact hallD e he hb
          · rw [getD_set_ne true ek] at hk
            exact hcl k q hq hk e he hb
        by_cases ee : i = e.on
        · rw [← ee]
          simp [show i < listed.size by omega]
        · rw [getD_set_ne true ee]
          exact hold
    have hcase : i ∈ pre' ∨ i ∈ rest post' := k4 i (hc i hun)
    have hkeep : ∀ v w', A'.put o.dst v = A' → w' = w → i ∉ rest post' → wpAny P md ops Q m (listed.setIfInBounds i true) (a.put o.dst v) w' := fun v w' hv hw hn =>
      hnext A' B J post' pre' v w' hv k2 (hw ▸ hJ) k1 (fun j hj hne => k4 j (hc j hj)) (fun p hp => ⟨k3 p hp, fun e => hn (e ▸ hp)⟩)
    by_cases hpost : i ∈ rest post'
    · obtain ⟨p, ⟨hwc, howe⟩, hokp, hsub, hsup⟩ := next k1 k5 k3 ho hpost hallD
      have h := howe w hJ
      have hmake : ∀ u w', (∃ v B' J', A'.put o.dst u = A'.put o.dst v ∧ J' w' ∧ SeqT P ops Q (named ops p) (A'.put o.dst v) B' J' ∧ (∀ w, J' w → B' w) ∧ (endsAll2 ops o = true ∨ ∀ w, B' w → B w)) → wpAny P md ops Q m (listed.setIfInBounds i true) (a.put o.dst u) w' := by
        rintro u w' ⟨v, B', J', h1, h2, h3, h4, h5⟩
        rw [← h1] at h3
        rcases h5 with h5 | h5
        · have hend := endsAll2_at (listed := listed) h5 hsz his hun (fun e he hb => hallD e he (by rw [hmd]; exact hb)) (fun k q hq hk e he hb => hcl k q hq hk e he (by rw [hmd]; exact hb))
          exact hnext (A'.put o.dst u) B' J' p [] u w' (put_put _ _ _ _) (k2.more ho (k3 i hpost)) h2 ⟨h4, fun k hk => (by cases hk), fun k hk => (by cases hk), fun k hk => (by cases hk), fun k hk => (by cases hk), hokp, h3⟩ (fun j hj hne => (hne (hend j hj)).elim) (fun q hq => ⟨k3 q (hsub q hq).1, (hsub q hq).2⟩)
        refine hnext (A'.put o.dst u) B' J' p pre' u w' (put_put _ _ _ _) (k2.more ho (k3 i hpost)) h2 (k1.step ho hpost (fun k hk => (hsub k hk).1) hokp h5 h4 h3) (fun j hj hne => ?_) (fun q hq => ⟨k3 q (hsub q hq).1, (hsub q hq).2⟩)
        rcases k4 j (hc j hj) with h | h
        · exact .inl h
        · exact .inr (hsup j h hne)
      unfold wpOp
      simp only [ho]
      unfold wpList at h
      rw [hwant]
      simp only [hwc, if_true] at h ⊢
      rcases h with h | ⟨_, _, _, h, _⟩
      case inr => cases h
      refine .inl ?_
      unfold Oper.wp at h ⊢
      rw [execOp_congr o f1 heval]
      generalize (execOp A'.eval o).run P w = x at *
      cases x with
      | ok x w' =>
        cases x <;> simp only [Oper.upon] at h ⊢
        case value v => exact hmake v w' h.2
        case skip => exact hmake _ w' h.2
        case defer d =>
          obtain ⟨v, B', J', h1, _⟩ := h.2
          have := congrArg (fun b : Act => b.defers.length) h1
          simp only [put_defers] at this
          simp at this
        case enter f args =>
          refine Calls.mono h fun e w'' he => ?_
          cases e with
          | returned v => exact hmake v w'' he.2
          | panicked c => cases he.1
          | outgrown => obtain ⟨_, _, h, _⟩ := he; cases h
        case row row args => exact Rows.mono h fun v w'' he => hmake v w'' he.2
      | halt x w' =>
        cases x <;> simp only [Oper.upon] at h ⊢
        case panic u => cases h.1
    · have hpre : i ∈ pre' := hcase.resolve_right hpost
      have h := k1.fact i hpre o ho w (k1.sub w hJ)
      unfold wpOp
      simp only [ho]
      unfold wpList at h
      rw [hwant]
      split
      · rename_i hw
        simp only [hw, if_true] at h
        rcases h with h | ⟨_, _, _, h, _⟩
        case inr => cases h
        refine .inl ?_
        unfold Oper.wp at h ⊢
        rw [execOp_congr o f1 heval]
        generalize (execOp A'.eval o).run P w = r at *
        cases r with
        | ok x w' =>
          cases x <;> simp only [Oper.upon] at h ⊢
          case value v => exact hkeep v w' h.2.1 h.2.2 hpost
          case skip => exact hkeep _ w' h.2.1 h.2.2 hpost
          case defer d =>
            have := congrArg List.length (put_self h.2.1).1
            simp at this
          case enter f args =>
            refine Calls.mono h fun e w'' he => ?_
            cases e with
            | returned v => exact hkeep v w'' he.2.1 he.2.2 hpost
            | panicked c => cases he.1
            | outgrown => obtain ⟨_, _, h, _⟩ := he; cases h
          case row row args => exact Rows.mono h fun v w'' he => hkeep v w'' he.2.1 he.2.2 hpost
        | halt x w' =>
          cases x <;> simp only [Oper.upon] at h ⊢
          case panic u => cases h.1
      · rename_i hw
        simp only [hw] at h
        exact hkeep _ w h.2.1 rfl hpost

/-- the walk, behind a name that nothing unfolds -/
structure WalkT (P : Program) (ops : Array Oper) (Q : Exit → Act → World → Prop) (l : PlanO) (a : Act) (B J : World → Prop) : Prop where
  go : SeqT P ops Q l a B J
theorem WalkT.nil {a : Act} {B J : World → Prop} (h : ∀ w, J w → Q .normal a w) : WalkT P ops Q .nil a B J := ⟨h⟩
theorem WalkT.on {a : Act} {B J : World → Prop} {o : Oper} {r : PlanO} (hw : asks ops.toList o a.tmps.toList = true) {v : Value}
    (h1 : ∀ w, B w → wpList P ops (Lets (a.put o.dst v) w) [o] a w) (h : WalkT P ops Q r (a.put o.dst v) B J) : WalkT P ops Q (.look o r) a B J := by
  have hw' : Region.wanted o (yielded ops a.tmps) = true := (asks_eq _ _ _).trans hw
  refine ⟨?_⟩
  simp only [SeqT, hw', if_true]
  exact ⟨v, fun w hB => Lets.eq ▸ h1 w hB, h.go⟩
theorem WalkT.off {a : Act} {B J : World → Prop} {o : Oper} {r : PlanO} (hw : asks ops.toList o a.tmps.toList = false) (h : WalkT P ops Q r (a.put o.dst undef) B J) : WalkT P ops Q (.look o r) a B J := by
  have hw' : Region.wanted o (yielded ops a.tmps) = false := (asks_eq _ _ _).trans hw
  refine ⟨?_⟩
  simp only [SeqT, hw']
  exact h.go
structure MadeT (P : Program) (ops : Array Oper) (Q : Exit → Act → World → Prop) (r : PlanO) (a : Act) (o : Oper) (B : World → Prop) (e : Exit) (a' : Act) (w' : World) : Prop where
  e : e = .normal
  on : ∃ v B' J', a' = a.put o.dst v ∧ J' w' ∧ (∀ w, J' w → B' w) ∧ (endsAll2 ops o = true ∨ ∀ w, B' w → B w) ∧ WalkT P ops Q r (a.put o.dst v) B' J'
theorem owes {a : Act} {B J : World → Prop} {o : Oper} {r : PlanO} (hw : asks ops.toList o a.tmps.toList = true) (h1 : ∀ w, J w → wpList P ops (MadeT P ops Q r a o B) [o] a w) : Owes P ops a o B J (SeqT P ops Q r) := by
  have hw' : Region.wanted o (yielded ops a.tmps) = true := (asks_eq _ _ _).trans hw
  have he : MadeT P ops Q r a o B = fun e a' w' => e = .normal ∧ ∃ v B' J', a' = a.put o.dst v ∧ J' w' ∧ SeqT P ops Q r (a.put o.dst v) B' J' ∧ (∀ w, J' w → B' w) ∧ (endsAll2 ops o = true ∨ ∀ w, B' w → B w) := by
    funext e a' w'
    exact propext ⟨fun h => ⟨h.e, let ⟨v, B', J', h1, h2, h3, h4, h5⟩ := h.on; ⟨v, B', J', h1, h2, h5.go, h3, h4⟩⟩, fun h => ⟨h.1, let ⟨v, B', J', h1, h2, h3, h4, h5⟩ := h.2; ⟨v, B', J', h1, h2, h4, h5, ⟨h3⟩⟩⟩⟩
  exact ⟨hw', fun w hJ => he ▸ h1 w hJ⟩
theorem WalkT.make {a : Act} {B J : World → Prop} {o : Oper} {r : PlanO} (hw : asks ops.toList o a.tmps.toList = true) (h1 : ∀ w, J w → wpList P ops (MadeT P ops Q r a o B) [o] a w) : WalkT P ops Q (.make o r) a B J := ⟨owes hw h1⟩
theorem WalkT.fork {a : Act} {B J : World → Prop} {o o' : Oper} {r r' : PlanO} (hw : asks ops.toList o a.tmps.toList = true) (hw' : asks ops.toList o' a.tmps.toList = true) (h1 : ∀ w, J w → wpList P ops (MadeT P ops Q r a o B) [o] a w) (h2 : ∀ w, J w → wpList P ops (MadeT P ops Q r' a o' B) [o'] a w) :
    WalkT P ops Q (.fork o r o' r') a B J := ⟨owes hw h1, owes hw' h2⟩

theorem okT_lt : ∀ {p : Plan}, okT md ops p = true → ∀ k ∈ rest p, k < ops.size
  | .nil, _, k, hk => by cases hk
  | .look i p, h, k, hk => by
    simp only [okT, Bool.and_eq_true] at h
    rcases List.mem_cons.1 hk with rfl | hk
    · obtain ⟨o, ho, -⟩ := hd_at h.1
      exact (Array.getElem?_eq_some_iff.1 ho).1
    · exact okT_lt h.2 k hk
  | .make i p, h, k, hk => by
    simp only [okT, Bool.and_eq_true] at h
    rcases List.mem_cons.1 hk with rfl | hk
    · obtain ⟨o, ho, -⟩ := hd_at h.1.1
      exact (Array.getElem?_eq_some_iff.1 ho).1
    · exact okT_lt h.2 k hk
  | .fork i p j q, h, k, hk => by
    simp only [okT, Bool.and_eq_true] at h
    rcases List.mem_cons.1 hk with rfl | hk
    · obtain ⟨o, ho, -⟩ := hd_at h.1.1.1.1.1.1.1.1
      exact (Array.getElem?_eq_some_iff.1 ho).1
    · exact okT_lt h.1.2 k hk
theorem regionT {id : Nat} {a : Act} {w : World} (plan : Plan) (B : World → Prop) (hm : P.follows .mixedOrders = true) (hf : fine .any ops = true) (hok : okT .any ops plan = true) (hwh : whole ops plan = true) (hB : B w.drew)
    {l : PlanO} (hl : named ops plan = l) (hs : WalkT P ops Q l a B (fun W => W = w.drew)) : (Code.region id ops true).wp P Q a w := by
  subst hl
  refine wp_region_any hm ?_
  have h := run_made (md := .any) (P := P) (Q := Q) rfl hf ops.size (List.range ops.size) (Array.replicate ops.size false) a a w.drew B (fun W => W = w.drew) plan [] (by simp) (by simp) List.nodup_range (fun j => ?_) (fun j hj => ?_) (fun p hp => ?_) (fun k q hq hk => ?_) ⟨rfl, rfl, fun _ _ => rfl⟩ rfl
    ⟨fun W h => h ▸ hB, (fun i hi => nomatch hi), (fun i hi => nomatch hi), (fun i hi => nomatch hi), (fun i hi => nomatch hi), hok, hs.go⟩
  · exact h
  · rw [List.mem_range]
    by_cases h : j < ops.size
    · simp [h]
    · simp [h]
  · right
    have hjs : j < ops.size := by
      rcases Nat.lt_or_ge j ops.size with h | h
      · exact h
      · simp [h] at hj
    have := List.all_eq_true.1 hwh j (List.mem_range.2 hjs)
    simpa [List.contains_iff_mem] using this
  · simp [okT_lt hok p hp]
  · have := (Array.getElem?_eq_some_iff.1 hq).1
    simp [this] at hk
end
end Pt
end Go.Proofs.Ytlhpdalfnjhokaa
