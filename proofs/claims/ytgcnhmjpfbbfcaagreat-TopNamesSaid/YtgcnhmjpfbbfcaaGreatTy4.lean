/-
  part of the proof of TopNames.
-/
import Derived.Test.YtgcnhmjpfbbfcaaGreatTy3
import Derived.Test.YtgcnhmjpfbbfcaaGreatTy2
set_option linter.unusedVariables false
set_option linter.unusedSimpArgs false
set_option maxRecDepth 100000
set_option maxHeartbeats 8000000
namespace Go.Proofs.YtgcnhmjpfbbfcaaGreat
namespace Pq
section
open Go.RowKit
open Pu
inductive Plan where
 | nil
 | look (i : Nat) (p : Plan)
 | make (i : Nat) (p : Plan)
 | fork (i : Nat) (p : Plan) (j : Nat) (q : Plan)
inductive PlanO where
 | nil
 | look (o : Oper) (p : PlanO)
 | make (o : Oper) (i : Nat) (r : List Nat) (p : PlanO)
 | fork (o : Oper) (i : Nat) (r : List Nat) (p : PlanO) (o' : Oper) (i' : Nat) (r' : List Nat) (q : PlanO)
def rest : Plan → List Nat
 | .nil => []
 | .look i p => i :: rest p
 | .make i p => i :: rest p
 | .fork i p _ _ => i :: rest p
section
variable {P : Program} {ops : Array Oper} {Q : Exit → Act → World → Prop} {md : Region.Mode}
def named (ops : Array Oper) : Plan → PlanO
 | .nil => .nil
 | .look i p => match ops[i]? with | some o => .look o (named ops p) | none => .nil
 | .make i p => match ops[i]? with | some o => .make o i (rest p) (named ops p) | none => .nil
 | .fork i p j q => match ops[i]?, ops[j]? with | some o, some o' => .fork o i (rest p) (named ops p) o' j (rest q) (named ops q) | _, _ => .nil
def reach (ops : Array Oper) : Nat → Oper → Nat → Bool
 | 0, _, _ => false
 | n + 1, o, j => o.after.any fun e => Region.binds .any e && (e.on == j || match ops[e.on]? with | some q => reach ops n q j | none => false)
def still (ops : Array Oper) (j : Nat) : Bool := match ops[j]? with | some q => (match q.op with | .move _ => true | _ => false) | none => true
def endsTo (ops : Array Oper) (o : Oper) (i : Nat) (r : List Nat) : Bool := (List.range ops.size).all fun j => j == i || r.contains j || still ops j || reach ops 4 o j
theorem reach_listed {listed : Array Bool} (hcl : ∀ k q, ops[k]? = some q → listed.getD k true = true → ∀ e ∈ q.after, Region.binds .any e = true → listed.getD e.on true = true) : ∀ (n : Nat) (o : Oper) (j : Nat), (∀ e ∈ o.after, Region.binds .any e = true → listed.getD e.on true = true) → reach ops n o j = true → listed.getD j true = true
 | 0, _, _, _, h => by cases h
 | n + 1, o, j, hall, h => by
   unfold reach at h; obtain ⟨e, he, hbe⟩ := Array.any_eq_true'.1 h; simp only [Bool.and_eq_true, Bool.or_eq_true, beq_iff_eq] at hbe; have h1 := hall e he hbe.1; rcases hbe.2 with h2 | h2
   · exact h2 ▸ h1
   · cases hq : ops[e.on]? with
     | none => rw [hq] at h2; cases h2
     | some q =>
       rw [hq] at h2; exact reach_listed hcl n q j (hcl e.on q hq h1) h2
theorem endsTo_at {o : Oper} {i : Nat} {r : List Nat} {listed : Array Bool} (h : endsTo ops o i r = true) (hsz : listed.size = ops.size)
   (hall : ∀ e ∈ o.after, Region.binds .any e = true → listed.getD e.on true = true) (hcl : ∀ k q, ops[k]? = some q → listed.getD k true = true → ∀ e ∈ q.after, Region.binds .any e = true → listed.getD e.on true = true) : ∀ j, listed.getD j true = false → j ≠ i → j ∈ r ∨ still ops j = true := by
 intro j hj hne
 have hjs : j < ops.size := by
   rcases Nat.lt_or_ge j ops.size with h | h
   · exact h
   · simp [show ¬ j < listed.size by omega] at hj
 have hx := List.all_eq_true.1 h j (List.mem_range.2 hjs); simp only [Bool.or_eq_true, beq_iff_eq, List.contains_iff_mem] at hx; rcases hx with ((hx | hx) | hx) | hx
 · exact (hne hx).elim
 · exact .inl hx
 · exact .inr hx
 · rw [reach_listed hcl 4 o j hall hx] at hj
   cases hj
theorem still_any {A : Act} {o : Oper} {x : Operand} (ho : o.op = .move x) {w w2 : World} (h : wpList P ops (fun e a' w' => e = .normal ∧ a' = A ∧ w' = w) [o] A w) : wpList P ops (fun e a' w' => e = .normal ∧ a' = A ∧ w' = w2) [o] A w2 := by
 unfold wpList at h ⊢
 split
 · rename_i hw
   rw [if_pos hw] at h; rcases h with h | ⟨_, _, _, h, _⟩
   case inr => cases h
   refine .inl ?_; unfold Oper.wp at h ⊢; simp only [execOp, ho] at h ⊢; have e : ∀ W, Sem.run P (pure (Next.value (A.eval x))) W = .ok (.value (A.eval x)) W := fun _ => rfl
   rw [e] at h ⊢; simp only [Oper.upon, wpList] at h ⊢; simpa using h
 · rename_i hw
   rw [if_neg hw] at h; exact ⟨rfl, h.2.1, rfl⟩
def Owes (P : Program) (ops : Array Oper) (a : Act) (o : Oper) (i : Nat) (r : List Nat) (B J : World → Prop) (S : Act → (World → Prop) → (World → Prop) → Prop) : Prop :=
 Region.wanted o (yielded ops a.tmps) = true ∧ ∀ w, J w → wpList P ops (fun e a' w' => e = .normal ∧ ∃ v B' J', a' = a.put o.dst v ∧ J' w' ∧ S (a.put o.dst v) B' J' ∧ (∀ w, J' w → B' w) ∧ (endsTo ops o i r = true ∨ ∀ w, B' w → B w)) [o] a w
def SeqT (P : Program) (ops : Array Oper) (Q : Exit → Act → World → Prop) : PlanO → Act → (World → Prop) → (World → Prop) → Prop
 | .nil, a, _, J => ∀ w, J w → Q .normal a w
 | .look o p, a, B, J =>
   if Region.wanted o (yielded ops a.tmps) = true then
     ∃ v, (∀ w, B w → wpList P ops (fun e a' w' => e = .normal ∧ a' = a.put o.dst v ∧ w' = w) [o] a w) ∧ SeqT P ops Q p (a.put o.dst v) B J
   else SeqT P ops Q p (a.put o.dst undef) B J
 | .make o i r p, a, B, J => Owes P ops a o i r B J (SeqT P ops Q p)
 | .fork o i r p o' i' r' q, a, B, J => Owes P ops a o i r B J (SeqT P ops Q p) ∧ Owes P ops a o' i' r' B J (SeqT P ops Q q)
def hd (ops : Array Oper) (i : Nat) (r : List Nat) : Bool :=
 (match ops[i]? with
   | none => false
   | some o =>
     (match o.op with | .select .. => false | .defer _ => false | _ => true) &&
     ((o.looksAt ops).all fun t => o.dst != some t && r.all fun p => match ops[p]? with | some q => q.dst != some t | none => false) &&
     (match o.dst with | none => true | some d => r.all fun p => match ops[p]? with | some q => q.dst != some d | none => false)) &&
 (r.all fun p => p != i)
def okT (md : Region.Mode) (ops : Array Oper) : Plan → Bool
 | .nil => true
 | .look i p => hd ops i (rest p) && okT md ops p
 | .make i p => hd ops i (rest p) && ((rest p).all fun k => bound md ops k (i :: rest p)) && okT md ops p
 | .fork i p j q => hd ops i (rest p) && hd ops j (rest q) && (rest p).contains j && (rest q).contains i && ((rest p).all fun k => k == j || (rest q).contains k) && ((rest q).all fun k => k == i || (rest p).contains k) &&
     ((rest p).all fun k => k == j || bound md ops k (i :: rest p)) && okT md ops p && okT md ops q
def whole (ops : Array Oper) (p : Plan) : Bool := (List.range ops.size).all fun i => (rest p).contains i
theorem hd_at {i : Nat} {r : List Nat} (h : hd ops i r = true) : ∃ o, ops[i]? = some o ∧ (match o.op with | .select .. => false | .defer _ => false | _ => true) = true ∧
   (∀ t ∈ o.looksAt ops, o.dst ≠ some t ∧ ∀ p ∈ r, ∀ q, ops[p]? = some q → q.dst ≠ some t) ∧ (∀ d, o.dst = some d → ∀ p ∈ r, ∀ q, ops[p]? = some q → q.dst ≠ some d) ∧ (∀ p ∈ r, p ≠ i) := by
 simp only [hd, Bool.and_eq_true] at h; obtain ⟨h1, h2⟩ := h
 cases ho : ops[i]? with
 | none => rw [ho] at h1; cases h1
 | some o =>
   rw [ho] at h1; simp only [Bool.and_eq_true] at h1; obtain ⟨⟨g1, g2⟩, g3⟩ := h1; refine ⟨o, rfl, g1, fun t ht => ?_, fun d hd p hp q hq => ?_, fun p hp => ?_⟩
   · have := List.all_eq_true.1 g2 t ht
     simp only [Bool.and_eq_true, bne_iff_ne, List.all_eq_true] at this; refine ⟨this.1, fun p hp q hq => ?_⟩; have h5 := this.2 p hp; rw [hq] at h5; simpa using h5
   · rw [hd] at g3
     have h5 := List.all_eq_true.1 g3 p hp; rw [hq] at h5; simpa using h5
   · have := List.all_eq_true.1 h2 p hp
     simpa using this
structure St (P : Program) (ops : Array Oper) (Q : Exit → Act → World → Prop) (md : Region.Mode) (post : Plan) (pre : List Nat) (A : Act) (B J : World → Prop) : Prop where
 sub : ∀ w, J w → B w
 op : ∀ i ∈ pre, ∀ o, ops[i]? = some o → (match o.op with | .select .. => false | .defer _ => false | _ => true) = true
 fact : ∀ i ∈ pre, ∀ o, ops[i]? = some o → ∀ w, B w → wpList P ops (fun e a' w' => e = .normal ∧ a' = A ∧ w' = w) [o] A w
 looks : ∀ i ∈ pre, ∀ o, ops[i]? = some o → ∀ t ∈ o.looksAt ops, ∀ p ∈ rest post, ∀ q, ops[p]? = some q → q.dst ≠ some t
 dst : ∀ i ∈ pre, ∀ o, ops[i]? = some o → ∀ d, o.dst = some d → ∀ p ∈ rest post, ∀ q, ops[p]? = some q → q.dst ≠ some d
 ok : okT md ops post = true
 seq : SeqT P ops Q (named ops post) A B J
theorem St.step {i : Nat} {post p : Plan} {pre : List Nat} {A : Act} {B J B' J' : World → Prop} {o : Oper} {v : Value} (h : St P ops Q md post pre A B J) (ho : ops[i]? = some o) (hi : i ∈ rest post) (hsub : ∀ k ∈ rest p, k ∈ rest post) (hok : okT md ops p = true)
   (hB : ∀ w, B' w → B w) (hJ : ∀ w, J' w → B' w) (hs : SeqT P ops Q (named ops p) (A.put o.dst v) B' J') : St P ops Q md p pre (A.put o.dst v) B' J' := by
 refine ⟨hJ, h.op, fun k hk ok hok w hw => ?_, fun k hk ok hok t ht p hp => h.looks k hk ok hok t ht p (hsub p hp), fun k hk ok hok d hd p hp => h.dst k hk ok hok d hd p (hsub p hp), hok, hs⟩; have hl : ∀ t ∈ ok.looksAt ops, o.dst ≠ some t := fun t ht => h.looks k hk ok hok t ht i hi o ho
 refine shift (h.op k hk ok hok) (put_eval A hl v) (put_wanted A hl v) rfl (fun u hu => ?_) (h.fact k hk ok hok w (hB w hw)); rw [put_comm A (d := o.dst) (e := ok.dst) (fun t ht he => h.dst k hk ok hok t he i hi o ho ht) u v, hu]
theorem St.still {i : Nat} {p : Plan} {pre : List Nat} {A : Act} {B J : World → Prop} {o : Oper} {v : Value} (h : St P ops Q md (.look i p) pre A B J) (ho : ops[i]? = some o)
   (hv : ∀ w, B w → wpList P ops (fun e a' w' => e = .normal ∧ a' = A.put o.dst v ∧ w' = w) [o] A w)
   (hs : SeqT P ops Q (named ops p) (A.put o.dst v) B J) : St P ops Q md p (i :: pre) (A.put o.dst v) B J := by
 have hz := h.ok; simp only [okT, Bool.and_eq_true] at hz; have h1 := h.step ho (by simp [rest]) (p := p) (fun k hk => by simp [rest, hk]) hz.2 (fun _ h => h) h.sub hs; obtain ⟨o', ho', g1, g2, g3, g4⟩ := hd_at hz.1; clear hz; rw [ho] at ho'
 cases ho'
 refine ⟨h.sub, fun k hk ok hok => ?_, fun k hk ok hok w hw => ?_, fun k hk ok hok t ht p hp q hq => ?_, fun k hk ok hok d hd p hp q hq => ?_, h1.ok, h1.seq⟩
 · rcases List.mem_cons.1 hk with rfl | hk
   · rw [ho] at hok; cases hok; exact g1
   · exact h1.op k hk ok hok
 · rcases List.mem_cons.1 hk with rfl | hk
   · rw [ho] at hok; cases hok
     have hl : ∀ t ∈ o.looksAt ops, o.dst ≠ some t := fun t ht => (g2 t ht).1
     refine shift g1 (put_eval A hl v) (put_wanted A hl v) (put_defers _ _ _) (fun u hu => ?_) (hv w hw); rw [put_put, hu]
   · exact h1.fact k hk ok hok w hw
 · rcases List.mem_cons.1 hk with rfl | hk
   · rw [ho] at hok; cases hok; exact (g2 t ht).2 p hp q hq
   · exact h1.looks k hk ok hok t ht p hp q hq
 · rcases List.mem_cons.1 hk with rfl | hk
   · rw [ho] at hok; cases hok; exact g3 d hd p hp q hq
   · exact h1.dst k hk ok hok d hd p hp q hq
def makes : Plan → Bool
 | .look .. => false
 | _ => true
theorem advance {a : Act} {listed : Array Bool} {B J : World → Prop} : ∀ (post : Plan) (pre : List Nat) (A : Act), St P ops Q md post pre A B J → Agree ops A listed a → (∀ p ∈ rest post, listed.getD p true = false) →
   ∃ post' pre' A', St P ops Q md post' pre' A' B J ∧ Agree ops A' listed a ∧ (∀ p ∈ rest post', listed.getD p true = false) ∧ (∀ j, (j ∈ pre ∨ j ∈ rest post) → j ∈ pre' ∨ j ∈ rest post') ∧ makes post' = true
 | .nil, pre, A, h, ha, hu => ⟨.nil, pre, A, h, ha, hu, fun _ h => h, rfl⟩
 | .make i p, pre, A, h, ha, hu => ⟨.make i p, pre, A, h, ha, hu, fun _ h => h, rfl⟩
 | .fork i p j q, pre, A, h, ha, hu => ⟨.fork i p j q, pre, A, h, ha, hu, fun _ h => h, rfl⟩
 | .look i r, pre, A, h, ha, hu => by
   have hok := h.ok; simp only [okT, Bool.and_eq_true] at hok; obtain ⟨o, ho, g1, g2, g3, g4⟩ := hd_at hok.1; have hs := h.seq; simp only [named, ho, SeqT] at hs; have hi := hu i (by simp [rest])
   have key : ∀ v, (∀ w, B w → wpList P ops (fun e a' w' => e = .normal ∧ a' = A.put o.dst v ∧ w' = w) [o] A w) → SeqT P ops Q (named ops r) (A.put o.dst v) B J →
       ∃ post' pre' A', St P ops Q md post' pre' A' B J ∧ Agree ops A' listed a ∧ (∀ p ∈ rest post', listed.getD p true = false) ∧ (∀ j, (j ∈ pre ∨ j ∈ rest (.look i r)) → j ∈ pre' ∨ j ∈ rest post') ∧ makes post' = true := by
     intro v hv hs2; obtain ⟨post', pre', A', k1, k2, k3, k4, k5⟩ := advance r (i :: pre) _ (h.still ho hv hs2) (ha.more ho hi) (fun p hp => hu p (by simp [rest, hp])); refine ⟨post', pre', A', k1, k2, k3, fun j hj => k4 j ?_, k5⟩; rcases hj with hj | hj
     · exact .inl (List.mem_cons_of_mem _ hj)
     · rcases List.mem_cons.1 hj with rfl | hj
       · exact .inl (by simp)
       · exact .inr hj
   by_cases hw : Region.wanted o (yielded ops A.tmps) = true
   · rw [if_pos hw] at hs
     obtain ⟨v, hv, hs2⟩ := hs; exact key v hv hs2
   · rw [if_neg hw] at hs
     have hoff : ∀ w, B w → wpList P ops (fun e a' w' => e = .normal ∧ a' = A.put o.dst undef ∧ w' = w) [o] A w := fun w _ => by
       unfold wpList; rw [if_neg hw]; exact ⟨rfl, rfl, rfl⟩
     exact key undef hoff hs
theorem next {post : Plan} {A : Act} {B J : World → Prop} {pre : List Nat} (h : St P ops Q md post pre A B J) (hm : makes post = true) {listed : Array Bool} (hu : ∀ p ∈ rest post, listed.getD p true = false) {i : Nat} {o : Oper} (ho : ops[i]? = some o) (hi : i ∈ rest post)
   (hall : ∀ e ∈ o.after, Region.binds md e = true → listed.getD e.on true = true) :
   ∃ p, Owes P ops A o i (rest p) B J (SeqT P ops Q (named ops p)) ∧ okT md ops p = true ∧ (∀ k ∈ rest p, k ∈ rest post ∧ k ≠ i) ∧ (∀ k ∈ rest post, k ≠ i → k ∈ rest p) := by
 have hno : ∀ l : List Nat, (∀ k ∈ l, k ∈ rest post) → bound md ops i l = false := fun l hl => by
   cases hb : bound md ops i l with
   | false => rfl
   | true =>
     unfold bound at hb; rw [ho] at hb; obtain ⟨e, he, hbe⟩ := Array.any_eq_true'.1 hb; simp only [Bool.and_eq_true, List.contains_iff_mem] at hbe; have h1 := hall e he hbe.1; rw [hu e.on (hl e.on hbe.2)] at h1
     cases h1
 have hok := h.ok; have hs := h.seq
 cases post with
 | nil => cases hi
 | look i p => cases hm
 | make c p =>
   simp only [okT, Bool.and_eq_true] at hok; obtain ⟨⟨k1, k2⟩, k3⟩ := hok; obtain ⟨oc, hoc, -, -, -, g4⟩ := hd_at k1
   have hci : i = c := by
     rcases List.mem_cons.1 hi with h | h
     · exact h
     · have := List.all_eq_true.1 k2 i h
       rw [hno (c :: rest p) (fun k hk => hk)] at this
       cases this
   subst hci; rw [ho] at hoc
   cases hoc
   simp only [named, ho, SeqT] at hs; exact ⟨p, hs, k3, fun k hk => ⟨List.mem_cons_of_mem _ hk, g4 k hk⟩, fun k hk hne => (List.mem_cons.1 hk).resolve_left hne⟩
 | fork c p d q =>
   simp only [okT, Bool.and_eq_true] at hok; obtain ⟨⟨⟨⟨⟨⟨⟨⟨k1, k2⟩, k3⟩, k4⟩, k5⟩, k6⟩, k7⟩, k8⟩, k9⟩ := hok; obtain ⟨oc, hoc, -, -, -, g4⟩ := hd_at k1; obtain ⟨od, hod, -, -, -, g5⟩ := hd_at k2; simp only [named, hoc, hod, SeqT] at hs; rw [List.contains_iff_mem] at k3 k4
   have m1 : ∀ k ∈ rest p, k = d ∨ k ∈ rest q := fun k hk => by
     have := List.all_eq_true.1 k5 k hk; simpa [List.contains_iff_mem] using this
   have m2 : ∀ k ∈ rest q, k = c ∨ k ∈ rest p := fun k hk => by
     have := List.all_eq_true.1 k6 k hk; simpa [List.contains_iff_mem] using this
   have hcd : i = c ∨ i = d := by
     rcases List.mem_cons.1 hi with h | h
     · exact .inl h
     · have := List.all_eq_true.1 k7 i h
       rw [hno (c :: rest p) (fun k hk => hk)] at this; simp only [Bool.or_false, beq_iff_eq] at this; exact .inr this
   rcases hcd with rfl | rfl
   · rw [ho] at hoc
     cases hoc
     exact ⟨p, hs.1, k8, fun k hk => ⟨List.mem_cons_of_mem _ hk, g4 k hk⟩, fun k hk hne => (List.mem_cons.1 hk).resolve_left hne⟩
   · rw [ho] at hod
     cases hod
     refine ⟨q, hs.2, k9, fun k hk => ⟨?_, g5 k hk⟩, fun k hk hne => ?_⟩
     · rcases m2 k hk with rfl | h
       · simp [rest]
       · exact List.mem_cons_of_mem _ h
     · rcases List.mem_cons.1 hk with rfl | h
       · exact k4
       · exact (m1 k h).resolve_left hne
theorem run_made (hmd : md = .any) (hf : fine md ops = true) : ∀ (m : Nat) (left : List Nat) (listed : Array Bool) (a A : Act) (w : World) (B J : World → Prop) (post : Plan) (pre : List Nat), left.length = m → listed.size = ops.size → left.Nodup → (∀ j, j ∈ left ↔ listed.getD j true = false) →
   (∀ j, listed.getD j true = false → j ∈ pre ∨ j ∈ rest post) → (∀ p ∈ rest post, listed.getD p true = false) → (∀ k q, ops[k]? = some q → listed.getD k true = true → ∀ e ∈ q.after, Region.binds md e = true → listed.getD e.on true = true) → Agree ops A listed a → J w → St P ops Q md post pre A B J → wpAny P md ops Q m listed a w := by
 intro m
 induction m with
 | zero =>
   intro left listed a A w B J post pre hm hsz hnd hl hc hu hcl ha hJ hS; have hn : left = [] := List.length_eq_zero_iff.1 hm; subst hn; obtain ⟨post', pre', A', k1, k2, k3, k4, k5⟩ := advance post pre A hS ha hu
   have hp : post' = .nil := by
     cases post' with
     | nil => rfl
     | look i p => cases k5
     | make i p => have := (hl i).2 (k3 i (by simp [rest])); cases this
     | fork i p j q => have := (hl i).2 (k3 i (by simp [rest])); cases this
   subst hp
   have ht : a = A' := by
     have ht : a.tmps = A'.tmps := by
       refine Array.ext k2.size fun t h1 h2 => ?_
       have := k2.at' t fun j o _ _ => by
         have := (hl j).2
         cases hx : listed.getD j true with
         | true => rfl
         | false => cases this hx
       simpa [h1, h2] using this
     have hd := k2.defers
     cases a; cases A'
     simp only at ht hd; rw [ht, hd]
   subst ht; refine ⟨?_, k1.seq w hJ⟩
   cases hr : Region.ready md ops listed with
   | nil => rfl
   | cons i rs =>
     have : i ∈ Region.ready md ops listed := by rw [hr]; simp
     have := (hl i).2 (mem_ready.1 this).1
     cases this
 | succ m ih =>
   intro left listed a A w B J post pre hm hsz hnd hl hc hu hcl ha hJ hS; refine ⟨fun hr => ?_, fun i hi => ?_⟩
   · rw [ready_some hf left listed hsz hl hr] at hm; simp at hm
   obtain ⟨post', pre', A', k1, k2, k3, k4, k5⟩ := advance post pre A hS ha hu; obtain ⟨hun, o, ho, hall⟩ := mem_ready.1 hi; obtain ⟨f1, f2, f3, f4⟩ := fine_at hf ho; have his : i < ops.size := (Array.getElem?_eq_some_iff.1 ho).1
   have hallD : ∀ e ∈ o.after, Region.binds md e = true → listed.getD e.on true = true := fun e he hb => by
     have h1 := hall e he hb; rcases Nat.lt_or_ge e.on listed.size with hes | hes
     · simp [hes] at h1 ⊢
       exact h1
     · simp [show ¬ e.on < listed.size by omega]
   have hlook : ∀ t ∈ o.looksAt ops, ∀ j p, ops[j]? = some p → p.dst = some t → listed.getD j true = true := by
     intro t ht j p hj hp; obtain ⟨e, he, hb, rfl⟩ := f4 t ht j p hj hp; exact hallD e he hb
   have heval := k2.eval hlook; have hwant := k2.wanted hlook; have hmem : i ∈ left := (hl i).2 hun
   have hnext : ∀ (A1 : Act) (B1 J1 : World → Prop) (post1 : Plan) (pre1 : List Nat) (v : Value) (w' : World), A1.put o.dst v = A1 → Agree ops A1 listed a → J1 w' → St P ops Q md post1 pre1 A1 B1 J1 →
       (∀ j, listed.getD j true = false → j ≠ i → j ∈ pre1 ∨ j ∈ rest post1) → (∀ p ∈ rest post1, listed.getD p true = false ∧ p ≠ i) → wpAny P md ops Q m (listed.setIfInBounds i true) (a.put o.dst v) w' := by
     intro A1 B1 J1 post1 pre1 v w' hv hag hJ1 hS1 hc1 hu1; refine ih (left.erase i) _ _ A1 w' B1 J1 post1 pre1 (by rw [List.length_erase_of_mem hmem, hm]; rfl) (by simpa using hsz) (hnd.erase i) (fun j => ?_) (fun j hj => ?_) (fun p hp => ?_) (fun k q hq hk e he hb => ?_) (hag.put ho hv) hJ1 hS1
     · rw [hnd.mem_erase_iff, hl j]
       by_cases e : i = j
       · subst e
         simp [show i < listed.size by omega]
       · rw [getD_set_ne true e]
         exact ⟨fun h => h.2, fun h => ⟨fun h' => e h'.symm, h⟩⟩
     · by_cases e : i = j
       · subst e
         simp [show i < listed.size by omega] at hj
       · rw [getD_set_ne true e] at hj
         exact hc1 j hj (fun h => e h.symm)
     · rw [getD_set_ne true (fun e => (hu1 p hp).2 e.symm)]
       exact (hu1 p hp).1
     · have hold : listed.getD e.on true = true := by
         by_cases ek : i = k
         · subst ek
           rw [ho] at hq
           cases hq
           exact hallD e he hb
         · rw [getD_set_ne true ek] at hk
           exact hcl k q hq hk e he hb
       by_cases ee : i = e.on
       · rw [← ee]
         simp [show i < listed.size by omega]
       · rw [getD_set_ne true ee]
         exact hold
   have hcase : i ∈ pre' ∨ i ∈ rest post' := k4 i (hc i hun)
   have hkeep : ∀ v w', A'.put o.dst v = A' → w' = w → i ∉ rest post' → wpAny P md ops Q m (listed.setIfInBounds i true) (a.put o.dst v) w' := fun v w' hv hw hn =>
     hnext A' B J post' pre' v w' hv k2 (hw ▸ hJ) k1 (fun j hj hne => k4 j (hc j hj)) (fun p hp => ⟨k3 p hp, fun e => hn (e ▸ hp)⟩)
   by_cases hpost : i ∈ rest post'
   · obtain ⟨p, ⟨hwc, howe⟩, hokp, hsub, hsup⟩ := next k1 k5 k3 ho hpost hallD
     have h := howe w hJ
     have hmake : ∀ u w', (∃ v B' J', A'.put o.dst u = A'.put o.dst v ∧ J' w' ∧ SeqT P ops Q (named ops p) (A'.put o.dst v) B' J' ∧ (∀ w, J' w → B' w) ∧ (endsTo ops o i (rest p) = true ∨ ∀ w, B' w → B w)) → wpAny P md ops Q m (listed.setIfInBounds i true) (a.put o.dst u) w' := by
       rintro u w' ⟨v, B', J', h1, h2, h3, h4, h5⟩; rw [← h1] at h3; rcases h5 with h5 | h5
       · have hend := endsTo_at (listed := listed) h5 hsz (fun e he hb => hallD e he (by rw [hmd]; exact hb)) (fun k q hq hk e he hb => hcl k q hq hk e he (by rw [hmd]; exact hb))
         have hin : ∀ {k}, k ∈ pre'.filter (still ops ·) → k ∈ pre' ∧ still ops k = true := fun hk => by simpa using hk
         refine hnext (A'.put o.dst u) B' J' p (pre'.filter (still ops ·)) u w' (put_put _ _ _ _) (k2.more ho (k3 i hpost)) h2 ⟨h4, fun k hk => k1.op k (hin hk).1, fun k hk ok hok w0 hw0 => ?_, fun k hk ok hok t ht q hq => k1.looks k (hin hk).1 ok hok t ht q (hsub q hq).1, fun k hk ok hok d hd q hq => k1.dst k (hin hk).1 ok hok d hd q (hsub q hq).1, hokp, h3⟩ (fun j hj hne => ?_) (fun q hq => ⟨k3 q (hsub q hq).1, (hsub q hq).2⟩)
         · obtain ⟨hk1, hk2⟩ := hin hk
           have hl : ∀ t ∈ ok.looksAt ops, o.dst ≠ some t := fun t ht => k1.looks k hk1 ok hok t ht i hpost o ho
           unfold still at hk2; rw [hok] at hk2; dsimp only at hk2
           split at hk2
           · rename_i x hx
             refine still_any hx ?_ (w := w); refine shift (k1.op k hk1 ok hok) (put_eval A' hl u) (put_wanted A' hl u) rfl (fun u2 hu => ?_) (k1.fact k hk1 ok hok w (k1.sub w hJ)); rw [put_comm A' (d := o.dst) (e := ok.dst) (fun t ht he => k1.dst k hk1 ok hok t he i hpost o ho ht) u2 u, hu]
           · cases hk2
         · rcases hend j hj hne with h | h
           · exact .inr h
           · rcases k4 j (hc j hj) with h7 | h7
             · exact .inl (by simp [h7, h])
             · exact .inr (hsup j h7 hne)
       refine hnext (A'.put o.dst u) B' J' p pre' u w' (put_put _ _ _ _) (k2.more ho (k3 i hpost)) h2 (k1.step ho hpost (fun k hk => (hsub k hk).1) hokp h5 h4 h3) (fun j hj hne => ?_) (fun q hq => ⟨k3 q (hsub q hq).1, (hsub q hq).2⟩); rcases k4 j (hc j hj) with h | h
       · exact .inl h
       · exact .inr (hsup j h hne)
     unfold wpOp; simp only [ho]; unfold wpList at h; rw [hwant]; simp only [hwc, if_true] at h ⊢; rcases h with h | ⟨_, _, _, h, _⟩
     case inr => cases h
     refine .inl ?_; unfold Oper.wp at h ⊢; rw [execOp_congr o f1 heval]; generalize (execOp A'.eval o).run P w = x at *
     cases x with
     | ok x w' =>
       cases x <;> simp only [Oper.upon] at h ⊢
       case value v => exact hmake v w' h.2
       case skip => exact hmake _ w' h.2
       case defer d =>
         obtain ⟨v, B', J', h1, _⟩ := h.2; have := congrArg (fun b : Act => b.defers.length) h1; simp only [put_defers] at this; simp at this
       case enter f args =>
         refine Calls.mono h fun e w'' he => ?_
         cases e with
         | returned v => exact hmake v w'' he.2
         | panicked c => cases he.1
         | outgrown => obtain ⟨_, _, h, _⟩ := he; cases h
       case row row args => exact Rows.mono h fun v w'' he => hmake v w'' he.2
     | halt x w' =>
       cases x <;> simp only [Oper.upon] at h ⊢
       case panic u => cases h.1
   · have hpre : i ∈ pre' := hcase.resolve_right hpost
     have h := k1.fact i hpre o ho w (k1.sub w hJ); unfold wpOp; simp only [ho]; unfold wpList at h; rw [hwant]
     split
     · rename_i hw
       simp only [hw, if_true] at h; rcases h with h | ⟨_, _, _, h, _⟩
       case inr => cases h
       refine .inl ?_; unfold Oper.wp at h ⊢; rw [execOp_congr o f1 heval]; generalize (execOp A'.eval o).run P w = r at *
       cases r with
       | ok x w' =>
         cases x <;> simp only [Oper.upon] at h ⊢
         case value v => exact hkeep v w' h.2.1 h.2.2 hpost
         case skip => exact hkeep _ w' h.2.1 h.2.2 hpost
         case defer d =>
           have := congrArg List.length (put_self h.2.1).1; simp at this
         case enter f args =>
           refine Calls.mono h fun e w'' he => ?_
           cases e with
           | returned v => exact hkeep v w'' he.2.1 he.2.2 hpost
           | panicked c => cases he.1
           | outgrown => obtain ⟨_, _, h, _⟩ := he; cases h
         case row row args => exact Rows.mono h fun v w'' he => hkeep v w'' he.2.1 he.2.2 hpost
       | halt x w' =>
         cases x <;> simp only [Oper.upon] at h ⊢
         case panic u => cases h.1
     · rename_i hw
       simp only [hw] at h; exact hkeep _ w h.2.1 rfl hpost
structure WalkT (P : Program) (ops : Array Oper) (Q : Exit → Act → World → Prop) (l : PlanO) (a : Act) (B J : World → Prop) : Prop where
 go : SeqT P ops Q l a B J
theorem WalkT.nil {a : Act} {B J : World → Prop} (h : ∀ w, J w → Q .normal a w) : WalkT P ops Q .nil a B J := ⟨h⟩
theorem WalkT.on {a : Act} {B J : World → Prop} {o : Oper} {r : PlanO} (hw : asks ops.toList o a.tmps.toList = true) {v : Value}
   (h1 : ∀ w, B w → wpList P ops (Lets (a.put o.dst v) w) [o] a w) (h : WalkT P ops Q r (a.put o.dst v) B J) : WalkT P ops Q (.look o r) a B J := by
 have hw' : Region.wanted o (yielded ops a.tmps) = true := (asks_eq _ _ _).trans hw; refine ⟨?_⟩; simp only [SeqT, hw', if_true]; exact ⟨v, fun w hB => Lets.eq ▸ h1 w hB, h.go⟩
structure MadeT (P : Program) (ops : Array Oper) (Q : Exit → Act → World → Prop) (pl : PlanO) (a : Act) (o : Oper) (i : Nat) (r : List Nat) (B : World → Prop) (e : Exit) (a' : Act) (w' : World) : Prop where
 e : e = .normal
 on : ∃ v B' J', a' = a.put o.dst v ∧ J' w' ∧ (∀ w, J' w → B' w) ∧ (endsTo ops o i r = true ∨ ∀ w, B' w → B w) ∧ WalkT P ops Q pl (a.put o.dst v) B' J'
theorem mk3 {P : Program} {ops : Array Oper} {Q : Exit → Act → World → Prop} {pl : PlanO} {a a' : Act} {o : Oper} {i : Nat} {r : List Nat} {B : World → Prop} {w' : World} (v : Value) (hB : B w') (ha : a' = a.put o.dst v) (hw : WalkT P ops Q pl (a.put o.dst v) B (fun V => V = w')) : MadeT P ops Q pl a o i r B .normal a' w' := ⟨rfl, v, B, fun V => V = w', ha, rfl, fun V h => h ▸ hB, .inr fun _ h => h, hw⟩
theorem owes {a : Act} {B J : World → Prop} {o : Oper} {i : Nat} {r : List Nat} {pl : PlanO} (hw : asks ops.toList o a.tmps.toList = true) (h1 : ∀ w, J w → wpList P ops (MadeT P ops Q pl a o i r B) [o] a w) : Owes P ops a o i r B J (SeqT P ops Q pl) := by
 have hw' : Region.wanted o (yielded ops a.tmps) = true := (asks_eq _ _ _).trans hw
 have he : MadeT P ops Q pl a o i r B = fun e a' w' => e = .normal ∧ ∃ v B' J', a' = a.put o.dst v ∧ J' w' ∧ SeqT P ops Q pl (a.put o.dst v) B' J' ∧ (∀ w, J' w → B' w) ∧ (endsTo ops o i r = true ∨ ∀ w, B' w → B w) := by
   funext e a' w'
   exact propext ⟨fun h => ⟨h.e, let ⟨v, B', J', h1, h2, h3, h4, h5⟩ := h.on; ⟨v, B', J', h1, h2, h5.go, h3, h4⟩⟩, fun h => ⟨h.1, let ⟨v, B', J', h1, h2, h3, h4, h5⟩ := h.2; ⟨v, B', J', h1, h2, h4, h5, ⟨h3⟩⟩⟩⟩
 exact ⟨hw', fun w hJ => he ▸ h1 w hJ⟩
theorem WalkT.make {a : Act} {B J : World → Prop} {o : Oper} {i : Nat} {r : List Nat} {pl : PlanO} (hw : asks ops.toList o a.tmps.toList = true) (h1 : ∀ w, J w → wpList P ops (MadeT P ops Q pl a o i r B) [o] a w) : WalkT P ops Q (.make o i r pl) a B J := ⟨owes hw h1⟩
theorem WalkT.fork {a : Act} {B J : World → Prop} {o o' : Oper} {i i' : Nat} {r r' : List Nat} {pl pl' : PlanO} (hw : asks ops.toList o a.tmps.toList = true) (hw' : asks ops.toList o' a.tmps.toList = true) (h1 : ∀ w, J w → wpList P ops (MadeT P ops Q pl a o i r B) [o] a w) (h2 : ∀ w, J w → wpList P ops (MadeT P ops Q pl' a o' i' r' B) [o'] a w) :
   WalkT P ops Q (.fork o i r pl o' i' r' pl') a B J := ⟨owes hw h1, owes hw' h2⟩
theorem okT_lt : ∀ {p : Plan}, okT md ops p = true → ∀ k ∈ rest p, k < ops.size
 | .nil, _, k, hk => by cases hk
 | .look i p, h, k, hk => by
   simp only [okT, Bool.and_eq_true] at h; rcases List.mem_cons.1 hk with rfl | hk
   · obtain ⟨o, ho, -⟩ := hd_at h.1
     exact (Array.getElem?_eq_some_iff.1 ho).1
   · exact okT_lt h.2 k hk
 | .make i p, h, k, hk => by
   simp only [okT, Bool.and_eq_true] at h; rcases List.mem_cons.1 hk with rfl | hk
   · obtain ⟨o, ho, -⟩ := hd_at h.1.1
     exact (Array.getElem?_eq_some_iff.1 ho).1
   · exact okT_lt h.2 k hk
 | .fork i p j q, h, k, hk => by
   simp only [okT, Bool.and_eq_true] at h; rcases List.mem_cons.1 hk with rfl | hk
   · obtain ⟨o, ho, -⟩ := hd_at h.1.1.1.1.1.1.1.1
     exact (Array.getElem?_eq_some_iff.1 ho).1
   · exact okT_lt h.1.2 k hk
theorem regionT {id : Nat} {a : Act} {w : World} (plan : Plan) (B : World → Prop) (hm : P.follows .mixedOrders = true) (hf : fine .any ops = true) (hok : okT .any ops plan = true) (hwh : whole ops plan = true) (hB : B w.drew)
   {l : PlanO} (hl : named ops plan = l) (hs : WalkT P ops Q l a B (fun W => W = w.drew)) : (Code.region id ops true).wp P Q a w := by
 subst hl; refine wp_region_any hm ?_
 have h := run_made (md := .any) (P := P) (Q := Q) rfl hf ops.size (List.range ops.size) (Array.replicate ops.size false) a a w.drew B (fun W => W = w.drew) plan [] (by simp) (by simp) List.nodup_range (fun j => ?_) (fun j hj => ?_) (fun p hp => ?_) (fun k q hq hk => ?_) ⟨rfl, rfl, fun _ _ => rfl⟩ rfl
   ⟨fun W h => h ▸ hB, (fun i hi => nomatch hi), (fun i hi => nomatch hi), (fun i hi => nomatch hi), (fun i hi => nomatch hi), hok, hs.go⟩
 · exact h
 · rw [List.mem_range]
   by_cases h : j < ops.size
   · simp [h]
   · simp [h]
 · right
   have hjs : j < ops.size := by
     rcases Nat.lt_or_ge j ops.size with h | h
     · exact h
     · simp [h] at hj
   have := List.all_eq_true.1 hwh j (List.mem_range.2 hjs); simpa [List.contains_iff_mem] using this
 · simp [okT_lt hok p hp]
 · have := (Array.getElem?_eq_some_iff.1 hq).1
   simp [this] at hk
end
end
end Pq
namespace Se
section
open Go.RowKit Go.Maps
open Ce
theorem hmx : Tryz.prog.follows .mixedOrders = true := by kernel_rfl
section
variable {w w' : World} {base d sb mb : Nat} {D D' : Dv}
end
end
section
open Go.RowKit Go.Maps
open Ce
theorem rising_len (hi : Int) : ∀ (l : List Int) (lo : Int), l.Pairwise (· < ·) → (∀ x ∈ l, lo ≤ x ∧ x < hi) → lo ≤ hi → (l.length : Int) ≤ hi - lo
 | [], lo, _, _, h => by simp; omega
 | x :: r, lo, hp, hb, h => by
   rw [List.pairwise_cons] at hp; have hx := hb x (by simp); have := rising_len hi r (x + 1) hp.2 (fun y hy => ⟨by have := hp.1 y hy; omega, (hb y (List.mem_cons_of_mem _ hy)).2⟩) (by omega); simp only [List.length_cons, Int.natCast_add, Int.cast_ofNat_Int]; omega
section
variable {w w' : World} {base d sb mb : Nat} {D D' : Dv}
theorem DvAt.rising (h : DvAt w base d sb mb D) : ((bm D.dm).map (·.1)).Pairwise (· < ·) := by
 rw [List.pairwise_map]; exact (h.map.sorted keyedI).imp (fun {p q} h => by simpa [intK] using h)
theorem DvAt.short (h : DvAt w base d sb mb D) : (bm D.dm).length ≤ 16384 := by
 have h1 := rising_len D.sure.length ((bm D.dm).map (·.1)) 0 h.rising (fun x hx => by
   obtain ⟨p, hp, rfl⟩ := List.mem_map.1 hx; obtain ⟨q, hq, rfl⟩ := List.mem_map.1 hp; have := h.ok.dm q hq; exact ⟨this.1, this.2.1⟩) (by omega)
 rw [List.length_map] at h1; have := h.len.2; omega
theorem DvAt.mapped (h : DvAt w base d sb mb D) {m : List (Int × Blk)} (hg : w.grownBy w' (some mb)) (hm : GMap intK w' Tryz.prog 3 mb (bm m)) (hok : OkD { D with dm := m }) : DvAt w' base d sb mb { D with dm := m } :=
 ⟨h.ob.kept hg (fun e => h.ne.2.1 (Option.some.inj e)), h.sure.kept (hg.block sb h.sure.lt (fun e => h.ne.2.2 (Option.some.inj e))) hg.size, hm, hok, h.ne, h.lo, h.len⟩
theorem Dev.of_map (hg : w.grownBy w' (some mb)) : Dev d sb mb w w' := Kept.of_grown hg fun _ hi => ⟨hi.1, fun e => hi.2.2.2 (Option.some.inj e)⟩
theorem Dev.of_below (hb : Below w.heap.size w w') : Dev d sb mb w w' := Kept.of_below hb fun _ hi => hi.1
theorem Dev.trans {w'' : World} (h : Dev d sb mb w w') (k : Dev d sb mb w' w'') : Dev d sb mb w w'' := Kept.trans h (Kept.mono k fun _ hi => ⟨Nat.lt_of_lt_of_le hi.1 (Kept.size h), hi.2⟩)
theorem bytes_range {lo hi : Nat} {A : Option Addr} {n c : Nat} {bl : List UInt8} (h : BytesAt w lo hi (.slice A n c) bl) (hl : 0 < bl.length) : ∃ b o, A = some ⟨b, o, none⟩ ∧ lo ≤ b ∧ b < hi ∧ w.rangeAt b o (bytesV bl) := by
 obtain ⟨b, o, e, h1, h2, -⟩ := h.cellAt hl; subst e; refine ⟨b, o, rfl, h1, h2, fun j v hv => ?_⟩
 have hj : j < bl.length := by
   have := (List.getElem?_eq_some_iff.1 hv).1; simpa [bytesV] using this
 obtain ⟨b', o', e', -, -, hc⟩ := h.cellAt hj
 cases e'
 rw [hc, ← hv]; unfold bytesV; rw [List.getElem?_map, List.getElem?_eq_getElem hj]
 rfl
theorem write_good (h : DvAt w base d sb mb D) (ho : offD D = false) (i : Int) (bl : List UInt8) (v : Value) (lo hi : Nat) (hI : BytesAt w lo hi v bl) (hhi : hi ≤ w.heap.size) (hd : d < lo) (hmlo : mb < lo) (hi0 : 0 ≤ i) (hi1 : i < D.sure.length) (hbl : bl.length = 64) :
   Calls Tryz.prog 171 #[.pointer (some ⟨d, 0, none⟩), vI i, v] w fun e w' => e = .returned vO ∧ DvAt w' base d sb mb { spendD D with dm := bPut D.dm i bl, wr := wrap64 (D.wr + 1) } ∧ Dev d sb mb w w' := by
 obtain ⟨y0, y1, -⟩ := Ob.dev h.ob; have cM := hdd (made_calls d mb w y1); have cI := is_calls h i; have e1 : decide (0 ≤ i ∧ i < (D.sure.length : Int)) = true := by simp; omega
 rw [e1] at cI; have CI := hdd cI; have CS := hdd (spend_calls h ho); have hW := h.ok.write i bl
 have eW : (writeD D i bl).1 = { spendD D with dm := bPut D.dm i bl, wr := wrap64 (D.wr + 1) } := by
   unfold writeD; rw [if_neg (by omega), ho]
   rfl
 rw [eW] at hW; have hln := h.len.2; have hOK := hdd (show OkD { spendD D with dm := bPut D.dm i bl } from ⟨hW.sure, hW.dm, hW.left, by dsimp only; rw [spendD_wr]; exact h.ok.wr, hW.fl⟩); have HW := hdd hW; have HDM := hdd (spendD_dm D); have HWR := hdd (spendD_wr D); obtain ⟨A, c, rfl, hc1, hc2⟩ := hI.form; unfold maxLen at hc2; rw [hbl]; rw [hbl] at hI hc1; have hkey := hdd (keyI (k := i) (by omega) (by omega)); have HI := hdd hI; have HBL := hdd hbl; clear cI e1 h ho hI hbl eW hW; generalize D.sure.length = n at *
 go_enter Tryz.func171, Tryz.ntmps171
 go_wp2_with fail; refine cM.out.mono ?_; rintro e W ⟨rfl, rfl⟩; go_wp2_with fail; refine CI.out.mono ?_; rintro e W ⟨rfl, rfl⟩; go_wp2_with fail; refine CS.out.mono ?_; rintro e W ⟨rfl, hS, hg⟩; have hIW : BytesAt W lo hi (.slice A 64 c) bl := Sl.grown HI.out hg hhi (fun k e => .inl (by cases e; exact hd)); obtain ⟨bb, oo, rfl, hb1, hb2, hr⟩ := bytes_range hIW (by rw [HBL.out]; omega); obtain ⟨x0, x1, x2, x3, x4, -⟩ := Ob.dev hS.ob; have HS := hdd hS; have HG := hdd hg; have hrd : W.drew.rangeAt bb oo (bytesV bl) := (World.rangeAt_drew _ _ _ _).2 hr; have hx1 : W.drew.cell? ⟨d, 1, none⟩ = some (.map (some mb)) := x1; clear CI CS cM y0 y1 hIW hS hg hr
 have har : ∀ V : World, (Instr.arrayAt 183 (.slice (some ⟨bb, oo, none⟩) 64 c)).run Tryz.prog V = .ok (.pointer (some ⟨bb, oo, none⟩)) V := fun V => by
   simp [Instr.arrayAt, run_underlying Tryz.underlying183, go_sem]
 go_wp2_with fail; refine Pu.regionM [(0, false), (1, false), (2, false), (3, false), (4, false), (5, false), (6, false), (7, false), (8, true)] (fun V => V.cell? ⟨d, 1, none⟩ = some (.map (some mb)) ∧ V.rangeAt bb oo (bytesV bl)) hmx (by kernel_rfl) (by kernel_rfl) (by kernel_rfl) ⟨hx1, hrd⟩ rfl ?_; simp only [Pu.named, List.filterMap_cons, List.filterMap_nil, zzJ, zzK, zzL, zzM]
 iterate 6 (apply Pu.WalkM.on (by rfl)
            · rintro V ⟨g1, gr⟩
              go_wp2_with fail; refine ⟨rfl, ?_, rfl⟩
              try simp only [Act.put, zzA, zzB, zzC]
              rfl
            simp only [Act.put, zzA, zzB, zzC])
 apply Pu.WalkM.on (by rfl)
 · rintro V ⟨g1, gr⟩
   go_wp2_with fail; refine ⟨rfl, ?_, rfl⟩
   try simp only [Act.put, zzA, zzB, zzC]
   rfl
 simp only [Act.put, zzA, zzB, zzC]; apply Pu.WalkM.on (by rfl)
 · rintro V ⟨g1, gr⟩
   refine wpList_load_mid rfl 183 (.tmp 31) rfl bb oo rfl (bytesV bl) _ gr Tryz.underlying183 rfl (by rw [bytesV_length, HBL.out]; kernel_rfl) ?_; go_wp2_with fail; refine ⟨rfl, ?_, rfl⟩
   try simp only [Act.put, zzA, zzB, zzC]
   rfl
 simp only [Act.put, zzA, zzB, zzC]; refine Pu.WalkM.make (by rfl) ?_; rintro V rfl; have hm7 : GMap intK W.drew Tryz.prog 3 mb (bm (spendD D).dm) := HS.out.map; have hsh := HS.out.short; refine wpList_put_g rfl (.tmp 28) (.tmp 29) (.tmp 32) _ rfl 3 _ keyedI Tryz.underlying107 rfl hm7 (by unfold maxLen; omega) _ (blkV bl) _ rfl rfl hkey.out ?_; intro W3 hM3 hg3; rw [bm_put, HDM.out] at hM3; have hg7 : W.grownBy W3 (some mb) := ⟨hg3.os, hg3.tape, hg3.output, hg3.size, hg3.block⟩; have hne := HS.out.ne; have hbW : bb < W.heap.size := by have := HG.out.size; omega
 have gr3 : W3.rangeAt bb oo (bytesV bl) := range_of_block (hg3.block bb hbW (fun e => by have := Option.some.inj e; omega)) hrd; have g13 : W3.cell? ⟨d, 1, none⟩ = some (.map (some mb)) := hg3.cell hx1 (fun e => hne.2.1 (Option.some.inj e)); refine ⟨rfl, undef, _, (fun W => W = W3), rfl, rfl, (fun W h => by rw [h]; exact ⟨g13, gr3⟩), (.inr (fun _ h => h)), Pu.WalkM.nil ?_⟩; rintro W' rfl; simp only [Act.put]; have HD3 := hdd (HS.out.mapped hg7 hM3 hOK.out); obtain ⟨z0, z1, z2, z3, z4, -⟩ := Ob.dev HD3.out.ob; have hst := HD3.out.ob.set 4 (vI (wrap64 (D.wr + 1))); have hg8 := grownBy_set W' d 4 (vI (wrap64 (D.wr + 1))); have HFIN := hdd (HD3.out.own (D' := { spendD D with dm := bPut D.dm i bl, wr := wrap64 (D.wr + 1) }) hg8 hst rfl rfl HW.out); have HDV := hdd ((Dev.of_own (sb := sb) (mb := mb) HG.out).trans ((Dev.of_map hg7).trans (Dev.of_own hg8))); dsimp only at z4; rw [HWR.out] at z4; have cA := hdd (add_calls 4 D.wr W' z4 (HD3.out.ob.frozen 4)); clear x0 x1 x2 x3 x4 hM3 hg3 gr3 g13 hst hg8 hm7 hrd hx1; go_wp2_with fail; refine cA.out.mono ?_; rintro e W4 ⟨rfl, rfl⟩; go_wp2; go_ret; exact ⟨rfl, HFIN.out, HDV.out⟩
end
end
section
open Go.RowKit Go.Maps
open Ce
section
variable {w w' : World} {base d sb mb : Nat} {D D' : Dv}
theorem write_arg (h : DvAt w base d sb mb D) (i : Int) (bl : List UInt8) (A : Option Addr) (n c : Nat) (hn : n = bl.length) (hbad : i < 0 ∨ (D.sure.length : Int) ≤ i ∨ bl.length ≠ 64) :
   Calls Tryz.prog 171 #[.pointer (some ⟨d, 0, none⟩), vI i, .slice A n c] w fun e w' => e = .returned (vI 1) ∧ w = w' := by
 obtain ⟨y0, y1, -⟩ := Ob.dev h.ob; have cM := hdd (made_calls d mb w y1); have CI := hdd (is_calls h i); generalize hq : decide (0 ≤ i ∧ i < (D.sure.length : Int)) = q at *
 have hqq : q = false ∨ n ≠ 64 := by
   subst hn; rcases hbad with h1 | h1 | h1
   · left; rw [← hq]; simp; omega
   · left; rw [← hq]; simp; omega
   · exact .inr h1
 clear h hq hbad y0 y1 hn
 go_enter Tryz.func171, Tryz.ntmps171
 go_wp2_with fail; refine cM.out.mono ?_; rintro e W ⟨rfl, rfl⟩; go_wp2_with fail; refine CI.out.mono ?_; rintro e W ⟨rfl, rfl⟩
 cases q with
 | false =>
   go_wp2; go_ret; exact ⟨rfl, rfl⟩
 | true =>
   have hd : ((n : Int) != 64) = true := by
     rcases hqq with h | h
     · cases h
     · simp; omega
   clear hqq; go_wp2; go_ret; exact ⟨rfl, rfl⟩
theorem write_off (h : DvAt w base d sb mb D) (ho : offD D = true) (i : Int) (A : Option Addr) (c : Nat) (hi0 : 0 ≤ i) (hi1 : i < D.sure.length) :
   Calls Tryz.prog 171 #[.pointer (some ⟨d, 0, none⟩), vI i, .slice A 64 c] w fun e w' => e = .returned (vI 30) ∧ w = w' := by
 obtain ⟨y0, y1, -⟩ := Ob.dev h.ob; have cM := hdd (made_calls d mb w y1); have cI := is_calls h i; have e1 : decide (0 ≤ i ∧ i < (D.sure.length : Int)) = true := by simp; omega
 rw [e1] at cI; have CI := hdd cI; have CS := hdd (spend_off h ho); clear cI e1 h ho y0 y1 hi0 hi1
 go_enter Tryz.func171, Tryz.ntmps171
 go_wp2_with fail; refine cM.out.mono ?_; rintro e W ⟨rfl, rfl⟩; go_wp2_with fail; refine CI.out.mono ?_; rintro e W ⟨rfl, rfl⟩; go_wp2_with fail; refine CS.out.mono ?_; rintro e W ⟨rfl, rfl⟩; go_wp2; go_ret; exact ⟨rfl, rfl⟩
theorem write_calls (h : DvAt w base d sb mb D) (i : Int) (bl : List UInt8) (v : Value) (lo hi : Nat) (hI : BytesAt w lo hi v bl) (hhi : hi ≤ w.heap.size) (hd : d < lo) (hmlo : mb < lo) :
   Calls Tryz.prog 171 #[.pointer (some ⟨d, 0, none⟩), vI i, v] w fun e w' => e = .returned (vI (writeD D i bl).2) ∧ DvAt w' base d sb mb (writeD D i bl).1 ∧ Dev d sb mb w w' := by
 by_cases hbad : i < 0 ∨ (D.sure.length : Int) ≤ i ∨ bl.length ≠ 64
 · have e : writeD D i bl = (D, 1) := by unfold writeD; rw [if_pos hbad]
   obtain ⟨A, c, rfl, -⟩ := hI.form; rw [e]; refine (write_arg h i bl A _ c rfl hbad).mono ?_; rintro e W ⟨rfl, rfl⟩; exact ⟨rfl, h, Kept.refl _ _⟩
 · cases ho : offD D with
   | true =>
     have e : writeD D i bl = (D, 30) := by unfold writeD; rw [if_neg hbad, ho]; rfl
     obtain ⟨A, c, rfl, -⟩ := hI.form; rw [e, show bl.length = 64 by omega]; refine (write_off h ho i A c (by omega) (by omega)).mono ?_; rintro e W ⟨rfl, rfl⟩; exact ⟨rfl, h, Kept.refl _ _⟩
   | false =>
     have e : writeD D i bl = ({ spendD D with dm := bPut D.dm i bl, wr := wrap64 (D.wr + 1) }, 0) := by unfold writeD; rw [if_neg hbad, ho]; rfl
     rw [e]; exact write_good h ho i bl v lo hi hI hhi hd hmlo (by omega) (by omega) (by omega)
end
end
section
open Go.RowKit Go.Maps
open Ce
theorem zero64 (W : World) : (zeroValue 183).run Tryz.prog W = .ok (.agg (Array.replicate 64 (.int .u8 0))) W := by kernel_rfl
theorem there_new (w : World) (Z : Array Value) (t : TypeId) : (w.alloc (.cells Z t)).there w.heap.size 0 Z.size := fun j hj => by
 have := Ob.new w t Z; refine ⟨?_, this.frozen _⟩; rw [this.cell (j := 0 + j) (v := Z[j]) (by rw [Nat.zero_add, Array.getElem?_eq_getElem hj])]
 rfl
theorem store_blk (W : World) (g : Nat) (b : Blk) (hb : b.length = 64) (ht : W.there g 0 64) : (storeCells ⟨g, 0, none⟩ (bytesV b)).run Tryz.prog W = .ok () (W.setCells g 0 (bytesV b)) := by
 have := run_storeCells_cells (P := Tryz.prog) g 0 (bytesV b) 0 W (fun j hj => by simpa using (ht j (by rw [bytesV_length, hb] at hj; exact hj)).1) (fun j hj => by simpa using (ht j (by rw [bytesV_length, hb] at hj; exact hj)).2) (bytesV_one b); simpa using this
def z64 : Array Value := #[.int .u8 0, .int .u8 0, .int .u8 0, .int .u8 0, .int .u8 0, .int .u8 0, .int .u8 0, .int .u8 0, .int .u8 0, .int .u8 0, .int .u8 0, .int .u8 0, .int .u8 0, .int .u8 0, .int .u8 0, .int .u8 0, .int .u8 0, .int .u8 0, .int .u8 0, .int .u8 0, .int .u8 0, .int .u8 0, .int .u8 0, .int .u8 0, .int .u8 0, .int .u8 0, .int .u8 0, .int .u8 0, .int .u8 0, .int .u8 0, .int .u8 0, .int .u8 0, .int .u8 0, .int .u8 0, .int .u8 0, .int .u8 0, .int .u8 0, .int .u8 0, .int .u8 0, .int .u8 0, .int .u8 0, .int .u8 0, .int .u8 0, .int .u8 0, .int .u8 0, .int .u8 0, .int .u8 0, .int .u8 0, .int .u8 0, .int .u8 0, .int .u8 0, .int .u8 0, .int .u8 0, .int .u8 0, .int .u8 0, .int .u8 0, .int .u8 0, .int .u8 0, .int .u8 0, .int .u8 0, .int .u8 0, .int .u8 0, .int .u8 0, .int .u8 0]
theorem new_blk (w : World) (b : Blk) (hb : b.length = 64) : ∃ W2, (storeCells ⟨w.heap.size, 0, none⟩ (bytesV b)).run Tryz.prog (w.alloc (.cells #[.int .u8 0, .int .u8 0, .int .u8 0, .int .u8 0, .int .u8 0, .int .u8 0, .int .u8 0, .int .u8 0, .int .u8 0, .int .u8 0, .int .u8 0, .int .u8 0, .int .u8 0, .int .u8 0, .int .u8 0, .int .u8 0, .int .u8 0, .int .u8 0, .int .u8 0, .int .u8 0, .int .u8 0, .int .u8 0, .int .u8 0, .int .u8 0, .int .u8 0, .int .u8 0, .int .u8 0, .int .u8 0, .int .u8 0, .int .u8 0, .int .u8 0, .int .u8 0, .int .u8 0, .int .u8 0, .int .u8 0, .int .u8 0, .int .u8 0, .int .u8 0, .int .u8 0, .int .u8 0, .int .u8 0, .int .u8 0, .int .u8 0, .int .u8 0, .int .u8 0, .int .u8 0, .int .u8 0, .int .u8 0, .int .u8 0, .int .u8 0, .int .u8 0, .int .u8 0, .int .u8 0, .int .u8 0, .int .u8 0, .int .u8 0, .int .u8 0, .int .u8 0, .int .u8 0, .int .u8 0, .int .u8 0, .int .u8 0, .int .u8 0, .int .u8 0] 183)) = .ok () W2 ∧ W2.rangeAt w.heap.size 0 (bytesV b) ∧ W2.there w.heap.size 0 64 ∧ Below w.heap.size w W2 ∧ W2.heap.size = w.heap.size + 1 := by
 have ht : (w.alloc (.cells z64 183)).there w.heap.size 0 64 := there_new w z64 _; have hal := (Below.refl w.heap.size w).alloc (Nat.le_refl _) (.cells z64 183); refine ⟨_, store_blk _ _ b hb ht, World.rangeAt_setCells_same _ _ _ _ (by rw [bytesV_length, hb]; exact ht), World.there_setCells ht _ _ _, hal.grown (grownBy_cells _ _ _) hal.size (fun k e => by cases e; exact Nat.le_refl _), ?_⟩; rw [size_cells]; simp
section
variable {w w' : World} {base d sb mb : Nat} {D D' : Dv}
theorem read_off (h : DvAt w base d sb mb D) (ho : offD D = true) (i : Int) (hi0 : 0 ≤ i) (hi1 : i < D.sure.length) :
   Calls Tryz.prog 159 #[.pointer (some ⟨d, 0, none⟩), vI i] w fun e w' => e = .returned (.tuple #[vN, vI 30]) ∧ w = w' := by
 obtain ⟨y0, y1, -⟩ := Ob.dev h.ob; have cM := hdd (made_calls d mb w y1); have cI := is_calls h i; have e1 : decide (0 ≤ i ∧ i < (D.sure.length : Int)) = true := by simp; omega
 rw [e1] at cI; have CI := hdd cI; have cO := off_calls h; rw [ho] at cO; have CO := hdd cO; clear h cI e1 y0 y1 hi0 hi1 cO ho
 go_enter Tryz.func159, Tryz.ntmps159
 go_wp2_with fail; refine cM.out.mono ?_; rintro e W ⟨rfl, rfl⟩; go_wp2_with fail; refine CI.out.mono ?_; rintro e W ⟨rfl, rfl⟩; go_wp2_with fail; refine CO.out.mono ?_; rintro e W ⟨rfl, rfl⟩; go_wp2; go_ret2; exact ⟨rfl, rfl⟩
def BlkAt (w w' : World) (v : Value) (b : Blk) : Prop := ∃ g, v = .slice (some ⟨g, 0, none⟩) 64 64 ∧ w.heap.size ≤ g ∧ g < w'.heap.size ∧ w'.rangeAt g 0 (bytesV b) ∧ w'.there g 0 64
theorem read_good (h : DvAt w base d sb mb D) (ho : offD D = false) (i : Nat) (hi1 : i < D.sure.length) :
   Calls Tryz.prog 159 #[.pointer (some ⟨d, 0, none⟩), vI i] w fun e w' => (∃ v, e = .returned (.tuple #[v, vO]) ∧ BlkAt w w' v (lastD D i)) ∧ Below w.heap.size w w' := by
 obtain ⟨y0, y1, -⟩ := Ob.dev h.ob; have cM := hdd (made_calls d mb w y1); have cI := is_calls h i; have e1 : decide (0 ≤ (i : Int) ∧ (i : Int) < (D.sure.length : Int)) = true := by simp; omega
 rw [e1] at cI; have CI := hdd cI; have cO := off_calls h; rw [ho] at cO; have CO := hdd cO; have hln := h.len.2; have hkey := hdd (keyI (k := (i : Int)) (by omega) (by omega)); have hget := bm_get D.dm i; have hr := h.sure.at_ i hi1; have hl64 := lastD_len h.ok hi1; have hs64 := h.ok.sure _ (List.getElem_mem hi1); have eg : D.sure.getD i [] = D.sure[i] := by rw [List.getD_eq_getElem?_getD, List.getElem?_eq_getElem hi1]; rfl
 have HM := hdd h.map; have hsl := h.sure.lt; unfold lastD at hl64 ⊢; rw [eg] at hl64 ⊢; generalize D.sure[i] = bs at *; have HR := hdd hr; clear cI e1 cO ho eg hr
 cases hg : bGet D.dm i with
 | some b =>
   rw [hg] at hget hl64; simp only [Option.getD_some, Option.map_some] at hl64 hget ⊢; have HG := hdd (show (mGet (bm D.dm) i).getD (.agg (Array.replicate 64 (.int .u8 0))) = .agg (bytesV b).toArray by rw [hget]; rfl); have HIS := hdd (show (mGet (bm D.dm) i).isSome = true by rw [hget]; rfl); have HL := hdd hl64; clear hget hg h hl64; generalize bm D.dm = m at *; generalize D.sure.length = n at *
   go_enter Tryz.func159, Tryz.ntmps159
   go_wp2_with fail; refine cM.out.mono ?_; rintro e W ⟨rfl, rfl⟩; go_wp2_with fail; refine CI.out.mono ?_; rintro e W ⟨rfl, rfl⟩; go_wp2_with fail; refine CO.out.mono ?_; rintro e W ⟨rfl, rfl⟩; have hsz : (bytesV b).toArray.size = 64 := by simp [bytesV_length, HL.out]
   obtain ⟨W2, hst, hrg, hth, hbl, hw2⟩ := new_blk w b HL.out; have HRG := hdd hrg; have HTH := hdd hth; have HBL := hdd hbl; have hw2' := hdd hw2; clear hrg hth hbl hw2; have hone : ((bytesV b).toArray.all fun x => x.oneCell') = true := all_oneCell_toArray (bytesV_one b); go_wp2_with (at_lookup; refine wpList_look_ok_i rfl (.tmp 24) (.tmp 25) 107 rfl 3 183 keyedI Tryz.underlying107 rfl HM.out (zero64 _) _ _ rfl hkey.out _ _ HG.out HIS.out ?_); go_ret2; exact ⟨⟨_, rfl, _, rfl, Nat.le_refl _, by rw [hw2'.out]; omega, HRG.out, HTH.out⟩, HBL.out⟩
 | none =>
   rw [hg] at hget hl64; simp only [Option.getD_none, Option.map_none] at hl64 hget ⊢; obtain ⟨b, hb⟩ : ∃ b : Blk, b = List.replicate 64 0 := ⟨_, rfl⟩; have hb64 : b.length = 64 := by rw [hb]; rfl
   have HG := hdd (show (mGet (bm D.dm) i).getD (.agg (Array.replicate 64 (.int .u8 0))) = .agg (bytesV b).toArray by rw [hget, hb]; kernel_rfl); have HIS := hdd (show (mGet (bm D.dm) i).isSome = false by rw [hget]; rfl); have HL := hdd hb64; have HL2 := hdd hs64; have hdl := h.ob.lt; clear hget hg h hl64 hb hb64; generalize bm D.dm = m at *; generalize D.sure.length = n at *; have hsz : (bytesV b).toArray.size = 64 := by simp [bytesV_length, HL.out]
   obtain ⟨W2, hst, hrg, hth, hbl, hw2⟩ := new_blk w b HL.out; have hsz2 : (bytesV bs).toArray.size = 64 := by simp [bytesV_length, HL2.out]
   have hr2 : W2.rangeAt sb (i * 64) (bytesV bs) := range_of_block (hbl.block sb hsl) HR.out; have z0 := (hbl.cell (p := ⟨d, 0, none⟩) hdl).trans y0; have hst2 := store_blk W2 w.heap.size bs HL2.out hth; have HRG := hdd (World.rangeAt_setCells_same W2 w.heap.size 0 (bytesV bs) (by rw [bytesV_length, HL2.out]; exact hth)); have HTH := hdd (World.there_setCells hth w.heap.size 0 (bytesV bs)); have HBL := hdd (hbl.grown (grownBy_cells (b := w.heap.size) (bytesV bs) W2 0) hbl.size (fun k e => by cases e; exact Nat.le_refl _)); have HSZ := hdd (show w.heap.size < (W2.setCells w.heap.size 0 (bytesV bs)).heap.size by rw [size_cells, hw2]; omega); have hw2' := hdd hw2; have HBC := hdd hbl; clear hrg hth hbl hw2
   go_enter Tryz.func159, Tryz.ntmps159
   go_wp2_with fail; refine cM.out.mono ?_; rintro e W ⟨rfl, rfl⟩; go_wp2_with fail; refine CI.out.mono ?_; rintro e W ⟨rfl, rfl⟩; go_wp2_with fail; refine CO.out.mono ?_; rintro e W ⟨rfl, rfl⟩
   go_wp2_with (first
     | (at_lookup; refine wpList_look_ok_i rfl (.tmp 24) (.tmp 25) 107 rfl 3 183 keyedI Tryz.underlying107 rfl HM.out (zero64 _) _ _ rfl hkey.out _ _ HG.out HIS.out ?_)
     | (refine wpList_load_mid rfl 183 (.tmp 36) rfl sb (i * 64) rfl (bytesV bs) _ hr2 Tryz.underlying183 rfl (by rw [bytesV_length, HL2.out]; kernel_rfl) ?_))
   go_ret2; exact ⟨⟨_, rfl, _, rfl, Nat.le_refl _, HSZ.out, HRG.out, HTH.out⟩, HBL.out⟩
end
end
section
open Go.RowKit Go.Maps
open Ce
section
variable {w w' : World} {base d sb mb : Nat} {D D' : Dv}
theorem flush_off (h : DvAt w base d sb mb D) (ho : offD D = true) :
   Calls Tryz.prog 169 #[.pointer (some ⟨d, 0, none⟩)] w fun e w' => e = .returned (vI 30) ∧ w = w' := by
 obtain ⟨y0, y1, -⟩ := Ob.dev h.ob; have cM := hdd (made_calls d mb w y1); have CS := hdd (spend_off h ho); clear h ho y0 y1
 go_enter Tryz.func169, Tryz.ntmps169
 go_wp2_with fail; refine cM.out.mono ?_; rintro e W ⟨rfl, rfl⟩; go_wp2_with fail; refine CS.out.mono ?_; rintro e W ⟨rfl, rfl⟩; go_wp2; go_ret; exact ⟨rfl, rfl⟩
def Half (D : Dv) (S : List Int) (bs : List Blk) : Prop := bs.length = D.sure.length ∧ (∀ c ∈ bs, c.length = 64) ∧ ∀ i, i < D.sure.length → bs.getD i [] = if (i : Int) ∈ S then lastD D i else D.sure.getD i []
theorem Half.start (h : OkD D) : Half D [] D.sure := ⟨rfl, h.sure, fun i _ => by simp⟩
theorem Half.step {S : List Int} {bs : List Blk} (h : Half D S bs) (hok : OkD D) {k : Nat} {b : Blk} (hb : bGet D.dm k = some b) (hk : k < D.sure.length) : Half D (S ++ [(k : Int)]) (bs.set k b) := by
 obtain ⟨h1, h2, h3⟩ := h; have hl := (hok.dm _ (bGet_mem hb)).2.2; refine ⟨by rw [List.length_set]; exact h1, fun c hc => ?_, fun i hi => ?_⟩
 · rcases List.mem_or_eq_of_mem_set hc with hc | rfl
   · exact h2 c hc
   · exact hl
 · have h4 := h3 i hi
   rw [List.getD_eq_getElem?_getD] at h4 ⊢
   by_cases e : k = i
   · subst e
     rw [List.getElem?_set_self (by omega)]; have : lastD D k = b := by unfold lastD; rw [hb]; rfl
     simp [this]
   · rw [List.getElem?_set_ne e, h4]
     have e2 : ¬ (i : Int) = (k : Int) := by omega
     simp [e2]
theorem Half.done {S : List Int} {bs : List Blk} (h : Half D S bs) (hS : ∀ k : Int, (bGet D.dm k).isSome = true → k ∈ S) : bs = (List.range D.sure.length).map (lastD D) := by
 obtain ⟨h1, h2, h3⟩ := h; refine List.ext_getElem (by simp [h1]) fun i hi hi2 => ?_
 have hi3 : i < D.sure.length := by omega
 have h4 := h3 i hi3; rw [List.getD_eq_getElem?_getD, List.getElem?_eq_getElem hi, Option.getD_some] at h4; rw [h4, List.getElem_map, List.getElem_range]
 split
 · rfl
 · rename_i hn
   unfold lastD
   cases hg : bGet D.dm i with
   | none => rfl
   | some b => exact (hn (hS i (by rw [hg]; rfl))).elim
end
end
section
open Go.RowKit Go.Maps
open Ce
section
variable {w w' : World} {base d sb mb : Nat} {D D' : Dv}
theorem flush_good (h : DvAt w base d sb mb D) (ho : offD D = false) :
   Calls Tryz.prog 169 #[.pointer (some ⟨d, 0, none⟩)] w fun e w' => e = .returned vO ∧ DvAt w' base d sb mb (flushD D).1 ∧ Dev d sb mb w w' := by
 obtain ⟨y0, y1, -⟩ := Ob.dev h.ob; have cM := hdd (made_calls d mb w y1); have CS := hdd (spend_calls h ho); have HOKF := hdd (show OkD (flushD D).1 from h.ok.flush); have HFE := hdd (show (flushD D).1 = { spendD D with sure := (List.range D.sure.length).map (lastD D), dm := [], fl := wrap64 (D.fl + 1) } by unfold flushD; rw [ho]; rfl); obtain ⟨S, hS⟩ : ∃ S, S = spendD D := ⟨_, rfl⟩; have HSS := hdd (show S.sure = D.sure by rw [hS]; exact spendD_sure D); have HSM := hdd (show S.dm = D.dm by rw [hS]; exact spendD_dm D); have HSF := hdd (show S.fl = D.fl by rw [hS]; exact spendD_fl D); rw [← hS] at CS HFE; clear h ho y0 y1 hS
 go_enter Tryz.func169, Tryz.ntmps169
 go_wp2_with fail; refine cM.out.mono ?_; rintro e W ⟨rfl, rfl⟩; go_wp2_with fail; refine CS.out.mono ?_; rintro e W ⟨rfl, hD, hg⟩; have HD := hdd hD; have HG := hdd hg; obtain ⟨x0, x1, -⟩ := Ob.dev hD.ob; have HMp := hdd hD.map; have hdl := hD.ob.lt; have hsl := hD.sure.lt; have hml := hD.map.lt; have hne := hD.ne; clear hD hg cM CS; go_wp2_with (at_range; refine wpList_range_g rfl (.tmp 16) 107 rfl 183 keyedI Tryz.underlying107 rfl HMp.out ?_; intro W1 hR hg1 hs1); have hO1 := HD.out.ob.kept hg1 (by simp); have hS1 := HD.out.sure.kept (hg1.block sb hsl (by simp)) hg1.size; have hDv1 : Dev d sb mb W W1 := Kept.of_grown hg1 fun _ hi => ⟨hi.1, by simp⟩
 have HSt := hdd (Half.start HD.out.ok); clear hg1 x0 x1; generalize hr : W.heap.size = r at *
 go_frame
 go_loopw [3] (fun _ wr => ∃ (Sx : List Int) (cnt : Nat) (bs : List Blk), Rng Tryz.prog 3 wr mb r (bm S.dm) Sx cnt ∧ SureAt wr sb bs ∧ Half S Sx bs ∧ Ob wr d 114 (devC S sb mb) ∧ Dev d sb mb W wr ∧ W1.heap.size ≤ wr.heap.size) (fun _ wr => wr.rangeLeft mb r)
 case atStart => exact ⟨[], _, _, hR, hS1, HSt.out, hO1, hDv1, Nat.le_refl _⟩
 case round =>
   obtain ⟨Sx, cnt, bs, hR, hSu, hH, hO, hDv, hsz⟩ := hrel; go_wp2_with (at_next; refine wpList_next_g rfl (.tmp 17) rfl keyedI Tryz.underlying3 rfl hR ?_ ?_)
   · intro hdone
     have hbs := hH.done (fun k hk => hdone k (by rw [bm_get, Option.isSome_map]; exact hk)); obtain ⟨W5, hclr, hM5, hg5⟩ := hR.map.clear (tm := 107) Tryz.underlying107 0; have hO5 := hO.kept hg5 (fun e => hne.2.1 (Option.some.inj e)); have hS5 := hSu.kept (hg5.block sb hSu.lt (fun e => hne.2.2 (Option.some.inj e))) hg5.size; obtain ⟨x0, x1, -⟩ := Ob.dev hO; obtain ⟨z0, z1, z2, z3, z4, z5⟩ := Ob.dev hO5; have hst := hO5.set 5 (vI (wrap64 (S.fl + 1))); have hg6 := grownBy_set W5 d 5 (vI (wrap64 (S.fl + 1))); have hS6 := hS5.kept (hg6.block sb hS5.lt (fun e => hne.1 (Option.some.inj e).symm)) hg6.size; have hM6 := hM5.kept hg6 (fun e => hne.2.1 (Option.some.inj e).symm)
     have hFF : (flushD D).1 = { S with sure := bs, dm := [], fl := wrap64 (S.fl + 1) } := by
       have eL : lastD S = lastD D := by
         funext i
         unfold lastD; rw [HSM.out, HSS.out]
       rw [HFE.out, hbs, HSF.out, HSS.out, eL]
     have hbl : bs.length = S.sure.length := hH.1
     have HFIN := hdd (show DvAt (W5.setCell ⟨d, 5, none⟩ (vI (wrap64 (S.fl + 1)))) base d sb mb (flushD D).1 from by
       have hok := HOKF.out; rw [hFF] at hok ⊢; refine ⟨?_, hS6, hM6, hok, hne, HD.out.lo, by dsimp only; rw [hbl]; exact HD.out.len⟩
       have e : devC { S with sure := bs, dm := [], fl := wrap64 (S.fl + 1) } sb mb = (devC S sb mb).setIfInBounds 5 (vI (wrap64 (S.fl + 1))) := by
         unfold devC; dsimp only; rw [hbl]
         rfl
       rw [e]; exact hst)
     have HDV := hdd ((Dev.of_own (sb := sb) (mb := mb) HG.out).trans (hDv.trans ((Dev.of_map hg5).trans (Dev.of_own hg6)))); have cA := hdd (add_calls 5 S.fl W5 z5 (hO5.frozen 5)); clear hS6 hM6 hst hg6 hS5 hM5 hg5 hO5 hDv hO hH hSu hR hFF hbs hbl; go_wp2_with fail; refine cA.out.mono ?_; rintro e W7 ⟨rfl, rfl⟩; go_wp2; go_ret; exact ⟨rfl, HFIN.out, HDV.out⟩
   · intro k v W2 cnt2 hk hks hR2 hlt hg2 hs2 hen
     rw [bm_get] at hk; obtain ⟨b, hb, rfl⟩ := Option.map_eq_some_iff.1 hk; have hkb := HD.out.ok.dm _ (bGet_mem hb); dsimp only at hkb; obtain ⟨kk, rfl⟩ := Int.eq_ofNat_of_zero_le hkb.1; have hkn : kk < S.sure.length := by omega
     have HL := hdd hkb.2.2; have hrlt := hR.lt; obtain ⟨W3, hst, hrg, hth, hbl, hw3⟩ := new_blk W2 b HL.out; have hO2 := hO.kept hg2 (fun e => by have := Option.some.inj e; omega); have hO3 := hO2.same hbl; have hS3 := (hSu.kept (hg2.block sb hSu.lt (fun e => by have := Option.some.inj e; omega)) hg2.size).kept (hbl.block sb (by have := hSu.lt; omega)) hbl.size; have hR3 := hR2.kept (only_of_below hbl none) (by simp) (by simp); obtain ⟨x0, x1, -⟩ := Ob.dev hO3; have hbsl : bs.length = S.sure.length := hH.1; have hxd : W3.drew.cell? ⟨d, 0, none⟩ = some (.slice (some ⟨sb, 0, none⟩) S.sure.length S.sure.length) := x0; have hrd : W3.drew.rangeAt W2.heap.size 0 (bytesV b) := (World.rangeAt_drew _ _ _ _).2 hrg; have htd : W3.drew.there sb (kk * 64) 64 := (World.there_drew _ _ _ _).2 (there_part hS3.there (by omega)); have hsz3 : (bytesV b).toArray.size = 64 := by simp [bytesV_length, HL.out]
     have hln := HD.out.len.2; have HR3 := hdd hR3; have HS3 := hdd hS3; have HO3 := hdd hO3; have HH := hdd (hH.step HD.out.ok hb hkn); have HBS := hdd hH.2.1; have hDv2 := hDv.trans (Kept.mono (Kept.refl (fun _ => True) wr) fun _ _ => trivial); have HK := hdd (Kept.trans hDv ((Kept.of_grown hg2 (Fr := fun i => i < W.heap.size ∧ i ≠ d ∧ i ≠ sb ∧ i ≠ mb) fun i hi => ⟨by omega, fun e => by have := Option.some.inj e; omega⟩).trans (Kept.of_below hbl fun i hi => by omega))); have hlt2 : cnt2 < wr.rangeLeft mb r := by rw [World.ranges.left_eq hR]; exact hlt
     have hW23 := hbl.size; clear hR2 hR3 hS3 hO3 hO2 hrg hth hbl hSu hH hO hDv hDv2 hg2 hk hks hR; have hq2 : wr.heap.size ≤ W2.heap.size := by omega
     have HS2 := hdd hs2; clear hs2; generalize hn : S.sure.length = n at *; unfold blkV at hen ⊢; go_wp2_with fail; refine Pu.regionM [(0, false), (1, false), (2, false), (3, false), (4, false), (5, false), (6, false), (7, true)] (fun V => V.cell? ⟨d, 0, none⟩ = some (.slice (some ⟨sb, 0, none⟩) n n) ∧ V.rangeAt W2.heap.size 0 (bytesV b)) hmx (by kernel_rfl) (by kernel_rfl) (by kernel_rfl) ⟨hxd, hrd⟩ rfl ?_; simp only [Pu.named, List.filterMap_cons, List.filterMap_nil, zzJ, zzK, zzL, zzM]
     iterate 5 (apply Pu.WalkM.on (by rfl)
                · rintro V ⟨g0, gr⟩
                  go_wp2_with fail; refine ⟨rfl, ?_, rfl⟩
                  try simp only [Act.put, zzA, zzB, zzC]
                  rfl
                simp only [Act.put, zzA, zzB, zzC])
     apply Pu.WalkM.on (by rfl)
     · rintro V ⟨g0, gr⟩
       refine wpList_load_mid rfl 183 (.tmp 4) rfl W2.heap.size 0 rfl (bytesV b) _ gr Tryz.underlying183 rfl (by rw [bytesV_length, HL.out]; kernel_rfl) ?_; go_wp2_with fail; refine ⟨rfl, ?_, rfl⟩
       try simp only [Act.put, zzA, zzB, zzC]
       rfl
     simp only [Act.put, zzA, zzB, zzC]; apply Pu.WalkM.on (by rfl)
     · rintro V ⟨g0, gr⟩
       go_wp2_with fail; refine ⟨rfl, ?_, rfl⟩
       try simp only [Act.put, zzA, zzB, zzC]
       rfl
     simp only [Act.put, zzA, zzB, zzC]; refine Pu.WalkM.make (by rfl) ?_; rintro V rfl; refine wpList_store_mid rfl 183 (.tmp 29) (.tmp 28) rfl sb (kk * 64) (bytesV b).toArray rfl rfl (by rw [hsz3]; exact htd) (by rw [hsz3]; kernel_rfl) (all_oneCell_toArray (bytesV_one b)) ?_; have eT : (bytesV b).toArray.toList = bytesV b := by simp
     rw [eT]; have hg4 := grownBy_cells (b := sb) (bytesV b) W3.drew (kk * 64); have hw3d : W3.drew.heap.size = W2.heap.size + 1 := hw3; have hslt := HS3.out.lt; have g04 := hg4.cell hxd (fun e => hne.1 (Option.some.inj e)); have gr4 := range_of_block (hg4.block W2.heap.size (by omega) (fun e => by have := Option.some.inj e; omega)) hrd; refine ⟨rfl, undef, _, (fun V => V = W3.drew.setCells sb (kk * 64) (bytesV b)), rfl, rfl, (fun V h => by rw [h]; exact ⟨g04, gr4⟩), (.inr (fun _ h => h)), Pu.WalkM.nil ?_⟩; rintro V' rfl; simp only [Act.put]; have hg4' : W3.grownBy (W3.drew.setCells sb (kk * 64) (bytesV b)) (some sb) := ⟨hg4.os, hg4.tape, hg4.output, hg4.size, hg4.block⟩; have hbl2 : bs.length = n := hbsl; have hS4 := (HS3.out.kept (w' := W3.drew) rfl (Nat.le_refl _)).set HBS.out (i := kk) (by omega) HL.out; have hR4 := HR3.out.kept hg4' (fun e => hne.2.2 (Option.some.inj e).symm) (fun e => by have := Option.some.inj e; omega); have hO4 := HO3.out.kept hg4' (fun e => hne.1 (Option.some.inj e)); have hK4 := Kept.trans HK.out (Kept.of_grown hg4' (Fr := fun i => i < W.heap.size ∧ i ≠ d ∧ i ≠ sb ∧ i ≠ mb) fun i hi => ⟨by omega, fun e => hi.2.2.1 (Option.some.inj e)⟩); have hs4 := hg4'.size; have HFIN := hdd (show ∃ (Sx : List Int) (cnt : Nat) (bs : List Blk), Rng Tryz.prog 3 (W3.drew.setCells sb (kk * 64) (bytesV b)) mb r (bm S.dm) Sx cnt ∧ SureAt (W3.drew.setCells sb (kk * 64) (bytesV b)) sb bs ∧ Half S Sx bs ∧ Ob (W3.drew.setCells sb (kk * 64) (bytesV b)) d 114 (devC S sb mb) ∧ Dev d sb mb W (W3.drew.setCells sb (kk * 64) (bytesV b)) ∧ W1.heap.size ≤ (W3.drew.setCells sb (kk * 64) (bytesV b)).heap.size from ⟨_, _, _, hR4, hS4, HH.out, hO4, hK4, by omega⟩)
     have HMS := hdd (show (W3.drew.setCells sb (kk * 64) (bytesV b)).rangeLeft mb r < wr.rangeLeft mb r by rw [World.ranges.left_eq hR4]; exact hlt2); clear hS4 hR4 hO4 hK4 hg4 hg4' g04 gr4 hxd hrd htd x0 x1; go_wp2; exact ⟨HFIN.out, HMS.out⟩
theorem flush_calls (h : DvAt w base d sb mb D) :
   Calls Tryz.prog 169 #[.pointer (some ⟨d, 0, none⟩)] w fun e w' => e = .returned (vI (flushD D).2) ∧ DvAt w' base d sb mb (flushD D).1 ∧ Dev d sb mb w w' := by
 cases ho : offD D with
 | true =>
   have e : flushD D = (D, 30) := by unfold flushD; rw [ho]; rfl
   rw [e]; refine (flush_off h ho).mono ?_; rintro e W ⟨rfl, rfl⟩; exact ⟨rfl, h, Kept.refl _ _⟩
 | false =>
   have e : (flushD D).2 = 0 := by unfold flushD; rw [ho]; rfl
   rw [e]; exact flush_good h ho
end
end
end Se
end Go.Proofs.YtgcnhmjpfbbfcaaGreat
