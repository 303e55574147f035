/-
  A region that draws its order, inside a round of a range over an iterator: from the walk of Pm.
-/
import Derived.Test.YtlhpdalfnjhokaaPm
import Derived.OrdersIn
import Derived.RangeFuncNested
namespace Go.Proofs.Ytlhpdalfnjhokaa
open Go.RowKit
namespace Pi
open Pu
section
variable {P : Program} {ops : Array Oper} {Q : Exit → Act → World → Prop} {md : Region.Mode} {l n : Nat}
/-- ends normally, and so -/
structure OnlyN (Q : Exit → Act → World → Prop) (e : Exit) (a : Act) (w : World) : Prop where
  e : e = .normal
  q : Q .normal a w
theorem OnlyN.out {a : Act} {w : World} (h : Q .normal a w) : OnlyN Q .normal a w := ⟨rfl, h⟩
theorem no_out : ¬ LetsOut (OnlyN Q) := fun ⟨_, _, h⟩ => by cases h.e
theorem op_in {o : Oper} {a : Act} {w : World} {K : Act → World → Prop} (hnd : ∀ c, o.op ≠ .defer c) (h : o.wp P a w K (OnlyN Q) ∨ (o.asks P a w ∧ LetsOut (OnlyN Q))) : o.wpIn (Fence.wide.inRound l) n P a w K (OnlyN Q) := by
  rcases h with h | ⟨_, h⟩
  case inr => exact (no_out h).elim
  refine ⟨fun _ _ => trivial, ?_⟩
  rw [Oper.semAt_eq _ _ _ hnd]
  unfold Oper.wp at h
  generalize (execOp a.eval o).run P w = r at *
  cases r with
  | ok x w' =>
    cases x <;> simp only [Oper.upon] at h <;> simp only [Oper.uponIn]
    case value v => exact h
    case skip => exact h
    case defer d => exact h
    case enter f args => exact ⟨(fun hh => by cases hh), (callsIn_wide (n := n - 1)).2 h⟩
    case row row args =>
      refine ⟨(fun hh => by cases hh), fun c cs _ => ?_⟩
      obtain ⟨v, w', r, s⟩ := h c cs
      exact ⟨v, w', r, stepsIn_wide.2 s⟩
  | halt x w' =>
    cases x <;> simp only [Oper.upon] at h
    case panic u => cases h.e
theorem any_in (hnd : ∀ (i : Nat) (o : Oper), ops[i]? = some o → ∀ c, o.op ≠ .defer c) : ∀ (m : Nat) (listed : Array Bool) (a : Act) (w : World), wpAny P md ops (OnlyN Q) m listed a w → wpAnyIn (Fence.wide.inRound l) n P md ops (OnlyN Q) m listed a w := by
  intro m
  induction m with
  | zero => exact fun _ _ _ h => h
  | succ m ih =>
    intro listed a w h
    refine ⟨h.1, fun i hi => ?_⟩
    have h1 := h.2 i hi
    unfold wpOp at h1
    unfold wpOpIn
    cases ho : ops[i]? with
    | none =>
      rw [ho] at h1
      exact ih _ _ _ h1
    | some o =>
      rw [ho] at h1
      dsimp only at h1 ⊢
      split
      · rename_i hw
        rw [if_pos hw] at h1
        refine op_in (hnd i o ho) ?_
        rcases h1 with h1 | h1
        · exact .inl (Oper.wp_mono (fun a w h => ih _ _ _ h) h1)
        · exact .inr h1
      · rename_i hw
        rw [if_neg hw] at h1
        exact ⟨fun _ _ => trivial, ih _ _ _ h1⟩
def noDefer (ops : Array Oper) : Bool := ops.toList.all fun o => match o.op with | .defer _ => false | _ => true
theorem noDefer_at (h : noDefer ops = true) (i : Nat) (o : Oper) (ho : ops[i]? = some o) (c : Call) : o.op ≠ .defer c := by
  intro e
  have := List.all_eq_true.1 h o (by rw [Array.getElem?_eq_some_iff] at ho; obtain ⟨hi, rfl⟩ := ho; simp)
  rw [e] at this
  cases this
theorem regionIn {id : Nat} {a : Act} {w : World} (ord : List (Nat × Bool)) (B : World → Prop) (hm : P.follows .mixedOrders = true) (hf : fine .any ops = true) (hok : okM .any ops ord = true) (hwh : whole ops ord = true) (hd : noDefer ops = true) (hB : B w.drew)
    {l' : List (Oper × Bool)} (hl : named ops ord = l') (hs : WalkM P ops (OnlyN Q) l' a B (fun W => W = w.drew)) : (Code.region id ops true).wpIn (Fence.wide.inRound l) n P Q a w := by
  subst hl
  refine Go.wpIn_mono (Q := OnlyN Q) ?_ fun e a w h => by rw [h.e]; exact h.q
  refine wpIn_region_any hm (any_in (noDefer_at hd) _ _ _ _ ?_)
  have h := run_made (md := .any) (P := P) (Q := OnlyN Q) rfl hf ops.size (List.range ops.size) (Array.replicate ops.size false) a a w.drew B (fun W => W = w.drew) ord [] (by simp) (by simp) List.nodup_range (fun j => ?_) (fun j hj => ?_) (fun p hp => ?_) ⟨rfl, rfl, fun _ _ => rfl⟩ rfl
    ⟨fun W h => h ▸ hB, (fun i hi => nomatch hi), (fun i hi => nomatch hi), (fun i hi => nomatch hi), (fun i hi => nomatch hi), hok, hs.go⟩
  · exact h
  · rw [List.mem_range]
    by_cases h : j < ops.size
    · simp [h]
    · simp [h]
  · right
    have hjs : j < ops.size := by
      rcases Nat.lt_or_ge j ops.size with h | h
      · exact h
      · simp [h] at hj
    have := List.all_eq_true.1 hwh j (List.mem_range.2 hjs)
    obtain ⟨p, hp, hpj⟩ := List.any_eq_true.1 this
    exact ⟨p, hp, by simpa using hpj⟩
  · have hlt : p.1 < ops.size := by
      clear hs hwh
      induction ord with
      | nil => cases hp
      | cons q r ih =>
        obtain ⟨o, ho, _, _, _, _, _, g6⟩ := okM_cons (i := q.1) (b := q.2) hok
        rcases List.mem_cons.1 hp with rfl | hp
        · exact (Array.getElem?_eq_some_iff.1 ho).1
        · exact ih g6 hp
    simp [hlt]
end
end Pi
end Go.Proofs.Ytlhpdalfnjhokaa
