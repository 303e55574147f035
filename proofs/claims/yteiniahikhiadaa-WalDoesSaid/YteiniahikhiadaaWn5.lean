/-
  A range over an iterator whose values lie in memory that it makes itself: the round may rely on it that the value reads as it should.
  A region that draws its order, inside a round of a range over an iterator: from the walk of Pm.
  A region that draws its order, some of whose operations make or write memory in one of two orders: a plan that forks.
  the iterator of slices.Chunk at bytes.
  the log, the walk: what put keeps from round to round.
  the log, the walk: bytes are put behind others.
  the log, the walk: steps; the things that are done one behind the other.
-/
import Derived.Test.YteiniahikhiadaaWn4
import Derived.Test.YteiniahikhiadaaWn3
import Derived.OrdersIn
import Derived.RangeFuncNested
import Derived.Laws.IdiomCopy

set_option linter.unusedVariables false
set_option linter.unusedSimpArgs false
namespace Go.Proofs.Yteiniahikhiadaa
open Go.RowKit
namespace Rr
section
variable {δ : Type} {F : Fence} {n : Nat} {P : Program}

/-- a contract of an iterator: its values read by Rd where they are handed over -/
def Reads (F : Fence) (n : Nat) (P : Program) (gf : Nat) (lb : Array Value) (Rd : δ → Value → World → Prop) (Kp : World → World → Prop) (S Sp : List δ → Prop) (T : List δ → δ → Prop) (w : World) : Prop :=
  ∀ (l : Nat) (J Jx : List δ → World → Prop) (W : World), Below w.heap.size w W → AbidesFrom W.heap.size J → AbidesFrom W.heap.size Jx →
    (∀ pre d v W1, J pre W1 → T pre d → Rd d v W1 → YieldAt F (n - 1) P l #[v] W1 fun e W' => (e = .returned (.bool true) ∧ J (pre ++ [d]) W' ∧ Kp W1 W') ∨ (e = .returned (.bool false) ∧ Jx (pre ++ [d]) W')) →
    J [] W →
    CallsIn F n P gf (#[.func (.yield l) #[] #[]] ++ lb) W fun e W' => (∃ v, e = .returned v) ∧ ((∃ xs, S xs ∧ J xs W') ∨ (∃ pre, Sp pre ∧ Jx pre W'))

/-- the loop's own two blocks -/
structure Bk (D l : Nat) (r : Loop) (W : World) : Prop where
  loop : W.heap[l]? = some (.loop r)
  mark : W.heap[D]? = some (.deferred (some []))
theorem Bk.lt {D l : Nat} {r : Loop} {W : World} (h : Bk D l r W) : l < W.heap.size ∧ D < W.heap.size := ⟨(Array.getElem?_eq_some_iff.1 h.loop).1, (Array.getElem?_eq_some_iff.1 h.mark).1⟩
theorem Bk.abide {D l : Nat} {r : Loop} {A B : World} {row : Option Nat} (h : Bk D l r A) (hg : A.grownBy B row) (hr : ∀ k, row = some k → ∃ o : Obj, A.heap[k]? = some o ∧ o.isWalk = true) : Bk D l r B :=
  ⟨(grownBy_keeps hg hr h.loop rfl).trans h.loop, (grownBy_keeps hg hr h.mark rfl).trans h.mark⟩
theorem Bk.keeps {D l B : Nat} {r : Loop} {X Y : World} (h : Bk D l r X) (hk : KeepsFrom B X Y) (hD : B ≤ D) (hl : B ≤ l) : Bk D l r Y :=
  ⟨hk.same _ _ hl h.loop rfl, hk.same _ _ hD h.mark rfl⟩
theorem Bk.turn {D l : Nat} {r : Loop} {W : World} (h : Bk D l r W) (hne : D ≠ l) (r' : Loop) : Bk D l r' (W.putObj l (.loop r')) :=
  ⟨World.putObj_heap_same h.lt.1, (World.putObj_heap_other hne).trans h.mark⟩

/-- how a round may be left -/
def rpost (B : Nat) (Kp : World → World → Prop) (I : List δ → World → Prop) (Ix : Code → List δ → World → Prop) (xs : List δ) (W : World) : Exit → Act → World → Prop
  | .normal, _, W' => KeepsFrom B W W' ∧ Kp W W' ∧ I xs W'
  | .ret, _, W' => KeepsFrom B W W' ∧ Ix .ret xs W'
  | .exit id, _, W' => KeepsFrom B W W' ∧ Ix (.exit id) xs W'
  | .goto t, _, W' => KeepsFrom B W W' ∧ Ix (.goto t) xs W'
  | .panic _, _, _ => False
  | .outgrown, _, _ => False

theorem range_reads {g : Operand} {ps : Array Tmp} {assign body : Code} {Q : Exit → Act → World → Prop} {a : Act} {w : World}
    (hro : F.round = none) (h1 : 1 ≤ n) {gf : Nat} {lb : Array Value} (hg : a.eval g = .func (.func gf) #[] lb) (hFg : F.fn gf) (eg : ∀ args w, (callFunc gf args).run P w = .ok (.enter gf args) w)
    {Rd : δ → Value → World → Prop} {Kp : World → World → Prop} {S Sp : List δ → Prop} {T : List δ → δ → Prop} {w0 : World} (hit : Reads F (n - 1) P gf lb Rd Kp S Sp T w0) (hb0 : Below w0.heap.size w0 w)
    (hKt : ∀ {A B C : World}, Kp A B → Kp B C → Kp A C) (hKb : ∀ (W : World) (l : Nat) (r r' : Loop), w.heap.size ≤ l → W.heap[l]? = some (.loop r) → Kp W (W.putObj l (.loop r'))) (hps : ps.size = 1)
    (I : List δ → World → Prop) (Ix : Code → List δ → World → Prop) (hI : OwnFrom w.heap.size I) (hIx : ∀ c, OwnFrom w.heap.size (Ix c)) (h0 : I [] w)
    (hround : ∀ (l : Nat) (pre : List δ) (d : δ) (v : Value) (W : World), w.heap.size ≤ l → I pre W → T pre d → Rd d v W →
      assign.wpIn (F.inRound l) (n - 1 - 1) P (Exit.then (fun a' W' => KeepsFrom w.heap.size W W' ∧ Kp W W' ∧
        ∀ (W2 : World), W'.grownBy W2 (some l) → (∃ o : Obj, W'.heap[l]? = some o ∧ o.isCells = false) → body.wpIn (F.inRound l) (n - 1 - 1) P (rpost w.heap.size Kp I Ix (pre ++ [d]) W2) a' W2) (fun _ _ _ => False))
        { tmps := (ps.zip #[v]).foldl (fun t (p, v) => t.setIfInBounds p v) a.tmps, defers := [] } W)
    (hdone : ∀ (D : Nat) (xs : List δ) (W : World), w.heap.size ≤ D → S xs → I xs W → W.heap[D]? = some (.deferred (some [])) → Q .normal { a with defers := { target := .collected D, args := #[] } :: a.defers } W)
    (hstop : ∀ (D : Nat) (c : Code) (pre : List δ) (W : World), w.heap.size ≤ D → Sp pre → Ix c pre W → W.heap[D]? = some (.deferred (some [])) → c.wpIn F n P Q { a with defers := { target := .collected D, args := #[] } :: a.defers } W) :
    (Code.rangeFunc g ps assign body).wpIn F n P Q a w := by
  refine wpIn_rangeFunc fun fn hfn => ?_
  obtain ⟨mk, hmk⟩ : ∃ mk : LoopState → Option Code → Loop, mk = fun st pe => { state := st, pending := pe, fn := fn, tmps := a.tmps, params := ps, assign := assign, body := body, defers := w.heap.size } := ⟨_, rfl⟩
  obtain ⟨D, hD⟩ : ∃ D, D = w.heap.size := ⟨_, rfl⟩
  obtain ⟨V, hV⟩ : ∃ V : World, V = (w.alloc (.deferred (some []))).alloc (.loop (mk .ready none)) := ⟨_, rfl⟩
  have hbk : Bk D (D + 1) (mk .ready none) V := by
    rw [hV, hD]
    refine ⟨?_, (Below.heap_alloc _ _ _ (by simp)).trans (World.alloc_heap_new w _)⟩
    have := World.alloc_heap_new (w.alloc (.deferred (some []))) (.loop (mk .ready none))
    rwa [World.size_alloc] at this
  have hIV : I [] V := by rw [hV]; exact hI.alloc _ (hI.alloc _ h0)
  have hbV : Below w0.heap.size w0 V := by
    rw [hV]; exact hb0.trans ((((Below.refl _ w).alloc (Nat.le_refl _) _).alloc (by simp) _).mono hb0.size)
  have hVs : w.heap.size ≤ V.heap.size := by rw [hV]; simp; omega
  refine ⟨D + 1, [{ target := .collected D, args := #[] }], V, { target := .fn (.func gf) lb, args := #[.func (.yield (D + 1)) #[] #[]] }, V, gf, #[.func (.yield (D + 1)) #[] #[]] ++ lb, V, ?_, ?_, ?_, ?_, fun _ => h1, ?_⟩
  · rw [hro, hV, hmk, hD]; exact run_enterLoop_outer _ _ _ _ _
  · simp only [resolve, hg]
    simp [go_sem]
  · intro f' hf'
    simp [Target.leads] at hf'
    subst hf'
    exact hFg
  · simp [invoke, go_sem, eg]
  have walkRow : ∀ {A : World} {row : Option Nat}, (∀ r, row = some r → V.heap.size ≤ r ∧ ∃ o : Obj, A.heap[r]? = some o ∧ o.isWalk = true) → (∀ r, row = some r → w.heap.size ≤ r ∧ ∃ o : Obj, A.heap[r]? = some o ∧ o.isCells = false) :=
    fun hr r e => by
      obtain ⟨h1, o, h2, h3⟩ := hr r e
      exact ⟨Nat.le_trans hVs h1, o, h2, Obj.not_cells_of_walk h3⟩
  refine (hit (D + 1) (fun pre W => I pre W ∧ Bk D (D + 1) (mk .ready none) W) (fun pre W => ∃ c, Ix c pre W ∧ Bk D (D + 1) (mk .done (some c)) W) V hbV
    (fun s A B row h hg hr => ⟨hI s A B row h.1 hg (walkRow hr), h.2.abide hg fun k e => (hr k e).2⟩)
    (fun s A B row h hg hr => let ⟨c, h1, h2⟩ := h; ⟨c, hIx c s A B row h1 hg (walkRow hr), h2.abide hg fun k e => (hr k e).2⟩)
    (fun pre d v W hJ hlen hrd => ?_) ⟨hIV, hbk⟩).mono ?_
  · -- a round
    obtain ⟨hi, hk⟩ := hJ
    have hsz : #[v].size = (mk .ready none).params.size := by rw [hmk]; exact hps.symm
    have hy := run_yield (P := P) (args := #[v]) hk.loop hsz
    rw [hmk] at hy
    refine ⟨fn, _, assign, body, hy, roundIn_of_wpIn hfn (wpIn_mono (hround (D + 1) pre d v W (by omega) hi hlen hrd) fun e a1 W1 h => ?_)⟩
    cases e with
    | normal =>
      obtain ⟨hk1, hkp1, hbody⟩ := h
      have hb1 := hk.keeps hk1 (by omega) (by omega)
      have hst : (mk .ready none).state = .ready := by rw [hmk]
      refine ⟨_, run_beginRound hb1.loop hst, ?_⟩
      have hb2 := hb1.turn (by omega) { mk .ready none with state := .busy }
      have hkb2 : Kp W1 (W1.putObj (D + 1) (.loop { mk .ready none with state := .busy })) := hKb _ _ _ _ (by omega) hb1.loop
      refine wpIn_mono (hbody _ (grownBy_putObj' _ _ _) ⟨_, hb1.loop, rfl⟩) fun e a3 W3 h3 => ?_
      have fin : ∀ (j : Option Code), KeepsFrom w.heap.size (W1.putObj (D + 1) (.loop { mk .ready none with state := .busy })) W3 → ∃ W4, (Instr.endRound (D + 1) j).run P W3 = .ok (.bool j.isNone) W4 ∧ Bk D (D + 1) (mk (if j.isNone then .ready else .done) j) W4 ∧ W4 = W3.putObj (D + 1) (.loop (mk (if j.isNone then .ready else .done) j)) ∧
          W3.heap[D + 1]? = some (.loop { mk .ready none with state := .busy }) := fun j hk3 => by
        have hb3 := hb2.keeps hk3 (by omega) (by omega)
        have hr := run_endRound (P := P) j hb3.loop
        refine ⟨_, hr, ?_, ?_, hb3.loop⟩
        · have := hb3.turn (by omega) { mk .ready none with state := if j.isNone then .ready else .done, pending := j }
          rw [hmk] at this ⊢
          exact this
        · rw [hmk]
      cases e with
      | normal =>
        obtain ⟨hk3, hkp3, hi3⟩ := h3
        obtain ⟨W4, hr, hb4, e4, hl3⟩ := fin none hk3
        exact ⟨_, W4, hr, .inl ⟨rfl, ⟨by rw [e4]; exact hI.putObj _ hi3 (by omega) hl3 rfl, hb4⟩, hKt hkp1 (hKt hkb2 (hKt hkp3 (by rw [e4]; exact hKb _ _ _ _ (by omega) hl3)))⟩⟩
      | ret =>
        obtain ⟨hk3, hi3⟩ := h3
        obtain ⟨W4, hr, hb4, e4, hl3⟩ := fin (some .ret) hk3
        exact ⟨_, W4, hr, .inr ⟨rfl, .ret, by rw [e4]; exact (hIx _).putObj _ hi3 (by omega) hl3 rfl, hb4⟩⟩
      | exit id =>
        obtain ⟨hk3, hi3⟩ := h3
        obtain ⟨W4, hr, hb4, e4, hl3⟩ := fin (some (.exit id)) hk3
        exact ⟨_, W4, hr, .inr ⟨rfl, .exit id, by rw [e4]; exact (hIx _).putObj _ hi3 (by omega) hl3 rfl, hb4⟩⟩
      | goto t =>
        obtain ⟨hk3, hi3⟩ := h3
        obtain ⟨W4, hr, hb4, e4, hl3⟩ := fin (some (.goto t)) hk3
        exact ⟨_, W4, hr, .inr ⟨rfl, .goto t, by rw [e4]; exact (hIx _).putObj _ hi3 (by omega) hl3 rfl, hb4⟩⟩
      | panic ch => exact h3.elim
      | outgrown => exact h3.elim
    | ret => exact h.elim
    | exit id => exact h.elim
    | goto t => exact h.elim
    | panic ch => exact h.elim
    | outgrown => exact h.elim
  · -- behind the iterator
    rintro e W2 ⟨⟨v, rfl⟩, hend⟩
    rcases hend with ⟨xs, hS, hi, hk⟩ | ⟨pre, hSp, c, hi, hk⟩
    · have hr := run_endLoop (P := P) hk.loop (by rw [hmk]; simp)
      rw [hmk] at hr
      exact ⟨none, _, hr, hdone D xs _ (by omega) hS (hI.putObj _ hi (by omega) hk.loop rfl) ((World.putObj_heap_other (by omega)).trans hk.mark)⟩
    · have hr := run_endLoop (P := P) hk.loop (by rw [hmk]; simp)
      rw [hmk] at hr
      exact ⟨some c, _, hr, hstop D c pre _ (by omega) hSp ((hIx c).putObj _ hi (by omega) hk.loop rfl) ((World.putObj_heap_other (by omega)).trans hk.mark)⟩
end
end Rr
end Go.Proofs.Yteiniahikhiadaa

namespace Go.Proofs.Yteiniahikhiadaa
open Go.RowKit
namespace Pi
open Pu
section
variable {P : Program} {ops : Array Oper} {Q : Exit → Act → World → Prop} {md : Region.Mode} {l n : Nat}
/-- ends normally, and so -/
structure OnlyN (Q : Exit → Act → World → Prop) (e : Exit) (a : Act) (w : World) : Prop where
  e : e = .normal
  q : Q .normal a w
theorem OnlyN.out {a : Act} {w : World} (h : Q .normal a w) : OnlyN Q .normal a w := ⟨rfl, h⟩
theorem no_out : ¬ LetsOut (OnlyN Q) := fun ⟨_, _, h⟩ => by cases h.e
theorem op_in {o : Oper} {a : Act} {w : World} {K : Act → World → Prop} (hnd : ∀ c, o.op ≠ .defer c) (h : o.wp P a w K (OnlyN Q) ∨ (o.asks P a w ∧ LetsOut (OnlyN Q))) : o.wpIn (Fence.wide.inRound l) n P a w K (OnlyN Q) := by
  rcases h with h | ⟨_, h⟩
  case inr => exact (no_out h).elim
  refine ⟨fun _ _ => trivial, ?_⟩
  rw [Oper.semAt_eq _ _ _ hnd]
  unfold Oper.wp at h
  generalize (execOp a.eval o).run P w = r at *
  cases r with
  | ok x w' =>
    cases x <;> simp only [Oper.upon] at h <;> simp only [Oper.uponIn]
    case value v => exact h
    case skip => exact h
    case defer d => exact h
    case enter f args => exact ⟨(fun hh => by cases hh), (callsIn_wide (n := n - 1)).2 h⟩
    case row row args =>
      refine ⟨(fun hh => by cases hh), fun c cs _ => ?_⟩
      obtain ⟨v, w', r, s⟩ := h c cs
      exact ⟨v, w', r, stepsIn_wide.2 s⟩
  | halt x w' =>
    cases x <;> simp only [Oper.upon] at h
    case panic u => cases h.e
theorem any_in (hnd : ∀ (i : Nat) (o : Oper), ops[i]? = some o → ∀ c, o.op ≠ .defer c) : ∀ (m : Nat) (listed : Array Bool) (a : Act) (w : World), wpAny P md ops (OnlyN Q) m listed a w → wpAnyIn (Fence.wide.inRound l) n P md ops (OnlyN Q) m listed a w := by
  intro m
  induction m with
  | zero => exact fun _ _ _ h => h
  | succ m ih =>
    intro listed a w h
    refine ⟨h.1, fun i hi => ?_⟩
    have h1 := h.2 i hi
    unfold wpOp at h1
    unfold wpOpIn
    cases ho : ops[i]? with
    | none =>
      rw [ho] at h1
      exact ih _ _ _ h1
    | some o =>
      rw [ho] at h1
      dsimp only at h1 ⊢
      split
      · rename_i hw
        rw [if_pos hw] at h1
        refine op_in (hnd i o ho) ?_
        rcases h1 with h1 | h1
        · exact .inl (Oper.wp_mono (fun a w h => ih _ _ _ h) h1)
        · exact .inr h1
      · rename_i hw
        rw [if_neg hw] at h1
        exact ⟨fun _ _ => trivial, ih _ _ _ h1⟩
def noDefer (ops : Array Oper) : Bool := ops.toList.all fun o => match o.op with | .defer _ => false | _ => true
theorem noDefer_at (h : noDefer ops = true) (i : Nat) (o : Oper) (ho : ops[i]? = some o) (c : Call) : o.op ≠ .defer c := by
  intro e
  have := List.all_eq_true.1 h o (by rw [Array.getElem?_eq_some_iff] at ho; obtain ⟨hi, rfl⟩ := ho; simp)
  rw [e] at this
  cases this
theorem regionIn {id : Nat} {a : Act} {w : World} (ord : List (Nat × Bool)) (B : World → Prop) (hm : P.follows .mixedOrders = true) (hf : fine .any ops = true) (hok : okM .any ops ord = true) (hwh : whole ops ord = true) (hd : noDefer ops = true) (hB : B w.drew)
    {l' : List (Oper × Bool)} (hl : named ops ord = l') (hs : WalkM P ops (OnlyN Q) l' a B (fun W => W = w.drew)) : (Code.region id ops true).wpIn (Fence.wide.inRound l) n P Q a w := by
  subst hl
  refine Go.wpIn_mono (Q := OnlyN Q) ?_ fun e a w h => by rw [h.e]; exact h.q
  refine wpIn_region_any hm (any_in (noDefer_at hd) _ _ _ _ ?_)
  have h := run_made (md := .any) (P := P) (Q := OnlyN Q) rfl hf ops.size (List.range ops.size) (Array.replicate ops.size false) a a w.drew B (fun W => W = w.drew) ord [] (by simp) (by simp) List.nodup_range (fun j => ?_) (fun j hj => ?_) (fun p hp => ?_) ⟨rfl, rfl, fun _ _ => rfl⟩ rfl
    ⟨fun W h => h ▸ hB, (fun i hi => nomatch hi), (fun i hi => nomatch hi), (fun i hi => nomatch hi), (fun i hi => nomatch hi), hok, hs.go⟩
  · exact h
  · rw [List.mem_range]
    by_cases h : j < ops.size
    · simp [h]
    · simp [h]
  · right
    have hjs : j < ops.size := by
      rcases Nat.lt_or_ge j ops.size with h | h
      · exact h
      · simp [h] at hj
    have := List.all_eq_true.1 hwh j (List.mem_range.2 hjs)
    obtain ⟨p, hp, hpj⟩ := List.any_eq_true.1 this
    exact ⟨p, hp, by simpa using hpj⟩
  · have hlt : p.1 < ops.size := by
      clear hs hwh
      induction ord with
      | nil => cases hp
      | cons q r ih =>
        obtain ⟨o, ho, _, _, _, _, _, g6⟩ := okM_cons (i := q.1) (b := q.2) hok
        rcases List.mem_cons.1 hp with rfl | hp
        · exact (Array.getElem?_eq_some_iff.1 ho).1
        · exact ih g6 hp
    simp [hlt]
end
end Pi
end Go.Proofs.Yteiniahikhiadaa

namespace Go.Proofs.Yteiniahikhiadaa
open Go.RowKit
namespace Pt
open Pu
inductive Plan where
  | nil
  | look (i : Nat) (p : Plan)
  | make (i : Nat) (p : Plan)
  | fork (i : Nat) (p : Plan) (j : Nat) (q : Plan)
inductive PlanO where
  | nil
  | look (o : Oper) (p : PlanO)
  | make (o : Oper) (p : PlanO)
  | fork (o : Oper) (p : PlanO) (o' : Oper) (q : PlanO)
def rest : Plan → List Nat
  | .nil => []
  | .look i p => i :: rest p
  | .make i p => i :: rest p
  | .fork i p _ _ => i :: rest p
section
variable {P : Program} {ops : Array Oper} {Q : Exit → Act → World → Prop} {md : Region.Mode}
def named (ops : Array Oper) : Plan → PlanO
  | .nil => .nil
  | .look i p => match ops[i]? with | some o => .look o (named ops p) | none => .nil
  | .make i p => match ops[i]? with | some o => .make o (named ops p) | none => .nil
  | .fork i p j q => match ops[i]?, ops[j]? with | some o, some o' => .fork o (named ops p) o' (named ops q) | _, _ => .nil
/-- is this operation behind all others, by its own edges and those of the ones it is behind? -/
def reach2 (ops : Array Oper) (o : Oper) (j : Nat) : Bool := o.after.any fun e => Region.binds .any e && (e.on == j || match ops[e.on]? with | some q => q.after.any fun e' => Region.binds .any e' && e'.on == j | none => false)
def endsAll2 (ops : Array Oper) (o : Oper) : Bool := decide (((List.range ops.size).filter fun j => !reach2 ops o j).length ≤ 1)
theorem endsAll2_at {o : Oper} {i : Nat} {listed : Array Bool} (h : endsAll2 ops o = true) (hsz : listed.size = ops.size) (hi : i < ops.size) (hun : listed.getD i true = false)
    (hall : ∀ e ∈ o.after, Region.binds .any e = true → listed.getD e.on true = true) (hcl : ∀ k q, ops[k]? = some q → listed.getD k true = true → ∀ e ∈ q.after, Region.binds .any e = true → listed.getD e.on true = true) : ∀ j, listed.getD j true = false → j = i := by
  intro j hj
  have hjs : j < ops.size := by
    rcases Nat.lt_or_ge j ops.size with h | h
    · exact h
    · simp [show ¬ j < listed.size by omega] at hj
  have free : ∀ k, listed.getD k true = false → reach2 ops o k = false := fun k hk => by
    cases hx : reach2 ops o k with
    | false => rfl
    | true =>
      obtain ⟨e, he, hbe⟩ := Array.any_eq_true'.1 hx
      simp only [Bool.and_eq_true, Bool.or_eq_true, beq_iff_eq] at hbe
      have h1 := hall e he hbe.1
      rcases hbe.2 with h2 | h2
      · rw [h2, hk] at h1
        cases h1
      · cases hq : ops[e.on]? with
        | none => rw [hq] at h2; cases h2
        | some q =>
          rw [hq] at h2
          obtain ⟨e', he', hbe'⟩ := Array.any_eq_true'.1 h2
          simp only [Bool.and_eq_true, beq_iff_eq] at hbe'
          have h3 := hcl e.on q hq h1 e' he' hbe'.1
          rw [hbe'.2, hk] at h3
          cases h3
  unfold endsAll2 at h
  have hlen := of_decide_eq_true h
  have mi : i ∈ (List.range ops.size).filter fun j => !reach2 ops o j := List.mem_filter.2 ⟨List.mem_range.2 hi, by rw [free i hun]; rfl⟩
  have mj : j ∈ (List.range ops.size).filter fun j => !reach2 ops o j := List.mem_filter.2 ⟨List.mem_range.2 hjs, by rw [free j hj]; rfl⟩
  generalize ((List.range ops.size).filter fun j => !reach2 ops o j) = F at *
  match F, hlen with
  | [], _ => cases mi
  | [x], _ =>
    rw [List.mem_singleton] at mi mj
    rw [mi, mj]
  | _ :: _ :: _, h => simp at h
/-- what one making operation owes -/
def Owes (P : Program) (ops : Array Oper) (a : Act) (o : Oper) (B J : World → Prop) (S : Act → (World → Prop) → (World → Prop) → Prop) : Prop :=
  Region.wanted o (yielded ops a.tmps) = true ∧ ∀ w, J w → wpList P ops (fun e a' w' => e = .normal ∧ ∃ v B' J', a' = a.put o.dst v ∧ J' w' ∧ S (a.put o.dst v) B' J' ∧ (∀ w, J' w → B' w) ∧ (endsAll2 ops o = true ∨ ∀ w, B' w → B w)) [o] a w
def SeqT (P : Program) (ops : Array Oper) (Q : Exit → Act → World → Prop) : PlanO → Act → (World → Prop) → (World → Prop) → Prop
  | .nil, a, _, J => ∀ w, J w → Q .normal a w
  | .look o p, a, B, J =>
    if Region.wanted o (yielded ops a.tmps) = true then
      ∃ v, (∀ w, B w → wpList P ops (fun e a' w' => e = .normal ∧ a' = a.put o.dst v ∧ w' = w) [o] a w) ∧ SeqT P ops Q p (a.put o.dst v) B J
    else SeqT P ops Q p (a.put o.dst undef) B J
  | .make o p, a, B, J => Owes P ops a o B J (SeqT P ops Q p)
  | .fork o p o' q, a, B, J => Owes P ops a o B J (SeqT P ops Q p) ∧ Owes P ops a o' B J (SeqT P ops Q q)

def hd (ops : Array Oper) (i : Nat) (r : List Nat) : Bool :=
  (match ops[i]? with
    | none => false
    | some o =>
      (match o.op with | .select .. => false | .defer _ => false | _ => true) &&
      ((o.looksAt ops).all fun t => o.dst != some t && r.all fun p => match ops[p]? with | some q => q.dst != some t | none => false) &&
      (match o.dst with | none => true | some d => r.all fun p => match ops[p]? with | some q => q.dst != some d | none => false)) &&
  (r.all fun p => p != i)
def okT (md : Region.Mode) (ops : Array Oper) : Plan → Bool
  | .nil => true
  | .look i p => hd ops i (rest p) && okT md ops p
  | .make i p => hd ops i (rest p) && ((rest p).all fun k => bound md ops k (i :: rest p)) && okT md ops p
  | .fork i p j q => hd ops i (rest p) && hd ops j (rest q) && (rest p).contains j && (rest q).contains i && ((rest p).all fun k => k == j || (rest q).contains k) && ((rest q).all fun k => k == i || (rest p).contains k) &&
      ((rest p).all fun k => k == j || bound md ops k (i :: rest p)) && okT md ops p && okT md ops q
def whole (ops : Array Oper) (p : Plan) : Bool := (List.range ops.size).all fun i => (rest p).contains i

theorem hd_at {i : Nat} {r : List Nat} (h : hd ops i r = true) : ∃ o, ops[i]? = some o ∧ (match o.op with | .select .. => false | .defer _ => false | _ => true) = true ∧
    (∀ t ∈ o.looksAt ops, o.dst ≠ some t ∧ ∀ p ∈ r, ∀ q, ops[p]? = some q → q.dst ≠ some t) ∧ (∀ d, o.dst = some d → ∀ p ∈ r, ∀ q, ops[p]? = some q → q.dst ≠ some d) ∧ (∀ p ∈ r, p ≠ i) := by
  simp only [hd, Bool.and_eq_true] at h
  obtain ⟨h1, h2⟩ := h
  cases ho : ops[i]? with
  | none => rw [ho] at h1; cases h1
  | some o =>
    rw [ho] at h1
    simp only [Bool.and_eq_true] at h1
    obtain ⟨⟨g1, g2⟩, g3⟩ := h1
    refine ⟨o, rfl, g1, fun t ht => ?_, fun d hd p hp q hq => ?_, fun p hp => ?_⟩
    · have := List.all_eq_true.1 g2 t ht
      simp only [Bool.and_eq_true, bne_iff_ne, List.all_eq_true] at this
      refine ⟨this.1, fun p hp q hq => ?_⟩
      have h5 := this.2 p hp
      rw [hq] at h5
      simpa using h5
    · rw [hd] at g3
      have h5 := List.all_eq_true.1 g3 p hp
      rw [hq] at h5
      simpa using h5
    · have := List.all_eq_true.1 h2 p hp
      simpa using this

/-- what is known between two operations -/
structure St (P : Program) (ops : Array Oper) (Q : Exit → Act → World → Prop) (md : Region.Mode) (post : Plan) (pre : List Nat) (A : Act) (B J : World → Prop) : Prop where
  sub : ∀ w, J w → B w
  op : ∀ i ∈ pre, ∀ o, ops[i]? = some o → (match o.op with | .select .. => false | .defer _ => false | _ => true) = true
  fact : ∀ i ∈ pre, ∀ o, ops[i]? = some o → ∀ w, B w → wpList P ops (fun e a' w' => e = .normal ∧ a' = A ∧ w' = w) [o] A w
  looks : ∀ i ∈ pre, ∀ o, ops[i]? = some o → ∀ t ∈ o.looksAt ops, ∀ p ∈ rest post, ∀ q, ops[p]? = some q → q.dst ≠ some t
  dst : ∀ i ∈ pre, ∀ o, ops[i]? = some o → ∀ d, o.dst = some d → ∀ p ∈ rest post, ∀ q, ops[p]? = some q → q.dst ≠ some d
  ok : okT md ops post = true
  seq : SeqT P ops Q (named ops post) A B J

/-- one more operation is seen through -/
theorem St.step {i : Nat} {post p : Plan} {pre : List Nat} {A : Act} {B J B' J' : World → Prop} {o : Oper} {v : Value} (h : St P ops Q md post pre A B J) (ho : ops[i]? = some o) (hi : i ∈ rest post) (hsub : ∀ k ∈ rest p, k ∈ rest post) (hok : okT md ops p = true)
    (hB : ∀ w, B' w → B w) (hJ : ∀ w, J' w → B' w) (hs : SeqT P ops Q (named ops p) (A.put o.dst v) B' J') : St P ops Q md p pre (A.put o.dst v) B' J' := by
  refine ⟨hJ, h.op, fun k hk ok hok w hw => ?_, fun k hk ok hok t ht p hp => h.looks k hk ok hok t ht p (hsub p hp), fun k hk ok hok d hd p hp => h.dst k hk ok hok d hd p (hsub p hp), hok, hs⟩
  have hl : ∀ t ∈ ok.looksAt ops, o.dst ≠ some t := fun t ht => h.looks k hk ok hok t ht i hi o ho
  refine shift (h.op k hk ok hok) (put_eval A hl v) (put_wanted A hl v) rfl (fun u hu => ?_) (h.fact k hk ok hok w (hB w hw))
  rw [put_comm A (d := o.dst) (e := ok.dst) (fun t ht he => h.dst k hk ok hok t he i hi o ho ht) u v, hu]
theorem St.still {i : Nat} {p : Plan} {pre : List Nat} {A : Act} {B J : World → Prop} {o : Oper} {v : Value} (h : St P ops Q md (.look i p) pre A B J) (ho : ops[i]? = some o)
    (hv : ∀ w, B w → wpList P ops (fun e a' w' => e = .normal ∧ a' = A.put o.dst v ∧ w' = w) [o] A w)
    (hs : SeqT P ops Q (named ops p) (A.put o.dst v) B J) : St P ops Q md p (i :: pre) (A.put o.dst v) B J := by
  have hz := h.ok
  simp only [okT, Bool.and_eq_true] at hz
  have h1 := h.step ho (by simp [rest]) (p := p) (fun k hk => by simp [rest, hk]) hz.2 (fun _ h => h) h.sub hs
  obtain ⟨o', ho', g1, g2, g3, g4⟩ := hd_at hz.1
  clear hz
  rw [ho] at ho'
  cases ho'
  refine ⟨h.sub, fun k hk ok hok => ?_, fun k hk ok hok w hw => ?_, fun k hk ok hok t ht p hp q hq => ?_, fun k hk ok hok d hd p hp q hq => ?_, h1.ok, h1.seq⟩
  · rcases List.mem_cons.1 hk with rfl | hk
    · rw [ho] at hok; cases hok; exact g1
    · exact h1.op k hk ok hok
  · rcases List.mem_cons.1 hk with rfl | hk
    · rw [ho] at hok; cases hok
      have hl : ∀ t ∈ o.looksAt ops, o.dst ≠ some t := fun t ht => (g2 t ht).1
      refine shift g1 (put_eval A hl v) (put_wanted A hl v) (put_defers _ _ _) (fun u hu => ?_) (hv w hw)
      rw [put_put, hu]
    · exact h1.fact k hk ok hok w hw
  · rcases List.mem_cons.1 hk with rfl | hk
    · rw [ho] at hok; cases hok; exact (g2 t ht).2 p hp q hq
    · exact h1.looks k hk ok hok t ht p hp q hq
  · rcases List.mem_cons.1 hk with rfl | hk
    · rw [ho] at hok; cases hok; exact g3 d hd p hp q hq
    · exact h1.dst k hk ok hok d hd p hp q hq
def makes : Plan → Bool
  | .look .. => false
  | _ => true
theorem advance {a : Act} {listed : Array Bool} {B J : World → Prop} : ∀ (post : Plan) (pre : List Nat) (A : Act), St P ops Q md post pre A B J → Agree ops A listed a → (∀ p ∈ rest post, listed.getD p true = false) →
    ∃ post' pre' A', St P ops Q md post' pre' A' B J ∧ Agree ops A' listed a ∧ (∀ p ∈ rest post', listed.getD p true = false) ∧ (∀ j, (j ∈ pre ∨ j ∈ rest post) → j ∈ pre' ∨ j ∈ rest post') ∧ makes post' = true
  | .nil, pre, A, h, ha, hu => ⟨.nil, pre, A, h, ha, hu, fun _ h => h, rfl⟩
  | .make i p, pre, A, h, ha, hu => ⟨.make i p, pre, A, h, ha, hu, fun _ h => h, rfl⟩
  | .fork i p j q, pre, A, h, ha, hu => ⟨.fork i p j q, pre, A, h, ha, hu, fun _ h => h, rfl⟩
  | .look i r, pre, A, h, ha, hu => by
    have hok := h.ok
    simp only [okT, Bool.and_eq_true] at hok
    obtain ⟨o, ho, g1, g2, g3, g4⟩ := hd_at hok.1
    have hs := h.seq
    simp only [named, ho, SeqT] at hs
    have hi := hu i (by simp [rest])
    have key : ∀ v, (∀ w, B w → wpList P ops (fun e a' w' => e = .normal ∧ a' = A.put o.dst v ∧ w' = w) [o] A w) → SeqT P ops Q (named ops r) (A.put o.dst v) B J →
        ∃ post' pre' A', St P ops Q md post' pre' A' B J ∧ Agree ops A' listed a ∧ (∀ p ∈ rest post', listed.getD p true = false) ∧ (∀ j, (j ∈ pre ∨ j ∈ rest (.look i r)) → j ∈ pre' ∨ j ∈ rest post') ∧ makes post' = true := by
      intro v hv hs2
      obtain ⟨post', pre', A', k1, k2, k3, k4, k5⟩ := advance r (i :: pre) _ (h.still ho hv hs2) (ha.more ho hi) (fun p hp => hu p (by simp [rest, hp]))
      refine ⟨post', pre', A', k1, k2, k3, fun j hj => k4 j ?_, k5⟩
      rcases hj with hj | hj
      · exact .inl (List.mem_cons_of_mem _ hj)
      · rcases List.mem_cons.1 hj with rfl | hj
        · exact .inl (by simp)
        · exact .inr hj
    by_cases hw : Region.wanted o (yielded ops A.tmps) = true
    · rw [if_pos hw] at hs
      obtain ⟨v, hv, hs2⟩ := hs
      exact key v hv hs2
    · rw [if_neg hw] at hs
      have hoff : ∀ w, B w → wpList P ops (fun e a' w' => e = .normal ∧ a' = A.put o.dst undef ∧ w' = w) [o] A w := fun w _ => by
        unfold wpList
        rw [if_neg hw]
        exact ⟨rfl, rfl, rfl⟩
      exact key undef hoff hs
/-- behind a plan's looks: which operation may come, and the plan that then goes on -/
theorem next {post : Plan} {A : Act} {B J : World → Prop} {pre : List Nat} (h : St P ops Q md post pre A B J) (hm : makes post = true) {listed : Array Bool} (hu : ∀ p ∈ rest post, listed.getD p true = false) {i : Nat} {o : Oper} (ho : ops[i]? = some o) (hi : i ∈ rest post)
    (hall : ∀ e ∈ o.after, Region.binds md e = true → listed.getD e.on true = true) :
    ∃ p, Owes P ops A o B J (SeqT P ops Q (named ops p)) ∧ okT md ops p = true ∧ (∀ k ∈ rest p, k ∈ rest post ∧ k ≠ i) ∧ (∀ k ∈ rest post, k ≠ i → k ∈ rest p) := by
  have hno : ∀ l : List Nat, (∀ k ∈ l, k ∈ rest post) → bound md ops i l = false := fun l hl => by
    cases hb : bound md ops i l with
    | false => rfl
    | true =>
      unfold bound at hb
      rw [ho] at hb
      obtain ⟨e, he, hbe⟩ := Array.any_eq_true'.1 hb
      simp only [Bool.and_eq_true, List.contains_iff_mem] at hbe
      have h1 := hall e he hbe.1
      rw [hu e.on (hl e.on hbe.2)] at h1
      cases h1
  have hok := h.ok
  have hs := h.seq
  cases post with
  | nil => cases hi
  | look i p => cases hm
  | make c p =>
    simp only [okT, Bool.and_eq_true] at hok
    obtain ⟨⟨k1, k2⟩, k3⟩ := hok
    obtain ⟨oc, hoc, -, -, -, g4⟩ := hd_at k1
    have hci : i = c := by
      rcases List.mem_cons.1 hi with h | h
      · exact h
      · have := List.all_eq_true.1 k2 i h
        rw [hno (c :: rest p) (fun k hk => hk)] at this
        cases this
    subst hci
    rw [ho] at hoc
    cases hoc
    simp only [named, ho, SeqT] at hs
    exact ⟨p, hs, k3, fun k hk => ⟨List.mem_cons_of_mem _ hk, g4 k hk⟩, fun k hk hne => (List.mem_cons.1 hk).resolve_left hne⟩
  | fork c p d q =>
    simp only [okT, Bool.and_eq_true] at hok
    obtain ⟨⟨⟨⟨⟨⟨⟨⟨k1, k2⟩, k3⟩, k4⟩, k5⟩, k6⟩, k7⟩, k8⟩, k9⟩ := hok
    obtain ⟨oc, hoc, -, -, -, g4⟩ := hd_at k1
    obtain ⟨od, hod, -, -, -, g5⟩ := hd_at k2
    simp only [named, hoc, hod, SeqT] at hs
    rw [List.contains_iff_mem] at k3 k4
    have m1 : ∀ k ∈ rest p, k = d ∨ k ∈ rest q := fun k hk => by
      have := List.all_eq_true.1 k5 k hk
      simpa [List.contains_iff_mem] using this
    have m2 : ∀ k ∈ rest q, k = c ∨ k ∈ rest p := fun k hk => by
      have := List.all_eq_true.1 k6 k hk
      simpa [List.contains_iff_mem] using this
    have hcd : i = c ∨ i = d := by
      rcases List.mem_cons.1 hi with h | h
      · exact .inl h
      · have := List.all_eq_true.1 k7 i h
        rw [hno (c :: rest p) (fun k hk => hk)] at this
        simp only [Bool.or_false, beq_iff_eq] at this
        exact .inr this
    rcases hcd with rfl | rfl
    · rw [ho] at hoc
      cases hoc
      exact ⟨p, hs.1, k8, fun k hk => ⟨List.mem_cons_of_mem _ hk, g4 k hk⟩, fun k hk hne => (List.mem_cons.1 hk).resolve_left hne⟩
    · rw [ho] at hod
      cases hod
      refine ⟨q, hs.2, k9, fun k hk => ⟨?_, g5 k hk⟩, fun k hk hne => ?_⟩
      · rcases m2 k hk with rfl | h
        · simp [rest]
        · exact List.mem_cons_of_mem _ h
      · rcases List.mem_cons.1 hk with rfl | h
        · exact k4
        · exact (m1 k h).resolve_left hne
theorem run_made (hmd : md = .any) (hf : fine md ops = true) : ∀ (m : Nat) (left : List Nat) (listed : Array Bool) (a A : Act) (w : World) (B J : World → Prop) (post : Plan) (pre : List Nat), left.length = m → listed.size = ops.size → left.Nodup → (∀ j, j ∈ left ↔ listed.getD j true = false) →
    (∀ j, listed.getD j true = false → j ∈ pre ∨ j ∈ rest post) → (∀ p ∈ rest post, listed.getD p true = false) → (∀ k q, ops[k]? = some q → listed.getD k true = true → ∀ e ∈ q.after, Region.binds md e = true → listed.getD e.on true = true) → Agree ops A listed a → J w → St P ops Q md post pre A B J → wpAny P md ops Q m listed a w := by
  intro m
  induction m with
  | zero =>
    intro left listed a A w B J post pre hm hsz hnd hl hc hu hcl ha hJ hS
    have hn : left = [] := List.length_eq_zero_iff.1 hm
    subst hn
    obtain ⟨post', pre', A', k1, k2, k3, k4, k5⟩ := advance post pre A hS ha hu
    have hp : post' = .nil := by
      cases post' with
      | nil => rfl
      | look i p => cases k5
      | make i p => have := (hl i).2 (k3 i (by simp [rest])); cases this
      | fork i p j q => have := (hl i).2 (k3 i (by simp [rest])); cases this
    subst hp
    have ht : a = A' := by
      have ht : a.tmps = A'.tmps := by
        refine Array.ext k2.size fun t h1 h2 => ?_
        have := k2.at' t fun j o _ _ => by
          have := (hl j).2
          cases hx : listed.getD j true with
          | true => rfl
          | false => cases this hx
        simpa [h1, h2] using this
      have hd := k2.defers
      cases a; cases A'
      simp only at ht hd
      rw [ht, hd]
    subst ht
    refine ⟨?_, k1.seq w hJ⟩
    cases hr : Region.ready md ops listed with
    | nil => rfl
    | cons i rs =>
      have : i ∈ Region.ready md ops listed := by rw [hr]; simp
      have := (hl i).2 (mem_ready.1 this).1
      cases this
  | succ m ih =>
    intro left listed a A w B J post pre hm hsz hnd hl hc hu hcl ha hJ hS
    refine ⟨fun hr => ?_, fun i hi => ?_⟩
    · rw [ready_some hf left listed hsz hl hr] at hm; simp at hm
    obtain ⟨post', pre', A', k1, k2, k3, k4, k5⟩ := advance post pre A hS ha hu
    obtain ⟨hun, o, ho, hall⟩ := mem_ready.1 hi
    obtain ⟨f1, f2, f3, f4⟩ := fine_at hf ho
    have his : i < ops.size := (Array.getElem?_eq_some_iff.1 ho).1
    have hallD : ∀ e ∈ o.after, Region.binds md e = true → listed.getD e.on true = true := fun e he hb => by
      have h1 := hall e he hb
      rcases Nat.lt_or_ge e.on listed.size with hes | hes
      · simp [hes] at h1 ⊢
        exact h1
      · simp [show ¬ e.on < listed.size by omega]
    have hlook : ∀ t ∈ o.looksAt ops, ∀ j p, ops[j]? = some p → p.dst = some t → listed.getD j true = true := by
      intro t ht j p hj hp
      obtain ⟨e, he, hb, rfl⟩ := f4 t ht j p hj hp
      exact hallD e he hb
    have heval := k2.eval hlook
    have hwant := k2.wanted hlook
    have hmem : i ∈ left := (hl i).2 hun
    have hnext : ∀ (A1 : Act) (B1 J1 : World → Prop) (post1 : Plan) (pre1 : List Nat) (v : Value) (w' : World), A1.put o.dst v = A1 → Agree ops A1 listed a → J1 w' → St P ops Q md post1 pre1 A1 B1 J1 →
        (∀ j, listed.getD j true = false → j ≠ i → j ∈ pre1 ∨ j ∈ rest post1) → (∀ p ∈ rest post1, listed.getD p true = false ∧ p ≠ i) → wpAny P md ops Q m (listed.setIfInBounds i true) (a.put o.dst v) w' := by
      intro A1 B1 J1 post1 pre1 v w' hv hag hJ1 hS1 hc1 hu1
      refine ih (left.erase i) _ _ A1 w' B1 J1 post1 pre1 (by rw [List.length_erase_of_mem hmem, hm]; rfl) (by simpa using hsz) (hnd.erase i) (fun j => ?_) (fun j hj => ?_) (fun p hp => ?_) (fun k q hq hk e he hb => ?_) (hag.put ho hv) hJ1 hS1
      · rw [hnd.mem_erase_iff, hl j]
        by_cases e : i = j
        · subst e
          simp [show i < listed.size by omega]
        · rw [getD_set_ne true e]
          exact ⟨fun h => h.2, fun h => ⟨fun h' => e h'.symm, h⟩⟩
      · by_cases e : i = j
        · subst e
          simp [show i < listed.size by omega] at hj
        · rw [getD_set_ne true e] at hj
          exact hc1 j hj (fun h => e h.symm)
      · rw [getD_set_ne true (fun e => (hu1 p hp).2 e.symm)]
        exact (hu1 p hp).1
      · have hold : listed.getD e.on true = true := by
          by_cases ek : i = k
          · subst ek
            rw [ho] at hq
            cases hq
            exact hallD e he hb
          · rw [getD_set_ne true ek] at hk
            exact hcl k q hq hk e he hb
        by_cases ee : i = e.on
        · rw [← ee]
          simp [show i < listed.size by omega]
        · rw [getD_set_ne true ee]
          exact hold
    have hcase : i ∈ pre' ∨ i ∈ rest post' := k4 i (hc i hun)
    have hkeep : ∀ v w', A'.put o.dst v = A' → w' = w → i ∉ rest post' → wpAny P md ops Q m (listed.setIfInBounds i true) (a.put o.dst v) w' := fun v w' hv hw hn =>
      hnext A' B J post' pre' v w' hv k2 (hw ▸ hJ) k1 (fun j hj hne => k4 j (hc j hj)) (fun p hp => ⟨k3 p hp, fun e => hn (e ▸ hp)⟩)
    by_cases hpost : i ∈ rest post'
    · obtain ⟨p, ⟨hwc, howe⟩, hokp, hsub, hsup⟩ := next k1 k5 k3 ho hpost hallD
      have h := howe w hJ
      have hmake : ∀ u w', (∃ v B' J', A'.put o.dst u = A'.put o.dst v ∧ J' w' ∧ SeqT P ops Q (named ops p) (A'.put o.dst v) B' J' ∧ (∀ w, J' w → B' w) ∧ (endsAll2 ops o = true ∨ ∀ w, B' w → B w)) → wpAny P md ops Q m (listed.setIfInBounds i true) (a.put o.dst u) w' := by
        rintro u w' ⟨v, B', J', h1, h2, h3, h4, h5⟩
        rw [← h1] at h3
        rcases h5 with h5 | h5
        · have hend := endsAll2_at (listed := listed) h5 hsz his hun (fun e he hb => hallD e he (by rw [hmd]; exact hb)) (fun k q hq hk e he hb => hcl k q hq hk e he (by rw [hmd]; exact hb))
          exact hnext (A'.put o.dst u) B' J' p [] u w' (put_put _ _ _ _) (k2.more ho (k3 i hpost)) h2 ⟨h4, fun k hk => (by cases hk), fun k hk => (by cases hk), fun k hk => (by cases hk), fun k hk => (by cases hk), hokp, h3⟩ (fun j hj hne => (hne (hend j hj)).elim) (fun q hq => ⟨k3 q (hsub q hq).1, (hsub q hq).2⟩)
        refine hnext (A'.put o.dst u) B' J' p pre' u w' (put_put _ _ _ _) (k2.more ho (k3 i hpost)) h2 (k1.step ho hpost (fun k hk => (hsub k hk).1) hokp h5 h4 h3) (fun j hj hne => ?_) (fun q hq => ⟨k3 q (hsub q hq).1, (hsub q hq).2⟩)
        rcases k4 j (hc j hj) with h | h
        · exact .inl h
        · exact .inr (hsup j h hne)
      unfold wpOp
      simp only [ho]
      unfold wpList at h
      rw [hwant]
      simp only [hwc, if_true] at h ⊢
      rcases h with h | ⟨_, _, _, h, _⟩
      case inr => cases h
      refine .inl ?_
      unfold Oper.wp at h ⊢
      rw [execOp_congr o f1 heval]
      generalize (execOp A'.eval o).run P w = x at *
      cases x with
      | ok x w' =>
        cases x <;> simp only [Oper.upon] at h ⊢
        case value v => exact hmake v w' h.2
        case skip => exact hmake _ w' h.2
        case defer d =>
          obtain ⟨v, B', J', h1, _⟩ := h.2
          have := congrArg (fun b : Act => b.defers.length) h1
          simp only [put_defers] at this
          simp at this
        case enter f args =>
          refine Calls.mono h fun e w'' he => ?_
          cases e with
          | returned v => exact hmake v w'' he.2
          | panicked c => cases he.1
          | outgrown => obtain ⟨_, _, h, _⟩ := he; cases h
        case row row args => exact Rows.mono h fun v w'' he => hmake v w'' he.2
      | halt x w' =>
        cases x <;> simp only [Oper.upon] at h ⊢
        case panic u => cases h.1
    · have hpre : i ∈ pre' := hcase.resolve_right hpost
      have h := k1.fact i hpre o ho w (k1.sub w hJ)
      unfold wpOp
      simp only [ho]
      unfold wpList at h
      rw [hwant]
      split
      · rename_i hw
        simp only [hw, if_true] at h
        rcases h with h | ⟨_, _, _, h, _⟩
        case inr => cases h
        refine .inl ?_
        unfold Oper.wp at h ⊢
        rw [execOp_congr o f1 heval]
        generalize (execOp A'.eval o).run P w = r at *
        cases r with
        | ok x w' =>
          cases x <;> simp only [Oper.upon] at h ⊢
          case value v => exact hkeep v w' h.2.1 h.2.2 hpost
          case skip => exact hkeep _ w' h.2.1 h.2.2 hpost
          case defer d =>
            have := congrArg List.length (put_self h.2.1).1
            simp at this
          case enter f args =>
            refine Calls.mono h fun e w'' he => ?_
            cases e with
            | returned v => exact hkeep v w'' he.2.1 he.2.2 hpost
            | panicked c => cases he.1
            | outgrown => obtain ⟨_, _, h, _⟩ := he; cases h
          case row row args => exact Rows.mono h fun v w'' he => hkeep v w'' he.2.1 he.2.2 hpost
        | halt x w' =>
          cases x <;> simp only [Oper.upon] at h ⊢
          case panic u => cases h.1
      · rename_i hw
        simp only [hw] at h
        exact hkeep _ w h.2.1 rfl hpost

/-- the walk, behind a name that nothing unfolds -/
structure WalkT (P : Program) (ops : Array Oper) (Q : Exit → Act → World → Prop) (l : PlanO) (a : Act) (B J : World → Prop) : Prop where
  go : SeqT P ops Q l a B J
theorem WalkT.nil {a : Act} {B J : World → Prop} (h : ∀ w, J w → Q .normal a w) : WalkT P ops Q .nil a B J := ⟨h⟩
theorem WalkT.on {a : Act} {B J : World → Prop} {o : Oper} {r : PlanO} (hw : asks ops.toList o a.tmps.toList = true) {v : Value}
    (h1 : ∀ w, B w → wpList P ops (Lets (a.put o.dst v) w) [o] a w) (h : WalkT P ops Q r (a.put o.dst v) B J) : WalkT P ops Q (.look o r) a B J := by
  have hw' : Region.wanted o (yielded ops a.tmps) = true := (asks_eq _ _ _).trans hw
  refine ⟨?_⟩
  simp only [SeqT, hw', if_true]
  exact ⟨v, fun w hB => Lets.eq ▸ h1 w hB, h.go⟩
theorem WalkT.off {a : Act} {B J : World → Prop} {o : Oper} {r : PlanO} (hw : asks ops.toList o a.tmps.toList = false) (h : WalkT P ops Q r (a.put o.dst undef) B J) : WalkT P ops Q (.look o r) a B J := by
  have hw' : Region.wanted o (yielded ops a.tmps) = false := (asks_eq _ _ _).trans hw
  refine ⟨?_⟩
  simp only [SeqT, hw']
  exact h.go
structure MadeT (P : Program) (ops : Array Oper) (Q : Exit → Act → World → Prop) (r : PlanO) (a : Act) (o : Oper) (B : World → Prop) (e : Exit) (a' : Act) (w' : World) : Prop where
  e : e = .normal
  on : ∃ v B' J', a' = a.put o.dst v ∧ J' w' ∧ (∀ w, J' w → B' w) ∧ (endsAll2 ops o = true ∨ ∀ w, B' w → B w) ∧ WalkT P ops Q r (a.put o.dst v) B' J'
theorem owes {a : Act} {B J : World → Prop} {o : Oper} {r : PlanO} (hw : asks ops.toList o a.tmps.toList = true) (h1 : ∀ w, J w → wpList P ops (MadeT P ops Q r a o B) [o] a w) : Owes P ops a o B J (SeqT P ops Q r) := by
  have hw' : Region.wanted o (yielded ops a.tmps) = true := (asks_eq _ _ _).trans hw
  have he : MadeT P ops Q r a o B = fun e a' w' => e = .normal ∧ ∃ v B' J', a' = a.put o.dst v ∧ J' w' ∧ SeqT P ops Q r (a.put o.dst v) B' J' ∧ (∀ w, J' w → B' w) ∧ (endsAll2 ops o = true ∨ ∀ w, B' w → B w) := by
    funext e a' w'
    exact propext ⟨fun h => ⟨h.e, let ⟨v, B', J', h1, h2, h3, h4, h5⟩ := h.on; ⟨v, B', J', h1, h2, h5.go, h3, h4⟩⟩, fun h => ⟨h.1, let ⟨v, B', J', h1, h2, h3, h4, h5⟩ := h.2; ⟨v, B', J', h1, h2, h4, h5, ⟨h3⟩⟩⟩⟩
  exact ⟨hw', fun w hJ => he ▸ h1 w hJ⟩
theorem WalkT.make {a : Act} {B J : World → Prop} {o : Oper} {r : PlanO} (hw : asks ops.toList o a.tmps.toList = true) (h1 : ∀ w, J w → wpList P ops (MadeT P ops Q r a o B) [o] a w) : WalkT P ops Q (.make o r) a B J := ⟨owes hw h1⟩
theorem WalkT.fork {a : Act} {B J : World → Prop} {o o' : Oper} {r r' : PlanO} (hw : asks ops.toList o a.tmps.toList = true) (hw' : asks ops.toList o' a.tmps.toList = true) (h1 : ∀ w, J w → wpList P ops (MadeT P ops Q r a o B) [o] a w) (h2 : ∀ w, J w → wpList P ops (MadeT P ops Q r' a o' B) [o'] a w) :
    WalkT P ops Q (.fork o r o' r') a B J := ⟨owes hw h1, owes hw' h2⟩

theorem okT_lt : ∀ {p : Plan}, okT md ops p = true → ∀ k ∈ rest p, k < ops.size
  | .nil, _, k, hk => by cases hk
  | .look i p, h, k, hk => by
    simp only [okT, Bool.and_eq_true] at h
    rcases List.mem_cons.1 hk with rfl | hk
    · obtain ⟨o, ho, -⟩ := hd_at h.1
      exact (Array.getElem?_eq_some_iff.1 ho).1
    · exact okT_lt h.2 k hk
  | .make i p, h, k, hk => by
    simp only [okT, Bool.and_eq_true] at h
    rcases List.mem_cons.1 hk with rfl | hk
    · obtain ⟨o, ho, -⟩ := hd_at h.1.1
      exact (Array.getElem?_eq_some_iff.1 ho).1
    · exact okT_lt h.2 k hk
  | .fork i p j q, h, k, hk => by
    simp only [okT, Bool.and_eq_true] at h
    rcases List.mem_cons.1 hk with rfl | hk
    · obtain ⟨o, ho, -⟩ := hd_at h.1.1.1.1.1.1.1.1
      exact (Array.getElem?_eq_some_iff.1 ho).1
    · exact okT_lt h.1.2 k hk
theorem regionT {id : Nat} {a : Act} {w : World} (plan : Plan) (B : World → Prop) (hm : P.follows .mixedOrders = true) (hf : fine .any ops = true) (hok : okT .any ops plan = true) (hwh : whole ops plan = true) (hB : B w.drew)
    {l : PlanO} (hl : named ops plan = l) (hs : WalkT P ops Q l a B (fun W => W = w.drew)) : (Code.region id ops true).wp P Q a w := by
  subst hl
  refine wp_region_any hm ?_
  have h := run_made (md := .any) (P := P) (Q := Q) rfl hf ops.size (List.range ops.size) (Array.replicate ops.size false) a a w.drew B (fun W => W = w.drew) plan [] (by simp) (by simp) List.nodup_range (fun j => ?_) (fun j hj => ?_) (fun p hp => ?_) (fun k q hq hk => ?_) ⟨rfl, rfl, fun _ _ => rfl⟩ rfl
    ⟨fun W h => h ▸ hB, (fun i hi => nomatch hi), (fun i hi => nomatch hi), (fun i hi => nomatch hi), (fun i hi => nomatch hi), hok, hs.go⟩
  · exact h
  · rw [List.mem_range]
    by_cases h : j < ops.size
    · simp [h]
    · simp [h]
  · right
    have hjs : j < ops.size := by
      rcases Nat.lt_or_ge j ops.size with h | h
      · exact h
      · simp [h] at hj
    have := List.all_eq_true.1 hwh j (List.mem_range.2 hjs)
    simpa [List.contains_iff_mem] using this
  · simp [okT_lt hok p hp]
  · have := (Array.getElem?_eq_some_iff.1 hq).1
    simp [this] at hk
end
end Pt
end Go.Proofs.Yteiniahikhiadaa

namespace Go.Proofs.Yteiniahikhiadaa
open Go.RowKit Go.Maps
namespace Wa
open Ce Se
attribute [local go_sem] Oper.semAt_some
/-- from world to world: the blocks of Fr are as they were -/
def KpF (Fr : Nat → Prop) (A B : World) : Prop := A.heap.size ≤ B.heap.size ∧ ∀ i, Fr i → B.heap[i]? = A.heap[i]?
theorem KpF.refl (Fr : Nat → Prop) (A : World) : KpF Fr A A := ⟨Nat.le_refl _, fun _ _ => rfl⟩
theorem KpF.trans {Fr : Nat → Prop} {A B C : World} (h : KpF Fr A B) (k : KpF Fr B C) : KpF Fr A C := ⟨Nat.le_trans h.1 k.1, fun i hi => (k.2 i hi).trans (h.2 i hi)⟩
theorem KpF.loop {Fr : Nat → Prop} {W : World} {l : Nat} {r : Loop} (h : ∀ i, Fr i → i < l) : KpF Fr W (W.putObj l (.loop r)) := by
  refine ⟨by simp, fun i hi => World.putObj_heap_other ?_⟩
  have := h i hi
  omega
theorem KpF.of_grown {Fr : Nat → Prop} {A B : World} {row : Option Nat} (h : A.grownBy B row) (hr : ∀ i, Fr i → i < A.heap.size ∧ some i ≠ row) : KpF Fr A B := ⟨h.size, fun i hi => h.block i (hr i hi).1 (hr i hi).2⟩
theorem KpF.of_kept {Fr Fr' : Nat → Prop} {A B : World} (h : Kept Fr' A B) (hr : ∀ i, Fr i → Fr' i) : KpF Fr A B := ⟨h.size, fun i hi => h.block i (hr i hi)⟩
theorem KpF.ob {Fr : Nat → Prop} {A B : World} {b : Nat} {t : TypeId} {cs : Array Value} (h : KpF Fr A B) (ho : Ob A b t cs) (hx : Fr b) : Ob B b t cs := (h.2 b hx).trans ho
theorem KpF.sl {Fr : Nat → Prop} {A B : World} {lo hi size n : Nat} {v : Value} {xs : List Value} (h : KpF Fr A B) (hs : Sl A lo hi size v n xs) (hx : ∀ i, lo ≤ i → i < hi → Fr i) : Sl B lo hi size v n xs :=
  hs.keep fun b _ h1 h2 => World.cell?_of_block (h.2 b (hx b h1 h2))
/-- a list's parts of 63 -/
def part (L : List UInt8) (k : Nat) : List UInt8 := (L.drop (63 * k)).take 63
def partsOf (L : List UInt8) : List (List UInt8) := (List.range (nch L)).map (part L)
theorem partsOf_len (L : List UInt8) : (partsOf L).length = nch L := by simp [partsOf]
theorem partsOf_get (L : List UInt8) {k : Nat} (hk : k < (partsOf L).length) : (partsOf L)[k] = part L k := by simp [partsOf]
theorem part_len (L : List UInt8) (k : Nat) : (part L k).length = min 63 (L.length - 63 * k) := by simp [part]
theorem nch_lt {L : List UInt8} {k : Nat} : k < nch L ↔ 63 * k < L.length := by unfold nch; omega
set_option maxRecDepth 100000 in
set_option maxHeartbeats 4000000 in
theorem chunk_reads (n : Nat) (hn : 1 ≤ n) (c1 c2 : Nat) (A : Option Addr) (c : Nat) (L : List UInt8) (lo hi : Nat) (w : World) (h1 : Ob w c1 34 #[.slice A L.length c]) (h2 : Ob w c2 3 #[.int .i64 63]) (hL : BytesAt w lo hi (.slice A L.length c) L) (hhi : hi ≤ w.heap.size) (hl : L.length ≤ 1000000) :
    Rr.Reads Fence.wide n Try.prog 96 #[.pointer (some ⟨c1, 0, none⟩), .pointer (some ⟨c2, 0, none⟩)] (fun d v W => BytesAt W lo hi v d) (KpF fun i => i = c1 ∨ i = c2 ∨ (lo ≤ i ∧ i < hi)) (fun xs => xs = partsOf L) (fun pre => pre <+: partsOf L) (fun pre d => pre ++ [d] <+: partsOf L) w := by
  intro l J Jx W hW hJ hJx hY h0
  have g1 := h1.same hW
  have g2 := h2.same hW
  have gL := hL.below (hW.mono hhi)
  have hws := hW.size
  have hPL := partsOf_len L
  obtain ⟨A', c', e', hc1, hc2⟩ := hL.form
  cases e'
  unfold maxLen at hc2
  clear h1 h2 hL
  refine callsIn_of_wp Try.func96 rfl trivial ?_ rfl
  simp only [Try.ntmps96, List.size_toArray, List.length_cons, List.length_nil, Nat.reduceAdd, Nat.reduceSub, Array.replicate_succ, Array.replicate_zero, List.push_toArray, List.append_toArray, List.nil_append, List.cons_append]
  gi_wp2
  gi_loopw [4, 5] (fun i _ wr => ∃ k : Nat, k ≤ nch L ∧ i = .int .i64 ((63 * k : Nat) : Int) ∧ J ((partsOf L).take k) wr ∧ Ob wr c1 34 #[.slice A L.length c] ∧ Ob wr c2 3 #[.int .i64 63] ∧ BytesAt wr lo hi (.slice A L.length c) L ∧ W.heap.size ≤ wr.heap.size) (fun i _ _ => 63 * nch L - (intOf i).toNat)
  case atStart => exact ⟨0, by omega, rfl, h0, g1, g2, gL, Nat.le_refl _⟩
  case round =>
    obtain ⟨k, hk, rfl, hJr, hO1, hO2, hLr, hsr⟩ := hrel
    clear h0 g1 g2 gL
    have y1 := hO1.cell (j := 0) (v := .slice A L.length c) rfl
    by_cases hlt : k < nch L
    · have hlt2 := nch_lt.1 hlt
      have hd : decide (63 * k < L.length) = true := by simpa using hlt2
      obtain ⟨p, o, hA, hp1, hp2, -⟩ := hLr.cellAt (j := 0) (by omega)
      subst hA
      obtain ⟨m, hm⟩ : ∃ m : Nat, 63 * k = m := ⟨_, rfl⟩
      rw [hm] at hlt2 hd
      rw [hm]
      have HM := Lib.hid hm
      have hcm : ¬ c = m := by omega
      have k1 : (0 : Int) ≤ (m : Int) := by omega
      have k2 : (m : Int) ≤ (L.length : Int) := by omega
      have k3 : (L.length : Int) ≤ (c : Int) := by omega
      have hdr := (Below.refl wr.heap.size wr).drew
      have z1 := (hO1.same hdr).cell (j := 0) (v := .slice (some ⟨p, o, none⟩) L.length c) rfl
      have z2 := (hO2.same hdr).cell (j := 0) (v := .int .i64 63) rfl
      have HO1 := Lib.hid (hO1.same hdr)
      have HO2 := Lib.hid (hO2.same hdr)
      have HLr := Lib.hid (hLr.below (hdr.mono (by omega)))
      have HJr := Lib.hid (hJ _ _ _ none hJr (only_of_below hdr none) (fun r e => by cases e))
      clear hO1 hO2 hLr hJr hm
      gi_wp2_with fail
      refine wpIn_wide.2 ?_
      refine Pu.regionM [(0, false), (1, false), (2, false), (3, false), (4, false), (5, false), (6, false)] (fun V => V = wr.drew) hmx (by kernel_rfl) (by kernel_rfl) (by kernel_rfl) rfl rfl ?_
      simp only [Pu.named, List.filterMap_cons, List.filterMap_nil, List.getElem?_toArray, List.getElem?_cons_succ, List.getElem?_cons_zero, Option.map_some]
      iterate 7 (apply Pu.WalkM.on (by rfl)
                 · rintro V rfl
                   go_wp2_with fail
                   refine ⟨rfl, ?_, rfl⟩
                   try simp only [Act.put, List.setIfInBounds_toArray, List.set_cons_succ, List.set_cons_zero]
                   rfl
                 simp only [Act.put, List.setIfInBounds_toArray, List.set_cons_succ, List.set_cons_zero])
      obtain ⟨q, hq⟩ : ∃ q : Nat, min 63 (L.length - m) = q := ⟨_, rfl⟩
      have hq1 : 1 ≤ q := by omega
      have hq2 : m + q ≤ L.length := by omega
      have hq3 : q ≤ 63 := by omega
      rw [show min (63 : Int) ((L.length - m : Nat) : Int) = (q : Int) by omega]
      refine Pu.WalkM.nil ?_
      rintro V rfl
      have hpt : (L.drop m).take q = part L k := by
        unfold part
        rw [HM.out, List.take_eq_take_iff, List.length_drop]
        omega
      have hpart : BytesAt wr.drew lo hi (.slice (some ⟨p, o + m, none⟩) q q) (part L k) := by
        have h1 := onFrom HLr.out (k := m) (by omega)
        rw [if_neg hcm] at h1
        have h2 := BytesAt.clip (upto h1 (k := q) (by rw [List.length_drop]; omega))
        rw [hpt] at h2
        exact h2
      have HP := Lib.hid hpart
      have htk : (partsOf L).take (k + 1) = (partsOf L).take k ++ [part L k] := by
        rw [List.take_succ_eq_append_getElem (by rw [hPL]; exact hlt), partsOf_get]
      have HTK := Lib.hid htk
      have hpre : (partsOf L).take k ++ [part L k] <+: partsOf L := by
        rw [← htk]
        exact List.take_prefix _ _
      have HY := Lib.hid (hY _ _ _ _ HJr.out hpre hpart)
      have k4 : (0 : Int) ≤ (m : Int) + (q : Int) := by omega
      have k5 : (m : Int) ≤ (m : Int) + (q : Int) := by omega
      have k6 : (m : Int) + (q : Int) ≤ (c : Int) := by omega
      have k7 : ¬ (m : Int) + (q : Int) = (m : Int) := by omega
      clear hpt hpart htk hpre hq
      gi_wp2
      obtain ⟨fn, tmps, assign, body, hy, hR⟩ := HY.out
      rw [show Sem.run _ _ _ = _ from hy]
      gi_wp2
      refine hR.mono ?_
      have hsd := hdr.size
      rintro e W4 (⟨rfl, hJ4, hk4⟩ | ⟨rfl, hJx4⟩)
      · rw [← HTK.out] at hJ4
        have hO1 := hk4.ob HO1.out (.inl rfl)
        have hO2 := hk4.ob HO2.out (.inr (.inl rfl))
        have hL4 := hk4.sl HLr.out (fun i a b => .inr (.inr ⟨a, b⟩))
        have x2 := hO2.cell (j := 0) (v := .int .i64 63) rfl
        have hs4 := hk4.1
        clear hY HY hy hR
        gi_wp2
        go_roundw
        case rel => exact ⟨k + 1, by omega, num (by have := HM.out; omega), hJ4, hO1, hO2, hL4, by omega⟩
        case measure =>
          have := HM.out
          have hk5 : 63 * (k + 1) ≤ 63 * nch L := Nat.mul_le_mul_left 63 (by omega)
          simp [intOf]
          omega
      · rw [← HTK.out] at hJx4
        clear hY HY hy hR
        gi_wp2
        refine bodyPost_ret (results_none rfl _ _ _) rfl ?_
        exact ⟨⟨_, rfl⟩, .inr ⟨_, List.take_prefix _ _, hJx4⟩⟩
    · obtain rfl : k = nch L := by omega
      have hn2 : ¬ 63 * nch L < L.length := fun h => absurd (nch_lt.2 h) (by omega)
      have hd : decide (63 * nch L < L.length) = false := by simpa using hn2
      rw [List.take_of_length_le (by rw [hPL]; omega)] at hJr
      gi_wp2
      go_end0
      exact ⟨⟨_, rfl⟩, .inl ⟨_, rfl, hJr⟩⟩
end Wa
end Go.Proofs.Yteiniahikhiadaa

namespace Go.Proofs.Yteiniahikhiadaa
open Go.RowKit Go.Maps
namespace Wa
open Ce Se
theorem chunk_calls (A : Option Addr) (n c : Nat) (w : World) :
    Calls Try.prog 85 #[.slice A n c, .int .i64 63] w fun e w' => e = .returned (.func (.func 96) #[] #[.pointer (some ⟨w.heap.size, 0, none⟩), .pointer (some ⟨w.heap.size + 1, 0, none⟩)]) ∧ (w.alloc (.cells #[.slice A n c] 34)).alloc (.cells #[.int .i64 63] 3) = w' := by
  go_enter Try.func85, Try.ntmps85
  go_wp2
  go_ret
  exact ⟨rfl, rfl⟩
/-- bytes written over others -/
theorem row_cells {base g n cap : Nat} : ∀ (p : List UInt8) (w : World) (l : List UInt8) (o : Nat), w.ownsRow base 5 1 (.slice (some ⟨g, 0, none⟩) n cap) n (bytesV l) → o + p.length ≤ l.length →
    (w.setCells g o (bytesV p)).ownsRow base 5 1 (.slice (some ⟨g, 0, none⟩) n cap) n (bytesV (l.take o ++ p ++ l.drop (o + p.length)))
  | [], w, l, o, h, _ => by
    rw [List.append_nil, List.length_nil, Nat.add_zero, List.take_append_drop]
    exact h
  | u :: r, w, l, o, h, hl => by
    rw [List.length_cons] at hl
    obtain ⟨h1, -⟩ := h.stored o (.int .u8 (u.toNat : Int))
    rw [← bytesV_set] at h1
    have h2 := row_cells r _ _ (o + 1) h1 (by rw [List.length_set]; omega)
    have e1 : (l.set o u).take (o + 1) = l.take o ++ [u] := by
      rw [List.take_succ_eq_append_getElem (by rw [List.length_set]; omega), List.getElem_set_self]
      congr 1
      rw [List.take_set_of_le (Nat.le_refl _)]
    have e2 : (l.set o u).drop (o + 1 + r.length) = l.drop (o + (u :: r).length) := by
      rw [List.drop_set_of_lt (by omega), List.length_cons]
      congr 1
      omega
    rw [e1, e2] at h2
    show (World.setCells _ g (o + 1) (bytesV r)).ownsRow _ _ _ _ _ _
    simpa using h2
theorem blk_set {p : List UInt8} (h : p.length ≤ 63) : (p ++ List.replicate (64 - p.length) 0).set 63 (UInt8.ofNat p.length) = blkOf p := by
  unfold blkOf
  rw [show 64 - p.length = (63 - p.length) + 1 by omega, List.replicate_succ', ← List.append_assoc, List.set_append_right _ _ (by simp; omega)]
  congr 1
  simp only [List.length_append, List.length_replicate]
  rw [show 63 - (p.length + (63 - p.length)) = 0 by omega]
  rfl
theorem chF_part (L : List UInt8) (k : Nat) : chF L k = blkOf (part L k) := rfl
theorem keepsFrom_kept {B : Nat} {Fr : Nat → Prop} {W W' : World} (h : Kept Fr W W') (hF : ∀ i, B ≤ i → i < W.heap.size → Fr i) : KeepsFrom B W W' :=
  ⟨h.size, fun k _ hk ho _ => (h.block k (hF k hk (Array.getElem?_eq_some_iff.1 ho).1)).trans ho⟩
/-- what put knows behind so many parts; w0: where its boxes begin; lo, hi: where the parts lie -/
structure PutI (w5 : World) (base b d sb mb w0 lo hi half i0 : Nat) (tv : Value) (G : Nat → Dv × Int) (pre : List (List UInt8)) (W : World) : Prop where
  bl : Ob W w0 28 #[.pointer (some ⟨b, 0, none⟩)]
  bh : Ob W (w0 + 1) 3 #[.int .i64 half]
  bt : ∃ v, Ob W (w0 + 1 + 1) 34 #[v] ∧ (pre = [] ∧ v = tv ∨ ∃ p, pre.getLast? = some p ∧ BytesAt W lo hi v p)
  br : Ob W (w0 + 1 + 1 + 1) 34 #[.slice none 0 0]
  be : Ob W (w0 + 1 + 1 + 1 + 1) 25 #[.int .i64 0]
  bi : Ob W (w0 + 1 + 1 + 1 + 1 + 1) 3 #[.int .i64 ((i0 + pre.length : Nat) : Int)]
  dv : DvAt W base d sb mb (G pre.length).1
  ok : (G pre.length).2 = 0
  fr : Kept (fun i => i < w0 ∧ i ≠ d ∧ i ≠ sb ∧ i ≠ mb) w5 W
  sz : w5.heap.size ≤ W.heap.size
/-- how put is left when a sector is refused -/
structure PutX (w5 : World) (base d sb mb w0 : Nat) (G : Nat → Dv × Int) (pre : List (List UInt8)) (W : World) : Prop where
  br : Ob W (w0 + 1 + 1 + 1) 34 #[.slice none 0 0]
  be : Ob W (w0 + 1 + 1 + 1 + 1) 25 #[.int .i64 (G pre.length).2]
  dv : DvAt W base d sb mb (G pre.length).1
  bad : (G pre.length).2 ≠ 0
  fr : Kept (fun i => i < w0 ∧ i ≠ d ∧ i ≠ sb ∧ i ≠ mb) w5 W
  sz : w5.heap.size ≤ W.heap.size
section
variable {w5 W W' : World} {base b d sb mb w0 lo hi half i0 : Nat} {tv : Value} {G : Nat → Dv × Int} {pre : List (List UInt8)}
theorem PutI.kept (h : PutI w5 base b d sb mb w0 lo hi half i0 tv G pre W) (hk : Kept (fun i => i < w5.heap.size) W W') (hd : d < w0 ∧ sb < w0 ∧ mb < w0) (hw : w0 + 5 < w5.heap.size) (hh : hi ≤ w5.heap.size) : PutI w5 base b d sb mb w0 lo hi half i0 tv G pre W' := by
  refine ⟨hk.ob h.bl (by omega), hk.ob h.bh (by omega), ?_, hk.ob h.br (by omega), hk.ob h.be (by omega), hk.ob h.bi (by omega), h.dv.kept hk (by omega) (by omega) (by omega), h.ok, h.fr.trans (hk.mono fun i hi => by omega), Nat.le_trans h.sz hk.size⟩
  obtain ⟨v, h1, h2⟩ := h.bt
  refine ⟨v, hk.ob h1 (by omega), h2.imp id ?_⟩
  rintro ⟨p, h3, h4⟩
  exact ⟨p, h3, hk.sl h4 fun i a b => by omega⟩
theorem PutX.kept (h : PutX w5 base d sb mb w0 G pre W) (hk : Kept (fun i => i < w5.heap.size) W W') (hd : d < w0 ∧ sb < w0 ∧ mb < w0) (hw : w0 + 5 < w5.heap.size) : PutX w5 base d sb mb w0 G pre W' :=
  ⟨hk.ob h.br (by omega), hk.ob h.be (by omega), h.dv.kept hk (by omega) (by omega) (by omega), h.bad, h.fr.trans (hk.mono fun i hi => by omega), Nat.le_trans h.sz hk.size⟩
end
end Wa
end Go.Proofs.Yteiniahikhiadaa

namespace Go.Proofs.Yteiniahikhiadaa
open Go.RowKit Go.Maps
namespace Wa
open Ce Se
attribute [local go_sem] Oper.semAt_some
/-- what is left behind the last whole sector -/
theorem rest_last {L : List UInt8} {m : Nat} (hm : m + 1 = nch L) : (part L m).length ≤ 63 ∧ (if (part L m).length = 63 then L.drop (63 * (L.length / 63)) = [] else L.drop (63 * (L.length / 63)) = part L m) := by
  have h1 : 63 * m < L.length := nch_lt.1 (by omega)
  have h2 : ¬ 63 * (m + 1) < L.length := fun h => absurd (nch_lt.2 h) (by omega)
  have hp := part_len L m
  refine ⟨by omega, ?_⟩
  split
  · apply List.drop_eq_nil_of_le
    omega
  · have hq : L.length / 63 = m := by omega
    rw [hq]
    unfold part
    rw [List.take_of_length_le (by rw [List.length_drop]; omega)]
theorem last_parts {L : List UInt8} {p : List UInt8} (h : (partsOf L).getLast? = some p) : ∃ m, m + 1 = nch L ∧ p = part L m := by
  have hl := partsOf_len L
  rw [List.getLast?_eq_getElem?] at h
  obtain ⟨h1, h2⟩ := List.getElem?_eq_some_iff.1 h
  rw [partsOf_get] at h2
  exact ⟨(partsOf L).length - 1, by omega, h2.symm⟩
section
variable {w w' : World} {base b d sb mb : Nat} {D D' : Dv}
set_option maxRecDepth 100000 in
set_option maxHeartbeats 8000000 in
theorem put_calls (h : DvAt w base d sb mb D) (h4 : 4 ≤ D.sure.length) (hc : w.cell? ⟨b, 0, none⟩ = some (.pointer (some ⟨d, 0, none⟩))) (hbl : b < w.heap.size) (hbd : b ≠ d ∧ b ≠ sb ∧ b ≠ mb) (half used : Nat) (hh : half ≤ 1) (hu : used ≤ 600000)
    (tl bl : List UInt8) (tv bv : Value) (ht : BytesAt w 0 w.heap.size tv tl) (hb : BytesAt w 0 w.heap.size bv bl) (hl : tl.length + bl.length ≤ 1000000) :
    Calls Try.prog 53 #[.pointer (some ⟨b, 0, none⟩), .int .i64 half, .int .i64 used, tv, bv] w fun e w' =>
      (∃ v, e = .returned (.tuple #[v, .int .i64 (wrG writeD D (Wa.base half (szD D) + (used / 63 : Nat)) (chF (tl ++ bl)) (nch (tl ++ bl))).2]) ∧
        ((wrG writeD D (Wa.base half (szD D) + (used / 63 : Nat)) (chF (tl ++ bl)) (nch (tl ++ bl))).2 = 0 → w'.ownsRow w.heap.size 5 1 v ((tl ++ bl).drop (63 * ((tl ++ bl).length / 63))).length (bytesV ((tl ++ bl).drop (63 * ((tl ++ bl).length / 63))))) ∧ ((wrG writeD D (Wa.base half (szD D) + (used / 63 : Nat)) (chF (tl ++ bl)) (nch (tl ++ bl))).2 ≠ 0 → v = .slice none 0 0)) ∧
      DvAt w' base d sb mb (wrG writeD D (Wa.base half (szD D) + (used / 63 : Nat)) (chF (tl ++ bl)) (nch (tl ++ bl))).1 ∧ Dev d sb mb w w' := by
  have hlen := h.len
  have hz : szD D ≤ 8191 := by unfold szD; omega
  have HLK := Lib.hid (fun (W : World) E (h1 : Dev d sb mb w W) (h2 : DvAt W base d sb mb E) (h3 : E.sure.length = D.sure.length) => show Lk base b d sb mb D W from ⟨(Dev.cell (p := ⟨b, 0, none⟩) h1 hbl hbd.1 hbd.2.1 hbd.2.2).trans hc, E, h2, h3⟩)
  have HGS := Lib.hid (fun j hj => wrG_step (D := D) (k := Wa.base half (szD D) + (used / 63 : Nat)) (f := chF (tl ++ bl)) (j := j) hj)
  have HGL := Lib.hid (fun j => wrG_len D (Wa.base half (szD D) + (used / 63 : Nat)) (chF (tl ++ bl)) j)
  have HGB := Lib.hid (fun j n hj hn => wrG_bad (wr := writeD) (D := D) (k := Wa.base half (szD D) + (used / 63 : Nat)) (f := chF (tl ++ bl)) (j := j) hj n hn)
  have H0 := Lib.hid (show wrG writeD D (Wa.base half (szD D) + (used / 63 : Nat)) (chF (tl ++ bl)) 0 = (D, 0) from rfl)
  obtain ⟨G, hG⟩ : ∃ G : Nat → Dv × Int, G = wrG writeD D (Wa.base half (szD D) + (used / 63 : Nat)) (chF (tl ++ bl)) := ⟨_, rfl⟩
  rw [← hG] at HGS HGL HGB H0 ⊢
  clear hG
  have hdb : d < w.heap.size := h.ob.lt
  have hmb : mb < w.heap.size := h.map.lt
  have hsb : sb < w.heap.size := h.sure.lt
  have HDV := Lib.hid h
  have HTL := Lib.hid (show tl ++ bl = [] → tl = [] from fun h => (List.append_eq_nil_iff.1 h).1)
  have hLl : (tl ++ bl).length ≤ 1000000 := by rw [List.length_append]; omega
  obtain ⟨At, ct, rfl, -⟩ := ht.form
  obtain ⟨Ab, cb, rfl, -⟩ := hb.form
  refine (callsIn_wide (n := 6)).1 ?_
  refine callsIn_of_wp_marks Try.func53 rfl trivial ?_ rfl
  simp only [Try.ntmps53, List.size_toArray, List.length_cons, List.length_nil, Nat.reduceAdd, Nat.reduceSub, Array.replicate_succ, Array.replicate_zero, List.push_toArray, List.append_toArray, List.nil_append, List.cons_append]
  gi_wp2_with fail
  rw [show (used : Int) / 63 = ((used / 63 : Nat) : Int) by omega]
  have hi0 : used / 63 ≤ 10000 := by omega
  generalize used / 63 = i0 at *
  -- the boxes
  have e0 := Ob.new w 28 #[.pointer (some ⟨b, 0, none⟩)]
  have a0 := (Below.refl w.heap.size w).alloc (Nat.le_refl _) (.cells #[.pointer (some ⟨b, 0, none⟩)] 28)
  have s0 : (w.alloc (.cells #[.pointer (some ⟨b, 0, none⟩)] 28)).heap.size = w.heap.size + 1 := by simp
  generalize w.alloc (.cells #[.pointer (some ⟨b, 0, none⟩)] 28) = W1 at *
  have e1 := Ob.new W1 3 #[.int .i64 half]
  have a1 := a0.alloc a0.size (.cells #[.int .i64 half] 3)
  replace e0 := e0.alloc (.cells #[.int .i64 half] 3)
  have s1 : (W1.alloc (.cells #[.int .i64 half] 3)).heap.size = w.heap.size + 1 + 1 := by rw [World.size_alloc, s0]
  generalize W1.alloc (.cells #[.int .i64 half] 3) = W2 at *
  have e2 := Ob.new W2 34 #[.slice At tl.length ct]
  have a2 := a1.alloc a1.size (.cells #[.slice At tl.length ct] 34)
  replace e0 := e0.alloc (.cells #[.slice At tl.length ct] 34)
  replace e1 := e1.alloc (.cells #[.slice At tl.length ct] 34)
  have s2 : (W2.alloc (.cells #[.slice At tl.length ct] 34)).heap.size = w.heap.size + 1 + 1 + 1 := by rw [World.size_alloc, s1]
  generalize W2.alloc (.cells #[.slice At tl.length ct] 34) = W3 at *
  have e3 := Ob.new W3 34 #[.slice none 0 0]
  have a3 := a2.alloc a2.size (.cells #[.slice none 0 0] 34)
  replace e0 := e0.alloc (.cells #[.slice none 0 0] 34)
  replace e1 := e1.alloc (.cells #[.slice none 0 0] 34)
  replace e2 := e2.alloc (.cells #[.slice none 0 0] 34)
  have s3 : (W3.alloc (.cells #[.slice none 0 0] 34)).heap.size = w.heap.size + 1 + 1 + 1 + 1 := by rw [World.size_alloc, s2]
  generalize W3.alloc (.cells #[.slice none 0 0] 34) = W4 at *
  have e4 := Ob.new W4 25 #[.int .i64 0]
  have a4 := a3.alloc a3.size (.cells #[.int .i64 0] 25)
  replace e0 := e0.alloc (.cells #[.int .i64 0] 25)
  replace e1 := e1.alloc (.cells #[.int .i64 0] 25)
  replace e2 := e2.alloc (.cells #[.int .i64 0] 25)
  replace e3 := e3.alloc (.cells #[.int .i64 0] 25)
  have s4 : (W4.alloc (.cells #[.int .i64 0] 25)).heap.size = w.heap.size + 1 + 1 + 1 + 1 + 1 := by rw [World.size_alloc, s3]
  generalize W4.alloc (.cells #[.int .i64 0] 25) = W5 at *
  have e5 := Ob.new W5 3 #[.int .i64 (i0 : Int)]
  have a5 := a4.alloc a4.size (.cells #[.int .i64 (i0 : Int)] 3)
  replace e0 := e0.alloc (.cells #[.int .i64 (i0 : Int)] 3)
  replace e1 := e1.alloc (.cells #[.int .i64 (i0 : Int)] 3)
  replace e2 := e2.alloc (.cells #[.int .i64 (i0 : Int)] 3)
  replace e3 := e3.alloc (.cells #[.int .i64 (i0 : Int)] 3)
  replace e4 := e4.alloc (.cells #[.int .i64 (i0 : Int)] 3)
  have s5 : (W5.alloc (.cells #[.int .i64 (i0 : Int)] 3)).heap.size = w.heap.size + 1 + 1 + 1 + 1 + 1 + 1 := by rw [World.size_alloc, s4]
  generalize W5.alloc (.cells #[.int .i64 (i0 : Int)] 3) = W6 at *
  have e6 := Ob.new W6 34 #[.slice At tl.length ct, .slice Ab bl.length cb]
  have a6 := a5.alloc a5.size (.cells #[.slice At tl.length ct, .slice Ab bl.length cb] 34)
  replace e0 := e0.alloc (.cells #[.slice At tl.length ct, .slice Ab bl.length cb] 34)
  replace e1 := e1.alloc (.cells #[.slice At tl.length ct, .slice Ab bl.length cb] 34)
  replace e2 := e2.alloc (.cells #[.slice At tl.length ct, .slice Ab bl.length cb] 34)
  replace e3 := e3.alloc (.cells #[.slice At tl.length ct, .slice Ab bl.length cb] 34)
  replace e4 := e4.alloc (.cells #[.slice At tl.length ct, .slice Ab bl.length cb] 34)
  replace e5 := e5.alloc (.cells #[.slice At tl.length ct, .slice Ab bl.length cb] 34)
  have s6 : (W6.alloc (.cells #[.slice At tl.length ct, .slice Ab bl.length cb] 34)).heap.size = w.heap.size + 1 + 1 + 1 + 1 + 1 + 1 + 1 := by rw [World.size_alloc, s5]
  generalize W6.alloc (.cells #[.slice At tl.length ct, .slice Ab bl.length cb] 34) = W7 at *
  simp only [s0, s1, s2, s3, s4, s5] at e1 e2 e3 e4 e5 e6
  have S6 := Lib.hid s6
  have hcat := cat2_calls W7 (w.heap.size + 1 + 1 + 1 + 1 + 1 + 1) _ _ tl bl e6.lt (e6.cell (j := 0) rfl) (e6.cell (j := 1) rfl) (BytesAt.mono ht a6 a6.size) (BytesAt.mono hb a6 a6.size) hl
  refine ⟨trivial, (callsIn_wide.2 hcat).mono ?_⟩
  rintro e W8 ⟨⟨r, rfl, hr⟩, hb8⟩
  have HDV7 := Lib.hid (h.same (a6.trans (hb8.mono a6.size)))
  replace e0 := e0.same hb8
  replace e1 := e1.same hb8
  replace e2 := e2.same hb8
  replace e3 := e3.same hb8
  replace e4 := e4.same hb8
  replace e5 := e5.same hb8
  have a8 := a6.trans (hb8.mono a6.size)
  have hL8 := BytesAt.of_own hr
  obtain ⟨Ar, cr, rfl, hcr, hcm⟩ := hL8.form
  have HSZ := Lib.hid (show w.heap.size + 7 ≤ W8.heap.size by have := hb8.size; omega)
  clear s0 s1 s2 s3 s4 s5 s6 a0 a1 a2 a3 a4 a5 a6 hcat hr hb8 h hc hb e6
  generalize htlb : tl ++ bl = L at *
  have HTLB := Lib.hid htlb
  clear htlb
  gi_wp2_with fail
  refine ⟨trivial, (callsIn_wide.2 (chunk_calls _ _ _ _)).mono ?_⟩
  rintro e W9 ⟨rfl, rfl⟩
  gi_wp2_with fail
  have g1 := (Ob.new W8 34 #[.slice Ar L.length cr]).alloc (.cells #[.int .i64 63] 3)
  have g2 := Ob.new (W8.alloc (.cells #[.slice Ar L.length cr] 34)) 3 #[.int .i64 63]
  have hb10 : Below W8.heap.size W8 ((W8.alloc (.cells #[.slice Ar L.length cr] 34)).alloc (.cells #[.int .i64 63] 3)) := ((Below.refl _ W8).alloc (Nat.le_refl _) _).alloc (by simp) _
  have hs10 : ((W8.alloc (.cells #[.slice Ar L.length cr] 34)).alloc (.cells #[.int .i64 63] 3)).heap.size = W8.heap.size + 2 := by simp
  rw [World.size_alloc] at g2
  generalize (W8.alloc (.cells #[.slice Ar L.length cr] 34)).alloc (.cells #[.int .i64 63] 3) = W10 at *
  have HS10 := Lib.hid hs10
  have HB10 := Lib.hid (a8.trans (hb10.mono a8.size))
  obtain ⟨lo, hlo⟩ : ∃ lo, W7.heap.size = lo := ⟨_, rfl⟩
  obtain ⟨hi, hhi⟩ : ∃ hi, W8.heap.size = hi := ⟨_, rfl⟩
  rw [hlo, hhi] at hL8
  rw [hlo] at S6
  rw [hhi] at g1 g2 hs10 HS10 HSZ
  have hlh : w.heap.size + 7 = lo ∧ w.heap.size + 7 ≤ hi ∧ W10.heap.size = hi + 2 := ⟨by have := S6.out; omega, HSZ.out, hs10⟩
  have HLH := Lib.hid hlh
  have hw10 : w.heap.size + 5 < W10.heap.size := by omega
  have hI0 : PutI W10 base b d sb mb w.heap.size lo hi half i0 (.slice At tl.length ct) G [] W10 :=
    ⟨e0.same hb10, e1.same hb10, ⟨_, e2.same hb10, .inl ⟨rfl, rfl⟩⟩, e3.same hb10, e4.same hb10, e5.same hb10, by rw [List.length_nil, H0.out]; exact HDV7.out.same hb10, by rw [List.length_nil, H0.out], Kept.refl _ _, Nat.le_refl _⟩
  have hL10 := hL8.below (hb10.mono (by omega))
  have HL10 := Lib.hid hL10
  rw [hhi]
  clear e0 e1 e2 e3 e4 e5 hL8 hb10 a8 hs10 HDV7
  have hown : ∀ {P : List (List UInt8) → World → Prop}, (∀ s A B, P s A → Kept (fun i => i < W10.heap.size) A B → P s B) → (∀ s A, P s A → W10.heap.size ≤ A.heap.size) → OwnFrom W10.heap.size P := fun hP hS s A B row hs hg hr =>
    hP s A B hs (Kept.of_grown hg fun i hi => ⟨by have := hS s A hs; omega, fun e => by have := (hr i e.symm).1; omega⟩)
  refine Rr.range_reads (n := 6) rfl (by omega) (gf := 96) rfl trivial (enters_of Try.func96 (by kernel_rfl) rfl)
    (chunk_reads 5 (by omega) hi (hi + 1) Ar cr L lo hi W10 g1 g2 hL10 (by omega) hLl) (Below.refl _ _) (fun h k => h.trans k) (fun W l r r' hl _ => KpF.loop (fun i hi => by omega)) rfl
    (fun pre W => PutI W10 base b d sb mb w.heap.size lo hi half i0 (.slice At tl.length ct) G pre W)
    (fun c pre W => c = .ret ∧ PutX W10 base d sb mb w.heap.size G pre W)
    (hown (fun s A B h k => h.kept k ⟨hdb, hsb, hmb⟩ hw10 (by omega)) (fun s A h => h.sz))
    (fun c => hown (fun s A B h k => ⟨h.1, h.2.kept k ⟨hdb, hsb, hmb⟩ hw10⟩) (fun s A h => h.2.sz))
    hI0 ?round ?done ?stop
  case round =>
    rintro l pre p v W hl hI hpre hv
    obtain ⟨hk, hp⟩ : pre.length < nch L ∧ p = part L pre.length := by
      obtain ⟨r, hr⟩ := hpre
      have hlen2 := congrArg List.length hr
      rw [partsOf_len, List.length_append, List.length_append, List.length_singleton] at hlen2
      have hk : pre.length < nch L := by omega
      refine ⟨hk, ?_⟩
      have hg := partsOf_get L (k := pre.length) (by rw [partsOf_len]; exact hk)
      have h1 : (partsOf L)[pre.length]? = some p := by rw [← hr]; simp
      rw [List.getElem?_eq_getElem (by rw [partsOf_len]; exact hk), hg] at h1
      exact (Option.some.inj h1).symm
    have hpl : 1 ≤ p.length ∧ p.length ≤ 63 := by
      have := nch_lt.1 hk
      rw [hp, part_len]
      omega
    have HBK := Lib.hid (show chF L pre.length = blkOf p by rw [hp]; rfl)
    have HNC := Lib.hid (show nch L ≤ 20000 by unfold nch; omega)
    obtain ⟨Ap, cp, rfl, -⟩ := hv.form
    obtain ⟨pb, po, hA, hpb1, hpb2, -⟩ := hv.cellAt (j := 0) (by omega)
    subst hA
    have HP := Lib.hid hp
    have hIs := hI.sz
    clear hp hpre
    gi_wp2
    refine ⟨KeepsFrom.refl _ _, KpF.refl _ _, fun W2 hg2 ho2 => ?_⟩
    have hK2 : Kept (fun i => i < W10.heap.size) W W2 := Kept.of_grown hg2 fun i hi => ⟨by omega, fun e => by cases e; omega⟩
    have hI2 := hI.kept hK2 ⟨hdb, hsb, hmb⟩ hw10 (by omega)
    have hv2 : BytesAt W2 lo hi (.slice (some ⟨pb, po, none⟩) p.length cp) p := hK2.sl hv (fun i a b => by omega)
    have hs2 := hI2.sz
    obtain ⟨W3, hmk, hrow3, hg3⟩ := make_bytes 64 W2 (by omega)
    rw [show ((64 : Nat) : Int) = 64 from rfl] at hmk
    have hb3 : Below W2.heap.size W2 W3 := (Below.refl _ _).grown hg3 (Nat.le_refl _) (fun k e => by cases e)
    have hv3 : BytesAt W3 lo hi (.slice (some ⟨pb, po, none⟩) p.length cp) p := hv2.below (hb3.mono (by omega))
    have hcp := fun ty => run_copy_cells (P := Try.prog) W3 34 34 ty 5 W2.heap.size 0 64 64 ⟨pb, po, none⟩ p.length cp (bytesV p) Try.underlying34 (by kernel_rfl) (by rw [bytesV_length]; exact (Nat.min_eq_left (by omega)).symm)
      (fun j v hj => by
        have hj2 : j < p.length := by
          have := (List.getElem?_eq_some_iff.1 hj).1
          rwa [bytesV_length] at this
        obtain ⟨A', c', e', -, -, h3⟩ := hv3.at_
        cases e'
        obtain ⟨b', o', e2, -, -, h4⟩ := h3 (by omega)
        cases e2
        rw [Addr.add_lit, h4 j (by omega)]
        exact hj)
      (fun j hj => by
        rw [Nat.zero_add, hrow3.cellAt j (by rw [bytesV_length] at hj; omega), List.getElem?_eq_getElem (by rw [bytesV_length, List.length_replicate]; rw [bytesV_length] at hj; omega)]
        rfl) (fun j _ => hrow3.frozenAt _) (bytesV_one p)
    rw [bytesV_length] at hcp
    have hrow4 := row_cells p W3 (List.replicate 64 0) 0 hrow3 (by rw [List.length_replicate]; omega)
    rw [List.take_zero, List.nil_append, Nat.zero_add, List.drop_replicate] at hrow4
    have hb4 : Below W2.heap.size W2 (W3.setCells W2.heap.size 0 (bytesV p)) := hb3.grown (grownBy_cells _ _ _) hb3.size (fun k e => by cases e; exact Nat.le_refl _)
    generalize W3.setCells W2.heap.size 0 (bytesV p) = W4 at *
    have h63 := hrow4.cellAt 63 (by omega)
    rw [List.getElem?_eq_getElem (by rw [bytesV_length, List.length_append, List.length_replicate]; omega)] at h63
    obtain ⟨c63, hc63⟩ : ∃ c, W4.cell? ⟨W2.heap.size, 63, none⟩ = some c := ⟨_, h63⟩
    clear h63
    have hf63 := hrow4.frozenAt 63
    obtain ⟨hrow5, hg5⟩ := hrow4.stored 63 (.int .u8 ((UInt8.ofNat p.length).toNat : Int))
    rw [← bytesV_set, blk_set hpl.2] at hrow5
    have hb5 := hb4.grown hg5 hb4.size (fun k e => by cases e; exact Nat.le_refl _)
    rw [show ((UInt8.ofNat p.length).toNat : Int) = (p.length : Int) by simp; omega] at hrow5 hb5
    have HR5 := Lib.hid hrow5
    have HB5 := Lib.hid hb5
    have HI2 := Lib.hid hI2
    have HV2 := Lib.hid hv2
    have HG2 := Lib.hid hg2
    have hp1 := hpl.1
    have hp2 := hpl.2
    clear hrow5 hb5 hI2 hI hv hv2 hv3 hrow3 hrow4 hg3 hg5 hb3 hb4 hK2 hg2 ho2 hpl
    generalize hpn : p.length = n at *
    have HPN := Lib.hid hpn
    clear hpn
    gi_wp2_with fail
    generalize W4.setCell ⟨W2.heap.size, 63, none⟩ (.int .u8 (n : Int)) = W5' at *
    have hb7 : Below W2.heap.size W2 W5'.drew := HB5.out.drew
    have hK7 : Kept (fun i => i < W10.heap.size) W2 W5'.drew := Kept.of_below hb7 fun i hi => by omega
    have hI7 := HI2.out.kept hK7 ⟨hdb, hsb, hmb⟩ hw10 (by have := HLH.out; omega)
    have hLk7 : Lk base b d sb mb D W5'.drew := HLK.out _ _ (Kept.trans (Kept.of_below HB10.out fun i hi => hi.1) (hI7.fr.mono fun i hi => hi)) hI7.dv (HGL.out _)
    have hnc := HNC.out
    generalize hK0 : pre.length = K at *
    have CA := Lib.hid (fun (V : World) (hV : Lk base b d sb mb D V) => hV.at_ h4 half (i0 + K) hh (by omega))
    rw [show Wa.base half (szD D) + ((i0 + K : Nat) : Int) = Wa.base half (szD D) + (i0 : Int) + (K : Int) by omega] at CA
    have hbi := hI7.bi
    rw [hK0] at hbi
    have CG := Lib.hid (HGS.out K (by rw [← hK0]; exact hI7.ok))
    rw [HBK.out] at CG
    have HK0 := Lib.hid hK0
    have HI7 := Lib.hid hI7
    generalize Wa.base half (szD D) + (i0 : Int) + (K : Int) = at_ at CA CG
    clear hK7 hK0
    have hdv : DvAt W5'.drew base d sb mb (G K).1 := by
      have := HI7.out.dv
      rwa [HK0.out] at this
    have hI8 : BytesAt W5'.drew W2.heap.size W5'.drew.heap.size (.slice (some ⟨W2.heap.size, 0, none⟩) 64 64) (blkOf p) := by
      unfold BytesAt
      rw [blkOf_len (by have := HPN.out; omega)]
      exact Sl.of_own HR5.out
    have cW := write_calls hdv at_ (blkOf p) _ _ _ hI8 (Nat.le_refl _) (by omega) (by omega)
    rw [← CG.out] at cW
    have CW := Lib.hid cW
    have hb7s := hb7.size
    have hbl7 := hI7.bl
    have hbh7 := hI7.bh
    clear cW hI8 hdv hI7
    refine Pi.regionIn [(0, false), (1, false), (2, false), (3, false), (4, false), (5, false), (6, false), (7, false), (8, false), (9, true), (10, false)]
      (fun V => Ob V w.heap.size 28 #[.pointer (some ⟨b, 0, none⟩)] ∧ Ob V (w.heap.size + 1) 3 #[.int .i64 half] ∧ Ob V (w.heap.size + 1 + 1 + 1 + 1 + 1) 3 #[.int .i64 ((i0 + K : Nat) : Int)] ∧ Lk base b d sb mb D V)
      hmx (by kernel_rfl) (by kernel_rfl) (by kernel_rfl) (by kernel_rfl) ⟨hbl7, hbh7, hbi, hLk7⟩ rfl ?_
    simp only [Pu.named, List.filterMap_cons, List.filterMap_nil, List.getElem?_toArray, List.getElem?_cons_succ, List.getElem?_cons_zero, Option.map_some]
    iterate 7 (apply Pu.WalkM.on (by rfl)
               · rintro V ⟨k0, k1, k5, kl⟩
                 have z0 := k0.cell (j := 0) (v := .pointer (some ⟨b, 0, none⟩)) rfl
                 have z1 := k1.cell (j := 0) (v := .int .i64 half) rfl
                 have z5 := k5.cell (j := 0) (v := .int .i64 ((i0 + K : Nat) : Int)) rfl
                 have zc := kl.1
                 go_wp2_with fail
                 refine ⟨rfl, ?_, rfl⟩
                 try simp only [Act.put, List.setIfInBounds_toArray, List.set_cons_succ, List.set_cons_zero]
                 rfl
               simp only [Act.put, List.setIfInBounds_toArray, List.set_cons_succ, List.set_cons_zero])
    iterate 1 (apply Pu.WalkM.on (by rfl)
               · rintro V ⟨k0, k1, k5, kl⟩
                 go_wp2_with (go_at_call 87; refine (CA.out _ kl).mono ?_; rintro e W1 ⟨rfl, rfl⟩)
                 refine ⟨rfl, ?_, rfl⟩
                 try simp only [Act.put, List.setIfInBounds_toArray, List.set_cons_succ, List.set_cons_zero]
                 rfl
               simp only [Act.put, List.setIfInBounds_toArray, List.set_cons_succ, List.set_cons_zero])
    iterate 1 (apply Pu.WalkM.on (by rfl)
               · rintro V hV
                 go_wp2_with fail
                 refine ⟨rfl, ?_, rfl⟩
                 try simp only [Act.put, List.setIfInBounds_toArray, List.set_cons_succ, List.set_cons_zero]
                 rfl
               simp only [Act.put, List.setIfInBounds_toArray, List.set_cons_succ, List.set_cons_zero])
    refine Pu.WalkM.make (by rfl) ?_
    rintro V rfl
    go_wp2_with (go_at_call 38; refine CW.out.mono ?_; rintro e W6 ⟨rfl, hD6, hK6⟩)
    have hs6 := Kept.size hK6
    have HLH2 := HLH.out
    have hK26 : Kept (fun i => i < W2.heap.size ∧ i ≠ d ∧ i ≠ sb ∧ i ≠ mb) W2 W6 := (Kept.of_below hb7 fun i hi => hi.1).trans (Kept.mono hK6 fun i hi => ⟨by omega, hi.2⟩)
    have k06 := hK26.ob HI2.out.bl (by omega)
    have k16 := hK26.ob HI2.out.bh (by omega)
    obtain ⟨tv2, hbt2, -⟩ := HI2.out.bt
    have k26 := hK26.ob hbt2 (by omega)
    have k36 := hK26.ob HI2.out.br (by omega)
    have k46 := hK26.ob HI2.out.be (by omega)
    have k56 := hK26.ob HI2.out.bi (by omega)
    rw [HK0.out] at k56
    have hvW : BytesAt W6 lo hi (.slice (some ⟨pb, po, none⟩) n cp) p := by
      have := hK26.sl HV2.out (fun i a b => by omega)
      exact this
    have hfrW : Kept (fun i => i < w.heap.size ∧ i ≠ d ∧ i ≠ sb ∧ i ≠ mb) W10 W6 := HI2.out.fr.trans (hK26.mono fun i hi => by omega)
    have hLk6 : Lk base b d sb mb D W6 := HLK.out _ _ (Kept.trans (Kept.of_below HB10.out fun i hi => hi.1) hfrW) hD6 (HGL.out _)
    refine ⟨rfl, .int .i64 (G (K + 1)).2, (fun V => V = W6), (fun V => V = W6), ?_, rfl, (fun _ h => h), (.inr (fun V h => by rw [h]; exact ⟨k06, k16, k56, hLk6⟩)), ?_⟩
    · try simp only [Act.put, List.setIfInBounds_toArray, List.set_cons_succ, List.set_cons_zero]
      try rfl
    simp only [Act.put, List.setIfInBounds_toArray, List.set_cons_succ, List.set_cons_zero]
    iterate 1 (apply Pu.WalkM.on (by rfl)
               · rintro V hV
                 rw [hV]
                 go_wp2_with fail
                 refine ⟨rfl, ?_, rfl⟩
                 try simp only [Act.put, List.setIfInBounds_toArray, List.set_cons_succ, List.set_cons_zero]
                 rfl
               simp only [Act.put, List.setIfInBounds_toArray, List.set_cons_succ, List.set_cons_zero])
    refine Pu.WalkM.nil ?_
    rintro V rfl
    refine Pi.OnlyN.out ?_
    have hpl1 : (pre ++ [p]).length = K + 1 := by rw [List.length_append, HK0.out]; rfl
    have HPL1 := Lib.hid hpl1
    have c2 := k26.cell (j := 0) (v := tv2) rfl
    have c3 := k36.cell (j := 0) (v := .slice none 0 0) rfl
    have c4 := k46.cell (j := 0) (v := .int .i64 0) rfl
    have c5 := k56.cell (j := 0) (v := .int .i64 ((i0 + K : Nat) : Int)) rfl
    have f2 := k26.frozen 0
    have f3 := k36.frozen 0
    have f4 := k46.frozen 0
    have f5 := k56.frozen 0
    have HD6 := Lib.hid hD6
    have hkb : K < 20000 := by omega
    clear hLk6 hLk7 hbl7 hbh7 hbi hbt2 hb7 hK6 HI7 CW CA hpl1 hnc HLH2 hD6
    by_cases he : (G (K + 1)).2 = 0
    · have hne : ((G (K + 1)).2 != 0) = false := by simpa using he
      have HE := Lib.hid he
      clear he
      gi_wp2
      have hvi : (i0 : Int) + (K : Int) + 1 = ((i0 + (K + 1) : Nat) : Int) := by omega
      have g1 := grownBy_set V (w.heap.size + 1 + 1 + 1 + 1 + 1) 0 (.int .i64 ((i0 : Int) + (K : Int) + 1))
      have g2 := grownBy_set (V.setCell ⟨w.heap.size + 1 + 1 + 1 + 1 + 1, 0, none⟩ (.int .i64 ((i0 : Int) + (K : Int) + 1))) (w.heap.size + 1 + 1) 0 (.slice (some ⟨pb, po, none⟩) n cp)
      have o5 := (k56.set 0 (.int .i64 ((i0 : Int) + (K : Int) + 1))).other (b' := w.heap.size + 1 + 1) (by omega) 0 (.slice (some ⟨pb, po, none⟩) n cp)
      have o2 := (k26.other (b' := w.heap.size + 1 + 1 + 1 + 1 + 1) (by omega) 0 (.int .i64 ((i0 : Int) + (K : Int) + 1))).set 0 (.slice (some ⟨pb, po, none⟩) n cp)
      have hKS : Kept (fun i => i < V.heap.size ∧ i ≠ w.heap.size + 1 + 1 + 1 + 1 + 1 ∧ i ≠ w.heap.size + 1 + 1) V _ := (Kept.of_grown g1 (fun i hi => ⟨hi.1, fun e => hi.2.1 (Option.some.inj e)⟩)).trans (Kept.of_grown g2 (fun i hi => ⟨by simpa using hi.1, fun e => hi.2.2 (Option.some.inj e)⟩))
      have hLH := HLH.out
      generalize (V.setCell ⟨w.heap.size + 1 + 1 + 1 + 1 + 1, 0, none⟩ (.int .i64 ((i0 : Int) + (K : Int) + 1))).setCell ⟨w.heap.size + 1 + 1, 0, none⟩ (.slice (some ⟨pb, po, none⟩) n cp) = W9 at *
      have hK2W : Kept (fun i => i < W2.heap.size ∧ i ≠ d ∧ i ≠ sb ∧ i ≠ mb ∧ i ≠ w.heap.size + 1 + 1 + 1 + 1 + 1 ∧ i ≠ w.heap.size + 1 + 1) W2 W9 := (hK26.mono fun i hi => by omega).trans (hKS.mono fun i hi => by omega)
      refine ⟨keepsFrom_kept hK2W (fun i h1 h2 => by omega), KpF.of_kept hK2W (fun i hi => by omega), ?_⟩
      refine ⟨hKS.ob k06 (by omega), hKS.ob k16 (by omega), ⟨_, o2, .inr ⟨p, by simp, hKS.sl hvW (fun i a b => by omega)⟩⟩, hKS.ob k36 (by omega), hKS.ob k46 (by omega), ?_, ?_, ?_, hfrW.trans (hKS.mono fun i hi => by omega), Nat.le_trans (by omega) hKS.size⟩
      · rw [HPL1.out, ← hvi]
        exact o5
      · rw [HPL1.out]
        exact HD6.out.kept hKS (by omega) (by omega) (by omega)
      · rw [HPL1.out]
        exact HE.out
    · have hne : ((G (K + 1)).2 != 0) = true := by simpa using he
      have HE := Lib.hid he
      clear he
      gi_wp2
      have g1 := grownBy_set V (w.heap.size + 1 + 1 + 1) 0 (.slice none 0 0)
      have g2 := grownBy_set (V.setCell ⟨w.heap.size + 1 + 1 + 1, 0, none⟩ (.slice none 0 0)) (w.heap.size + 1 + 1 + 1 + 1) 0 (.int .i64 (G (K + 1)).2)
      have o3 := (k36.set 0 (.slice none 0 0)).other (b' := w.heap.size + 1 + 1 + 1 + 1) (by omega) 0 (.int .i64 (G (K + 1)).2)
      have o4 := (k46.other (b' := w.heap.size + 1 + 1 + 1) (by omega) 0 (.slice none 0 0)).set 0 (.int .i64 (G (K + 1)).2)
      have hKS : Kept (fun i => i < V.heap.size ∧ i ≠ w.heap.size + 1 + 1 + 1 ∧ i ≠ w.heap.size + 1 + 1 + 1 + 1) V _ := (Kept.of_grown g1 (fun i hi => ⟨hi.1, fun e => hi.2.1 (Option.some.inj e)⟩)).trans (Kept.of_grown g2 (fun i hi => ⟨by simpa using hi.1, fun e => hi.2.2 (Option.some.inj e)⟩))
      have hLH := HLH.out
      generalize (V.setCell ⟨w.heap.size + 1 + 1 + 1, 0, none⟩ (.slice none 0 0)).setCell ⟨w.heap.size + 1 + 1 + 1 + 1, 0, none⟩ (.int .i64 (G (K + 1)).2) = W9 at *
      have hK2W : Kept (fun i => i < W2.heap.size ∧ i ≠ d ∧ i ≠ sb ∧ i ≠ mb ∧ i ≠ w.heap.size + 1 + 1 + 1 ∧ i ≠ w.heap.size + 1 + 1 + 1 + 1) W2 W9 := (hK26.mono fun i hi => by omega).trans (hKS.mono fun i hi => by omega)
      refine ⟨keepsFrom_kept hK2W (fun i h1 h2 => by omega), rfl, ?_⟩
      refine ⟨o3, ?_, ?_, ?_, hfrW.trans (hKS.mono fun i hi => by omega), Nat.le_trans (by omega) hKS.size⟩
      · rw [HPL1.out]
        exact o4
      · rw [HPL1.out]
        exact HD6.out.kept hKS (by omega) (by omega) (by omega)
      · rw [HPL1.out]
        exact HE.out
  case done =>
    rintro D' xs W hD rfl hI hK
    have hok := hI.ok
    have hdv := hI.dv
    have hfr := hI.fr
    have hsz := hI.sz
    rw [partsOf_len] at hok hdv
    obtain ⟨v, q, hbt, hq, hql, hqT⟩ : ∃ v q, Ob W (w.heap.size + 1 + 1) 34 #[v] ∧ BytesAt W 0 W.heap.size v q ∧ q.length ≤ 63 ∧ (if q.length = 63 then L.drop (63 * (L.length / 63)) = [] else L.drop (63 * (L.length / 63)) = q) := by
      obtain ⟨v, h1, h2⟩ := hI.bt
      rcases h2 with ⟨h2, rfl⟩ | ⟨p, h2, h3⟩
      · have hL0 : L = [] := by
          have h3 := congrArg List.length h2
          rw [partsOf_len] at h3
          unfold nch at h3
          rw [List.length_nil] at h3
          exact List.eq_nil_of_length_eq_zero (by omega)
        obtain ⟨A', c', e', hc1, hc2⟩ := ht.form
        cases e'
        refine ⟨_, [], h1, ?_, by simp, ?_⟩
        · rw [HTL.out hL0]
          exact Sl.zero hc2
        · rw [if_neg (by simp), hL0]
          rfl
      · obtain ⟨m, hm, rfl⟩ := last_parts h2
        obtain ⟨h4, h5⟩ := rest_last hm
        exact ⟨v, _, h1, h3.wide (Nat.zero_le _) (by have := HLH.out; omega), h4, h5⟩
    have k3 := hI.br
    have k4 := hI.be
    have HOK := Lib.hid hok
    clear hok
    clear hI
    obtain ⟨Aq, cq, rfl, -⟩ := hq.form
    have c2 := hbt.cell (j := 0) (v := .slice Aq q.length cq) rfl
    have f2 := hbt.frozen 0
    obtain ⟨T, hT⟩ : ∃ T, L.drop (63 * (L.length / 63)) = T := ⟨_, rfl⟩
    have HT := Lib.hid hT
    have hTl : T.length ≤ 63 := by rw [← hT, List.length_drop]; omega
    rw [hT] at hqT
    have HHK := Lib.hid hK
    have hLH := HLH.out
    clear hT HTL hLl hcr hcm hI0 hL10 HL10 g1 g2 hlh S6
    by_cases h63 : q.length = 63
    · rw [if_pos h63] at hqT
      subst hqT
      have hd : ((q.length : Int) == 63) = true := by rw [h63]; rfl
      have gt := grownBy_set W (w.heap.size + 1 + 1) 0 (.slice none 0 0)
      have k3c := k3.other (b' := w.heap.size + 1 + 1) (by omega) 0 (.slice none 0 0)
      have k4c := k4.other (b' := w.heap.size + 1 + 1) (by omega) 0 (.slice none 0 0)
      have c2c := (hbt.set 0 (.slice none 0 0)).cell (j := 0) (v := .slice none 0 0) rfl
      have hdvc := hdv.kept (Kept.of_grown (Fr := fun i => i < w.heap.size) gt (fun i hi => ⟨by omega, fun e => by cases e; omega⟩)) hdb hsb hmb
      have hKc : (W.setCell ⟨w.heap.size + 1 + 1, 0, none⟩ (.slice none 0 0)).heap[D']? = some (.deferred (some [])) := (gt.block D' (Array.getElem?_eq_some_iff.1 hK).1 (fun e => by cases e; omega)).trans hK
      have hfrc := hfr.trans (Kept.of_grown (Fr := fun i => i < w.heap.size ∧ i ≠ d ∧ i ≠ sb ∧ i ≠ mb) gt (fun i hi => ⟨by omega, fun e => by cases e; omega⟩))
      have hcl : BytesAt (W.setCell ⟨w.heap.size + 1 + 1, 0, none⟩ (.slice none 0 0)) 0 (W.setCell ⟨w.heap.size + 1 + 1, 0, none⟩ (.slice none 0 0)).heap.size (.slice none 0 0) [] := BytesAt.nil _ _ _
      have hszc := gt.size
      obtain ⟨T, hT2⟩ : ∃ T : List UInt8, T = [] := ⟨_, rfl⟩
      rw [← hT2] at hcl HT hTl
      have HT2 := Lib.hid hT2
      clear hT2
      clear gt hbt hK hdv hfr hq k3 k4 HHK
      gi_wp2_with fail
      generalize W.setCell ⟨w.heap.size + 1 + 1, 0, none⟩ (.slice none 0 0) = Wc at *
      refine ⟨trivial, (callsIn_wide.2 (cloneb_calls T _ _ hcl (by omega))).mono ?_⟩
      rintro e V ⟨⟨r, rfl, hr⟩, hbV⟩
      have k3V := k3c.same hbV
      have k4V := k4c.same hbV
      have hdvV := hdvc.same hbV
      have hKV := (hbV.block D' (Array.getElem?_eq_some_iff.1 hKc).1).trans hKc
      have hVs := hbV.size
      obtain ⟨Ax, cx, rfl, -⟩ := (BytesAt.of_own hr).form
      have x3 := k3V.cell (j := 0) (v := .slice none 0 0) rfl
      have x4 := k4V.cell (j := 0) (v := .int .i64 0) rfl
      have y3 := k3V.frozen 0
      have y4 := k4V.frozen 0
      have g1 := grownBy_set V (w.heap.size + 1 + 1 + 1) 0 (.slice Ax T.length cx)
      have g2 := grownBy_set (V.setCell ⟨w.heap.size + 1 + 1 + 1, 0, none⟩ (.slice Ax T.length cx)) (w.heap.size + 1 + 1 + 1 + 1) 0 (.int .i64 0)
      have o3 := (k3V.set 0 (.slice Ax T.length cx)).other (b' := w.heap.size + 1 + 1 + 1 + 1) (by omega) 0 (.int .i64 0)
      have o4 := (k4V.other (b' := w.heap.size + 1 + 1 + 1) (by omega) 0 (.slice Ax T.length cx)).set 0 (.int .i64 0)
      have hrne : ∀ g, (Value.slice Ax T.length cx).ownBlock = some g → Wc.heap.size ≤ g ∧ g < V.heap.size := fun g hg => hr.lt g hg
      have hr2 := (hr.kept g1 (.inr (fun e => by have := (hrne _ e).1; omega))).kept g2 (.inr (fun e => by have := (hrne _ e).1; omega))
      have hK2 : ((V.setCell ⟨w.heap.size + 1 + 1 + 1, 0, none⟩ (.slice Ax T.length cx)).setCell ⟨w.heap.size + 1 + 1 + 1 + 1, 0, none⟩ (.int .i64 0)).heap[D']? = some (.deferred (some [])) := by
        refine (g2.block D' (by simp; have := (Array.getElem?_eq_some_iff.1 hKV).1; omega) (fun e => by cases e; omega)).trans ?_
        exact (g1.block D' (Array.getElem?_eq_some_iff.1 hKV).1 (fun e => by cases e; omega)).trans hKV
      have hkS := (Kept.of_grown (Fr := fun i => i < V.heap.size ∧ i ≠ w.heap.size + 1 + 1 + 1 ∧ i ≠ w.heap.size + 1 + 1 + 1 + 1) g1 (fun i hi => ⟨hi.1, fun e => hi.2.1 (Option.some.inj e)⟩)).trans (Kept.of_grown g2 (fun i hi => ⟨by simpa using hi.1, fun e => hi.2.2 (Option.some.inj e)⟩))
      clear hr g1 g2 k3V k4V
      gi_wp2
      refine ⟨by simp, .inl ⟨_, _, rfl, run_takeDeferred hK2, ?_⟩⟩
      rw [HTLB.out, HT.out, HOK.out]
      have gp := grownBy_putObj' ((V.setCell ⟨w.heap.size + 1 + 1 + 1, 0, none⟩ (.slice Ax T.length cx)).setCell ⟨w.heap.size + 1 + 1 + 1 + 1, 0, none⟩ (.int .i64 0)) D' (.deferred none)
      have z3 := (It.boxed_end o3 hK2).cell
      have z4 := (It.boxed_end o4 hK2).cell
      have hr3 := hr2.kept gp (.inr (fun e => by
        have h1 := hrne _ e
        have h2 := (Array.getElem?_eq_some_iff.1 hKc).1
        omega))
      have hkP := (hkS.mono (Fr' := fun i => i < V.heap.size ∧ i ≠ w.heap.size + 1 + 1 + 1 ∧ i ≠ w.heap.size + 1 + 1 + 1 + 1 ∧ i ≠ D') (fun i hi => ⟨hi.1, hi.2.1, hi.2.2.1⟩)).trans (Kept.of_grown gp (fun i hi => ⟨by simpa using hi.1, fun e => hi.2.2.2 (Option.some.inj e)⟩))
      refine ⟨.tuple #[.slice Ax T.length cx, .int .i64 0], ?_, ⟨_, rfl, fun _ => row_wide hr3 (by omega), fun h => absurd rfl h⟩, hdvV.kept hkP (by omega) (by omega) (by omega), ?_⟩
      · simp [results, Try.f53, go_sem, z3, z4]
      · exact (Kept.of_below HB10.out fun i hi => hi.1).trans (hfrc.trans ((Kept.of_below hbV fun i hi => by omega).trans (hkP.mono fun i hi => by omega)))
    · rw [if_neg h63] at hqT
      subst hqT
      have hd : ((T.length : Int) == 63) = false := by simp; omega
      have hcl := hq
      have hdvc := hdv
      have k3c := k3
      have k4c := k4
      have hKc := hK
      have hfrc := hfr
      clear hbt hK hdv hfr hq k3 k4 HHK
      gi_wp2_with fail
      refine ⟨trivial, (callsIn_wide.2 (cloneb_calls T _ _ hcl (by omega))).mono ?_⟩
      rintro e V ⟨⟨r, rfl, hr⟩, hbV⟩
      have k3V := k3c.same hbV
      have k4V := k4c.same hbV
      have hdvV := hdvc.same hbV
      have hKV := (hbV.block D' (Array.getElem?_eq_some_iff.1 hKc).1).trans hKc
      have hVs := hbV.size
      obtain ⟨Ax, cx, rfl, -⟩ := (BytesAt.of_own hr).form
      have x3 := k3V.cell (j := 0) (v := .slice none 0 0) rfl
      have x4 := k4V.cell (j := 0) (v := .int .i64 0) rfl
      have y3 := k3V.frozen 0
      have y4 := k4V.frozen 0
      have g1 := grownBy_set V (w.heap.size + 1 + 1 + 1) 0 (.slice Ax T.length cx)
      have g2 := grownBy_set (V.setCell ⟨w.heap.size + 1 + 1 + 1, 0, none⟩ (.slice Ax T.length cx)) (w.heap.size + 1 + 1 + 1 + 1) 0 (.int .i64 0)
      have o3 := (k3V.set 0 (.slice Ax T.length cx)).other (b' := w.heap.size + 1 + 1 + 1 + 1) (by omega) 0 (.int .i64 0)
      have o4 := (k4V.other (b' := w.heap.size + 1 + 1 + 1) (by omega) 0 (.slice Ax T.length cx)).set 0 (.int .i64 0)
      have hrne : ∀ g, (Value.slice Ax T.length cx).ownBlock = some g → W.heap.size ≤ g ∧ g < V.heap.size := fun g hg => hr.lt g hg
      have hr2 := (hr.kept g1 (.inr (fun e => by have := (hrne _ e).1; omega))).kept g2 (.inr (fun e => by have := (hrne _ e).1; omega))
      have hK2 : ((V.setCell ⟨w.heap.size + 1 + 1 + 1, 0, none⟩ (.slice Ax T.length cx)).setCell ⟨w.heap.size + 1 + 1 + 1 + 1, 0, none⟩ (.int .i64 0)).heap[D']? = some (.deferred (some [])) := by
        refine (g2.block D' (by simp; have := (Array.getElem?_eq_some_iff.1 hKV).1; omega) (fun e => by cases e; omega)).trans ?_
        exact (g1.block D' (Array.getElem?_eq_some_iff.1 hKV).1 (fun e => by cases e; omega)).trans hKV
      have hkS := (Kept.of_grown (Fr := fun i => i < V.heap.size ∧ i ≠ w.heap.size + 1 + 1 + 1 ∧ i ≠ w.heap.size + 1 + 1 + 1 + 1) g1 (fun i hi => ⟨hi.1, fun e => hi.2.1 (Option.some.inj e)⟩)).trans (Kept.of_grown g2 (fun i hi => ⟨by simpa using hi.1, fun e => hi.2.2 (Option.some.inj e)⟩))
      clear hr g1 g2 k3V k4V
      gi_wp2
      refine ⟨by simp, .inl ⟨_, _, rfl, run_takeDeferred hK2, ?_⟩⟩
      rw [HTLB.out, HT.out, HOK.out]
      have gp := grownBy_putObj' ((V.setCell ⟨w.heap.size + 1 + 1 + 1, 0, none⟩ (.slice Ax T.length cx)).setCell ⟨w.heap.size + 1 + 1 + 1 + 1, 0, none⟩ (.int .i64 0)) D' (.deferred none)
      have z3 := (It.boxed_end o3 hK2).cell
      have z4 := (It.boxed_end o4 hK2).cell
      have hr3 := hr2.kept gp (.inr (fun e => by
        have h1 := hrne _ e
        have h2 := (Array.getElem?_eq_some_iff.1 hKc).1
        omega))
      have hkP := (hkS.mono (Fr' := fun i => i < V.heap.size ∧ i ≠ w.heap.size + 1 + 1 + 1 ∧ i ≠ w.heap.size + 1 + 1 + 1 + 1 ∧ i ≠ D') (fun i hi => ⟨hi.1, hi.2.1, hi.2.2.1⟩)).trans (Kept.of_grown gp (fun i hi => ⟨by simpa using hi.1, fun e => hi.2.2.2 (Option.some.inj e)⟩))
      refine ⟨.tuple #[.slice Ax T.length cx, .int .i64 0], ?_, ⟨_, rfl, fun _ => row_wide hr3 (by omega), fun h => absurd rfl h⟩, hdvV.kept hkP (by omega) (by omega) (by omega), ?_⟩
      · simp [results, Try.f53, go_sem, z3, z4]
      · exact (Kept.of_below HB10.out fun i hi => hi.1).trans (hfrc.trans ((Kept.of_below hbV fun i hi => by omega).trans (hkP.mono fun i hi => by omega)))
  case stop =>
    rintro D' c pre W hD hpre ⟨rfl, hX⟩ hK
    obtain ⟨k3, k4, hdv, hbad, hfr, hsz⟩ := hX
    have hle : pre.length ≤ nch L := by
      have := hpre.length_le
      rwa [partsOf_len] at this
    have hG := HGB.out pre.length (nch L) hbad hle
    rw [← hG] at k4 hdv hbad
    have HBad := Lib.hid hbad
    clear hbad hG
    gi_wp2
    refine ⟨by simp, .inl ⟨_, _, rfl, run_takeDeferred hK, ?_⟩⟩
    rw [HTLB.out]
    have hLH := HLH.out
    have gp := grownBy_putObj' W D' (.deferred none)
    have z3 := (It.boxed_end k3 hK).cell
    have z4 := (It.boxed_end k4 hK).cell
    have hkP := Kept.of_grown (Fr := fun i => i < W.heap.size ∧ i ≠ D') gp (fun i hi => ⟨hi.1, fun e => hi.2 (Option.some.inj e)⟩)
    refine ⟨.tuple #[.slice none 0 0, .int .i64 (G (nch L)).2], ?_, ⟨_, rfl, fun h => absurd h HBad.out, fun _ => rfl⟩, hdv.kept hkP (by omega) (by omega) (by omega), ?_⟩
    · simp [results, Try.f53, go_sem, z3, z4]
    · exact (Kept.of_below HB10.out fun i hi => hi.1).trans (hfr.trans (hkP.mono fun i hi => by omega))
end
end Wa
end Go.Proofs.Yteiniahikhiadaa

namespace Go.Proofs.Yteiniahikhiadaa
open Go.RowKit Go.Maps
namespace Wa
open Ce Se
/-- the things that anew does -/
def fnV (p2 p5 p6 p7 p8 pd : Value) : Array Value := #[.func (.func 80) #[] #[p2, p6, p7, p8], .func (.func 81) #[] #[p2, p6, p7], .func (.func 40) #[pd] #[], .func (.func 83) #[] #[p2, p5, p6], .func (.func 40) #[pd] #[]]
/-- how one of them ends -/
def Step (S : World → Prop) (E : Int → World → Prop) (e : Ending) (w' : World) : Prop := ∃ c : Int, e = .returned (.int .i64 c) ∧ (c = 0 → S w') ∧ (c ≠ 0 → E c w')
set_option maxRecDepth 100000 in
set_option maxHeartbeats 4000000 in
theorem steps_calls (w : World) (fb : Nat) (p2 p5 p6 p7 p8 pd : Value) (S : Nat → World → Prop) (E : Int → World → Prop) (h0 : S 0 w)
    (hb : ∀ k W, S k W → Ob W fb 36 (fnV p2 p5 p6 p7 p8 pd))
    (c0 : ∀ W, S 0 W → Calls Try.prog 80 #[p2, p6, p7, p8] W (Step (S 1) E))
    (c1 : ∀ W, S 1 W → Calls Try.prog 81 #[p2, p6, p7] W (Step (S 2) E))
    (c2 : ∀ W, S 2 W → Calls Try.prog 40 #[pd] W (Step (S 3) E))
    (c3 : ∀ W, S 3 W → Calls Try.prog 83 #[p2, p5, p6] W (Step (S 4) E))
    (c4 : ∀ W, S 4 W → Calls Try.prog 40 #[pd] W (Step (S 5) E)) :
    Calls Try.prog 79 #[.slice (some ⟨fb, 0, none⟩) 5 5] w (Step (S 5) E) := by
  have C0 := Lib.hid c0
  have C1 := Lib.hid c1
  have C2 := Lib.hid c2
  have C3 := Lib.hid c3
  have C4 := Lib.hid c4
  have HB := Lib.hid hb
  clear c0 c1 c2 c3 c4 hb
  go_enter Try.func79, Try.ntmps79
  go_wp2
  go_loopw [4, 5, 8] (fun _ _ i wr => ∃ k : Nat, k ≤ 5 ∧ i = .int .i64 k ∧ S k wr) (fun _ _ i _ => 5 - (intOf i).toNat)
  case atStart => exact ⟨0, by omega, rfl, h0⟩
  case round =>
    obtain ⟨k, hk, rfl, hS⟩ := hrel
    have hO := HB.out _ _ hS
    by_cases hlt : k < 5
    · obtain rfl | rfl | rfl | rfl | rfl : k = 0 ∨ k = 1 ∨ k = 2 ∨ k = 3 ∨ k = 4 := by omega
      · have y := hO.cell (j := 0) (v := (.func (.func 80) #[] #[p2, p6, p7, p8])) rfl
        have cK := Lib.hid (C0.out _ hS)
        go_wp2_with fail
        refine cK.out.mono ?_
        rintro e W ⟨c, rfl, hc0, hc1⟩
        by_cases hc : c = 0
        · subst hc
          have hS2 := hc0 rfl
          clear hc0 hc1
          go_wp2
          go_roundw
          case rel => exact ⟨1, by omega, by go_num, hS2⟩
          case measure => simp [intOf]
        · have hE := hc1 hc
          have hne : (c != 0) = true := by simpa using hc
          clear hc0 hc1
          go_wp2
          go_ret
          exact ⟨c, rfl, fun h => absurd h hc, fun _ => hE⟩
      · have y := hO.cell (j := 1) (v := (.func (.func 81) #[] #[p2, p6, p7])) rfl
        have cK := Lib.hid (C1.out _ hS)
        go_wp2_with fail
        refine cK.out.mono ?_
        rintro e W ⟨c, rfl, hc0, hc1⟩
        by_cases hc : c = 0
        · subst hc
          have hS2 := hc0 rfl
          clear hc0 hc1
          go_wp2
          go_roundw
          case rel => exact ⟨2, by omega, by go_num, hS2⟩
          case measure => simp [intOf]
        · have hE := hc1 hc
          have hne : (c != 0) = true := by simpa using hc
          clear hc0 hc1
          go_wp2
          go_ret
          exact ⟨c, rfl, fun h => absurd h hc, fun _ => hE⟩
      · have y := hO.cell (j := 2) (v := (.func (.func 40) #[pd] #[])) rfl
        have cK := Lib.hid (C2.out _ hS)
        go_wp2_with fail
        refine cK.out.mono ?_
        rintro e W ⟨c, rfl, hc0, hc1⟩
        by_cases hc : c = 0
        · subst hc
          have hS2 := hc0 rfl
          clear hc0 hc1
          go_wp2
          go_roundw
          case rel => exact ⟨3, by omega, by go_num, hS2⟩
          case measure => simp [intOf]
        · have hE := hc1 hc
          have hne : (c != 0) = true := by simpa using hc
          clear hc0 hc1
          go_wp2
          go_ret
          exact ⟨c, rfl, fun h => absurd h hc, fun _ => hE⟩
      · have y := hO.cell (j := 3) (v := (.func (.func 83) #[] #[p2, p5, p6])) rfl
        have cK := Lib.hid (C3.out _ hS)
        go_wp2_with fail
        refine cK.out.mono ?_
        rintro e W ⟨c, rfl, hc0, hc1⟩
        by_cases hc : c = 0
        · subst hc
          have hS2 := hc0 rfl
          clear hc0 hc1
          go_wp2
          go_roundw
          case rel => exact ⟨4, by omega, by go_num, hS2⟩
          case measure => simp [intOf]
        · have hE := hc1 hc
          have hne : (c != 0) = true := by simpa using hc
          clear hc0 hc1
          go_wp2
          go_ret
          exact ⟨c, rfl, fun h => absurd h hc, fun _ => hE⟩
      · have y := hO.cell (j := 4) (v := (.func (.func 40) #[pd] #[])) rfl
        have cK := Lib.hid (C4.out _ hS)
        go_wp2_with fail
        refine cK.out.mono ?_
        rintro e W ⟨c, rfl, hc0, hc1⟩
        by_cases hc : c = 0
        · subst hc
          have hS2 := hc0 rfl
          clear hc0 hc1
          go_wp2
          go_roundw
          case rel => exact ⟨5, by omega, by go_num, hS2⟩
          case measure => simp [intOf]
        · have hE := hc1 hc
          have hne : (c != 0) = true := by simpa using hc
          clear hc0 hc1
          go_wp2
          go_ret
          exact ⟨c, rfl, fun h => absurd h hc, fun _ => hE⟩
    · obtain rfl : k = 5 := by omega
      go_wp2
      go_ret
      exact ⟨0, rfl, fun _ => hS, fun h => absurd rfl h⟩
end Wa
end Go.Proofs.Yteiniahikhiadaa
