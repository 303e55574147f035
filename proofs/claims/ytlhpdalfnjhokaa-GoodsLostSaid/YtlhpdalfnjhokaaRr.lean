/-
  A range over an iterator whose values lie in memory that it makes itself: the round may rely on it that the value reads as it should.
-/
import Derived.Test.YtlhpdalfnjhokaaItC
namespace Go.Proofs.Ytlhpdalfnjhokaa
open Go.RowKit
namespace Rr
section
variable {δ : Type} {F : Fence} {n : Nat} {P : Program}

/-- a contract of an iterator: its values read by Rd where they are handed over -/
def Reads (F : Fence) (n : Nat) (P : Program) (gf : Nat) (lb : Array Value) (Rd : δ → Value → World → Prop) (Kp : World → World → Prop) (S Sp : List δ → Prop) (T : List δ → δ → Prop) (w : World) : Prop :=
  ∀ (l : Nat) (J Jx : List δ → World → Prop) (W : World), Below w.heap.size w W → AbidesFrom W.heap.size J → AbidesFrom W.heap.size Jx →
    (∀ pre d v W1, J pre W1 → T pre d → Rd d v W1 → YieldAt F (n - 1) P l #[v] W1 fun e W' => (e = .returned (.bool true) ∧ J (pre ++ [d]) W' ∧ Kp W1 W') ∨ (e = .returned (.bool false) ∧ Jx (pre ++ [d]) W')) →
    J [] W →
    CallsIn F n P gf (#[.func (.yield l) #[] #[]] ++ lb) W fun e W' => (∃ v, e = .returned v) ∧ ((∃ xs, S xs ∧ J xs W') ∨ (∃ pre, Sp pre ∧ Jx pre W'))

/-- the loop's own two blocks -/
structure Bk (D l : Nat) (r : Loop) (W : World) : Prop where
  loop : W.heap[l]? = some (.loop r)
  mark : W.heap[D]? = some (.deferred (some []))
theorem Bk.lt {D l : Nat} {r : Loop} {W : World} (h : Bk D l r W) : l < W.heap.size ∧ D < W.heap.size := ⟨(Array.getElem?_eq_some_iff.1 h.loop).1, (Array.getElem?_eq_some_iff.1 h.mark).1⟩
theorem Bk.abide {D l : Nat} {r : Loop} {A B : World} {row : Option Nat} (h : Bk D l r A) (hg : A.grownBy B row) (hr : ∀ k, row = some k → ∃ o : Obj, A.heap[k]? = some o ∧ o.isWalk = true) : Bk D l r B :=
  ⟨(grownBy_keeps hg hr h.loop rfl).trans h.loop, (grownBy_keeps hg hr h.mark rfl).trans h.mark⟩
theorem Bk.keeps {D l B : Nat} {r : Loop} {X Y : World} (h : Bk D l r X) (hk : KeepsFrom B X Y) (hD : B ≤ D) (hl : B ≤ l) : Bk D l r Y :=
  ⟨hk.same _ _ hl h.loop rfl, hk.same _ _ hD h.mark rfl⟩
theorem Bk.turn {D l : Nat} {r : Loop} {W : World} (h : Bk D l r W) (hne : D ≠ l) (r' : Loop) : Bk D l r' (W.putObj l (.loop r')) :=
  ⟨World.putObj_heap_same h.lt.1, (World.putObj_heap_other hne).trans h.mark⟩

/-- how a round may be left -/
def rpost (B : Nat) (Kp : World → World → Prop) (I : List δ → World → Prop) (Ix : Code → List δ → World → Prop) (xs : List δ) (W : World) : Exit → Act → World → Prop
  | .normal, _, W' => KeepsFrom B W W' ∧ Kp W W' ∧ I xs W'
  | .ret, _, W' => KeepsFrom B W W' ∧ Ix .ret xs W'
  | .exit id, _, W' => KeepsFrom B W W' ∧ Ix (.exit id) xs W'
  | .goto t, _, W' => KeepsFrom B W W' ∧ Ix (.goto t) xs W'
  | .panic _, _, _ => False
  | .outgrown, _, _ => False

theorem range_reads {g : Operand} {ps : Array Tmp} {assign body : Code} {Q : Exit → Act → World → Prop} {a : Act} {w : World}
    (hro : F.round = none) (h1 : 1 ≤ n) {gf : Nat} {lb : Array Value} (hg : a.eval g = .func (.func gf) #[] lb) (hFg : F.fn gf) (eg : ∀ args w, (callFunc gf args).run P w = .ok (.enter gf args) w)
    {Rd : δ → Value → World → Prop} {Kp : World → World → Prop} {S Sp : List δ → Prop} {T : List δ → δ → Prop} {w0 : World} (hit : Reads F (n - 1) P gf lb Rd Kp S Sp T w0) (hb0 : Below w0.heap.size w0 w)
    (hKt : ∀ {A B C : World}, Kp A B → Kp B C → Kp A C) (hKb : ∀ (W : World) (l : Nat) (r r' : Loop), w.heap.size ≤ l → W.heap[l]? = some (.loop r) → Kp W (W.putObj l (.loop r'))) (hps : ps.size = 1)
    (I : List δ → World → Prop) (Ix : Code → List δ → World → Prop) (hI : OwnFrom w.heap.size I) (hIx : ∀ c, OwnFrom w.heap.size (Ix c)) (h0 : I [] w)
    (hround : ∀ (l : Nat) (pre : List δ) (d : δ) (v : Value) (W : World), w.heap.size ≤ l → I pre W → T pre d → Rd d v W →
      assign.wpIn (F.inRound l) (n - 1 - 1) P (Exit.then (fun a' W' => KeepsFrom w.heap.size W W' ∧ Kp W W' ∧
        ∀ (W2 : World), W'.grownBy W2 (some l) → (∃ o : Obj, W'.heap[l]? = some o ∧ o.isCells = false) → body.wpIn (F.inRound l) (n - 1 - 1) P (rpost w.heap.size Kp I Ix (pre ++ [d]) W2) a' W2) (fun _ _ _ => False))
        { tmps := (ps.zip #[v]).foldl (fun t (p, v) => t.setIfInBounds p v) a.tmps, defers := [] } W)
    (hdone : ∀ (D : Nat) (xs : List δ) (W : World), w.heap.size ≤ D → S xs → I xs W → W.heap[D]? = some (.deferred (some [])) → Q .normal { a with defers := { target := .collected D, args := #[] } :: a.defers } W)
    (hstop : ∀ (D : Nat) (c : Code) (pre : List δ) (W : World), w.heap.size ≤ D → Sp pre → Ix c pre W → W.heap[D]? = some (.deferred (some [])) → c.wpIn F n P Q { a with defers := { target := .collected D, args := #[] } :: a.defers } W) :
    (Code.rangeFunc g ps assign body).wpIn F n P Q a w := by
  refine wpIn_rangeFunc fun fn hfn => ?_
  obtain ⟨mk, hmk⟩ : ∃ mk : LoopState → Option Code → Loop, mk = fun st pe => { state := st, pending := pe, fn := fn, tmps := a.tmps, params := ps, assign := assign, body := body, defers := w.heap.size } := ⟨_, rfl⟩
  obtain ⟨D, hD⟩ : ∃ D, D = w.heap.size := ⟨_, rfl⟩
  obtain ⟨V, hV⟩ : ∃ V : World, V = (w.alloc (.deferred (some []))).alloc (.loop (mk .ready none)) := ⟨_, rfl⟩
  have hbk : Bk D (D + 1) (mk .ready none) V := by
    rw [hV, hD]
    refine ⟨?_, (Below.heap_alloc _ _ _ (by simp)).trans (World.alloc_heap_new w _)⟩
    have := World.alloc_heap_new (w.alloc (.deferred (some []))) (.loop (mk .ready none))
    rwa [World.size_alloc] at this
  have hIV : I [] V := by rw [hV]; exact hI.alloc _ (hI.alloc _ h0)
  have hbV : Below w0.heap.size w0 V := by
    rw [hV]; exact hb0.trans ((((Below.refl _ w).alloc (Nat.le_refl _) _).alloc (by simp) _).mono hb0.size)
  have hVs : w.heap.size ≤ V.heap.size := by rw [hV]; simp; omega
  refine ⟨D + 1, [{ target := .collected D, args := #[] }], V, { target := .fn (.func gf) lb, args := #[.func (.yield (D + 1)) #[] #[]] }, V, gf, #[.func (.yield (D + 1)) #[] #[]] ++ lb, V, ?_, ?_, ?_, ?_, fun _ => h1, ?_⟩
  · rw [hro, hV, hmk, hD]; exact run_enterLoop_outer _ _ _ _ _
  · simp only [resolve, hg]
    simp [go_sem]
  · intro f' hf'
    simp [Target.leads] at hf'
    subst hf'
    exact hFg
  · simp [invoke, go_sem, eg]
  have walkRow : ∀ {A : World} {row : Option Nat}, (∀ r, row = some r → V.heap.size ≤ r ∧ ∃ o : Obj, A.heap[r]? = some o ∧ o.isWalk = true) → (∀ r, row = some r → w.heap.size ≤ r ∧ ∃ o : Obj, A.heap[r]? = some o ∧ o.isCells = false) :=
    fun hr r e => by
      obtain ⟨h1, o, h2, h3⟩ := hr r e
      exact ⟨Nat.le_trans hVs h1, o, h2, Obj.not_cells_of_walk h3⟩
  refine (hit (D + 1) (fun pre W => I pre W ∧ Bk D (D + 1) (mk .ready none) W) (fun pre W => ∃ c, Ix c pre W ∧ Bk D (D + 1) (mk .done (some c)) W) V hbV
    (fun s A B row h hg hr => ⟨hI s A B row h.1 hg (walkRow hr), h.2.abide hg fun k e => (hr k e).2⟩)
    (fun s A B row h hg hr => let ⟨c, h1, h2⟩ := h; ⟨c, hIx c s A B row h1 hg (walkRow hr), h2.abide hg fun k e => (hr k e).2⟩)
    (fun pre d v W hJ hlen hrd => ?_) ⟨hIV, hbk⟩).mono ?_
  · -- a round
    obtain ⟨hi, hk⟩ := hJ
    have hsz : #[v].size = (mk .ready none).params.size := by rw [hmk]; exact hps.symm
    have hy := run_yield (P := P) (args := #[v]) hk.loop hsz
    rw [hmk] at hy
    refine ⟨fn, _, assign, body, hy, roundIn_of_wpIn hfn (wpIn_mono (hround (D + 1) pre d v W (by omega) hi hlen hrd) fun e a1 W1 h => ?_)⟩
    cases e with
    | normal =>
      obtain ⟨hk1, hkp1, hbody⟩ := h
      have hb1 := hk.keeps hk1 (by omega) (by omega)
      have hst : (mk .ready none).state = .ready := by rw [hmk]
      refine ⟨_, run_beginRound hb1.loop hst, ?_⟩
      have hb2 := hb1.turn (by omega) { mk .ready none with state := .busy }
      have hkb2 : Kp W1 (W1.putObj (D + 1) (.loop { mk .ready none with state := .busy })) := hKb _ _ _ _ (by omega) hb1.loop
      refine wpIn_mono (hbody _ (grownBy_putObj' _ _ _) ⟨_, hb1.loop, rfl⟩) fun e a3 W3 h3 => ?_
      have fin : ∀ (j : Option Code), KeepsFrom w.heap.size (W1.putObj (D + 1) (.loop { mk .ready none with state := .busy })) W3 → ∃ W4, (Instr.endRound (D + 1) j).run P W3 = .ok (.bool j.isNone) W4 ∧ Bk D (D + 1) (mk (if j.isNone then .ready else .done) j) W4 ∧ W4 = W3.putObj (D + 1) (.loop (mk (if j.isNone then .ready else .done) j)) ∧
          W3.heap[D + 1]? = some (.loop { mk .ready none with state := .busy }) := fun j hk3 => by
        have hb3 := hb2.keeps hk3 (by omega) (by omega)
        have hr := run_endRound (P := P) j hb3.loop
        refine ⟨_, hr, ?_, ?_, hb3.loop⟩
        · have := hb3.turn (by omega) { mk .ready none with state := if j.isNone then .ready else .done, pending := j }
          rw [hmk] at this ⊢
          exact this
        · rw [hmk]
      cases e with
      | normal =>
        obtain ⟨hk3, hkp3, hi3⟩ := h3
        obtain ⟨W4, hr, hb4, e4, hl3⟩ := fin none hk3
        exact ⟨_, W4, hr, .inl ⟨rfl, ⟨by rw [e4]; exact hI.putObj _ hi3 (by omega) hl3 rfl, hb4⟩, hKt hkp1 (hKt hkb2 (hKt hkp3 (by rw [e4]; exact hKb _ _ _ _ (by omega) hl3)))⟩⟩
      | ret =>
        obtain ⟨hk3, hi3⟩ := h3
        obtain ⟨W4, hr, hb4, e4, hl3⟩ := fin (some .ret) hk3
        exact ⟨_, W4, hr, .inr ⟨rfl, .ret, by rw [e4]; exact (hIx _).putObj _ hi3 (by omega) hl3 rfl, hb4⟩⟩
      | exit id =>
        obtain ⟨hk3, hi3⟩ := h3
        obtain ⟨W4, hr, hb4, e4, hl3⟩ := fin (some (.exit id)) hk3
        exact ⟨_, W4, hr, .inr ⟨rfl, .exit id, by rw [e4]; exact (hIx _).putObj _ hi3 (by omega) hl3 rfl, hb4⟩⟩
      | goto t =>
        obtain ⟨hk3, hi3⟩ := h3
        obtain ⟨W4, hr, hb4, e4, hl3⟩ := fin (some (.goto t)) hk3
        exact ⟨_, W4, hr, .inr ⟨rfl, .goto t, by rw [e4]; exact (hIx _).putObj _ hi3 (by omega) hl3 rfl, hb4⟩⟩
      | panic ch => exact h3.elim
      | outgrown => exact h3.elim
    | ret => exact h.elim
    | exit id => exact h.elim
    | goto t => exact h.elim
    | panic ch => exact h.elim
    | outgrown => exact h.elim
  · -- behind the iterator
    rintro e W2 ⟨⟨v, rfl⟩, hend⟩
    rcases hend with ⟨xs, hS, hi, hk⟩ | ⟨pre, hSp, c, hi, hk⟩
    · have hr := run_endLoop (P := P) hk.loop (by rw [hmk]; simp)
      rw [hmk] at hr
      exact ⟨none, _, hr, hdone D xs _ (by omega) hS (hI.putObj _ hi (by omega) hk.loop rfl) ((World.putObj_heap_other (by omega)).trans hk.mark)⟩
    · have hr := run_endLoop (P := P) hk.loop (by rw [hmk]; simp)
      rw [hmk] at hr
      exact ⟨some c, _, hr, hstop D c pre _ (by omega) hSp ((hIx c).putObj _ hi (by omega) hk.loop rfl) ((World.putObj_heap_other (by omega)).trans hk.mark)⟩
end
end Rr
end Go.Proofs.Ytlhpdalfnjhokaa
