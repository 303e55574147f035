/-
  slices.Sorted(maps.Keys(m)): the keys of a map with int keys (map[int]api.Way), sorted, by the library's contracts.
  A range over an iterator whose values lie in memory that it makes itself: the round may rely on it that the value reads as it should.
  moves: the iterator All.
  moves: All, Under.
  A region that draws its order, inside a round of a range over an iterator: from the walk of Pm.
  moves: Pack. What a round that puts cells may write: the maker's two blocks.
  moves: Pack.
-/
import Derived.Test.YtdbkkldgobkjcaaGreatLayed
import Derived.Test.YtdbkkldgobkjcaaGreatMz3
import Derived.Shelf.SlIterI.Nil
import Derived.Shelf.SortM.Plain
import Derived.Shelf.SortM.SortNone
import Derived.Test.YtdbkkldgobkjcaaGreatMz2
import Derived.Test.YtdbkkldgobkjcaaGreatMz7
import Derived.Test.YtdbkkldgobkjcaaGreatMz5
import Derived.Test.YtdbkkldgobkjcaaGreatMz4
import Derived.OrdersIn
import Derived.RangeFuncNested

set_option linter.unusedVariables false
set_option linter.unusedSimpArgs false
namespace Go.Proofs.YtdbkkldgobkjcaaGreat
open Go.RowKit Go.Maps Go.Sort Go.Shelf
namespace KsW

theorem sorts (m : Nat) : AnyZI.SortsIn Tryz.prog Tryz.sorted80_ren Fence.wide m :=
  ⟨fun blk off cap ss W hH hblk hsz => callsIn_wide.2 (AnyM.slices_Sort_int Tryz.sort114 blk off cap ss W hH hblk hsz),
   fun p cap W => callsIn_wide.2 (AnyM.slices_Sort_int_none Tryz.sort114 p cap W)⟩
theorem keys_calls (mb : Option Nat) (W : World) : CallsIn Fence.wide 5 Tryz.prog 98 #[.map mb] W fun e w' => e = .returned (.func (.func 122) #[] #[.pointer (some ⟨W.heap.size, 0, none⟩)]) ∧ w' = W.alloc (.cells #[.map mb] 100) :=
  AnyZI.keys_in Tryz.keys98 Fence.wide 5 trivial rfl mb W
theorem intKeys_mEs (m : List (Int × Value)) : intKeys (DataW.map (mEs intK m)) = m.map (·.1) := by
  simp [intKeys, mEs, Function.comp_def, intK]
  exact fun _ _ _ => rfl

set_option maxHeartbeats 1000000 in
theorem sorted_calls (b : Nat) (m : List (Int × Value)) (w : World) (hown : GMap intK w Tryz.prog 3 b m) (KK : Keyed Tryz.prog 3) (hmax : m.length ≤ 1000000) :
    CallsIn Fence.wide 5 Tryz.prog 80 #[.func (.func 122) #[] #[.pointer (some ⟨w.heap.size, 0, none⟩)]] (w.alloc (.cells #[.map (some b)] 100)) fun e w' => ∃ v : Value, e = .returned v ∧
      w'.ownsRow (w.alloc (.cells #[.map (some b)] 100)).heap.size 3 1 v (m.map (·.1)).length (ints (m.map (·.1))) ∧ Below (w.alloc (.cells #[.map (some b)] 100)).heap.size (w.alloc (.cells #[.map (some b)] 100)) w' := by
  have hsort := hown.sorted KK
  have hbl := hown.lt
  have hsz : Maps.size (DataW.map (mEs intK m)) = m.length := by simp [Maps.size, mEs]
  have hseq : SeqGives Fence.wide 2 Tryz.prog 122 #[.pointer (some ⟨w.heap.size, 0, none⟩)] encZ (fun ss => ss.Perm (intKeys (DataW.map (mEs intK m)))) (Maps.size (DataW.map (mEs intK m))) (w.alloc (.cells #[.map (some b)] 100)) :=
    AnyZI.keys_gives (ρ := Tryz.keys98_ren) { Tryz.keys98 with } Fence.wide _ trivial rfl (by omega) w.heap.size b m.length (DataW.map (mEs intK m)) _ (by simp) (by simp) (by
      obtain ⟨es, clock, hb, Ft, hs, hD⟩ := hown
      exact ⟨es, clock, (Below.heap_alloc _ _ b hbl).trans hb, Ft, hs, hD⟩)
  have h := AnyZI.sorted_in Tryz.sorted80 Fence.wide 5 trivial trivial trivial trivial rfl (by omega) (sorts _) (enters_of Tryz.func114 (by kernel_rfl) rfl) 122 #[.pointer (some ⟨w.heap.size, 0, none⟩)] trivial (enters_of Tryz.func122 (by kernel_rfl) rfl) _ _ (by rw [hsz]; unfold maxLen; omega) (by rw [hsz]; omega) _ hseq
  refine h.mono ?_
  rintro e w' ⟨v, ss, rfl, hp, hrow, _, hb⟩
  rw [intKeys_mEs] at hp
  have hlt : (m.map (·.1)).Pairwise (· < ·) := by
    rw [List.pairwise_map]
    exact hsort.imp (fun {p q} h => by simpa [intK] using h)
  have he : ss.mergeSort (fun x y => decide (x ≤ y)) = m.map (·.1) := by
    refine ((List.mergeSort_perm ss _).trans hp).eq_of_pairwise (le := fun a b : Int => a ≤ b) (fun a b _ _ h1 h2 => Int.le_antisymm h1 h2) ?_ (hlt.imp (fun h => Int.le_of_lt h))
    have := List.pairwise_mergeSort (le := fun x y : Int => decide (x ≤ y)) (fun a b c h1 h2 => by simp only [decide_eq_true_eq] at *; omega) (fun a b => by simp only [Bool.or_eq_true, decide_eq_true_eq]; omega) ss
    exact this.imp (fun h => by simpa using h)
  have hl : ss.length = (m.map (·.1)).length := hp.length_eq
  rw [he, hl] at hrow
  exact ⟨v, rfl, hrow, hb⟩
end KsW
end Go.Proofs.YtdbkkldgobkjcaaGreat

namespace Go.Proofs.YtdbkkldgobkjcaaGreat
open Go.RowKit
namespace Rr
section
variable {δ : Type} {F : Fence} {n : Nat} {P : Program}

/-- a contract of an iterator: its values read by Rd where they are handed over -/
def Reads (F : Fence) (n : Nat) (P : Program) (gf : Nat) (lb : Array Value) (Rd : δ → Value → World → Prop) (Kp : World → World → Prop) (S Sp : List δ → Prop) (T : List δ → δ → Prop) (w : World) : Prop :=
  ∀ (l : Nat) (J Jx : List δ → World → Prop) (W : World), Below w.heap.size w W → AbidesFrom W.heap.size J → AbidesFrom W.heap.size Jx →
    (∀ pre d v W1, J pre W1 → T pre d → Rd d v W1 → YieldAt F (n - 1) P l #[v] W1 fun e W' => (e = .returned (.bool true) ∧ J (pre ++ [d]) W' ∧ Kp W1 W') ∨ (e = .returned (.bool false) ∧ Jx (pre ++ [d]) W')) →
    J [] W →
    CallsIn F n P gf (#[.func (.yield l) #[] #[]] ++ lb) W fun e W' => (∃ v, e = .returned v) ∧ ((∃ xs, S xs ∧ J xs W') ∨ (∃ pre, Sp pre ∧ Jx pre W'))

/-- the loop's own two blocks -/
structure Bk (D l : Nat) (r : Loop) (W : World) : Prop where
  loop : W.heap[l]? = some (.loop r)
  mark : W.heap[D]? = some (.deferred (some []))
theorem Bk.lt {D l : Nat} {r : Loop} {W : World} (h : Bk D l r W) : l < W.heap.size ∧ D < W.heap.size := ⟨(Array.getElem?_eq_some_iff.1 h.loop).1, (Array.getElem?_eq_some_iff.1 h.mark).1⟩
theorem Bk.abide {D l : Nat} {r : Loop} {A B : World} {row : Option Nat} (h : Bk D l r A) (hg : A.grownBy B row) (hr : ∀ k, row = some k → ∃ o : Obj, A.heap[k]? = some o ∧ o.isWalk = true) : Bk D l r B :=
  ⟨(grownBy_keeps hg hr h.loop rfl).trans h.loop, (grownBy_keeps hg hr h.mark rfl).trans h.mark⟩
theorem Bk.keeps {D l B : Nat} {r : Loop} {X Y : World} (h : Bk D l r X) (hk : KeepsFrom B X Y) (hD : B ≤ D) (hl : B ≤ l) : Bk D l r Y :=
  ⟨hk.same _ _ hl h.loop rfl, hk.same _ _ hD h.mark rfl⟩
theorem Bk.turn {D l : Nat} {r : Loop} {W : World} (h : Bk D l r W) (hne : D ≠ l) (r' : Loop) : Bk D l r' (W.putObj l (.loop r')) :=
  ⟨World.putObj_heap_same h.lt.1, (World.putObj_heap_other hne).trans h.mark⟩

/-- how a round may be left -/
def rpost (B : Nat) (Kp : World → World → Prop) (I : List δ → World → Prop) (Ix : Code → List δ → World → Prop) (xs : List δ) (W : World) : Exit → Act → World → Prop
  | .normal, _, W' => KeepsFrom B W W' ∧ Kp W W' ∧ I xs W'
  | .ret, _, W' => KeepsFrom B W W' ∧ Ix .ret xs W'
  | .exit id, _, W' => KeepsFrom B W W' ∧ Ix (.exit id) xs W'
  | .goto t, _, W' => KeepsFrom B W W' ∧ Ix (.goto t) xs W'
  | .panic _, _, _ => False
  | .outgrown, _, _ => False

theorem range_reads {g : Operand} {ps : Array Tmp} {assign body : Code} {Q : Exit → Act → World → Prop} {a : Act} {w : World}
    (hro : F.round = none) (h1 : 1 ≤ n) {gf : Nat} {lb : Array Value} (hg : a.eval g = .func (.func gf) #[] lb) (hFg : F.fn gf) (eg : ∀ args w, (callFunc gf args).run P w = .ok (.enter gf args) w)
    {Rd : δ → Value → World → Prop} {Kp : World → World → Prop} {S Sp : List δ → Prop} {T : List δ → δ → Prop} {w0 : World} (hit : Reads F (n - 1) P gf lb Rd Kp S Sp T w0) (hb0 : Below w0.heap.size w0 w)
    (hKt : ∀ {A B C : World}, Kp A B → Kp B C → Kp A C) (hKb : ∀ (W : World) (l : Nat) (r r' : Loop), w.heap.size ≤ l → W.heap[l]? = some (.loop r) → Kp W (W.putObj l (.loop r'))) (hps : ps.size = 1)
    (I : List δ → World → Prop) (Ix : Code → List δ → World → Prop) (hI : OwnFrom w.heap.size I) (hIx : ∀ c, OwnFrom w.heap.size (Ix c)) (h0 : I [] w)
    (hround : ∀ (l : Nat) (pre : List δ) (d : δ) (v : Value) (W : World), w.heap.size ≤ l → I pre W → T pre d → Rd d v W →
      assign.wpIn (F.inRound l) (n - 1 - 1) P (Exit.then (fun a' W' => KeepsFrom w.heap.size W W' ∧ Kp W W' ∧
        ∀ (W2 : World), W'.grownBy W2 (some l) → (∃ o : Obj, W'.heap[l]? = some o ∧ o.isCells = false) → body.wpIn (F.inRound l) (n - 1 - 1) P (rpost w.heap.size Kp I Ix (pre ++ [d]) W2) a' W2) (fun _ _ _ => False))
        { tmps := (ps.zip #[v]).foldl (fun t (p, v) => t.setIfInBounds p v) a.tmps, defers := [] } W)
    (hdone : ∀ (D : Nat) (xs : List δ) (W : World), w.heap.size ≤ D → S xs → I xs W → W.heap[D]? = some (.deferred (some [])) → Q .normal { a with defers := { target := .collected D, args := #[] } :: a.defers } W)
    (hstop : ∀ (D : Nat) (c : Code) (pre : List δ) (W : World), w.heap.size ≤ D → Sp pre → Ix c pre W → W.heap[D]? = some (.deferred (some [])) → c.wpIn F n P Q { a with defers := { target := .collected D, args := #[] } :: a.defers } W) :
    (Code.rangeFunc g ps assign body).wpIn F n P Q a w := by
  refine wpIn_rangeFunc fun fn hfn => ?_
  obtain ⟨mk, hmk⟩ : ∃ mk : LoopState → Option Code → Loop, mk = fun st pe => { state := st, pending := pe, fn := fn, tmps := a.tmps, params := ps, assign := assign, body := body, defers := w.heap.size } := ⟨_, rfl⟩
  obtain ⟨D, hD⟩ : ∃ D, D = w.heap.size := ⟨_, rfl⟩
  obtain ⟨V, hV⟩ : ∃ V : World, V = (w.alloc (.deferred (some []))).alloc (.loop (mk .ready none)) := ⟨_, rfl⟩
  have hbk : Bk D (D + 1) (mk .ready none) V := by
    rw [hV, hD]
    refine ⟨?_, (Below.heap_alloc _ _ _ (by simp)).trans (World.alloc_heap_new w _)⟩
    have := World.alloc_heap_new (w.alloc (.deferred (some []))) (.loop (mk .ready none))
    rwa [World.size_alloc] at this
  have hIV : I [] V := by rw [hV]; exact hI.alloc _ (hI.alloc _ h0)
  have hbV : Below w0.heap.size w0 V := by
    rw [hV]; exact hb0.trans ((((Below.refl _ w).alloc (Nat.le_refl _) _).alloc (by simp) _).mono hb0.size)
  have hVs : w.heap.size ≤ V.heap.size := by rw [hV]; simp; omega
  refine ⟨D + 1, [{ target := .collected D, args := #[] }], V, { target := .fn (.func gf) lb, args := #[.func (.yield (D + 1)) #[] #[]] }, V, gf, #[.func (.yield (D + 1)) #[] #[]] ++ lb, V, ?_, ?_, ?_, ?_, fun _ => h1, ?_⟩
  · rw [hro, hV, hmk, hD]; exact run_enterLoop_outer _ _ _ _ _
  · simp only [resolve, hg]
    simp [go_sem]
  · intro f' hf'
    simp [Target.leads] at hf'
    subst hf'
    exact hFg
  · simp [invoke, go_sem, eg]
  have walkRow : ∀ {A : World} {row : Option Nat}, (∀ r, row = some r → V.heap.size ≤ r ∧ ∃ o : Obj, A.heap[r]? = some o ∧ o.isWalk = true) → (∀ r, row = some r → w.heap.size ≤ r ∧ ∃ o : Obj, A.heap[r]? = some o ∧ o.isCells = false) :=
    fun hr r e => by
      obtain ⟨h1, o, h2, h3⟩ := hr r e
      exact ⟨Nat.le_trans hVs h1, o, h2, Obj.not_cells_of_walk h3⟩
  refine (hit (D + 1) (fun pre W => I pre W ∧ Bk D (D + 1) (mk .ready none) W) (fun pre W => ∃ c, Ix c pre W ∧ Bk D (D + 1) (mk .done (some c)) W) V hbV
    (fun s A B row h hg hr => ⟨hI s A B row h.1 hg (walkRow hr), h.2.abide hg fun k e => (hr k e).2⟩)
    (fun s A B row h hg hr => let ⟨c, h1, h2⟩ := h; ⟨c, hIx c s A B row h1 hg (walkRow hr), h2.abide hg fun k e => (hr k e).2⟩)
    (fun pre d v W hJ hlen hrd => ?_) ⟨hIV, hbk⟩).mono ?_
  · -- a round
    obtain ⟨hi, hk⟩ := hJ
    have hsz : #[v].size = (mk .ready none).params.size := by rw [hmk]; exact hps.symm
    have hy := run_yield (P := P) (args := #[v]) hk.loop hsz
    rw [hmk] at hy
    refine ⟨fn, _, assign, body, hy, roundIn_of_wpIn hfn (wpIn_mono (hround (D + 1) pre d v W (by omega) hi hlen hrd) fun e a1 W1 h => ?_)⟩
    cases e with
    | normal =>
      obtain ⟨hk1, hkp1, hbody⟩ := h
      have hb1 := hk.keeps hk1 (by omega) (by omega)
      have hst : (mk .ready none).state = .ready := by rw [hmk]
      refine ⟨_, run_beginRound hb1.loop hst, ?_⟩
      have hb2 := hb1.turn (by omega) { mk .ready none with state := .busy }
      have hkb2 : Kp W1 (W1.putObj (D + 1) (.loop { mk .ready none with state := .busy })) := hKb _ _ _ _ (by omega) hb1.loop
      refine wpIn_mono (hbody _ (grownBy_putObj' _ _ _) ⟨_, hb1.loop, rfl⟩) fun e a3 W3 h3 => ?_
      have fin : ∀ (j : Option Code), KeepsFrom w.heap.size (W1.putObj (D + 1) (.loop { mk .ready none with state := .busy })) W3 → ∃ W4, (Instr.endRound (D + 1) j).run P W3 = .ok (.bool j.isNone) W4 ∧ Bk D (D + 1) (mk (if j.isNone then .ready else .done) j) W4 ∧ W4 = W3.putObj (D + 1) (.loop (mk (if j.isNone then .ready else .done) j)) ∧
          W3.heap[D + 1]? = some (.loop { mk .ready none with state := .busy }) := fun j hk3 => by
        have hb3 := hb2.keeps hk3 (by omega) (by omega)
        have hr := run_endRound (P := P) j hb3.loop
        refine ⟨_, hr, ?_, ?_, hb3.loop⟩
        · have := hb3.turn (by omega) { mk .ready none with state := if j.isNone then .ready else .done, pending := j }
          rw [hmk] at this ⊢
          exact this
        · rw [hmk]
      cases e with
      | normal =>
        obtain ⟨hk3, hkp3, hi3⟩ := h3
        obtain ⟨W4, hr, hb4, e4, hl3⟩ := fin none hk3
        exact ⟨_, W4, hr, .inl ⟨rfl, ⟨by rw [e4]; exact hI.putObj _ hi3 (by omega) hl3 rfl, hb4⟩, hKt hkp1 (hKt hkb2 (hKt hkp3 (by rw [e4]; exact hKb _ _ _ _ (by omega) hl3)))⟩⟩
      | ret =>
        obtain ⟨hk3, hi3⟩ := h3
        obtain ⟨W4, hr, hb4, e4, hl3⟩ := fin (some .ret) hk3
        exact ⟨_, W4, hr, .inr ⟨rfl, .ret, by rw [e4]; exact (hIx _).putObj _ hi3 (by omega) hl3 rfl, hb4⟩⟩
      | exit id =>
        obtain ⟨hk3, hi3⟩ := h3
        obtain ⟨W4, hr, hb4, e4, hl3⟩ := fin (some (.exit id)) hk3
        exact ⟨_, W4, hr, .inr ⟨rfl, .exit id, by rw [e4]; exact (hIx _).putObj _ hi3 (by omega) hl3 rfl, hb4⟩⟩
      | goto t =>
        obtain ⟨hk3, hi3⟩ := h3
        obtain ⟨W4, hr, hb4, e4, hl3⟩ := fin (some (.goto t)) hk3
        exact ⟨_, W4, hr, .inr ⟨rfl, .goto t, by rw [e4]; exact (hIx _).putObj _ hi3 (by omega) hl3 rfl, hb4⟩⟩
      | panic ch => exact h3.elim
      | outgrown => exact h3.elim
    | ret => exact h.elim
    | exit id => exact h.elim
    | goto t => exact h.elim
    | panic ch => exact h.elim
    | outgrown => exact h.elim
  · -- behind the iterator
    rintro e W2 ⟨⟨v, rfl⟩, hend⟩
    rcases hend with ⟨xs, hS, hi, hk⟩ | ⟨pre, hSp, c, hi, hk⟩
    · have hr := run_endLoop (P := P) hk.loop (by rw [hmk]; simp)
      rw [hmk] at hr
      exact ⟨none, _, hr, hdone D xs _ (by omega) hS (hI.putObj _ hi (by omega) hk.loop rfl) ((World.putObj_heap_other (by omega)).trans hk.mark)⟩
    · have hr := run_endLoop (P := P) hk.loop (by rw [hmk]; simp)
      rw [hmk] at hr
      exact ⟨some c, _, hr, hstop D c pre _ (by omega) hSp ((hIx c).putObj _ hi (by omega) hk.loop rfl) ((World.putObj_heap_other (by omega)).trans hk.mark)⟩
end
end Rr
end Go.Proofs.YtdbkkldgobkjcaaGreat

namespace Go.Proofs.YtdbkkldgobkjcaaGreat
open Go.RowKit Go.Maps
namespace Mv
open It
attribute [local go_sem] Oper.semAt_some

/-- from world to world: whatever is not in X, and no loop's record, is as it was -/
structure KpX (X : Nat → Prop) (A B : World) : Prop where
  os : B.os = A.os
  tape : B.tape = A.tape
  output : B.output = A.output
  size : A.heap.size ≤ B.heap.size
  same : ∀ b o, A.heap[b]? = some o → ¬ X b → (∀ r, o ≠ .loop r) → B.heap[b]? = some o
theorem KpX.refl (X : Nat → Prop) (A : World) : KpX X A A := ⟨rfl, rfl, rfl, Nat.le_refl _, fun _ _ h _ _ => h⟩
theorem KpX.trans {X : Nat → Prop} {A B C : World} (h : KpX X A B) (k : KpX X B C) : KpX X A C :=
  ⟨k.os.trans h.os, k.tape.trans h.tape, k.output.trans h.output, Nat.le_trans h.size k.size, fun b o h1 h2 h3 => k.same b o (h.same b o h1 h2 h3) h2 h3⟩
theorem KpX.loop {X : Nat → Prop} {W : World} {l : Nat} {r r' : Loop} (h : W.heap[l]? = some (.loop r)) : KpX X W (W.putObj l (.loop r')) := by
  refine ⟨rfl, rfl, rfl, by simp, fun b _ hb _ hn => ?_⟩
  by_cases e : b = l
  · subst e
    rw [h] at hb
    cases hb
    exact (hn r rfl).elim
  · exact (World.putObj_heap_other e).trans hb
theorem KpX.of_grown {X : Nat → Prop} {A B : World} {row : Option Nat} (h : A.grownBy B row) (hr : ∀ g, row = some g → X g) : KpX X A B :=
  ⟨h.os, h.tape, h.output, h.size, fun b _ hb hx _ => (h.block b (Array.getElem?_eq_some_iff.1 hb).1 (fun e => hx (hr b e.symm))).trans hb⟩
theorem KpX.ob {X : Nat → Prop} {A B : World} {b : Nat} {t : TypeId} {cs : Array Value} (h : KpX X A B) (ho : Ob A b t cs) (hx : ¬ X b) : Ob B b t cs := h.same b _ ho hx (fun r e => by cases e)
theorem KpX.cell {X : Nat → Prop} {A B : World} {b j : Nat} {v : Value} (h : KpX X A B) (hc : A.cell? ⟨b, j, none⟩ = some v) (hx : ¬ X b) : B.cell? ⟨b, j, none⟩ = some v := by
  have h2 := hc
  unfold World.cell? at h2
  split at h2
  · rename_i c t _ hb
    have := h.same b _ hb hx (fun r e => by cases e)
    exact (World.cell?_of_block (w := A) (w' := B) (a := ⟨b, j, none⟩) (this.trans hb.symm)).trans hc
  · cases h2
theorem KpX.sl {X : Nat → Prop} {A B : World} {lo hi size n : Nat} {v : Value} {xs : List Value} (h : KpX X A B) (hs : Sl A lo hi size v n xs) (hx : ∀ i, lo ≤ i → i < hi → ¬ X i) : Sl B lo hi size v n xs := by
  refine ⟨hs.len, ?_⟩
  obtain ⟨A', c, e, h1, h2, h3⟩ := hs.at_
  refine ⟨A', c, e, h1, h2, fun hn => ?_⟩
  obtain ⟨b, o, ea, hl, hb, hc⟩ := h3 hn
  refine ⟨b, o, ea, hl, hb, fun j hj => ?_⟩
  have hj2 : j < xs.length := by rw [hs.len]; exact hj
  have e2 : xs[j]? = some xs[j] := List.getElem?_eq_getElem hj2
  rw [e2]
  exact h.cell ((hc j hj).trans e2) (hx b hl hb)
theorem KpX.gmap {X : Nat → Prop} {A B : World} {mb : Nat} {m : List (Int × Value)} {t : TypeId} (h : KpX X A B) (hm : GMap intK A Tryz.prog t mb m) (hx : ¬ X mb) : GMap intK B Tryz.prog t mb m := by
  obtain ⟨es, clock, h1, F, h2, e⟩ := hm
  exact ⟨es, clock, h.same mb _ h1 hx (fun r e => by cases e), F, h2, e⟩
theorem WayAt.kpx {X F : Nat → Prop} {A B : World} {val : Value} {d : Way} (h : WayAt A F val d) (hk : KpX X A B) (hF : ∀ i, F i → ¬ X i) : WayAt B F val d := by
  obtain ⟨v, lo, hi, e, h1, h2, h3⟩ := h
  exact ⟨v, lo, hi, e, hk.sl h1 (fun i a b => hF i (h3 i a b)), Nat.le_trans h2 hk.size, h3⟩
theorem Rel.kpx {X F : Nat → Prop} {A B : World} (hk : KpX X A B) (hF : ∀ i, F i → ¬ X i) : ∀ {m : List (Int × Value)} {ds : List Way}, Rel A F m ds → Rel B F m ds
  | [], [], _ => trivial
  | _ :: _, _ :: _, h => ⟨h.1, h.2.1.kpx hk hF, Rel.kpx hk hF h.2.2⟩
  | [], _ :: _, h => h.elim
  | _ :: _, [], h => h.elim
theorem MvAt.kpx {X : Nat → Prop} {A B : World} {b mb : Nat} {ds : List Way} (h : MvAt A b mb X ds) (hk : KpX X A B) : MvAt B b mb X ds := by
  obtain ⟨m, hm, hR⟩ := h.map
  exact ⟨hk.ob h.ob h.nx.1, ⟨m, hk.gmap hm h.nx.2, hR.kpx hk (fun i hi => hi.2.2)⟩, h.ne, h.nx, fun i hi => Nat.lt_of_lt_of_le (h.xl i hi) hk.size, h.ok, h.len⟩
theorem MvAt.sorted {w : World} {b mb : Nat} {X : Nat → Prop} {ds : List Way} (h : MvAt w b mb X ds) : ds.Pairwise (fun c d => c.mv < d.mv) := by
  obtain ⟨m, hm, hR⟩ := h.map
  have hs := hm.sorted keyedI
  have h1 : (m.map (·.1)).Pairwise (· < ·) := by
    rw [List.pairwise_map]
    exact hs.imp (fun {p q} h => by simpa [intK] using h)
  rw [hR.keys, List.pairwise_map] at h1
  exact h1
theorem findW_sorted : ∀ {ds : List Way}, ds.Pairwise (fun c d => c.mv < d.mv) → ∀ (k : Nat) (h : k < ds.length), findW ds ds[k].mv = some ds[k]
  | [], _, k, h => by simp at h
  | d :: r, hp, 0, _ => by rw [findW_cons]; exact if_pos rfl
  | d :: r, hp, k + 1, h => by
    rw [List.pairwise_cons] at hp
    have hk : k < r.length := by simpa using h
    rw [findW_cons, List.getElem_cons_succ, if_neg (fun e => by have := hp.1 r[k] (List.getElem_mem hk); omega)]
    exact findW_sorted hp.2 k hk

/-- how a move that is handed over reads: its list lies in a block from lo on -/
def RdW (lo : Nat) (d : Way) (v : Value) (W : World) : Prop := ∃ sv, v = wayV d sv ∧ ItemsAt W lo W.heap.size sv d.l

theorem RdOf {W2 wr : World} {lo : Nat} {mv fr to_ : Int} {il : List It.Item} {came : Bool} {sv : Value} (h : W2.ownsRow wr.heap.size 37 2 sv il.length (itemCells il)) (o : Obj) (hl : lo ≤ wr.heap.size) :
    RdW lo ⟨mv, fr, to_, il, came⟩ (wayV ⟨mv, fr, to_, il, came⟩ sv) (W2.alloc o) :=
  ⟨sv, rfl, (ItemsAt.mono (ItemsAt.of_own h) ((Below.refl _ W2).alloc (Nat.le_refl _) o) (by simp)).wide hl (Nat.le_refl _)⟩

set_option maxRecDepth 100000 in
set_option maxHeartbeats 4000000 in
theorem all_reads (n : Nat) (hn : 1 ≤ n) (b mb Bs : Nat) (X : Nat → Prop) (ds : List Way) (w : World) (h : MvAt w b mb X ds) (hbs : Ob w Bs 53 #[.pointer (some ⟨b, 0, none⟩)]) (hxs : ¬ X Bs) :
    Rr.Reads Fence.wide n Tryz.prog 97 #[.pointer (some ⟨Bs, 0, none⟩)] (RdW w.heap.size) (KpX X) (fun xs => xs = ds) (fun pre => pre <+: ds) (fun pre d => pre ++ [d] <+: ds) w := by
  intro l J Jx W hW hJ hJx hY h0
  have hM := h.same hW
  have hB := hbs.same hW
  have cB : W.cell? ⟨Bs, 0, none⟩ = some (.pointer (some ⟨b, 0, none⟩)) := hB.cell (j := 0) rfl
  have gb : W.cell? ⟨b, 0, none⟩ = some (.map (some mb)) := hM.ob.cell (j := 0) rfl
  have cMd := Lib.hid (made_calls b mb W gb)
  obtain ⟨m, hm, hR⟩ := hM.map
  have hlen := hM.len
  have hml := hR.length
  have cK := Lib.hid (KsW.keys_calls (some mb) W)
  have cS := KsW.sorted_calls mb m W hm keyedI (by omega)
  rw [hR.keys] at cS
  have CS := Lib.hid cS
  have HM := Lib.hid hM
  have HB := Lib.hid hB
  have hws := hW.size
  clear cS hm hR hml
  refine callsIn_of_wp Tryz.func97 rfl trivial ?_ rfl
  simp only [Tryz.ntmps97, List.size_toArray, List.length_cons, List.length_nil, Nat.reduceAdd, Nat.reduceSub, Array.replicate_succ, Array.replicate_zero, List.push_toArray, List.append_toArray, List.nil_append, List.cons_append]
  gi_wp2_with (first
    | (refine ⟨trivial, ?_⟩; gi_at_call 58; refine (callsIn_wide.2 cMd.out).mono ?_; rintro e W' ⟨rfl, rfl⟩)
    | (refine ⟨trivial, ?_⟩; gi_at_call 98; refine (callsIn_wide.2 (callsIn_wide.1 cK.out)).mono ?_; rintro e W' ⟨rfl, rfl⟩)
    | (refine ⟨trivial, ?_⟩; gi_at_call 80; refine (callsIn_wide.2 (callsIn_wide.1 CS.out)).mono ?_; rintro e W1 ⟨kv, rfl, hkv, hb1⟩; obtain ⟨Ak, ck, rfl, -⟩ := (IntsAt.of_own hkv).form))
  have hal := (Below.refl W.heap.size W).alloc (Nat.le_refl _) (.cells #[.map (some mb)] 100)
  have hb01 : Below W.heap.size W W1 := hal.trans (hb1.mono hal.size)
  have hs01 := hb01.size
  have hJ1 : J [] W1 := hJ _ _ _ none h0 (only_of_below hb01 none) (fun r e => by cases e)
  have hM1 := HM.out.same hb01
  have hB1 := HB.out.same hb01
  have hK1 : IntsAt W1 W.heap.size W1.heap.size (.slice Ak ds.length ck) (ds.map (·.mv)) := by
    have := (IntsAt.of_own hkv).wide (lo' := W.heap.size) (by simp) (Nat.le_refl _)
    rwa [List.length_map] at this
  have HXL := Lib.hid HM.out.xl
  clear hkv hal hb1 cK CS cMd cB gb
  gi_loopw [4, 5, 6, 17] (fun _ _ _ i wr => ∃ k : Nat, k ≤ ds.length ∧ i = .int .i64 k ∧ J (ds.take k) wr ∧ MvAt wr b mb X ds ∧ Ob wr Bs 53 #[.pointer (some ⟨b, 0, none⟩)] ∧ IntsAt wr W.heap.size W1.heap.size (.slice Ak ds.length ck) (ds.map (·.mv)) ∧ W1.heap.size ≤ wr.heap.size) (fun _ _ _ i _ => ds.length - (intOf i).toNat)
  case atStart => exact ⟨0, by omega, rfl, hJ1, hM1, hB1, hK1, Nat.le_refl _⟩
  case round =>
    obtain ⟨k, hk, rfl, hJr, hMr, hBr, hKr, hsr⟩ := hrel
    clear hJ1 hM1 hB1 hK1
    by_cases hlt : k < ds.length
    · obtain ⟨kb, ko, hA, hk1, hk2, hck⟩ := hKr.cellAt (j := k) (by simpa using hlt)
      have hget : (ds.map (·.mv)).getD k 0 = ds[k].mv := by simp [hlt]
      rw [hget] at hck
      have hd : decide (k < ds.length) = true := by simpa using hlt
      have hfind := findW_sorted hMr.sorted k hlt
      have hok := hMr.ok ds[k] (List.getElem_mem hlt)
      have cB : wr.cell? ⟨Bs, 0, none⟩ = some (.pointer (some ⟨b, 0, none⟩)) := hBr.cell (j := 0) rfl
      have cMv := move_calls ds[k].mv b mb X ds wr hMr (by have := hok.mv; omega) (by have := hok.mv; omega)
      rw [hfind] at cMv
      have hlen3 : ds.take k ++ [ds[k]] <+: ds := by
        rw [← List.take_succ_eq_append_getElem hlt]
        exact List.take_prefix _ _
      have HTk := Lib.hid (show ds.take (k + 1) = ds.take k ++ [ds[k]] from List.take_succ_eq_append_getElem hlt)
      have HLk := Lib.hid (show (ds.take k).length = k by rw [List.length_take]; omega)
      have CMv := Lib.hid cMv
      have HMr := Lib.hid hMr
      have HBr := Lib.hid hBr
      have HKr := Lib.hid hKr
      have HJr := Lib.hid hJr
      clear cMv hfind hMr hBr hKr hJr hget hok
      generalize ds[k] = d at *
      obtain ⟨mv, fr, to_, il, came⟩ := d
      subst hA
      dsimp only at hck CMv
      have hlw : w.heap.size ≤ wr.heap.size := by omega
      have HY := Lib.hid (fun W1 v (h1 : J (ds.take k) W1) h3 => hY (ds.take k) ⟨mv, fr, to_, il, came⟩ v W1 h1 hlen3 h3)
      gi_wp2_with (refine ⟨trivial, ?_⟩; gi_at_call 62; refine (callsIn_wide.2 CMv.out).mono ?_; rintro e W2 ⟨⟨sv, rfl, hsv⟩, hb2⟩; obtain ⟨As, cs, rfl, -⟩ := (ItemsAt.of_own hsv).form; simp only [wayV, Option.getD_some, Option.isSome_some])
      dsimp only [Option.getD_some] at hsv
      have hb3 := hb2.alloc hb2.size (.cells #[.int .i64 mv, .int .i64 fr, .int .i64 to_, .slice As il.length cs, .bool came] 108)
      have hJ3 := hJ _ _ _ none HJr.out (only_of_below hb3 none) (fun r e => by cases e)
      have hR3 := RdOf (mv := mv) (fr := fr) (to_ := to_) (came := came) hsv (.cells #[.int .i64 mv, .int .i64 fr, .int .i64 to_, .slice As il.length cs, .bool came] 108) hlw
      obtain ⟨fn, tmps, assign, body, hy, hR⟩ := HY.out _ _ hJ3 hR3
      dsimp only [wayV] at hy
      rw [show Sem.run _ _ _ = _ from hy]
      gi_wp2
      refine hR.mono ?_
      have hM3 := HMr.out.same hb3
      have hB3 := HBr.out.same hb3
      have hK3 := Sl.below HKr.out (hb3.mono hsr)
      have hs3 := hb3.size
      clear hJ3 hR3 hsv hb2
      rintro e W4 (⟨rfl, hJ4, hk4⟩ | ⟨rfl, hJx4⟩)
      · rw [← HTk.out] at hJ4
        gi_wp2
        go_roundw
        case rel => exact ⟨k + 1, by omega, by go_num, hJ4, hM3.kpx hk4, hk4.ob hB3 hxs, hk4.sl hK3 (fun i h1 h2 hx => by have := HXL.out i hx; omega), by have := hk4.size; omega⟩
        case measure => simp [intOf]; omega
      · rw [← HTk.out] at hJx4
        gi_wp2
        refine bodyPost_ret (results_none rfl _ _ _) rfl ?_
        exact ⟨⟨_, rfl⟩, .inr ⟨_, List.take_prefix _ _, hJx4⟩⟩
    · obtain rfl : k = ds.length := by omega
      have hd : decide (ds.length < ds.length) = false := by simp
      rw [List.take_length] at hJr
      gi_wp2
      go_end0
      exact ⟨⟨_, rfl⟩, .inl ⟨_, rfl, hJr⟩⟩
end Mv
end Go.Proofs.YtdbkkldgobkjcaaGreat

namespace Go.Proofs.YtdbkkldgobkjcaaGreat
open Go.RowKit Go.Maps
namespace Mv
open It
attribute [local go_sem] Oper.semAt_some

theorem M_fits {l : List It.Item} (h : M l) : Fits l := fun x hx => by
  have h1 := h.ok x hx
  have h2 := h1.1
  unfold good at h2
  simp only [Bool.and_eq_true, decide_eq_true_eq] at h2
  refine ⟨Nat.le_trans h2.2 (by unfold maxLen; omega), by omega, by omega⟩
theorem normRes_M {L : List It.Item} (h : (normRes L).2 = 0) : M (normRes L).1 := by
  unfold normRes at h ⊢
  by_cases hs : sumsCode L = 0
  · rw [if_pos hs] at h ⊢
    by_cases hl : (normL L).length ≤ 16
    · rw [if_pos hl] at h ⊢
      have hs2 := hs
      unfold sumsCode at hs2
      cases ho : L.all okC with
      | false => rw [ho] at hs2; simp at hs2
      | true =>
        cases hv : over L with
        | true => rw [ho, hv] at hs2; simp at hs2
        | false =>
          refine normL_M (fun x hx => ?_) (tot_le hv) hl
          have := List.all_eq_true.1 ho x hx
          unfold okC at this
          rw [Bool.and_eq_true] at this
          exact this.1
    · rw [if_neg hl] at h
      simp at h
  · rw [if_neg hs] at h
    exact absurd h hs
theorem plusOf_M {a b : List It.Item} (h : (plusOf a b).2 = 0) : M (plusOf a b).1 := by
  unfold plusOf at h ⊢
  split
  · rename_i hm
    rw [if_pos hm] at h
    exact normRes_M h
  · rename_i hm
    rw [if_neg hm] at h
    simp at h

/-- what is on its way from fr to to_: the sum so far, and whether it went on -/
def skipW (fr to_ : Int) (d : Way) : Bool := d.came || decide (d.fr ≠ fr) || decide (d.to_ ≠ to_)
def underStep (fr to_ : Int) (s : List It.Item × Bool) (d : Way) : List It.Item × Bool :=
  if s.2 then (if skipW fr to_ d then s else if (plusOf s.1 d.l).2 = 0 then ((plusOf s.1 d.l).1, true) else (s.1, false)) else s
def underGo (fr to_ : Int) (ds : List Way) : List It.Item × Bool := ds.foldl (underStep fr to_) ([], true)
def underOf (fr to_ : Int) (ds : List Way) : List It.Item := (underGo fr to_ ds).1
theorem underGo_snoc (fr to_ : Int) (ds : List Way) (d : Way) : underGo fr to_ (ds ++ [d]) = underStep fr to_ (underGo fr to_ ds) d := by
  unfold underGo
  rw [List.foldl_append]
  rfl
theorem under_fix (fr to_ : Int) (s : List It.Item × Bool) (h : s.2 = false) : ∀ ds : List Way, ds.foldl (underStep fr to_) s = s
  | [] => rfl
  | d :: r => by
    have : underStep fr to_ s d = s := by unfold underStep; rw [h]; rfl
    rw [List.foldl_cons, this]
    exact under_fix fr to_ s h r
theorem under_stop {fr to_ : Int} {pre ds : List Way} (hp : pre <+: ds) (h : (underGo fr to_ pre).2 = false) : underGo fr to_ ds = underGo fr to_ pre := by
  obtain ⟨r, rfl⟩ := hp
  unfold underGo at h ⊢
  rw [List.foldl_append]
  exact under_fix _ _ _ h r
theorem underGo_fits (fr to_ : Int) (ds : List Way) : Fits (underGo fr to_ ds).1 := by
  suffices ∀ (ds : List Way) (s : List It.Item × Bool), Fits s.1 → Fits (ds.foldl (underStep fr to_) s).1 from this ds _ (fun _ h => by cases h)
  intro ds
  induction ds with
  | nil => exact fun _ h => h
  | cons d r ih =>
    intro s hs
    refine ih _ ?_
    unfold underStep
    split
    · split
      · exact hs
      · split
        · rename_i h
          exact M_fits (plusOf_M h)
        · exact hs
    · exact hs

/-- a write that hits no cells leaves cells as they are -/
theorem ob_keep {A B : World} {row : Option Nat} {b : Nat} {t : TypeId} {cs : Array Value} (h : Ob A b t cs) (hg : A.grownBy B row) (hr : ∀ r, row = some r → ∃ o : Obj, A.heap[r]? = some o ∧ o.isCells = false) : Ob B b t cs :=
  h.kept hg fun e => by
    obtain ⟨o, h1, h2⟩ := hr b e.symm
    rw [show A.heap[b]? = _ from h] at h1
    cases h1
    cases h2
theorem sl_keep {A B : World} {row : Option Nat} {lo hi size n : Nat} {v : Value} {xs : List Value} (h : Sl A lo hi size v n xs) (hg : A.grownBy B row) (hr : ∀ r, row = some r → ∃ o : Obj, A.heap[r]? = some o ∧ o.isCells = false) (hh : hi ≤ A.heap.size) : Sl B lo hi size v n xs := by
  refine ⟨h.len, ?_⟩
  obtain ⟨A', c, e, h1, h2, h3⟩ := h.at_
  refine ⟨A', c, e, h1, h2, fun hn => ?_⟩
  obtain ⟨b, o, ea, hl, hb, hc⟩ := h3 hn
  refine ⟨b, o, ea, hl, hb, fun j hj => ?_⟩
  have hj2 : j < xs.length := by rw [h.len]; exact hj
  have e2 : xs[j]? = some xs[j] := List.getElem?_eq_getElem hj2
  rw [e2]
  have h4 := (hc j hj).trans e2
  refine (World.cell?_of_block (hg.block b (by omega) fun e => ?_)).trans h4
  obtain ⟨u, h5, h6⟩ := hr b e.symm
  unfold World.cell? at h4
  rw [h5] at h4
  cases u <;> first | (cases h6; done) | (cases h4; done)

/-- Moves.All: the receiver is boxed, the function value captures the box -/
theorem all_calls (p : Option Addr) (w : World) :
    Calls Tryz.prog 55 #[.pointer p] w fun e w' => e = .returned (.func (.func 97) #[] #[.pointer (some ⟨w.heap.size, 0, none⟩)]) ∧ w.alloc (.cells #[.pointer p] 53) = w' := by
  go_enter Tryz.func55, Tryz.ntmps55
  go_wp2
  go_ret
  exact ⟨rfl, rfl⟩

set_option maxRecDepth 100000 in
set_option maxHeartbeats 4000000 in
theorem under_calls (fr to_ : Int) (b mb : Nat) (X : Nat → Prop) (ds : List Way) (w : World) (h : MvAt w b mb X ds) :
    Calls Tryz.prog 56 #[.pointer (some ⟨b, 0, none⟩), .int .i64 fr, .int .i64 to_] w fun e w' =>
      (∃ v, e = .returned v ∧ w'.ownsRow w.heap.size 37 2 v (underOf fr to_ ds).length (itemCells (underOf fr to_ ds))) ∧ Below w.heap.size w w' := by
  have hok := h.ok
  refine (callsIn_wide (n := 6)).1 ?_
  refine callsIn_of_wp_marks Tryz.func56 rfl trivial ?_ rfl
  simp only [Tryz.ntmps56, List.size_toArray, List.length_cons, List.length_nil, Nat.reduceAdd, Nat.reduceSub, Array.replicate_succ, Array.replicate_zero, List.push_toArray, List.append_toArray, List.nil_append, List.cons_append]
  gi_wp2_with (refine ⟨trivial, ?_⟩; gi_at_call 55; refine (callsIn_wide.2 (all_calls _ _)).mono ?_; rintro e w' ⟨rfl, rfl⟩)
  have o0 : Ob w (w.heap.size) 3 #[.int .i64 fr] → True := fun _ => trivial
  have a1 := Below.refl w.heap.size w
  have b0 := Ob.new w 3 #[.int .i64 fr]
  have a2 := a1.alloc (Nat.le_refl _) (.cells #[.int .i64 fr] 3)
  have b1 := Ob.new (w.alloc (.cells #[.int .i64 fr] 3)) 3 #[.int .i64 to_]
  have a3 := a2.alloc (by simp) (.cells #[.int .i64 to_] 3)
  have b2 := Ob.new ((w.alloc (.cells #[.int .i64 fr] 3)).alloc (.cells #[.int .i64 to_] 3)) 30 #[.slice none 0 0]
  have a4 := a3.alloc (by simp; omega) (.cells #[.slice none 0 0] 30)
  have b3 := Ob.new (((w.alloc (.cells #[.int .i64 fr] 3)).alloc (.cells #[.int .i64 to_] 3)).alloc (.cells #[.slice none 0 0] 30)) 30 #[.slice none 0 0]
  have a5 := a4.alloc (by simp; omega) (.cells #[.slice none 0 0] 30)
  have b4 := Ob.new ((((w.alloc (.cells #[.int .i64 fr] 3)).alloc (.cells #[.int .i64 to_] 3)).alloc (.cells #[.slice none 0 0] 30)).alloc (.cells #[.slice none 0 0] 30)) 53 #[.pointer (some ⟨b, 0, none⟩)]
  have hB5 := a5.alloc (by simp; omega) (.cells #[.pointer (some ⟨b, 0, none⟩)] 53)
  replace b0 := (((b0.alloc (.cells #[.int .i64 to_] 3)).alloc (.cells #[.slice none 0 0] 30)).alloc (.cells #[.slice none 0 0] 30)).alloc (.cells #[.pointer (some ⟨b, 0, none⟩)] 53)
  replace b1 := ((b1.alloc (.cells #[.slice none 0 0] 30)).alloc (.cells #[.slice none 0 0] 30)).alloc (.cells #[.pointer (some ⟨b, 0, none⟩)] 53)
  replace b2 := (b2.alloc (.cells #[.slice none 0 0] 30)).alloc (.cells #[.pointer (some ⟨b, 0, none⟩)] 53)
  replace b3 := b3.alloc (.cells #[.pointer (some ⟨b, 0, none⟩)] 53)
  simp only [World.size_alloc] at b1 b2 b3 b4
  have hsz5 : w.heap.size + 5 = (((((w.alloc (.cells #[.int .i64 fr] 3)).alloc (.cells #[.int .i64 to_] 3)).alloc (.cells #[.slice none 0 0] 30)).alloc (.cells #[.slice none 0 0] 30)).alloc (.cells #[.pointer (some ⟨b, 0, none⟩)] 53)).heap.size := by simp
  clear a1 a2 a3 a4 a5 o0
  generalize (((((w.alloc (.cells #[.int .i64 fr] 3)).alloc (.cells #[.int .i64 to_] 3)).alloc (.cells #[.slice none 0 0] 30)).alloc (.cells #[.slice none 0 0] 30)).alloc (.cells #[.pointer (some ⟨b, 0, none⟩)] 53)) = w5 at *
  have hM5 : MvAt w5 b mb (fun i => X i ∨ i = w.heap.size + 1 + 1 ∨ i = w.heap.size + 1 + 1 + 1) ds := h.more hB5 fun i hi => by
    rcases hi with hi | rfl | rfl
    · exact ⟨.inl hi, by have := h.xl i hi; omega⟩
    · exact ⟨.inr (by omega), by omega⟩
    · exact ⟨.inr (by omega), by omega⟩
  obtain ⟨X5, hX5⟩ : ∃ X5 : Nat → Prop, X5 = fun i => X i ∨ i = w.heap.size + 1 + 1 ∨ i = w.heap.size + 1 + 1 + 1 := ⟨_, rfl⟩
  rw [← hX5] at hM5
  have hxs5 : ¬ X5 (w.heap.size + 1 + 1 + 1 + 1) := fun hi => by
    rw [hX5] at hi
    rcases hi with hi | hi | hi
    · have := h.xl _ hi; omega
    · omega
    · omega
  have hx2 : X5 (w.heap.size + 1 + 1) := by rw [hX5]; exact .inr (.inl rfl)
  have hx3 : X5 (w.heap.size + 1 + 1 + 1) := by rw [hX5]; exact .inr (.inr rfl)
  clear hX5 h
  refine Rr.range_reads (n := 6) rfl (by omega) (gf := 97) rfl trivial (enters_of Tryz.func97 (by kernel_rfl) rfl)
    (all_reads 5 (by omega) b mb (w.heap.size + 1 + 1 + 1 + 1) X5 ds w5 hM5 b4 hxs5) (Below.refl _ _) (fun h k => h.trans k) (fun W l r r' _ h => KpX.loop h) rfl
    (fun pre W => Ob W w.heap.size 3 #[.int .i64 fr] ∧ Ob W (w.heap.size + 1) 3 #[.int .i64 to_] ∧ Ob W (w.heap.size + 1 + 1) 30 #[.slice none 0 0] ∧ Below w.heap.size w5 W ∧ (underGo fr to_ pre).2 = true ∧
      ∃ v, Ob W (w.heap.size + 1 + 1 + 1) 30 #[v] ∧ W.ownsRow w.heap.size 37 2 v (underGo fr to_ pre).1.length (itemCells (underGo fr to_ pre).1))
    (fun c pre W => c = .ret ∧ Below w.heap.size w5 W ∧ (underGo fr to_ pre).2 = false ∧
      ∃ v, Ob W (w.heap.size + 1 + 1) 30 #[v] ∧ W.ownsRow w.heap.size 37 2 v (underGo fr to_ pre).1.length (itemCells (underGo fr to_ pre).1))
    (fun s A B row hs hg hr => ⟨ob_keep hs.1 hg (fun r e => (hr r e).2), ob_keep hs.2.1 hg (fun r e => (hr r e).2), ob_keep hs.2.2.1 hg (fun r e => (hr r e).2), ownFrom_below (B := w5.heap.size) (by omega) (by omega) s A B row hs.2.2.2.1 hg hr, hs.2.2.2.2.1, by
      obtain ⟨v, h1, h2⟩ := hs.2.2.2.2.2
      exact ⟨v, ob_keep h1 hg (fun r e => (hr r e).2), row_keep h2 hg (fun r e => (hr r e).2)⟩⟩)
    (fun c s A B row hs hg hr => ⟨hs.1, ownFrom_below (B := w5.heap.size) (by omega) (by omega) s A B row hs.2.1 hg hr, hs.2.2.1, by
      obtain ⟨v, h1, h2⟩ := hs.2.2.2
      exact ⟨v, ob_keep h1 hg (fun r e => (hr r e).2), row_keep h2 hg (fun r e => (hr r e).2)⟩⟩)
    ⟨b0, b1, b2, Below.refl _ _, rfl, _, b3, World.ownsRow_nil _ _ _ _⟩ ?round ?done ?stop
  case round =>
    rintro l pre ⟨dmv, dfr, dto, dl, dcame⟩ v W hl ⟨hb0, hb1, hb2, hB, hgo, ov, hb3, hown⟩ hlen ⟨sv, rfl, hsv⟩
    obtain ⟨As, cs, rfl, -⟩ := hsv.form
    have hFl : Fits dl := by
      obtain ⟨r, hr⟩ := hlen
      exact M_fits ((may_iff dl).1 (hok ⟨dmv, dfr, dto, dl, dcame⟩ (by rw [← hr]; simp)).l)
    have hFg := underGo_fits fr to_ pre
    obtain ⟨Ao, co, rfl, -⟩ := (ItemsAt.of_own hown).form
    have hstep := underGo_snoc fr to_ pre ⟨dmv, dfr, dto, dl, dcame⟩
    have HG := Lib.hid (underGo_snoc fr to_ pre ⟨dmv, dfr, dto, dl, dcame⟩)
    have hs1 : underGo fr to_ pre = ((underGo fr to_ pre).1, true) := by rw [← hgo]
    rw [hs1] at hstep
    generalize (underGo fr to_ pre).1 = G at *
    dsimp only [wayV]
    gi_wp2
    have g1 := World.grownBy_alloc W (.cells #[.int .i64 dmv, .int .i64 dfr, .int .i64 dto, .slice As dl.length cs, .bool dcame] 108) none
    refine ⟨keeps_below _ ((Below.refl _ W).alloc (Nat.le_refl _) _), KpX.of_grown g1 (fun g e => by cases e), fun W2 hg2 o2 ho21 ho22 => ?_⟩
    have ho2 : ∃ o : Obj, (W.alloc (.cells #[.int .i64 dmv, .int .i64 dfr, .int .i64 dto, .slice As dl.length cs, .bool dcame] 108)).heap[l]? = some o ∧ o.isCells = false := ⟨o2, ho21, ho22⟩
    have hb8 := ob_keep (Ob.new W 108 #[.int .i64 dmv, .int .i64 dfr, .int .i64 dto, .slice As dl.length cs, .bool dcame]) hg2 (fun r e => by cases e; exact ho2)
    replace hb0 := ob_keep (hb0.alloc _) hg2 (fun r e => by cases e; exact ho2)
    replace hb1 := ob_keep (hb1.alloc _) hg2 (fun r e => by cases e; exact ho2)
    replace hb2 := ob_keep (hb2.alloc _) hg2 (fun r e => by cases e; exact ho2)
    replace hb3 := ob_keep (hb3.alloc _) hg2 (fun r e => by cases e; exact ho2)
    replace hown := row_keep (hown.alloc _) hg2 (fun r e => by cases e; exact ho2)
    replace hB : Below w.heap.size w5 W2 := (hB.alloc (by have := hB.size; omega) (.cells #[.int .i64 dmv, .int .i64 dfr, .int .i64 dto, .slice As dl.length cs, .bool dcame] 108)).grown hg2 (by have := hB.size; simp; omega) (fun k e => by cases e; omega)
    have hsl : ItemsAt W2 0 W2.heap.size (.slice As dl.length cs) dl := (sl_keep (Sl.below hsv ((Below.refl _ W).alloc (Nat.le_refl _) (.cells #[.int .i64 dmv, .int .i64 dfr, .int .i64 dto, .slice As dl.length cs, .bool dcame] 108))) hg2 (fun r e => by cases e; exact ho2) (by simp)).wide (Nat.zero_le _) (by have := hg2.size; simp at this; omega)
    have d0 := hb8.cell (j := 0) (v := .int .i64 dmv) rfl
    have d1 := hb8.cell (j := 1) (v := .int .i64 dfr) rfl
    have d2 := hb8.cell (j := 2) (v := .int .i64 dto) rfl
    have d3 := hb8.cell (j := 3) (v := .slice As dl.length cs) rfl
    have d4 := hb8.cell (j := 4) (v := .bool dcame) rfl
    have c0 := hb0.cell (j := 0) (v := .int .i64 fr) rfl
    have c1 := hb1.cell (j := 0) (v := .int .i64 to_) rfl
    have c3 := hb3.cell (j := 0) (v := .slice Ao G.length co) rfl
    have f3 := hb3.frozen 0
    have f2 := hb2.frozen 0
    have cP := Lib.hid (plus_calls G dl (.slice Ao G.length co) (.slice As dl.length cs) W2 (toAt hown) hsl hFg hFl)
    have hsk : skipW fr to_ ⟨dmv, dfr, dto, dl, dcame⟩ = (dcame || decide (dfr ≠ fr) || decide (dto ≠ to_)) := rfl
    have HS := Lib.hid hstep
    clear hstep hlen hsv ho2 ho21 ho22 hFl hFg hsk hs1 hgo
    cases hsb : skipW fr to_ ⟨dmv, dfr, dto, dl, dcame⟩ with
    | true =>
      have hst : underGo fr to_ (pre ++ [⟨dmv, dfr, dto, dl, dcame⟩]) = (G, true) := HS.out.trans (by unfold underStep; simp [hsb])
      have HT := Lib.hid hst
      have hfin : Rr.rpost w5.heap.size (KpX X5) (fun pre W => Ob W w.heap.size 3 #[.int .i64 fr] ∧ Ob W (w.heap.size + 1) 3 #[.int .i64 to_] ∧ Ob W (w.heap.size + 1 + 1) 30 #[.slice none 0 0] ∧ Below w.heap.size w5 W ∧ (underGo fr to_ pre).2 = true ∧
          ∃ v, Ob W (w.heap.size + 1 + 1 + 1) 30 #[v] ∧ W.ownsRow w.heap.size 37 2 v (underGo fr to_ pre).1.length (itemCells (underGo fr to_ pre).1))
          (fun c pre W => c = .ret ∧ Below w.heap.size w5 W ∧ (underGo fr to_ pre).2 = false ∧
      ∃ v, Ob W (w.heap.size + 1 + 1) 30 #[v] ∧ W.ownsRow w.heap.size 37 2 v (underGo fr to_ pre).1.length (itemCells (underGo fr to_ pre).1)) (pre ++ [⟨dmv, dfr, dto, dl, dcame⟩]) W2 .normal ⟨#[], []⟩ W2 := by
        refine ⟨keeps_below _ (Below.refl _ _), KpX.refl _ _, hb0, hb1, hb2, hB, by rw [HT.out], _, hb3, ?_⟩
        rw [HT.out]; exact hown
      have HF := Lib.hid hfin
      unfold skipW at hsb
      clear hfin hst hb0 hb1 hb2 hb3 hB hown
      dsimp only at hsb
      cases hc : dcame with
      | true =>
        subst hc
        clear hsb
        gi_wp2
        exact HF.out
      | false =>
        subst hc
        by_cases e1 : dfr = fr
        · subst e1
          by_cases e2 : dto = to_
          · subst e2; simp at hsb
          · have q2 : (dto != to_) = true := by simpa using e2
            have q1 : (dfr != dfr) = false := by simp
            clear hsb
            gi_wp2
            exact HF.out
        · have q1 : (dfr != fr) = true := by simpa using e1
          clear hsb
          gi_wp2
          exact HF.out
    | false =>
      unfold skipW at hsb
      simp only [Bool.or_eq_false_iff, decide_eq_false_iff_not, Decidable.not_not] at hsb
      obtain ⟨⟨rfl, rfl⟩, rfl⟩ := hsb
      have HS2 := Lib.hid (show underGo dfr dto (pre ++ [⟨dmv, dfr, dto, dl, false⟩]) = if (plusOf G dl).2 = 0 then ((plusOf G dl).1, true) else (G, false) from HS.out.trans (by unfold underStep; simp [skipW]))
      clear HS HG
      generalize plusOf G dl = R at *
      obtain ⟨Rl, Rc⟩ := R
      dsimp only at cP HS2
      have q1 : (dfr != dfr) = false := by simp
      have q2 : (dto != dto) = false := by simp
      by_cases hc0 : Rc = 0
      · subst hc0
        gi_wp2_with (refine ⟨trivial, ?_⟩; gi_at_call 91; refine (callsIn_wide.2 cP.out).mono ?_; rintro e W3 ⟨⟨rv, rfl, hrv⟩, hb3'⟩; have f33 := (hb3.same hb3').frozen 0; have c33 := (hb3.same hb3').cell (j := 0) (v := .slice Ao G.length co) rfl; obtain ⟨Ar, cr, rfl, -⟩ := (ItemsAt.of_own hrv).form)
        generalize hrr : Value.slice Ar Rl.length cr = rv at *
        have H2 : underGo dfr dto (pre ++ [⟨dmv, dfr, dto, dl, false⟩]) = (Rl, true) := by simpa using HS2.out
        have g3 := only_of_below hb3' none
        refine ⟨keeps_set (keeps_below _ hb3') _ _, (KpX.of_grown g3 (fun g e => by cases e)).trans (KpX.of_grown (grownBy_set W3 _ 0 rv) (fun g e => by cases e; exact hx3)), ((hb0.same hb3').other (by omega) 0 rv), ((hb1.same hb3').other (by omega) 0 rv), ((hb2.same hb3').other (by omega) 0 rv), ?_, by rw [H2], rv, (hb3.same hb3').set 0 rv, ?_⟩
        · exact (hB.trans (hb3'.mono (by have := hB.size; omega))).grown (grownBy_set W3 _ 0 rv) (by have := hB.size; have := hb3'.size; omega) (fun k e => by cases e; omega)
        · rw [H2]; exact ownsRow_wide (ownsRow_far hrv (grownBy_set W3 _ 0 rv) (by have := hB.size; omega)) (by have := hB.size; omega)
      · have hcb : (Rc != 0) = true := by simpa using hc0
        gi_wp2_with (refine ⟨trivial, ?_⟩; gi_at_call 91; refine (callsIn_wide.2 cP.out).mono ?_; rintro e W3 ⟨⟨rv, rfl, hrv⟩, hb3'⟩; have f33 := (hb2.same hb3').frozen 0; have c34 := (hb2.same hb3').cell (j := 0) (v := .slice none 0 0) rfl; have c33 := (hb3.same hb3').cell (j := 0) (v := .slice Ao G.length co) rfl)
        have H2 : underGo dfr dto (pre ++ [⟨dmv, dfr, dto, dl, false⟩]) = (G, false) := HS2.out.trans (if_neg hc0)
        have g3 := only_of_below hb3' none
        refine ⟨keeps_set (keeps_below _ hb3') _ _, rfl, ?_, by rw [H2], _, (hb2.same hb3').set 0 (.slice Ao G.length co), ?_⟩
        · exact (hB.trans (hb3'.mono (by have := hB.size; omega))).grown (grownBy_set W3 _ 0 _) (by have := hB.size; have := hb3'.size; omega) (fun k e => by cases e; omega)
        · rw [H2]
          have hrow := row_below hown hb3'
          exact hrow.kept (grownBy_set W3 _ 0 _) (.inr (Boxed.not_row (hb2.same hb3') (by decide) hrow).symm)
  case done =>
    rintro D xs W hD rfl ⟨hb0, hb1, hb2, hB, hgo, ov, hb3, hown⟩ hK
    obtain ⟨Ao, co, rfl, -⟩ := (ItemsAt.of_own hown).form
    have c3 := hb3.cell (j := 0) (v := .slice Ao (underGo fr to_ xs).1.length co) rfl
    have c2 := hb2.cell (j := 0) (v := .slice none 0 0) rfl
    have f2 := hb2.frozen 0
    change W.ownsRow w.heap.size 37 2 (.slice Ao (underOf fr to_ xs).length co) (underOf fr to_ xs).length (itemCells (underOf fr to_ xs)) at hown
    have hU : (underGo fr to_ xs).1 = underOf fr to_ xs := rfl
    rw [hU] at c3 hb3
    generalize underOf fr to_ xs = U at *
    have hne : some (w.heap.size + 1 + 1) ≠ (Value.slice Ao U.length co).ownBlock := Boxed.not_row hb2 (by decide) hown
    have hb22 := hb2.set 0 (.slice Ao U.length co)
    have hown2 := hown.kept (grownBy_set W (w.heap.size + 1 + 1) 0 (.slice Ao U.length co)) (.inr hne.symm)
    have hBB := hB.grown (grownBy_set W (w.heap.size + 1 + 1) 0 (.slice Ao U.length co)) (by have := hB.size; omega) (fun k e => by cases e; omega)
    have hK2 : (W.setCell ⟨w.heap.size + 1 + 1, 0, none⟩ (.slice Ao U.length co)).heap[D]? = some (.deferred (some [])) := ((grownBy_set W (w.heap.size + 1 + 1) 0 (.slice Ao U.length co)).block D (Array.getElem?_eq_some_iff.1 hK).1 (fun e => by cases e; omega)).trans hK
    have HU : underOf fr to_ xs = U := hU
    gi_wp2
    refine ⟨by simp, .inl ⟨_, _, rfl, run_takeDeferred hK2, ?_⟩⟩
    have hown3 := row_keep hown2 (grownBy_putObj' _ D (.deferred none)) (fun r e => by cases e; exact ⟨_, hK2, rfl⟩)
    have c4 := (boxed_end hb22 hK2).cell
    refine ⟨.slice Ao U.length co, ?_, ⟨_, rfl, by rw [HU]; exact hown3⟩, below_end (hB5.trans hBB) (by omega) hK2⟩
    simp [results, Tryz.f56, go_sem, c4]
  case stop =>
    rintro D c pre W hD hp ⟨rfl, hB, hgo, ov, hb2, hown⟩ hK
    have hst := under_stop hp hgo
    have hU : (underGo fr to_ pre).1 = underOf fr to_ ds := by unfold underOf; rw [hst]
    rw [hU] at hown
    clear hst hU hgo hp
    have c2 := hb2.cell (j := 0) (v := ov) rfl
    gi_wp2
    have hown2 := hown
    have hK2 := hK
    have hb22 := hb2
    have hBB := hB
    refine ⟨by simp, .inl ⟨_, _, rfl, run_takeDeferred hK2, ?_⟩⟩
    have hown3 := row_keep hown2 (grownBy_putObj' _ D (.deferred none)) (fun r e => by cases e; exact ⟨_, hK2, rfl⟩)
    have c4 := (boxed_end hb22 hK2).cell
    refine ⟨ov, ?_, ⟨_, rfl, hown3⟩, below_end (hB5.trans hBB) (by omega) hK2⟩
    simp [results, Tryz.f56, go_sem, c4]
end Mv
end Go.Proofs.YtdbkkldgobkjcaaGreat

namespace Go.Proofs.YtdbkkldgobkjcaaGreat
open Go.RowKit
namespace Pi
open Pu
section
variable {P : Program} {ops : Array Oper} {Q : Exit → Act → World → Prop} {md : Region.Mode} {l n : Nat}
/-- ends normally, and so -/
structure OnlyN (Q : Exit → Act → World → Prop) (e : Exit) (a : Act) (w : World) : Prop where
  e : e = .normal
  q : Q .normal a w
theorem OnlyN.out {a : Act} {w : World} (h : Q .normal a w) : OnlyN Q .normal a w := ⟨rfl, h⟩
theorem no_out : ¬ LetsOut (OnlyN Q) := fun ⟨_, _, h⟩ => by cases h.e
theorem op_in {o : Oper} {a : Act} {w : World} {K : Act → World → Prop} (hnd : ∀ c, o.op ≠ .defer c) (h : o.wp P a w K (OnlyN Q) ∨ (o.asks P a w ∧ LetsOut (OnlyN Q))) : o.wpIn (Fence.wide.inRound l) n P a w K (OnlyN Q) := by
  rcases h with h | ⟨_, h⟩
  case inr => exact (no_out h).elim
  refine ⟨fun _ _ => trivial, ?_⟩
  rw [Oper.semAt_eq _ _ _ hnd]
  unfold Oper.wp at h
  generalize (execOp a.eval o).run P w = r at *
  cases r with
  | ok x w' =>
    cases x <;> simp only [Oper.upon] at h <;> simp only [Oper.uponIn]
    case value v => exact h
    case skip => exact h
    case defer d => exact h
    case enter f args => exact ⟨(fun hh => by cases hh), (callsIn_wide (n := n - 1)).2 h⟩
    case row row args =>
      refine ⟨(fun hh => by cases hh), fun c cs _ => ?_⟩
      obtain ⟨v, w', r, s⟩ := h c cs
      exact ⟨v, w', r, stepsIn_wide.2 s⟩
  | halt x w' =>
    cases x <;> simp only [Oper.upon] at h
    case panic u => cases h.e
theorem any_in (hnd : ∀ (i : Nat) (o : Oper), ops[i]? = some o → ∀ c, o.op ≠ .defer c) : ∀ (m : Nat) (listed : Array Bool) (a : Act) (w : World), wpAny P md ops (OnlyN Q) m listed a w → wpAnyIn (Fence.wide.inRound l) n P md ops (OnlyN Q) m listed a w := by
  intro m
  induction m with
  | zero => exact fun _ _ _ h => h
  | succ m ih =>
    intro listed a w h
    refine ⟨h.1, fun i hi => ?_⟩
    have h1 := h.2 i hi
    unfold wpOp at h1
    unfold wpOpIn
    cases ho : ops[i]? with
    | none =>
      rw [ho] at h1
      exact ih _ _ _ h1
    | some o =>
      rw [ho] at h1
      dsimp only at h1 ⊢
      split
      · rename_i hw
        rw [if_pos hw] at h1
        refine op_in (hnd i o ho) ?_
        rcases h1 with h1 | h1
        · exact .inl (Oper.wp_mono (fun a w h => ih _ _ _ h) h1)
        · exact .inr h1
      · rename_i hw
        rw [if_neg hw] at h1
        exact ⟨fun _ _ => trivial, ih _ _ _ h1⟩
def noDefer (ops : Array Oper) : Bool := ops.toList.all fun o => match o.op with | .defer _ => false | _ => true
theorem noDefer_at (h : noDefer ops = true) (i : Nat) (o : Oper) (ho : ops[i]? = some o) (c : Call) : o.op ≠ .defer c := by
  intro e
  have := List.all_eq_true.1 h o (by rw [Array.getElem?_eq_some_iff] at ho; obtain ⟨hi, rfl⟩ := ho; simp)
  rw [e] at this
  cases this
theorem regionIn {id : Nat} {a : Act} {w : World} (ord : List (Nat × Bool)) (B : World → Prop) (hm : P.follows .mixedOrders = true) (hf : fine .any ops = true) (hok : okM .any ops ord = true) (hwh : whole ops ord = true) (hd : noDefer ops = true) (hB : B w.drew)
    {l' : List (Oper × Bool)} (hl : named ops ord = l') (hs : WalkM P ops (OnlyN Q) l' a B (fun W => W = w.drew)) : (Code.region id ops true).wpIn (Fence.wide.inRound l) n P Q a w := by
  subst hl
  refine Go.wpIn_mono (Q := OnlyN Q) ?_ fun e a w h => by rw [h.e]; exact h.q
  refine wpIn_region_any hm (any_in (noDefer_at hd) _ _ _ _ ?_)
  have h := run_made (md := .any) (P := P) (Q := OnlyN Q) rfl hf ops.size (List.range ops.size) (Array.replicate ops.size false) a a w.drew B (fun W => W = w.drew) ord [] (by simp) (by simp) List.nodup_range (fun j => ?_) (fun j hj => ?_) (fun p hp => ?_) ⟨rfl, rfl, fun _ _ => rfl⟩ rfl
    ⟨fun W h => h ▸ hB, (fun i hi => nomatch hi), (fun i hi => nomatch hi), (fun i hi => nomatch hi), (fun i hi => nomatch hi), hok, hs.go⟩
  · exact h
  · rw [List.mem_range]
    by_cases h : j < ops.size
    · simp [h]
    · simp [h]
  · right
    have hjs : j < ops.size := by
      rcases Nat.lt_or_ge j ops.size with h | h
      · exact h
      · simp [h] at hj
    have := List.all_eq_true.1 hwh j (List.mem_range.2 hjs)
    obtain ⟨p, hp, hpj⟩ := List.any_eq_true.1 this
    exact ⟨p, hp, by simpa using hpj⟩
  · have hlt : p.1 < ops.size := by
      clear hs hwh
      induction ord with
      | nil => cases hp
      | cons q r ih =>
        obtain ⟨o, ho, _, _, _, _, _, g6⟩ := okM_cons (i := q.1) (b := q.2) hok
        rcases List.mem_cons.1 hp with rfl | hp
        · exact (Array.getElem?_eq_some_iff.1 ho).1
        · exact ih g6 hp
    simp [hlt]
end
end Pi
end Go.Proofs.YtdbkkldgobkjcaaGreat

namespace Go.Proofs.YtdbkkldgobkjcaaGreat
open Go.RowKit Go.Maps
namespace Mv
open It Ce
attribute [local go_sem] Oper.semAt_some

/-- the block that a maker's cells lie in -/
def mown (A : World) (bm : Nat) : Option Nat := match A.heap[bm]? with
  | some (.cells cs _ _) => (match cs[0]? with | some v => v.ownBlock | none => none)
  | _ => none
theorem mown_ob {A : World} {bm : Nat} {t : TypeId} {v : Value} {u : Value} (h : Ob A bm t #[v, u]) : mown A bm = v.ownBlock := by
  unfold mown
  rw [show A.heap[bm]? = _ from h]
  rfl
theorem mown_same {A B : World} {bm : Nat} (h : B.heap[bm]? = A.heap[bm]?) : mown B bm = mown A bm := by
  unfold mown
  rw [h]
structure MkKp (bm : Nat) (A B : World) : Prop where
  os : B.os = A.os
  tape : B.tape = A.tape
  output : B.output = A.output
  size : A.heap.size ≤ B.heap.size
  same : ∀ b o, A.heap[b]? = some o → b ≠ bm → mown A bm ≠ some b → (∀ r, o ≠ .loop r) → B.heap[b]? = some o
  own : ∀ g, mown B bm = some g → mown A bm = some g ∨ A.heap.size ≤ g
  lt : (∀ g, mown A bm = some g → g < A.heap.size) → ∀ g, mown B bm = some g → g < B.heap.size
section
variable {bm : Nat} {A B C : World}
theorem MkKp.refl (bm : Nat) (A : World) : MkKp bm A A := ⟨rfl, rfl, rfl, Nat.le_refl _, fun _ _ h _ _ _ => h, fun _ h => .inl h, fun h => h⟩
theorem MkKp.trans (h : MkKp bm A B) (k : MkKp bm B C) : MkKp bm A C :=
  ⟨k.os.trans h.os, k.tape.trans h.tape, k.output.trans h.output, Nat.le_trans h.size k.size, fun b o h1 h2 h3 h4 => k.same b o (h.same b o h1 h2 h3 h4) h2 (fun e => by
    rcases h.own b e with h5 | h5
    · exact h3 h5
    · have := (Array.getElem?_eq_some_iff.1 h1).1; omega) h4,
   fun g hg => by
    rcases k.own g hg with h1 | h1
    · exact h.own g h1
    · exact .inr (Nat.le_trans h.size h1),
   fun h1 => k.lt (h.lt h1)⟩
theorem MkKp.of_below (h : Below A.heap.size A B) (hb : bm < A.heap.size) : MkKp bm A B :=
  ⟨h.os, h.tape, h.output, h.size, fun b _ h1 _ _ _ => (h.block b (Array.getElem?_eq_some_iff.1 h1).1).trans h1, fun g hg => .inl (by rwa [mown_same (h.block bm hb)] at hg),
   fun h1 g hg => by rw [mown_same (h.block bm hb)] at hg; have := h1 g hg; have := h.size; omega⟩
theorem MkKp.loop {W : World} {l : Nat} {r r' : Loop} (h : W.heap[l]? = some (.loop r)) : MkKp bm W (W.putObj l (.loop r')) := by
  have hm : mown (W.putObj l (.loop r')) bm = mown W bm := by
    by_cases e : bm = l
    · subst e
      unfold mown
      rw [h, World.putObj_heap_same (Array.getElem?_eq_some_iff.1 h).1]
    · exact mown_same (World.putObj_heap_other e)
  refine ⟨rfl, rfl, rfl, by simp, fun b _ hb _ _ hn => ?_, fun g hg => .inl (by rwa [hm] at hg), fun h1 g hg => by rw [hm] at hg; simpa using h1 g hg⟩
  by_cases e : b = l
  · subst e
    rw [h] at hb
    cases hb
    exact (hn r rfl).elim
  · exact (World.putObj_heap_other e).trans hb
theorem MkKp.kpx {X : Nat → Prop} (h : MkKp bm A B) (hX : ∀ i, (i = bm ∨ mown A bm = some i) → X i) : KpX X A B :=
  ⟨h.os, h.tape, h.output, h.size, fun b o h1 h2 h3 => h.same b o h1 (fun e => h2 (hX b (.inl e))) (fun e => h2 (hX b (.inr e))) h3⟩
theorem mk_lt {Fr : Nat → Prop} {s : List UInt8 × Bool} {W : World} (h : Mk W bm Fr s) : ∀ g, mown W bm = some g → bm < g ∧ g < W.heap.size := by
  obtain ⟨_, _, _, v, hO, hR, _⟩ := h
  intro g hg
  rw [mown_ob hO] at hg
  have := hR.lt g hg
  omega
/-- all but a maker's own two blocks -/
def Rest (bm : Nat) (W : World) (i : Nat) : Prop := i < W.heap.size ∧ i ≠ bm ∧ mown W bm ≠ some i
theorem mk_rest {Fr : Nat → Prop} {s : List UInt8 × Bool} {W : World} (h : Mk W bm Fr s) : Mk W bm (Rest bm W) s ∧ (∀ i, Fr i → Rest bm W i) ∧ (∀ i o, W.heap[i]? = some o → o.isCells = false → Rest bm W i) := by
  obtain ⟨h1, h2, h3, v, hO, hR, hG⟩ := h
  have hm := mown_ob hO
  refine ⟨⟨h1, fun h => h.2.1 rfl, fun i hi => hi.1, v, hO, hR, fun g hg h => h.2.2 (by rw [hm]; exact hg)⟩, fun i hi => ⟨h3 i hi, fun e => h2 (e ▸ hi), fun e => hG i (by rw [← hm]; exact e) hi⟩, fun i o ho hc => ⟨(Array.getElem?_eq_some_iff.1 ho).1, fun e => ?_, fun e => ?_⟩⟩
  · subst e
    rw [show W.heap[i]? = _ from hO] at ho
    cases ho
    cases hc
  · rw [hm] at e
    rcases hR.2 with ⟨rfl, _⟩ | ⟨g, cap, cur, rfl, _, hgb, _⟩
    · cases e
    · obtain rfl : g = i := by simpa [Value.ownBlock] using e
      rw [hgb] at ho
      cases ho
      cases hc
theorem mkkp_of {s' : List UInt8 × Bool} {W W' : World} (h' : Mk W' bm (Rest bm W) s') (hK : Kept (Rest bm W) W W') : MkKp bm W W' := by
  obtain ⟨_, _, _, v, hO, hR, hG⟩ := h'
  refine ⟨hK.os, hK.tape, hK.output, hK.size, fun b o h1 h2 h3 _ => (hK.block b ⟨(Array.getElem?_eq_some_iff.1 h1).1, h2, h3⟩).trans h1, fun g hg => ?_, fun _ g hg => ?_⟩
  · rw [mown_ob hO] at hg
    have h1 := hG g hg
    have h2 := (hR.lt g hg).1
    rcases Nat.lt_or_ge g W.heap.size with h3 | h3
    · left
      exact Decidable.byContradiction fun h4 => h1 ⟨h3, by omega, h4⟩
    · exact .inr h3
  · rw [mown_ob hO] at hg
    exact (hR.lt g hg).2
end

/-- how a move that is handed over reads: its list lies in no block of the maker's -/
def RdM (bm : Nat) (d : Way) (v : Value) (W : World) : Prop := ∃ sv lo, v = wayV d sv ∧ ItemsAt W lo W.heap.size sv d.l ∧ bm < lo ∧ ∀ g, mown W bm = some g → g < lo

set_option maxRecDepth 100000 in
set_option maxHeartbeats 4000000 in
theorem all_readsM (n : Nat) (hn : 1 ≤ n) (b mb Bs bm : Nat) (X : Nat → Prop) (ds : List Way) (w : World) (h : MvAt w b mb X ds) (hbs : Ob w Bs 53 #[.pointer (some ⟨b, 0, none⟩)]) (hxs : ¬ X Bs) (hX : ∀ i, (i = bm ∨ mown w bm = some i) → X i) :
    Rr.Reads Fence.wide n Tryz.prog 97 #[.pointer (some ⟨Bs, 0, none⟩)] (RdM bm) (MkKp bm) (fun xs => xs = ds) (fun pre => pre <+: ds) (fun pre d => pre ++ [d] <+: ds) w := by
  intro l J Jx W hW hJ hJx hY h0
  have hbm := h.xl bm (hX bm (.inl rfl))
  have hmW : mown W bm = mown w bm := mown_same (hW.block bm hbm)
  have hM := h.same hW
  have hB := hbs.same hW
  have cB : W.cell? ⟨Bs, 0, none⟩ = some (.pointer (some ⟨b, 0, none⟩)) := hB.cell (j := 0) rfl
  have gb : W.cell? ⟨b, 0, none⟩ = some (.map (some mb)) := hM.ob.cell (j := 0) rfl
  have cMd := Lib.hid (made_calls b mb W gb)
  obtain ⟨m, hm, hR⟩ := hM.map
  have hlen := hM.len
  have hml := hR.length
  have cK := Lib.hid (KsW.keys_calls (some mb) W)
  have cS := KsW.sorted_calls mb m W hm keyedI (by omega)
  rw [hR.keys] at cS
  have CS := Lib.hid cS
  have HM := Lib.hid hM
  have HB := Lib.hid hB
  have hws := hW.size
  clear cS hm hR hml
  refine callsIn_of_wp Tryz.func97 rfl trivial ?_ rfl
  simp only [Tryz.ntmps97, List.size_toArray, List.length_cons, List.length_nil, Nat.reduceAdd, Nat.reduceSub, Array.replicate_succ, Array.replicate_zero, List.push_toArray, List.append_toArray, List.nil_append, List.cons_append]
  gi_wp2_with (first
    | (refine ⟨trivial, ?_⟩; gi_at_call 58; refine (callsIn_wide.2 cMd.out).mono ?_; rintro e W' ⟨rfl, rfl⟩)
    | (refine ⟨trivial, ?_⟩; gi_at_call 98; refine (callsIn_wide.2 (callsIn_wide.1 cK.out)).mono ?_; rintro e W' ⟨rfl, rfl⟩)
    | (refine ⟨trivial, ?_⟩; gi_at_call 80; refine (callsIn_wide.2 (callsIn_wide.1 CS.out)).mono ?_; rintro e W1 ⟨kv, rfl, hkv, hb1⟩; obtain ⟨Ak, ck, rfl, -⟩ := (IntsAt.of_own hkv).form))
  have hal := (Below.refl W.heap.size W).alloc (Nat.le_refl _) (.cells #[.map (some mb)] 100)
  have hb01 : Below W.heap.size W W1 := hal.trans (hb1.mono hal.size)
  have hs01 := hb01.size
  have hJ1 : J [] W1 := hJ _ _ _ none h0 (only_of_below hb01 none) (fun r e => by cases e)
  have hM1 := HM.out.same hb01
  have hB1 := HB.out.same hb01
  have hK1 : IntsAt W1 W.heap.size W1.heap.size (.slice Ak ds.length ck) (ds.map (·.mv)) := by
    have := (IntsAt.of_own hkv).wide (lo' := W.heap.size) (by simp) (Nat.le_refl _)
    rwa [List.length_map] at this
  have HXL := Lib.hid HM.out.xl
  have hmW1 : mown W1 bm = mown w bm := (mown_same (hb01.block bm (by omega))).trans hmW
  have HX1 := Lib.hid (fun i (hi : i = bm ∨ mown W1 bm = some i) => hX i (by rwa [hmW1] at hi))
  have HL1 := Lib.hid (fun g (hg : mown W1 bm = some g) => show g < W1.heap.size by have := h.xl g (hX g (.inr (by rwa [hmW1] at hg))); omega)
  have HM1 := Lib.hid hM1
  have HB1 := Lib.hid hB1
  have HK1 := Lib.hid hK1
  clear hkv hal hb1 cK CS cMd cB gb hmW hmW1 hX hM1 hB1 hK1
  gi_loopw [4, 5, 6, 17] (fun _ _ _ i wr => ∃ k : Nat, k ≤ ds.length ∧ i = .int .i64 k ∧ J (ds.take k) wr ∧ MkKp bm W1 wr) (fun _ _ _ i _ => ds.length - (intOf i).toNat)
  case atStart => exact ⟨0, by omega, rfl, hJ1, MkKp.refl _ _⟩
  case round =>
    obtain ⟨k, hk, rfl, hJr, hKp⟩ := hrel
    clear hJ1
    have hkx := hKp.kpx HX1.out
    have hMr := HM1.out.kpx hkx
    have hBr := hkx.ob HB1.out hxs
    have hKr := hkx.sl HK1.out (fun i h1 h2 hx => by have := HXL.out i hx; omega)
    have hsr := hKp.size
    by_cases hlt : k < ds.length
    · obtain ⟨kb, ko, hA, hk1, hk2, hck⟩ := IntsAt.cellAt hKr (j := k) (by simpa using hlt)
      have hget : (ds.map (·.mv)).getD k 0 = ds[k].mv := by simp [hlt]
      rw [hget] at hck
      have hd : decide (k < ds.length) = true := by simpa using hlt
      have hfind := findW_sorted hMr.sorted k hlt
      have hok := hMr.ok ds[k] (List.getElem_mem hlt)
      have cB : wr.cell? ⟨Bs, 0, none⟩ = some (.pointer (some ⟨b, 0, none⟩)) := hBr.cell (j := 0) rfl
      have cMv := move_calls ds[k].mv b mb X ds wr hMr (by have := hok.mv; omega) (by have := hok.mv; omega)
      rw [hfind] at cMv
      have hlen3 : ds.take k ++ [ds[k]] <+: ds := by
        rw [← List.take_succ_eq_append_getElem hlt]
        exact List.take_prefix _ _
      have HTk := Lib.hid (show ds.take (k + 1) = ds.take k ++ [ds[k]] from List.take_succ_eq_append_getElem hlt)
      have HLk := Lib.hid (show (ds.take k).length = k by rw [List.length_take]; omega)
      have CMv := Lib.hid cMv
      have HKp := Lib.hid hKp
      have HJr := Lib.hid hJr
      clear cMv hfind hMr hBr hKr hJr hget hok hkx hKp
      generalize ds[k] = d at *
      obtain ⟨mv, fr, to_, il, came⟩ := d
      subst hA
      dsimp only at hck CMv
      have HY := Lib.hid (fun W1 v (h1 : J (ds.take k) W1) h3 => hY (ds.take k) ⟨mv, fr, to_, il, came⟩ v W1 h1 hlen3 h3)
      gi_wp2_with (refine ⟨trivial, ?_⟩; gi_at_call 62; refine (callsIn_wide.2 CMv.out).mono ?_; rintro e W2 ⟨⟨sv, rfl, hsv⟩, hb2⟩; obtain ⟨As, cs, rfl, -⟩ := (ItemsAt.of_own hsv).form; simp only [wayV, Option.getD_some, Option.isSome_some])
      dsimp only [Option.getD_some] at hsv
      have hb3 := hb2.alloc hb2.size (.cells #[.int .i64 mv, .int .i64 fr, .int .i64 to_, .slice As il.length cs, .bool came] 108)
      have hJ3 := hJ _ _ _ none HJr.out (only_of_below hb3 none) (fun r e => by cases e)
      have hbr : bm < wr.heap.size := by omega
      have hR3 : RdM bm ⟨mv, fr, to_, il, came⟩ (wayV ⟨mv, fr, to_, il, came⟩ (.slice As il.length cs)) (W2.alloc (.cells #[.int .i64 mv, .int .i64 fr, .int .i64 to_, .slice As il.length cs, .bool came] 108)) :=
        ⟨_, wr.heap.size, rfl, (ItemsAt.mono (ItemsAt.of_own hsv) ((Below.refl _ W2).alloc (Nat.le_refl _) _) (by simp)).wide (Nat.le_refl _) (Nat.le_refl _), hbr, fun g hg => HKp.out.lt HL1.out g (by rwa [mown_same (hb3.block bm hbr)] at hg)⟩
      have hk3 : MkKp bm wr (W2.alloc (.cells #[.int .i64 mv, .int .i64 fr, .int .i64 to_, .slice As il.length cs, .bool came] 108)) := MkKp.of_below hb3 hbr
      have HK3 := Lib.hid (HKp.out.trans hk3)
      obtain ⟨fn, tmps, assign, body, hy, hR⟩ := HY.out _ _ hJ3 hR3
      dsimp only [wayV] at hy
      rw [show Sem.run _ _ _ = _ from hy]
      gi_wp2
      refine hR.mono ?_
      have hs3 := hb3.size
      clear hJ3 hR3 hsv hb2 hk3
      rintro e W4 (⟨rfl, hJ4, hk4⟩ | ⟨rfl, hJx4⟩)
      · rw [← HTk.out] at hJ4
        have hK4 := HK3.out.trans hk4
        gi_wp2
        go_roundw
        case rel => exact ⟨k + 1, by omega, by go_num, hJ4, hK4⟩
        case measure => simp [intOf]; omega
      · rw [← HTk.out] at hJx4
        gi_wp2
        refine bodyPost_ret (results_none rfl _ _ _) rfl ?_
        exact ⟨⟨_, rfl⟩, .inr ⟨_, List.take_prefix _ _, hJx4⟩⟩
    · obtain rfl : k = ds.length := by omega
      have hd : decide (ds.length < ds.length) = false := by simp
      rw [List.take_length] at hJr
      gi_wp2
      go_end0
      exact ⟨⟨_, rfl⟩, .inl ⟨_, rfl, hJr⟩⟩
end Mv
end Go.Proofs.YtdbkkldgobkjcaaGreat

namespace Go.Proofs.YtdbkkldgobkjcaaGreat
open Go.RowKit Go.Maps
namespace Mv
open It Ce
attribute [local go_sem] Oper.semAt_some

set_option maxRecDepth 100000 in
set_option maxHeartbeats 8000000 in
theorem pack_calls (b mb : Nat) (X : Nat → Prop) (ds : List Way) (w : World) (h : MvAt w b mb X ds) :
    Calls Tryz.prog 32 #[.pointer (some ⟨b, 0, none⟩)] w fun e w' =>
      (∃ v, e = .returned v ∧ w'.ownsRow w.heap.size 5 1 v (packW ds).length (bytesV (packW ds))) ∧ Below w.heap.size w w' := by
  have hok := h.ok
  have hlen := h.len
  have g0 : w.cell? ⟨b, 0, none⟩ = some (.map (some mb)) := h.ob.cell (j := 0) rfl
  have cMd := Lib.hid (made_calls b mb w g0)
  have cNw := Lib.hid (Ce.new_calls w)
  have hb1 := (Below.refl w.heap.size w).alloc (Nat.le_refl _) (.cells #[.slice none 0 0, .bool false] 154)
  have hM1 : Mk (w.alloc (.cells #[.slice none 0 0, .bool false] 154)) w.heap.size (fun i => i < w.heap.size) ([], false) := Mk.new w _ (fun i h => h)
  have cL := Lib.hid (len_calls b mb X ds _ (h.same hb1))
  have cN := mnum_calls ds.length w.heap.size _ ([], false) _ hM1 (by omega) (by omega)
  rw [mPut_short (by have := (numC_len ds.length).2; simp; omega), List.nil_append] at cN
  have CN := Lib.hid cN
  have hs1 : (w.alloc (.cells #[.slice none 0 0, .bool false] 154)).heap.size = w.heap.size + 1 := by simp
  clear cN hM1
  refine (callsIn_wide (n := 6)).1 ?_
  refine callsIn_of_wp_marks Tryz.func32 rfl trivial ?_ rfl
  simp only [Tryz.ntmps32, List.size_toArray, List.length_cons, List.length_nil, Nat.reduceAdd, Nat.reduceSub, Array.replicate_succ, Array.replicate_zero, List.push_toArray, List.append_toArray, List.nil_append, List.cons_append]
  gi_wp2_with (first
    | (refine ⟨trivial, ?_⟩; gi_at_call 58; refine (callsIn_wide.2 cMd.out).mono ?_; rintro e W' ⟨rfl, rfl⟩)
    | (refine ⟨trivial, ?_⟩; gi_at_call 63; refine (callsIn_wide.2 cNw.out).mono ?_; rintro e W' ⟨rfl, rfl⟩)
    | (refine ⟨trivial, ?_⟩; gi_at_call 57; refine (callsIn_wide.2 cL.out).mono ?_; rintro e W' ⟨rfl, rfl⟩)
    | (refine ⟨trivial, ?_⟩; gi_at_call 64; refine (callsIn_wide.2 CN.out).mono ?_; rintro e W2 ⟨rfl, hM2, hK2⟩)
    | (refine ⟨trivial, ?_⟩; gi_at_call 55; refine (callsIn_wide.2 (all_calls _ _)).mono ?_; rintro e w' ⟨rfl, rfl⟩))
  have hs2 := hK2.size
  rw [hs1] at hs2
  have hbW2 : Below w.heap.size w W2 := hb1.trans (hK2.below (fun i hi => hi))
  have hbm2 := hM2.lt
  have hlt2 := mk_lt hM2
  have hB24 : Below W2.heap.size W2 ((W2.alloc (.cells #[.pointer (some ⟨w.heap.size, 0, none⟩)] 112)).alloc (.cells #[.pointer (some ⟨b, 0, none⟩)] 53)) := ((Below.refl _ W2).alloc (Nat.le_refl _) _).alloc (by simp) _
  have b3 : Ob ((W2.alloc (.cells #[.pointer (some ⟨w.heap.size, 0, none⟩)] 112)).alloc (.cells #[.pointer (some ⟨b, 0, none⟩)] 53)) W2.heap.size 112 #[.pointer (some ⟨w.heap.size, 0, none⟩)] := (Ob.new W2 _ _).alloc _
  have b4 : Ob ((W2.alloc (.cells #[.pointer (some ⟨w.heap.size, 0, none⟩)] 112)).alloc (.cells #[.pointer (some ⟨b, 0, none⟩)] 53)) (W2.heap.size + 1) 53 #[.pointer (some ⟨b, 0, none⟩)] := by
    have := Ob.new (W2.alloc (.cells #[.pointer (some ⟨w.heap.size, 0, none⟩)] 112)) 53 #[.pointer (some ⟨b, 0, none⟩)]
    rwa [World.size_alloc] at this
  have hs4 : ((W2.alloc (.cells #[.pointer (some ⟨w.heap.size, 0, none⟩)] 112)).alloc (.cells #[.pointer (some ⟨b, 0, none⟩)] 53)).heap.size = W2.heap.size + 2 := by simp
  have hM4 := hM2.later (Fr' := fun i => i < w.heap.size ∨ i = W2.heap.size) hB24 (fun i hi => ⟨hi.elim .inl (fun e => .inr (by omega)), by rw [hs4]; omega⟩)
  have hmw := mown_same (hB24.block w.heap.size hbm2)
  generalize ((W2.alloc (.cells #[.pointer (some ⟨w.heap.size, 0, none⟩)] 112)).alloc (.cells #[.pointer (some ⟨b, 0, none⟩)] 53)) = w4 at *
  have hB4 : Below w.heap.size w w4 := hbW2.trans (hB24.mono hbW2.size)
  obtain ⟨X4, hX4⟩ : ∃ X4 : Nat → Prop, X4 = fun i => X i ∨ (i = w.heap.size ∨ mown w4 w.heap.size = some i) := ⟨_, rfl⟩
  have hM5 : MvAt w4 b mb X4 ds := h.more hB4 fun i hi => by
    rw [hX4] at hi
    rcases hi with hi | rfl | hi
    · exact ⟨.inl hi, by have := h.xl i hi; omega⟩
    · exact ⟨.inr (Nat.le_refl _), by omega⟩
    · rw [hmw] at hi
      have := hlt2 i hi
      exact ⟨.inr (by omega), by omega⟩
  have hxs : ¬ X4 (W2.heap.size + 1) := fun hi => by
    rw [hX4] at hi
    rcases hi with hi | hi | hi
    · have := h.xl _ hi; omega
    · omega
    · rw [hmw] at hi
      have := hlt2 _ hi
      omega
  have hX5 : ∀ i, (i = w.heap.size ∨ mown w4 w.heap.size = some i) → X4 i := fun i hi => by rw [hX4]; exact .inr hi
  have HB4 := Lib.hid hB4
  clear hX4 hM2 hK2 hB24 hmw hlt2 hbW2 hb1 cMd cNw cL CN h g0 hB4
  refine Rr.range_reads (n := 6) rfl (by omega) (gf := 97) rfl trivial (enters_of Tryz.func97 (by kernel_rfl) rfl)
    (all_readsM 5 (by omega) b mb (W2.heap.size + 1) w.heap.size X4 ds w4 hM5 b4 hxs hX5) (Below.refl _ _) (fun h k => h.trans k) (fun W l r r' _ h => MkKp.loop h) rfl
    (fun pre W => Ob W W2.heap.size 112 #[.pointer (some ⟨w.heap.size, 0, none⟩)] ∧ Mk W w.heap.size (fun i => i < w.heap.size ∨ i = W2.heap.size) (numC ds.length ++ cellsW pre, false) ∧ Below w.heap.size w W)
    (fun c pre W => False)
    (fun s A B row hs hg hr => ⟨ob_keep hs.1 hg (fun r e => (hr r e).2), hs.2.1.keep hg (fun r e => (hr r e).2), hs.2.2.grown hg hs.2.2.size (fun k e => by have := (hr k e).1; omega)⟩)
    (fun c s A B row hs hg hr => hs.elim)
    ⟨b3, by rw [show cellsW ([] : List Way) = [] from rfl, List.append_nil]; exact hM4, HB4.out⟩ ?round ?done ?stop
  case stop => exact fun D c pre W _ _ h _ => h.elim
  case round =>
    rintro l pre ⟨dmv, dfr, dto, dl, dcame⟩ v W hl ⟨hbx, hM, hB⟩ hpre ⟨sv, lo, rfl, hsv, hbl, hml⟩
    obtain ⟨As, cs, rfl, -⟩ := hsv.form
    have hd : OkW ⟨dmv, dfr, dto, dl, dcame⟩ := by
      obtain ⟨r, hr⟩ := hpre
      exact hok _ (by rw [← hr]; simp)
    have hpl : pre.length + 1 ≤ ds.length := by
      obtain ⟨r, hr⟩ := hpre
      rw [← hr]
      simp
    have hcl : (cellsW pre).length ≤ pre.length * 640 := cellsW_len fun d hd => by
      obtain ⟨r, hr⟩ := hpre
      exact (hok d (by rw [← hr]; simp [hd])).l
    have hel := encW_len hd.l
    have hnl := (numC_len ds.length).2
    have HS := Lib.hid (show mPutW (numC ds.length ++ cellsW pre, false) ⟨dmv, dfr, dto, dl, dcame⟩ = (numC ds.length ++ cellsW (pre ++ [⟨dmv, dfr, dto, dl, dcame⟩]), false) by
      rw [mPutW_short (by rw [List.length_append]; omega), cellsW_snoc, List.append_assoc])
    have hWl := hM.lt
    have hWm := mk_lt hM
    dsimp only [wayV]
    gi_wp2
    have hbA := (Below.refl W.heap.size W).alloc (Nat.le_refl _) (.cells #[.int .i64 dmv, .int .i64 dfr, .int .i64 dto, .slice As dl.length cs, .bool dcame] 108)
    refine ⟨keeps_below _ hbA, MkKp.of_below hbA hWl, fun W2' hg2 o2 ho21 ho22 => ?_⟩
    have ho2 : ∃ o : Obj, (W.alloc (.cells #[.int .i64 dmv, .int .i64 dfr, .int .i64 dto, .slice As dl.length cs, .bool dcame] 108)).heap[l]? = some o ∧ o.isCells = false := ⟨o2, ho21, ho22⟩
    have hb8 := ob_keep (Ob.new W 108 #[.int .i64 dmv, .int .i64 dfr, .int .i64 dto, .slice As dl.length cs, .bool dcame]) hg2 (fun r e => by cases e; exact ho2)
    have hbx' := ob_keep (hbx.alloc (.cells #[.int .i64 dmv, .int .i64 dfr, .int .i64 dto, .slice As dl.length cs, .bool dcame] 108)) hg2 (fun r e => by cases e; exact ho2)
    have hM' := (hM.alloc (.cells #[.int .i64 dmv, .int .i64 dfr, .int .i64 dto, .slice As dl.length cs, .bool dcame] 108)).keep hg2 (fun r e => by cases e; exact ho2)
    have hB' : Below w.heap.size w W2' := (hB.alloc hB.size (.cells #[.int .i64 dmv, .int .i64 dfr, .int .i64 dto, .slice As dl.length cs, .bool dcame] 108)).grown hg2 (by have := hB.size; simp; omega) (fun k e => by cases e; omega)
    have hsl : ItemsAt W2' lo W.heap.size (.slice As dl.length cs) dl := sl_keep (Sl.below hsv hbA) hg2 (fun r e => by cases e; exact ho2) (by simp)
    have hsz2 : W.heap.size < W2'.heap.size := by have := hg2.size; simp at this; omega
    have hmo : mown W2' w.heap.size = mown W w.heap.size := (mown_same (hg2.block w.heap.size (by simp; omega) (fun e => by cases e; omega))).trans (mown_same (hbA.block w.heap.size hWl))
    obtain ⟨hMr, hF1, hF2⟩ := mk_rest hM'
    have hRx := hF1 W2.heap.size (.inr rfl)
    have hRw : Rest w.heap.size W2' W.heap.size := ⟨hsz2, by omega, fun e => by rw [hmo] at e; have := hWm _ e; omega⟩
    have hFI : ∀ i, lo ≤ i → i < W.heap.size → Rest w.heap.size W2' i := fun i h1 h2 => ⟨by omega, by omega, fun e => by rw [hmo] at e; have := hml _ e; omega⟩
    have HF1 := Lib.hid hF1
    have HF2 := Lib.hid hF2
    obtain ⟨FR, hFR⟩ : ∃ FR : Nat → Prop, FR = Rest w.heap.size W2' := ⟨_, rfl⟩
    rw [← hFR] at hMr hRx hRw hFI HF1 HF2
    have HFR := Lib.hid hFR
    have hMd : Mk W2'.drew w.heap.size FR (numC ds.length ++ cellsW pre, false) := hMr
    have HB' := Lib.hid hB'
    have HSL := Lib.hid hsl
    have HFI := Lib.hid hFI
    generalize hst : ((numC ds.length ++ cellsW pre, false) : List UInt8 × Bool) = st at *
    have hfit := M_fits ((may_iff dl).1 hd.l)
    have hmayl := hd.l
    have hmv := hd.mv
    have hfr := hd.fr
    have hto := hd.to_
    dsimp only at hmayl hmv hfr hto hfit
    have C1 := Lib.hid (mnum_calls dmv w.heap.size FR st W2'.drew hMd (by omega) (by omega))
    have C2 := Lib.hid (fun V hV => mnum_calls dfr w.heap.size FR (Ce.mPut st (numC dmv)) V hV (by omega) (by omega))
    have C3 := Lib.hid (fun V hV => mnum_calls dto w.heap.size FR (Ce.mPut (Ce.mPut st (numC dmv)) (numC dfr)) V hV (by omega) (by omega))
    have C4 := Lib.hid (fun V hV (hk : Kept FR W2'.drew V) => iput_calls dl (.slice As dl.length cs) w.heap.size lo W.heap.size FR (Ce.mPut (Ce.mPut (Ce.mPut st (numC dmv)) (numC dfr)) (numC dto)) V hV (hk.sl (w := W2'.drew) (HSL.out.keep fun _ _ _ _ => rfl) HFI.out) (by have := hk.size; exact Nat.le_trans (Nat.le_of_lt hsz2) this) HFI.out hfit hmayl)
    have C5 := Lib.hid (fun V hV => mflag_calls dcame w.heap.size FR (mPutI (Ce.mPut (Ce.mPut (Ce.mPut st (numC dmv)) (numC dfr)) (numC dto)) dl) V hV)
    have HSW := Lib.hid (show mPutW st ⟨dmv, dfr, dto, dl, dcame⟩ = Ce.mPut (mPutI (Ce.mPut (Ce.mPut (Ce.mPut st (numC dmv)) (numC dfr)) (numC dto)) dl) (numC (flN dcame)) from rfl)
    generalize Ce.mPut (mPutI (Ce.mPut (Ce.mPut (Ce.mPut st (numC dmv)) (numC dfr)) (numC dto)) dl) (numC (flN dcame)) = t5 at *
    generalize mPutI (Ce.mPut (Ce.mPut (Ce.mPut st (numC dmv)) (numC dfr)) (numC dto)) dl = t4 at *
    generalize Ce.mPut (Ce.mPut (Ce.mPut st (numC dmv)) (numC dfr)) (numC dto) = t3 at *
    generalize Ce.mPut (Ce.mPut st (numC dmv)) (numC dfr) = t2 at *
    generalize Ce.mPut st (numC dmv) = t1 at *
    clear hst hM hMr hMd hB hbx hsv hM' hg2 ho2 ho21 ho22 hsl hFI hF1 hF2 hFR hB' hfit hmayl hmv hfr hto hd hcl hel hnl hWm hml hmo hbA hpre
    gi_wp2
    refine Pi.regionIn [(0, false), (1, false), (2, false), (4, false), (5, false), (7, false), (8, false), (10, false), (11, false), (13, false), (14, false), (3, true), (6, true), (9, true), (12, true), (15, true)]
      (fun V => Ob V W2.heap.size 112 #[.pointer (some ⟨w.heap.size, 0, none⟩)] ∧ Ob V W.heap.size 108 #[.int .i64 dmv, .int .i64 dfr, .int .i64 dto, .slice As dl.length cs, .bool dcame])
      hmx (by kernel_rfl) (by kernel_rfl) (by kernel_rfl) (by kernel_rfl) ⟨hbx', hb8⟩ rfl ?_
    simp only [Pu.named, List.filterMap_cons, List.filterMap_nil, List.getElem?_toArray, List.getElem?_cons_succ, List.getElem?_cons_zero, Option.map_some]
    iterate 11 (apply Pu.WalkM.on (by rfl)
                · rintro V ⟨k0, k8⟩
                  have z0 := k0.cell (j := 0) (v := .pointer (some ⟨w.heap.size, 0, none⟩)) rfl
                  obtain ⟨y0, y1, y2, y3, y4⟩ := k8.five
                  go_wp2_with fail
                  refine ⟨rfl, ?_, rfl⟩
                  try simp only [Act.put, List.setIfInBounds_toArray, List.set_cons_succ, List.set_cons_zero]
                  rfl
                simp only [Act.put, List.setIfInBounds_toArray, List.set_cons_succ, List.set_cons_zero])
    refine Pu.WalkM.make (by rfl) ?_
    intro V hV
    rw [hV]
    clear hV V
    go_wp2_with (go_at_call 64; refine C1.out.mono ?_; rintro e V1 ⟨rfl, hm1, hk1⟩)
    refine ⟨rfl, .pointer (some ⟨w.heap.size, 0, none⟩), _, (fun V => V = V1), ?_, rfl, (fun V h => by rw [h]; exact ⟨hk1.ob hbx' hRx, hk1.ob hb8 hRw⟩), (.inr (fun _ h => h)), ?_⟩
    · simp only [Act.put, List.setIfInBounds_toArray, List.set_cons_succ, List.set_cons_zero]
    simp only [Act.put, List.setIfInBounds_toArray, List.set_cons_succ, List.set_cons_zero]
    refine Pu.WalkM.make (by rfl) ?_
    intro V hV
    rw [hV]
    clear hV V
    go_wp2_with (go_at_call 64; refine (C2.out V1 hm1).mono ?_; rintro e V2 ⟨rfl, hm2, hk2⟩)
    have hk2 := hk1.trans hk2
    refine ⟨rfl, .pointer (some ⟨w.heap.size, 0, none⟩), _, (fun V => V = V2), ?_, rfl, (fun V h => by rw [h]; exact ⟨hk2.ob hbx' hRx, hk2.ob hb8 hRw⟩), (.inr (fun _ h => h)), ?_⟩
    · simp only [Act.put, List.setIfInBounds_toArray, List.set_cons_succ, List.set_cons_zero]
    simp only [Act.put, List.setIfInBounds_toArray, List.set_cons_succ, List.set_cons_zero]
    refine Pu.WalkM.make (by rfl) ?_
    intro V hV
    rw [hV]
    clear hV V
    go_wp2_with (go_at_call 64; refine (C3.out V2 hm2).mono ?_; rintro e V3 ⟨rfl, hm3, hk3⟩)
    have hk3 := hk2.trans hk3
    refine ⟨rfl, .pointer (some ⟨w.heap.size, 0, none⟩), _, (fun V => V = V3), ?_, rfl, (fun V h => by rw [h]; exact ⟨hk3.ob hbx' hRx, hk3.ob hb8 hRw⟩), (.inr (fun _ h => h)), ?_⟩
    · simp only [Act.put, List.setIfInBounds_toArray, List.set_cons_succ, List.set_cons_zero]
    simp only [Act.put, List.setIfInBounds_toArray, List.set_cons_succ, List.set_cons_zero]
    refine Pu.WalkM.make (by rfl) ?_
    intro V hV
    rw [hV]
    clear hV V
    go_wp2_with (go_at_call 65; refine (C4.out V3 hm3 hk3).mono ?_; rintro e V4 ⟨rfl, hm4, hk4⟩)
    have hk4 := hk3.trans hk4
    refine ⟨rfl, .pointer (some ⟨w.heap.size, 0, none⟩), _, (fun V => V = V4), ?_, rfl, (fun V h => by rw [h]; exact ⟨hk4.ob hbx' hRx, hk4.ob hb8 hRw⟩), (.inr (fun _ h => h)), ?_⟩
    · simp only [Act.put, List.setIfInBounds_toArray, List.set_cons_succ, List.set_cons_zero]
    simp only [Act.put, List.setIfInBounds_toArray, List.set_cons_succ, List.set_cons_zero]
    refine Pu.WalkM.make (by rfl) ?_
    intro V hV
    rw [hV]
    clear hV V
    go_wp2_with (go_at_call 66; refine (C5.out V4 hm4).mono ?_; rintro e V5 ⟨rfl, hm5, hk5⟩)
    have hk5 := hk4.trans hk5
    refine ⟨rfl, .pointer (some ⟨w.heap.size, 0, none⟩), _, (fun V => V = V5), ?_, rfl, (fun V h => by rw [h]; exact ⟨hk5.ob hbx' hRx, hk5.ob hb8 hRw⟩), (.inr (fun _ h => h)), ?_⟩
    · simp only [Act.put, List.setIfInBounds_toArray, List.set_cons_succ, List.set_cons_zero]
    simp only [Act.put, List.setIfInBounds_toArray, List.set_cons_succ, List.set_cons_zero]
    refine Pu.WalkM.nil ?_
    intro V hV
    rw [hV]
    clear hV V
    refine Pi.OnlyN.out ?_
    rw [← HSW.out, HS.out] at hm5
    have hbx5 := hk5.ob hbx' hRx
    have hB5 : Below w.heap.size w V5 := HB'.out.drew.trans (hk5.below (fun i hi => HF1.out i (.inl hi)))
    have hk52 : Kept FR W2' V5 := ⟨hk5.os, hk5.tape, hk5.output, hk5.size, hk5.block⟩
    refine ⟨keeps_kept hk52 HF2.out, mkkp_of (W := W2') (by rw [← HFR.out]; exact hm5) (by rw [← HFR.out]; exact hk52), hbx5, hm5.narrow HF1.out, hB5⟩
  case done =>
    rintro D xs W hD rfl ⟨hbx, hM, hB⟩ hK
    have hc0 := hbx.cell (j := 0) (v := .pointer (some ⟨w.heap.size, 0, none⟩)) rfl
    have cD := Lib.hid (mdone_calls w.heap.size _ (packW xs, false) W hM rfl)
    clear hM
    generalize hC : packW xs = C at *
    have HC := Lib.hid hC
    clear hC
    gi_wp2_with (refine ⟨trivial, ?_⟩; gi_at_call 67; refine (callsIn_wide.2 cD.out).mono ?_; rintro e W5 ⟨⟨u, rfl, hu⟩, hb5⟩)
    have hK5 := (hb5.block D (Array.getElem?_eq_some_iff.1 hK).1).trans hK
    have hBB := hB.trans (hb5.mono hB.size)
    refine ⟨by simp, .inl ⟨_, _, rfl, run_takeDeferred hK5, ?_⟩⟩
    refine ⟨u, ?_, ⟨_, rfl, by rw [HC.out]; exact row_keep (ownsRow_wide hu hB.size) (grownBy_putObj' _ D (.deferred none)) (fun r e => by cases e; exact ⟨_, hK5, rfl⟩)⟩, below_end hBB (by omega) hK5⟩
    simp [results, Tryz.f32, go_sem]
end Mv
end Go.Proofs.YtdbkkldgobkjcaaGreat
