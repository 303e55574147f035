/-
  A range over an iterator whose values lie in memory that it makes itself: the round may rely on it that the value reads as it should.
  a stock of goods: the iterator Goods.
  slices.Sorted(maps.Keys(m)): the keys of a map with string keys (map[string]bool), sorted, by the library's contracts.
  The same as Rr, where the iterator may turn whatever of its own holds no cells (it ranges over other iterators itself).
  from world to world: what a round of a range may write that appends to a slice which a variable holds.
  goods: the iterator Goods, over the iterators of all stocks.
  A region that draws its order, inside a round of a range over an iterator: from the walk of Pm.
  a row of items of the call's own, read as a list in memory.
  goods: Totals.
  a whole object loaded by an operation that is bound to a test.
-/
import Derived.Test.YtlhpdalfnjhokaaGs1
import Derived.Test.YtlhpdalfnjhokaaGs5
import Derived.Test.YtlhpdalfnjhokaaGs3
import Derived.Test.YtlhpdalfnjhokaaLayed
import Derived.Shelf.SlIter.Nil
import Derived.Shelf.SortM.Plain
import Derived.Shelf.SortM.SortNone
import Derived.OrdersIn
import Derived.RangeFuncNested
import Derived.Test.YtlhpdalfnjhokaaGs2

set_option linter.unusedVariables false
set_option linter.unusedSimpArgs false
namespace Go.Proofs.Ytlhpdalfnjhokaa
open Go.RowKit
namespace Rr
section
variable {δ : Type} {F : Fence} {n : Nat} {P : Program}

/-- a contract of an iterator: its values read by Rd where they are handed over -/
def Reads (F : Fence) (n : Nat) (P : Program) (gf : Nat) (lb : Array Value) (Rd : δ → Value → World → Prop) (Kp : World → World → Prop) (S Sp : List δ → Prop) (T : List δ → δ → Prop) (w : World) : Prop :=
  ∀ (l : Nat) (J Jx : List δ → World → Prop) (W : World), Below w.heap.size w W → AbidesFrom W.heap.size J → AbidesFrom W.heap.size Jx →
    (∀ pre d v W1, J pre W1 → T pre d → Rd d v W1 → YieldAt F (n - 1) P l #[v] W1 fun e W' => (e = .returned (.bool true) ∧ J (pre ++ [d]) W' ∧ Kp W1 W') ∨ (e = .returned (.bool false) ∧ Jx (pre ++ [d]) W')) →
    J [] W →
    CallsIn F n P gf (#[.func (.yield l) #[] #[]] ++ lb) W fun e W' => (∃ v, e = .returned v) ∧ ((∃ xs, S xs ∧ J xs W') ∨ (∃ pre, Sp pre ∧ Jx pre W'))

/-- the loop's own two blocks -/
structure Bk (D l : Nat) (r : Loop) (W : World) : Prop where
  loop : W.heap[l]? = some (.loop r)
  mark : W.heap[D]? = some (.deferred (some []))
theorem Bk.lt {D l : Nat} {r : Loop} {W : World} (h : Bk D l r W) : l < W.heap.size ∧ D < W.heap.size := ⟨(Array.getElem?_eq_some_iff.1 h.loop).1, (Array.getElem?_eq_some_iff.1 h.mark).1⟩
theorem Bk.abide {D l : Nat} {r : Loop} {A B : World} {row : Option Nat} (h : Bk D l r A) (hg : A.grownBy B row) (hr : ∀ k, row = some k → ∃ o : Obj, A.heap[k]? = some o ∧ o.isWalk = true) : Bk D l r B :=
  ⟨(grownBy_keeps hg hr h.loop rfl).trans h.loop, (grownBy_keeps hg hr h.mark rfl).trans h.mark⟩
theorem Bk.keeps {D l B : Nat} {r : Loop} {X Y : World} (h : Bk D l r X) (hk : KeepsFrom B X Y) (hD : B ≤ D) (hl : B ≤ l) : Bk D l r Y :=
  ⟨hk.same _ _ hl h.loop rfl, hk.same _ _ hD h.mark rfl⟩
theorem Bk.turn {D l : Nat} {r : Loop} {W : World} (h : Bk D l r W) (hne : D ≠ l) (r' : Loop) : Bk D l r' (W.putObj l (.loop r')) :=
  ⟨World.putObj_heap_same h.lt.1, (World.putObj_heap_other hne).trans h.mark⟩

/-- how a round may be left -/
def rpost (B : Nat) (Kp : World → World → Prop) (I : List δ → World → Prop) (Ix : Code → List δ → World → Prop) (xs : List δ) (W : World) : Exit → Act → World → Prop
  | .normal, _, W' => KeepsFrom B W W' ∧ Kp W W' ∧ I xs W'
  | .ret, _, W' => KeepsFrom B W W' ∧ Ix .ret xs W'
  | .exit id, _, W' => KeepsFrom B W W' ∧ Ix (.exit id) xs W'
  | .goto t, _, W' => KeepsFrom B W W' ∧ Ix (.goto t) xs W'
  | .panic _, _, _ => False
  | .outgrown, _, _ => False

theorem range_reads {g : Operand} {ps : Array Tmp} {assign body : Code} {Q : Exit → Act → World → Prop} {a : Act} {w : World}
    (hro : F.round = none) (h1 : 1 ≤ n) {gf : Nat} {lb : Array Value} (hg : a.eval g = .func (.func gf) #[] lb) (hFg : F.fn gf) (eg : ∀ args w, (callFunc gf args).run P w = .ok (.enter gf args) w)
    {Rd : δ → Value → World → Prop} {Kp : World → World → Prop} {S Sp : List δ → Prop} {T : List δ → δ → Prop} {w0 : World} (hit : Reads F (n - 1) P gf lb Rd Kp S Sp T w0) (hb0 : Below w0.heap.size w0 w)
    (hKt : ∀ {A B C : World}, Kp A B → Kp B C → Kp A C) (hKb : ∀ (W : World) (l : Nat) (r r' : Loop), w.heap.size ≤ l → W.heap[l]? = some (.loop r) → Kp W (W.putObj l (.loop r'))) (hps : ps.size = 1)
    (I : List δ → World → Prop) (Ix : Code → List δ → World → Prop) (hI : OwnFrom w.heap.size I) (hIx : ∀ c, OwnFrom w.heap.size (Ix c)) (h0 : I [] w)
    (hround : ∀ (l : Nat) (pre : List δ) (d : δ) (v : Value) (W : World), w.heap.size ≤ l → I pre W → T pre d → Rd d v W →
      assign.wpIn (F.inRound l) (n - 1 - 1) P (Exit.then (fun a' W' => KeepsFrom w.heap.size W W' ∧ Kp W W' ∧
        ∀ (W2 : World), W'.grownBy W2 (some l) → (∃ o : Obj, W'.heap[l]? = some o ∧ o.isCells = false) → body.wpIn (F.inRound l) (n - 1 - 1) P (rpost w.heap.size Kp I Ix (pre ++ [d]) W2) a' W2) (fun _ _ _ => False))
        { tmps := (ps.zip #[v]).foldl (fun t (p, v) => t.setIfInBounds p v) a.tmps, defers := [] } W)
    (hdone : ∀ (D : Nat) (xs : List δ) (W : World), w.heap.size ≤ D → S xs → I xs W → W.heap[D]? = some (.deferred (some [])) → Q .normal { a with defers := { target := .collected D, args := #[] } :: a.defers } W)
    (hstop : ∀ (D : Nat) (c : Code) (pre : List δ) (W : World), w.heap.size ≤ D → Sp pre → Ix c pre W → W.heap[D]? = some (.deferred (some [])) → c.wpIn F n P Q { a with defers := { target := .collected D, args := #[] } :: a.defers } W) :
    (Code.rangeFunc g ps assign body).wpIn F n P Q a w := by
  refine wpIn_rangeFunc fun fn hfn => ?_
  obtain ⟨mk, hmk⟩ : ∃ mk : LoopState → Option Code → Loop, mk = fun st pe => { state := st, pending := pe, fn := fn, tmps := a.tmps, params := ps, assign := assign, body := body, defers := w.heap.size } := ⟨_, rfl⟩
  obtain ⟨D, hD⟩ : ∃ D, D = w.heap.size := ⟨_, rfl⟩
  obtain ⟨V, hV⟩ : ∃ V : World, V = (w.alloc (.deferred (some []))).alloc (.loop (mk .ready none)) := ⟨_, rfl⟩
  have hbk : Bk D (D + 1) (mk .ready none) V := by
    rw [hV, hD]
    refine ⟨?_, (Below.heap_alloc _ _ _ (by simp)).trans (World.alloc_heap_new w _)⟩
    have := World.alloc_heap_new (w.alloc (.deferred (some []))) (.loop (mk .ready none))
    rwa [World.size_alloc] at this
  have hIV : I [] V := by rw [hV]; exact hI.alloc _ (hI.alloc _ h0)
  have hbV : Below w0.heap.size w0 V := by
    rw [hV]; exact hb0.trans ((((Below.refl _ w).alloc (Nat.le_refl _) _).alloc (by simp) _).mono hb0.size)
  have hVs : w.heap.size ≤ V.heap.size := by rw [hV]; simp; omega
  refine ⟨D + 1, [{ target := .collected D, args := #[] }], V, { target := .fn (.func gf) lb, args := #[.func (.yield (D + 1)) #[] #[]] }, V, gf, #[.func (.yield (D + 1)) #[] #[]] ++ lb, V, ?_, ?_, ?_, ?_, fun _ => h1, ?_⟩
  · rw [hro, hV, hmk, hD]; exact run_enterLoop_outer _ _ _ _ _
  · simp only [resolve, hg]
    simp [go_sem]
  · intro f' hf'
    simp [Target.leads] at hf'
    subst hf'
    exact hFg
  · simp [invoke, go_sem, eg]
  have walkRow : ∀ {A : World} {row : Option Nat}, (∀ r, row = some r → V.heap.size ≤ r ∧ ∃ o : Obj, A.heap[r]? = some o ∧ o.isWalk = true) → (∀ r, row = some r → w.heap.size ≤ r ∧ ∃ o : Obj, A.heap[r]? = some o ∧ o.isCells = false) :=
    fun hr r e => by
      obtain ⟨h1, o, h2, h3⟩ := hr r e
      exact ⟨Nat.le_trans hVs h1, o, h2, Obj.not_cells_of_walk h3⟩
  refine (hit (D + 1) (fun pre W => I pre W ∧ Bk D (D + 1) (mk .ready none) W) (fun pre W => ∃ c, Ix c pre W ∧ Bk D (D + 1) (mk .done (some c)) W) V hbV
    (fun s A B row h hg hr => ⟨hI s A B row h.1 hg (walkRow hr), h.2.abide hg fun k e => (hr k e).2⟩)
    (fun s A B row h hg hr => let ⟨c, h1, h2⟩ := h; ⟨c, hIx c s A B row h1 hg (walkRow hr), h2.abide hg fun k e => (hr k e).2⟩)
    (fun pre d v W hJ hlen hrd => ?_) ⟨hIV, hbk⟩).mono ?_
  · -- a round
    obtain ⟨hi, hk⟩ := hJ
    have hsz : #[v].size = (mk .ready none).params.size := by rw [hmk]; exact hps.symm
    have hy := run_yield (P := P) (args := #[v]) hk.loop hsz
    rw [hmk] at hy
    refine ⟨fn, _, assign, body, hy, roundIn_of_wpIn hfn (wpIn_mono (hround (D + 1) pre d v W (by omega) hi hlen hrd) fun e a1 W1 h => ?_)⟩
    cases e with
    | normal =>
      obtain ⟨hk1, hkp1, hbody⟩ := h
      have hb1 := hk.keeps hk1 (by omega) (by omega)
      have hst : (mk .ready none).state = .ready := by rw [hmk]
      refine ⟨_, run_beginRound hb1.loop hst, ?_⟩
      have hb2 := hb1.turn (by omega) { mk .ready none with state := .busy }
      have hkb2 : Kp W1 (W1.putObj (D + 1) (.loop { mk .ready none with state := .busy })) := hKb _ _ _ _ (by omega) hb1.loop
      refine wpIn_mono (hbody _ (grownBy_putObj' _ _ _) ⟨_, hb1.loop, rfl⟩) fun e a3 W3 h3 => ?_
      have fin : ∀ (j : Option Code), KeepsFrom w.heap.size (W1.putObj (D + 1) (.loop { mk .ready none with state := .busy })) W3 → ∃ W4, (Instr.endRound (D + 1) j).run P W3 = .ok (.bool j.isNone) W4 ∧ Bk D (D + 1) (mk (if j.isNone then .ready else .done) j) W4 ∧ W4 = W3.putObj (D + 1) (.loop (mk (if j.isNone then .ready else .done) j)) ∧
          W3.heap[D + 1]? = some (.loop { mk .ready none with state := .busy }) := fun j hk3 => by
        have hb3 := hb2.keeps hk3 (by omega) (by omega)
        have hr := run_endRound (P := P) j hb3.loop
        refine ⟨_, hr, ?_, ?_, hb3.loop⟩
        · have := hb3.turn (by omega) { mk .ready none with state := if j.isNone then .ready else .done, pending := j }
          rw [hmk] at this ⊢
          exact this
        · rw [hmk]
      cases e with
      | normal =>
        obtain ⟨hk3, hkp3, hi3⟩ := h3
        obtain ⟨W4, hr, hb4, e4, hl3⟩ := fin none hk3
        exact ⟨_, W4, hr, .inl ⟨rfl, ⟨by rw [e4]; exact hI.putObj _ hi3 (by omega) hl3 rfl, hb4⟩, hKt hkp1 (hKt hkb2 (hKt hkp3 (by rw [e4]; exact hKb _ _ _ _ (by omega) hl3)))⟩⟩
      | ret =>
        obtain ⟨hk3, hi3⟩ := h3
        obtain ⟨W4, hr, hb4, e4, hl3⟩ := fin (some .ret) hk3
        exact ⟨_, W4, hr, .inr ⟨rfl, .ret, by rw [e4]; exact (hIx _).putObj _ hi3 (by omega) hl3 rfl, hb4⟩⟩
      | exit id =>
        obtain ⟨hk3, hi3⟩ := h3
        obtain ⟨W4, hr, hb4, e4, hl3⟩ := fin (some (.exit id)) hk3
        exact ⟨_, W4, hr, .inr ⟨rfl, .exit id, by rw [e4]; exact (hIx _).putObj _ hi3 (by omega) hl3 rfl, hb4⟩⟩
      | goto t =>
        obtain ⟨hk3, hi3⟩ := h3
        obtain ⟨W4, hr, hb4, e4, hl3⟩ := fin (some (.goto t)) hk3
        exact ⟨_, W4, hr, .inr ⟨rfl, .goto t, by rw [e4]; exact (hIx _).putObj _ hi3 (by omega) hl3 rfl, hb4⟩⟩
      | panic ch => exact h3.elim
      | outgrown => exact h3.elim
    | ret => exact h.elim
    | exit id => exact h.elim
    | goto t => exact h.elim
    | panic ch => exact h.elim
    | outgrown => exact h.elim
  · -- behind the iterator
    rintro e W2 ⟨⟨v, rfl⟩, hend⟩
    rcases hend with ⟨xs, hS, hi, hk⟩ | ⟨pre, hSp, c, hi, hk⟩
    · have hr := run_endLoop (P := P) hk.loop (by rw [hmk]; simp)
      rw [hmk] at hr
      exact ⟨none, _, hr, hdone D xs _ (by omega) hS (hI.putObj _ hi (by omega) hk.loop rfl) ((World.putObj_heap_other (by omega)).trans hk.mark)⟩
    · have hr := run_endLoop (P := P) hk.loop (by rw [hmk]; simp)
      rw [hmk] at hr
      exact ⟨some c, _, hr, hstop D c pre _ (by omega) hSp ((hIx c).putObj _ hi (by omega) hk.loop rfl) ((World.putObj_heap_other (by omega)).trans hk.mark)⟩
end
end Rr
end Go.Proofs.Ytlhpdalfnjhokaa

namespace Go.Proofs.Ytlhpdalfnjhokaa
open Go.RowKit Go.Maps
namespace Sk
open It Al Kp
attribute [local go_sem] Oper.semAt_some
def keysS (s : Stk) : List Key := s.map (·.1)
theorem StkAt.short {w : World} {base b mb : Nat} {s : Stk} (h : StkAt w base b mb s) : (keysS s).length ≤ 64 := by unfold keysS; rw [List.length_map]; exact h.len
theorem goods_calls (p : Value) (hp : p.oneCell' = true) (w : World) :
    Calls Try.prog 26 #[p] w fun e w' => e = .returned (.func (.func 45) #[] #[.pointer (some ⟨w.heap.size, 0, none⟩)]) ∧ w' = w.alloc (.cells #[p] 53) := by
  have hmf : ∀ (fn : Fn) (first cap : Array Value) (w : World), (Instr.makeFunc fn first cap).run Try.prog w = .ok (.func fn first cap) w := fun _ _ _ _ => rfl
  go_enter Try.func26, Try.ntmps26
  go_wp2
  go_ret
  exact ⟨rfl, rfl⟩
set_option maxRecDepth 100000 in
set_option maxHeartbeats 4000000 in
theorem goods_reads (n : Nat) (hn : 1 ≤ n) {w : World} {base b mb : Nat} {s : Stk} (Bs : Nat) (X : Nat → Prop) (h : StkAt w base b mb s) (hbs : Ob w Bs 53 #[.pointer (some ⟨b, 0, none⟩)]) (hxl : ∀ i, X i → i < w.heap.size) :
    Rr.Reads Fence.wide n Try.prog 45 #[.pointer (some ⟨Bs, 0, none⟩)] (fun (k : Key) (v : Value) (_ : World) => v = encStr k) (KpX X) (fun xs => xs = keysS s) (fun pre => pre <+: keysS s) (fun pre k => pre ++ [k] <+: keysS s) w := by
  intro l J Jx W hW hJ hJx hY h0
  have hM := h.same hW
  have hB := hbs.same hW
  have cB : W.cell? ⟨Bs, 0, none⟩ = some (.pointer (some ⟨b, 0, none⟩)) := hB.cell (j := 0) rfl
  have y0 := hM.ob.cell (j := 0) (v := .map (some mb)) rfl
  have cMd := Lib.hid (made_calls b mb W y0)
  have hkl := h.short
  have cK := Lib.hid (KsT.keys_calls (some mb) W)
  have cS := KsT.sorted_calls mb (gm rowV s) W hM.map keyedS (by rw [gm_length]; have := h.len; omega)
  rw [gm_keys] at cS
  change CallsIn Fence.wide 5 Try.prog _ _ _ (fun e w' => ∃ v : Value, e = .returned v ∧ w'.ownsRow _ 9 1 v (keysS s).length ((keysS s).map encStr) ∧ _) at cS
  generalize keysS s = ks at *
  have CS := Lib.hid cS
  have hws := hW.size
  clear cS hM hB h hbs
  refine callsIn_of_wp Try.func45 rfl trivial ?_ rfl
  simp only [Try.ntmps45, List.size_toArray, List.length_cons, List.length_nil, Nat.reduceAdd, Nat.reduceSub, Array.replicate_succ, Array.replicate_zero, List.push_toArray, List.append_toArray, List.nil_append, List.cons_append]
  gi_wp2_with (first
    | (refine ⟨trivial, ?_⟩; gi_at_call 36; refine (callsIn_wide.2 cMd.out).mono ?_; rintro e W' ⟨rfl, rfl⟩)
    | (refine ⟨trivial, ?_⟩; gi_at_call 46; refine (callsIn_wide.2 (callsIn_wide.1 cK.out)).mono ?_; rintro e W' ⟨rfl, rfl⟩)
    | (refine ⟨trivial, ?_⟩; gi_at_call 27; refine (callsIn_wide.2 (callsIn_wide.1 CS.out)).mono ?_; rintro e W1 ⟨kv, rfl, hkv, hb1⟩; obtain ⟨Ak, ck, rfl, -⟩ := (Sl.of_own hkv).at_))
  have hal := (Below.refl W.heap.size W).alloc (Nat.le_refl _) (.cells #[.map (some mb)] 80)
  have hb01 : Below W.heap.size W W1 := hal.trans (hb1.mono hal.size)
  have hs01 := hb01.size
  have hJ1 : J [] W1 := hJ _ _ _ none h0 (only_of_below hb01 none) (fun r e => by cases e)
  have hK1 : Sl W1 W.heap.size W1.heap.size 1 (.slice Ak ks.length ck) ks.length (ks.map encStr) := (Sl.of_own hkv).wide (lo' := W.heap.size) (by simp) (Nat.le_refl _)
  have HXL := Lib.hid hxl
  clear hkv hal hb1 cK CS cMd cB y0 hxl
  gi_loopw [4, 15] (fun _ i wr => ∃ k : Nat, k ≤ ks.length ∧ i = .int .i64 k ∧ J (ks.take k) wr ∧ Sl wr W.heap.size W1.heap.size 1 (.slice Ak ks.length ck) ks.length (ks.map encStr) ∧ W1.heap.size ≤ wr.heap.size) (fun _ i _ => ks.length - (intOf i).toNat)
  case atStart => exact ⟨0, by omega, rfl, hJ1, hK1, Nat.le_refl _⟩
  case round =>
    obtain ⟨k, hk, rfl, hJr, hKr, hsr⟩ := hrel
    clear hJ1 hK1
    by_cases hlt : k < ks.length
    · obtain ⟨A', c', he, _, _, h3⟩ := hKr.at_
      cases he
      obtain ⟨kb, ko, hA, hk1, hk2, hck0⟩ := h3 (by omega)
      have hck := (hck0 k (by omega)).trans (show (ks.map encStr)[k]? = some (encStr ks[k]) by rw [List.getElem?_map, List.getElem?_eq_getElem hlt]; rfl)
      have hd : decide (k < ks.length) = true := by simpa using hlt
      have hlen3 : ks.take k ++ [ks[k]] <+: ks := by
        rw [← List.take_succ_eq_append_getElem hlt]
        exact List.take_prefix _ _
      have HTk := Lib.hid (show ks.take (k + 1) = ks.take k ++ [ks[k]] from List.take_succ_eq_append_getElem hlt)
      have HKr := Lib.hid hKr
      have HJr := Lib.hid hJr
      have HY := Lib.hid (hY (ks.take k) ks[k] (encStr ks[k]) wr hJr hlen3 rfl)
      clear hKr hJr hlen3 hY hck0 h3
      generalize ks[k] = kv at *
      subst hA
      gi_wp2
      obtain ⟨fn, tmps, assign, body, hy, hR⟩ := HY.out
      rw [show Sem.run _ _ _ = _ from hy]
      gi_wp2
      refine hR.mono ?_
      rintro e W4 (⟨rfl, hJ4, hk4⟩ | ⟨rfl, hJx4⟩)
      · rw [← HTk.out] at hJ4
        gi_wp2
        go_roundw
        case rel => exact ⟨k + 1, by omega, by go_num, hJ4, hk4.sl HKr.out (fun i h1 h2 hx => by have := HXL.out i hx; omega), by have := hk4.size; omega⟩
        case measure => simp [intOf]; omega
      · rw [← HTk.out] at hJx4
        gi_wp2
        refine bodyPost_ret (results_none rfl _ _ _) rfl ?_
        exact ⟨⟨_, rfl⟩, .inr ⟨_, List.take_prefix _ _, hJx4⟩⟩
    · obtain rfl : k = ks.length := by omega
      have hd : decide (ks.length < ks.length) = false := by simp
      rw [List.take_length] at hJr
      gi_wp2
      go_end0
      exact ⟨⟨_, rfl⟩, .inl ⟨_, rfl, hJr⟩⟩
theorem goods_none (n : Nat) (hn : 1 ≤ n) (Bs : Nat) (X : Nat → Prop) (w : World) (hbs : Ob w Bs 53 #[.pointer none]) :
    Rr.Reads Fence.wide n Try.prog 45 #[.pointer (some ⟨Bs, 0, none⟩)] (fun (k : Key) (v : Value) (_ : World) => v = encStr k) (KpX X) (fun xs => xs = keysS []) (fun pre => pre <+: keysS []) (fun pre k => pre ++ [k] <+: keysS []) w := by
  intro l J Jx W hW hJ hJx hY h0
  have hB := hbs.same hW
  have cB : W.cell? ⟨Bs, 0, none⟩ = some (.pointer none) := hB.cell (j := 0) rfl
  have cM := Lib.hid (made_nil W)
  refine callsIn_of_wp Try.func45 rfl trivial ?_ rfl
  simp only [Try.ntmps45, List.size_toArray, List.length_cons, List.length_nil, Nat.reduceAdd, Nat.reduceSub, Array.replicate_succ, Array.replicate_zero, List.push_toArray, List.append_toArray, List.nil_append, List.cons_append]
  clear hY
  gi_wp2_with (refine ⟨trivial, ?_⟩; gi_at_call 36; refine (callsIn_wide.2 (cM.out)).mono ?_; rintro e W' ⟨rfl, rfl⟩)
  refine bodyPost_ret (results_none rfl _ _ _) rfl ?_
  exact ⟨⟨_, rfl⟩, .inl ⟨_, rfl, h0⟩⟩
theorem goods_any (n : Nat) (hn : 1 ≤ n) {w : World} {base : Nat} {p : Value} {s : Stk} (Bs : Nat) (X : Nat → Prop) (h : SpAt w base p s) (hbs : Ob w Bs 53 #[p]) (hxl : ∀ i, X i → i < w.heap.size) :
    Rr.Reads Fence.wide n Try.prog 45 #[.pointer (some ⟨Bs, 0, none⟩)] (fun (k : Key) (v : Value) (_ : World) => v = encStr k) (KpX X) (fun xs => xs = keysS s) (fun pre => pre <+: keysS s) (fun pre k => pre ++ [k] <+: keysS s) w := by
  rcases h with ⟨rfl, rfl⟩ | ⟨b, mb, rfl, h2⟩
  · exact goods_none n hn Bs X w hbs
  · exact goods_reads n hn Bs X h2 hbs hxl
end Sk
end Go.Proofs.Ytlhpdalfnjhokaa

namespace Go.Proofs.Ytlhpdalfnjhokaa
open Go.RowKit Go.Maps Go.Sort Go.Shelf
namespace KsU

theorem sorts (m : Nat) : AnyZ.SortsIn Try.prog Try.sorted27_ren Fence.wide m :=
  ⟨fun blk off cap ss W hH hblk hsz => callsIn_wide.2 (AnyM.slices_Sort_string Try.sort48 blk off cap ss W hH hblk hsz),
   fun p cap W => callsIn_wide.2 (AnyM.slices_Sort_string_none Try.sort48 p cap W)⟩

/-- maps.Keys: a function value over one new block that holds the map -/
theorem keys_calls (mb : Option Nat) (W : World) : CallsIn Fence.wide 5 Try.prog 28 #[.map mb] W fun e w' => e = .returned (.func (.func 49) #[] #[.pointer (some ⟨W.heap.size, 0, none⟩)]) ∧ w' = W.alloc (.cells #[.map mb] 66) :=
  AnyZ.keys_in Try.keys28 Fence.wide 5 trivial rfl mb W

set_option maxHeartbeats 1000000 in
/-- slices.Sorted at what maps.Keys handed back: a new slice that holds the keys, sorted -/
theorem sorted_raw {H : Type} (b nn : Nat) (D0 : DataW H) (R : Value → Option (DataW H × List MemPlace)) (w : World) (hown : w.ownsMap Try.prog 9 R b nn D0) (hmax : Maps.size D0 ≤ maxLen) (hbytes : Maps.size D0 * 16 ≤ 140737488355328) :
    CallsIn Fence.wide 5 Try.prog 27 #[.func (.func 49) #[] #[.pointer (some ⟨w.heap.size, 0, none⟩)]] (w.alloc (.cells #[.map (some b)] 66)) fun e w' => ∃ (v : Value) (ss : List (List UInt8)), e = .returned v ∧ ss.Perm (strKeys D0) ∧
      w'.ownsRow (w.alloc (.cells #[.map (some b)] 66)).heap.size 9 1 v ss.length ((ss.mergeSort (fun x y => decide (x ≤ y))).map encStr) ∧ (v = .slice none 0 0 ↔ ss = []) ∧ Below (w.alloc (.cells #[.map (some b)] 66)).heap.size (w.alloc (.cells #[.map (some b)] 66)) w' := by
  have hbl := hown.lt
  have hseq : SeqGives Fence.wide 2 Try.prog 49 #[.pointer (some ⟨w.heap.size, 0, none⟩)] encStr (fun ss => ss.Perm (strKeys D0)) (Maps.size D0) (w.alloc (.cells #[.map (some b)] 66)) :=
    AnyZ.keys_gives (ρ := Try.keys28_ren) { Try.keys28 with } Fence.wide _ trivial rfl (by omega) w.heap.size b nn D0 _ (by simp) (by simp) (by
      obtain ⟨es, clock, hb, Ft, hs, hD⟩ := hown
      exact ⟨es, clock, (Below.heap_alloc _ _ b hbl).trans hb, Ft, hs, hD⟩)
  exact AnyZ.sorted_in Try.sorted27 Fence.wide 5 trivial trivial trivial trivial rfl (by omega) (sorts _) (enters_of Try.func48 (by kernel_rfl) rfl) 49 #[.pointer (some ⟨w.heap.size, 0, none⟩)] trivial (enters_of Try.func49 (by kernel_rfl) rfl) _ _ hmax hbytes _ hseq
theorem bb_lt : ∀ a b : List UInt8, bytesBefore a b = true → a < b
  | [], [], h => by cases h
  | [], _ :: _, _ => List.nil_lt_cons _ _
  | _ :: _, [], h => by cases h
  | a :: r, b :: s, h => by
    unfold bytesBefore at h
    rw [List.cons_lt_cons_iff]
    simp only [Bool.or_eq_true, decide_eq_true_eq, Bool.and_eq_true, beq_iff_eq] at h
    rcases h with h | ⟨h, h2⟩
    · exact .inl h
    · exact .inr ⟨h, bb_lt r s h2⟩
theorem strKeys_mEs (m : List (List UInt8 × Value)) : strKeys (DataW.map (mEs strK m)) = m.map (·.1) := by
  simp [strKeys, mEs, Function.comp_def, strOf, strK]
set_option maxHeartbeats 1000000 in
theorem sorted_calls (b : Nat) (m : List (List UInt8 × Value)) (w : World) (hown : GMap strK w Try.prog 9 b m) (KK : Keyed Try.prog 9) (hmax : m.length ≤ 1099511627776) :
    CallsIn Fence.wide 5 Try.prog 27 #[.func (.func 49) #[] #[.pointer (some ⟨w.heap.size, 0, none⟩)]] (w.alloc (.cells #[.map (some b)] 66)) fun e w' => ∃ v : Value, e = .returned v ∧
      w'.ownsRow (w.alloc (.cells #[.map (some b)] 66)).heap.size 9 1 v (m.map (·.1)).length ((m.map (·.1)).map encStr) ∧ Below (w.alloc (.cells #[.map (some b)] 66)).heap.size (w.alloc (.cells #[.map (some b)] 66)) w' := by
  have hsort := hown.sorted KK
  have hsz : Maps.size (DataW.map (mEs strK m)) = m.length := by simp [Maps.size, mEs]
  refine (sorted_raw b m.length (.map (mEs strK m)) hold w hown (by rw [hsz]; unfold maxLen; omega) (by rw [hsz]; omega)).mono ?_
  rintro e w' ⟨v, ss, rfl, hp, hrow, -, hb⟩
  rw [strKeys_mEs] at hp
  have hlt : (m.map (·.1)).Pairwise (· < ·) := by
    rw [List.pairwise_map]
    exact hsort.imp (fun {p q} h => bb_lt _ _ h)
  have he : ss.mergeSort (fun x y => decide (x ≤ y)) = m.map (·.1) := by
    refine ((List.mergeSort_perm ss _).trans hp).eq_of_pairwise (le := fun a b : List UInt8 => a ≤ b) (fun a b _ _ h1 h2 => List.le_antisymm h1 h2) ?_ (hlt.imp (fun h => List.le_of_lt h))
    have := List.pairwise_mergeSort (le := fun x y : List UInt8 => decide (x ≤ y)) (fun a b c h1 h2 => by simp only [decide_eq_true_eq] at *; exact List.le_trans h1 h2) (fun a b => by simp only [Bool.or_eq_true, decide_eq_true_eq]; exact List.le_total a b) ss
    exact this.imp (fun h => by simpa using h)
  have hl : ss.length = (m.map (·.1)).length := hp.length_eq
  rw [he, hl] at hrow
  exact ⟨v, rfl, hrow, hb⟩
end KsU
end Go.Proofs.Ytlhpdalfnjhokaa

namespace Go.Proofs.Ytlhpdalfnjhokaa
open Go.RowKit
namespace Ro
section
variable {δ : Type} {F : Fence} {n : Nat} {P : Program}

/-- a contract of an iterator: its values read by Rd where they are handed over -/
def Reads (F : Fence) (n : Nat) (P : Program) (gf : Nat) (lb : Array Value) (Rd : δ → Value → World → Prop) (Kp : World → World → Prop) (S Sp : List δ → Prop) (T : List δ → δ → Prop) (w : World) : Prop :=
  ∀ (l : Nat) (J Jx : List δ → World → Prop) (W : World), Below w.heap.size w W → OwnFrom W.heap.size J → OwnFrom W.heap.size Jx →
    (∀ pre d v W1, J pre W1 → T pre d → Rd d v W1 → YieldAt F (n - 1) P l #[v] W1 fun e W' => (e = .returned (.bool true) ∧ J (pre ++ [d]) W' ∧ Kp W1 W') ∨ (e = .returned (.bool false) ∧ Jx (pre ++ [d]) W' ∧ KeepsFrom W.heap.size W1 W')) →
    J [] W →
    CallsIn F n P gf (#[.func (.yield l) #[] #[]] ++ lb) W fun e W' => (∃ v, e = .returned v) ∧ ((∃ xs, S xs ∧ J xs W') ∨ (∃ pre, Sp pre ∧ Jx pre W'))

/-- the loop's own two blocks -/
structure Bk (D l : Nat) (r : Loop) (W : World) : Prop where
  loop : W.heap[l]? = some (.loop r)
  mark : W.heap[D]? = some (.deferred (some []))
theorem Bk.lt {D l : Nat} {r : Loop} {W : World} (h : Bk D l r W) : l < W.heap.size ∧ D < W.heap.size := ⟨(Array.getElem?_eq_some_iff.1 h.loop).1, (Array.getElem?_eq_some_iff.1 h.mark).1⟩
theorem Bk.abide {D l B0 : Nat} {r : Loop} {A B : World} {row : Option Nat} (h : Bk D l r A) (hg : A.grownBy B row) (hD : D < B0) (hl : l < B0) (hr : ∀ k, row = some k → B0 ≤ k ∧ ∃ o : Obj, A.heap[k]? = some o ∧ o.isCells = false) : Bk D l r B :=
  ⟨(hg.block l h.lt.1 (fun e => by have := (hr l e.symm).1; omega)).trans h.loop, (hg.block D h.lt.2 (fun e => by have := (hr D e.symm).1; omega)).trans h.mark⟩
theorem Bk.keeps {D l B : Nat} {r : Loop} {X Y : World} (h : Bk D l r X) (hk : KeepsFrom B X Y) (hD : B ≤ D) (hl : B ≤ l) : Bk D l r Y :=
  ⟨hk.same _ _ hl h.loop rfl, hk.same _ _ hD h.mark rfl⟩
theorem Bk.turn {D l : Nat} {r : Loop} {W : World} (h : Bk D l r W) (hne : D ≠ l) (r' : Loop) : Bk D l r' (W.putObj l (.loop r')) :=
  ⟨World.putObj_heap_same h.lt.1, (World.putObj_heap_other hne).trans h.mark⟩

/-- how a round may be left -/
def rpost (B : Nat) (Kp : World → World → Prop) (I : List δ → World → Prop) (Ix : Code → List δ → World → Prop) (xs : List δ) (W : World) : Exit → Act → World → Prop
  | .normal, _, W' => KeepsFrom B W W' ∧ Kp W W' ∧ I xs W'
  | .ret, _, W' => KeepsFrom B W W' ∧ Ix .ret xs W'
  | .exit id, _, W' => KeepsFrom B W W' ∧ Ix (.exit id) xs W'
  | .goto t, _, W' => KeepsFrom B W W' ∧ Ix (.goto t) xs W'
  | .panic _, _, _ => False
  | .outgrown, _, _ => False

theorem range_reads {g : Operand} {ps : Array Tmp} {assign body : Code} {Q : Exit → Act → World → Prop} {a : Act} {w : World}
    (hro : F.round = none) (h1 : 1 ≤ n) {gf : Nat} {lb : Array Value} (hg : a.eval g = .func (.func gf) #[] lb) (hFg : F.fn gf) (eg : ∀ args w, (callFunc gf args).run P w = .ok (.enter gf args) w)
    {Rd : δ → Value → World → Prop} {Kp : World → World → Prop} {S Sp : List δ → Prop} {T : List δ → δ → Prop} {w0 : World} (hit : Reads F (n - 1) P gf lb Rd Kp S Sp T w0) (hb0 : Below w0.heap.size w0 w)
    (hKt : ∀ {A B C : World}, Kp A B → Kp B C → Kp A C) (hKb : ∀ (W : World) (l : Nat) (r r' : Loop), w.heap.size ≤ l → W.heap[l]? = some (.loop r) → Kp W (W.putObj l (.loop r'))) (hps : ps.size = 1)
    (I : List δ → World → Prop) (Ix : Code → List δ → World → Prop) (hI : OwnFrom w.heap.size I) (hIx : ∀ c, OwnFrom w.heap.size (Ix c)) (h0 : I [] w)
    (hround : ∀ (l : Nat) (pre : List δ) (d : δ) (v : Value) (W : World), w.heap.size ≤ l → I pre W → T pre d → Rd d v W →
      assign.wpIn (F.inRound l) (n - 1 - 1) P (Exit.then (fun a' W' => KeepsFrom w.heap.size W W' ∧ Kp W W' ∧
        ∀ (W2 : World), W'.grownBy W2 (some l) → (∃ o : Obj, W'.heap[l]? = some o ∧ o.isCells = false) → body.wpIn (F.inRound l) (n - 1 - 1) P (rpost w.heap.size Kp I Ix (pre ++ [d]) W2) a' W2) (fun _ _ _ => False))
        { tmps := (ps.zip #[v]).foldl (fun t (p, v) => t.setIfInBounds p v) a.tmps, defers := [] } W)
    (hdone : ∀ (D : Nat) (xs : List δ) (W : World), w.heap.size ≤ D → S xs → I xs W → W.heap[D]? = some (.deferred (some [])) → Q .normal { a with defers := { target := .collected D, args := #[] } :: a.defers } W)
    (hstop : ∀ (D : Nat) (c : Code) (pre : List δ) (W : World), w.heap.size ≤ D → Sp pre → Ix c pre W → W.heap[D]? = some (.deferred (some [])) → c.wpIn F n P Q { a with defers := { target := .collected D, args := #[] } :: a.defers } W) :
    (Code.rangeFunc g ps assign body).wpIn F n P Q a w := by
  refine wpIn_rangeFunc fun fn hfn => ?_
  obtain ⟨mk, hmk⟩ : ∃ mk : LoopState → Option Code → Loop, mk = fun st pe => { state := st, pending := pe, fn := fn, tmps := a.tmps, params := ps, assign := assign, body := body, defers := w.heap.size } := ⟨_, rfl⟩
  obtain ⟨D, hD⟩ : ∃ D, D = w.heap.size := ⟨_, rfl⟩
  obtain ⟨V, hV⟩ : ∃ V : World, V = (w.alloc (.deferred (some []))).alloc (.loop (mk .ready none)) := ⟨_, rfl⟩
  have hbk : Bk D (D + 1) (mk .ready none) V := by
    rw [hV, hD]
    refine ⟨?_, (Below.heap_alloc _ _ _ (by simp)).trans (World.alloc_heap_new w _)⟩
    have := World.alloc_heap_new (w.alloc (.deferred (some []))) (.loop (mk .ready none))
    rwa [World.size_alloc] at this
  have hIV : I [] V := by rw [hV]; exact hI.alloc _ (hI.alloc _ h0)
  have hbV : Below w0.heap.size w0 V := by
    rw [hV]; exact hb0.trans ((((Below.refl _ w).alloc (Nat.le_refl _) _).alloc (by simp) _).mono hb0.size)
  have hVs : w.heap.size ≤ V.heap.size := by rw [hV]; simp; omega
  refine ⟨D + 1, [{ target := .collected D, args := #[] }], V, { target := .fn (.func gf) lb, args := #[.func (.yield (D + 1)) #[] #[]] }, V, gf, #[.func (.yield (D + 1)) #[] #[]] ++ lb, V, ?_, ?_, ?_, ?_, fun _ => h1, ?_⟩
  · rw [hro, hV, hmk, hD]; exact run_enterLoop_outer _ _ _ _ _
  · simp only [resolve, hg]
    simp [go_sem]
  · intro f' hf'
    simp [Target.leads] at hf'
    subst hf'
    exact hFg
  · simp [invoke, go_sem, eg]
  have hVD : D < V.heap.size ∧ D + 1 < V.heap.size := ⟨hbk.lt.2, hbk.lt.1⟩
  have walkRow : ∀ {A : World} {row : Option Nat}, (∀ r, row = some r → V.heap.size ≤ r ∧ ∃ o : Obj, A.heap[r]? = some o ∧ o.isCells = false) → (∀ r, row = some r → w.heap.size ≤ r ∧ ∃ o : Obj, A.heap[r]? = some o ∧ o.isCells = false) :=
    fun hr r e => by
      obtain ⟨h1, o, h2, h3⟩ := hr r e
      exact ⟨Nat.le_trans hVs h1, o, h2, h3⟩
  refine (hit (D + 1) (fun pre W => I pre W ∧ Bk D (D + 1) (mk .ready none) W) (fun pre W => ∃ c, Ix c pre W ∧ Bk D (D + 1) (mk .done (some c)) W) V hbV
    (fun s A B row h hg hr => ⟨hI s A B row h.1 hg (walkRow hr), h.2.abide hg hVD.1 hVD.2 hr⟩)
    (fun s A B row h hg hr => let ⟨c, h1, h2⟩ := h; ⟨c, hIx c s A B row h1 hg (walkRow hr), h2.abide hg hVD.1 hVD.2 hr⟩)
    (fun pre d v W hJ hlen hrd => ?_) ⟨hIV, hbk⟩).mono ?_
  · -- a round
    obtain ⟨hi, hk⟩ := hJ
    have hsz : #[v].size = (mk .ready none).params.size := by rw [hmk]; exact hps.symm
    have hy := run_yield (P := P) (args := #[v]) hk.loop hsz
    rw [hmk] at hy
    refine ⟨fn, _, assign, body, hy, roundIn_of_wpIn hfn (wpIn_mono (hround (D + 1) pre d v W (by omega) hi hlen hrd) fun e a1 W1 h => ?_)⟩
    cases e with
    | normal =>
      obtain ⟨hk1, hkp1, hbody⟩ := h
      have hb1 := hk.keeps hk1 (by omega) (by omega)
      have hst : (mk .ready none).state = .ready := by rw [hmk]
      refine ⟨_, run_beginRound hb1.loop hst, ?_⟩
      have hb2 := hb1.turn (by omega) { mk .ready none with state := .busy }
      have hkb2 : Kp W1 (W1.putObj (D + 1) (.loop { mk .ready none with state := .busy })) := hKb _ _ _ _ (by omega) hb1.loop
      refine wpIn_mono (hbody _ (grownBy_putObj' _ _ _) ⟨_, hb1.loop, rfl⟩) fun e a3 W3 h3 => ?_
      have keepsAll : ∀ {j : LoopState} {pj : Option Code} (W3 W4 : World), KeepsFrom w.heap.size (W1.putObj (D + 1) (.loop { mk .ready none with state := .busy })) W3 → W4 = W3.putObj (D + 1) (.loop (mk j pj)) → KeepsFrom V.heap.size W W4 := fun W3 W4 hk3 e4 => by
        subst e4
        have hsz := hk1.size
        have hsz3 := hk3.size
        refine ⟨by simp at hsz3 ⊢; omega, fun k o hk ho hc => ?_⟩
        have h1 := hk1.same k o (by omega) ho hc
        have h2 : (W1.putObj (D + 1) (.loop { mk .ready none with state := .busy })).heap[k]? = some o := (World.putObj_heap_other (by omega)).trans h1
        have h3 := hk3.same k o (by omega) h2 hc
        exact (World.putObj_heap_other (by omega)).trans h3
      have fin : ∀ (j : Option Code), KeepsFrom w.heap.size (W1.putObj (D + 1) (.loop { mk .ready none with state := .busy })) W3 → ∃ W4, (Instr.endRound (D + 1) j).run P W3 = .ok (.bool j.isNone) W4 ∧ Bk D (D + 1) (mk (if j.isNone then .ready else .done) j) W4 ∧ W4 = W3.putObj (D + 1) (.loop (mk (if j.isNone then .ready else .done) j)) ∧
          W3.heap[D + 1]? = some (.loop { mk .ready none with state := .busy }) := fun j hk3 => by
        have hb3 := hb2.keeps hk3 (by omega) (by omega)
        have hr := run_endRound (P := P) j hb3.loop
        refine ⟨_, hr, ?_, ?_, hb3.loop⟩
        · have := hb3.turn (by omega) { mk .ready none with state := if j.isNone then .ready else .done, pending := j }
          rw [hmk] at this ⊢
          exact this
        · rw [hmk]
      cases e with
      | normal =>
        obtain ⟨hk3, hkp3, hi3⟩ := h3
        obtain ⟨W4, hr, hb4, e4, hl3⟩ := fin none hk3
        exact ⟨_, W4, hr, .inl ⟨rfl, ⟨by rw [e4]; exact hI.putObj _ hi3 (by omega) hl3 rfl, hb4⟩, hKt hkp1 (hKt hkb2 (hKt hkp3 (by rw [e4]; exact hKb _ _ _ _ (by omega) hl3)))⟩⟩
      | ret =>
        obtain ⟨hk3, hi3⟩ := h3
        obtain ⟨W4, hr, hb4, e4, hl3⟩ := fin (some .ret) hk3
        exact ⟨_, W4, hr, .inr ⟨rfl, ⟨.ret, by rw [e4]; exact (hIx _).putObj _ hi3 (by omega) hl3 rfl, hb4⟩, keepsAll W3 W4 hk3 e4⟩⟩
      | exit id =>
        obtain ⟨hk3, hi3⟩ := h3
        obtain ⟨W4, hr, hb4, e4, hl3⟩ := fin (some (.exit id)) hk3
        exact ⟨_, W4, hr, .inr ⟨rfl, ⟨.exit id, by rw [e4]; exact (hIx _).putObj _ hi3 (by omega) hl3 rfl, hb4⟩, keepsAll W3 W4 hk3 e4⟩⟩
      | goto t =>
        obtain ⟨hk3, hi3⟩ := h3
        obtain ⟨W4, hr, hb4, e4, hl3⟩ := fin (some (.goto t)) hk3
        exact ⟨_, W4, hr, .inr ⟨rfl, ⟨.goto t, by rw [e4]; exact (hIx _).putObj _ hi3 (by omega) hl3 rfl, hb4⟩, keepsAll W3 W4 hk3 e4⟩⟩
      | panic ch => exact h3.elim
      | outgrown => exact h3.elim
    | ret => exact h.elim
    | exit id => exact h.elim
    | goto t => exact h.elim
    | panic ch => exact h.elim
    | outgrown => exact h.elim
  · -- behind the iterator
    rintro e W2 ⟨⟨v, rfl⟩, hend⟩
    rcases hend with ⟨xs, hS, hi, hk⟩ | ⟨pre, hSp, c, hi, hk⟩
    · have hr := run_endLoop (P := P) hk.loop (by rw [hmk]; simp)
      rw [hmk] at hr
      exact ⟨none, _, hr, hdone D xs _ (by omega) hS (hI.putObj _ hi (by omega) hk.loop rfl) ((World.putObj_heap_other (by omega)).trans hk.mark)⟩
    · have hr := run_endLoop (P := P) hk.loop (by rw [hmk]; simp)
      rw [hmk] at hr
      exact ⟨some c, _, hr, hstop D c pre _ (by omega) hSp ((hIx c).putObj _ hi (by omega) hk.loop rfl) ((World.putObj_heap_other (by omega)).trans hk.mark)⟩
end
end Ro
end Go.Proofs.Ytlhpdalfnjhokaa

namespace Go.Proofs.Ytlhpdalfnjhokaa
open Go.RowKit
namespace Kp
/-- the block of the slice that the variable at ob holds -/
def own (W : World) (ob : Nat) : Option Nat := (W.cell? ⟨ob, 0, none⟩).bind (·.ownBlock)
theorem own_of {W : World} {ob : Nat} {t : TypeId} {v : Value} (h : Ob W ob t #[v]) : own W ob = v.ownBlock := by
  unfold own
  rw [h.cell (j := 0) (v := v) rfl]
  rfl
theorem own_same {A B : World} {ob : Nat} (h : B.heap[ob]? = A.heap[ob]?) : own B ob = own A ob := by
  unfold own
  rw [World.cell?_of_block (w := A) (w' := B) (a := ⟨ob, 0, none⟩) h]
/-- whatever is not in X, not in the variable's slice, and no loop's record, is as it was; the slice lies where it lay, or in a new block -/
structure KpO (X : Nat → Prop) (ob : Nat) (A B : World) : Prop where
  size : A.heap.size ≤ B.heap.size
  same : ∀ b o, A.heap[b]? = some o → ¬ X b → own A ob ≠ some b → (∀ r, o ≠ .loop r) → B.heap[b]? = some o
  next : ∀ g, own B ob = some g → own A ob = some g ∨ A.heap.size ≤ g
theorem KpO.refl (X : Nat → Prop) (ob : Nat) (A : World) : KpO X ob A A := ⟨Nat.le_refl _, fun _ _ h _ _ _ => h, fun _ h => .inl h⟩
theorem KpO.trans {X : Nat → Prop} {ob : Nat} {A B C : World} (h : KpO X ob A B) (k : KpO X ob B C) : KpO X ob A C := by
  refine ⟨Nat.le_trans h.size k.size, fun b o h1 h2 h3 h4 => k.same b o (h.same b o h1 h2 h3 h4) h2 (fun e => ?_) h4, fun g hg => ?_⟩
  · rcases h.next b e with h5 | h5
    · exact h3 h5
    · have := (Array.getElem?_eq_some_iff.1 h1).1
      omega
  · rcases k.next g hg with h5 | h5
    · exact h.next g h5
    · exact .inr (Nat.le_trans h.size h5)
theorem KpO.loop {X : Nat → Prop} {ob : Nat} {W : World} {l : Nat} {r r' : Loop} (h : W.heap[l]? = some (.loop r)) : KpO X ob W (W.putObj l (.loop r')) := by
  have hcell : own (W.putObj l (.loop r')) ob = own W ob := by
    by_cases e : ob = l
    · subst e
      unfold own World.cell?
      rw [h, World.putObj_heap_same (Array.getElem?_eq_some_iff.1 h).1]
    · exact own_same (World.putObj_heap_other e)
  refine ⟨by simp, fun b _ hb _ _ hn => ?_, fun g hg => .inl (by rw [← hcell]; exact hg)⟩
  by_cases e : b = l
  · subst e
    rw [h] at hb
    cases hb
    exact (hn r rfl).elim
  · exact (World.putObj_heap_other e).trans hb
/-- a write to X alone, the variable's block being as it was -/
theorem KpO.of_grown {X : Nat → Prop} {ob : Nat} {A B : World} {row : Option Nat} (h : A.grownBy B row) (hr : ∀ g, row = some g → X g) (ho : ob < A.heap.size) (hne : row ≠ some ob) : KpO X ob A B :=
  ⟨h.size, fun b _ hb hx _ _ => (h.block b (Array.getElem?_eq_some_iff.1 hb).1 (fun e => hx (hr b e.symm))).trans hb, fun g hg => .inl (by rw [← own_same (h.block ob ho (fun e => hne e.symm))]; exact hg)⟩
theorem KpO.below {X : Nat → Prop} {ob : Nat} {A B : World} (h : Below A.heap.size A B) (ho : ob < A.heap.size) : KpO X ob A B :=
  ⟨h.size, fun b _ hb _ _ _ => (h.block b (Array.getElem?_eq_some_iff.1 hb).1).trans hb, fun g hg => .inl (by rw [← own_same (h.block ob ho)]; exact hg)⟩
theorem KpO.cell {X : Nat → Prop} {ob : Nat} {A B : World} {b j : Nat} {v : Value} (h : KpO X ob A B) (hc : A.cell? ⟨b, j, none⟩ = some v) (hx : ¬ X b) (ho : own A ob ≠ some b) : B.cell? ⟨b, j, none⟩ = some v := by
  have h2 := hc
  unfold World.cell? at h2
  split at h2
  · rename_i c t _ hb
    have := h.same b _ hb hx ho (fun r e => by cases e)
    exact (World.cell?_of_block (w := A) (w' := B) (a := ⟨b, j, none⟩) (this.trans hb.symm)).trans hc
  · cases h2
theorem KpO.sl {X : Nat → Prop} {ob : Nat} {A B : World} {lo hi size n : Nat} {v : Value} {xs : List Value} (h : KpO X ob A B) (hs : Sl A lo hi size v n xs) (hx : ∀ i, lo ≤ i → i < hi → ¬ X i ∧ own A ob ≠ some i) : Sl B lo hi size v n xs := by
  refine ⟨hs.len, ?_⟩
  obtain ⟨A', c, e, h1, h2, h3⟩ := hs.at_
  refine ⟨A', c, e, h1, h2, fun hn => ?_⟩
  obtain ⟨b, o, ea, hl, hb, hc⟩ := h3 hn
  refine ⟨b, o, ea, hl, hb, fun j hj => ?_⟩
  have hj2 : j < xs.length := by rw [hs.len]; exact hj
  have e2 : xs[j]? = some xs[j] := List.getElem?_eq_getElem hj2
  rw [e2]
  exact h.cell ((hc j hj).trans e2) (hx b hl hb).1 (hx b hl hb).2
end Kp
end Go.Proofs.Ytlhpdalfnjhokaa

namespace Go.Proofs.Ytlhpdalfnjhokaa
open Go.RowKit Go.Maps
namespace Sk
open It Al Kp
attribute [local go_sem] Oper.semAt_some
def putKeys (m : List (Key × Unit)) (ks : List Key) : List (Key × Unit) := ks.foldl (fun m k => aPut strK m k ()) m
def allMap (ss : List Stk) : List (Key × Unit) := ss.foldl (fun m s => putKeys m (keysS s)) []
def allKeys (ss : List Stk) : List Key := (allMap ss).map (·.1)
def yes (_ : Unit) : Value := .bool true
theorem putKeys_snoc (m : List (Key × Unit)) (ks : List Key) (k : Key) : putKeys m (ks ++ [k]) = aPut strK (putKeys m ks) k () := by
  unfold putKeys
  rw [List.foldl_append]
  rfl
theorem allMap_snoc (ss : List Stk) (s : Stk) : allMap (ss ++ [s]) = putKeys (allMap ss) (keysS s) := by
  unfold allMap
  rw [List.foldl_append]
  rfl
theorem putKeys_len : ∀ (ks : List Key) (m : List (Key × Unit)), (putKeys m ks).length ≤ m.length + ks.length
  | [], m => by simp [putKeys]
  | k :: r, m => by
    have h1 := putKeys_len r (aPut strK m k ())
    have h2 := aPut_length_le (K := strK) m k ()
    show (putKeys (aPut strK m k ()) r).length ≤ _
    rw [List.length_cons]
    omega
theorem SpAt.keys {w : World} {base : Nat} {p : Value} {s : Stk} (h : SpAt w base p s) : (∀ k ∈ keysS s, k.length ≤ maxLen) ∧ (keysS s).length ≤ 64 ∧ p.oneCell' = true := by
  rcases h with ⟨rfl, rfl⟩ | ⟨b, mb, rfl, h2⟩
  · exact ⟨(fun k hk => by cases hk), by simp [keysS], rfl⟩
  · refine ⟨fun k hk => ?_, h2.short, rfl⟩
    obtain ⟨q, hq, rfl⟩ := List.mem_map.1 hk
    exact (h2.ok q hq).key
/-- a block of a loop's deferred calls, to be let go -/
def coll (D : Nat) : Deferred := { target := .collected D, args := #[] }
theorem leaves_coll {F : Fence} {n : Nat} {P : Program} {fn : Func} {tmps : Array Value} {R : Ending → World → Prop} (I : World → Prop) (B : Nat) (hI : ∀ W D, I W → B ≤ D → W.heap[D]? = some (.deferred (some [])) → I (W.putObj D (.deferred none)))
    (hend : ∀ W, I W → LeavesInM F n P fn tmps R [] .returning W) : ∀ (ds : List Nat) (W : World), ds.Nodup → (∀ D ∈ ds, B ≤ D ∧ W.heap[D]? = some (.deferred (some []))) → I W → LeavesInM F n P fn tmps R (ds.map coll) .returning W
  | [], W, _, _, h => hend W h
  | D :: r, W, hn, hd, h => by
    have hD := hd D (by simp)
    have hn' := List.nodup_cons.1 hn
    refine ⟨by simp, .inl ⟨D, _, rfl, run_takeDeferred hD.2, ?_⟩⟩
    refine leaves_coll I B hI hend r _ hn'.2 (fun E hE => ?_) (hI W D h hD.1 hD.2)
    have hE2 := hd E (List.mem_cons_of_mem _ hE)
    exact ⟨hE2.1, (World.putObj_heap_other (fun e => by subst e; exact hn'.1 hE)).trans hE2.2⟩
set_option maxRecDepth 100000 in
set_option maxHeartbeats 8000000 in
theorem greads (n : Nat) (hn : 3 ≤ n) {w : World} {base : Nat} {v : Value} {ss : List Stk} (Bs ob : Nat) (X : Nat → Prop) (h : StsAt w base v ss) (hl : ss.length ≤ 1000000) (hbs : Ob w Bs 33 #[v]) (hxl : ∀ i, X i → i < w.heap.size) (hob : ob < w.heap.size) (how : ∀ g, own w ob = some g → g < w.heap.size) :
    Ro.Reads Fence.wide n Try.prog 25 #[.pointer (some ⟨Bs, 0, none⟩)] (fun (k : Key) (v : Value) (_ : World) => v = encStr k) (KpO X ob) (fun xs => xs = allKeys ss) (fun pre => pre <+: allKeys ss) (fun pre k => pre ++ [k] <+: allKeys ss) w := by
  intro l J Jx W hW hJ hJx hY h0
  have hM := h.same hW
  have hB := hbs.same hW
  have hmm := @run_makeMap Try.prog
  have cB : W.cell? ⟨Bs, 0, none⟩ = some v := hB.cell (j := 0) rfl
  obtain ⟨ps, hpl, hsl, hps⟩ := hM.at_
  obtain ⟨A, c, rfl, hc1, hc2, -⟩ := hsl.at_
  have hB2 := (hB.alloc (.map #[] 0)).alloc (.cells #[.map (some W.heap.size)] 66)
  have c2 := hB2.cell (j := 0) (v := .slice A ss.length c) rfl
  have o2 := Ob.new (W.alloc (.map #[] 0)) 66 #[.map (some W.heap.size)]
  have hbl2 : Below W.heap.size W ((W.alloc (.map #[] 0)).alloc (.cells #[.map (some W.heap.size)] 66)) := ((Below.refl _ W).alloc (Nat.le_refl _) _).alloc (by simp) _
  have hg2 : GMap strK ((W.alloc (.map #[] 0)).alloc (.cells #[.map (some W.heap.size)] 66)) Try.prog 9 W.heap.size (gm yes []) := (GMap.made (K := strK) W Try.prog 9).kept (World.grownBy_alloc _ _ none) (by simp)
  have hs2 : ((W.alloc (.map #[] 0)).alloc (.cells #[.map (some W.heap.size)] 66)).heap.size = W.heap.size + 2 := by simp
  simp only [World.size_alloc] at o2
  have O2 := Lib.hid o2
  have HBL2 := Lib.hid hbl2
  have HG2 := Lib.hid hg2
  have HS2 := Lib.hid hs2
  have HPS := Lib.hid hps
  have HSL := Lib.hid hsl
  clear o2 hbl2 hg2 hs2 hps hsl hpl hM cB hB hB2
  refine callsIn_of_wp_marks Try.func25 rfl trivial ?_ rfl
  simp only [Try.ntmps25, List.size_toArray, List.length_cons, List.length_nil, Nat.reduceAdd, Nat.reduceSub, Array.replicate_succ, Array.replicate_zero, List.push_toArray, List.append_toArray, List.nil_append, List.cons_append]
  gi_wp2
  clear c2 hmm
  generalize (W.alloc (.map #[] 0)).alloc (.cells #[.map (some W.heap.size)] 66) = w2 at *
  --LOOP
  refine wpIn_loop (fun a V => ∃ (k : Nat) (ds : List Nat) (u5 u6 u13 u14 u15 u16 u17 u18 u19 u20 u21 : Value), k ≤ ss.length ∧ Ob V (W.heap.size + 1) 66 #[.map (some W.heap.size)] ∧ GMap strK V Try.prog 9 W.heap.size (gm yes (allMap (ss.take k))) ∧ (allMap (ss.take k)).length ≤ 64 * k ∧ Below W.heap.size W V ∧ W.heap.size + 2 ≤ V.heap.size ∧ ds.Nodup ∧ (∀ D ∈ ds, W.heap.size ≤ D ∧ V.heap[D]? = some (.deferred (some []))) ∧ a = ⟨#[.func (.yield l) #[] #[], .pointer (some ⟨Bs, 0, none⟩), undef, .pointer (some ⟨W.heap.size + 1, 0, none⟩), undef, u5, u6, undef, undef, .map (some W.heap.size), .slice A ss.length c, .int .i64 (ss.length : Int), .int .i64 (k : Int), u13, u14, u15, u16, u17, u18, u19, u20, u21, undef, undef, undef, undef, undef, undef, undef, undef, undef, undef, undef, undef, undef], ds.map coll⟩) (fun a _ => ss.length - (intOf (a.tmps.getD 12 undef)).toNat) ?_ ?_
  · exact ⟨0, [], _, _, _, _, _, _, _, _, _, _, _, by omega, O2.out, HG2.out, by simp [allMap], HBL2.out, by rw [HS2.out]; exact Nat.le_refl _, List.nodup_nil, (fun D hD => by cases hD), rfl⟩
  · rintro a V ⟨k, ds, u5, u6, u13, u14, u15, u16, u17, u18, u19, u20, u21, hk, hO, hG, hml, hBV, hsz, hnd, hds, rfl⟩
    clear O2 HG2 HBL2 HS2
    by_cases hlt : k < ss.length
    · obtain ⟨p, hp1, hp2⟩ := HPS.out k hlt
      obtain ⟨A', c', he, _, _, h3⟩ := HSL.out.at_
      cases he
      obtain ⟨pb, po, rfl, -, hpb, hcell⟩ := h3 (by omega)
      have hck := (hBV.cell (p := ⟨pb, po + k, none⟩) hpb).trans ((hcell k (by omega)).trans hp1)
      have hd : decide ((k : Int) < (ss.length : Int)) = true := by simp; omega
      have l1 : (0 : Int) ≤ (k : Int) := by omega
      have l2 : (k : Int) < (ss.length : Int) := by omega
      obtain ⟨hkk, hkl, hpo⟩ := hp2.keys
      have HSP := Lib.hid (hp2.same hBV)
      have HKK := Lib.hid hkk
      have HSn := Lib.hid (show allMap (ss.take (k + 1)) = putKeys (allMap (ss.take k)) (keysS ss[k]) by rw [List.take_succ_eq_append_getElem hlt, allMap_snoc])
      have HDS := Lib.hid hds
      have HO := Lib.hid hO
      have HG := Lib.hid hG
      have HBV := Lib.hid hBV
      have HND := Lib.hid hnd
      clear hp1 hp2 h3 hcell hkk hds hO hG hBV hnd
      generalize ss[k] = sk at *
      generalize allMap (ss.take k) = m0 at *
      gi_wp2
      refine ⟨trivial, (fun _ => by omega), (callsIn_wide.2 (goods_calls p hpo V)).mono ?_⟩
      rintro e V1 ⟨rfl, hV1⟩
      have hal : Below V.heap.size V V1 := by rw [hV1]; exact (Below.refl _ _).alloc (Nat.le_refl _) _
      have oB : Ob V1 V.heap.size 53 #[p] := by rw [hV1]; exact Ob.new V _ _
      have hs1 : V1.heap.size = V.heap.size + 1 := by rw [hV1]; simp
      have hO1 := HO.out.same hal
      have hG1 := HG.out.below hal HG.out.lt
      have hB1 := HBV.out.trans (hal.mono HBV.out.size)
      have hD1 := Lib.hid (show ∀ D ∈ ds, W.heap.size ≤ D ∧ V1.heap[D]? = some (.deferred (some [])) from fun D hD => ⟨(HDS.out D hD).1, (hal.block D (Array.getElem?_eq_some_iff.1 (HDS.out D hD).2).1).trans (HDS.out D hD).2⟩)
      have hSP1 := HSP.out.same hal
      clear hV1 hal HSP HO HG HBV HDS
      gi_wp2
      obtain ⟨mb, hmb⟩ : ∃ mb, mb = W.heap.size := ⟨_, rfl⟩
      have HMB := Lib.hid hmb
      refine Rr.range_reads (n := n) rfl (by omega) (gf := 45) rfl trivial (enters_of Try.func45 (by kernel_rfl) rfl)
        (goods_any (n - 1) (by omega) V.heap.size (fun i => i = W.heap.size) hSP1 oB (fun i hi => by omega)) (Below.refl _ _) (fun h k => h.trans k) (fun W l r r' _ h => KpX.loop h) rfl
        (fun pre X => Ob X (W.heap.size + 1) 66 #[.map (some W.heap.size)] ∧ GMap strK X Try.prog 9 W.heap.size (gm yes (putKeys m0 pre)) ∧ Below W.heap.size W X ∧ V1.heap.size ≤ X.heap.size ∧ ∀ D ∈ ds, W.heap.size ≤ D ∧ X.heap[D]? = some (.deferred (some [])))
        (fun c pre X => False)
        (fun s A B row hs hg hr => ⟨ob_keep hs.1 hg (fun r e => (hr r e).2), hs.2.1.kept hg (fun e => by have := (hr _ e.symm).1; omega), hs.2.2.1.grown hg (by have := hs.2.2.1.size; omega) (fun k e => by have := (hr k e).1; omega), by have := hg.size; omega, fun D hD => ⟨(hs.2.2.2.2 D hD).1, (hg.block D (Array.getElem?_eq_some_iff.1 (hs.2.2.2.2 D hD).2).1 (fun e => by have := (hr D e.symm).1; have := (Array.getElem?_eq_some_iff.1 (hD1.out D hD).2).1; omega)).trans (hs.2.2.2.2 D hD).2⟩⟩)
        (fun c s A B row hs hg hr => hs.elim)
        ⟨hO1, hG1, hB1, Nat.le_refl _, hD1.out⟩ ?round ?done ?stop
      case stop => exact fun D c pre X _ _ h _ => h.elim
      case round =>
        rintro l' pre d v' X hl' ⟨i1, i2, i3, i4, i5⟩ hpre rfl
        have hdm : d ∈ keysS sk := by
          obtain ⟨r, hr⟩ := hpre
          rw [← hr]
          simp
        have hdl := HKK.out d hdm
        have hpl : pre.length ≤ 64 := by
          obtain ⟨r, hr⟩ := hpre
          have := congrArg List.length hr
          simp only [List.length_append, List.length_cons, List.length_nil] at this
          omega
        have hln := putKeys_len pre m0
        have HSN := Lib.hid (putKeys_snoc m0 pre d)
        have hkey := Lib.hid (show keyOf Try.prog 9 (encStr d) = some (strK.lit d) from by
          have := key_str (s := ⟨d.toArray⟩) (by show d.toArray.size ≤ maxLen; simpa using hdl)
          simpa using this)
        have I5 := Lib.hid i5
        clear hpre hdm hdl i5
        gi_wp2
        refine ⟨keeps_below _ (Below.refl _ X), KpX.refl _ _, fun X2 hg2 ho2 => ?_⟩
        have j1 := ob_keep i1 hg2 (fun r e => by cases e; exact ho2)
        have j2 := i2.kept hg2 (fun e => by have := Option.some.inj e; omega)
        have j3 := i3.grown hg2 (by have := i3.size; omega) (fun k e => by have := Option.some.inj e; omega)
        have j4 : V1.heap.size ≤ X2.heap.size := by have := hg2.size; omega
        have J5 := Lib.hid (show ∀ D ∈ ds, W.heap.size ≤ D ∧ X2.heap[D]? = some (.deferred (some [])) from fun D hD => ⟨(I5.out D hD).1, (hg2.block D (Array.getElem?_eq_some_iff.1 (I5.out D hD).2).1 (fun e => by have := Option.some.inj e; have := (Array.getElem?_eq_some_iff.1 (hD1.out D hD).2).1; omega)).trans (I5.out D hD).2⟩)
        have cm := j1.cell (j := 0) (v := .map (some W.heap.size)) rfl
        have hml2 : (gm yes (putKeys m0 pre)).length < maxLen := by rw [gm_length]; unfold maxLen; omega
        clear i1 i2 i3 hg2 ho2
        gi_wp2_with (gi_at_mapUpdate; refine wpListIn_put_g rfl (.tmp 19) (.tmp 20) (.const (.bool true)) _ rfl 9 _ keyedS Try.underlying66 rfl j2 hml2 _ _ _ rfl rfl hkey.out ?_; intro X3 hgm3 hg3)
        have hgm3' : GMap strK X3 Try.prog 9 W.heap.size (gm yes (putKeys m0 (pre ++ [d]))) := by
          rw [HSN.out, ← gm_put]
          exact hgm3
        have hz3 := hg3.size
        refine ⟨?_, KpX.of_grown hg3 (fun g e => (Option.some.inj e).symm), j1.kept hg3 (fun e => by have := Option.some.inj e; omega), hgm3', j3.grown hg3 (by have := j3.size; omega) (fun k e => by have := Option.some.inj e; omega), by omega, fun D hD => ⟨(J5.out D hD).1, ?_⟩⟩
        · refine ⟨hz3, fun i _ hi ho _ => (hg3.block i (Array.getElem?_eq_some_iff.1 ho).1 (fun e => by have := Option.some.inj e; omega)).trans ho⟩
        · refine (hg3.block D (Array.getElem?_eq_some_iff.1 (J5.out D hD).2).1 (fun e => ?_)).trans (J5.out D hD).2
          have e2 := Option.some.inj e
          have hD2 := (J5.out D hD).2
          obtain ⟨es, clock, hb, -⟩ := j2
          rw [e2, hb] at hD2
          cases hD2
      case done =>
        rintro D xs X hD rfl ⟨i1, i2, i3, i4, i5⟩ hK
        have hln := putKeys_len (keysS sk) m0
        have hND2 : (D :: ds).Nodup := List.nodup_cons.2 ⟨fun hm => by have := (Array.getElem?_eq_some_iff.1 (hD1.out D hm).2).1; omega, HND.out⟩
        have hDS2 : ∀ E ∈ D :: ds, W.heap.size ≤ E ∧ X.heap[E]? = some (.deferred (some [])) := fun E hE => by
          rcases List.mem_cons.1 hE with rfl | hE
          · exact ⟨by omega, hK⟩
          · exact i5 E hE
        rw [← HSn.out] at i2 hln
        have hfin := Lib.hid (show k + 1 ≤ ss.length ∧ Ob X (W.heap.size + 1) 66 #[.map (some W.heap.size)] ∧ GMap strK X Try.prog 9 W.heap.size (gm yes (allMap (ss.take (k + 1)))) ∧ (allMap (ss.take (k + 1))).length ≤ 64 * (k + 1) ∧ Below W.heap.size W X ∧ W.heap.size + 2 ≤ X.heap.size ∧ (D :: ds).Nodup ∧ (∀ E ∈ D :: ds, W.heap.size ≤ E ∧ X.heap[E]? = some (.deferred (some []))) from
          ⟨by omega, i1, i2, by omega, i3, by omega, hND2, hDS2⟩)
        clear i1 i2 i3 i5 hK hND2 hDS2 hln
        gi_wp2
        obtain ⟨f1, f2, f3, f4, f5, f6, f7, f8⟩ := hfin.out
        refine ⟨⟨k + 1, D :: ds, p, u6, .bool true, .pointer (some ⟨pb, po + k, none⟩), p, p, .func (.func 45) #[] #[.pointer (some ⟨V.heap.size, 0, none⟩)], u18, u19, u20, .int .i64 ((k : Int) + 1), f1, f2, f3, f4, f5, f6, f7, f8, ?_⟩, by simp [intOf]; omega⟩
        rfl
    · obtain rfl : k = ss.length := by omega
      rw [List.take_length] at hG hml
      have hd : decide (ss.length < ss.length) = false := by simp
      have hd' : decide ((ss.length : Int) < (ss.length : Int)) = false := by simp
      have cO := hO.cell (j := 0) (v := .map (some W.heap.size)) rfl
      have cK := Lib.hid (KsU.keys_calls (some W.heap.size) V)
      have cS := KsU.sorted_calls W.heap.size (gm yes (allMap ss)) V hG keyedS (by rw [gm_length]; omega)
      rw [gm_keys] at cS
      change CallsIn Fence.wide 5 Try.prog _ _ _ (fun e w' => ∃ v : Value, e = .returned v ∧ w'.ownsRow _ 9 1 v (allKeys ss).length ((allKeys ss).map encStr) ∧ _) at cS
      have hkl : (allKeys ss).length ≤ 64 * ss.length := by unfold allKeys; rw [List.length_map]; exact hml
      obtain ⟨ks, hks⟩ : ∃ ks, ks = allKeys ss := ⟨_, rfl⟩
      simp only [← hks] at hY
      rw [← hks] at cS hkl
      have HKS := Lib.hid hks
      clear hks
      have CS := Lib.hid cS
      have HDS := Lib.hid hds
      have HND := Lib.hid hnd
      have HBV := Lib.hid hBV
      have hJV : J [] V := hJ _ _ _ none h0 (only_of_below hBV none) (fun r e => by cases e)
      clear cS hds hnd hBV hO hG HSL HPS hk hlt h hbs
      gi_wp2_with (first
        | (refine ⟨trivial, (fun _ => by omega), ?_⟩; gi_at_call 28; refine (callsIn_wide.2 (callsIn_wide.1 cK.out)).mono ?_; rintro e W' ⟨rfl, rfl⟩)
        | (refine ⟨trivial, (fun _ => by omega), ?_⟩; gi_at_call 27; refine (callsIn_wide.2 (callsIn_wide.1 CS.out)).mono ?_; rintro e W1 ⟨kv, rfl, hkv, hb1⟩; obtain ⟨Ak, ck, rfl, -⟩ := (Sl.of_own hkv).at_))
      have hal := (Below.refl V.heap.size V).alloc (Nat.le_refl _) (.cells #[.map (some W.heap.size)] 66)
      have hb01 : Below V.heap.size V W1 := hal.trans (hb1.mono hal.size)
      have hs01 := hb01.size
      have hJ1 : J [] W1 := hJ _ _ _ none hJV (only_of_below hb01 none) (fun r e => by cases e)
      have hK1 : Sl W1 V.heap.size W1.heap.size 1 (.slice Ak ks.length ck) ks.length (ks.map encStr) := (Sl.of_own hkv).wide (lo' := V.heap.size) (by simp) (Nat.le_refl _)
      have hD1 : ∀ D ∈ ds, W.heap.size ≤ D ∧ W1.heap[D]? = some (.deferred (some [])) := fun D hD => ⟨(HDS.out D hD).1, (hb01.block D (Array.getElem?_eq_some_iff.1 (HDS.out D hD).2).1).trans (HDS.out D hD).2⟩
      have HXL := Lib.hid (fun i (hi : X i) => Nat.lt_of_lt_of_le (hxl i hi) hW.size)
      have hOW1 : ∀ g, own W1 ob = some g → g < W.heap.size ∨ W1.heap.size ≤ g := fun g hg => .inl (by
        have h1 := own_same ((HBV.out.trans (hb01.mono HBV.out.size)).block ob (by have := hW.size; omega))
        have h2 := own_same (hW.block ob hob)
        rw [h1, h2] at hg
        have := how g hg
        have := hW.size
        omega)
      have HDL := Lib.hid (fun D (hD : D ∈ ds) => (Array.getElem?_eq_some_iff.1 (hD1 D hD).2).1)
      have HHJ := Lib.hid hJ
      have HHJx := Lib.hid hJx
      have hVW := HBV.out.size
      clear hkv hal hb1 cK CS cO hxl hJ hJx hJV h0 HDS hb01
      gi_loopw [8, 26] (fun _ i wr => ∃ k : Nat, k ≤ ks.length ∧ i = .int .i64 k ∧ J (ks.take k) wr ∧ Sl wr V.heap.size W1.heap.size 1 (.slice Ak ks.length ck) ks.length (ks.map encStr) ∧ W1.heap.size ≤ wr.heap.size ∧ (∀ D ∈ ds, W.heap.size ≤ D ∧ wr.heap[D]? = some (.deferred (some []))) ∧ (∀ g, own wr ob = some g → g < W.heap.size ∨ W1.heap.size ≤ g)) (fun _ i _ => ks.length - (intOf i).toNat)
      case atStart => exact ⟨0, by omega, rfl, hJ1, hK1, Nat.le_refl _, hD1, hOW1⟩
      case round =>
        obtain ⟨k, hk, rfl, hJr, hKr, hsr, hDr, hOr⟩ := hrel
        clear hJ1 hK1 hD1 hOW1
        have HOR := Lib.hid hOr
        clear hOr
        have HDR := Lib.hid hDr
        clear hDr
        by_cases hlt : k < ks.length
        · obtain ⟨A', c', he, _, _, h3⟩ := hKr.at_
          cases he
          obtain ⟨kb, ko, hA, hk1, hk2, hck0⟩ := h3 (by omega)
          have hck := (hck0 k (by omega)).trans (show (ks.map encStr)[k]? = some (encStr ks[k]) by rw [List.getElem?_map, List.getElem?_eq_getElem hlt]; rfl)
          have hd : decide (k < ks.length) = true := by simpa using hlt
          have hlen3 : ks.take k ++ [ks[k]] <+: ks := by
            rw [← List.take_succ_eq_append_getElem hlt]
            exact List.take_prefix _ _
          have HTk := Lib.hid (show ks.take (k + 1) = ks.take k ++ [ks[k]] from List.take_succ_eq_append_getElem hlt)
          have HKr := Lib.hid hKr
          have HY := Lib.hid (hY (ks.take k) ks[k] (encStr ks[k]) wr hJr hlen3 rfl)
          clear hKr hJr hlen3 hY hck0 h3
          generalize ks[k] = kv at *
          subst hA
          gi_wp2
          obtain ⟨fn, tmps, assign, body, hy, hR⟩ := HY.out
          rw [show Sem.run _ _ _ = _ from hy]
          gi_wp2
          refine ⟨(fun _ => by omega), hR.mono ?_⟩
          rintro e W4 (⟨rfl, hJ4, hk4⟩ | ⟨rfl, hJx4, hkf⟩)
          · rw [← HTk.out] at hJ4
            have hD4 := Lib.hid (show ∀ D ∈ ds, W.heap.size ≤ D ∧ W4.heap[D]? = some (.deferred (some [])) from fun D hD => ⟨(HDR.out D hD).1, hk4.same D _ (HDR.out D hD).2 (fun hx => by have := HXL.out D hx; have := (HDR.out D hD).1; omega) (fun e => by have := HOR.out D e; have := (HDR.out D hD).1; have := HDL.out D hD; omega) (fun r e => by cases e)⟩)
            gi_wp2
            go_roundw
            case rel => exact ⟨k + 1, by omega, by go_num, hJ4, hk4.sl HKr.out (fun i h1 h2 => ⟨fun hx => by have := HXL.out i hx; omega, fun e => by have := HOR.out i e; omega⟩), by have := hk4.size; omega, hD4.out, fun g hg => by
              rcases hk4.next g hg with h5 | h5
              · exact HOR.out g h5
              · exact .inr (by omega)⟩
            case measure => simp [intOf]; omega
          · rw [← HTk.out] at hJx4
            have hD4 : ∀ D ∈ ds, W.heap.size ≤ D ∧ W4.heap[D]? = some (.deferred (some [])) := fun D hD => ⟨(HDR.out D hD).1, hkf.same D _ (HDR.out D hD).1 (HDR.out D hD).2 rfl⟩
            have hpre : ks.take (k + 1) <+: allKeys ss := by rw [← HKS.out]; exact List.take_prefix _ _
            gi_wp2
            refine leaves_coll (Jx (ks.take (k + 1))) W.heap.size (fun A D hA hD hE => HHJx.out.putObj _ hA hD hE rfl) (fun A hA => ⟨_, results_none rfl _ _ _, ⟨_, rfl⟩, .inr ⟨_, hpre, hA⟩⟩) ds _ HND.out hD4 hJx4
        · obtain rfl : k = ks.length := by omega
          have hd : decide (ks.length < ks.length) = false := by simp
          rw [List.take_length] at hJr
          gi_wp2
          refine leaves_coll (J ks) W.heap.size (fun A D hA hD hE => HHJ.out.putObj _ hA hD hE rfl) (fun A hA => ⟨_, results_none rfl _ _ _, ⟨_, rfl⟩, .inl ⟨_, HKS.out, hA⟩⟩) ds _ HND.out HDR.out hJr
end Sk
end Go.Proofs.Ytlhpdalfnjhokaa

namespace Go.Proofs.Ytlhpdalfnjhokaa
open Go.RowKit
namespace Pi
open Pu
section
variable {P : Program} {ops : Array Oper} {Q : Exit → Act → World → Prop} {md : Region.Mode} {l n : Nat}
/-- ends normally, and so -/
structure OnlyN (Q : Exit → Act → World → Prop) (e : Exit) (a : Act) (w : World) : Prop where
  e : e = .normal
  q : Q .normal a w
theorem OnlyN.out {a : Act} {w : World} (h : Q .normal a w) : OnlyN Q .normal a w := ⟨rfl, h⟩
theorem no_out : ¬ LetsOut (OnlyN Q) := fun ⟨_, _, h⟩ => by cases h.e
theorem op_in {o : Oper} {a : Act} {w : World} {K : Act → World → Prop} (hnd : ∀ c, o.op ≠ .defer c) (h : o.wp P a w K (OnlyN Q) ∨ (o.asks P a w ∧ LetsOut (OnlyN Q))) : o.wpIn (Fence.wide.inRound l) n P a w K (OnlyN Q) := by
  rcases h with h | ⟨_, h⟩
  case inr => exact (no_out h).elim
  refine ⟨fun _ _ => trivial, ?_⟩
  rw [Oper.semAt_eq _ _ _ hnd]
  unfold Oper.wp at h
  generalize (execOp a.eval o).run P w = r at *
  cases r with
  | ok x w' =>
    cases x <;> simp only [Oper.upon] at h <;> simp only [Oper.uponIn]
    case value v => exact h
    case skip => exact h
    case defer d => exact h
    case enter f args => exact ⟨(fun hh => by cases hh), (callsIn_wide (n := n - 1)).2 h⟩
    case row row args =>
      refine ⟨(fun hh => by cases hh), fun c cs _ => ?_⟩
      obtain ⟨v, w', r, s⟩ := h c cs
      exact ⟨v, w', r, stepsIn_wide.2 s⟩
  | halt x w' =>
    cases x <;> simp only [Oper.upon] at h
    case panic u => cases h.e
theorem any_in (hnd : ∀ (i : Nat) (o : Oper), ops[i]? = some o → ∀ c, o.op ≠ .defer c) : ∀ (m : Nat) (listed : Array Bool) (a : Act) (w : World), wpAny P md ops (OnlyN Q) m listed a w → wpAnyIn (Fence.wide.inRound l) n P md ops (OnlyN Q) m listed a w := by
  intro m
  induction m with
  | zero => exact fun _ _ _ h => h
  | succ m ih =>
    intro listed a w h
    refine ⟨h.1, fun i hi => ?_⟩
    have h1 := h.2 i hi
    unfold wpOp at h1
    unfold wpOpIn
    cases ho : ops[i]? with
    | none =>
      rw [ho] at h1
      exact ih _ _ _ h1
    | some o =>
      rw [ho] at h1
      dsimp only at h1 ⊢
      split
      · rename_i hw
        rw [if_pos hw] at h1
        refine op_in (hnd i o ho) ?_
        rcases h1 with h1 | h1
        · exact .inl (Oper.wp_mono (fun a w h => ih _ _ _ h) h1)
        · exact .inr h1
      · rename_i hw
        rw [if_neg hw] at h1
        exact ⟨fun _ _ => trivial, ih _ _ _ h1⟩
def noDefer (ops : Array Oper) : Bool := ops.toList.all fun o => match o.op with | .defer _ => false | _ => true
theorem noDefer_at (h : noDefer ops = true) (i : Nat) (o : Oper) (ho : ops[i]? = some o) (c : Call) : o.op ≠ .defer c := by
  intro e
  have := List.all_eq_true.1 h o (by rw [Array.getElem?_eq_some_iff] at ho; obtain ⟨hi, rfl⟩ := ho; simp)
  rw [e] at this
  cases this
theorem regionIn {id : Nat} {a : Act} {w : World} (ord : List (Nat × Bool)) (B : World → Prop) (hm : P.follows .mixedOrders = true) (hf : fine .any ops = true) (hok : okM .any ops ord = true) (hwh : whole ops ord = true) (hd : noDefer ops = true) (hB : B w.drew)
    {l' : List (Oper × Bool)} (hl : named ops ord = l') (hs : WalkM P ops (OnlyN Q) l' a B (fun W => W = w.drew)) : (Code.region id ops true).wpIn (Fence.wide.inRound l) n P Q a w := by
  subst hl
  refine Go.wpIn_mono (Q := OnlyN Q) ?_ fun e a w h => by rw [h.e]; exact h.q
  refine wpIn_region_any hm (any_in (noDefer_at hd) _ _ _ _ ?_)
  have h := run_made (md := .any) (P := P) (Q := OnlyN Q) rfl hf ops.size (List.range ops.size) (Array.replicate ops.size false) a a w.drew B (fun W => W = w.drew) ord [] (by simp) (by simp) List.nodup_range (fun j => ?_) (fun j hj => ?_) (fun p hp => ?_) ⟨rfl, rfl, fun _ _ => rfl⟩ rfl
    ⟨fun W h => h ▸ hB, (fun i hi => nomatch hi), (fun i hi => nomatch hi), (fun i hi => nomatch hi), (fun i hi => nomatch hi), hok, hs.go⟩
  · exact h
  · rw [List.mem_range]
    by_cases h : j < ops.size
    · simp [h]
    · simp [h]
  · right
    have hjs : j < ops.size := by
      rcases Nat.lt_or_ge j ops.size with h | h
      · exact h
      · simp [h] at hj
    have := List.all_eq_true.1 hwh j (List.mem_range.2 hjs)
    obtain ⟨p, hp, hpj⟩ := List.any_eq_true.1 this
    exact ⟨p, hp, by simpa using hpj⟩
  · have hlt : p.1 < ops.size := by
      clear hs hwh
      induction ord with
      | nil => cases hp
      | cons q r ih =>
        obtain ⟨o, ho, _, _, _, _, _, g6⟩ := okM_cons (i := q.1) (b := q.2) hok
        rcases List.mem_cons.1 hp with rfl | hp
        · exact (Array.getElem?_eq_some_iff.1 ho).1
        · exact ih g6 hp
    simp [hlt]
end
end Pi
end Go.Proofs.Ytlhpdalfnjhokaa

namespace Go.Proofs.Ytlhpdalfnjhokaa
open Go.RowKit
namespace It
theorem toAt {w : World} {lo : Nat} {v : Value} {l : List Item} (h : w.ownsRow lo 64 2 v l.length (itemCells l)) : ItemsAt w 0 w.heap.size v l := (ItemsAt.of_own h).wide (Nat.zero_le _) (Nat.le_refl _)
theorem same_true {l : List Item} : decide (l = l) = true := by simp
end It
end Go.Proofs.Ytlhpdalfnjhokaa

namespace Go.Proofs.Ytlhpdalfnjhokaa
open Go.RowKit Go.Maps
namespace Sk
open It Al Kp
attribute [local go_sem] Oper.semAt_some
theorem ggoods_calls (v : Value) (hv : v.oneCell' = true) (w : World) :
    Calls Try.prog 15 #[v] w fun e w' => e = .returned (.func (.func 25) #[] #[.pointer (some ⟨w.heap.size, 0, none⟩)]) ∧ w' = w.alloc (.cells #[v] 33) := by
  have hmf : ∀ (fn : Fn) (first cap : Array Value) (w : World), (Instr.makeFunc fn first cap).run Try.prog w = .ok (.func fn first cap) w := fun _ _ _ _ => rfl
  go_enter Try.func15, Try.ntmps15
  go_wp2
  go_ret
  exact ⟨rfl, rfl⟩
/-- a good's total, as cells -/
def totL (ss : List Stk) (g : Key) : List Value := (totC ⟨g.toArray⟩ (totR ss g) (wayT (totR ss g))).toList
theorem totL_len (ss : List Stk) (g : Key) : (totL ss g).length = 13 := rfl
theorem totL_one (ss : List Stk) (ks : List Key) : ∀ y ∈ ks.flatMap (totL ss), y.oneCell' = true := by
  intro y hy
  obtain ⟨k, -, hk⟩ := List.mem_flatMap.1 hy
  unfold totL totC at hk
  simp only [List.mem_cons, List.not_mem_nil, or_false] at hk
  rcases hk with rfl | rfl | rfl | rfl | rfl | rfl | rfl | rfl | rfl | rfl | rfl | rfl | rfl <;> rfl
theorem flat_len (ss : List Stk) (ks : List Key) : (ks.flatMap (totL ss)).length = ks.length * 13 := by
  induction ks with
  | nil => rfl
  | cons k r ih => rw [List.flatMap_cons, List.length_append, totL_len, ih, List.length_cons]; omega
theorem flat_get (ss : List Stk) : ∀ (ks : List Key) (j : Nat) (hj : j < ks.length) (i : Nat), i < 13 → (ks.flatMap (totL ss))[j * 13 + i]? = (totL ss ks[j])[i]?
  | [], j, hj, _, _ => absurd hj (by simp)
  | k :: r, 0, _, i, hi => by
    rw [List.flatMap_cons, List.getElem?_append_left (by rw [totL_len]; omega)]
    simp
  | k :: r, j + 1, hj, i, hi => by
    rw [List.flatMap_cons, List.getElem?_append_right (by rw [totL_len]; omega), totL_len]
    rw [show (j + 1) * 13 + i - 13 = j * 13 + i by omega, List.getElem_cons_succ]
    exact flat_get ss r j (by simpa using hj) i hi
theorem KpO.append {X : Nat → Prop} {ob : Nat} {A B : World} {t : TypeId} {u u' : Value} (hA : Ob A ob t #[u]) (hg : A.grownBy B u.ownBlock) (hat : u'.ownBlock = u.ownBlock ∨ u'.ownBlock = some A.heap.size) (hne : u.ownBlock ≠ some ob) (hX : X ob) : KpO X ob A (B.setCell ⟨ob, 0, none⟩ u') := by
  have hB := hA.kept hg (fun e => hne e.symm)
  have h2 := grownBy_set B ob 0 u'
  have hO : own (B.setCell ⟨ob, 0, none⟩ u') ob = u'.ownBlock := own_of (t := t) (hB.set 0 u')
  refine ⟨Nat.le_trans hg.size h2.size, fun b o hb hx ho _ => ?_, fun g hgo => ?_⟩
  · rw [own_of hA] at ho
    have hb1 := (hg.block b (Array.getElem?_eq_some_iff.1 hb).1 (fun e => ho e.symm)).trans hb
    exact (h2.block b (Array.getElem?_eq_some_iff.1 hb1).1 (fun e => hx (by have := Option.some.inj e; subst this; exact hX))).trans hb1
  · rw [hO] at hgo
    rw [own_of hA]
    rcases hat with h | h
    · exact .inl (h ▸ hgo)
    · rw [h] at hgo
      exact .inr (Nat.le_of_eq (Option.some.inj hgo))
theorem row_far {w w' : World} {lo b : Nat} {e : TypeId} {size n : Nat} {v : Value} {xs : List Value} (h : w.ownsRow lo e size v n xs) (hg : w.grownBy w' (some b)) (hb : b < lo) : w'.ownsRow lo e size v n xs :=
  h.kept hg (by
    cases hv : v.ownBlock with
    | none => simp
    | some g => have := (h.lt g hv).1; exact .inr (by simp; omega))
theorem row_mono {w : World} {lo lo' : Nat} {e : TypeId} {size n : Nat} {v : Value} {xs : List Value} (h : w.ownsRow lo e size v n xs) (hb : lo' ≤ lo) : w.ownsRow lo' e size v n xs :=
  ⟨h.1, h.2.imp id fun ⟨g, cap, cur, h1, h2, h3⟩ => ⟨g, cap, cur, h1, Nat.le_trans hb h2, h3⟩⟩
theorem rowb {A B : World} {lo : Nat} {e : TypeId} {size n : Nat} {v : Value} {xs : List Value} (h : A.ownsRow lo e size v n xs) (hb : Below A.heap.size A B) : B.ownsRow lo e size v n xs := by
  refine ⟨h.1, h.2.elim Or.inl fun hx => .inr ?_⟩
  revert hx
  rintro ⟨g, cap, cur, rfl, hbg, hg, hnc⟩
  exact ⟨g, cap, cur, rfl, hbg, (hb.block g (Array.getElem?_eq_some_iff.1 hg).1).trans hg, hnc⟩
theorem keeps_row {A B : World} {lo n c : Nat} {e : TypeId} {size : Nat} {u : Value} {xs : List Value} (h : A.ownsRow lo e size u n xs) (hg : A.grownBy B u.ownBlock) : KeepsFrom c A B := by
  refine ⟨hg.size, fun k o _ hk ho => (hg.block k (Array.getElem?_eq_some_iff.1 hk).1 (fun e2 => ?_)).trans hk⟩
  rcases h.2 with ⟨rfl, _⟩ | ⟨g', cap, cur, rfl, _, hg', _⟩
  · simp [Value.ownBlock] at e2
  · simp [Value.ownBlock] at e2
    subst e2
    rw [hg'] at hk
    cases hk
    cases ho
theorem allKeys_mem : ∀ (ss : List Stk) (k : Key), k ∈ allKeys ss → ∃ s ∈ ss, k ∈ keysS s := by
  have hput : ∀ (ks : List Key) (m : List (Key × Unit)) (k : Key), k ∈ (putKeys m ks).map (·.1) → k ∈ ks ∨ k ∈ m.map (·.1) := by
    intro ks
    induction ks with
    | nil => exact fun m k h => .inr h
    | cons x r ih =>
      intro m k h
      rcases ih (aPut strK m x ()) k h with h | h
      · exact .inl (List.mem_cons_of_mem _ h)
      · obtain ⟨q, hq, rfl⟩ := List.mem_map.1 h
        rcases aPut_mem.1 hq with rfl | ⟨h1, -⟩
        · exact .inl (by simp)
        · exact .inr (List.mem_map.2 ⟨q, h1, rfl⟩)
  have hall : ∀ (ss : List Stk) (m : List (Key × Unit)) (k : Key), k ∈ (ss.foldl (fun m s => putKeys m (keysS s)) m).map (·.1) → (∃ s ∈ ss, k ∈ keysS s) ∨ k ∈ m.map (·.1) := by
    intro ss
    induction ss with
    | nil => exact fun m k h => .inr h
    | cons s r ih =>
      intro m k h
      rcases ih _ k h with ⟨s', h1, h2⟩ | h
      · exact .inl ⟨s', List.mem_cons_of_mem _ h1, h2⟩
      · rcases hput _ _ k h with h | h
        · exact .inl ⟨s, by simp, h⟩
        · exact .inr h
  intro ss k h
  rcases hall ss [] k h with h | h
  · exact h
  · cases h
theorem StsAt.keys {w : World} {base : Nat} {v : Value} {ss : List Stk} (h : StsAt w base v ss) : (∀ k ∈ allKeys ss, k.length ≤ maxLen) ∧ (allKeys ss).length ≤ 64 * ss.length := by
  obtain ⟨ps, -, -, h3⟩ := h.at_
  have hs : ∀ s ∈ ss, (∀ k ∈ keysS s, k.length ≤ maxLen) ∧ (keysS s).length ≤ 64 := fun s hs => by
    obtain ⟨i, hi, rfl⟩ := List.getElem_of_mem hs
    obtain ⟨p, -, hp⟩ := h3 i hi
    exact ⟨hp.keys.1, hp.keys.2.1⟩
  refine ⟨fun k hk => ?_, ?_⟩
  · obtain ⟨s, h1, h2⟩ := allKeys_mem ss k hk
    exact (hs s h1).1 k h2
  · have : ∀ (ss : List Stk) (m : List (Key × Unit)), (∀ s ∈ ss, (keysS s).length ≤ 64) → (ss.foldl (fun m s => putKeys m (keysS s)) m).length ≤ m.length + 64 * ss.length := by
      intro ss
      induction ss with
      | nil => intro m _; simp
      | cons s r ih =>
        intro m hk
        have h1 := ih (putKeys m (keysS s)) (fun s' hs' => hk s' (List.mem_cons_of_mem _ hs'))
        have h2 := putKeys_len (keysS s) m
        have h3 := hk s (by simp)
        simp only [List.foldl_cons, List.length_cons]
        omega
    have := this ss [] (fun s h => (hs s h).2)
    unfold allKeys allMap
    rw [List.length_map]
    simpa using this
theorem total_info : (Try.prog.info? 27).map (fun i => (i.zero, i.size, i.bytes)) = some (some (.agg #[.string ⟨#[]⟩, .int .i64 0, .int .i64 0, .int .i64 0, .int .i64 0, .int .i64 0, .int .i64 0, .int .i64 0, .int .i64 0, .int .i64 0, .int .i64 0, .int .i64 0, .int .i64 0]), 13, 112) := by kernel_rfl
set_option maxRecDepth 100000 in
set_option maxHeartbeats 8000000 in
theorem totals_calls (ss : List Stk) (v : Value) (w : World) (base : Nat) (h : StsAt w base v ss) (hl : ss.length ≤ 1000) :
    Calls Try.prog 17 #[v] w fun e w' => (∃ u, e = .returned u ∧ w'.ownsRow w.heap.size 27 13 u (allKeys ss).length ((allKeys ss).flatMap (totL ss))) ∧ Below w.heap.size w w' := by
  obtain ⟨ps, hpl, hsl, hps⟩ := h.at_
  obtain ⟨A, c, rfl, hc1, hc2, -⟩ := hsl.at_
  clear hsl hps hpl
  refine (callsIn_wide (n := 6)).1 ?_
  refine callsIn_of_wp_marks Try.func17 rfl trivial ?_ rfl
  simp only [Try.ntmps17, List.size_toArray, List.length_cons, List.length_nil, Nat.reduceAdd, Nat.reduceSub, Array.replicate_succ, Array.replicate_zero, List.push_toArray, List.append_toArray, List.nil_append, List.cons_append]
  gi_wp2_with (refine ⟨trivial, ?_⟩; gi_at_call 15; refine (callsIn_wide.2 (ggoods_calls _ rfl _)).mono ?_; rintro e w' ⟨rfl, rfl⟩)
  --RANGE
  have hB3 : Below w.heap.size w (((w.alloc (.cells #[.slice A ss.length c] 33)).alloc (.cells #[.slice none 0 0] 38)).alloc (.cells #[.slice A ss.length c] 33)) := (((Below.refl _ w).alloc (Nat.le_refl _) _).alloc (by simp) _).alloc (by simp; omega) _
  have b0 := ((Ob.new w 33 #[.slice A ss.length c]).alloc (.cells #[.slice none 0 0] 38)).alloc (.cells #[.slice A ss.length c] 33)
  have b1 := (Ob.new (w.alloc (.cells #[.slice A ss.length c] 33)) 38 #[.slice none 0 0]).alloc (.cells #[.slice A ss.length c] 33)
  have b2 := Ob.new ((w.alloc (.cells #[.slice A ss.length c] 33)).alloc (.cells #[.slice none 0 0] 38)) 33 #[.slice A ss.length c]
  simp only [World.size_alloc] at b1 b2
  have hs3 : (((w.alloc (.cells #[.slice A ss.length c] 33)).alloc (.cells #[.slice none 0 0] 38)).alloc (.cells #[.slice A ss.length c] 33)).heap.size = w.heap.size + 3 := by simp
  generalize (((w.alloc (.cells #[.slice A ss.length c] 33)).alloc (.cells #[.slice none 0 0] 38)).alloc (.cells #[.slice A ss.length c] 33)) = w3 at *
  have hM := h.same hB3
  obtain ⟨hkeys, hkn⟩ := h.keys
  have HH := Lib.hid h
  have HB3 := Lib.hid hB3
  have HKS := Lib.hid hkeys
  have HKN := Lib.hid hkn
  clear h hB3 hkeys
  refine Ro.range_reads (n := 6) rfl (by omega) (gf := 25) rfl trivial (enters_of Try.func25 (by kernel_rfl) rfl)
    (greads 5 (by omega) (w.heap.size + 1 + 1) (w.heap.size + 1) (fun i => i = w.heap.size + 1) hM (by omega) b2 (fun i hi => by omega) (by omega) (fun g hg => by rw [own_of b1] at hg; cases hg)) (Below.refl _ _) (fun h k => h.trans k) (fun W l r r' _ h => KpO.loop h) rfl
    (fun pre V => ∃ u, Ob V w.heap.size 33 #[.slice A ss.length c] ∧ Ob V (w.heap.size + 1) 38 #[u] ∧ V.ownsRow (w.heap.size + 3) 27 13 u pre.length (pre.flatMap (totL ss)) ∧ Below w.heap.size w V ∧ w.heap.size + 3 ≤ V.heap.size)
    (fun c pre V => False)
    (fun s A B row hs hg hr => by
      obtain ⟨u, h1, h2, h3, h4, h5⟩ := hs
      exact ⟨u, ob_keep h1 hg (fun r e => (hr r e).2), ob_keep h2 hg (fun r e => (hr r e).2), row_keep h3 hg (fun r e => (hr r e).2), h4.grown hg (by omega) (fun k e => by have := (hr k e).1; omega), by have := hg.size; omega⟩)
    (fun c s A B row hs hg hr => hs.elim)
    ⟨.slice none 0 0, b0, b1, World.ownsRow_nil _ _ _ _, HB3.out, by omega⟩ ?round ?done ?stop
  case stop => exact fun D c pre X _ _ h _ => h.elim
  case round =>
    rintro l pre dd v V hl ⟨u, i0, i1, i2, i3, i4⟩ hpre rfl
    have hdm : dd ∈ allKeys ss := by
      obtain ⟨r, hr⟩ := hpre
      rw [← hr]
      simp
    have hdl := HKS.out dd hdm
    have hpl : pre.length < 64 * ss.length := by
      obtain ⟨r, hr⟩ := hpre
      have := congrArg List.length hr
      simp only [List.length_append, List.length_cons, List.length_nil] at this
      have := HKN.out
      omega
    have HFL := Lib.hid (show (pre ++ [dd]).flatMap (totL ss) = pre.flatMap (totL ss) ++ totL ss dd by rw [List.flatMap_append]; simp)
    have HPL := Lib.hid (show (pre ++ [dd]).length = pre.length + 1 by simp)
    clear hpre hdm
    gi_wp2
    refine ⟨keeps_below _ (Below.refl _ V), KpO.refl _ _ _, fun V2 hg2 ho2 => ?_⟩
    replace i0 := ob_keep i0 hg2 (fun r e => by cases e; exact ho2)
    replace i1 := ob_keep i1 hg2 (fun r e => by cases e; exact ho2)
    replace i2 := row_keep i2 hg2 (fun r e => by cases e; exact ho2)
    replace i3 := i3.grown hg2 (by omega) (fun k e => by have := Option.some.inj e; omega)
    replace i4 : w.heap.size + 3 ≤ V2.heap.size := by have := hg2.size; omega
    clear hg2 ho2
    have hSt := HH.out.same i3.drew
    have cT := total_calls ss ⟨dd.toArray⟩ (by show dd.toArray.size ≤ maxLen; simpa using hdl) (.slice A ss.length c) V2.drew base hSt
    have HTL := Lib.hid (show totL ss dd = (totC ⟨dd.toArray⟩ (totR ss dd) (wayT (totR ss dd))).toList from rfl)
    have hTV : totV ⟨dd.toArray⟩ ss = .agg (totC ⟨dd.toArray⟩ (totR ss dd) (wayT (totR ss dd))) := by unfold totV; simp
    rw [hTV] at cT
    have hro := totR_ok ss dd
    generalize totR ss dd = rr at *
    obtain ⟨a0, a1, a2, a3, a4, a5, a6, a7, a8, a9, a10, rfl⟩ := row_eleven hro
    generalize wayT [a0, a1, a2, a3, a4, a5, a6, a7, a8, a9, a10] = wy at *
    have CT := Lib.hid (show Calls Try.prog 16 #[.slice A ss.length c, encStr dd] V2.drew fun e w' => e = .returned (.agg #[.string ⟨dd.toArray⟩, .int .i64 a0, .int .i64 a1, .int .i64 a2, .int .i64 a3, .int .i64 a4, .int .i64 a5, .int .i64 a6, .int .i64 a7, .int .i64 a8, .int .i64 a9, .int .i64 a10, .int .i64 wy]) ∧ Below V2.drew.heap.size V2.drew w' from cT)
    have HTL2 := Lib.hid (show totL ss dd = [.string ⟨dd.toArray⟩, .int .i64 a0, .int .i64 a1, .int .i64 a2, .int .i64 a3, .int .i64 a4, .int .i64 a5, .int .i64 a6, .int .i64 a7, .int .i64 a8, .int .i64 a9, .int .i64 a10, .int .i64 wy] from HTL.out)
    clear cT hTV hro hSt hdl
    gi_wp2
    refine Pi.regionIn [(0, false), (1, false), (2, false), (3, true), (4, true), (5, true), (6, true)] (fun V => Ob V w.heap.size 33 #[.slice A ss.length c] ∧ Ob V (w.heap.size + 1) 38 #[u]) hmx (by kernel_rfl) (by kernel_rfl) (by kernel_rfl) (by kernel_rfl) ⟨i0, i1⟩ rfl ?_
    simp only [Pu.named, List.filterMap_cons, List.filterMap_nil, List.getElem?_toArray, List.getElem?_cons_succ, List.getElem?_cons_zero, Option.map_some]
    iterate 3 (first
      | (refine Pu.WalkM.off (by rfl) ?_; simp only [Act.put, List.setIfInBounds_toArray, List.set_cons_succ, List.set_cons_zero])
      | (apply Pu.WalkM.on (by rfl)
         · intro V hV
           obtain ⟨k0, k1⟩ := hV
           have z0 := k0.cell (j := 0) (v := .slice A ss.length c) rfl
           have z1 := k1.cell (j := 0) (v := u) rfl
           go_wp2_with fail
           refine ⟨rfl, ?_, rfl⟩
           try simp only [Act.put, List.setIfInBounds_toArray, List.set_cons_succ, List.set_cons_zero]
           rfl
         simp only [Act.put, List.setIfInBounds_toArray, List.set_cons_succ, List.set_cons_zero]))
    have hD0 : Below V2.drew.heap.size V2 V2.drew := (Below.refl _ V2).drew
    have j0 : Ob V2.drew w.heap.size 33 #[.slice A ss.length c] := i0
    have j1 : Ob V2.drew (w.heap.size + 1) 38 #[u] := i1
    have j2 : V2.drew.ownsRow (w.heap.size + 3) 27 13 u pre.length (pre.flatMap (totL ss)) := i2
    have hds : V2.drew.heap.size = V2.heap.size := rfl
    have HV2 := Lib.hid i3
    clear i0 i1 i2 i3
    generalize hWD : V2.drew = WD at *
    clear hWD
    refine Pu.WalkM.make (by rfl) ?_
    intro V hV
    rw [hV]
    clear hV V
    go_wp2_with (go_at_call 16; refine CT.out.mono ?_; rintro e W3 ⟨rfl, hb3⟩)
    have l0 := j0.same hb3
    have l1 := j1.same hb3
    have l2 := rowb j2 hb3
    have HB3' := Lib.hid hb3
    have hs3' := hb3.size
    clear hb3 j0 j1 j2
    refine ⟨rfl, .agg #[.string ⟨dd.toArray⟩, .int .i64 a0, .int .i64 a1, .int .i64 a2, .int .i64 a3, .int .i64 a4, .int .i64 a5, .int .i64 a6, .int .i64 a7, .int .i64 a8, .int .i64 a9, .int .i64 a10, .int .i64 wy], (fun V => Ob V w.heap.size 33 #[.slice A ss.length c] ∧ Ob V (w.heap.size + 1) 38 #[u]), (fun V => V = W3), ?_, rfl, (fun V h => by rw [h]; exact ⟨l0, l1⟩), (.inr (fun _ h => h)), ?_⟩
    · try simp only [Act.put, List.setIfInBounds_toArray, List.set_cons_succ, List.set_cons_zero]
    try simp only [Act.put, List.setIfInBounds_toArray, List.set_cons_succ, List.set_cons_zero]
    refine Pu.WalkM.make (by rfl) ?_
    intro V hV
    rw [hV]
    clear hV V
    go_wp2_with fail
    have hal4 := (Below.refl W3.heap.size W3).alloc (Nat.le_refl _) (.cells #[.string ⟨dd.toArray⟩, .int .i64 a0, .int .i64 a1, .int .i64 a2, .int .i64 a3, .int .i64 a4, .int .i64 a5, .int .i64 a6, .int .i64 a7, .int .i64 a8, .int .i64 a9, .int .i64 a10, .int .i64 wy] 27)
    have m0 := l0.alloc (.cells #[.string ⟨dd.toArray⟩, .int .i64 a0, .int .i64 a1, .int .i64 a2, .int .i64 a3, .int .i64 a4, .int .i64 a5, .int .i64 a6, .int .i64 a7, .int .i64 a8, .int .i64 a9, .int .i64 a10, .int .i64 wy] 27)
    have m1 := l1.alloc (.cells #[.string ⟨dd.toArray⟩, .int .i64 a0, .int .i64 a1, .int .i64 a2, .int .i64 a3, .int .i64 a4, .int .i64 a5, .int .i64 a6, .int .i64 a7, .int .i64 a8, .int .i64 a9, .int .i64 a10, .int .i64 wy] 27)
    have m2 := l2.alloc (.cells #[.string ⟨dd.toArray⟩, .int .i64 a0, .int .i64 a1, .int .i64 a2, .int .i64 a3, .int .i64 a4, .int .i64 a5, .int .i64 a6, .int .i64 a7, .int .i64 a8, .int .i64 a9, .int .i64 a10, .int .i64 wy] 27)
    have hsl := Sl.new W3 #[.string ⟨dd.toArray⟩, .int .i64 a0, .int .i64 a1, .int .i64 a2, .int .i64 a3, .int .i64 a4, .int .i64 a5, .int .i64 a6, .int .i64 a7, .int .i64 a8, .int .i64 a9, .int .i64 a10, .int .i64 wy] 27 (n := 1) (size := 13) rfl (by unfold maxLen; omega)
    have hs4 : (W3.alloc (.cells #[.string ⟨dd.toArray⟩, .int .i64 a0, .int .i64 a1, .int .i64 a2, .int .i64 a3, .int .i64 a4, .int .i64 a5, .int .i64 a6, .int .i64 a7, .int .i64 a8, .int .i64 a9, .int .i64 a10, .int .i64 wy] 27)).heap.size = W3.heap.size + 1 := by simp
    have HB4' := Lib.hid (HB3'.out.trans (hal4.mono hs3'))
    clear l0 l1 l2 hal4
    generalize W3.alloc (.cells #[.string ⟨dd.toArray⟩, .int .i64 a0, .int .i64 a1, .int .i64 a2, .int .i64 a3, .int .i64 a4, .int .i64 a5, .int .i64 a6, .int .i64 a7, .int .i64 a8, .int .i64 a9, .int .i64 a10, .int .i64 wy] 27) = W4 at *
    refine ⟨rfl, .slice (some ⟨W3.heap.size, 0, none⟩) 1 1, (fun V => Ob V w.heap.size 33 #[.slice A ss.length c] ∧ Ob V (w.heap.size + 1) 38 #[u]), (fun V => V = W4), ?_, rfl, (fun V h => by rw [h]; exact ⟨m0, m1⟩), (.inr (fun _ h => h)), ?_⟩
    · try simp only [Act.put, List.setIfInBounds_toArray, List.set_cons_succ, List.set_cons_zero]
    try simp only [Act.put, List.setIfInBounds_toArray, List.set_cons_succ, List.set_cons_zero]
    refine Pu.WalkM.make (by rfl) ?_
    intro V hV
    rw [hV]
    clear hV V
    obtain ⟨ti, hi0, hz0⟩ := Option.map_eq_some_iff.1 total_info
    simp only [Prod.mk.injEq] at hz0
    obtain ⟨hz0, hz1, hz2⟩ := hz0
    go_wp2_with (at_builtin; refine wpList_append_sl _ rfl (.tmp 8) (.tmp 12) _ rfl (w.heap.size + 3) 27 ti _ 13 112 Try.underlying38 hi0 hz0 hz1 hz2 rfl (by omega) u pre.length _ rfl m2 W3.heap.size (W3.heap.size + 1) (.slice (some ⟨W3.heap.size, 0, none⟩) 1 1) 1 [.string ⟨dd.toArray⟩, .int .i64 a0, .int .i64 a1, .int .i64 a2, .int .i64 a3, .int .i64 a4, .int .i64 a5, .int .i64 a6, .int .i64 a7, .int .i64 a8, .int .i64 a9, .int .i64 a10, .int .i64 wy] rfl hsl (by simp [Value.oneCell']) (by unfold maxLen; omega) (by omega) (by omega) ?_; intro u5 W5 hown5 hg5 hat5)
    clear hz0 hz1 hz2 hi0 hsl
    have hub : u.ownBlock ≠ some w.heap.size ∧ u.ownBlock ≠ some (w.heap.size + 1) := ⟨fun e => by have := m2.lt _ e; omega, fun e => by have := m2.lt _ e; omega⟩
    have n0 := m0.kept hg5 (fun e => hub.1 e.symm)
    have n1 := m1.kept hg5 (fun e => hub.2 e.symm)
    have HKO := Lib.hid (KpO.append (X := fun i => i = w.heap.size + 1) m1 hg5 hat5 hub.2 rfl)
    have HKF := Lib.hid (keeps_row (c := w3.heap.size) m2 hg5)
    have HBL := Lib.hid (fun (h : Below w.heap.size w W4) => h.grown hg5 (by omega) (fun k e => by have := m2.lt k e; omega))
    have hs5 := hg5.size
    clear m0 m1 hat5
    obtain ⟨A5, c5, rfl, -⟩ := (Sl.of_own hown5).at_
    refine ⟨rfl, .slice A5 (pre.length + 1) c5, (fun V => Ob V w.heap.size 33 #[.slice A ss.length c] ∧ Ob V (w.heap.size + 1) 38 #[u]), (fun V => V = W5), ?_, rfl, (fun V h => by rw [h]; exact ⟨n0, n1⟩), (.inr (fun _ h => h)), ?_⟩
    · try simp only [Act.put, List.setIfInBounds_toArray, List.set_cons_succ, List.set_cons_zero]
    try simp only [Act.put, List.setIfInBounds_toArray, List.set_cons_succ, List.set_cons_zero]
    refine Pu.WalkM.make (by rfl) ?_
    intro X hX
    rw [hX]
    clear hX X
    have z1 := n1.cell (j := 0) (v := u) rfl
    have f1 := n1.frozen 0
    go_wp2_with fail
    refine ⟨rfl, undef, (fun _ => True), (fun V => V = W5.setCell ⟨w.heap.size + 1, 0, none⟩ (.slice A5 (pre.length + 1) c5)), rfl, rfl, (fun _ _ => trivial), (.inl (by kernel_rfl)), Pu.WalkM.nil ?_⟩
    intro V hV
    rw [hV]
    clear hV V
    have q0 := n0.other (b' := w.heap.size + 1) (by omega) 0 (.slice A5 (pre.length + 1) c5)
    have q1 := n1.set 0 (.slice A5 (pre.length + 1) c5)
    refine Pi.OnlyN.out ?_
    have hb24 : Below V2.heap.size V2 W4 := (hD0.trans HB4'.out).mono (by omega)
    have hK1 := ((keeps_below w3.heap.size hb24).trans HKF.out)
    have hK2 := keeps_set hK1 ⟨w.heap.size + 1, 0, none⟩ (.slice A5 (pre.length + 1) c5)
    have hKO := (KpO.below (X := fun i => i = w.heap.size + 1) hb24 (ob := w.heap.size + 1) (by omega)).trans HKO.out
    have hBw := HBL.out (HV2.out.trans (hb24.mono (by have := HV2.out.size; omega)))
    have hB6 := hBw.grown (grownBy_set W5 (w.heap.size + 1) 0 (.slice A5 (pre.length + 1) c5)) (by omega) (fun k e => by have := Option.some.inj e; omega)
    have hR6 := row_far hown5 (grownBy_set W5 (w.heap.size + 1) 0 (.slice A5 (pre.length + 1) c5)) (by omega)
    have hsz : w.heap.size + 3 ≤ (W5.setCell ⟨w.heap.size + 1, 0, none⟩ (.slice A5 (pre.length + 1) c5)).heap.size := by have := (grownBy_set W5 (w.heap.size + 1) 0 (.slice A5 (pre.length + 1) c5)).size; omega
    rw [← HTL2.out, ← HFL.out] at hR6
    exact ⟨hK2, hKO, .slice A5 (pre.length + 1) c5, q0, q1, by rw [HPL.out]; exact hR6, hB6, hsz⟩
  case done =>
    rintro D xs V hl rfl ⟨u, i0, i1, i2, i3, i4⟩ hK
    have z1 := i1.cell (j := 0) (v := u) rfl
    gi_wp2
    refine ⟨by simp, .inl ⟨_, _, rfl, run_takeDeferred hK, ?_⟩⟩
    have hBF := below_end i3 (by omega) hK
    have hR := row_mono (row_keep i2 (grownBy_putObj' V D (.deferred none)) (fun r e => by cases e; exact ⟨_, hK, rfl⟩)) (lo' := w.heap.size) (by omega)
    refine ⟨u, ?_, ⟨u, rfl, hR⟩, hBF⟩
    simp [results, Try.f17, go_sem]
end Sk
end Go.Proofs.Ytlhpdalfnjhokaa

namespace Go.Proofs.Ytlhpdalfnjhokaa
open Go.RowKit
section
variable {P : Program} {w : World} {ops : Array Oper} {rest : List Oper} {o : Oper} {a : Act} {Q : Exit → Act → World → Prop}
theorem wpList_load_obg (hw : Pu.asks ops.toList o a.tmps.toList = true) (ty : TypeId) (x : Operand) (hop : o.op = .load ty x) {g : Nat} {t : TypeId} {cells : Array Value} (hx : a.eval x = .pointer (some ⟨g, 0, none⟩)) (d : TypeDesc)
    (h : Ob w g t cells) (hu : P.underlying ty = some d) (hd : d.isRow = true) (hi : (P.info? ty).map (·.size) = some cells.size)
    (hK : wpList P ops Q rest (a.put o.dst (.agg cells)) w) : wpList P ops Q (o :: rest) a w := by
  have hrun := load_ob_run (P := P) h hu hd hi
  unfold wpList
  rw [if_pos ((Pu.asks_eq _ _ _).trans hw)]
  left
  unfold Oper.wp
  simp [execOp, hop, hx, hrun, Result.andThen]
  exact hK
theorem wpList_load_midg (hw : Pu.asks ops.toList o a.tmps.toList = true) (ty : TypeId) (x : Operand) (hop : o.op = .load ty x) {b off : Nat} (hx : a.eval x = .pointer (some ⟨b, off, none⟩)) (cs : List Value) (d : TypeDesc)
    (hc : w.rangeAt b off cs) (hu : P.underlying ty = some d) (hd : d.isRow = true) (hi : (P.info? ty).map (·.size) = some cs.length)
    (hK : wpList P ops Q rest (a.put o.dst (.agg cs.toArray)) w) : wpList P ops Q (o :: rest) a w := by
  have hrun := run_loadAt_mid (P := P) w b off ty cs d hc hu hd hi
  unfold wpList
  rw [if_pos ((Pu.asks_eq _ _ _).trans hw)]
  left
  unfold Oper.wp
  simp [execOp, hop, hx, hrun, Result.andThen]
  exact hK
end
end Go.Proofs.Ytlhpdalfnjhokaa
