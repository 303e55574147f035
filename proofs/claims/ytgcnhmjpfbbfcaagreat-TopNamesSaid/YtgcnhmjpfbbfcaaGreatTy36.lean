/-
  part of the proof of TopNames.
-/
import Derived.Test.YtgcnhmjpfbbfcaaGreatTy35
set_option linter.unusedVariables false
set_option linter.unusedSimpArgs false
set_option maxRecDepth 100000
set_option maxHeartbeats 8000000
namespace Go.Proofs.YtgcnhmjpfbbfcaaGreat
namespace Ru
section
open Go.RowKit
section
variable {δ : Type} {F : Fence} {n : Nat} {P : Program}
def Calm {β : Type} (J : β → World → Prop) : Prop := ∀ s A B, J s A → A.grownBy B none → J s B
def LoopFrom {β : Type} (B : Nat) (I : β → World → Prop) : Prop :=
 ∀ s W W' row, I s W → W.grownBy W' row → (∀ r, row = some r → B ≤ r ∧ ∃ o : Obj, W.heap[r]? = some o ∧ o.isCells = false ∧ o.isWalk = false) → I s W'
theorem LoopFrom.alloc {β : Type} {B : Nat} {I : β → World → Prop} (h : LoopFrom B I) {s : β} {W : World} (o : Obj) (hs : I s W) : I s (W.alloc o) :=
 h s W _ none hs (World.grownBy_alloc W o none) (fun r e => by cases e)
theorem LoopFrom.putObj {β : Type} {B : Nat} {I : β → World → Prop} (h : LoopFrom B I) {s : β} {W : World} {l : Nat} {o : Obj} (o' : Obj) (hs : I s W) (hB : B ≤ l) (hl : W.heap[l]? = some o) (ho : o.isCells = false) (hw : o.isWalk = false) : I s (W.putObj l o') :=
 h s W _ (some l) hs (grownBy_putObj' W l o') (fun r e => by cases e; exact ⟨hB, o, hl, ho, hw⟩)
def Reads (F : Fence) (n : Nat) (P : Program) (gf : Nat) (lb : Array Value) (Rd : δ → Array Value → World → Prop) (Kp : World → World → Prop) (S Sp : List δ → Prop) (T : List δ → δ → Prop) (w : World) : Prop :=
 ∀ (l : Nat) (J Jx : List δ → World → Prop) (W : World), Below w.heap.size w W → Calm J → Calm Jx →
   (∀ pre d v W1, J pre W1 → T pre d → Rd d v W1 → YieldAt F (n - 1) P l v W1 fun e W' => (e = .returned (.bool true) ∧ J (pre ++ [d]) W' ∧ Kp W1 W') ∨ (e = .returned (.bool false) ∧ Jx (pre ++ [d]) W')) →
   J [] W →
   CallsIn F n P gf (#[.func (.yield l) #[] #[]] ++ lb) W fun e W' => (∃ v, e = .returned v) ∧ ((∃ xs, S xs ∧ J xs W') ∨ (∃ pre, Sp pre ∧ Jx pre W'))
structure Bk (D l : Nat) (r : Loop) (W : World) : Prop where
 loop : W.heap[l]? = some (.loop r)
 mark : W.heap[D]? = some (.deferred (some []))
theorem Bk.lt {D l : Nat} {r : Loop} {W : World} (h : Bk D l r W) : l < W.heap.size ∧ D < W.heap.size := ⟨(Array.getElem?_eq_some_iff.1 h.loop).1, (Array.getElem?_eq_some_iff.1 h.mark).1⟩
theorem Bk.abide {D l : Nat} {r : Loop} {A B : World} {row : Option Nat} (h : Bk D l r A) (hg : A.grownBy B row) (hr : ∀ k, row = some k → ∃ o : Obj, A.heap[k]? = some o ∧ o.isWalk = true) : Bk D l r B :=
 ⟨(grownBy_keeps hg hr h.loop rfl).trans h.loop, (grownBy_keeps hg hr h.mark rfl).trans h.mark⟩
theorem Bk.keeps {D l B : Nat} {r : Loop} {X Y : World} (h : Bk D l r X) (hk : KeepsFrom B X Y) (hD : B ≤ D) (hl : B ≤ l) : Bk D l r Y :=
 ⟨hk.same _ _ hl h.loop rfl, hk.same _ _ hD h.mark rfl⟩
theorem Bk.turn {D l : Nat} {r : Loop} {W : World} (h : Bk D l r W) (hne : D ≠ l) (r' : Loop) : Bk D l r' (W.putObj l (.loop r')) :=
 ⟨World.putObj_heap_same h.lt.1, (World.putObj_heap_other hne).trans h.mark⟩
def rpost (B : Nat) (Kp : World → World → Prop) (I : List δ → World → Prop) (Ix : Code → List δ → World → Prop) (xs : List δ) (W : World) : Exit → Act → World → Prop
 | .normal, _, W' => KeepsFrom B W W' ∧ Kp W W' ∧ I xs W'
 | .ret, _, W' => KeepsFrom B W W' ∧ Ix .ret xs W'
 | .exit id, _, W' => KeepsFrom B W W' ∧ Ix (.exit id) xs W'
 | .goto t, _, W' => KeepsFrom B W W' ∧ Ix (.goto t) xs W'
 | .panic _, _, _ => False
 | .outgrown, _, _ => False
theorem range_reads {g : Operand} {ps : Array Tmp} {assign body : Code} {Q : Exit → Act → World → Prop} {a : Act} {w : World}
   (hro : F.round = none) (h1 : 1 ≤ n) {gf : Nat} {lb : Array Value} (hg : a.eval g = .func (.func gf) #[] lb) (hFg : F.fn gf) (eg : ∀ args w, (callFunc gf args).run P w = .ok (.enter gf args) w)
   {Rd : δ → Array Value → World → Prop} {Kp : World → World → Prop} {S Sp : List δ → Prop} {T : List δ → δ → Prop} {w0 : World} (hit : Reads F (n - 1) P gf lb Rd Kp S Sp T w0) (hb0 : Below w0.heap.size w0 w)
   (hKt : ∀ {A B C : World}, Kp A B → Kp B C → Kp A C) (hKb : ∀ (W : World) (l : Nat) (r r' : Loop), w.heap.size ≤ l → W.heap[l]? = some (.loop r) → Kp W (W.putObj l (.loop r'))) (hps : ∀ d v W, Rd d v W → v.size = ps.size)
   (I : List δ → World → Prop) (Ix : Code → List δ → World → Prop) (hI : LoopFrom w.heap.size I) (hIx : ∀ c, LoopFrom w.heap.size (Ix c)) (h0 : I [] w)
   (hround : ∀ (l : Nat) (pre : List δ) (d : δ) (v : Array Value) (W : World), w.heap.size ≤ l → I pre W → T pre d → Rd d v W →
     assign.wpIn (F.inRound l) (n - 1 - 1) P (Exit.then (fun a' W' => KeepsFrom w.heap.size W W' ∧ Kp W W' ∧
       ∀ (W2 : World), W'.grownBy W2 (some l) → (∃ o : Obj, W'.heap[l]? = some o ∧ o.isCells = false ∧ o.isWalk = false) → body.wpIn (F.inRound l) (n - 1 - 1) P (rpost w.heap.size Kp I Ix (pre ++ [d]) W2) a' W2) (fun _ _ _ => False))
       { tmps := (ps.zip v).foldl (fun t (p, v) => t.setIfInBounds p v) a.tmps, defers := [] } W)
   (hdone : ∀ (D : Nat) (xs : List δ) (W : World), w.heap.size ≤ D → S xs → I xs W → W.heap[D]? = some (.deferred (some [])) → Q .normal { a with defers := { target := .collected D, args := #[] } :: a.defers } W)
   (hstop : ∀ (D : Nat) (c : Code) (pre : List δ) (W : World), w.heap.size ≤ D → Sp pre → Ix c pre W → W.heap[D]? = some (.deferred (some [])) → c.wpIn F n P Q { a with defers := { target := .collected D, args := #[] } :: a.defers } W) :
   (Code.rangeFunc g ps assign body).wpIn F n P Q a w := by
 refine wpIn_rangeFunc fun fn hfn => ?_
 obtain ⟨mk, hmk⟩ : ∃ mk : LoopState → Option Code → Loop, mk = fun st pe => { state := st, pending := pe, fn := fn, tmps := a.tmps, params := ps, assign := assign, body := body, defers := w.heap.size } := ⟨_, rfl⟩
 obtain ⟨D, hD⟩ : ∃ D, D = w.heap.size := ⟨_, rfl⟩; obtain ⟨V, hV⟩ : ∃ V : World, V = (w.alloc (.deferred (some []))).alloc (.loop (mk .ready none)) := ⟨_, rfl⟩
 have hbk : Bk D (D + 1) (mk .ready none) V := by
   rw [hV, hD]; refine ⟨?_, (Below.heap_alloc _ _ _ (by simp)).trans (World.alloc_heap_new w _)⟩; have := World.alloc_heap_new (w.alloc (.deferred (some []))) (.loop (mk .ready none))
   rwa [World.size_alloc] at this
 have hIV : I [] V := by rw [hV]; exact hI.alloc _ (hI.alloc _ h0)
 have hbV : Below w0.heap.size w0 V := by
   rw [hV]; exact hb0.trans ((((Below.refl _ w).alloc (Nat.le_refl _) _).alloc (by simp) _).mono hb0.size)
 have hVs : w.heap.size ≤ V.heap.size := by rw [hV]; simp; omega
 refine ⟨D + 1, [{ target := .collected D, args := #[] }], V, { target := .fn (.func gf) lb, args := #[.func (.yield (D + 1)) #[] #[]] }, V, gf, #[.func (.yield (D + 1)) #[] #[]] ++ lb, V, ?_, ?_, ?_, ?_, fun _ => h1, ?_⟩
 · rw [hro, hV, hmk, hD]; exact run_enterLoop_outer _ _ _ _ _
 · simp only [resolve, hg]
   simp [go_sem]
 · intro f' hf'
   simp [Target.leads] at hf'; subst hf'; exact hFg
 · simp [invoke, go_sem, eg]
 refine (hit (D + 1) (fun pre W => I pre W ∧ Bk D (D + 1) (mk .ready none) W) (fun pre W => ∃ c, Ix c pre W ∧ Bk D (D + 1) (mk .done (some c)) W) V hbV
   (fun s A B h hg => ⟨hI s A B none h.1 hg (fun r e => by cases e), h.2.abide hg fun k e => by cases e⟩)
   (fun s A B h hg => let ⟨c, h1, h2⟩ := h; ⟨c, hIx c s A B none h1 hg (fun r e => by cases e), h2.abide hg fun k e => by cases e⟩)
   (fun pre d v W hJ hlen hrd => ?_) ⟨hIV, hbk⟩).mono ?_
 ·
   obtain ⟨hi, hk⟩ := hJ; have hsz : v.size = (mk .ready none).params.size := by rw [hmk]; exact hps d v W hrd
   have hy := run_yield (P := P) (args := v) hk.loop hsz; rw [hmk] at hy; refine ⟨fn, _, assign, body, hy, roundIn_of_wpIn hfn (wpIn_mono (hround (D + 1) pre d v W (by omega) hi hlen hrd) fun e a1 W1 h => ?_)⟩
   cases e with
   | normal =>
     obtain ⟨hk1, hkp1, hbody⟩ := h; have hb1 := hk.keeps hk1 (by omega) (by omega); have hst : (mk .ready none).state = .ready := by rw [hmk]
     refine ⟨_, run_beginRound hb1.loop hst, ?_⟩; have hb2 := hb1.turn (by omega) { mk .ready none with state := .busy }; have hkb2 : Kp W1 (W1.putObj (D + 1) (.loop { mk .ready none with state := .busy })) := hKb _ _ _ _ (by omega) hb1.loop; refine wpIn_mono (hbody _ (grownBy_putObj' _ _ _) ⟨_, hb1.loop, rfl, rfl⟩) fun e a3 W3 h3 => ?_
     have fin : ∀ (j : Option Code), KeepsFrom w.heap.size (W1.putObj (D + 1) (.loop { mk .ready none with state := .busy })) W3 → ∃ W4, (Instr.endRound (D + 1) j).run P W3 = .ok (.bool j.isNone) W4 ∧ Bk D (D + 1) (mk (if j.isNone then .ready else .done) j) W4 ∧ W4 = W3.putObj (D + 1) (.loop (mk (if j.isNone then .ready else .done) j)) ∧
         W3.heap[D + 1]? = some (.loop { mk .ready none with state := .busy }) := fun j hk3 => by
       have hb3 := hb2.keeps hk3 (by omega) (by omega); have hr := run_endRound (P := P) j hb3.loop; refine ⟨_, hr, ?_, ?_, hb3.loop⟩
       · have := hb3.turn (by omega) { mk .ready none with state := if j.isNone then .ready else .done, pending := j }
         rw [hmk] at this ⊢; exact this
       · rw [hmk]
     cases e with
     | normal =>
       obtain ⟨hk3, hkp3, hi3⟩ := h3; obtain ⟨W4, hr, hb4, e4, hl3⟩ := fin none hk3; exact ⟨_, W4, hr, .inl ⟨rfl, ⟨by rw [e4]; exact hI.putObj _ hi3 (by omega) hl3 rfl rfl, hb4⟩, hKt hkp1 (hKt hkb2 (hKt hkp3 (by rw [e4]; exact hKb _ _ _ _ (by omega) hl3)))⟩⟩
     | ret =>
       obtain ⟨hk3, hi3⟩ := h3; obtain ⟨W4, hr, hb4, e4, hl3⟩ := fin (some .ret) hk3; exact ⟨_, W4, hr, .inr ⟨rfl, .ret, by rw [e4]; exact (hIx _).putObj _ hi3 (by omega) hl3 rfl rfl, hb4⟩⟩
     | exit id =>
       obtain ⟨hk3, hi3⟩ := h3; obtain ⟨W4, hr, hb4, e4, hl3⟩ := fin (some (.exit id)) hk3; exact ⟨_, W4, hr, .inr ⟨rfl, .exit id, by rw [e4]; exact (hIx _).putObj _ hi3 (by omega) hl3 rfl rfl, hb4⟩⟩
     | goto t =>
       obtain ⟨hk3, hi3⟩ := h3; obtain ⟨W4, hr, hb4, e4, hl3⟩ := fin (some (.goto t)) hk3; exact ⟨_, W4, hr, .inr ⟨rfl, .goto t, by rw [e4]; exact (hIx _).putObj _ hi3 (by omega) hl3 rfl rfl, hb4⟩⟩
     | panic ch => exact h3.elim
     | outgrown => exact h3.elim
   | ret => exact h.elim
   | exit id => exact h.elim
   | goto t => exact h.elim
   | panic ch => exact h.elim
   | outgrown => exact h.elim
 ·
   rintro e W2 ⟨⟨v, rfl⟩, hend⟩; rcases hend with ⟨xs, hS, hi, hk⟩ | ⟨pre, hSp, c, hi, hk⟩
   · have hr := run_endLoop (P := P) hk.loop (by rw [hmk]; simp)
     rw [hmk] at hr; exact ⟨none, _, hr, hdone D xs _ (by omega) hS (hI.putObj _ hi (by omega) hk.loop rfl rfl) ((World.putObj_heap_other (by omega)).trans hk.mark)⟩
   · have hr := run_endLoop (P := P) hk.loop (by rw [hmk]; simp)
     rw [hmk] at hr; exact ⟨some c, _, hr, hstop D c pre _ (by omega) hSp ((hIx c).putObj _ hi (by omega) hk.loop rfl rfl) ((World.putObj_heap_other (by omega)).trans hk.mark)⟩
end
end
end Ru
namespace Tp
section
open Go.RowKit Go.Maps
open Ce It Al Kp
attribute [local go_sem] Oper.semAt_some
def DevA (d : Nat) : As :=
 ⟨fun w X => ∃ base sb mb, Se.DvAt w base d sb mb (Se.newD 1500) ∧ ∀ i, X i ↔ i = d ∨ i = sb ∨ i = mb,
   fun _ _ _ ⟨base, sb, mb, h1, h2⟩ hk => ⟨base, sb, mb, h1.kept hk ((h2 _).2 (.inl rfl)) ((h2 _).2 (.inr (.inl rfl))) ((h2 _).2 (.inr (.inr rfl))), h2⟩,
   fun _ _ ⟨base, sb, mb, h1, h2⟩ i hi => by
     rcases (h2 i).1 hi with rfl | rfl | rfl
     · exact h1.ob.lt
     · exact h1.sure.lt
     · exact h1.map.lt⟩
theorem sector_new {r : List As} {w : World} (h : St r w) : Calls Tryz.prog 37 #[vI 1500] w fun e w' => ∃ d, e = .returned (.tuple #[ptr d, vO]) ∧ St (DevA d :: r) w' := by
 refine (Se.new_calls 1500 w (by omega) (by omega)).mono ?_; rintro e w' ⟨⟨d, sb, mb, rfl, hD⟩, hb⟩; refine ⟨d, rfl, h.born hb (A := fun i => i = d ∨ i = sb ∨ i = mb) ⟨_, sb, mb, hD, fun i => Iff.rfl⟩ fun i hi => ?_⟩; rcases hi with rfl | rfl | rfl
 · exact hD.lo.1
 · exact hD.lo.2.1
 · exact hD.lo.2.2
theorem wal_open {d : Nat} {r : List As} {w : World} (h : St (DevA d :: r) w) : Calls Tryz.prog 64 #[ptr d] w fun e w' => ∃ b, e = .returned (.tuple #[ptr b, vO]) ∧ St (LogA b 0 :: r) w' := by
 obtain ⟨A, ⟨base, sb, mb, hD, hX⟩, hc⟩ := h.cut; obtain ⟨D', p1, l1⟩ := Wa.openD_new (n := 1500) (by omega); have cO := Wa.open_calls hD; rw [p1] at cO; refine cO.mono ?_; rintro e w' ⟨pv, rfl, h1, h2, -, h4⟩; obtain ⟨b, X, Y, rfl, hL, hY⟩ := h4 _ rfl; refine ⟨b, rfl, hc w' (LogA b 0) Y ⟨base, d, sb, mb, X, Y, _, _, hL, l1, rfl, Nat.le_of_eq rfl, fun i => Iff.rfl⟩ (fun i hi => ?_) (h2.mono fun i hi => ⟨hi.1, fun e => hi.2 ((hX i).2 (.inl e)), fun e => hi.2 ((hX i).2 (.inr (.inl e))), fun e => hi.2 ((hX i).2 (.inr (.inr e)))⟩)⟩; rcases hY i hi with e | e | e | e
 · exact .inl ((hX i).2 (.inl e))
 · exact .inl ((hX i).2 (.inr (.inl e)))
 · exact .inl ((hX i).2 (.inr (.inr e)))
 · exact .inr e
theorem log_none {b : Nat} {l : List As} {w : World} (h : St l w) (k : Nat) (hk : l[k]? = some (LogA b 0)) : ∃ A c, w.cell? ⟨b, 3, none⟩ = some (.slice A 0 c) ∧ b < w.heap.size := by
 obtain ⟨X, base, d, sb, mb, Xm, Y, D, L, hL, -, -, hu, -⟩ := h.at_ k hk
 have he : L.es = [] := by
   cases hes : L.es with
   | nil => rfl
   | cons x q =>
     unfold Wa.used at hu; rw [hes, Wa.strm_cons, List.length_append, Wa.encE_len] at hu; omega
 obtain ⟨ev, tv, vs, ho, hr, -⟩ := hL.lg; rw [he] at hr; obtain ⟨A, c, rfl, -⟩ := (Sl.of_own hr).at_; exact ⟨A, c, ho.k 3 rfl, ho.lt⟩
theorem entries_no (n : Nat) (hn : 1 ≤ n) (Bs b : Nat) (A : Option Addr) (c : Nat) (w : World) (hbs : Ob w Bs 122 #[ptr b]) (hb : b < w.heap.size) (hc : w.cell? ⟨b, 3, none⟩ = some (.slice A 0 c)) :
   Ru.Reads Fence.wide n Tryz.prog 111 #[ptr Bs] (fun (_ : Unit) (_ : Array Value) (_ : World) => False) (Below w.heap.size) (fun xs => xs = []) (fun _ => False) (fun _ _ => False) w := by
 intro l J Jx W hW hJ hJx hY h0; have hB := hbs.same hW; have cB : W.cell? ⟨Bs, 0, none⟩ = some (ptr b) := hB.k 0 rfl; have c3 : W.cell? ⟨b, 3, none⟩ = some (.slice A 0 c) := (hW.cell (p := ⟨b, 3, none⟩) hb).trans hc; refine callsIn_of_wp Tryz.func111 rfl trivial ?_ rfl; simp only [Tryz.ntmps111, List.size_toArray, List.length_cons, List.length_nil, Nat.reduceAdd, Nat.reduceSub, Array.replicate_succ, Array.replicate_zero, List.push_toArray, List.append_toArray, List.nil_append, List.cons_append]; clear hY; gi_wp2
 gi_loopw [3, 4, 12] (fun _ _ i wr => i = vO ∧ wr = W) (fun _ _ i _ => 1)
 case atStart => exact ⟨rfl, rfl⟩
 case round =>
   obtain ⟨rfl, rfl⟩ := hrel; gi_wp2; go_end0; exact ⟨⟨_, rfl⟩, .inl ⟨_, rfl, h0⟩⟩
theorem values_no (n : Nat) (hn : 3 ≤ n) (Vb Bs b : Nat) (A : Option Addr) (c : Nat) (w : World) (hv : Ob w Vb 170 #[.func (.func 111) #[] #[ptr Bs]]) (hbs : Ob w Bs 122 #[ptr b]) (hb : b < w.heap.size) (hc : w.cell? ⟨b, 3, none⟩ = some (.slice A 0 c)) :
   Ro.Reads Fence.wide n Tryz.prog 110 #[ptr Vb] (fun (_ : Unit) (_ : Value) (_ : World) => False) (Below w.heap.size) (fun xs => xs = []) (fun _ => False) (fun _ _ => False) w := by
 intro l J Jx W hW hJ hJx hY h0; have cV : W.cell? ⟨Vb, 0, none⟩ = some (.func (.func 111) #[] #[ptr Bs]) := (hv.same hW).k 0 rfl; have hB := hbs.same hW; have c3 : W.cell? ⟨b, 3, none⟩ = some (.slice A 0 c) := (hW.cell (p := ⟨b, 3, none⟩) hb).trans hc; have hb1 : b < W.heap.size := Nat.lt_of_lt_of_le hb hW.size; have hlt := (hv.same hW).lt; have hal := (Below.refl W.heap.size W).alloc (Nat.le_refl _) (.cells #[.func (.yield l) #[] #[]] 223); have hB2 := hB.alloc (.cells #[.func (.yield l) #[] #[]] 223); have c32 := (hal.cell (p := ⟨b, 3, none⟩) hb1).trans c3; have hb2 : b < (W.alloc (.cells #[.func (.yield l) #[] #[]] 223)).heap.size := by simp; omega
 have HJ := hdd hJ; have H0 := hdd h0; clear hY hJ hJx h0 hv hbs hc hB c3; refine callsIn_of_wp_marks Tryz.func110 rfl trivial ?_ rfl; simp only [Tryz.ntmps110, List.size_toArray, List.length_cons, List.length_nil, Nat.reduceAdd, Nat.reduceSub, Array.replicate_succ, Array.replicate_zero, List.push_toArray, List.append_toArray, List.nil_append, List.cons_append]; gi_wp2; have hs2 : (W.alloc (.cells #[.func (.yield l) #[] #[]] 223)).heap.size = W.heap.size + 1 := by simp
 generalize (W.alloc (.cells #[.func (.yield l) #[] #[]] 223)) = w2 at *
 refine Ru.range_reads (n := n) rfl (by omega) (gf := 111) rfl trivial (enters_of Tryz.func111 (by kernel_rfl) rfl)
   (entries_no (n - 1) (by omega) Bs b A c w2 hB2 hb2 c32) (Below.refl _ _) (fun h k => h.trans k) (fun W l r r' hl h => belowK_b (Nat.le_refl _) W l _ _ hl h rfl rfl) (fun d v W h => h.elim)
   (fun _ V => Below w2.heap.size w2 V)
   (fun _ _ _ => False)
   (fun s A B row hs hg hr => ownFrom_below (B := w2.heap.size) (by omega) (by omega) s A B row hs hg (fun r e => ⟨(hr r e).1, let ⟨o, h1, h2, _⟩ := (hr r e).2; ⟨o, h1, h2⟩⟩))
   (fun c s A B row hs hg hr => hs.elim)
   (Below.refl _ _) ?round ?done ?stop
 case round => exact fun l pre d v W _ _ _ h => h.elim
 case stop => exact fun D c pre W _ h => h.elim
 case done =>
   rintro D xs V hD - hBV hK; gi_wp2; refine ⟨by simp, .inl ⟨_, _, rfl, run_takeDeferred hK, ?_⟩⟩; refine ⟨.tuple #[], results_none rfl _ _ _, ⟨_, rfl⟩, .inl ⟨_, rfl, ?_⟩⟩; have hF : Below W.heap.size W (V.putObj D (.deferred none)) := below_end (hal.trans (hBV.mono hal.size)) (by omega) hK; exact HJ.out _ _ _ none H0.out (only_of_below hF none) (fun r e => by cases e)
theorem appendseq_no (Vb Bs b : Nat) (A : Option Addr) (c : Nat) (w : World) (hv : Ob w Vb 170 #[.func (.func 111) #[] #[ptr Bs]]) (hbs : Ob w Bs 122 #[ptr b]) (hb : b < w.heap.size) (hc : w.cell? ⟨b, 3, none⟩ = some (.slice A 0 c)) :
   Calls Tryz.prog 109 #[vN, .func (.func 110) #[] #[ptr Vb]] w fun e w' => e = .returned vN ∧ Below w.heap.size w w' := by
 have hal := (Below.refl w.heap.size w).alloc (Nat.le_refl _) (.cells #[vN] 162); have hv2 := hv.same hal; have hB2 := hbs.same hal; have c32 := (hal.cell (p := ⟨b, 3, none⟩) hb).trans hc; have hb2 : b < (w.alloc (.cells #[vN] 162)).heap.size := by simp; omega
 have oR := Ob.new w 162 #[vN]; clear hv hbs hc; refine (callsIn_wide (n := 6)).1 ?_; refine callsIn_of_wp_marks Tryz.func109 rfl trivial ?_ rfl; simp only [Tryz.ntmps109, List.size_toArray, List.length_cons, List.length_nil, Nat.reduceAdd, Nat.reduceSub, Array.replicate_succ, Array.replicate_zero, List.push_toArray, List.append_toArray, List.nil_append, List.cons_append]; gi_wp2; have hs2 : (w.alloc (.cells #[vN] 162)).heap.size = w.heap.size + 1 := by simp
 generalize (w.alloc (.cells #[vN] 162)) = w2 at *
 refine Ro.range_reads (n := 6) rfl (by omega) (gf := 110) rfl trivial (enters_of Tryz.func110 (by kernel_rfl) rfl)
   (values_no 5 (by omega) Vb Bs b A c w2 hv2 hB2 hb2 c32) (Below.refl _ _) (fun h k => h.trans k) (fun W l r r' hl h => belowK_b (Nat.le_refl _) W l _ _ hl h rfl rfl) rfl
   (fun _ V => Below w2.heap.size w2 V)
   (fun _ _ _ => False)
   (fun s A B row hs hg hr => ownFrom_below (B := w2.heap.size) (by omega) (by omega) s A B row hs hg hr)
   (fun c s A B row hs hg hr => hs.elim)
   (Below.refl _ _) ?round ?done ?stop
 case round => exact fun l pre d v W _ _ h => h.elim
 case stop => exact fun D c pre W _ h => h.elim
 case done =>
   rintro D xs V hD - hBV hK; have z1 := (oR.below hBV oR.lt).cell (j := 0) (v := vN) rfl; gi_wp2; refine ⟨by simp, .inl ⟨_, _, rfl, run_takeDeferred hK, ?_⟩⟩; have hF : Below w.heap.size w (V.putObj D (.deferred none)) := below_end (hal.trans (hBV.mono hal.size)) (by omega) hK; refine ⟨vN, ?_, rfl, hF⟩; simp [results, Tryz.f109, go_sem]
theorem collect_no (Vb Bs b : Nat) (A : Option Addr) (c : Nat) (w : World) (hv : Ob w Vb 170 #[.func (.func 111) #[] #[ptr Bs]]) (hbs : Ob w Bs 122 #[ptr b]) (hb : b < w.heap.size) (hc : w.cell? ⟨b, 3, none⟩ = some (.slice A 0 c)) :
   Calls Tryz.prog 67 #[.func (.func 110) #[] #[ptr Vb]] w fun e w' => e = .returned vN ∧ Below w.heap.size w w' := by
 have cA := hdd (appendseq_no Vb Bs b A c w hv hbs hb hc); clear hv hbs hc
 go_enter Tryz.func67, Tryz.ntmps67
 go_wp2_with fail; refine (cA.out).mono ?_; rintro e W ⟨rfl, hB⟩; go_wp2; go_ret; exact ⟨rfl, hB⟩
theorem values_made (v : Value) (hv : v.oneCell' = true) (w : World) : Calls Tryz.prog 68 #[v] w fun e w' => e = .returned (.func (.func 110) #[] #[ptr w.heap.size]) ∧ w.alloc (.cells #[v] 170) = w' := by
 have hmf : ∀ (fn : Fn) (first cap : Array Value) (w : World), (Instr.makeFunc fn first cap).run Tryz.prog w = .ok (.func fn first cap) w := fun _ _ _ _ => rfl
 go_enter Tryz.func68, Tryz.ntmps68
 go_wp2; go_ret; exact ⟨rfl, rfl⟩
theorem restore_no (nd : Nat) (w : World) : Calls Tryz.prog 66 #[ptr nd, vN] w fun e w' => e = .returned (.tuple #[vN, .bool true]) ∧ w = w' := by
 go_enter Tryz.func66, Tryz.ntmps66
 go_wp2; go_ret2; exact ⟨rfl, rfl⟩
end
section
open Go.RowKit Go.Maps
open Ce It Al Kp
theorem endp_info : (Tryz.prog.info? 136).map (fun i => (i.zero, i.size, i.bytes)) = some (some (.pointer none), 1, 8) := by kernel_rfl
abbrev nodeU (me lg dk rg : Nat) (ev : Value) (lb : Nat) : Array Value := #[vI me, vI 2, ptr lg, vO, ptr dk, ptr rg, ev, .slice (some ⟨lb, 0, none⟩) 2 2, vO, vN]
theorem NodeB.mk {a : Na} {me now cnt : Nat} {ov : Value} {r : List As} {w : World} (h : St (ObA a.nd 126 (nodeV a me now cnt ov) :: ObA a.eb 136 (ptr a.e0 :: ptr a.e1 :: a.er).toArray :: ObA a.lb 162 #[vN, vN] :: r) w) (hc : 2 ≤ a.ec) : St (NodeB a me now cnt ov :: r) w := by
 have s1 := (((St.facted hc h.no)).take [1, 1, 1, 0]); simp only [takeOut, zzD, zzE, zzF, zzG, zzH, zzI] at s1; exact St.fold (l := [_, _, _, _]) s1
theorem late_info : (Tryz.prog.info? 162).map (fun i => (i.zero, i.size, i.bytes)) = some (some vN, 1, 24) := by kernel_rfl
theorem make_late (V : World) : (Instr.makeSlice 124 (vI 2) (vI 2)).run Tryz.prog V = .ok (.slice (some ⟨V.heap.size, 0, none⟩) 2 2) (V.alloc (.cells #[vN, vN] 162)) := by
 obtain ⟨i, hi, hz0, hz1, hz2⟩ := inf3 late_info; have h := run_makeSlice (P := Tryz.prog) V 124 162 i _ Tryz.underlying124 hi hz0 .i64 .i64 2 2 (by omega) (by omega) (by rw [hz1]; decide) (by rw [hz2]; decide) (by omega); rw [hz1] at h; have e0 : madeCells (vN).cells (Int.toNat 2 * 1) = #[vN, vN] := by first | kernel_rfl | rfl | simp [madeCells, Value.cells]
 rw [e0] at h; exact h
theorem nodeopen_calls {d me : Nat} {r : List As} {w : World} (hm : me < 2) (h : St (DevA d :: r) w) : Calls Tryz.prog 38 #[ptr d, vI me, vI 2] w fun e w' => ∃ a : Na, e = .returned (.tuple #[ptr a.nd, vO]) ∧ St (NodeB a me 0 0 vN :: LogA a.lg 0 :: DeskN a.dk me :: RegA a.rg me [] :: EndA a.e0 [] 0 0 :: EndA a.e1 [] 0 0 :: r) w' := by
 have hmk := make_late; have cD := hdd (desk_new h (me : Int) (by omega) (by omega)); clear h
 go_enter Tryz.func38, Tryz.ntmps38
 go_wp2_with fail; refine cD.out.mono ?_; rintro e W1 ⟨dk, rfl, s1⟩; have cR := hdd (region_new s1 (me : Int) (by omega) (by omega)); clear s1 cD; go_wp2_with fail; refine cR.out.mono ?_; rintro e W2 ⟨rg, rfl, s2⟩; have s3 := ((s2).take [2, 0, 0]); simp only [takeOut, zzD, zzE, zzF, zzG, zzH, zzI] at s3; have cW := hdd (wal_open s3); clear s2 s3 cR; go_wp2_with fail; refine cW.out.mono ?_; rintro e W3 ⟨lg, rfl, s4⟩; have s5 := ((s4.obNew 162 #[vN, vN]).obNew 126 (nodeU me lg dk rg vN W3.heap.size)).rowNil 136 1; simp only [World.size_alloc] at s5; clear s4 cW; go_wp2; generalize hWd : ((W3.alloc (.cells #[vN, vN] 162)).alloc (.cells (nodeU me lg dk rg vN W3.heap.size) 126)) = W at *; clear hWd; obtain ⟨nd, hnd⟩ : ∃ nd, nd = W3.heap.size + 1 := ⟨_, rfl⟩; simp only [← hnd] at *; generalize W3.heap.size = lb at *; clear hnd hmk; refine wp_loop_rounds 3 ?_; rw [rounds_succ]; go_wp2_with fail; refine Pq.regionT (.look 0 (.look 1 (.look 2 (.look 3 (.look 4 (.look 8 (.look 9 (.make 5 (.make 6 (.make 7 (.make 10 .nil))))))))))) (fun V => Ob V nd 126 (nodeU me lg dk rg vN lb)) Se.hmx (by kernel_rfl) (by kernel_rfl) (by kernel_rfl) ((s5).drew.ob 1 rfl) rfl ?_; simp only [Pq.named, Pq.rest, zzJ, zzK, zzL, zzM]
 iterate 7 (
   apply Pq.WalkT.on (by rfl)
   · rintro V hO0
     have ⟨n0, n1, n2, n3, n4, n5, n6, n7, n8, n9⟩ := hO0.k10 rfl rfl rfl rfl rfl rfl rfl rfl rfl rfl; go_wp2_with fail; refine ⟨rfl, ?_, rfl⟩
     try simp only [Act.put, zzA, zzB, zzC]
     rfl
   simp only [Act.put, zzA, zzB, zzC])
 refine Pq.WalkT.make (by rfl) ?_; rintro T0 hq; replace hq := hq.symm; subst hq; go_wp2_with fail; refine (link_new _).mono ?_; rintro e2 V1 ⟨rfl, hV1⟩; have sC := ((((s5.drew).obNew 200 #[vN, vO, vO])).take [1, 1, 0]); simp only [takeOut, zzD, zzE, zzF, zzG, zzH, zzI] at sC; simp only [hV1] at sC; clear hV1; go_wp2_with fail; refine Pq.mk3 (ptr W.drew.heap.size) ((sC).ob 1 rfl) ?_ ?_
 · try simp only [Act.put, zzA, zzB, zzC]
   try rfl
 simp only [Act.put, zzA, zzB, zzC]; have sA0 := (sC).alloc (.cells #[ptr W.drew.heap.size] 136); have hSl0 := Sl.new (V1) #[ptr W.drew.heap.size] 136 (n := 1) (size := 1) rfl (by unfold maxLen; omega); obtain ⟨iA, hiA, hzA0, hzA1, hzA2⟩ := inf3 endp_info; refine Pq.WalkT.make (by rfl) ?_; rintro T1 hq; replace hq := hq.symm; subst hq; go_wp2_with fail; refine Pq.mk4 ((V1).alloc (.cells #[ptr W.drew.heap.size] 136)) (.slice (some ⟨(V1).heap.size, 0, none⟩) 1 1) (sA0.ob 1 rfl) ?_ ?_
 · try simp only [Act.put, zzA, zzB, zzC]
   try rfl
 simp only [Act.put, zzA, zzB, zzC]; refine Pq.WalkT.make (by rfl) ?_; rintro T2 hq; replace hq := hq.symm; subst hq; refine wpList_append_sl _ rfl (.tmp 61) (.tmp 63) _ rfl 0 136 iA _ 1 8 Tryz.underlying123 hiA hzA0 hzA1 hzA2 rfl (by omega) vN 0 [] rfl (sA0.own 0 rfl) _ _ _ 1 (#[ptr W.drew.heap.size]).toList rfl hSl0 (by simp [Value.oneCell']) (by unfold maxLen; omega) (by omega) (by simp) ?_; intro v1 T3 hv1 hg1 hat1; simp only [Nat.zero_add, List.nil_append] at hv1; obtain ⟨A9, c9, hv9, -⟩ := (Sl.of_own hv1).at_; subst hv9; have sA1 := (sA0.front 0 rfl).row hv1 hg1 hat1; refine Pq.mk3 (.slice A9 1 c9) (sA1.ob 1 rfl) ?_ ?_
 · try simp only [Act.put, zzA, zzB, zzC]
   try rfl
 simp only [Act.put, zzA, zzB, zzC]; refine Pq.WalkT.make (by rfl) ?_; rintro T4 hq; replace hq := hq.symm; subst hq; have gA := (sA1.ob 1 rfl).k 6 rfl; have fA := (sA1.ob 1 rfl).frozen 6; have sA2 := (sA1.front 1 rfl).set 6 (.slice A9 1 c9); go_wp2_with fail; refine ⟨rfl, undef, (fun _ => True), (fun V => V = _), rfl, rfl, (fun _ _ => trivial), (.inl (by kernel_rfl)), Pq.WalkT.nil ?_⟩; rintro V rfl; simp only [Act.put]; clear gA fA; simp only [zzH, zzI, zzG, zzF, List.length_cons, List.length_nil] at sA2; clear hSl0 sA0 sA1 hg1 hat1 hv1 s5 sC; have s6 : St (ObA nd 126 (nodeU me lg dk rg (.slice A9 1 c9) lb) :: _) _ := sA2; clear sA2; generalize A9 = Aa at *; generalize c9 = ca at *; generalize W.drew.heap.size = e0 at *; generalize hWd : T3.setCell ⟨nd, 6, none⟩ (.slice Aa 1 ca) = U at *; clear hWd hiA hzA0 hzA1 hzA2 iA; clear A9 c9 T3; go_wp2; rw [rounds_succ]; go_wp2_with fail; refine Pq.regionT (.look 0 (.look 1 (.look 2 (.look 3 (.look 4 (.look 8 (.look 9 (.make 5 (.make 6 (.make 7 (.make 10 .nil))))))))))) (fun V => Ob V nd 126 (nodeU me lg dk rg (.slice Aa 1 ca) lb)) Se.hmx (by kernel_rfl) (by kernel_rfl) (by kernel_rfl) ((s6).drew.ob 0 rfl) rfl ?_; simp only [Pq.named, Pq.rest, zzJ, zzK, zzL, zzM]
 iterate 7 (
   apply Pq.WalkT.on (by rfl)
   · rintro V hO0
     have ⟨n0, n1, n2, n3, n4, n5, n6, n7, n8, n9⟩ := hO0.k10 rfl rfl rfl rfl rfl rfl rfl rfl rfl rfl; go_wp2_with fail; refine ⟨rfl, ?_, rfl⟩
     try simp only [Act.put, zzA, zzB, zzC]
     rfl
   simp only [Act.put, zzA, zzB, zzC])
 refine Pq.WalkT.make (by rfl) ?_; rintro T0 hq; replace hq := hq.symm; subst hq; go_wp2_with fail; refine (link_new _).mono ?_; rintro e2 V2 ⟨rfl, hV1⟩; have sC := ((((s6.drew).obNew 200 #[vN, vO, vO])).take [1, 1, 0]); simp only [takeOut, zzD, zzE, zzF, zzG, zzH, zzI] at sC; simp only [hV1] at sC; clear hV1; go_wp2_with fail; refine Pq.mk3 (ptr U.drew.heap.size) ((sC).ob 0 rfl) ?_ ?_
 · try simp only [Act.put, zzA, zzB, zzC]
   try rfl
 simp only [Act.put, zzA, zzB, zzC]; have sA0 := (sC).alloc (.cells #[ptr U.drew.heap.size] 136); have hSl0 := Sl.new (V2) #[ptr U.drew.heap.size] 136 (n := 1) (size := 1) rfl (by unfold maxLen; omega); obtain ⟨iA, hiA, hzA0, hzA1, hzA2⟩ := inf3 endp_info; refine Pq.WalkT.make (by rfl) ?_; rintro T1 hq; replace hq := hq.symm; subst hq; go_wp2_with fail; refine Pq.mk4 ((V2).alloc (.cells #[ptr U.drew.heap.size] 136)) (.slice (some ⟨(V2).heap.size, 0, none⟩) 1 1) (sA0.ob 0 rfl) ?_ ?_
 · try simp only [Act.put, zzA, zzB, zzC]
   try rfl
 simp only [Act.put, zzA, zzB, zzC]; refine Pq.WalkT.make (by rfl) ?_; rintro T2 hq; replace hq := hq.symm; subst hq; refine wpList_append_sl _ rfl (.tmp 61) (.tmp 63) _ rfl 0 136 iA _ 1 8 Tryz.underlying123 hiA hzA0 hzA1 hzA2 rfl (by omega) (.slice Aa 1 ca) 1 [ptr e0] rfl (sA0.own 1 rfl) _ _ _ 1 (#[ptr U.drew.heap.size]).toList rfl hSl0 (by simp [Value.oneCell']) (by unfold maxLen; omega) (by omega) (by simp) ?_; intro v1 T3 hv1 hg1 hat1; obtain ⟨A9, c9, hv9, -⟩ := (Sl.of_own hv1).at_; subst hv9; have sA1 := (sA0.front 1 rfl).row hv1 hg1 hat1; refine Pq.mk3 (.slice A9 (1 + 1) c9) (sA1.ob 1 rfl) ?_ ?_
 · try simp only [Act.put, zzA, zzB, zzC]
   try rfl
 simp only [Act.put, zzA, zzB, zzC]; refine Pq.WalkT.make (by rfl) ?_; rintro T4 hq; replace hq := hq.symm; subst hq; have gA := (sA1.ob 1 rfl).k 6 rfl; have fA := (sA1.ob 1 rfl).frozen 6; have sA2 := (sA1.front 1 rfl).set 6 (.slice A9 (1 + 1) c9); go_wp2_with fail; refine ⟨rfl, undef, (fun _ => True), (fun V => V = _), rfl, rfl, (fun _ _ => trivial), (.inl (by kernel_rfl)), Pq.WalkT.nil ?_⟩; rintro V rfl; simp only [Act.put]; clear gA fA; simp only [zzH, zzI, zzG, zzF, List.length_cons, List.length_nil] at sA2; have s7 : St (ObA nd 126 (nodeU me lg dk rg (.slice A9 2 c9) lb) :: _) _ := sA2; clear hSl0 sA0 sA1 hg1 hat1 hv1 s6 sC sA2; generalize U.drew.heap.size = e1 at *; generalize hWd : T3.setCell ⟨nd, 6, none⟩ (.slice A9 2 c9) = Z at *; clear hWd hiA hzA0 hzA1 hzA2 iA; go_wp2; rw [rounds_succ]; obtain ⟨AL, cL, hcL, hlL⟩ := log_none s7 5 rfl; have s8 := s7.alloc (.cells #[ptr lg] 122); have oE := Ob.new Z 122 #[ptr lg]; have b8 := (Below.refl Z.heap.size Z).alloc (Nat.le_refl _) (.cells #[ptr lg] 122); have hcL2 := (b8.cell (p := ⟨lg, 3, none⟩) hlL).trans hcL; have cE := hdd (Wa.entries_made (some ⟨lg, 0, none⟩) Z); go_wp2_with fail; refine cE.out.mono ?_; rintro e W4 ⟨rfl, rfl⟩; clear cE s7; obtain ⟨Eb, hEb⟩ : ∃ Eb, Eb = Z.heap.size := ⟨_, rfl⟩; have hlE : lg < (Z.alloc (.cells #[ptr lg] 122)).heap.size := Nat.lt_of_lt_of_le hlL b8.size; simp only [← hEb] at *; generalize (Z.alloc (.cells #[ptr lg] 122)) = W4 at *; clear b8 hEb hcL hlL; have s9 := s8.alloc (.cells #[.func (.func 111) #[] #[ptr Eb]] 170)
 have oV := Ob.new W4 170 #[.func (.func 111) #[] #[ptr Eb]]; have b9 := (Below.refl W4.heap.size W4).alloc (Nat.le_refl _) (.cells #[.func (.func 111) #[] #[ptr Eb]] 170); have oE9 := oE.alloc (.cells #[.func (.func 111) #[] #[ptr Eb]] 170); have hcL9 := (b9.cell (p := ⟨lg, 3, none⟩) hlE).trans hcL2; have hl9 := Nat.lt_of_lt_of_le hlE b9.size; have cV := hdd (values_made (.func (.func 111) #[] #[ptr Eb]) rfl W4); go_wp2_with fail; refine cV.out.mono ?_; rintro e W5 ⟨rfl, rfl⟩; clear cV s8 oE hcL2 hlE b9; have cC := hdd (collect_no W4.heap.size Eb lg AL cL _ oV oE9 hl9 hcL9); clear oV oE9 hl9 hcL9; generalize (W4.alloc (.cells #[.func (.func 111) #[] #[ptr Eb]] 170)) = W5 at *; go_wp2_with fail; refine cC.out.mono ?_; rintro e W6 ⟨rfl, hB6⟩; have sE := s9.same hB6; clear s9 cC hB6; go_wp2_with fail; refine (restore_no nd W6).mono ?_; rintro e W7 ⟨rfl, rfl⟩; go_wp2; refine wp_loop_rounds 1 ?_; rw [rounds_succ]; obtain ⟨g, cap, rest, hv, hc1, -, hl1, hl2, sF⟩ := (sE.front 1 rfl).rowOb
 injection hv with hv1 hv2 hv3
 subst hv1 hv3; simp only [zzH, zzI, zzG, zzF, List.length_cons, List.length_nil] at sF; have sG := ((sF).take [1, 0, 2, 1, 0, 0, 1, 0]); simp only [takeOut, zzD, zzE, zzF, zzG, zzH, zzI] at sG; have sH : St (NodeB ⟨nd, lg, dk, rg, e0, e1, g, lb, c9, rest⟩ me 0 0 vN :: _) _ := NodeB.mk (a := ⟨nd, lg, dk, rg, e0, e1, g, lb, c9, rest⟩) sG hc1; have sI := ((sH.rowNil 317 4).take [2, 0]); simp only [takeOut, zzD, zzE, zzF, zzG, zzH, zzI] at sI; have sJ := EndA.mk (its := []) sI rfl rfl; have sK := ((sJ.rowNil 317 4).take [3, 0]); simp only [takeOut, zzD, zzE, zzF, zzG, zzH, zzI] at sK; have sL := EndA.mk (its := []) sK rfl rfl; have sM := ((sL).take [2, 2, 2, 2, 1, 0]); simp only [takeOut, zzD, zzE, zzF, zzG, zzH, zzI] at sM; go_wp2; go_ret2; exact ⟨_, rfl, sM⟩
theorem open_z {d : Nat} {r : List As} {w : World} (h : St (DevA d :: r) w) : Calls Tryz.prog 38 #[ptr d, vO, vI 2] w fun e w' => ∃ nd, e = .returned (.tuple #[ptr nd, vO]) ∧ St (NodeZ DeskN nd 0 0 0 [] 0 0 [] :: r) w' := by
 refine (nodeopen_calls (me := 0) (by omega) h).mono ?_; rintro e w' ⟨a, rfl, s⟩; exact ⟨a.nd, rfl, NodeZ.mk (its := []) s trivial⟩
theorem open_u {d : Nat} {r : List As} {w : World} (h : St (DevA d :: r) w) : Calls Tryz.prog 38 #[ptr d, vI 1, vI 2] w fun e w' => ∃ nd, e = .returned (.tuple #[ptr nd, vO]) ∧ St (NodeU DeskN nd 0 0 0 [] 0 0 [] :: r) w' := by
 refine (nodeopen_calls (me := 1) (by omega) h).mono ?_; rintro e w' ⟨a, rfl, s⟩; exact ⟨a.nd, rfl, NodeU.mk (its := []) s trivial⟩
end
end Tp
end Go.Proofs.YtgcnhmjpfbbfcaaGreat
