/-
  moves: All, Under.
-/
import Derived.Test.YtdbkkldgobkjcaaMvE
import Derived.Test.YtdbkkldgobkjcaaItP
namespace Go.Proofs.Ytdbkkldgobkjcaa
open Go.RowKit Go.Maps
namespace Mv
open It
attribute [local go_sem] Oper.semAt_some

theorem M_fits {l : List It.Item} (h : M l) : Fits l := fun x hx => by
  have h1 := h.ok x hx
  have h2 := h1.1
  unfold good at h2
  simp only [Bool.and_eq_true, decide_eq_true_eq] at h2
  refine ⟨Nat.le_trans h2.2 (by unfold maxLen; omega), by omega, by omega⟩
theorem normRes_M {L : List It.Item} (h : (normRes L).2 = 0) : M (normRes L).1 := by
  unfold normRes at h ⊢
  by_cases hs : sumsCode L = 0
  · rw [if_pos hs] at h ⊢
    by_cases hl : (normL L).length ≤ 16
    · rw [if_pos hl] at h ⊢
      have hs2 := hs
      unfold sumsCode at hs2
      cases ho : L.all okC with
      | false => rw [ho] at hs2; simp at hs2
      | true =>
        cases hv : over L with
        | true => rw [ho, hv] at hs2; simp at hs2
        | false =>
          refine normL_M (fun x hx => ?_) (tot_le hv) hl
          have := List.all_eq_true.1 ho x hx
          unfold okC at this
          rw [Bool.and_eq_true] at this
          exact this.1
    · rw [if_neg hl] at h
      simp at h
  · rw [if_neg hs] at h
    exact absurd h hs
theorem plusOf_M {a b : List It.Item} (h : (plusOf a b).2 = 0) : M (plusOf a b).1 := by
  unfold plusOf at h ⊢
  split
  · rename_i hm
    rw [if_pos hm] at h
    exact normRes_M h
  · rename_i hm
    rw [if_neg hm] at h
    simp at h

/-- what is on its way from fr to to_: the sum so far, and whether it went on -/
def skipW (fr to_ : Int) (d : Way) : Bool := d.came || decide (d.fr ≠ fr) || decide (d.to_ ≠ to_)
def underStep (fr to_ : Int) (s : List It.Item × Bool) (d : Way) : List It.Item × Bool :=
  if s.2 then (if skipW fr to_ d then s else if (plusOf s.1 d.l).2 = 0 then ((plusOf s.1 d.l).1, true) else (s.1, false)) else s
def underGo (fr to_ : Int) (ds : List Way) : List It.Item × Bool := ds.foldl (underStep fr to_) ([], true)
def underOf (fr to_ : Int) (ds : List Way) : List It.Item := (underGo fr to_ ds).1
theorem underGo_snoc (fr to_ : Int) (ds : List Way) (d : Way) : underGo fr to_ (ds ++ [d]) = underStep fr to_ (underGo fr to_ ds) d := by
  unfold underGo
  rw [List.foldl_append]
  rfl
theorem under_fix (fr to_ : Int) (s : List It.Item × Bool) (h : s.2 = false) : ∀ ds : List Way, ds.foldl (underStep fr to_) s = s
  | [] => rfl
  | d :: r => by
    have : underStep fr to_ s d = s := by unfold underStep; rw [h]; rfl
    rw [List.foldl_cons, this]
    exact under_fix fr to_ s h r
theorem under_stop {fr to_ : Int} {pre ds : List Way} (hp : pre <+: ds) (h : (underGo fr to_ pre).2 = false) : underGo fr to_ ds = underGo fr to_ pre := by
  obtain ⟨r, rfl⟩ := hp
  unfold underGo at h ⊢
  rw [List.foldl_append]
  exact under_fix _ _ _ h r
theorem underGo_fits (fr to_ : Int) (ds : List Way) : Fits (underGo fr to_ ds).1 := by
  suffices ∀ (ds : List Way) (s : List It.Item × Bool), Fits s.1 → Fits (ds.foldl (underStep fr to_) s).1 from this ds _ (fun _ h => by cases h)
  intro ds
  induction ds with
  | nil => exact fun _ h => h
  | cons d r ih =>
    intro s hs
    refine ih _ ?_
    unfold underStep
    split
    · split
      · exact hs
      · split
        · rename_i h
          exact M_fits (plusOf_M h)
        · exact hs
    · exact hs

/-- a write that hits no cells leaves cells as they are -/
theorem ob_keep {A B : World} {row : Option Nat} {b : Nat} {t : TypeId} {cs : Array Value} (h : Ob A b t cs) (hg : A.grownBy B row) (hr : ∀ r, row = some r → ∃ o : Obj, A.heap[r]? = some o ∧ o.isCells = false) : Ob B b t cs :=
  h.kept hg fun e => by
    obtain ⟨o, h1, h2⟩ := hr b e.symm
    rw [show A.heap[b]? = _ from h] at h1
    cases h1
    cases h2
theorem sl_keep {A B : World} {row : Option Nat} {lo hi size n : Nat} {v : Value} {xs : List Value} (h : Sl A lo hi size v n xs) (hg : A.grownBy B row) (hr : ∀ r, row = some r → ∃ o : Obj, A.heap[r]? = some o ∧ o.isCells = false) (hh : hi ≤ A.heap.size) : Sl B lo hi size v n xs := by
  refine ⟨h.len, ?_⟩
  obtain ⟨A', c, e, h1, h2, h3⟩ := h.at_
  refine ⟨A', c, e, h1, h2, fun hn => ?_⟩
  obtain ⟨b, o, ea, hl, hb, hc⟩ := h3 hn
  refine ⟨b, o, ea, hl, hb, fun j hj => ?_⟩
  have hj2 : j < xs.length := by rw [h.len]; exact hj
  have e2 : xs[j]? = some xs[j] := List.getElem?_eq_getElem hj2
  rw [e2]
  have h4 := (hc j hj).trans e2
  refine (World.cell?_of_block (hg.block b (by omega) fun e => ?_)).trans h4
  obtain ⟨u, h5, h6⟩ := hr b e.symm
  unfold World.cell? at h4
  rw [h5] at h4
  cases u <;> first | (cases h6; done) | (cases h4; done)

/-- Moves.All: the receiver is boxed, the function value captures the box -/
theorem all_calls (p : Option Addr) (w : World) :
    Calls Try.prog 26 #[.pointer p] w fun e w' => e = .returned (.func (.func 47) #[] #[.pointer (some ⟨w.heap.size, 0, none⟩)]) ∧ w.alloc (.cells #[.pointer p] 23) = w' := by
  go_enter Try.func26, Try.ntmps26
  go_wp2
  go_ret
  exact ⟨rfl, rfl⟩

set_option maxRecDepth 100000 in
set_option maxHeartbeats 4000000 in
theorem under_calls (fr to_ : Int) (b mb : Nat) (X : Nat → Prop) (ds : List Way) (w : World) (h : MvAt w b mb X ds) :
    Calls Try.prog 22 #[.pointer (some ⟨b, 0, none⟩), .int .i64 fr, .int .i64 to_] w fun e w' =>
      (∃ v, e = .returned v ∧ w'.ownsRow w.heap.size 36 2 v (underOf fr to_ ds).length (itemCells (underOf fr to_ ds))) ∧ Below w.heap.size w w' := by
  have hok := h.ok
  refine (callsIn_wide (n := 6)).1 ?_
  refine callsIn_of_wp_marks Try.func22 rfl trivial ?_ rfl
  simp only [Try.ntmps22, List.size_toArray, List.length_cons, List.length_nil, Nat.reduceAdd, Nat.reduceSub, Array.replicate_succ, Array.replicate_zero, List.push_toArray, List.append_toArray, List.nil_append, List.cons_append]
  gi_wp2_with (refine ⟨trivial, ?_⟩; gi_at_call 26; refine (callsIn_wide.2 (all_calls _ _)).mono ?_; rintro e w' ⟨rfl, rfl⟩)
  have o0 : Ob w (w.heap.size) 3 #[.int .i64 fr] → True := fun _ => trivial
  have a1 := Below.refl w.heap.size w
  have b0 := Ob.new w 3 #[.int .i64 fr]
  have a2 := a1.alloc (Nat.le_refl _) (.cells #[.int .i64 fr] 3)
  have b1 := Ob.new (w.alloc (.cells #[.int .i64 fr] 3)) 3 #[.int .i64 to_]
  have a3 := a2.alloc (by simp) (.cells #[.int .i64 to_] 3)
  have b2 := Ob.new ((w.alloc (.cells #[.int .i64 fr] 3)).alloc (.cells #[.int .i64 to_] 3)) 30 #[.slice none 0 0]
  have a4 := a3.alloc (by simp; omega) (.cells #[.slice none 0 0] 30)
  have b3 := Ob.new (((w.alloc (.cells #[.int .i64 fr] 3)).alloc (.cells #[.int .i64 to_] 3)).alloc (.cells #[.slice none 0 0] 30)) 30 #[.slice none 0 0]
  have a5 := a4.alloc (by simp; omega) (.cells #[.slice none 0 0] 30)
  have b4 := Ob.new ((((w.alloc (.cells #[.int .i64 fr] 3)).alloc (.cells #[.int .i64 to_] 3)).alloc (.cells #[.slice none 0 0] 30)).alloc (.cells #[.slice none 0 0] 30)) 23 #[.pointer (some ⟨b, 0, none⟩)]
  have hB5 := a5.alloc (by simp; omega) (.cells #[.pointer (some ⟨b, 0, none⟩)] 23)
  replace b0 := (((b0.alloc (.cells #[.int .i64 to_] 3)).alloc (.cells #[.slice none 0 0] 30)).alloc (.cells #[.slice none 0 0] 30)).alloc (.cells #[.pointer (some ⟨b, 0, none⟩)] 23)
  replace b1 := ((b1.alloc (.cells #[.slice none 0 0] 30)).alloc (.cells #[.slice none 0 0] 30)).alloc (.cells #[.pointer (some ⟨b, 0, none⟩)] 23)
  replace b2 := (b2.alloc (.cells #[.slice none 0 0] 30)).alloc (.cells #[.pointer (some ⟨b, 0, none⟩)] 23)
  replace b3 := b3.alloc (.cells #[.pointer (some ⟨b, 0, none⟩)] 23)
  simp only [World.size_alloc] at b1 b2 b3 b4
  have hsz5 : w.heap.size + 5 = (((((w.alloc (.cells #[.int .i64 fr] 3)).alloc (.cells #[.int .i64 to_] 3)).alloc (.cells #[.slice none 0 0] 30)).alloc (.cells #[.slice none 0 0] 30)).alloc (.cells #[.pointer (some ⟨b, 0, none⟩)] 23)).heap.size := by simp
  clear a1 a2 a3 a4 a5 o0
  generalize (((((w.alloc (.cells #[.int .i64 fr] 3)).alloc (.cells #[.int .i64 to_] 3)).alloc (.cells #[.slice none 0 0] 30)).alloc (.cells #[.slice none 0 0] 30)).alloc (.cells #[.pointer (some ⟨b, 0, none⟩)] 23)) = w5 at *
  have hM5 : MvAt w5 b mb (fun i => X i ∨ i = w.heap.size + 1 + 1 ∨ i = w.heap.size + 1 + 1 + 1) ds := h.more hB5 fun i hi => by
    rcases hi with hi | rfl | rfl
    · exact ⟨.inl hi, by have := h.xl i hi; omega⟩
    · exact ⟨.inr (by omega), by omega⟩
    · exact ⟨.inr (by omega), by omega⟩
  obtain ⟨X5, hX5⟩ : ∃ X5 : Nat → Prop, X5 = fun i => X i ∨ i = w.heap.size + 1 + 1 ∨ i = w.heap.size + 1 + 1 + 1 := ⟨_, rfl⟩
  rw [← hX5] at hM5
  have hxs5 : ¬ X5 (w.heap.size + 1 + 1 + 1 + 1) := fun hi => by
    rw [hX5] at hi
    rcases hi with hi | hi | hi
    · have := h.xl _ hi; omega
    · omega
    · omega
  have hx2 : X5 (w.heap.size + 1 + 1) := by rw [hX5]; exact .inr (.inl rfl)
  have hx3 : X5 (w.heap.size + 1 + 1 + 1) := by rw [hX5]; exact .inr (.inr rfl)
  clear hX5 h
  refine Rr.range_reads (n := 6) rfl (by omega) (gf := 47) rfl trivial (enters_of Try.func47 (by kernel_rfl) rfl)
    (all_reads 5 (by omega) b mb (w.heap.size + 1 + 1 + 1 + 1) X5 ds w5 hM5 b4 hxs5) (Below.refl _ _) (fun h k => h.trans k) (fun W l r r' _ h => KpX.loop h) rfl
    (fun pre W => Ob W w.heap.size 3 #[.int .i64 fr] ∧ Ob W (w.heap.size + 1) 3 #[.int .i64 to_] ∧ Ob W (w.heap.size + 1 + 1) 30 #[.slice none 0 0] ∧ Below w.heap.size w5 W ∧ (underGo fr to_ pre).2 = true ∧
      ∃ v, Ob W (w.heap.size + 1 + 1 + 1) 30 #[v] ∧ W.ownsRow w.heap.size 36 2 v (underGo fr to_ pre).1.length (itemCells (underGo fr to_ pre).1))
    (fun c pre W => c = .ret ∧ Below w.heap.size w5 W ∧ (underGo fr to_ pre).2 = false ∧
      ∃ v, Ob W (w.heap.size + 1 + 1) 30 #[v] ∧ W.ownsRow w.heap.size 36 2 v (underGo fr to_ pre).1.length (itemCells (underGo fr to_ pre).1))
    (fun s A B row hs hg hr => ⟨ob_keep hs.1 hg (fun r e => (hr r e).2), ob_keep hs.2.1 hg (fun r e => (hr r e).2), ob_keep hs.2.2.1 hg (fun r e => (hr r e).2), ownFrom_below (B := w5.heap.size) (by omega) (by omega) s A B row hs.2.2.2.1 hg hr, hs.2.2.2.2.1, by
      obtain ⟨v, h1, h2⟩ := hs.2.2.2.2.2
      exact ⟨v, ob_keep h1 hg (fun r e => (hr r e).2), row_keep h2 hg (fun r e => (hr r e).2)⟩⟩)
    (fun c s A B row hs hg hr => ⟨hs.1, ownFrom_below (B := w5.heap.size) (by omega) (by omega) s A B row hs.2.1 hg hr, hs.2.2.1, by
      obtain ⟨v, h1, h2⟩ := hs.2.2.2
      exact ⟨v, ob_keep h1 hg (fun r e => (hr r e).2), row_keep h2 hg (fun r e => (hr r e).2)⟩⟩)
    ⟨b0, b1, b2, Below.refl _ _, rfl, _, b3, World.ownsRow_nil _ _ _ _⟩ ?round ?done ?stop
  case round =>
    rintro l pre ⟨dmv, dfr, dto, dl, dcame⟩ v W hl ⟨hb0, hb1, hb2, hB, hgo, ov, hb3, hown⟩ hlen ⟨sv, rfl, hsv⟩
    obtain ⟨As, cs, rfl, -⟩ := hsv.form
    have hFl : Fits dl := by
      obtain ⟨r, hr⟩ := hlen
      exact M_fits ((may_iff dl).1 (hok ⟨dmv, dfr, dto, dl, dcame⟩ (by rw [← hr]; simp)).l)
    have hFg := underGo_fits fr to_ pre
    obtain ⟨Ao, co, rfl, -⟩ := (ItemsAt.of_own hown).form
    have hstep := underGo_snoc fr to_ pre ⟨dmv, dfr, dto, dl, dcame⟩
    have HG := Lib.hid (underGo_snoc fr to_ pre ⟨dmv, dfr, dto, dl, dcame⟩)
    have hs1 : underGo fr to_ pre = ((underGo fr to_ pre).1, true) := by rw [← hgo]
    rw [hs1] at hstep
    generalize (underGo fr to_ pre).1 = G at *
    dsimp only [wayV]
    gi_wp2
    have g1 := World.grownBy_alloc W (.cells #[.int .i64 dmv, .int .i64 dfr, .int .i64 dto, .slice As dl.length cs, .bool dcame] 42) none
    refine ⟨keeps_below _ ((Below.refl _ W).alloc (Nat.le_refl _) _), KpX.of_grown g1 (fun g e => by cases e), fun W2 hg2 o2 ho21 ho22 => ?_⟩
    have ho2 : ∃ o : Obj, (W.alloc (.cells #[.int .i64 dmv, .int .i64 dfr, .int .i64 dto, .slice As dl.length cs, .bool dcame] 42)).heap[l]? = some o ∧ o.isCells = false := ⟨o2, ho21, ho22⟩
    have hb8 := ob_keep (Ob.new W 42 #[.int .i64 dmv, .int .i64 dfr, .int .i64 dto, .slice As dl.length cs, .bool dcame]) hg2 (fun r e => by cases e; exact ho2)
    replace hb0 := ob_keep (hb0.alloc _) hg2 (fun r e => by cases e; exact ho2)
    replace hb1 := ob_keep (hb1.alloc _) hg2 (fun r e => by cases e; exact ho2)
    replace hb2 := ob_keep (hb2.alloc _) hg2 (fun r e => by cases e; exact ho2)
    replace hb3 := ob_keep (hb3.alloc _) hg2 (fun r e => by cases e; exact ho2)
    replace hown := row_keep (hown.alloc _) hg2 (fun r e => by cases e; exact ho2)
    replace hB : Below w.heap.size w5 W2 := (hB.alloc (by have := hB.size; omega) (.cells #[.int .i64 dmv, .int .i64 dfr, .int .i64 dto, .slice As dl.length cs, .bool dcame] 42)).grown hg2 (by have := hB.size; simp; omega) (fun k e => by cases e; omega)
    have hsl : ItemsAt W2 0 W2.heap.size (.slice As dl.length cs) dl := (sl_keep (Sl.below hsv ((Below.refl _ W).alloc (Nat.le_refl _) (.cells #[.int .i64 dmv, .int .i64 dfr, .int .i64 dto, .slice As dl.length cs, .bool dcame] 42))) hg2 (fun r e => by cases e; exact ho2) (by simp)).wide (Nat.zero_le _) (by have := hg2.size; simp at this; omega)
    have d0 := hb8.cell (j := 0) (v := .int .i64 dmv) rfl
    have d1 := hb8.cell (j := 1) (v := .int .i64 dfr) rfl
    have d2 := hb8.cell (j := 2) (v := .int .i64 dto) rfl
    have d3 := hb8.cell (j := 3) (v := .slice As dl.length cs) rfl
    have d4 := hb8.cell (j := 4) (v := .bool dcame) rfl
    have c0 := hb0.cell (j := 0) (v := .int .i64 fr) rfl
    have c1 := hb1.cell (j := 0) (v := .int .i64 to_) rfl
    have c3 := hb3.cell (j := 0) (v := .slice Ao G.length co) rfl
    have f3 := hb3.frozen 0
    have f2 := hb2.frozen 0
    have cP := Lib.hid (plus_calls G dl (.slice Ao G.length co) (.slice As dl.length cs) W2 (toAt hown) hsl hFg hFl)
    have hsk : skipW fr to_ ⟨dmv, dfr, dto, dl, dcame⟩ = (dcame || decide (dfr ≠ fr) || decide (dto ≠ to_)) := rfl
    have HS := Lib.hid hstep
    clear hstep hlen hsv ho2 ho21 ho22 hFl hFg hsk hs1 hgo
    cases hsb : skipW fr to_ ⟨dmv, dfr, dto, dl, dcame⟩ with
    | true =>
      have hst : underGo fr to_ (pre ++ [⟨dmv, dfr, dto, dl, dcame⟩]) = (G, true) := HS.out.trans (by unfold underStep; simp [hsb])
      have HT := Lib.hid hst
      have hfin : Rr.rpost w5.heap.size (KpX X5) (fun pre W => Ob W w.heap.size 3 #[.int .i64 fr] ∧ Ob W (w.heap.size + 1) 3 #[.int .i64 to_] ∧ Ob W (w.heap.size + 1 + 1) 30 #[.slice none 0 0] ∧ Below w.heap.size w5 W ∧ (underGo fr to_ pre).2 = true ∧
          ∃ v, Ob W (w.heap.size + 1 + 1 + 1) 30 #[v] ∧ W.ownsRow w.heap.size 36 2 v (underGo fr to_ pre).1.length (itemCells (underGo fr to_ pre).1))
          (fun c pre W => c = .ret ∧ Below w.heap.size w5 W ∧ (underGo fr to_ pre).2 = false ∧
      ∃ v, Ob W (w.heap.size + 1 + 1) 30 #[v] ∧ W.ownsRow w.heap.size 36 2 v (underGo fr to_ pre).1.length (itemCells (underGo fr to_ pre).1)) (pre ++ [⟨dmv, dfr, dto, dl, dcame⟩]) W2 .normal ⟨#[], []⟩ W2 := by
        refine ⟨keeps_below _ (Below.refl _ _), KpX.refl _ _, hb0, hb1, hb2, hB, by rw [HT.out], _, hb3, ?_⟩
        rw [HT.out]; exact hown
      have HF := Lib.hid hfin
      unfold skipW at hsb
      clear hfin hst hb0 hb1 hb2 hb3 hB hown
      dsimp only at hsb
      cases hc : dcame with
      | true =>
        subst hc
        clear hsb
        gi_wp2
        exact HF.out
      | false =>
        subst hc
        by_cases e1 : dfr = fr
        · subst e1
          by_cases e2 : dto = to_
          · subst e2; simp at hsb
          · have q2 : (dto != to_) = true := by simpa using e2
            have q1 : (dfr != dfr) = false := by simp
            clear hsb
            gi_wp2
            exact HF.out
        · have q1 : (dfr != fr) = true := by simpa using e1
          clear hsb
          gi_wp2
          exact HF.out
    | false =>
      unfold skipW at hsb
      simp only [Bool.or_eq_false_iff, decide_eq_false_iff_not, Decidable.not_not] at hsb
      obtain ⟨⟨rfl, rfl⟩, rfl⟩ := hsb
      have HS2 := Lib.hid (show underGo dfr dto (pre ++ [⟨dmv, dfr, dto, dl, false⟩]) = if (plusOf G dl).2 = 0 then ((plusOf G dl).1, true) else (G, false) from HS.out.trans (by unfold underStep; simp [skipW]))
      clear HS HG
      generalize plusOf G dl = R at *
      obtain ⟨Rl, Rc⟩ := R
      dsimp only at cP HS2
      have q1 : (dfr != dfr) = false := by simp
      have q2 : (dto != dto) = false := by simp
      by_cases hc0 : Rc = 0
      · subst hc0
        gi_wp2_with (refine ⟨trivial, ?_⟩; gi_at_call 45; refine (callsIn_wide.2 cP.out).mono ?_; rintro e W3 ⟨⟨rv, rfl, hrv⟩, hb3'⟩; have f33 := (hb3.same hb3').frozen 0; have c33 := (hb3.same hb3').cell (j := 0) (v := .slice Ao G.length co) rfl; obtain ⟨Ar, cr, rfl, -⟩ := (ItemsAt.of_own hrv).form)
        generalize hrr : Value.slice Ar Rl.length cr = rv at *
        have H2 : underGo dfr dto (pre ++ [⟨dmv, dfr, dto, dl, false⟩]) = (Rl, true) := by simpa using HS2.out
        have g3 := only_of_below hb3' none
        refine ⟨keeps_set (keeps_below _ hb3') _ _, (KpX.of_grown g3 (fun g e => by cases e)).trans (KpX.of_grown (grownBy_set W3 _ 0 rv) (fun g e => by cases e; exact hx3)), ((hb0.same hb3').other (by omega) 0 rv), ((hb1.same hb3').other (by omega) 0 rv), ((hb2.same hb3').other (by omega) 0 rv), ?_, by rw [H2], rv, (hb3.same hb3').set 0 rv, ?_⟩
        · exact (hB.trans (hb3'.mono (by have := hB.size; omega))).grown (grownBy_set W3 _ 0 rv) (by have := hB.size; have := hb3'.size; omega) (fun k e => by cases e; omega)
        · rw [H2]; exact ownsRow_wide (ownsRow_far hrv (grownBy_set W3 _ 0 rv) (by have := hB.size; omega)) (by have := hB.size; omega)
      · have hcb : (Rc != 0) = true := by simpa using hc0
        gi_wp2_with (refine ⟨trivial, ?_⟩; gi_at_call 45; refine (callsIn_wide.2 cP.out).mono ?_; rintro e W3 ⟨⟨rv, rfl, hrv⟩, hb3'⟩; have f33 := (hb2.same hb3').frozen 0; have c34 := (hb2.same hb3').cell (j := 0) (v := .slice none 0 0) rfl; have c33 := (hb3.same hb3').cell (j := 0) (v := .slice Ao G.length co) rfl)
        have H2 : underGo dfr dto (pre ++ [⟨dmv, dfr, dto, dl, false⟩]) = (G, false) := HS2.out.trans (if_neg hc0)
        have g3 := only_of_below hb3' none
        refine ⟨keeps_set (keeps_below _ hb3') _ _, rfl, ?_, by rw [H2], _, (hb2.same hb3').set 0 (.slice Ao G.length co), ?_⟩
        · exact (hB.trans (hb3'.mono (by have := hB.size; omega))).grown (grownBy_set W3 _ 0 _) (by have := hB.size; have := hb3'.size; omega) (fun k e => by cases e; omega)
        · rw [H2]
          have hrow := row_below hown hb3'
          exact hrow.kept (grownBy_set W3 _ 0 _) (.inr (Boxed.not_row (hb2.same hb3') (by decide) hrow).symm)
  case done =>
    rintro D xs W hD rfl ⟨hb0, hb1, hb2, hB, hgo, ov, hb3, hown⟩ hK
    obtain ⟨Ao, co, rfl, -⟩ := (ItemsAt.of_own hown).form
    have c3 := hb3.cell (j := 0) (v := .slice Ao (underGo fr to_ xs).1.length co) rfl
    have c2 := hb2.cell (j := 0) (v := .slice none 0 0) rfl
    have f2 := hb2.frozen 0
    change W.ownsRow w.heap.size 36 2 (.slice Ao (underOf fr to_ xs).length co) (underOf fr to_ xs).length (itemCells (underOf fr to_ xs)) at hown
    have hU : (underGo fr to_ xs).1 = underOf fr to_ xs := rfl
    rw [hU] at c3 hb3
    generalize underOf fr to_ xs = U at *
    have hne : some (w.heap.size + 1 + 1) ≠ (Value.slice Ao U.length co).ownBlock := Boxed.not_row hb2 (by decide) hown
    have hb22 := hb2.set 0 (.slice Ao U.length co)
    have hown2 := hown.kept (grownBy_set W (w.heap.size + 1 + 1) 0 (.slice Ao U.length co)) (.inr hne.symm)
    have hBB := hB.grown (grownBy_set W (w.heap.size + 1 + 1) 0 (.slice Ao U.length co)) (by have := hB.size; omega) (fun k e => by cases e; omega)
    have hK2 : (W.setCell ⟨w.heap.size + 1 + 1, 0, none⟩ (.slice Ao U.length co)).heap[D]? = some (.deferred (some [])) := ((grownBy_set W (w.heap.size + 1 + 1) 0 (.slice Ao U.length co)).block D (Array.getElem?_eq_some_iff.1 hK).1 (fun e => by cases e; omega)).trans hK
    have HU : underOf fr to_ xs = U := hU
    gi_wp2
    refine ⟨by simp, .inl ⟨_, _, rfl, run_takeDeferred hK2, ?_⟩⟩
    have hown3 := row_keep hown2 (grownBy_putObj' _ D (.deferred none)) (fun r e => by cases e; exact ⟨_, hK2, rfl⟩)
    have c4 := (boxed_end hb22 hK2).cell
    refine ⟨.slice Ao U.length co, ?_, ⟨_, rfl, by rw [HU]; exact hown3⟩, below_end (hB5.trans hBB) (by omega) hK2⟩
    simp [results, Try.f22, go_sem, c4]
  case stop =>
    rintro D c pre W hD hp ⟨rfl, hB, hgo, ov, hb2, hown⟩ hK
    have hst := under_stop hp hgo
    have hU : (underGo fr to_ pre).1 = underOf fr to_ ds := by unfold underOf; rw [hst]
    rw [hU] at hown
    clear hst hU hgo hp
    have c2 := hb2.cell (j := 0) (v := ov) rfl
    gi_wp2
    have hown2 := hown
    have hK2 := hK
    have hb22 := hb2
    have hBB := hB
    refine ⟨by simp, .inl ⟨_, _, rfl, run_takeDeferred hK2, ?_⟩⟩
    have hown3 := row_keep hown2 (grownBy_putObj' _ D (.deferred none)) (fun r e => by cases e; exact ⟨_, hK2, rfl⟩)
    have c4 := (boxed_end hb22 hK2).cell
    refine ⟨ov, ?_, ⟨_, rfl, hown3⟩, below_end (hB5.trans hBB) (by omega) hK2⟩
    simp [results, Try.f22, go_sem, c4]
end Mv
end Go.Proofs.Ytdbkkldgobkjcaa
