/-
  sagas played: what the laws lay.
-/
import Derived.Test.YthfpfomifebpbaaPz12
import Derived.Test.YthfpfomifebpbaaPy1
import Derived.Laws.MakeOwn
import Derived.Deep.DeepCutAuto

set_option linter.unusedVariables false
set_option linter.unusedSimpArgs false
namespace Go.Proofs.Ythfpfomifebpbaa
open Go.RowKit Go.Maps
namespace Sa
open It
set_option linter.unusedSimpArgs false

/-- what a region has: nonsense is 3 -/
def adj (x : Int) : Int := if x < 0 ∨ 1073741824 < x then 3 else x
theorem adj_bd (x : Int) : 0 ≤ adj x ∧ adj x ≤ 1073741824 := by unfold adj; split <;> omega
def haveF (L : List Int) (i : Nat) : Int := adj (L.getD i 0)
def haveL (L : List Int) (k : Nat) : List Int := (List.range k).map (haveF L)
theorem haveL_succ (L : List Int) (k : Nat) : haveL L (k + 1) = haveL L k ++ [haveF L k] := by simp [haveL, List.range_succ]
theorem haveL_len (L : List Int) (k : Nat) : (haveL L k).length = k := by simp [haveL]
theorem haveF_sum (L : List Int) : ∀ k, 0 ≤ sumF (haveF L) k ∧ sumF (haveF L) k ≤ k * 1073741824
  | 0 => ⟨Int.le_refl _, Int.le_refl _⟩
  | k + 1 => by
    have h1 := haveF_sum L k
    have h2 := adj_bd (L.getD k 0)
    have e : haveF L k = adj (L.getD k 0) := rfl
    simp only [sumF]
    omega
theorem madeInts (n : Nat) : ∀ i, i < n → (madeCells (Value.int .i64 0).cells (n * 1))[i]? = some (.int .i64 0) := fun i hi => by
  have hz : (Value.int .i64 0).cells = #[.int .i64 0] := rfl
  unfold madeCells
  rw [hz]
  simp [Nat.mod_one, hi]
def preC (vf : Value) (hb kb gb n : Nat) : Array Value := #[.int .i64 0, .int .i64 0, .int .i64 0, .slice none 0 0, .bool false, .int .i64 0, .int .i64 0, .slice none 0 0, .slice none 0 0, .bool false, vf, .slice (some ⟨hb, 0, none⟩) n n, .slice (some ⟨kb, 0, none⟩) n n, .slice (some ⟨gb, 0, none⟩) n n, .slice none 0 0]
/-- a play before its saga begins -/
structure PreAt (w0 : Nat) (V : World) (b hb kb gb n : Nat) (vf : Value) : Prop where
  ob : Ob V b 39 (preC vf hb kb gb n)
  h : Vec V hb n fun _ => 0
  k : Vec V kb n fun _ => 0
  g : Vec V gb n fun _ => 0
  lo : w0 ≤ b ∧ w0 ≤ hb ∧ w0 ≤ kb ∧ w0 ≤ gb
  ne : b ≠ hb ∧ b ≠ kb ∧ b ≠ gb ∧ hb ≠ kb ∧ hb ≠ gb ∧ kb ≠ gb
theorem PreAt.same {w0 : Nat} {V V' : World} {b hb kb gb n : Nat} {vf : Value} (h : PreAt w0 V b hb kb gb n vf) (hb' : Below V.heap.size V V') : PreAt w0 V' b hb kb gb n vf := ⟨h.ob.same hb', h.h.same hb', h.k.same hb', h.g.same hb', h.lo, h.ne⟩
theorem PreAt.vf {w0 : Nat} {V V' : World} {b hb kb gb n : Nat} {vf vf' : Value} (h : PreAt w0 V b hb kb gb n vf) (hg : V.grownBy V' vf.ownBlock) (hn : ∀ g, vf.ownBlock = some g → g ≠ b ∧ g ≠ hb ∧ g ≠ kb ∧ g ≠ gb) : PreAt w0 (V'.setCell ⟨b, 10, none⟩ vf') b hb kb gb n vf' := by
  have ne : ∀ i, (i = b ∨ i = hb ∨ i = kb ∨ i = gb) → some i ≠ vf.ownBlock := fun i hi e => by
    have := hn i e.symm
    omega
  obtain ⟨n1, n2, n3, n4, n5, n6⟩ := h.ne
  exact ⟨(h.ob.kept hg (ne _ (.inl rfl))).set 10 vf', (h.h.kept hg (ne _ (.inr (.inl rfl)))).other n1.symm, (h.k.kept hg (ne _ (.inr (.inr (.inl rfl))))).other n2.symm, (h.g.kept hg (ne _ (.inr (.inr (.inr rfl))))).other n3.symm, h.lo, h.ne⟩
theorem pre_make {w : World} {V : World} {n x1 x2 x3 : Nat} {MC : Array Value} (hM : ∀ i, i < n → MC[i]? = some (.int .i64 0)) (h1 : Ob V x1 3 MC) (h2 : Ob V x2 3 MC) (h3 : Ob V x3 3 MC) {b : Nat} (h4 : Ob V b 39 (preC (.slice none 0 0) x1 x2 x3 n))
    (hl : w.heap.size ≤ b ∧ w.heap.size ≤ x1 ∧ w.heap.size ≤ x2 ∧ w.heap.size ≤ x3) (hn : b ≠ x1 ∧ b ≠ x2 ∧ b ≠ x3 ∧ x1 ≠ x2 ∧ x1 ≠ x3 ∧ x2 ≠ x3) : PreAt w.heap.size V b x1 x2 x3 n (.slice none 0 0) :=
  ⟨h4, ⟨MC, h1, hM⟩, ⟨MC, h2, hM⟩, ⟨MC, h3, hM⟩, hl, hn⟩
theorem begin_eq {first W : Int} {n : Nat} {waits : Bool} (n1 : 1 ≤ n) (n8 : n ≤ 8) (f1 : 0 ≤ first) (f2 : first < n) (W1 : 1 ≤ W) (W2 : W ≤ 1073741824) : beginS 65 first n (it1 W) waits = .ok (saga1 65 first n (it1 W) waits, [⟨3, first, it1 W, 0⟩]) := by
  unfold beginS beginU
  rw [if_neg, begin_ok (by omega) (by omega) n1 n8 f1 f2 W1 W2, if_pos rfl]
  · rfl
  · rw [visit_some (by omega)]
    simp
    omega
theorem way_one {w : World} {g : Nat} {x : Step} {xv : Value} (hob : Ob w g 52 #[.int .i64 x.kind, .int .i64 x.region, xv, .int .i64 x.state]) : Way w 52 4 (.slice (some ⟨g, 0, none⟩) 1 1) 1 (stepsC [x] [xv]) :=
  ⟨rfl, .inr ⟨g, 0, 1, _, rfl, Nat.le_refl _, by unfold maxLen; omega, hob, Nat.le_refl _, fun j hj => by
    have hj4 : j < 4 := hj
    rcases j with _ | _ | _ | _ | j
    all_goals first | rfl | omega⟩⟩
theorem vec_own {w : World} {base n : Nat} {v : Value} {l : List Int} (h : w.ownsRow base 3 1 v n (ints l)) (hn : 0 < n) : ∃ g cap, v = .slice (some ⟨g, 0, none⟩) n cap ∧ n ≤ cap ∧ base ≤ g ∧ Vec w g n fun i => l.getD i 0 := by
  have hl := h.1
  rcases h.2 with ⟨-, h0⟩ | ⟨g, cap, cur, h1, h2, h3, h4, h5, h6, h7⟩
  · omega
  · refine ⟨g, cap, h1, h4, h2, cur, h3, fun i hi => ?_⟩
    have hil : i < l.length := by
      have : (ints l).length = l.length := by simp [ints]
      omega
    have h8 : (ints l)[i]? = some (.int .i64 (l.getD i 0)) := by
      unfold ints
      rw [List.getElem?_map, List.getElem?_eq_getElem hil, List.getD, List.getElem?_eq_getElem hil]
      rfl
    rw [← h8, ← h7, List.getElem?_take, if_pos (by omega), Array.getElem?_toList]
theorem haveL_get {L : List Int} {n i : Nat} (hi : i < n) : (haveL L n).getD i 0 = haveF L i := by
  unfold haveL
  rw [List.getD, List.getElem?_map, List.getElem?_range hi]
  rfl
theorem pre_there {V : World} {b hb kb gb n : Nat} {vf : Value} (h : Ob V b 39 (preC vf hb kb gb n)) : V.there b 0 10 := fun j hj => by
  refine ⟨?_, h.frozen _⟩
  rw [Nat.zero_add, h.cell (Array.getElem?_eq_getElem (show j < (preC vf hb kb gb n).size by show j < 15; omega))]
  rfl
theorem pre_put {V : World} {b fb hb kb gb n cf : Nat} (h : Ob V b 39 (preC (.slice (some ⟨fb, 0, none⟩) n cf) hb kb gb n)) (s : Saga) (vw vg vp : Value) :
    Ob (V.setCells b 0 (sagaC s vw vg vp).toList) b 39 (playC s vw vg vp fb hb kb gb n cf (.slice none 0 0)) := by
  have h2 := h.cells (sagaC s vw vg vp).toList 0
  have e : setR (preC (.slice (some ⟨fb, 0, none⟩) n cf) hb kb gb n) 0 (sagaC s vw vg vp).toList = playC s vw vg vp fb hb kb gb n cf (.slice none 0 0) := by simp [setR, sagaC, playC, preC]
  rw [e] at h2
  exact h2
theorem inv_start {n : Nat} {W first : Int} {waits : Bool} {F : Nat → Int} (n1 : 1 ≤ n) (n8 : n ≤ 8) (f1 : 0 ≤ first) (f2 : first < n) (W1 : 1 ≤ W) (W2 : W ≤ 1073741824) (hF : ∀ i, i < n → 0 ≤ F i) :
    Inv n W (sumF F n) ⟨saga1 65 first n (it1 W) waits, F, fun _ => 0, fun _ => 0, fun _ => 0, [⟨3, first, it1 W, 0⟩]⟩ (fun _ => 0) := by
  have hm := begin_ok (order := 65) (waits := waits) (by omega) (by omega) n1 n8 f1 f2 W1 W2
  have hg : (saga1 65 first n (it1 W) waits).got = List.replicate n [] := by show List.replicate ((n : Int).toNat) [] = _; rw [Int.toNat_natCast]
  refine ⟨n1, n8, W1, W2, hm, rfl, rfl, ?_, fun _ _ => Int.le_refl _, hF, ?_, fun r hr => ?_, ?_⟩
  · show (saga1 65 first n (it1 W) waits).got = _
    rw [hg, gotQ_zero fun _ _ => Int.le_refl _]
  · show sumF F n + sumF (fun _ => 0) n = _
    rw [sumF_zero fun _ _ => rfl]
    omega
  · have hp : phase (saga1 65 first n (it1 W) waits) r = 0 := phase_zero (by show (1 : Int) ≠ 7 ∧ (1 : Int) ≠ 8 ∧ (1 : Int) ≠ 9 ∧ (1 : Int) ≠ 10; omega) r
    show AtP (phase (saga1 65 first n (it1 W) waits) r) 0 0 0 0
    rw [hp]
    exact ⟨fun _ => ⟨rfl, rfl, rfl⟩, fun e => (by omega), fun e => (by omega)⟩
  · show _ = [(⟨3, first, leftR (it1 W) (saga1 65 first n (it1 W) waits).got, 0⟩ : Step)]
    rw [hg, leftR_none (it1_M (by omega))]
theorem fair_start {n : Nat} {W T first : Int} {waits : Bool} {F : Nat → Int} : Fair n W T waits ⟨saga1 65 first n (it1 W) waits, F, fun _ => 0, fun _ => 0, fun _ => 0, [⟨3, first, it1 W, 0⟩]⟩ :=
  ⟨rfl, rfl, .inl ⟨rfl, fun x hx => by
    have hx : x ∈ (visit first n).take (((1 : Int) - 1).toNat) := hx
    simp at hx⟩⟩
/-- the saga begins -/
theorem PlayAt.start {w0 : Nat} {V : World} {b fb hb kb gb n cf lo g : Nat} {s : Saga} {vw vg vp xv : Value} {x : Step} {F : Nat → Int} (hpre : PreAt w0 V b hb kb gb n (.slice (some ⟨fb, 0, none⟩) n cf)) (hf : Vec V fb n F) (hn : fb ≠ b ∧ fb ≠ hb ∧ fb ≠ kb ∧ fb ≠ gb)
    (hlo : b < lo ∧ fb < lo ∧ hb < lo ∧ kb < lo ∧ gb < lo) (hP : Parts V lo g s vw vg vp) (hg : lo ≤ g) (hob4 : Ob V g 52 #[.int .i64 x.kind, .int .i64 x.region, xv, .int .i64 x.state]) (hx : ItemsAt V lo g xv x.items) :
    PlayAt ((V.setCells b 0 (sagaC s vw vg vp).toList).setCell ⟨b, 14, none⟩ (.slice (some ⟨g, 0, none⟩) 1 1)) ⟨b, fb, hb, kb, gb, cf⟩ n ⟨s, F, fun _ => 0, fun _ => 0, fun _ => 0, [x]⟩ vw vg vp (.slice (some ⟨g, 0, none⟩) 1 1) ∧ V.grownBy ((V.setCells b 0 (sagaC s vw vg vp).toList).setCell ⟨b, 14, none⟩ (.slice (some ⟨g, 0, none⟩) 1 1)) (some b) := by
  have hgr := (grown_cells (b := b) (sagaC s vw vg vp).toList V 0).trans (grownBy_set (V.setCells b 0 (sagaC s vw vg vp).toList) b 14 (.slice (some ⟨g, 0, none⟩) 1 1))
  obtain ⟨n1, n2, n3, n4, n5, n6⟩ := hpre.ne
  obtain ⟨m1, m2, m3, m4⟩ := hn
  obtain ⟨l1, l2, l3, l4, l5⟩ := hlo
  have hgl := hob4.lt
  have hob : Ob (V.setCells b 0 (sagaC s vw vg vp).toList) b 39 (playC s vw vg vp fb hb kb gb n cf (.slice none 0 0)) := by
    have h2 := hpre.ob.cells (sagaC s vw vg vp).toList 0
    have e : setR (preC (.slice (some ⟨fb, 0, none⟩) n cf) hb kb gb n) 0 (sagaC s vw vg vp).toList = playC s vw vg vp fb hb kb gb n cf (.slice none 0 0) := by simp [setR, sagaC, playC, preC]
    rw [e] at h2
    exact h2
  have hno : ∀ i, lo ≤ i → i < g → ¬ (Bl.mk b fb hb kb gb cf).av (.slice (some ⟨g, 0, none⟩) 1 1) i := fun i ha hi hx => by
    rcases hx with (rfl | rfl | rfl | rfl | rfl) | hx
    · exact absurd l1 (by show ¬ _ < _; omega)
    · exact absurd l2 (by show ¬ _ < _; omega)
    · exact absurd l3 (by show ¬ _ < _; omega)
    · exact absurd l4 (by show ¬ _ < _; omega)
    · exact absurd l5 (by show ¬ _ < _; omega)
    · have e2 : g = i := Option.some.inj hx; omega
  have hbav : (Bl.mk b fb hb kb gb cf).av (.slice (some ⟨g, 0, none⟩) 1 1) b := .inl (.inl rfl)
  refine ⟨⟨⟨m1.symm, n1, n2, n3, m2, m3, m4, n4, n5, n6⟩, hob.set 14 _, hf.kept hgr (fun e => m1 (Option.some.inj e)), hpre.h.kept hgr (fun e => n1 (Option.some.inj e).symm), hpre.k.kept hgr (fun e => n2 (Option.some.inj e).symm), hpre.g.kept hgr (fun e => n3 (Option.some.inj e).symm), (PartsA.of hP (Nat.le_of_lt hgl) hno).grow hgr hbav, ⟨[xv], rfl, (way_one hob4).kept hgr (.inr fun e => by have e2 : g = b := Option.some.inj e; omega), fun k hk => ?_⟩, fun i hi => ?_⟩, hgr⟩
  · have hk0 : k = 0 := by have : k < 1 := hk; omega
    subst hk0
    exact (SlA.of hx (Nat.le_of_lt hgl) hno).grow hgr hbav
  · cases hi
    rintro (e | e | e | e | e)
    · have e : g = b := e; omega
    · have e : g = fb := e; omega
    · have e : g = hb := e; omega
    · have e : g = kb := e; omega
    · have e : g = gb := e; omega
theorem four_a (w : World) (c : Array Value) (t : TypeId) (o2 o3 o4 : Obj) : Ob ((((w.alloc (.cells c t)).alloc o2).alloc o3).alloc o4).drew w.heap.size t c := (((Ob.new w t c).alloc o2).alloc o3).alloc o4
theorem four_b (w : World) (c : Array Value) (t : TypeId) (o1 o3 o4 : Obj) : Ob ((((w.alloc o1).alloc (.cells c t)).alloc o3).alloc o4).drew (w.heap.size + 1) t c := by
  have := ((Ob.new (w.alloc o1) t c).alloc o3).alloc o4
  rwa [World.size_alloc] at this
theorem four_c (w : World) (c : Array Value) (t : TypeId) (o1 o2 o4 : Obj) : Ob ((((w.alloc o1).alloc o2).alloc (.cells c t)).alloc o4).drew (w.heap.size + 1 + 1) t c := by
  have := (Ob.new ((w.alloc o1).alloc o2) t c).alloc o4
  rwa [World.size_alloc, World.size_alloc] at this
theorem four_d (w : World) (c : Array Value) (t : TypeId) (o1 o2 o3 : Obj) : Ob ((((w.alloc o1).alloc o2).alloc o3).alloc (.cells c t)).drew (w.heap.size + 1 + 1 + 1) t c := by
  have := Ob.new (((w.alloc o1).alloc o2).alloc o3) t c
  rwa [World.size_alloc, World.size_alloc, World.size_alloc] at this
theorem four_below (w : World) (o1 o2 o3 o4 : Obj) : Below w.heap.size w ((((w.alloc o1).alloc o2).alloc o3).alloc o4).drew := ((((((Below.refl _ w).alloc (Nat.le_refl _) _).alloc (by simp) _).alloc (by simp; omega) _).alloc (by simp; omega) _)).drew
end Sa
end Go.Proofs.Ythfpfomifebpbaa
