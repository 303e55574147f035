/-
  saga: what an event's steps are.
  sagas played, plain: one good, what regions have of it.
  sagas played, plain: the law's own events.
  sagas played, plain: a region is asked.
  sagas played, plain: each step that comes, and the end.
-/
import Derived.Test.YthfpfomifebpbaaPz1

set_option linter.unusedVariables false
set_option linter.unusedSimpArgs false
namespace Go.Proofs.Ythfpfomifebpbaa
open Go.RowKit Go.Maps
namespace Sa
open It

def StepOk (t : Saga) (x : Step) : Prop :=
  (x.kind = 100 ∧ x.state = t.state) ∨ (x.kind = 3 ∧ 0 ≤ x.region ∧ x.region < t.regions ∧ x.items = leftR t.want t.got) ∨
  (x.kind ≠ 100 ∧ x.kind ≠ 3 ∧ 0 ≤ x.region ∧ x.region < t.regions ∧ (t.got.getD x.region.toNat []).length ≠ 0 ∧ x.items = [])
structure TOk (t : Saga) : Prop where
  got : (t.got.length : Int) = t.regions
  reg : t.regions ≤ 8
  want : t.want.length ≤ 16
theorem steps_told {t : Saga} {st : Int} (h : st = t.state) : ∀ x ∈ told st, StepOk t x := by
  intro x hx
  obtain rfl := List.mem_singleton.1 hx
  exact .inl ⟨rfl, h⟩
theorem steps_each {t : Saga} {kind : Int} (hg : (t.got.length : Int) = t.regions) (h1 : kind ≠ 100) (h2 : kind ≠ 3) : ∀ x ∈ eachL kind (holders t.got), StepOk t x := by
  intro x hx
  obtain ⟨r, hr, rfl⟩ := List.mem_map.1 hx
  obtain ⟨i, rfl, hi, hl⟩ := holders_mem hr
  refine .inr (.inr ⟨h1, h2, by show (0 : Int) ≤ (i : Int); omega, by show (i : Int) < t.regions; omega, ?_, rfl⟩)
  show (t.got.getD (i : Int).toNat []).length ≠ 0
  rw [Int.toNat_natCast]
  omega
def Good (r : Saga × List Step) : Prop := TOk r.1 ∧ ∀ x ∈ r.2, StepOk r.1 x
theorem good_end {t : Saga} (h : TOk t) : Good (endS t, told (endSt t)) := ⟨⟨h.got, h.reg, h.want⟩, steps_told rfl⟩
theorem good_none {t : Saga} (h : TOk t) : Good (t, []) := ⟨h, fun x hx => by simp at hx⟩
theorem good_undo {t : Saga} (h : TOk t) : Good (undoS t) := by
  unfold undoS
  split
  · exact good_end h
  · exact ⟨⟨h.got, h.reg, h.want⟩, steps_each (t := eachS t 4) h.got (by omega) (by omega)⟩
theorem leftR_none {want : List It.Item} (hw : M want) (n : Nat) : leftR want (List.replicate n []) = want := by
  have hL : ∀ l ∈ List.replicate n ([] : List It.Item), M l := fun l hl => by rw [(List.mem_replicate.1 hl).2]; exact M_nil
  obtain ⟨h1, h2⟩ := leftR_M hw hL
  refine M.ext h1 hw fun k => ?_
  rw [h2]
  have e : sumT k (List.replicate n ([] : List It.Item)) = 0 := by
    induction n with
    | zero => rfl
    | succ n ih =>
      rw [List.replicate_succ, sumT_cons, ih fun l hl => hL l (by rw [List.replicate_succ]; exact List.mem_cons_of_mem _ hl)]
      · rfl
      · exact (leftR_M hw fun l hl => hL l (by rw [List.replicate_succ]; exact List.mem_cons_of_mem _ hl)).1
      · exact (leftR_M hw fun l hl => hL l (by rw [List.replicate_succ]; exact List.mem_cons_of_mem _ hl)).2
  rw [e]
  have := hw.nonneg k
  omega
theorem good_begin {order first regions : Int} {want : List It.Item} {waits : Bool} {r : Saga × List Step} (h : beginS order first regions want waits = .ok r) : Good r := by
  unfold beginS beginU at h
  split at h
  · cases h
  · split at h
    · rename_i hm
      cases h
      have hh := (mayS_split hm).1
      have hM := (mayS_M hm).1
      have hf : (saga1 order first regions want waits).first = first := rfl
      refine ⟨⟨hh.got, hh.r2, by have := may_len hh.may; exact this⟩, fun x hx => ?_⟩
      obtain rfl := List.mem_singleton.1 hx
      exact .inr (.inl ⟨rfl, hh.f1, hh.f2, (leftR_none hM _).symm⟩)
    · cases h
theorem next_good {s : Saga} {e : Ev} {r : Saga × List Step} (h : nextS s e = .ok r) : Good r := by
  unfold nextS nextU at h
  split at h
  rotate_left
  · cases h
  rename_i hm
  obtain ⟨hh, hb⟩ := mayS_split hm
  obtain ⟨hMw, hMg, h8⟩ := mayS_M hm
  have hw16 : s.want.length ≤ 16 := may_len hh.may
  have hT : TOk s := ⟨hh.got, hh.r2, hw16⟩
  unfold happenS at h
  split at h
  · -- took
    unfold tookS tookU at h
    split at h
    · rename_i hst
      split at h
      · rename_i hc
        cases h
        obtain ⟨h1, hix⟩ := hst
        rcases idx_cases e.region s.pending with hi | ⟨i, hi, -, hgi⟩
        · exact absurd hi hix
        have hmem : e.region ∈ s.pending := by rw [← hgi, getD_get hi]; exact List.getElem_mem hi
        have hr := (pend_in hm).1 _ hmem
        have h0 := asked_none hm h1 hmem
        unfold covers at hc
        simp only [Bool.and_eq_true] at hc
        have hMe := M_of hc.1.2
        rw [missing_R hMw hMg h8] at hc ⊢
        have hML := (leftR_M hMw hMg).1
        rw [both_of hML hMe, left_set hMw hMg hMe (by omega) h0]
        have hT2 : TOk { s with pending := takeOff e.region s.pending, got := s.got.set e.region.toNat e.items } := ⟨by simpa using hh.got, hh.r2, hw16⟩
        unfold tookT
        split
        · exact good_undo hT2
        split
        · exact ⟨⟨hT2.got, hT2.reg, hT2.want⟩, steps_told rfl⟩
        split
        · rename_i hlt
          refine ⟨⟨hT2.got, hT2.reg, hT2.want⟩, fun x hx => ?_⟩
          obtain rfl := List.mem_singleton.1 hx
          have hv := hh.visit
          have ha := hh.a1
          have hlt' : s.asked < s.regions := hlt
          have hin : (visit s.first s.regions).getD s.asked.toNat 0 ∈ visit s.first s.regions := by
            rw [getD_get (show s.asked.toNat < (visit s.first s.regions).length by omega)]
            exact List.getElem_mem _
          have := visit_mem hin
          exact .inr (.inl ⟨rfl, this.1, this.2, rfl⟩)
        · exact good_undo hT2
      · cases h
    · cases h
  split at h
  · unfold freedS at h
    split at h
    · cases h
      have hT2 : TOk { s with pending := takeOff e.region s.pending, got := s.got.set e.region.toNat [] } := ⟨by simpa using hh.got, hh.r2, hw16⟩
      unfold freedT
      split
      · exact good_end hT2
      · exact good_none hT2
    · cases h
  split at h
  · unfold cancelS cancelAt at h
    have hT2 : TOk { s with cancelled := true } := ⟨hh.got, hh.r2, hw16⟩
    split at h
    · split at h
      · cases h
      · cases h
        exact good_none hT2
    split at h
    · cases h
      exact good_end hT2
    split at h
    · cases h
      exact good_undo hT2
    · cases h
  split at h
  · unfold retryS at h
    split at h
    · exact good_begin h
    · cases h
  split at h
  · unfold allS at h
    split at h
    · cases h
      exact ⟨⟨hT.got, hT.reg, hT.want⟩, steps_each (t := eachS s 7) hT.got (by omega) (by omega)⟩
    · cases h
  split at h
  · unfold didS didU at h
    split at h
    · split at h
      · cases h
        unfold didT
        split
        · exact ⟨⟨hT.got, hT.reg, hT.want⟩, steps_told rfl⟩
        · exact good_none ⟨hT.got, hT.reg, hT.want⟩
      · cases h
    · cases h
  split at h
  · unfold allS at h
    split at h
    · cases h
      exact ⟨⟨hT.got, hT.reg, hT.want⟩, steps_each (t := eachS s 9) hT.got (by omega) (by omega)⟩
    · cases h
  split at h
  · unfold didS didU at h
    split at h
    · split at h
      · cases h
        unfold didT
        split
        · exact ⟨⟨hT.got, hT.reg, hT.want⟩, steps_told rfl⟩
        · exact good_none ⟨hT.got, hT.reg, hT.want⟩
      · cases h
    · cases h
  · cases h
end Sa
end Go.Proofs.Ythfpfomifebpbaa

namespace Go.Proofs.Ythfpfomifebpbaa
open Go.RowKit Go.Maps
namespace Sa
open It
set_option linter.unusedSimpArgs false
def aB : ByteArray := ⟨#[97]⟩
/-- of one good so many -/
def it1 (k : Int) : List It.Item := if 0 < k then [(aB, k)] else []
def kA : Bs := [97]
theorem it1_pos {k : Int} (h : 0 < k) : it1 k = [(aB, k)] := if_pos h
theorem it1_no {k : Int} (h : k ≤ 0) : it1 k = [] := if_neg (by omega)
theorem it1_nil {k : Int} : it1 k = [] ↔ k ≤ 0 := by
  unfold it1
  split
  · simp; omega
  · simp; omega
theorem good_a : good aB = true := by decide +kernel
theorem it1_M {k : Int} (h : k ≤ 1099511627776) : M (it1 k) := by
  unfold it1
  split
  · exact ⟨by simp, fun x hx => by rw [List.mem_singleton.1 hx]; exact ⟨good_a, by dsimp only; omega, h⟩, List.pairwise_singleton _ _⟩
  · exact M_nil
theorem it1_tot {k : Int} (h0 : 0 ≤ k) (x : Bs) : tot x (it1 k) = if x = kA then k else 0 := by
  have e : key (aB, k) = kA := rfl
  unfold it1
  split
  · simp only [tot, e]
    by_cases h : x = kA
    · subst h; simp
    · rw [if_neg h, if_neg (fun e => h e.symm)]; rfl
  · have : k = 0 := by omega
    subst this
    simp [tot]
theorem it1_ext {l : List It.Item} {k : Int} (hM : M l) (h0 : 0 ≤ k) (h : k ≤ 1099511627776) (ht : ∀ x, tot x l = if x = kA then k else 0) : l = it1 k :=
  M.ext hM (it1_M h) fun x => (ht x).trans (it1_tot h0 x).symm
theorem it1_of {k : Int} (h0 : 0 ≤ k) (h : k ≤ 1099511627776) : ofSum aB (it1 k) = k := by
  rw [(it1_M h).of, it1_tot h0]
  exact if_pos rfl

def sumF (f : Nat → Int) : Nat → Int
  | 0 => 0
  | n + 1 => sumF f n + f n
def upd (f : Nat → Int) (r : Nat) (x : Int) : Nat → Int := fun i => if i = r then x else f i
theorem upd_at (f : Nat → Int) (r : Nat) (x : Int) : upd f r x r = x := if_pos rfl
theorem upd_ne {f : Nat → Int} {r i : Nat} {x : Int} (h : i ≠ r) : upd f r x i = f i := if_neg h
theorem sumF_same {f g : Nat → Int} : ∀ {n : Nat}, (∀ i, i < n → f i = g i) → sumF f n = sumF g n
  | 0, _ => rfl
  | n + 1, h => by simp only [sumF]; rw [sumF_same fun i hi => h i (by omega), h n (by omega)]
theorem sumF_upd {f : Nat → Int} {r : Nat} {x : Int} : ∀ {n : Nat}, r < n → sumF (upd f r x) n = sumF f n - f r + x
  | 0, h => by omega
  | n + 1, h => by
    simp only [sumF]
    rcases Nat.lt_or_ge r n with h1 | h1
    · rw [sumF_upd h1, upd_ne (by omega)]; omega
    · obtain rfl : r = n := by omega
      rw [upd_at, sumF_same (g := f) fun i hi => upd_ne (by omega)]; omega
theorem sumF_nonneg {f : Nat → Int} : ∀ {n : Nat}, (∀ i, i < n → 0 ≤ f i) → 0 ≤ sumF f n
  | 0, _ => Int.le_refl _
  | n + 1, h => by
    have h1 := sumF_nonneg (n := n) fun i hi => h i (by omega)
    have h2 := h n (by omega)
    simp only [sumF]; omega
theorem sumF_le {f : Nat → Int} {r : Nat} : ∀ {n : Nat}, (∀ i, i < n → 0 ≤ f i) → r < n → f r ≤ sumF f n
  | 0, _, h => by omega
  | n + 1, h, hr => by
    have h2 := h n (by omega)
    have h3 := sumF_nonneg (n := n) fun i hi => h i (by omega)
    simp only [sumF]
    rcases Nat.lt_or_ge r n with h1 | h1
    · have := sumF_le (fun i hi => h i (by omega)) h1; omega
    · obtain rfl : r = n := by omega
      omega
theorem sumF_zero {f : Nat → Int} {n : Nat} (h : ∀ i, i < n → f i = 0) : sumF f n = 0 := by
  rw [sumF_same (g := fun _ => 0) h]
  clear h
  induction n with
  | zero => rfl
  | succ n ih => simp only [sumF, ih]; omega
theorem sumF_add {f g : Nat → Int} : ∀ {n : Nat}, sumF (fun i => f i + g i) n = sumF f n + sumF g n
  | 0 => rfl
  | n + 1 => by simp only [sumF, sumF_add (n := n)]; omega

def gotQ (Q : Nat → Int) (n : Nat) : List (List It.Item) := (List.range n).map fun r => it1 (Q r)
theorem gotQ_len (Q : Nat → Int) (n : Nat) : (gotQ Q n).length = n := by simp [gotQ]
theorem gotQ_at {Q : Nat → Int} {n r : Nat} (hr : r < n) : (gotQ Q n).getD r [] = it1 (Q r) := by
  unfold gotQ
  rw [List.getD_eq_getElem?_getD, List.getElem?_map, List.getElem?_range hr]
  rfl
theorem gotQ_set {Q : Nat → Int} {n r : Nat} (x : Int) : (gotQ Q n).set r (it1 x) = gotQ (upd Q r x) n := by
  apply List.ext_getElem
  · simp [gotQ]
  · intro i h1 h2
    simp only [gotQ, List.getElem_set, List.getElem_map, List.getElem_range, upd]
    by_cases h : r = i
    · rw [if_pos h, if_pos h.symm]
    · rw [if_neg h, if_neg fun e => h e.symm]
theorem gotQ_same {Q Q' : Nat → Int} {n : Nat} (h : ∀ r, r < n → Q r = Q' r) : gotQ Q n = gotQ Q' n := by
  unfold gotQ
  apply List.map_congr_left
  intro i hi
  rw [h i (List.mem_range.1 hi)]
theorem gotQ_zero {Q : Nat → Int} {n : Nat} (h : ∀ r, r < n → Q r ≤ 0) : gotQ Q n = List.replicate n [] := by
  apply List.ext_getElem
  · simp [gotQ]
  · intro i h1 h2
    simp only [gotQ, List.getElem_map, List.getElem_range, List.getElem_replicate]
    exact it1_no (h i (by simpa [gotQ] using h1))
theorem sumT_gotQ {Q : Nat → Int} (k : Bs) : ∀ {n : Nat}, (∀ r, r < n → 0 ≤ Q r) → sumT k (gotQ Q n) = if k = kA then sumF Q n else 0
  | 0, _ => by simp [gotQ, sumT, sumF]
  | n + 1, h => by
    have ih := sumT_gotQ k (n := n) fun r hr => h r (by omega)
    have e : gotQ Q (n + 1) = gotQ Q n ++ [it1 (Q n)] := by simp [gotQ, List.range_succ]
    have e2 : ∀ (L : List (List It.Item)) (l : List It.Item), sumT k (L ++ [l]) = sumT k L + tot k l := fun L l => by
      induction L with
      | nil => simp [sumT]
      | cons x L ih => rw [List.cons_append, sumT_cons, ih, sumT_cons]; omega
    rw [e, e2, ih, it1_tot (h n (by omega))]
    by_cases hk : k = kA
    · simp only [if_pos hk, sumF]
    · simp only [if_neg hk]; rfl
theorem gotQ_M {Q : Nat → Int} {n : Nat} (h : ∀ r, r < n → Q r ≤ 1099511627776) : ∀ l ∈ gotQ Q n, M l := fun l hl => by
  unfold gotQ at hl
  obtain ⟨r, hr, rfl⟩ := List.mem_map.1 hl
  exact it1_M (h r (List.mem_range.1 hr))
theorem holdersQ {Q : Nat → Int} {n : Nat} {x : Int} : x ∈ holders (gotQ Q n) ↔ 0 ≤ x ∧ x < n ∧ 0 < Q x.toNat := by
  rw [holders_iff, gotQ_len]
  constructor
  · rintro ⟨h1, h2, h3⟩
    rw [gotQ_at (by omega)] at h3
    exact ⟨h1, h2, Int.not_le.1 fun h => h3 (it1_nil.2 h)⟩
  · rintro ⟨h1, h2, h3⟩
    rw [gotQ_at (by omega)]
    exact ⟨h1, h2, fun h => by have := it1_nil.1 h; omega⟩
theorem leftQ {Q : Nat → Int} {n : Nat} {W : Int} (hW : W ≤ 1099511627776) (h : ∀ r, r < n → 0 ≤ Q r) (hs : sumF Q n ≤ W) : leftR (it1 W) (gotQ Q n) = it1 (W - sumF Q n) := by
  have h0 := sumF_nonneg h
  obtain ⟨h1, h2⟩ := leftR_M (it1_M hW) (gotQ_M (Q := Q) (n := n) fun r hr => by have := sumF_le h hr; omega)
  refine it1_ext h1 (by omega) (by omega) fun x => ?_
  rw [h2, it1_tot (by omega), sumT_gotQ x h]
  split
  · omega
  · omega

/-- a saga, what regions have of one good, and what is on its way -/
structure Play where
  s : Saga
  free : Nat → Int
  held : Nat → Int
  picked : Nat → Int
  gone : Nat → Int
  way : List Step
def sent (l : List Step) : List Step := l.filter fun x => decide (x.kind ≠ 100)
def tellP (p : Play) (e : Ev) : Option Play :=
  match nextS p.s e with
  | .error x => if x = 80 ∨ x = 5 then some p else none
  | .ok r => if mayS r.1 then some { p with s := r.1, way := p.way ++ sent r.2 } else none
/-- a step comes to its region r -/
def comeAt (p : Play) (x : Step) (r : Nat) : Option (Play × Ev) :=
  if x.kind = 3 then some ({ p with free := upd p.free r (p.free r - min (ofSum aB x.items) (p.free r)), held := upd p.held r (p.held r + min (ofSum aB x.items) (p.free r)) }, ⟨1, r, it1 (min (ofSum aB x.items) (p.free r))⟩)
  else if x.kind = 5 then some ({ p with free := upd p.free r (p.free r + p.held r), held := upd p.held r 0 }, ⟨2, r, []⟩)
  else if x.kind = 7 then some ({ p with picked := upd p.picked r (p.held r), held := upd p.held r 0 }, ⟨6, r, it1 (p.held r)⟩)
  else if x.kind = 9 then some ({ p with gone := upd p.gone r (p.picked r), picked := upd p.picked r 0 }, ⟨8, r, it1 (p.picked r)⟩)
  else none
def endsP (p : Play) : Option Play → Option Play
  | none => none
  | some t => if t.s.state ≠ 0 ∧ p.s.state ≠ 0 then some t else none
def comeP (n : Nat) (p : Play) : Option Play :=
  match p.way with
  | [] => some p
  | x :: rest => if x.region < 0 ∨ (n : Int) ≤ x.region then none else
    match comeAt { p with way := rest } x x.region.toNat with
    | none => none
    | some (q, e) => endsP p (tellP q e)

def phase (s : Saga) (r : Nat) : Nat :=
  if s.state = 7 then (if (r : Int) ∈ s.pending then 0 else 1) else if s.state = 8 then 1 else if s.state = 9 then (if (r : Int) ∈ s.pending then 1 else 2) else if s.state = 10 then 2 else 0
def wayOf (s : Saga) : List Step :=
  if s.state = 1 then s.pending.map (fun r => ⟨3, r, leftR s.want s.got, 0⟩) else if s.state = 4 then eachL 5 s.pending else if s.state = 7 then eachL 7 s.pending else if s.state = 9 then eachL 9 s.pending else []
def AtP (ph : Nat) (q h k g : Int) : Prop := (ph = 0 → h = q ∧ k = 0 ∧ g = 0) ∧ (ph = 1 → h = 0 ∧ k = q ∧ g = 0) ∧ (ph = 2 → h = 0 ∧ k = 0 ∧ g = q)
structure Inv (n : Nat) (W T : Int) (p : Play) (Q : Nat → Int) : Prop where
  n1 : 1 ≤ n
  n8 : n ≤ 8
  W1 : 1 ≤ W
  W2 : W ≤ 1073741824
  may : mayS p.s = true
  want : p.s.want = it1 W
  regs : p.s.regions = n
  got : p.s.got = gotQ Q n
  q0 : ∀ r, r < n → 0 ≤ Q r
  f0 : ∀ r, r < n → 0 ≤ p.free r
  tot : sumF p.free n + sumF Q n = T
  pt : ∀ r, r < n → AtP (phase p.s r) (Q r) (p.held r) (p.picked r) (p.gone r)
  way : p.way = wayOf p.s
theorem phase_le (s : Saga) (r : Nat) : phase s r ≤ 2 := by
  unfold phase
  repeat' split
  all_goals omega
section
variable {n : Nat} {W T : Int} {p : Play} {Q : Nat → Int}
theorem Inv.sumQ (h : Inv n W T p Q) : sumF Q n ≤ W := by
  obtain ⟨-, hw, -⟩ := mayS_iff.1 h.may
  have := hw kA
  have h1 := h.W1
  rw [h.got, h.want, sumT_gotQ _ h.q0, it1_tot (by omega), if_pos rfl, if_pos rfl] at this
  exact this
theorem Inv.qle (h : Inv n W T p Q) {r : Nat} (hr : r < n) : Q r ≤ W := Int.le_trans (sumF_le h.q0 hr) h.sumQ
theorem Inv.left (h : Inv n W T p Q) : leftR p.s.want p.s.got = it1 (W - sumF Q n) := by
  rw [h.want, h.got]
  exact leftQ (by have := h.W2; omega) h.q0 h.sumQ
theorem Inv.each (h : Inv n W T p Q) {r : Nat} (hr : r < n) : p.held r + p.picked r + p.gone r = Q r ∧ 0 ≤ p.held r ∧ 0 ≤ p.picked r ∧ 0 ≤ p.gone r := by
  obtain ⟨h0, h1, h2⟩ := h.pt r hr
  have hq := h.q0 r hr
  have hp := phase_le p.s r
  rcases (show phase p.s r = 0 ∨ phase p.s r = 1 ∨ phase p.s r = 2 by omega) with e | e | e
  · have := h0 e; omega
  · have := h1 e; omega
  · have := h2 e; omega
theorem Inv.sums (h : Inv n W T p Q) : sumF p.held n + sumF p.picked n + sumF p.gone n = sumF Q n := by
  rw [← sumF_add, ← sumF_add]
  exact sumF_same fun i hi => (h.each hi).1
theorem Inv.left0 (h : Inv n W T p Q) : leftN p.s = W - sumF Q n := by
  have hs := h.sumQ
  unfold leftN
  rw [h.left]
  unfold it1
  split
  · simp [sumN]
  · simp only [sumN]; omega
end
end Sa
end Go.Proofs.Ythfpfomifebpbaa

namespace Go.Proofs.Ythfpfomifebpbaa
open Go.RowKit Go.Maps
namespace Sa
open It
set_option linter.unusedSimpArgs false
theorem sent_told (st : Int) : sent (told st) = [] := by simp [sent, told]
theorem sent_each {k : Int} (h : k ≠ 100) (rs : List Int) : sent (eachL k rs) = eachL k rs := by
  unfold sent
  rw [List.filter_eq_self]
  intro x hx
  obtain ⟨r, -, rfl⟩ := List.mem_map.1 hx
  simpa using h
theorem wayOf_end {s : Saga} (h : s.state = 2 ∨ s.state = 3 ∨ s.state = 5 ∨ s.state = 6 ∨ s.state = 8 ∨ s.state = 10) : wayOf s = [] := by
  unfold wayOf
  rw [if_neg (by omega), if_neg (by omega), if_neg (by omega), if_neg (by omega)]
theorem phase_zero {s : Saga} (h : s.state ≠ 7 ∧ s.state ≠ 8 ∧ s.state ≠ 9 ∧ s.state ≠ 10) (r : Nat) : phase s r = 0 := by
  unfold phase
  rw [if_neg h.1, if_neg h.2.1, if_neg h.2.2.1, if_neg h.2.2.2]
theorem undo_form (t : Saga) : (holders t.got = [] ∧ undoS t = (endS t, told (endSt t))) ∨ (holders t.got ≠ [] ∧ undoS t = (eachS t 4, eachL 5 (holders t.got))) := by
  unfold undoS
  by_cases h : (holders t.got).length = 0
  · rw [if_pos h]; exact .inl ⟨List.eq_nil_of_length_eq_zero h, rfl⟩
  · rw [if_neg h]; exact .inr ⟨fun e => h (by rw [e]; rfl), rfl⟩
theorem end_cases (t : Saga) : endSt t = 3 ∨ endSt t = 5 ∨ endSt t = 6 := by
  unfold endSt
  split
  · omega
  · split <;> omega
theorem undo_way (t : Saga) : sent (undoS t).2 = wayOf (undoS t).1 ∧ (∀ r, phase (undoS t).1 r = 0) ∧ (undoS t).1.want = t.want ∧ (undoS t).1.regions = t.regions ∧ (undoS t).1.got = t.got := by
  have he := end_cases t
  rcases undo_form t with ⟨-, e⟩ | ⟨-, e⟩
  · rw [e]
    exact ⟨by rw [sent_told, wayOf_end]; show _ = _ ∨ _; show endSt t = 2 ∨ endSt t = 3 ∨ endSt t = 5 ∨ endSt t = 6 ∨ _; omega, phase_zero (by show endSt t ≠ 7 ∧ endSt t ≠ 8 ∧ endSt t ≠ 9 ∧ endSt t ≠ 10; omega), rfl, rfl, rfl⟩
  · rw [e]
    exact ⟨by rw [sent_each (by omega)]; rfl, phase_zero (by show (4 : Int) ≠ 7 ∧ (4 : Int) ≠ 8 ∧ (4 : Int) ≠ 9 ∧ (4 : Int) ≠ 10; omega), rfl, rfl, rfl⟩
/-- how far it is to an end -/
def mu (s : Saga) : Nat := if s.state = 1 then 9 + (s.regions - s.asked).toNat else if s.state = 4 ∨ s.state = 7 ∨ s.state = 9 then s.pending.length else 0
theorem mu_end {s : Saga} (h : s.state = 2 ∨ s.state = 3 ∨ s.state = 5 ∨ s.state = 6 ∨ s.state = 8 ∨ s.state = 10) : mu s = 0 := by
  unfold mu
  rw [if_neg (by omega), if_neg (by omega)]
theorem mu_le {n : Nat} {W T : Int} {p : Play} {Q : Nat → Int} (h : Inv n W T p Q) : mu p.s ≤ 16 := by
  have h1 := (pend_in h.may).2
  have h2 := h.regs
  have h3 := h.n8
  obtain ⟨hh, -, -⟩ := mayS_iff.1 h.may
  have h4 := hh.a1
  unfold mu
  split
  · omega
  · split <;> omega
theorem mu_undo {t : Saga} (h : t.got.length ≤ 8) : mu (undoS t).1 ≤ 8 := by
  have he := end_cases t
  rcases undo_form t with ⟨-, e⟩ | ⟨-, e⟩
  · rw [e, mu_end (by show endSt t = 2 ∨ endSt t = 3 ∨ endSt t = 5 ∨ endSt t = 6 ∨ _; omega)]; omega
  · rw [e]
    have h4 : (eachS t 4).state = 4 := rfl
    show mu (eachS t 4) ≤ 8
    unfold mu
    rw [if_neg (by omega), if_pos (.inl h4)]
    have := holders_len t.got
    show (holders t.got).length ≤ 8
    omega
section
variable {n : Nat} {W T : Int} {p : Play} {Q : Nat → Int}
/-- a saga that went on, and what regions did -/
theorem Inv.on (h : Inv n W T p Q) {q : Play} {Q' : Nat → Int} (hm : mayS q.s = true) (hw : q.s.want = p.s.want) (hr : q.s.regions = p.s.regions) (hg : q.s.got = gotQ Q' n) (h0 : ∀ r, r < n → 0 ≤ Q' r) (hf : ∀ r, r < n → 0 ≤ q.free r)
    (ht : sumF q.free n + sumF Q' n = sumF p.free n + sumF Q n) (hp : ∀ r, r < n → AtP (phase q.s r) (Q' r) (q.held r) (q.picked r) (q.gone r)) (hy : q.way = wayOf q.s) : Inv n W T q Q' :=
  ⟨h.n1, h.n8, h.W1, h.W2, hm, hw.trans h.want, hr.trans h.regs, hg, h0, hf, ht.trans h.tot, hp, hy⟩
theorem next_ok {s : Saga} {e : Ev} {r : Saga × List Step} (hm : mayS s = true) (h : happenS s e = .ok r) : nextS s e = .ok r ∧ mayS r.1 = true := by
  have h1 : nextS s e = .ok r := by unfold nextS nextU; rw [hm, if_pos rfl, h]
  exact ⟨h1, (next_may h1).2⟩
theorem tell_ok {q : Play} {e : Ev} {r : Saga × List Step} (hm : mayS q.s = true) (h : happenS q.s e = .ok r) : mayS r.1 = true ∧ tellP q e = some { q with s := r.1, way := q.way ++ sent r.2 } := by
  obtain ⟨h1, h2⟩ := next_ok hm h
  refine ⟨h2, ?_⟩
  unfold tellP
  rw [h1]
  dsimp only
  rw [if_pos h2]
theorem tell_err {q : Play} {e : Ev} {x : Int} (hm : mayS q.s = true) (h : happenS q.s e = .error x) (hx : x = 80 ∨ x = 5) : tellP q e = some q := by
  have h1 : nextS q.s e = .error x := by unfold nextS nextU; rw [hm, if_pos rfl, h]
  unfold tellP
  rw [h1]
  dsimp only
  rw [if_pos hx]
/-- a new saga may be -/
theorem begin_ok {order first : Int} {n : Nat} {W : Int} {waits : Bool} (o1 : 1 ≤ order) (o2 : order ≤ 1099511627776) (n1 : 1 ≤ n) (n8 : n ≤ 8) (f1 : 0 ≤ first) (f2 : first < n) (W1 : 1 ≤ W) (W2 : W ≤ 1073741824) :
    mayS (saga1 order first n (it1 W) waits) = true := by
  have hrep : (saga1 order first n (it1 W) waits).got = List.replicate n [] := by show List.replicate ((n : Int).toNat) [] = _; rw [Int.toNat_natCast]
  have hz : gotQ (fun _ => 0) n = List.replicate n [] := gotQ_zero fun _ _ => Int.le_refl _
  have hW := it1_M (k := W) (by omega)
  have hh : RHead (saga1 order first n (it1 W) waits) := by
    refine ⟨o1, o2, ?_, ?_, f1, f2, ?_, ?_, ?_, ?_, ?_⟩
    all_goals try (show _ ≤ _; dsimp only [saga1]; omega)
    · show 0 < (it1 W).length
      rw [it1_pos (by omega)]; simp
    · rw [hrep]; simp [saga1]
    · unfold mayAll
      rw [hrep]
      simp only [Bool.and_eq_true, decide_eq_true_eq, List.length_replicate]
      refine ⟨⟨may_of hW, n8⟩, List.all_eq_true.2 fun l hl => ?_⟩
      rw [(List.mem_replicate.1 hl).2]; exact may_of M_nil
  have hho : holders (List.replicate n ([] : List It.Item)) = [] := by
    rw [← hz]
    apply List.eq_nil_iff_forall_not_mem.2
    intro x hx
    have := (holdersQ.1 hx).2.2
    omega
  rw [mayS_iff]
  refine ⟨hh, fun k => ?_, ?_⟩
  · rw [hrep, ← hz, sumT_gotQ k (fun _ _ => Int.le_refl _), sumF_zero (fun _ _ => rfl)]
    have := hW.nonneg k
    split <;> exact this
  · show bodyAt _ 1 = true
    rw [body1 hh]
    refine ⟨fun x hx => ?_, ?_, ?_⟩
    · rw [hrep, hho] at hx
      cases hx
    · unfold leftN
      rw [hrep]
      show 0 < sumN (leftR (it1 W) _)
      rw [leftR_none hW, it1_pos (by omega)]
      simp [sumN]; omega
    · show [first] = [(first + 1 - 1) % (n : Int)]
      rw [show first + 1 - 1 = first by omega, Int.emod_eq_of_lt f1 f2]
/-- an event of the law's own -/
theorem inv_tell (h : Inv n W T p Q) {k : Int} (hk : k = 3 ∨ k = 4 ∨ k = 5 ∨ k = 7) : ∃ p', tellP p ⟨k, 0, []⟩ = some p' ∧ Inv n W T p' Q := by
  obtain ⟨hh, hwd, hb⟩ := mayS_iff.1 h.may
  have hself : Inv n W T p Q := h
  have hone : ∀ {r : Saga × List Step}, happenS p.s ⟨k, 0, []⟩ = .ok r → r.1.want = p.s.want → r.1.regions = p.s.regions → r.1.got = p.s.got → (∀ i, i < n → AtP (phase r.1 i) (Q i) (p.held i) (p.picked i) (p.gone i)) → p.way ++ sent r.2 = wayOf r.1 → ∃ p', tellP p ⟨k, 0, []⟩ = some p' ∧ Inv n W T p' Q := fun {r} hr h1 h2 h3 h4 h5 => by
    obtain ⟨a, b⟩ := tell_ok h.may hr
    exact ⟨_, b, h.on a h1 h2 (h3.trans h.got) h.q0 h.f0 rfl h4 h5⟩
  have hph := h.pt
  have hway := h.way
  rcases hk with rfl | rfl | rfl | rfl
  · -- cancel
    have hc : happenS p.s ⟨3, 0, []⟩ = cancelS p.s := rfl
    by_cases h14 : p.s.state = 1 ∨ p.s.state = 4
    · cases hwas : p.s.cancelled with
      | true =>
        refine ⟨p, tell_err h.may (x := 5) ?_ (.inr rfl), h⟩
        rw [hc]
        unfold cancelS cancelAt
        rw [if_pos h14, hwas, if_pos rfl]
      | false =>
        refine hone (r := ({ p.s with cancelled := true }, [])) ?_ rfl rfl rfl hph ?_
        · rw [hc]
          unfold cancelS cancelAt
          rw [if_pos h14, hwas, if_neg (by simp)]
        · rw [show sent [] = [] from rfl, List.append_nil]; exact hway
    · by_cases h3 : p.s.state = 3
      · have he : endSt { p.s with cancelled := true } = 6 := by simp [endSt]
        refine hone (r := (endS { p.s with cancelled := true }, told (endSt { p.s with cancelled := true }))) ?_ rfl rfl rfl (fun i hi => ?_) ?_
        · rw [hc]
          unfold cancelS cancelAt
          rw [if_neg h14, if_pos h3]
        · rw [phase_zero (by show endSt { p.s with cancelled := true } ≠ 7 ∧ endSt { p.s with cancelled := true } ≠ 8 ∧ endSt { p.s with cancelled := true } ≠ 9 ∧ endSt { p.s with cancelled := true } ≠ 10; rw [he]; omega), ← phase_zero (s := p.s) (by omega) i]
          exact hph i hi
        · rw [hway, wayOf_end (by omega), sent_told, wayOf_end (by show endSt { p.s with cancelled := true } = 2 ∨ endSt { p.s with cancelled := true } = 3 ∨ endSt { p.s with cancelled := true } = 5 ∨ endSt { p.s with cancelled := true } = 6 ∨ _; rw [he]; omega)]
          rfl
      · by_cases h2 : p.s.state = 2
        · obtain ⟨u1, u2, u3, u4, u5⟩ := undo_way { p.s with cancelled := true }
          refine hone (r := undoS { p.s with cancelled := true }) ?_ u3 u4 u5 (fun i hi => ?_) ?_
          · rw [hc]
            unfold cancelS cancelAt
            rw [if_neg h14, if_neg h3, if_pos h2]
          · rw [u2, ← phase_zero (s := p.s) (by omega) i]
            exact hph i hi
          · rw [hway, wayOf_end (by omega), u1]
            rfl
        · refine ⟨p, tell_err h.may (x := 80) ?_ (.inl rfl), h⟩
          rw [hc]
          unfold cancelS cancelAt
          rw [if_neg h14, if_neg h3, if_neg h2]
  · -- retry
    have hc : happenS p.s ⟨4, 0, []⟩ = retryS p.s := rfl
    by_cases h3 : p.s.state = 3
    · have hn : holders p.s.got = [] := by
        rw [h3, bodyW (.inl rfl)] at hb
        simp only [Bool.and_eq_true, decide_eq_true_eq] at hb
        exact List.eq_nil_of_length_eq_zero hb.1.1.1
      have hq : ∀ r, r < n → Q r ≤ 0 := fun r hr => Int.not_lt.1 fun hlt => by
        have : (r : Int) ∈ holders p.s.got := by rw [h.got]; exact holdersQ.2 ⟨by omega, by omega, by rw [Int.toNat_natCast]; exact hlt⟩
        rw [hn] at this
        cases this
      have hg : (saga1 p.s.order p.s.first p.s.regions p.s.want p.s.waits).got = p.s.got := by
        show List.replicate p.s.regions.toNat [] = _
        rw [h.regs, Int.toNat_natCast, h.got, gotQ_zero hq]
      have hm1 : mayS (saga1 p.s.order p.s.first p.s.regions p.s.want p.s.waits) = true := by
        rw [h.regs, h.want]
        have := h.regs
        exact begin_ok hh.o1 hh.o2 h.n1 h.n8 hh.f1 (by have := hh.f2; omega) h.W1 h.W2
      refine hone (r := (saga1 p.s.order p.s.first p.s.regions p.s.want p.s.waits, [⟨3, p.s.first, p.s.want, 0⟩])) ?_ rfl rfl hg (fun i hi => ?_) ?_
      · rw [hc]
        unfold retryS beginS beginU
        rw [if_pos h3, if_neg ?_, hm1, if_pos rfl]
        · rfl
        · rw [visit_some (by have := hh.r1; have := hh.r2; have := hh.f1; have := hh.f2; omega)]
          simp
          have := hh.r1
          omega
      · rw [phase_zero (by show (1 : Int) ≠ 7 ∧ (1 : Int) ≠ 8 ∧ (1 : Int) ≠ 9 ∧ (1 : Int) ≠ 10; omega), ← phase_zero (s := p.s) (by omega) i]
        exact hph i hi
      · rw [hway, wayOf_end (by omega)]
        have e1 : leftR p.s.want (saga1 p.s.order p.s.first p.s.regions p.s.want p.s.waits).got = p.s.want := leftR_none hh.M.1 _
        show [] ++ sent [⟨3, p.s.first, p.s.want, 0⟩] = [⟨3, p.s.first, leftR p.s.want (saga1 p.s.order p.s.first p.s.regions p.s.want p.s.waits).got, 0⟩]
        rw [e1]
        simp [sent]
    · refine ⟨p, tell_err h.may (x := 80) ?_ (.inl rfl), h⟩
      rw [hc]
      unfold retryS
      rw [if_neg h3]
  · -- pick
    have hc : happenS p.s ⟨5, 0, []⟩ = allS p.s 2 7 7 := rfl
    by_cases h2 : p.s.state = 2
    · refine hone (r := (eachS p.s 7, eachL 7 (holders p.s.got))) (by rw [hc]; unfold allS; rw [if_pos h2]) rfl rfl rfl (fun i hi => ?_) ?_
      · have h1 := hph i hi
        rw [phase_zero (by omega)] at h1
        obtain ⟨a1, a2, a3⟩ := h1.1 rfl
        show AtP (if (7 : Int) = 7 then (if (i : Int) ∈ holders p.s.got then 0 else 1) else _) _ _ _ _
        rw [if_pos rfl]
        split
        · exact ⟨fun _ => ⟨a1, a2, a3⟩, fun e => (by omega), fun e => (by omega)⟩
        · rename_i hno
          have hz : Q i = 0 := by
            have hq := h.q0 i hi
            have : ¬ 0 < Q i := fun hlt => hno (by rw [h.got]; exact holdersQ.2 ⟨by omega, by omega, by rw [Int.toNat_natCast]; exact hlt⟩)
            omega
          exact ⟨fun e => (by omega), fun _ => ⟨by omega, by omega, a3⟩, fun e => (by omega)⟩
      · rw [hway, wayOf_end (by omega), sent_each (by omega)]
        rfl
    · exact ⟨p, tell_err h.may (x := 80) (by rw [hc]; unfold allS; rw [if_neg h2]) (.inl rfl), h⟩
  · -- ship
    have hc : happenS p.s ⟨7, 0, []⟩ = allS p.s 8 9 9 := rfl
    by_cases h2 : p.s.state = 8
    · refine hone (r := (eachS p.s 9, eachL 9 (holders p.s.got))) (by rw [hc]; unfold allS; rw [if_pos h2]) rfl rfl rfl (fun i hi => ?_) ?_
      · have h1 := hph i hi
        rw [show phase p.s i = 1 by unfold phase; rw [if_neg (by omega), if_pos h2]] at h1
        obtain ⟨a1, a2, a3⟩ := h1.2.1 rfl
        show AtP (if (9 : Int) = 7 then _ else if (9 : Int) = 8 then 1 else if (9 : Int) = 9 then (if (i : Int) ∈ holders p.s.got then 1 else 2) else _) _ _ _ _
        rw [if_neg (by omega), if_neg (by omega), if_pos rfl]
        split
        · exact ⟨fun e => (by omega), fun _ => ⟨a1, a2, a3⟩, fun e => (by omega)⟩
        · rename_i hno
          have hz : Q i = 0 := by
            have hq := h.q0 i hi
            have : ¬ 0 < Q i := fun hlt => hno (by rw [h.got]; exact holdersQ.2 ⟨by omega, by omega, by rw [Int.toNat_natCast]; exact hlt⟩)
            omega
          exact ⟨fun e => (by omega), fun e => (by omega), fun _ => ⟨a1, by omega, by omega⟩⟩
      · rw [hway, wayOf_end (by omega), sent_each (by omega)]
        rfl
    · exact ⟨p, tell_err h.may (x := 80) (by rw [hc]; unfold allS; rw [if_neg h2]) (.inl rfl), h⟩
end
end Sa
end Go.Proofs.Ythfpfomifebpbaa

namespace Go.Proofs.Ythfpfomifebpbaa
open Go.RowKit Go.Maps
namespace Sa
open It
set_option linter.unusedSimpArgs false
section
variable {n : Nat} {W T : Int} {p : Play} {Q : Nat → Int}
/-- what comes of an order that nobody cancels -/
def Fair (n : Nat) (W T : Int) (w0 : Bool) (p : Play) : Prop :=
  p.s.waits = w0 ∧ p.s.cancelled = false ∧ ((p.s.state = 1 ∧ ∀ x ∈ (visit p.s.first p.s.regions).take (p.s.asked - 1).toNat, p.free x.toNat = 0) ∨ p.s.state = 2 ∨ ((p.s.state = 4 ∨ p.s.state = 3 ∨ p.s.state = 5) ∧ T < W))
theorem comeAt3 {p : Play} {x : Step} {r : Nat} {k : Int} (hx : x.kind = 3) (hi : ofSum aB x.items = k) : comeAt p x r = some ({ p with free := upd p.free r (p.free r - min k (p.free r)), held := upd p.held r (p.held r + min k (p.free r)) }, ⟨1, r, it1 (min k (p.free r))⟩) := by
  unfold comeAt
  rw [if_pos hx, hi]
theorem took_one (h : Inv n W T p Q) (h1 : p.s.state = 1) {r : Nat} (hp : p.s.pending = [(r : Int)]) (hr : r < n) (hq : Q r = 0) {m : Int} (m0 : 0 ≤ m) (m1 : m ≤ W - sumF Q n) :
    tookS p.s ⟨1, r, it1 m⟩ = .ok (tookT { p.s with pending := [], got := gotQ (upd Q r m) n } (it1 (W - sumF Q n - m))) := by
  obtain ⟨hh, hwd, hb⟩ := mayS_iff.1 h.may
  obtain ⟨hMw, hMg, h8⟩ := hh.M
  have hW2 := h.W2
  have hs0 := sumF_nonneg h.q0
  have hml := missing_R hMw hMg h8
  have hcov : covers (missing p.s.want p.s.got) (it1 m) = true := by
    rw [hml, h.left, covers_iff (it1_M (by omega)) (it1_M (by omega))]
    intro k
    rw [it1_tot m0, it1_tot (by omega)]
    split <;> omega
  have hset : p.s.got.set r (it1 m) = gotQ (upd Q r m) n := by rw [h.got, gotQ_set]
  have hleft : both restF (missing p.s.want p.s.got) (it1 m) = it1 (W - sumF Q n - m) := by
    rw [hml, h.left, both_of (it1_M (by omega)) (it1_M (by omega))]
    refine it1_ext (rest_M (it1_M (by omega)) (it1_M (by omega))) (by omega) (by omega) fun k => ?_
    rw [rest_tot (it1_M (by omega)) (it1_M (by omega)), it1_tot (by omega), it1_tot m0]
    split <;> omega
  have hoff : takeOff (r : Int) p.s.pending = [] := by
    rw [hp, take_off (List.pairwise_singleton _ _) (by simp)]
    simp
  unfold tookS tookU
  rw [if_pos ⟨h1, idx_none.2 (by rw [hp]; simp)⟩]
  dsimp only
  rw [hcov, if_pos rfl, hleft, hoff, Int.toNat_natCast, hset]
/-- a region is asked -/
theorem come_take (h : Inv n W T p Q) (h1 : p.s.state = 1) : ∃ p' Q', comeP n p = some p' ∧ Inv n W T p' Q' ∧ mu p'.s < mu p.s ∧ ∀ w0, Fair n W T w0 p → Fair n W T w0 p' := by
  obtain ⟨hh, hwd, hb⟩ := mayS_iff.1 h.may
  have hW1 := h.W1
  have hW2 := h.W2
  have hn8 := h.n8
  have hregs := h.regs
  have hr1 := hh.r1
  have hglen : p.s.got.length = n := by rw [h.got, gotQ_len]
  have hsq := h.sumQ
  have hs0 := sumF_nonneg h.q0
  -- a region is asked
  rw [h1] at hb
  have hb1 := (body1 hh).1 hb
  obtain ⟨hah, hl0, hpd⟩ := hb1
  rw [h.left0] at hl0
  obtain ⟨r, hr⟩ : ∃ r : Nat, (p.s.first + p.s.asked - 1) % p.s.regions = r := ⟨((p.s.first + p.s.asked - 1) % p.s.regions).toNat, by have := Int.emod_nonneg (p.s.first + p.s.asked - 1) (show p.s.regions ≠ 0 by omega); omega⟩
  have hrn : r < n := by have := Int.emod_lt_of_pos (p.s.first + p.s.asked - 1) (show 0 < p.s.regions by omega); omega
  rw [hr] at hpd
  have hq : Q r = 0 := by
    have := asked_none h.may h1 (x := r) (by rw [hpd]; simp)
    rw [h.got, Int.toNat_natCast, gotQ_at hrn] at this
    have := it1_nil.1 this
    have := h.q0 r hrn
    omega
  have hway : p.way = [⟨3, r, it1 (W - sumF Q n), 0⟩] := by
    rw [h.way]
    unfold wayOf
    rw [if_pos h1, hpd, h.left]
    rfl
  have hfr := h.f0 r hrn
  obtain ⟨m, hm⟩ : ∃ m, min (W - sumF Q n) (p.free r) = m := ⟨_, rfl⟩
  have m0 : 0 ≤ m := by omega
  have m1 : m ≤ W - sumF Q n := by omega
  have m2 : m ≤ p.free r := by omega
  have hca : comeAt { p with way := [] } ⟨3, r, it1 (W - sumF Q n), 0⟩ r = some ({ p with way := [], free := upd p.free r (p.free r - m), held := upd p.held r (p.held r + m) }, ⟨1, r, it1 m⟩) := by
    rw [comeAt3 (p := { p with way := [] }) rfl (it1_of (by omega) (by omega))]
    dsimp only
    rw [hm]
  have htk := took_one h h1 hpd hrn hq m0 m1
  have hph0 : ∀ i, i < n → p.held i = Q i ∧ p.picked i = 0 ∧ p.gone i = 0 := fun i hi => (h.pt i hi).1 (phase_zero (by omega) i)
  have hgotl : (gotQ (upd Q r m) n).length ≤ 8 := by rw [gotQ_len]; exact hn8
  obtain ⟨t, ht⟩ : ∃ t : Saga, ({ p.s with pending := [], got := gotQ (upd Q r m) n } : Saga) = t := ⟨_, rfl⟩
  rw [ht] at htk
  have t1 : t.want = p.s.want := by rw [← ht]
  have t2 : t.regions = p.s.regions := by rw [← ht]
  have t3 : t.got = gotQ (upd Q r m) n := by rw [← ht]
  have t4 : t.asked = p.s.asked := by rw [← ht]
  have t5 : t.cancelled = p.s.cancelled := by rw [← ht]
  have t6 : t.first = p.s.first := by rw [← ht]
  have t7 : t.waits = p.s.waits := by rw [← ht]
  have t8 : t.state = 1 := by rw [← ht]; exact h1
  have hmup : mu p.s = 9 + (p.s.regions - p.s.asked).toNat := by unfold mu; rw [if_pos h1]
  obtain ⟨hma, htell⟩ := tell_ok (q := { p with way := [], free := upd p.free r (p.free r - m), held := upd p.held r (p.held r + m) }) (e := ⟨1, r, it1 m⟩) h.may (by
    show happenS p.s _ = _
    unfold happenS
    rw [if_pos rfl]
    exact htk)
  -- which way it goes
  have hcase : ∃ u, tookT t (it1 (W - sumF Q n - m)) = u ∧ sent u.2 = wayOf u.1 ∧ u.1.want = p.s.want ∧ u.1.regions = p.s.regions ∧ u.1.got = gotQ (upd Q r m) n ∧ (∀ i, phase u.1 i = 0) ∧ mu u.1 < mu p.s ∧ u.1.state ≠ 0 ∧
      (p.s.cancelled = false → u.1.waits = p.s.waits ∧ u.1.cancelled = false ∧ ((u.1.state = 2) ∨ (u.1.state = 1 ∧ u.1.first = p.s.first ∧ u.1.asked = p.s.asked + 1 ∧ 0 < W - sumF Q n - m) ∨ ((u.1.state = 4 ∨ u.1.state = 3 ∨ u.1.state = 5) ∧ 0 < W - sumF Q n - m ∧ p.s.asked = p.s.regions))) := by
    have hundo : mu (undoS t).1 < mu p.s := by
      have := mu_undo (t := t) (by rw [t3]; exact hgotl)
      omega
    have hust : (undoS t).1.state ≠ 0 ∧ (t.cancelled = false → (undoS t).1.waits = t.waits ∧ (undoS t).1.cancelled = false ∧ ((undoS t).1.state = 4 ∨ (undoS t).1.state = 3 ∨ (undoS t).1.state = 5)) := by
      rcases undo_form t with ⟨-, e⟩ | ⟨-, e⟩
      · rw [e]
        have he := end_cases t
        refine ⟨by show endSt t ≠ 0; omega, fun hc => ⟨rfl, hc, ?_⟩⟩
        show endSt t = 4 ∨ endSt t = 3 ∨ endSt t = 5
        unfold endSt
        rw [hc, if_neg (by simp)]
        split <;> omega
      · rw [e]
        exact ⟨by show (4 : Int) ≠ 0; omega, fun hc => ⟨rfl, hc, .inl rfl⟩⟩
    obtain ⟨u1, u2, u3, u4, u5⟩ := undo_way t
    unfold tookT
    obtain ⟨cc, hcan⟩ : ∃ cc, t.cancelled = cc := ⟨_, rfl⟩
    cases cc with
    | true =>
      refine ⟨_, rfl, ?_⟩
      rw [if_pos hcan]
      exact ⟨u1, u3.trans t1, u4.trans t2, u5.trans t3, u2, hundo, hust.1, fun hc => by rw [← t5, hcan] at hc; cases hc⟩
    | false =>
      rw [if_neg (by rw [hcan]; simp)]
      by_cases hz : (it1 (W - sumF Q n - m)).length = 0
      · refine ⟨_, rfl, ?_⟩
        rw [if_pos hz]
        refine ⟨by rw [sent_told, wayOf_end (.inl rfl)], t1, t2, t3, phase_zero (by show (2 : Int) ≠ 7 ∧ (2 : Int) ≠ 8 ∧ (2 : Int) ≠ 9 ∧ (2 : Int) ≠ 10; omega), ?_, by show (2 : Int) ≠ 0; omega, fun _ => ⟨t7, hcan, .inl rfl⟩⟩
        rw [mu_end (.inl rfl)]; omega
      · have hpos : 0 < W - sumF Q n - m := Int.not_le.1 fun hle => hz (by rw [it1_no hle]; rfl)
        by_cases hlt : t.asked < t.regions
        · refine ⟨_, rfl, ?_⟩
          rw [if_neg hz, if_pos hlt]
          have hsum : sumF (upd Q r m) n = sumF Q n + m := by rw [sumF_upd hrn, hq]; omega
          have hlq : leftR t.want t.got = it1 (W - sumF Q n - m) := by
            rw [t1, t3, h.want, leftQ (by omega) (fun i hi => by by_cases e : i = r
                                                                 · subst e; rw [upd_at]; exact m0
                                                                 · rw [upd_ne e]; exact h.q0 i hi) (by omega), hsum]
            congr 1; omega
          refine ⟨?_, t1, t2, t3, phase_zero (by show t.state ≠ 7 ∧ t.state ≠ 8 ∧ t.state ≠ 9 ∧ t.state ≠ 10; omega), ?_, by show t.state ≠ 0; omega, fun _ => ⟨t7, hcan, .inr (.inl ⟨t8, t6, by show t.asked + 1 = _; rw [t4], hpos⟩)⟩⟩
          · unfold wayOf
            rw [if_pos (show t.state = 1 from t8)]
            show _ = [(⟨3, _, leftR t.want t.got, 0⟩ : Step)]
            rw [hlq]
            rfl
          · unfold mu
            rw [if_pos (show t.state = 1 from t8), if_pos h1]
            show 9 + (t.regions - (t.asked + 1)).toNat < _
            omega
        · refine ⟨_, rfl, ?_⟩
          rw [if_neg hz, if_neg hlt]
          have ha2 := hh.a2
          exact ⟨u1, u3.trans t1, u4.trans t2, u5.trans t3, u2, hundo, hust.1, fun hc => by
            obtain ⟨x1, x2, x3⟩ := hust.2 hcan
            exact ⟨x1.trans t7, x2, .inr (.inr ⟨x3, hpos, by omega⟩)⟩⟩
  obtain ⟨u, hu, c1, c2, c3, c4, c5, c6, c7, c8⟩ := hcase
  rw [hu] at hma htell
  refine ⟨_, upd Q r m, ?_, h.on (q := { s := u.1, free := upd p.free r (p.free r - m), held := upd p.held r (p.held r + m), picked := p.picked, gone := p.gone, way := [] ++ sent u.2 }) (Q' := upd Q r m) hma c2 c3 c4 (fun i hi => ?_) (fun i hi => ?_) ?_ (fun i hi => ?_) (by rw [List.nil_append]; exact c1), c6, fun w0 hF => ?_⟩
  · unfold comeP
    rw [hway]
    dsimp only
    rw [if_neg (by omega), Int.toNat_natCast, hca]
    dsimp only
    rw [htell]
    unfold endsP
    dsimp only
    rw [if_pos ⟨c7, by rw [h1]; omega⟩]
  · by_cases e : i = r
    · subst e; rw [upd_at]; exact m0
    · rw [upd_ne e]; exact h.q0 i hi
  · show 0 ≤ upd p.free r (p.free r - m) i
    by_cases e : i = r
    · subst e; rw [upd_at]; omega
    · rw [upd_ne e]; exact h.f0 i hi
  · show sumF (upd p.free r (p.free r - m)) n + _ = _
    rw [sumF_upd hrn, sumF_upd hrn, hq]; omega
  · rw [c5 i]
    obtain ⟨a1, a2, a3⟩ := hph0 i hi
    refine ⟨fun _ => ⟨?_, a2, a3⟩, fun e => (by omega), fun e => (by omega)⟩
    show upd p.held r (p.held r + m) i = _
    by_cases e : i = r
    · subst e; rw [upd_at, upd_at, a1, hq]; omega
    · rw [upd_ne e, upd_ne e]; exact a1
  · obtain ⟨f1, f2, f3⟩ := hF
    obtain ⟨d1, d2, d3⟩ := c8 f2
    have hf0 : ∀ x ∈ (visit p.s.first p.s.regions).take (p.s.asked - 1).toNat, p.free x.toNat = 0 := by
      rcases f3 with ⟨-, f⟩ | f | ⟨f, -⟩
      · exact f
      · omega
      · omega
    have hempty : 0 < W - sumF Q n - m → p.free r - m = 0 := fun hlt => by omega
    have hvis : ∀ x ∈ (visit p.s.first p.s.regions).take p.s.asked.toNat, x = r ∨ x ∈ (visit p.s.first p.s.regions).take (p.s.asked - 1).toNat := fun x hx => by
      have ha1 := hh.a1
      have e : p.s.asked.toNat = (p.s.asked - 1).toNat + 1 := by omega
      rw [e] at hx
      have hx2 : x ∈ (visit p.s.first p.s.regions).take (p.s.asked - 1).toNat ++ ((visit p.s.first p.s.regions).drop (p.s.asked - 1).toNat).take 1 := by
        rw [← List.take_add]; exact hx
      rcases List.mem_append.1 hx2 with hx2 | hx2
      · exact .inr hx2
      · rw [next_eq hh, hr] at hx2
        exact .inl (List.mem_singleton.1 hx2)
    have hnew : 0 < W - sumF Q n - m → ∀ x ∈ (visit p.s.first p.s.regions).take p.s.asked.toNat, upd p.free r (p.free r - m) x.toNat = 0 := fun hlt x hx => by
      rcases hvis x hx with rfl | hx
      · rw [Int.toNat_natCast, upd_at]; exact hempty hlt
      · by_cases e : x.toNat = r
        · rw [e, upd_at]; exact hempty hlt
        · rw [upd_ne e]; exact hf0 x hx
    refine ⟨d1.trans f1, d2, ?_⟩
    rcases d3 with d3 | ⟨d3, d4, d5, d6⟩ | ⟨d3, d4, d5⟩
    · exact .inr (.inl d3)
    · refine .inl ⟨d3, fun x hx => ?_⟩
      rw [d4, c3, d5, show p.s.asked + 1 - 1 = p.s.asked by omega] at hx
      exact hnew d6 x hx
    · refine .inr (.inr ⟨d3, ?_⟩)
      have hall : ∀ i, i < n → upd p.free r (p.free r - m) i = 0 := fun i hi => by
        have hmem : (i : Int) ∈ (visit p.s.first p.s.regions).take p.s.asked.toNat := by
          rw [ahead_iff hh.f1 hh.f2 hh.r2 (by omega) (by omega) (by omega) (by omega), d5]
          exact Int.emod_lt_of_pos _ (by omega)
        have := hnew d4 _ hmem
        rwa [Int.toNat_natCast] at this
      have h5 := sumF_zero hall
      rw [sumF_upd hrn] at h5
      have h6 := h.tot
      omega
end
end Sa
end Go.Proofs.Ythfpfomifebpbaa

namespace Go.Proofs.Ythfpfomifebpbaa
open Go.RowKit Go.Maps
namespace Sa
open It
set_option linter.unusedSimpArgs false
section
variable {n : Nat} {W T : Int} {p : Play} {Q : Nat → Int}
theorem off_head {r : Int} {rs : List Int} (h : (r :: rs).Pairwise (· < ·)) : takeOff r (r :: rs) = rs := by
  rw [take_off h (by simp), List.filter_cons, if_neg (by simp), List.filter_eq_self]
  intro x hx
  have := (List.pairwise_cons.1 h).1 x hx
  simp only [ne_eq, decide_not, Bool.not_eq_true', decide_eq_false_iff_not]
  omega
/-- a region releases what it holds -/
theorem come_free (h : Inv n W T p Q) (h4 : p.s.state = 4) : ∃ p' Q', comeP n p = some p' ∧ Inv n W T p' Q' ∧ mu p'.s < mu p.s ∧ ∀ w0, Fair n W T w0 p → Fair n W T w0 p' := by
  obtain ⟨hh, hwd, hb⟩ := mayS_iff.1 h.may
  rw [h4, bodyU] at hb
  simp only [Bool.and_eq_true, Bool.not_eq_true', decide_eq_true_eq, decide_eq_false_iff_not] at hb
  obtain ⟨hb1, hb2⟩ := hb
  have hup : p.s.pending.Pairwise (· < ·) := by rw [hb2]; exact holders_up _
  cases hpd : p.s.pending with
  | nil => rw [hpd] at hb2; rw [← hb2] at hb1; exact absurd rfl hb1
  | cons ri rs =>
    rw [hpd] at hup
    have hmem : ri ∈ holders p.s.got := by rw [← hb2, hpd]; simp
    rw [h.got] at hmem
    obtain ⟨m1, m2, m3⟩ := holdersQ.1 hmem
    obtain ⟨r, rfl⟩ : ∃ r : Nat, ri = r := ⟨ri.toNat, by omega⟩
    rw [Int.toNat_natCast] at m3
    have hrn : r < n := by omega
    have hph0 : ∀ i, i < n → p.held i = Q i ∧ p.picked i = 0 ∧ p.gone i = 0 := fun i hi => (h.pt i hi).1 (phase_zero (by omega) i)
    have hway : p.way = ⟨5, r, [], 0⟩ :: eachL 5 rs := by
      rw [h.way]
      unfold wayOf
      rw [if_neg (by omega), if_pos h4, hpd]
      rfl
    obtain ⟨t, ht⟩ : ∃ t : Saga, ({ p.s with pending := rs, got := gotQ (upd Q r 0) n } : Saga) = t := ⟨_, rfl⟩
    have hfr : freedS p.s ⟨2, r, []⟩ = .ok (freedT t) := by
      unfold freedS
      rw [if_pos ⟨h4, idx_none.2 (by rw [hpd]; simp)⟩]
      dsimp only
      rw [hpd, off_head hup, Int.toNat_natCast, h.got, ← ht]
      have := gotQ_set (Q := Q) (n := n) (r := r) 0
      rw [it1_no (Int.le_refl 0)] at this
      rw [this]
    obtain ⟨hma, htell⟩ := tell_ok (q := { p with way := eachL 5 rs, free := upd p.free r (p.free r + p.held r), held := upd p.held r 0 }) (e := ⟨2, r, []⟩) h.may (by
      show happenS p.s _ = _
      unfold happenS
      rw [if_neg (by show ¬ ((2 : Int) = 1); omega), if_pos rfl]
      exact hfr)
    have hq0 : ∀ i, i < n → 0 ≤ upd Q r 0 i := fun i hi => by
      by_cases e : i = r
      · subst e; rw [upd_at]; omega
      · rw [upd_ne e]; exact h.q0 i hi
    have hcase : sent (freedT t).2 ++ [] = sent (freedT t).2 ∧ eachL 5 rs ++ sent (freedT t).2 = wayOf (freedT t).1 ∧ (freedT t).1.want = p.s.want ∧ (freedT t).1.regions = p.s.regions ∧ (freedT t).1.got = gotQ (upd Q r 0) n ∧ (∀ i, phase (freedT t).1 i = 0) ∧ mu (freedT t).1 < mu p.s ∧ (freedT t).1.state ≠ 0 ∧
        (p.s.cancelled = false → (freedT t).1.waits = p.s.waits ∧ (freedT t).1.cancelled = false ∧ ((freedT t).1.state = 4 ∨ (freedT t).1.state = 3 ∨ (freedT t).1.state = 5)) := by
      have hmup : mu p.s = rs.length + 1 := by unfold mu; rw [if_neg (by omega), if_pos (.inl h4), hpd]; rfl
      refine ⟨List.append_nil _, ?_⟩
      unfold freedT
      by_cases hz : t.pending.length = 0
      · rw [if_pos hz]
        have hrs : rs = [] := by rw [← ht] at hz; exact List.eq_nil_of_length_eq_zero hz
        have he := end_cases t
        refine ⟨?_, by rw [← ht]; rfl, by rw [← ht]; rfl, by rw [← ht]; rfl, phase_zero (by show endSt t ≠ 7 ∧ endSt t ≠ 8 ∧ endSt t ≠ 9 ∧ endSt t ≠ 10; omega), ?_, by show endSt t ≠ 0; omega, fun hc => ⟨by rw [← ht]; rfl, by rw [← ht]; exact hc, ?_⟩⟩
        · rw [hrs, sent_told, wayOf_end (by show endSt t = 2 ∨ endSt t = 3 ∨ endSt t = 5 ∨ endSt t = 6 ∨ _; omega)]
          rfl
        · rw [mu_end (by show endSt t = 2 ∨ endSt t = 3 ∨ endSt t = 5 ∨ endSt t = 6 ∨ _; omega)]; omega
        · show endSt t = 4 ∨ endSt t = 3 ∨ endSt t = 5
          have hc' : t.cancelled = false := by rw [← ht]; exact hc
          unfold endSt
          rw [hc', if_neg (by simp)]
          split <;> omega
      · rw [if_neg hz]
        have hst : t.state = 4 := by rw [← ht]; exact h4
        refine ⟨?_, by rw [← ht], by rw [← ht], by rw [← ht], phase_zero (by show t.state ≠ 7 ∧ t.state ≠ 8 ∧ t.state ≠ 9 ∧ t.state ≠ 10; omega), ?_, by show t.state ≠ 0; omega, fun hc => ⟨by rw [← ht], by rw [← ht]; exact hc, .inl hst⟩⟩
        · show eachL 5 rs ++ [] = wayOf t
          have htp : t.pending = rs := by rw [← ht]
          unfold wayOf
          rw [if_neg (by omega), if_pos hst, List.append_nil, htp]
        · rw [hmup]
          have htp : t.pending = rs := by rw [← ht]
          show mu t < _
          unfold mu
          rw [if_neg (show ¬ t.state = 1 by omega), if_pos (.inl hst), htp]
          omega
    obtain ⟨-, c1, c2, c3, c4, c5, c6, c7, c8⟩ := hcase
    refine ⟨_, upd Q r 0, ?_, h.on (q := { s := (freedT t).1, free := upd p.free r (p.free r + p.held r), held := upd p.held r 0, picked := p.picked, gone := p.gone, way := eachL 5 rs ++ sent (freedT t).2 }) (Q' := upd Q r 0) hma c2 c3 c4 hq0 (fun i hi => ?_) ?_ (fun i hi => ?_) c1, c6, fun w0 hF => ?_⟩
    · unfold comeP
      rw [hway]
      dsimp only
      rw [if_neg (by omega), Int.toNat_natCast]
      have hca : comeAt { p with way := eachL 5 rs } ⟨5, r, [], 0⟩ r = some ({ p with way := eachL 5 rs, free := upd p.free r (p.free r + p.held r), held := upd p.held r 0 }, ⟨2, r, []⟩) := rfl
      rw [hca]
      dsimp only
      rw [htell]
      unfold endsP
      dsimp only
      rw [if_pos ⟨c7, by rw [h4]; omega⟩]
    · show 0 ≤ upd p.free r (p.free r + p.held r) i
      have h1 := h.f0 r hrn
      have h2 := (hph0 r hrn).1
      by_cases e : i = r
      · subst e; rw [upd_at]; omega
      · rw [upd_ne e]; exact h.f0 i hi
    · show sumF (upd p.free r (p.free r + p.held r)) n + _ = _
      rw [sumF_upd hrn, sumF_upd hrn, (hph0 r hrn).1]; omega
    · rw [c5 i]
      obtain ⟨a1, a2, a3⟩ := hph0 i hi
      refine ⟨fun _ => ⟨?_, a2, a3⟩, fun e => (by omega), fun e => (by omega)⟩
      show upd p.held r 0 i = _
      by_cases e : i = r
      · subst e; rw [upd_at, upd_at]
      · rw [upd_ne e, upd_ne e]; exact a1
    · obtain ⟨f1, f2, f3⟩ := hF
      obtain ⟨d1, d2, d3⟩ := c8 f2
      refine ⟨d1.trans f1, d2, .inr (.inr ⟨d3, ?_⟩)⟩
      rcases f3 with ⟨f, -⟩ | f | ⟨-, f⟩
      · omega
      · omega
      · exact f
/-- a region picks what it holds -/
theorem come_pick (h : Inv n W T p Q) (h7 : p.s.state = 7) : ∃ p' Q', comeP n p = some p' ∧ Inv n W T p' Q' ∧ mu p'.s < mu p.s ∧ ∀ w0, Fair n W T w0 p → Fair n W T w0 p' := by
  obtain ⟨hh, hwd, hb⟩ := mayS_iff.1 h.may
  rw [bodyP hh (by omega)] at hb
  simp only [Bool.and_eq_true, Bool.not_eq_true', decide_eq_true_eq, decide_eq_false_iff_not] at hb
  obtain ⟨⟨⟨-, hb1⟩, -⟩, hb2⟩ := hb
  obtain ⟨hup, hin⟩ := rises_up' hb2
  cases hpd : p.s.pending with
  | nil => rw [hpd] at hb1; exact absurd rfl hb1
  | cons ri rs =>
    rw [hpd] at hup
    have hmem : ri ∈ holders p.s.got := hin ri (by rw [hpd]; simp)
    rw [h.got] at hmem
    obtain ⟨m1, m2, m3⟩ := holdersQ.1 hmem
    obtain ⟨r, rfl⟩ : ∃ r : Nat, ri = r := ⟨ri.toNat, by omega⟩
    rw [Int.toNat_natCast] at m3
    have hrn : r < n := by omega
    have hph : ∀ i : Nat, phase p.s i = if (i : Int) ∈ (r : Int) :: rs then 0 else 1 := fun i => by unfold phase; rw [if_pos h7]; rw [hpd]
    have hr0 : p.held r = Q r ∧ p.picked r = 0 ∧ p.gone r = 0 := by
      have h1 := h.pt r hrn
      rw [hph, if_pos (by simp)] at h1
      have h2 := h1.1 rfl
      omega
    have hnr : ∀ x ∈ rs, (r : Int) < x := (List.pairwise_cons.1 hup).1
    have hway : p.way = ⟨7, r, [], 0⟩ :: eachL 7 rs := by
      rw [h.way]
      unfold wayOf
      rw [if_neg (by omega), if_neg (by omega), if_pos h7]
      rw [hpd]
      rfl
    obtain ⟨t, ht⟩ : ∃ t : Saga, ({ p.s with pending := rs } : Saga) = t := ⟨_, rfl⟩
    have hdid : didS p.s ⟨6, r, it1 (p.held r)⟩ 7 8 = .ok (didT t 8) := by
      unfold didS didU
      rw [if_pos ⟨h7, idx_none.2 (by rw [hpd]; simp)⟩]
      dsimp only
      rw [hpd, off_head hup, Int.toNat_natCast, h.got, gotQ_at hrn, hr0.1, if_pos rfl, ← h.got, ht]
    obtain ⟨hma, htell⟩ := tell_ok (q := { p with way := eachL 7 rs, picked := upd p.picked r (p.held r), held := upd p.held r 0 }) (e := ⟨6, r, it1 (p.held r)⟩) h.may (by
      show happenS p.s _ = _
      rw [← hdid]
      rfl)
    have hcase : eachL 7 rs ++ sent (didT t 8).2 = wayOf (didT t 8).1 ∧ (didT t 8).1.want = p.s.want ∧ (didT t 8).1.regions = p.s.regions ∧ (didT t 8).1.got = p.s.got ∧ (∀ i : Nat, phase (didT t 8).1 i = if (i : Int) ∈ rs then 0 else 1) ∧ mu (didT t 8).1 < mu p.s ∧ (didT t 8).1.state ≠ 0 := by
      have hmup : mu p.s = rs.length + 1 := by unfold mu; rw [if_neg (by omega), if_pos (by omega), hpd]; rfl
      unfold didT
      by_cases hz : t.pending.length = 0
      · rw [if_pos hz]
        have hrs : rs = [] := by rw [← ht] at hz; exact List.eq_nil_of_length_eq_zero hz
        refine ⟨?_, by rw [← ht], by rw [← ht], by rw [← ht], fun i => ?_, ?_, by show (8 : Int) ≠ 0; omega⟩
        · rw [hrs, sent_told, wayOf_end (by show (8 : Int) = 2 ∨ (8 : Int) = 3 ∨ (8 : Int) = 5 ∨ (8 : Int) = 6 ∨ (8 : Int) = 8 ∨ (8 : Int) = 10; omega)]
          rfl
        · rw [hrs, if_neg (by simp)]
          rfl
        · rw [mu_end (by show (8 : Int) = 2 ∨ (8 : Int) = 3 ∨ (8 : Int) = 5 ∨ (8 : Int) = 6 ∨ (8 : Int) = 8 ∨ (8 : Int) = 10; omega)]; omega
      · rw [if_neg hz]
        have hst : t.state = 7 := by rw [← ht]; exact h7
        have htp : t.pending = rs := by rw [← ht]
        refine ⟨?_, by rw [← ht], by rw [← ht], by rw [← ht], fun i => ?_, ?_, by show t.state ≠ 0; omega⟩
        · show eachL 7 rs ++ [] = _
          unfold wayOf
          rw [hst, List.append_nil, htp]
          rfl
        · show phase t i = _
          unfold phase
          rw [hst, htp]
          rfl
        · show mu t < _
          unfold mu
          rw [if_neg (show ¬ t.state = 1 by omega), if_pos (show t.state = 4 ∨ t.state = 7 ∨ t.state = 9 by omega), if_neg (by omega), if_pos (show p.s.state = 4 ∨ p.s.state = 7 ∨ p.s.state = 9 by omega), hpd, htp]
          show rs.length < rs.length + 1
          omega
    obtain ⟨c1, c2, c3, c4, c5, c6, c7⟩ := hcase
    refine ⟨_, Q, ?_, h.on (q := { p with s := (didT t 8).1, picked := upd p.picked r (p.held r), held := upd p.held r 0, way := eachL 7 rs ++ sent (didT t 8).2 }) (Q' := Q) hma c2 c3 (c4.trans h.got) h.q0 h.f0 rfl (fun i hi => ?_) c1, c6, fun w0 hF => ?_⟩
    · unfold comeP
      rw [hway]
      dsimp only
      rw [if_neg (by omega), Int.toNat_natCast]
      have hca : comeAt { p with way := eachL 7 rs } ⟨7, r, [], 0⟩ r = some ({ p with way := eachL 7 rs, picked := upd p.picked r (p.held r), held := upd p.held r 0 }, ⟨6, r, it1 (p.held r)⟩) := rfl
      rw [hca]
      dsimp only
      rw [htell]
      unfold endsP
      dsimp only
      rw [if_pos ⟨c7, by rw [h7]; omega⟩]
    · rw [c5 i]
      have h1 := h.pt i hi
      rw [hph i] at h1
      show AtP _ (Q i) (upd p.held r 0 i) (upd p.picked r (p.held r) i) (p.gone i)
      by_cases e : i = r
      · subst e
        rw [upd_at, upd_at, if_neg (fun hx => by have := hnr _ hx; omega)]
        refine ⟨fun e => ?_, fun e => ?_, fun e => ?_⟩ <;> first | (omega; done) | exact ⟨by omega, by omega, by omega⟩
      · rw [upd_ne e, upd_ne e]
        by_cases hm : (i : Int) ∈ rs
        · rw [if_pos hm]; rw [if_pos (List.mem_cons.2 (.inr hm))] at h1; exact h1
        · rw [if_neg hm]; rw [if_neg (fun hx => (List.mem_cons.1 hx).elim (fun hx => by omega) hm)] at h1; exact h1
    · rcases hF.2.2 with ⟨f, -⟩ | f | ⟨f, -⟩ <;> omega
/-- a region ships what it picked -/
theorem come_ship (h : Inv n W T p Q) (h7 : p.s.state = 9) : ∃ p' Q', comeP n p = some p' ∧ Inv n W T p' Q' ∧ mu p'.s < mu p.s ∧ ∀ w0, Fair n W T w0 p → Fair n W T w0 p' := by
  obtain ⟨hh, hwd, hb⟩ := mayS_iff.1 h.may
  rw [bodyP hh (by omega)] at hb
  simp only [Bool.and_eq_true, Bool.not_eq_true', decide_eq_true_eq, decide_eq_false_iff_not] at hb
  obtain ⟨⟨⟨-, hb1⟩, -⟩, hb2⟩ := hb
  obtain ⟨hup, hin⟩ := rises_up' hb2
  cases hpd : p.s.pending with
  | nil => rw [hpd] at hb1; exact absurd rfl hb1
  | cons ri rs =>
    rw [hpd] at hup
    have hmem : ri ∈ holders p.s.got := hin ri (by rw [hpd]; simp)
    rw [h.got] at hmem
    obtain ⟨m1, m2, m3⟩ := holdersQ.1 hmem
    obtain ⟨r, rfl⟩ : ∃ r : Nat, ri = r := ⟨ri.toNat, by omega⟩
    rw [Int.toNat_natCast] at m3
    have hrn : r < n := by omega
    have hph : ∀ i : Nat, phase p.s i = if (i : Int) ∈ (r : Int) :: rs then 1 else 2 := fun i => by unfold phase; rw [if_neg (by omega), if_neg (by omega), if_pos h7]; rw [hpd]
    have hr0 : p.picked r = Q r ∧ p.gone r = 0 ∧ p.held r = 0 := by
      have h1 := h.pt r hrn
      rw [hph, if_pos (by simp)] at h1
      have h2 := h1.2.1 rfl
      omega
    have hnr : ∀ x ∈ rs, (r : Int) < x := (List.pairwise_cons.1 hup).1
    have hway : p.way = ⟨9, r, [], 0⟩ :: eachL 9 rs := by
      rw [h.way]
      unfold wayOf
      rw [if_neg (by omega), if_neg (by omega), if_neg (by omega), if_pos h7]
      rw [hpd]
      rfl
    obtain ⟨t, ht⟩ : ∃ t : Saga, ({ p.s with pending := rs } : Saga) = t := ⟨_, rfl⟩
    have hdid : didS p.s ⟨8, r, it1 (p.picked r)⟩ 9 10 = .ok (didT t 10) := by
      unfold didS didU
      rw [if_pos ⟨h7, idx_none.2 (by rw [hpd]; simp)⟩]
      dsimp only
      rw [hpd, off_head hup, Int.toNat_natCast, h.got, gotQ_at hrn, hr0.1, if_pos rfl, ← h.got, ht]
    obtain ⟨hma, htell⟩ := tell_ok (q := { p with way := eachL 9 rs, gone := upd p.gone r (p.picked r), picked := upd p.picked r 0 }) (e := ⟨8, r, it1 (p.picked r)⟩) h.may (by
      show happenS p.s _ = _
      rw [← hdid]
      rfl)
    have hcase : eachL 9 rs ++ sent (didT t 10).2 = wayOf (didT t 10).1 ∧ (didT t 10).1.want = p.s.want ∧ (didT t 10).1.regions = p.s.regions ∧ (didT t 10).1.got = p.s.got ∧ (∀ i : Nat, phase (didT t 10).1 i = if (i : Int) ∈ rs then 1 else 2) ∧ mu (didT t 10).1 < mu p.s ∧ (didT t 10).1.state ≠ 0 := by
      have hmup : mu p.s = rs.length + 1 := by unfold mu; rw [if_neg (by omega), if_pos (by omega), hpd]; rfl
      unfold didT
      by_cases hz : t.pending.length = 0
      · rw [if_pos hz]
        have hrs : rs = [] := by rw [← ht] at hz; exact List.eq_nil_of_length_eq_zero hz
        refine ⟨?_, by rw [← ht], by rw [← ht], by rw [← ht], fun i => ?_, ?_, by show (10 : Int) ≠ 0; omega⟩
        · rw [hrs, sent_told, wayOf_end (by show (10 : Int) = 2 ∨ (10 : Int) = 3 ∨ (10 : Int) = 5 ∨ (10 : Int) = 6 ∨ (10 : Int) = 8 ∨ (10 : Int) = 10; omega)]
          rfl
        · rw [hrs, if_neg (by simp)]
          rfl
        · rw [mu_end (by show (10 : Int) = 2 ∨ (10 : Int) = 3 ∨ (10 : Int) = 5 ∨ (10 : Int) = 6 ∨ (10 : Int) = 8 ∨ (10 : Int) = 10; omega)]; omega
      · rw [if_neg hz]
        have hst : t.state = 9 := by rw [← ht]; exact h7
        have htp : t.pending = rs := by rw [← ht]
        refine ⟨?_, by rw [← ht], by rw [← ht], by rw [← ht], fun i => ?_, ?_, by show t.state ≠ 0; omega⟩
        · show eachL 9 rs ++ [] = _
          unfold wayOf
          rw [hst, List.append_nil, htp]
          rfl
        · show phase t i = _
          unfold phase
          rw [hst, htp]
          rfl
        · show mu t < _
          unfold mu
          rw [if_neg (show ¬ t.state = 1 by omega), if_pos (show t.state = 4 ∨ t.state = 7 ∨ t.state = 9 by omega), if_neg (by omega), if_pos (show p.s.state = 4 ∨ p.s.state = 7 ∨ p.s.state = 9 by omega), hpd, htp]
          show rs.length < rs.length + 1
          omega
    obtain ⟨c1, c2, c3, c4, c5, c6, c7⟩ := hcase
    refine ⟨_, Q, ?_, h.on (q := { p with s := (didT t 10).1, gone := upd p.gone r (p.picked r), picked := upd p.picked r 0, way := eachL 9 rs ++ sent (didT t 10).2 }) (Q' := Q) hma c2 c3 (c4.trans h.got) h.q0 h.f0 rfl (fun i hi => ?_) c1, c6, fun w0 hF => ?_⟩
    · unfold comeP
      rw [hway]
      dsimp only
      rw [if_neg (by omega), Int.toNat_natCast]
      have hca : comeAt { p with way := eachL 9 rs } ⟨9, r, [], 0⟩ r = some ({ p with way := eachL 9 rs, gone := upd p.gone r (p.picked r), picked := upd p.picked r 0 }, ⟨8, r, it1 (p.picked r)⟩) := rfl
      rw [hca]
      dsimp only
      rw [htell]
      unfold endsP
      dsimp only
      rw [if_pos ⟨c7, by rw [h7]; omega⟩]
    · rw [c5 i]
      have h1 := h.pt i hi
      rw [hph i] at h1
      show AtP _ (Q i) (p.held i) (upd p.picked r 0 i) (upd p.gone r (p.picked r) i)
      by_cases e : i = r
      · subst e
        rw [upd_at, upd_at, if_neg (fun hx => by have := hnr _ hx; omega)]
        refine ⟨fun e => ?_, fun e => ?_, fun e => ?_⟩ <;> first | (omega; done) | exact ⟨by omega, by omega, by omega⟩
      · rw [upd_ne e, upd_ne e]
        by_cases hm : (i : Int) ∈ rs
        · rw [if_pos hm]; rw [if_pos (List.mem_cons.2 (.inr hm))] at h1; exact h1
        · rw [if_neg hm]; rw [if_neg (fun hx => (List.mem_cons.1 hx).elim (fun hx => by omega) hm)] at h1; exact h1
    · rcases hF.2.2 with ⟨f, -⟩ | f | ⟨f, -⟩ <;> omega
theorem inv_come (h : Inv n W T p Q) (hne : p.way ≠ []) : ∃ p' Q', comeP n p = some p' ∧ Inv n W T p' Q' ∧ mu p'.s < mu p.s ∧ ∀ w0, Fair n W T w0 p → Fair n W T w0 p' := by
  by_cases h1 : p.s.state = 1
  · exact come_take h h1
  by_cases h4 : p.s.state = 4
  · exact come_free h h4
  by_cases h7 : p.s.state = 7
  · exact come_pick h h7
  by_cases h9 : p.s.state = 9
  · exact come_ship h h9
  refine absurd ?_ hne
  rw [h.way]
  unfold wayOf
  rw [if_neg h1, if_neg h4, if_neg h7, if_neg h9]
theorem state_of {s : Saga} (h : mayS s = true) : 1 ≤ s.state ∧ s.state ≤ 10 := by
  obtain ⟨-, -, hb⟩ := mayS_iff.1 h
  apply Decidable.byContradiction
  intro hn
  rw [bodyN (by omega)] at hb
  cases hb
/-- nothing is on its way: an end -/
theorem inv_end (h : Inv n W T p Q) (he : p.way = []) : p.s.state = 2 ∨ p.s.state = 3 ∨ p.s.state = 5 ∨ p.s.state = 6 ∨ p.s.state = 8 ∨ p.s.state = 10 := by
  obtain ⟨hh, hwd, hb⟩ := mayS_iff.1 h.may
  have hs := state_of h.may
  have hw := h.way
  rw [he] at hw
  unfold wayOf at hw
  by_cases h1 : p.s.state = 1
  · rw [if_pos h1, ((body1 hh).1 (by rw [← h1]; exact hb)).2.2] at hw
    cases hw
  rw [if_neg h1] at hw
  have hne : p.s.state = 4 ∨ p.s.state = 7 ∨ p.s.state = 9 → p.s.pending ≠ [] := fun hx e => by
    rcases hx with hx | hx
    · rw [hx, bodyU] at hb
      simp only [Bool.and_eq_true, Bool.not_eq_true', decide_eq_true_eq, decide_eq_false_iff_not] at hb
      rw [← hb.2, e] at hb
      exact hb.1 rfl
    · rw [bodyP hh hx] at hb
      simp only [Bool.and_eq_true, Bool.not_eq_true', decide_eq_true_eq, decide_eq_false_iff_not] at hb
      exact hb.1.1.2 (by rw [e]; rfl)
  by_cases h4 : p.s.state = 4
  · rw [if_pos h4] at hw
    exact absurd (List.map_eq_nil_iff.1 hw.symm) (hne (.inl h4))
  rw [if_neg h4] at hw
  by_cases h7 : p.s.state = 7
  · rw [if_pos h7] at hw
    exact absurd (List.map_eq_nil_iff.1 hw.symm) (hne (.inr (.inl h7)))
  rw [if_neg h7] at hw
  by_cases h9 : p.s.state = 9
  · rw [if_pos h9] at hw
    exact absurd (List.map_eq_nil_iff.1 hw.symm) (hne (.inr (.inr h9)))
  omega
theorem mu_pos (h : Inv n W T p Q) (hm : mu p.s = 0) : p.way = [] := by
  apply Decidable.byContradiction
  intro hne
  obtain ⟨_, _, -, -, hlt, -⟩ := inv_come h hne
  omega
/-- who holds what at an end -/
theorem inv_last (h : Inv n W T p Q) (he : p.way = []) :
    (p.s.state = 2 ∧ sumF p.held n = W ∧ sumF p.picked n + sumF p.gone n = 0) ∨ (p.s.state = 8 ∧ sumF p.picked n = W ∧ sumF p.held n + sumF p.gone n = 0) ∨ (p.s.state = 10 ∧ sumF p.gone n = W ∧ sumF p.held n + sumF p.picked n = 0) ∨
    ((p.s.state = 3 ∨ p.s.state = 5 ∨ p.s.state = 6) ∧ sumF p.held n + sumF p.picked n + sumF p.gone n = 0) := by
  obtain ⟨hh, hwd, hb⟩ := mayS_iff.1 h.may
  have hs := h.sums
  have full : p.s.state = 2 ∨ p.s.state = 8 ∨ p.s.state = 10 → sumF Q n = W := fun hx => by
    rw [bodyH hh hx] at hb
    simp only [Bool.and_eq_true, decide_eq_true_eq] at hb
    have := h.left0
    omega
  have none' : holders p.s.got = [] → sumF Q n = 0 := fun e => sumF_zero fun i hi => by
    have hq := h.q0 i hi
    have : ¬ 0 < Q i := fun hlt => by
      have hm : (i : Int) ∈ holders p.s.got := by rw [h.got]; exact holdersQ.2 ⟨by omega, by omega, by rw [Int.toNat_natCast]; exact hlt⟩
      rw [e] at hm
      cases hm
    omega
  rcases inv_end h he with e | e | e | e | e | e
  · have h0 : ∀ i, i < n → p.held i = Q i ∧ p.picked i = 0 ∧ p.gone i = 0 := fun i hi => (h.pt i hi).1 (phase_zero (by omega) i)
    have := sumF_zero fun i hi => (h0 i hi).2.1
    have := sumF_zero fun i hi => (h0 i hi).2.2
    have := full (.inl e)
    exact .inl ⟨e, by omega, by omega⟩
  · rw [e, bodyW (.inl rfl)] at hb
    simp only [Bool.and_eq_true, decide_eq_true_eq] at hb
    have := none' (List.eq_nil_of_length_eq_zero hb.1.1.1)
    exact .inr (.inr (.inr ⟨.inl e, by omega⟩))
  · rw [e, bodyW (.inr rfl)] at hb
    simp only [Bool.and_eq_true, decide_eq_true_eq] at hb
    have := none' (List.eq_nil_of_length_eq_zero hb.1.1.1)
    exact .inr (.inr (.inr ⟨.inr (.inl e), by omega⟩))
  · rw [e, bodyG] at hb
    simp only [Bool.and_eq_true, decide_eq_true_eq] at hb
    have := none' (List.eq_nil_of_length_eq_zero hb.1.1)
    exact .inr (.inr (.inr ⟨.inr (.inr e), by omega⟩))
  · have h0 : ∀ i, i < n → p.held i = 0 ∧ p.picked i = Q i ∧ p.gone i = 0 := fun i hi => (h.pt i hi).2.1 (by unfold phase; rw [if_neg (by omega), if_pos e])
    have := sumF_zero fun i hi => (h0 i hi).1
    have := sumF_zero fun i hi => (h0 i hi).2.2
    have := full (.inr (.inl e))
    exact .inr (.inl ⟨e, by omega, by omega⟩)
  · have h0 : ∀ i, i < n → p.held i = 0 ∧ p.picked i = 0 ∧ p.gone i = Q i := fun i hi => (h.pt i hi).2.2 (by unfold phase; rw [if_neg (by omega), if_neg (by omega), if_neg (by omega), if_pos e])
    have := sumF_zero fun i hi => (h0 i hi).1
    have := sumF_zero fun i hi => (h0 i hi).2.1
    have := full (.inr (.inr e))
    exact .inr (.inr (.inl ⟨e, by omega, by omega⟩))
/-- an order that nobody cancels, at its end -/
theorem fair_last {w0 : Bool} (h : Inv n W T p Q) (he : p.way = []) (hF : Fair n W T w0 p) : (W ≤ T → p.s.state = 2) ∧ (T < W → (w0 = true ∧ p.s.state = 3) ∨ (w0 = false ∧ p.s.state = 5)) := by
  obtain ⟨hh, hwd, hb⟩ := mayS_iff.1 h.may
  obtain ⟨f1, f2, f3⟩ := hF
  have ht := h.tot
  have hf := sumF_nonneg h.f0
  have full : p.s.state = 2 → sumF Q n = W := fun hx => by
    rw [bodyH hh (.inl hx)] at hb
    simp only [Bool.and_eq_true, decide_eq_true_eq] at hb
    have := h.left0
    omega
  have hend := inv_end h he
  refine ⟨fun hle => ?_, fun hlt => ?_⟩
  · rcases f3 with ⟨f, -⟩ | f | ⟨-, f⟩
    · omega
    · exact f
    · omega
  · rcases f3 with ⟨f, -⟩ | f | ⟨f, -⟩
    · omega
    · have := full f; omega
    · have hst : p.s.state = 3 ∨ p.s.state = 5 := by omega
      rw [bodyW hst] at hb
      simp only [Bool.and_eq_true, beq_iff_eq] at hb
      have hw := hb.2
      rw [f1] at hw
      rcases hst with e | e
      · exact .inl ⟨by rw [hw]; simpa using e, e⟩
      · exact .inr ⟨by rw [hw]; simp; omega, e⟩
end
end Sa
end Go.Proofs.Ythfpfomifebpbaa
