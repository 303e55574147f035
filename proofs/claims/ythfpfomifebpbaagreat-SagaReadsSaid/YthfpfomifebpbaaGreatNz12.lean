/-
  saga: what an event's steps are.
  saga: the law SagaSteps.
  from a law's walk to its row: the call returns true, and nothing that was there has turned.
  arguments opened: a slice of structs, whatever the number of their one-cell fields; a slice of items.
  arguments opened: a slice of anything that can be read.
  arguments opened: sagas, events, slices of ints.
-/
import Derived.Test.YthfpfomifebpbaaGreatNz8
import Derived.Test.YthfpfomifebpbaaGreatNz1
import Derived.ProofKit
import Derived.OpenShut
import Derived.JoinedCond
import Derived.Deep.CondSized
import Derived.SizedLaws
import Derived.Deep.Slices
import Derived.Deep.Fields
import Derived.ChangeSame
import Derived.Test.YthfpfomifebpbaaGreatNz7

set_option linter.unusedVariables false
set_option linter.unusedSimpArgs false
namespace Go.Proofs.YthfpfomifebpbaaGreat
open Go.RowKit Go.Maps
namespace Sa
open It

def StepOk (t : Saga) (x : Step) : Prop :=
  (x.kind = 100 ∧ x.state = t.state) ∨ (x.kind = 3 ∧ 0 ≤ x.region ∧ x.region < t.regions ∧ x.items = leftR t.want t.got) ∨
  (x.kind ≠ 100 ∧ x.kind ≠ 3 ∧ 0 ≤ x.region ∧ x.region < t.regions ∧ (t.got.getD x.region.toNat []).length ≠ 0 ∧ x.items = [])
structure TOk (t : Saga) : Prop where
  got : (t.got.length : Int) = t.regions
  reg : t.regions ≤ 8
  want : t.want.length ≤ 16
theorem steps_told {t : Saga} {st : Int} (h : st = t.state) : ∀ x ∈ told st, StepOk t x := by
  intro x hx
  obtain rfl := List.mem_singleton.1 hx
  exact .inl ⟨rfl, h⟩
theorem steps_each {t : Saga} {kind : Int} (hg : (t.got.length : Int) = t.regions) (h1 : kind ≠ 100) (h2 : kind ≠ 3) : ∀ x ∈ eachL kind (holders t.got), StepOk t x := by
  intro x hx
  obtain ⟨r, hr, rfl⟩ := List.mem_map.1 hx
  obtain ⟨i, rfl, hi, hl⟩ := holders_mem hr
  refine .inr (.inr ⟨h1, h2, by show (0 : Int) ≤ (i : Int); omega, by show (i : Int) < t.regions; omega, ?_, rfl⟩)
  show (t.got.getD (i : Int).toNat []).length ≠ 0
  rw [Int.toNat_natCast]
  omega
def Good (r : Saga × List Step) : Prop := TOk r.1 ∧ ∀ x ∈ r.2, StepOk r.1 x
theorem good_end {t : Saga} (h : TOk t) : Good (endS t, told (endSt t)) := ⟨⟨h.got, h.reg, h.want⟩, steps_told rfl⟩
theorem good_none {t : Saga} (h : TOk t) : Good (t, []) := ⟨h, fun x hx => by simp at hx⟩
theorem good_undo {t : Saga} (h : TOk t) : Good (undoS t) := by
  unfold undoS
  split
  · exact good_end h
  · exact ⟨⟨h.got, h.reg, h.want⟩, steps_each (t := eachS t 4) h.got (by omega) (by omega)⟩
theorem leftR_none {want : List It.Item} (hw : M want) (n : Nat) : leftR want (List.replicate n []) = want := by
  have hL : ∀ l ∈ List.replicate n ([] : List It.Item), M l := fun l hl => by rw [(List.mem_replicate.1 hl).2]; exact M_nil
  obtain ⟨h1, h2⟩ := leftR_M hw hL
  refine M.ext h1 hw fun k => ?_
  rw [h2]
  have e : sumT k (List.replicate n ([] : List It.Item)) = 0 := by
    induction n with
    | zero => rfl
    | succ n ih =>
      rw [List.replicate_succ, sumT_cons, ih fun l hl => hL l (by rw [List.replicate_succ]; exact List.mem_cons_of_mem _ hl)]
      · rfl
      · exact (leftR_M hw fun l hl => hL l (by rw [List.replicate_succ]; exact List.mem_cons_of_mem _ hl)).1
      · exact (leftR_M hw fun l hl => hL l (by rw [List.replicate_succ]; exact List.mem_cons_of_mem _ hl)).2
  rw [e]
  have := hw.nonneg k
  omega
theorem good_begin {order first regions : Int} {want : List It.Item} {waits : Bool} {r : Saga × List Step} (h : beginS order first regions want waits = .ok r) : Good r := by
  unfold beginS beginU at h
  split at h
  · cases h
  · split at h
    · rename_i hm
      cases h
      have hh := (mayS_split hm).1
      have hM := (mayS_M hm).1
      have hf : (saga1 order first regions want waits).first = first := rfl
      refine ⟨⟨hh.got, hh.r2, by have := may_len hh.may; exact this⟩, fun x hx => ?_⟩
      obtain rfl := List.mem_singleton.1 hx
      exact .inr (.inl ⟨rfl, hh.f1, hh.f2, (leftR_none hM _).symm⟩)
    · cases h
theorem next_good {s : Saga} {e : Ev} {r : Saga × List Step} (h : nextS s e = .ok r) : Good r := by
  unfold nextS nextU at h
  split at h
  rotate_left
  · cases h
  rename_i hm
  obtain ⟨hh, hb⟩ := mayS_split hm
  obtain ⟨hMw, hMg, h8⟩ := mayS_M hm
  have hw16 : s.want.length ≤ 16 := may_len hh.may
  have hT : TOk s := ⟨hh.got, hh.r2, hw16⟩
  unfold happenS at h
  split at h
  · -- took
    unfold tookS tookU at h
    split at h
    · rename_i hst
      split at h
      · rename_i hc
        cases h
        obtain ⟨h1, hix⟩ := hst
        rcases idx_cases e.region s.pending with hi | ⟨i, hi, -, hgi⟩
        · exact absurd hi hix
        have hmem : e.region ∈ s.pending := by rw [← hgi, getD_get hi]; exact List.getElem_mem hi
        have hr := (pend_in hm).1 _ hmem
        have h0 := asked_none hm h1 hmem
        unfold covers at hc
        simp only [Bool.and_eq_true] at hc
        have hMe := M_of hc.1.2
        rw [missing_R hMw hMg h8] at hc ⊢
        have hML := (leftR_M hMw hMg).1
        rw [both_of hML hMe, left_set hMw hMg hMe (by omega) h0]
        have hT2 : TOk { s with pending := takeOff e.region s.pending, got := s.got.set e.region.toNat e.items } := ⟨by simpa using hh.got, hh.r2, hw16⟩
        unfold tookT
        split
        · exact good_undo hT2
        split
        · exact ⟨⟨hT2.got, hT2.reg, hT2.want⟩, steps_told rfl⟩
        split
        · rename_i hlt
          refine ⟨⟨hT2.got, hT2.reg, hT2.want⟩, fun x hx => ?_⟩
          obtain rfl := List.mem_singleton.1 hx
          have hv := hh.visit
          have ha := hh.a1
          have hlt' : s.asked < s.regions := hlt
          have hin : (visit s.first s.regions).getD s.asked.toNat 0 ∈ visit s.first s.regions := by
            rw [getD_get (show s.asked.toNat < (visit s.first s.regions).length by omega)]
            exact List.getElem_mem _
          have := visit_mem hin
          exact .inr (.inl ⟨rfl, this.1, this.2, rfl⟩)
        · exact good_undo hT2
      · cases h
    · cases h
  split at h
  · unfold freedS at h
    split at h
    · cases h
      have hT2 : TOk { s with pending := takeOff e.region s.pending, got := s.got.set e.region.toNat [] } := ⟨by simpa using hh.got, hh.r2, hw16⟩
      unfold freedT
      split
      · exact good_end hT2
      · exact good_none hT2
    · cases h
  split at h
  · unfold cancelS cancelAt at h
    have hT2 : TOk { s with cancelled := true } := ⟨hh.got, hh.r2, hw16⟩
    split at h
    · split at h
      · cases h
      · cases h
        exact good_none hT2
    split at h
    · cases h
      exact good_end hT2
    split at h
    · cases h
      exact good_undo hT2
    · cases h
  split at h
  · unfold retryS at h
    split at h
    · exact good_begin h
    · cases h
  split at h
  · unfold allS at h
    split at h
    · cases h
      exact ⟨⟨hT.got, hT.reg, hT.want⟩, steps_each (t := eachS s 7) hT.got (by omega) (by omega)⟩
    · cases h
  split at h
  · unfold didS didU at h
    split at h
    · split at h
      · cases h
        unfold didT
        split
        · exact ⟨⟨hT.got, hT.reg, hT.want⟩, steps_told rfl⟩
        · exact good_none ⟨hT.got, hT.reg, hT.want⟩
      · cases h
    · cases h
  split at h
  · unfold allS at h
    split at h
    · cases h
      exact ⟨⟨hT.got, hT.reg, hT.want⟩, steps_each (t := eachS s 9) hT.got (by omega) (by omega)⟩
    · cases h
  split at h
  · unfold didS didU at h
    split at h
    · split at h
      · cases h
        unfold didT
        split
        · exact ⟨⟨hT.got, hT.reg, hT.want⟩, steps_told rfl⟩
        · exact good_none ⟨hT.got, hT.reg, hT.want⟩
      · cases h
    · cases h
  · cases h
end Sa
end Go.Proofs.YthfpfomifebpbaaGreat

namespace Go.Proofs.YthfpfomifebpbaaGreat
open Go.RowKit Go.Maps
namespace Sa
open It
set_option linter.unusedSimpArgs false

theorem small_len {s : Saga} (h : smallS s = true) : s.want.length ≤ 50 ∧ s.got.length ≤ 50 := by
  unfold smallS at h
  simp only [Bool.and_eq_true, decide_eq_true_eq] at h
  exact ⟨h.1.1.1, h.1.1.2⟩

end Sa
end Go.Proofs.YthfpfomifebpbaaGreat

namespace Go.Proofs.YthfpfomifebpbaaGreat
open Go.ChangeShapes Go.WideShapes Go.ChangeAt Go.RowKit

theorem own : ownKnob Tryz.prog.godebug = none := by kernel_rfl
theorem laidOut : laidOutB Tryz.prog = true := by kernel_rfl

section
variable {H : Type} {enc : TypeId × Value → H} {P : Program}
/-- all arguments read as they did -/
theorem trodAll_stays (hl : laidOutB P = true) {W W' : World} (hb : Below W.heap.size W W') {sp : Nat → Bool} :
    ∀ {ts : List TypeId} {vs : List Value} {ds : List (DataW H)} {ps : List MemPlace}, ts.all (fun t => P.readableRec t && decide (t < P.types.size)) = true →
      DataW.TrodAll enc P W 0 (fun _ => true) true ts vs ds ps → (∀ p ∈ ps, p.block < W.heap.size) → (∀ p ∈ ps, sp p.block = true) → DataW.TrodAll enc P W' 0 sp true ts vs ds ps
  | [], vs, ds, ps, _, h, _, _ => by
    obtain ⟨rfl, rfl, rfl⟩ := trodAll_nil h
    exact trodAll_mk0
  | t :: ts, vs, ds, ps, hr, h, hlt, hs => by
    obtain ⟨v, vs', d, ds', p, q, rfl, rfl, rfl, h1, h2⟩ := trodAll_cons h
    simp only [List.all_cons, Bool.and_eq_true, decide_eq_true_eq] at hr
    exact trodAll_cons_mk (WideElems.Trod_stays hl hr.1.1 hr.1.2 h1 (fun x hx => hb.same (hlt x (List.mem_append_left _ hx))) (fun x hx => hs x (List.mem_append_left _ hx)))
      (trodAll_stays hl hb (by simpa using hr.2) h2 (fun x hx => hlt x (List.mem_append_right _ hx)) (fun x hx => hs x (List.mem_append_right _ hx)))

theorem law_post {f : Func} {s : ChangeSpec} {W W' : World} {args : Array Value} {ds gs : List (DataW H)} {before : List MemPlace} {tb : TypeId} (hl : laidOutB P = true)
    (hpar : f.params.toList.all (fun t => P.readableRec t && decide (t < P.types.size)) = true) (hrt : f.resultTypes = #[tb]) (ht : P.underlying tb = some .bool) (hv : s.vars = [])
    (hW : DataW.Whole enc P f.params.toList s.vars false W args.toList ds gs before) (hfn : s.fn H (ds ++ gs) = { results := [.lit (.bool true)], args := ds }) (hb : Below W.heap.size W W') :
    s.post enc P f false true false false W args (.bool true) W' := by
  obtain ⟨p, q, hA, hV, hps, hz, hn⟩ := id hW
  have hlt : ∀ x ∈ before, x.block < W.heap.size := fun x hx => hW.lt x hx
  have hq : q = [] := by
    rw [hv] at hV
    cases gs with
    | nil => exact hV
    | cons g gs => exact hV.elim
  subst hq
  rw [List.append_nil] at hps
  subst hps
  have hargs : ∀ sp : Nat → Bool, (∀ x ∈ before, sp x.block = true) → DataW.TrodAll enc P W' 0 sp true f.params.toList args.toList (s.fn H (ds ++ gs)).args before := fun sp hs => by
    rw [hfn]
    exact trodAll_stays hl hb hpar hA hlt hs
  have hres : ∀ (b : Nat) (sp : Nat → Bool) (hd : Bool), DataW.TrodAll enc P W' b sp hd f.resultTypes.toList ((Value.bool true).resultList f.resultTypes.size) (s.fn H (ds ++ gs)).results [] := fun b sp hd => by
    rw [hfn, hrt]
    exact trodAll_mk1 (shut_bool ht true)
  have hvars : ∀ sp : Nat → Bool, DataW.TrodVars enc P W' sp s.vars (s.fn H (ds ++ gs)).vars [] := fun sp => by
    rw [hfn, hv]
    rfl
  refine ⟨ds, gs, before, [], before, [], hW, hres _ _ _, hargs _ (fun x hx => by simpa using hlt x hx), hvars _, World.keptBut_mono (fun x hx => ⟨hx, .inr (.inl hx)⟩) (hb.frame (· ∈ before)), fun _ => ?_⟩
  refine ⟨ok_one hrt rfl (okWide_bool_mk ht _), _, _, ([] ++ before) ++ [], ⟨[] ++ before, [], trodAll_append (hargs _ (fun _ _ => rfl)) (hres _ _ _), hvars _, rfl, ?_, ?_⟩, ?_⟩
  · intro b off hp
    have hin : MemPlace.cell b off ∈ before := by simpa using hp
    rw [hb.frozen (hlt _ hin)]
    exact hz b off hin
  · intro ha; cases ha
  · intro x hx _
    simpa using hx
end
end Go.Proofs.YthfpfomifebpbaaGreat

namespace Go.Proofs.YthfpfomifebpbaaGreat
open Go.ChangeShapes Go.WideShapes Go.Deep Go.RowKit Go.ChangeAt

section
variable {H : Type} {enc : TypeId × Value → H} {P : Program} {w : World} {base : Nat} {spare : Nat → Bool} {held : Bool}
theorem open_slice_fields {t e : TypeId} {fs : Array Field} {fuel : Nat} {cs : List Value} {x : DataW H × List MemPlace} (ht : P.underlying t = some (.slice e)) (he : P.underlying e = some (.struct fs))
    (hone : oneCellFields P fs = true) (hC : P.cellsOf e = fs.size) (h : DataW.trod enc P w base spare held fuel t cs = some x) :
    (cs = [.slice none 0 0] ∧ x = (.nil, [])) ∨
    ∃ (a : Addr) (len cap m : Nat) (D : Nat → DataW H) (Pl : Nat → List MemPlace), cs = [.slice (some a) len cap] ∧ base ≤ a.block ∧ len ≤ cap ∧ cap ≤ maxLen ∧ m = (if spare a.block then cap else len) ∧
      x = (.slice ((List.range len).map D) ((List.range (m - len)).map fun j => D (len + j)), MemPlace.row a (m * fs.size) ++ (List.range m).flatMap Pl) ∧
      ∀ i, i < m → ∃ (ys : List (DataW H × List MemPlace)) (n : Nat), D i = .agg (ys.map (·.1)) ∧ Pl i = ys.flatMap (·.2) ∧ ys.length = fs.size ∧
        ∀ (j : Nat) (f : Field), fs[j]? = some f → ∃ (v : Value) (y : DataW H × List MemPlace), w.cell? (a.add (i * fs.size + j)) = some v ∧ ys[j]? = some y ∧ DataW.trod enc P w base spare held n f.type [v] = some y := by
  rcases open_slice ht h with h0 | ⟨a, len, cap, m, n, D, Pl, hcs, hb, hl, hm, hmm, hx, hi⟩
  · exact .inl h0
  · refine .inr ⟨a, len, cap, m, D, Pl, hcs, hb, hl, hm, hmm, by rw [hC] at hx; exact hx, fun i him => ?_⟩
    obtain ⟨cs', hc, ht'⟩ := hi i him
    rw [hC] at hc
    obtain ⟨ys, n', hn', hy, hlen, hyl, hf⟩ := DataW.trod_struct he ht'
    obtain ⟨_, hcl, hat⟩ := World.cells?_some hc
    simp only [Prod.mk.injEq] at hy
    refine ⟨ys, n', hy.1, hy.2, hyl, fun j f hj => ?_⟩
    obtain ⟨ho, hk⟩ := hone_of hone j f hj
    have hjl : j < fs.size := (Array.getElem?_eq_some_iff.1 hj).1
    have hcell := hat j hjl
    have hv : cs'[j]? = some (cs'[j]'(by omega)) := List.getElem?_eq_getElem (by omega)
    have h1 := hf j f hj
    rw [ho, hk] at h1
    have hone' : (cs'.drop j).take 1 = [cs'[j]'(by omega)] := by
      rw [List.drop_eq_getElem_cons (by omega)]
      rfl
    rw [hone'] at h1
    have hys : ys[j]? = some (ys[j]'(by omega)) := List.getElem?_eq_getElem (by omega)
    refine ⟨_, _, ?_, hys, h1.trans hys⟩
    rw [← Go.Deep.add_add, hcell, hv]

theorem cell_addr {w : World} {a : Addr} {v : Value} (h : w.cell? a = some v) : a.spot = none ∧ a.block < w.heap.size := by
  unfold World.cell? at h
  split at h
  · rename_i c _ _ hc
    refine ⟨?_, (Array.getElem?_eq_some_iff.1 hc).1⟩
    cases hs : a.spot with
    | none => rfl
    | some x => rw [hs] at h; simp at h
  · cases h
theorem addr_add (b o j : Nat) : (⟨b, o, none⟩ : Addr).add j = ⟨b, o + j, none⟩ := by unfold Addr.add; split <;> simp_all

/-- a list out of its elements' readings -/
theorem list_of {α : Type} (n : Nat) (p : Nat → α → Prop) (h : ∀ i, i < n → ∃ x, p i x) : ∃ l : List α, l.length = n ∧ ∀ i (hi : i < l.length), p i l[i] := by
  induction n with
  | zero => exact ⟨[], rfl, fun i hi => by simp at hi⟩
  | succ n ih =>
    obtain ⟨l, hl, hp⟩ := ih fun i hi => h i (by omega)
    obtain ⟨x, hx⟩ := h n (by omega)
    refine ⟨l ++ [x], by simp [hl], fun i hi => ?_⟩
    simp only [List.length_append, List.length_cons, List.length_nil] at hi
    by_cases e : i < l.length
    · rw [List.getElem_append_left e]; exact hp i e
    · obtain rfl : i = l.length := by omega
      simpa [hl] using hx
end
namespace It
theorem ItemsAt.mk {w : World} {lo B b o n c : Nat} {L : List Item} (hn : L.length = n) (h1 : n ≤ c) (h2 : c ≤ maxLen) (hlo : lo ≤ b) (hB : b < B)
    (h : ∀ i (hi : i < L.length), w.cell? ⟨b, o + i * 2, none⟩ = some (.string L[i].1) ∧ w.cell? ⟨b, o + i * 2 + 1, none⟩ = some (.int .i64 L[i].2)) : ItemsAt w lo B (.slice (some ⟨b, o, none⟩) n c) L := by
  subst hn
  refine ⟨itemCells_length L, _, _, rfl, h1, h2, fun _ => ⟨b, o, rfl, hlo, hB, fun j hj => ?_⟩⟩
  have hd := Nat.div_add_mod j 2
  have hm := Nat.mod_lt j (show 0 < 2 by omega)
  have hq : j / 2 < L.length := by omega
  obtain ⟨g1, g2⟩ := itemCells_get L (j / 2) hq
  obtain ⟨c1, c2⟩ := h (j / 2) hq
  rcases Nat.lt_or_ge (j % 2) 1 with hr | hr
  · obtain e : j = j / 2 * 2 := by omega
    rw [e, g1, ← c1]
  · obtain e : j = j / 2 * 2 + 1 := by omega
    rw [e, g2, ← c2]
    congr 2

set_option maxRecDepth 100000 in
theorem items_of_trod {H : Type} {enc : TypeId × Value → H} {W : World} {v : Value} {x : DataW H × List MemPlace} {held : Bool} {fuel : Nat} (hf : DataW.trod enc Tryz.prog W 0 (fun _ => true) held fuel 22 [v] = some x) :
    ∃ L : List Item, ItemsAt W 0 W.heap.size v L ∧ Fits L ∧ ((x.1 = .nil ∧ L = []) ∨ ∃ es sp, x.1 = .slice es sp ∧ es.length = L.length) := by
  rcases open_slice_fields Tryz.underlying22 Tryz.underlying50 (by kernel_rfl) (by kernel_rfl) hf with ⟨h1, h2⟩ | ⟨a, n, c, m, D, Pl, hcs, hb, hl, hm, hmm, hx, hi⟩
  · simp only [List.cons.injEq, and_true] at h1
    cases h1
    exact ⟨[], ItemsAt.nil _ _ _, (fun x hx => by cases hx), .inl ⟨by rw [h2], rfl⟩⟩
  · simp only [List.cons.injEq, and_true] at hcs
    cases hcs
    simp only [if_true] at hmm
    subst hmm
    have hel : ∀ i, i < n → ∃ x : Item, W.cell? (a.add (i * 2)) = some (.string x.1) ∧ W.cell? (a.add (i * 2 + 1)) = some (.int .i64 x.2) ∧ x.1.size ≤ maxLen ∧ -9223372036854775808 ≤ x.2 ∧ x.2 ≤ 9223372036854775807 := by
      intro i hin
      obtain ⟨ys, n', _, _, _, hf⟩ := hi i (by omega)
      obtain ⟨v0, y0, c0, _, t0⟩ := hf 0 _ rfl
      obtain ⟨v1, y1, c1, _, t1⟩ := hf 1 _ rfl
      obtain ⟨s, e0, _, hs⟩ := DataW.trod_string Tryz.underlying9 t0
      obtain ⟨k, e1, _, hk⟩ := DataW.trod_int Tryz.underlying3 t1
      simp only [List.cons.injEq, and_true] at e0 e1
      subst e0 e1
      have hkb : -9223372036854775808 ≤ k ∧ k ≤ 9223372036854775807 := by simpa [Lit.wf, IntKind.min, IntKind.max, IntKind.signed, IntKind.bits] using hk
      exact ⟨(s, k), c0, c1, hs, hkb.1, hkb.2⟩
    obtain ⟨L, hLn, hL⟩ := list_of n _ hel
    have hfit : Fits L := fun x hx => by
      obtain ⟨i, hi, rfl⟩ := List.getElem_of_mem hx
      exact (hL i hi).2.2
    refine ⟨L, ?_, hfit, .inr ⟨_, _, by rw [hx], by simp [hLn]⟩⟩
    rcases Nat.eq_zero_or_pos n with h0 | h0
    · subst h0
      obtain rfl : L = [] := List.eq_nil_of_length_eq_zero hLn
      exact ⟨rfl, _, _, rfl, hl, hm, fun h => by omega⟩
    · have h1 := cell_addr (hL 0 (by omega)).1
      obtain ⟨b, o, sp⟩ := a
      have hsp : sp = none := by
        have := h1.1
        unfold Addr.add at this
        simpa using this
      subst hsp
      have hb : b < W.heap.size := by
        have := h1.2
        rw [addr_add] at this
        exact this
      refine ItemsAt.mk hLn hl hm (Nat.zero_le _) hb fun i hi => ?_
      have := hL i hi
      rw [addr_add, addr_add] at this
      exact ⟨this.1, by rw [← this.2.1]; congr 2⟩

set_option maxRecDepth 100000 in
/-- an argument that is a slice of items -/
theorem open_items {H : Type} {enc : TypeId × Value → H} {W : World} {base : Nat} {v : Value} {d : DataW H} {p : List MemPlace} {held : Bool} (hval : Value.okWide Tryz.prog W .any base 22 v)
    (h : DataW.Trod enc Tryz.prog W 0 (fun _ => true) held 22 v d p) :
    ∃ L : List Item, ItemsAt W 0 W.heap.size v L ∧ Fits L ∧ ((d = .nil ∧ L = []) ∨ ∃ es sp, d = .slice es sp ∧ es.length = L.length) := by
  obtain ⟨A, n, c, rfl⟩ := okWide_slice Tryz.underlying22 hval
  obtain ⟨fuel, hf⟩ := h
  exact items_of_trod hf
theorem items_bytes : Tryz.prog.bytesOf 50 = 24 := by kernel_rfl
theorem items_reach {H : Type} {ts : List TypeId} {ds : List (DataW H)} {j : Nat} {d : DataW H} {L : List Item} (h : (DataW.weightsEach Tryz.prog ts ds).all (· ≤ reachBytes) = true) (ht : ts[j]? = some 22) (hd : ds[j]? = some d)
    (hx : (d = .nil ∧ L = []) ∨ ∃ es sp, d = .slice es sp ∧ es.length = L.length) : L.length * 24 ≤ 140737488351232 := by
  rcases hx with ⟨_, rfl⟩ | ⟨es, sp, rfl, hl⟩
  · simp
  · have := sized_slice h ht hd Tryz.underlying22
    rw [items_bytes] at this
    unfold reachBytes at this
    have h2 : es.length * 24 ≤ (es.length + sp.length) * 24 := Nat.mul_le_mul_right _ (Nat.le_add_right _ _)
    omega
end It
end Go.Proofs.YthfpfomifebpbaaGreat

namespace Go.Proofs.YthfpfomifebpbaaGreat
open Go.ChangeShapes Go.WideShapes Go.Deep Go.RowKit Go.ChangeAt
section
variable {H : Type} {enc : TypeId × Value → H} {P : Program} {W : World} {held : Bool}
theorem slice_of_trod {t e : TypeId} {C fuel : Nat} {v : Value} {x : DataW H × List MemPlace} (ht : P.underlying t = some (.slice e)) (hC : P.cellsOf e = C) (hpos : 0 < C) (hf : DataW.trod enc P W 0 (fun _ => true) held fuel t [v] = some x) :
    ∃ (A : Option Addr) (n c : Nat), v = .slice A n c ∧ n ≤ c ∧ c ≤ maxLen ∧
      (∀ i, i < n → ∃ (b o : Nat) (cs : List Value) (y : DataW H × List MemPlace) (fuel' : Nat), A = some ⟨b, o, none⟩ ∧ b < W.heap.size ∧ cs.length = C ∧ (∀ j w, cs[j]? = some w → W.cell? ⟨b, o + i * C + j, none⟩ = some w) ∧ DataW.trod enc P W 0 (fun _ => true) held fuel' e cs = some y) ∧
      ((x.1 = .nil ∧ n = 0) ∨ ∃ es sp, x.1 = .slice es sp ∧ es.length = n) := by
  rcases open_slice ht hf with ⟨h1, h2⟩ | ⟨a, n, c, m, k, D, Pl, hcs, hb, hl, hm, hmm, hx, hi⟩
  · simp only [List.cons.injEq, and_true] at h1
    cases h1
    exact ⟨none, 0, 0, rfl, Nat.le_refl _, by unfold maxLen; omega, fun i hi => by omega, .inl ⟨by rw [h2], rfl⟩⟩
  · simp only [List.cons.injEq, and_true] at hcs
    cases hcs
    simp only [if_true] at hmm
    subst hmm
    rw [hC] at hi
    refine ⟨some a, n, _, rfl, hl, hm, fun i hin => ?_, .inr ⟨_, _, by rw [hx], by simp⟩⟩
    obtain ⟨cs0, hz, -⟩ := hi 0 (by omega)
    obtain ⟨_, hzl, hzt⟩ := World.cells?_some hz
    obtain ⟨w0, hw0⟩ : ∃ w, cs0[0]? = some w := ⟨_, List.getElem?_eq_getElem (by omega)⟩
    have hc0 := hzt (i := 0) hpos
    rw [hw0, Go.Deep.add_add] at hc0
    have hca := cell_addr hc0
    obtain ⟨cs', hc, ht'⟩ := hi i (by omega)
    obtain ⟨_, hcl, hat⟩ := World.cells?_some hc
    obtain ⟨b, o, sp⟩ := a
    have hsp : sp = none := by
      have := hca.1
      unfold Addr.add at this
      simpa using this
    subst hsp
    refine ⟨b, o, cs', _, _, rfl, ?_, hcl, fun j w hj => ?_, ht'⟩
    · have := hca.2
      rw [addr_add] at this
      exact this
    · have hjl : j < C := by rw [← hcl]; exact (List.getElem?_eq_some_iff.1 hj).1
      have := hat (i := j) hjl
      rw [hj, Go.Deep.add_add, addr_add] at this
      rw [← this]
      congr 2
      omega
end
end Go.Proofs.YthfpfomifebpbaaGreat

namespace Go.Proofs.YthfpfomifebpbaaGreat
open Go.ChangeShapes Go.WideShapes Go.Deep Go.RowKit Go.ChangeAt
namespace Sa
open It
section
variable {H : Type} {enc : TypeId × Value → H} {W : World} {held : Bool} {fuel : Nat} {x : DataW H × List MemPlace}
theorem ints_of_trod {v : Value} (hf : DataW.trod enc Tryz.prog W 0 (fun _ => true) held fuel 24 [v] = some x) :
    ∃ l : List Int, IntsAt W 0 W.heap.size v l ∧ ∀ k ∈ l, -9223372036854775808 ≤ k ∧ k ≤ 9223372036854775807 := by
  obtain ⟨A, n, c, rfl, h1, h2, h3, -⟩ := slice_of_trod Tryz.underlying24 (show Tryz.prog.cellsOf 3 = 1 by kernel_rfl) (by omega) hf
  have hel : ∀ i, i < n → ∃ k : Int, (-9223372036854775808 ≤ k ∧ k ≤ 9223372036854775807) ∧ ∃ b p, A = some ⟨b, p, none⟩ ∧ b < W.heap.size ∧ W.cell? ⟨b, p + i, none⟩ = some (.int .i64 k) := by
    intro i hin
    obtain ⟨b, o, cs, y, f', ea, hbW, hcl, hat, ht⟩ := h3 i hin
    obtain ⟨k0, c0, _, hk0⟩ := DataW.trod_int Tryz.underlying3 ht
    subst c0
    have hc := hat 0 _ rfl
    rw [Nat.mul_one, Nat.add_zero] at hc
    exact ⟨k0, by simpa [Lit.wf, IntKind.min, IntKind.max, IntKind.signed, IntKind.bits] using hk0, b, o, ea, hbW, hc⟩
  obtain ⟨l, hLn, hL⟩ := list_of n _ hel
  subst hLn
  refine ⟨l, ?_, fun k hk => ?_⟩
  · refine ⟨by simp [ints], A, c, rfl, h1, h2, fun h => ?_⟩
    obtain ⟨-, b, p, ea, hb, -⟩ := hL 0 h
    refine ⟨b, p, ea, Nat.zero_le _, hb, fun j hj => ?_⟩
    rw [Nat.mul_one] at hj
    obtain ⟨-, b', p', ea', -, hc⟩ := hL j hj
    rw [ea] at ea'
    cases ea'
    rw [hc]
    simp [ints, hj]
  · obtain ⟨i, hi, rfl⟩ := List.getElem_of_mem hk
    exact (hL i hi).1
theorem got_of_trod {v : Value} (hf : DataW.trod enc Tryz.prog W 0 (fun _ => true) held fuel 23 [v] = some x) :
    ∃ L : List (List It.Item), GotAt W 0 W.heap.size v L ∧ FitsL L := by
  obtain ⟨A, n, c, rfl, h1, h2, h3, -⟩ := slice_of_trod Tryz.underlying23 (show Tryz.prog.cellsOf 22 = 1 by kernel_rfl) (by omega) hf
  have hel : ∀ i, i < n → ∃ q : List It.Item × Value, Fits q.1 ∧ ItemsAt W 0 W.heap.size q.2 q.1 ∧ ∃ b p, A = some ⟨b, p, none⟩ ∧ b < W.heap.size ∧ W.cell? ⟨b, p + i, none⟩ = some q.2 := by
    intro i hin
    obtain ⟨b, o, cs, y, f', ea, hbW, hcl, hat, ht⟩ := h3 i hin
    obtain ⟨v', rfl⟩ := List.length_eq_one_iff.1 hcl
    obtain ⟨l, k1, k2, -⟩ := items_of_trod ht
    have hc := hat 0 _ rfl
    rw [Nat.mul_one, Nat.add_zero] at hc
    exact ⟨(l, v'), k2, k1, b, o, ea, hbW, hc⟩
  obtain ⟨qs, hLn, hL⟩ := list_of n _ hel
  subst hLn
  have hg1 : ∀ k (hk : k < qs.length), (qs.map (·.2)).getD k (.slice none 0 0) = qs[k].2 := fun k hk => by simp [List.getD, hk]
  have hg2 : ∀ k (hk : k < qs.length), (qs.map (·.1)).getD k [] = qs[k].1 := fun k hk => by simp [List.getD, hk]
  refine ⟨qs.map (·.1), ⟨qs.map (·.2), by simp, ?_, fun k hk => ?_⟩, fun l hl => ?_⟩
  · rw [List.length_map]
    refine ⟨by simp, A, c, rfl, h1, h2, fun h => ?_⟩
    obtain ⟨-, -, b, p, ea, hb, -⟩ := hL 0 h
    refine ⟨b, p, ea, Nat.zero_le _, hb, fun j hj => ?_⟩
    rw [Nat.mul_one] at hj
    obtain ⟨-, -, b', p', ea', -, hc⟩ := hL j hj
    rw [ea] at ea'
    cases ea'
    rw [hc]
    simp [hj]
  · rw [List.length_map] at hk
    rw [hg1 k hk, hg2 k hk]
    exact (hL k hk).2.1
  · obtain ⟨q, hq, rfl⟩ := List.mem_map.1 hl
    obtain ⟨i, hi, rfl⟩ := List.getElem_of_mem hq
    exact (hL i hi).1
structure OkSaga (s : Saga) : Prop where
  order : -9223372036854775808 ≤ s.order ∧ s.order ≤ 9223372036854775807
  first : -9223372036854775808 ≤ s.first ∧ s.first ≤ 9223372036854775807
  regions : -9223372036854775808 ≤ s.regions ∧ s.regions ≤ 9223372036854775807
  state : -9223372036854775808 ≤ s.state ∧ s.state ≤ 9223372036854775807
  asked : -9223372036854775808 ≤ s.asked ∧ s.asked ≤ 9223372036854775807
  pend : ∀ k ∈ s.pending, -9223372036854775808 ≤ k ∧ k ≤ 9223372036854775807
  fit : Fit s
set_option maxRecDepth 100000 in
theorem saga_of_trod {cs : List Value} (hf : DataW.trod enc Tryz.prog W 0 (fun _ => true) held fuel 26 cs = some x) :
    ∃ (s : Saga) (vw vg vp : Value), cs = (sagaC s vw vg vp).toList ∧ OkSaga s ∧ Parts W 0 W.heap.size s vw vg vp := by
  obtain ⟨ys, n, hn, hy, hlen, hyl, hfs⟩ := DataW.trod_struct Tryz.underlying26 hf
  have hl10 : cs.length = 10 := hlen.trans (by kernel_rfl)
  obtain ⟨v0, v1, v2, v3, v4, v5, v6, v7, v8, v9, rfl⟩ : ∃ v0 v1 v2 v3 v4 v5 v6 v7 v8 v9, cs = [v0, v1, v2, v3, v4, v5, v6, v7, v8, v9] := by
    match cs, hl10 with
    | [a, b, c, d, e, f, g, h, i, j], _ => exact ⟨a, b, c, d, e, f, g, h, i, j, rfl⟩
  have hys : ∀ j, j < 10 → ∃ y, ys[j]? = some y := fun j hj => ⟨_, List.getElem?_eq_getElem (by rw [hyl]; exact hj)⟩
  have int_of : ∀ (j : Nat) (f : Field) (v : Value), j < 10 → f.type = 3 → DataW.trod enc Tryz.prog W 0 (fun _ => true) held n f.type [v] = ys[j]? → ∃ k : Int, v = .int .i64 k ∧ -9223372036854775808 ≤ k ∧ k ≤ 9223372036854775807 := fun j f v hj hft h => by
    obtain ⟨y, hy⟩ := hys j hj
    rw [hy, hft] at h
    obtain ⟨k, e1, _, hk⟩ := DataW.trod_int Tryz.underlying3 h
    simp only [List.cons.injEq, and_true] at e1
    subst e1
    exact ⟨k, rfl, by simpa [Lit.wf, IntKind.min, IntKind.max, IntKind.signed, IntKind.bits] using hk⟩
  have bool_of : ∀ (j : Nat) (f : Field) (v : Value), j < 10 → f.type = 4 → DataW.trod enc Tryz.prog W 0 (fun _ => true) held n f.type [v] = ys[j]? → ∃ k : Bool, v = .bool k := fun j f v hj hft h => by
    obtain ⟨y, hy⟩ := hys j hj
    rw [hy, hft] at h
    obtain ⟨k, e1, _⟩ := DataW.trod_bool Tryz.underlying4 h
    simp only [List.cons.injEq, and_true] at e1
    subst e1
    exact ⟨k, rfl⟩
  have fld := fun (j : Nat) (f : Field) hj => by
    obtain ⟨ho, hk⟩ := hone_of (P := Tryz.prog) (by kernel_rfl) j f hj
    have := hfs j f hj
    rw [ho, hk] at this
    exact this
  obtain ⟨k0, rfl, b0⟩ := int_of 0 _ v0 (by omega) rfl (fld 0 _ rfl)
  obtain ⟨k1, rfl, b1⟩ := int_of 1 _ v1 (by omega) rfl (fld 1 _ rfl)
  obtain ⟨k2, rfl, b2⟩ := int_of 2 _ v2 (by omega) rfl (fld 2 _ rfl)
  have g3 := fld 3 _ rfl
  obtain ⟨k4, rfl⟩ := bool_of 4 _ v4 (by omega) rfl (fld 4 _ rfl)
  obtain ⟨k5, rfl, b5⟩ := int_of 5 _ v5 (by omega) rfl (fld 5 _ rfl)
  obtain ⟨k6, rfl, b6⟩ := int_of 6 _ v6 (by omega) rfl (fld 6 _ rfl)
  have g7 := fld 7 _ rfl
  have g8 := fld 8 _ rfl
  obtain ⟨k9, rfl⟩ := bool_of 9 _ v9 (by omega) rfl (fld 9 _ rfl)
  obtain ⟨y3, hy3⟩ := hys 3 (by omega)
  rw [hy3] at g3
  obtain ⟨L3, p3, f3, -⟩ := items_of_trod (v := v3) g3
  obtain ⟨y7, hy7⟩ := hys 7 (by omega)
  rw [hy7] at g7
  obtain ⟨L7, p7, f7⟩ := got_of_trod (v := v7) g7
  obtain ⟨y8, hy8⟩ := hys 8 (by omega)
  rw [hy8] at g8
  obtain ⟨L8, p8, f8⟩ := ints_of_trod (v := v8) g8
  exact ⟨⟨k0, k1, k2, L3, k4, k5, k6, L7, L8, k9⟩, v3, v7, v8, rfl, ⟨b0, b1, b2, b5, b6, f8, ⟨f3, f7⟩⟩, ⟨p3, p7, p8⟩⟩
set_option maxRecDepth 100000 in
theorem event_of_trod {cs : List Value} (hf : DataW.trod enc Tryz.prog W 0 (fun _ => true) held fuel 28 cs = some x) :
    ∃ (e : Ev) (v : Value), cs = (evC e v).toList ∧ ((-9223372036854775808 ≤ e.kind ∧ e.kind ≤ 9223372036854775807) ∧ (-9223372036854775808 ≤ e.region ∧ e.region ≤ 9223372036854775807) ∧ Fits e.items) ∧ ItemsAt W 0 W.heap.size v e.items := by
  obtain ⟨ys, n, hn, hy, hlen, hyl, hfs⟩ := DataW.trod_struct Tryz.underlying28 hf
  have hl3 : cs.length = 3 := hlen.trans (by kernel_rfl)
  obtain ⟨v0, v1, v2, rfl⟩ : ∃ v0 v1 v2, cs = [v0, v1, v2] := by
    match cs, hl3 with
    | [a, b, c], _ => exact ⟨a, b, c, rfl⟩
  have hys : ∀ j, j < 3 → ∃ y, ys[j]? = some y := fun j hj => ⟨_, List.getElem?_eq_getElem (by rw [hyl]; exact hj)⟩
  have int_of : ∀ (j : Nat) (f : Field) (v : Value), j < 3 → f.type = 3 → DataW.trod enc Tryz.prog W 0 (fun _ => true) held n f.type [v] = ys[j]? → ∃ k : Int, v = .int .i64 k ∧ -9223372036854775808 ≤ k ∧ k ≤ 9223372036854775807 := fun j f v hj hft h => by
    obtain ⟨y, hy⟩ := hys j hj
    rw [hy, hft] at h
    obtain ⟨k, e1, _, hk⟩ := DataW.trod_int Tryz.underlying3 h
    simp only [List.cons.injEq, and_true] at e1
    subst e1
    exact ⟨k, rfl, by simpa [Lit.wf, IntKind.min, IntKind.max, IntKind.signed, IntKind.bits] using hk⟩
  have fld := fun (j : Nat) (f : Field) hj => by
    obtain ⟨ho, hk⟩ := hone_of (P := Tryz.prog) (by kernel_rfl) j f hj
    have := hfs j f hj
    rw [ho, hk] at this
    exact this
  obtain ⟨k0, rfl, b0⟩ := int_of 0 _ v0 (by omega) rfl (fld 0 _ rfl)
  obtain ⟨k1, rfl, b1⟩ := int_of 1 _ v1 (by omega) rfl (fld 1 _ rfl)
  have g2 := fld 2 _ rfl
  obtain ⟨y2, hy2⟩ := hys 2 (by omega)
  rw [hy2] at g2
  obtain ⟨L, h1, h2, -⟩ := items_of_trod (v := v2) g2
  exact ⟨⟨k0, k1, L⟩, v2, rfl, ⟨b0, b1, h2⟩, h1⟩
end
section
variable {H : Type} {enc : TypeId × Value → H} {W : World} {base : Nat} {v : Value} {d : DataW H} {p : List MemPlace} {held : Bool}
set_option maxRecDepth 100000 in
theorem open_saga (hval : Value.okWide Tryz.prog W .any base 26 v) (h : DataW.Trod enc Tryz.prog W 0 (fun _ => true) held 26 v d p) :
    ∃ (s : Saga) (vw vg vp : Value), v = .agg (sagaC s vw vg vp) ∧ OkSaga s ∧ Parts W 0 W.heap.size s vw vg vp := by
  obtain ⟨cs, rfl, -⟩ := okWide_struct Tryz.underlying26 hval
  obtain ⟨fuel, hf⟩ := h
  obtain ⟨s, vw, vg, vp, e, h1, h2⟩ := saga_of_trod hf
  refine ⟨s, vw, vg, vp, ?_, h1, h2⟩
  congr 1
  apply Array.toList_inj.1
  rw [← e]
  simp [Value.cells]
set_option maxRecDepth 100000 in
theorem open_event (hval : Value.okWide Tryz.prog W .any base 28 v) (h : DataW.Trod enc Tryz.prog W 0 (fun _ => true) held 28 v d p) :
    ∃ (e : Ev) (ve : Value), v = .agg (evC e ve) ∧ ((-9223372036854775808 ≤ e.kind ∧ e.kind ≤ 9223372036854775807) ∧ (-9223372036854775808 ≤ e.region ∧ e.region ≤ 9223372036854775807) ∧ Fits e.items) ∧ ItemsAt W 0 W.heap.size ve e.items := by
  obtain ⟨cs, rfl, -⟩ := okWide_struct Tryz.underlying28 hval
  obtain ⟨fuel, hf⟩ := h
  obtain ⟨s, ve, e, h1, h2⟩ := event_of_trod hf
  refine ⟨s, ve, ?_, h1, h2⟩
  congr 1
  apply Array.toList_inj.1
  rw [← e]
  simp [Value.cells]
end
end Sa
end Go.Proofs.YthfpfomifebpbaaGreat
