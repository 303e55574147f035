/-
  parcels: what the law Bounds keeps.
-/
import Derived.Test.YtdbkkldgobkjcaaPcA
import Derived.Test.YtdbkkldgobkjcaaMvG
namespace Go.Proofs.Ytdbkkldgobkjcaa
open Go.RowKit Go.Maps
namespace Pc
open It Mv

def wantOf (ds : List Row) (k : Int) : Int := match findR ds k with | some d => ofSum sa d.wa | none => 0
def sentOf (ds : List Row) (k : Int) : Int := match findR ds k with | some d => ofSum sa d.sh | none => 0
def backA (ds : List Row) (k : Int) : Int := match findR ds k with | some d => ofSum sa d.ba | none => 0
/-- what the law keeps in its two maps -/
structure Bnd (ds : List Row) (mw ms : List (Int × Value)) : Prop where
  wt : ∀ k, (mGet mw k).getD (.int .i64 0) = .int .i64 (wantOf ds k)
  st : ∀ k, (mGet ms k).getD (.int .i64 0) = .int .i64 (sentOf ds k)
theorem Bnd.nil : Bnd [] [] [] := ⟨fun _ => rfl, fun _ => rfl⟩
theorem bounds {ds : List Row} (h : ∀ d ∈ ds, OkR d) (k : Int) : 0 ≤ sentOf ds k ∧ sentOf ds k ≤ wantOf ds k ∧ backA ds k ≤ sentOf ds k ∧ wantOf ds k ≤ 1099511627776 := by
  unfold wantOf sentOf backA
  cases hf : findR ds k with
  | none => simp
  | some d =>
    have hd := h d (findR_mem hf).1
    refine ⟨?_, ofSum_covers hd.wa hd.sh hd.cs sa, ofSum_covers hd.sh hd.ba hd.cb sa, ?_⟩
    · dsimp only; rw [hd.sh.of]; exact hd.sh.nonneg _
    · dsimp only; rw [hd.wa.of]; exact hd.wa.le _
theorem wantOf_put (ds : List Row) (d : Row) (k : Int) : wantOf (putR ds d) k = if d.od = k then ofSum sa d.wa else wantOf ds k := by
  unfold wantOf
  rw [findR_put]
  by_cases e : d.od = k
  · rw [if_pos e, if_pos e]
  · rw [if_neg e, if_neg e]
theorem sentOf_put (ds : List Row) (d : Row) (k : Int) : sentOf (putR ds d) k = if d.od = k then ofSum sa d.sh else sentOf ds k := by
  unfold sentOf
  rw [findR_put]
  by_cases e : d.od = k
  · rw [if_pos e, if_pos e]
  · rw [if_neg e, if_neg e]

theorem open_code {ds : List Row} {od : Int} {wa : List It.Item} {fb : Nat} (h : (openOf ds od wa fb).2 = 0) : openOf ds od wa fb = (putR ds ⟨od, wa, [], [], [], fb⟩, 0) ∧ findR ds od = none := by
  unfold openOf at h ⊢
  split at h
  · simp at h
  · rename_i h1
    split at h
    · simp at h
    · rename_i h2
      split at h
      · simp at h
      · rename_i h3
        rw [if_neg h1, if_neg h2, if_neg h3]
        exact ⟨rfl, by simpa using h3⟩
theorem open_same {ds : List Row} {od : Int} {wa : List It.Item} {fb : Nat} (h : (openOf ds od wa fb).2 ≠ 0) : (openOf ds od wa fb).1 = ds := by
  unfold openOf at h ⊢
  split
  · rfl
  · rename_i h1
    rw [if_neg h1] at h
    split
    · rfl
    · rename_i h2
      rw [if_neg h2] at h
      split
      · rfl
      · rename_i h3
        rw [if_neg h3] at h
        exact (h rfl).elim
theorem open_fb (ds : List Row) (od : Int) (wa : List It.Item) (fb fb' : Nat) : (openOf ds od wa fb).2 = (openOf ds od wa fb').2 := by
  unfold openOf
  split
  · rfl
  · split
    · rfl
    · split <;> rfl
theorem ship_code {ds : List Row} {od r : Int} {l : List It.Item} (h : (shipOf ds od r l).2 = 0) :
    ∃ d, findR ds od = some d ∧ may l = true ∧ isIn d r = false ∧ (0 ≤ r ∧ r < 8) ∧ (withinOf d.wa d.sh l).2 = 0 ∧ (shipOf ds od r l).1 = putR ds { d with sh := (withinOf d.wa d.sh l).1, fr := mPut intK d.fr r (.bool true) } := by
  unfold shipOf at h ⊢
  split at h
  · simp at h
  · rename_i h1
    rw [if_neg h1]
    cases hf : findR ds od with
    | none => rw [hf] at h; simp at h
    | some d =>
      rw [hf] at h
      dsimp only at h ⊢
      split at h
      · simp at h
      · rename_i h2
        split at h
        · simp at h
        · rename_i h3
          split at h
          · rename_i h4
            rw [if_neg h2, if_neg h3, if_pos h4]
            exact ⟨d, rfl, by simpa using h2, by simpa using h3, by omega, h4, rfl⟩
          · rename_i h4
            exact (h4 h).elim
theorem ship_same {ds : List Row} {od r : Int} {l : List It.Item} (h : (shipOf ds od r l).2 ≠ 0) : (shipOf ds od r l).1 = ds := by
  unfold shipOf at h ⊢
  split
  · rfl
  · rename_i h1
    rw [if_neg h1] at h
    cases hf : findR ds od with
    | none => rfl
    | some d =>
      rw [hf] at h
      dsimp only at h ⊢
      split
      · rfl
      · rename_i h2
        rw [if_neg h2] at h
        split
        · rfl
        · rename_i h3
          rw [if_neg h3] at h
          split
          · rename_i h4
            rw [if_pos h4] at h
            exact (h rfl).elim
          · rfl
theorem put_other (ds : List Row) (od : Int) (d : Row) (hf : findR ds od = some d) (ba : List It.Item) (k : Int) : wantOf (putR ds { d with ba := ba }) k = wantOf ds k ∧ sentOf (putR ds { d with ba := ba }) k = sentOf ds k := by
  have hod := (findR_mem hf).2
  rw [wantOf_put, sentOf_put]
  by_cases e : d.od = k
  · subst e
    rw [if_pos rfl, if_pos rfl]
    unfold wantOf sentOf
    rw [hod, hf]
    exact ⟨rfl, rfl⟩
  · rw [if_neg e, if_neg e]
    exact ⟨rfl, rfl⟩
theorem back_other (ds : List Row) (od : Int) (l : List It.Item) (k : Int) : wantOf (backOf ds od l).1 k = wantOf ds k ∧ sentOf (backOf ds od l).1 k = sentOf ds k := by
  unfold backOf
  cases hf : findR ds od with
  | none => exact ⟨rfl, rfl⟩
  | some d =>
    dsimp only
    split
    · exact ⟨rfl, rfl⟩
    · split
      · exact put_other ds od d hf _ k
      · exact ⟨rfl, rfl⟩
theorem undo_other (ds : List Row) (od : Int) (l : List It.Item) (k : Int) : wantOf (undoOf ds od l).1 k = wantOf ds k ∧ sentOf (undoOf ds od l).1 k = sentOf ds k := by
  unfold undoOf
  cases hf : findR ds od with
  | none => exact ⟨rfl, rfl⟩
  | some d =>
    dsimp only
    split
    · exact ⟨rfl, rfl⟩
    · split
      · exact put_other ds od d hf _ k
      · exact ⟨rfl, rfl⟩
theorem Bnd.back {ds : List Row} {mw ms : List (Int × Value)} (h : Bnd ds mw ms) (od : Int) (l : List It.Item) : Bnd (backOf ds od l).1 mw ms :=
  ⟨fun k => by rw [(back_other ds od l k).1]; exact h.wt k, fun k => by rw [(back_other ds od l k).2]; exact h.st k⟩
theorem Bnd.undo {ds : List Row} {mw ms : List (Int × Value)} (h : Bnd ds mw ms) (od : Int) (l : List It.Item) : Bnd (undoOf ds od l).1 mw ms :=
  ⟨fun k => by rw [(undo_other ds od l k).1]; exact h.wt k, fun k => by rw [(undo_other ds od l k).2]; exact h.st k⟩
theorem Bnd.open_ {ds : List Row} {mw ms : List (Int × Value)} (h : Bnd ds mw ms) {od : Int} {l : List It.Item} {fb : Nat} (hc : (openOf ds od l fb).2 = 0) : Bnd (openOf ds od l fb).1 (mPut intK mw od (.int .i64 (ofSum sa l))) ms := by
  obtain ⟨h1, h2⟩ := open_code hc
  rw [h1]
  refine ⟨fun k => ?_, fun k => ?_⟩
  · rw [wantOf_put]
    by_cases e : od = k
    · subst e
      rw [if_pos rfl, mGet_put_same]
      rfl
    · rw [if_neg e, mGet_put_other _ _ _ _ (fun h => e h.symm)]
      exact h.wt k
  · rw [sentOf_put]
    by_cases e : od = k
    · subst e
      rw [if_pos rfl]
      have := h.st od
      unfold sentOf at this
      rw [h2] at this
      exact this
    · rw [if_neg e]
      exact h.st k
theorem Bnd.ship {ds : List Row} {mw ms : List (Int × Value)} (h : Bnd ds mw ms) (hok : ∀ d ∈ ds, OkR d) {od r : Int} {l : List It.Item} (hc : (shipOf ds od r l).2 = 0) : Bnd (shipOf ds od r l).1 mw (mPut intK ms od (.int .i64 (wrap64 (sentOf ds od + ofSum sa l)))) := by
  obtain ⟨d, hf, hml, -, -, hw, hs⟩ := ship_code hc
  rw [hs]
  have hd := hok d (findR_mem hf).1
  have hod := (findR_mem hf).2
  have hM := (may_iff l).1 hml
  have hsum := ofSum_within hd.sh hM hw sa
  obtain ⟨hMw, -⟩ := within_ok hd.sh hM hw
  refine ⟨fun k => ?_, fun k => ?_⟩
  · rw [wantOf_put]
    by_cases e : d.od = k
    · rw [if_pos e, h.wt k]
      unfold wantOf
      rw [← e, hod, hf]
    · rw [if_neg e]
      exact h.wt k
  · rw [sentOf_put]
    by_cases e : d.od = k
    · rw [if_pos e]
      have e2 : od = k := hod.symm.trans e
      subst e2
      clear e hod
      rw [mGet_put_same, Option.getD_some]
      have e3 : sentOf ds od = ofSum sa d.sh := by unfold sentOf; rw [hf]
      rw [e3, ← hsum]
      have h1 : 0 ≤ ofSum sa (withinOf d.wa d.sh l).1 := by rw [hMw.of]; exact hMw.nonneg _
      have h2 : ofSum sa (withinOf d.wa d.sh l).1 ≤ 1099511627776 := by rw [hMw.of]; exact hMw.le _
      rw [It.wrap_small (n := ofSum sa (withinOf d.wa d.sh l).1) (by omega) (by omega)]
    · rw [if_neg e, mGet_put_other _ _ _ _ (fun h => e (hod.trans h.symm))]
      exact h.st k
end Pc
end Go.Proofs.Ytdbkkldgobkjcaa
