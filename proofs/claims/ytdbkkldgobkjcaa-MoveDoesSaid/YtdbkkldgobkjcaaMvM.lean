/-
  moves: what the law Once keeps.
-/
import Derived.Test.YtdbkkldgobkjcaaMvG
import Derived.Test.YtdbkkldgobkjcaaOpw
namespace Go.Proofs.Ytdbkkldgobkjcaa
open Go.RowKit Go.Maps
namespace Mv
open It

theorem findW_ins_same {d : Way} : ∀ {ds : List Way}, findW ds d.mv = none → findW (insW d ds) d.mv = some d
  | [], _ => by rw [insW, findW_cons, if_pos rfl]
  | c :: r, h => by
    rw [findW_cons] at h
    by_cases e : c.mv = d.mv
    · rw [if_pos e] at h; cases h
    · rw [if_neg e] at h
      unfold insW
      split
      · rw [findW_cons, if_pos rfl]
      · rw [findW_cons, if_neg e]
        exact findW_ins_same h
theorem findW_ins_other {d : Way} {k : Int} (hk : d.mv ≠ k) : ∀ {ds : List Way}, findW (insW d ds) k = findW ds k
  | [] => by rw [insW, findW_cons, if_neg hk]
  | c :: r => by
    unfold insW
    split
    · rw [findW_cons, if_neg hk]
    · rw [findW_cons, findW_cons, findW_ins_other hk]
theorem findW_del_same (k : Int) : ∀ (ds : List Way), findW (delW ds k) k = none
  | [] => rfl
  | c :: r => by
    unfold delW
    rw [List.filter_cons]
    split
    · rename_i h
      rw [findW_cons, if_neg (by simpa using h)]
      exact findW_del_same k r
    · exact findW_del_same k r
theorem findW_del_other {j k : Int} (hne : k ≠ j) : ∀ (ds : List Way), findW (delW ds j) k = findW ds k
  | [] => rfl
  | c :: r => by
    unfold delW
    rw [List.filter_cons]
    split
    · rw [findW_cons, findW_cons]
      rw [show findW (r.filter _) k = findW r k from findW_del_other hne r]
    · rename_i h
      rw [findW_cons, if_neg (by simp at h; omega)]
      exact findW_del_other hne r
theorem findW_put (ds : List Way) (d : Way) (k : Int) : findW (putW ds d) k = if d.mv = k then some d else findW ds k := by
  unfold putW
  by_cases e : d.mv = k
  · rw [if_pos e, ← e]
    exact findW_ins_same (findW_del_same _ _)
  · rw [if_neg e, findW_ins_other e, findW_del_other (fun h => e h.symm)]

/-- is a move known that has not come? -/
def openW (ds : List Way) (k : Int) : Bool := match findW ds k with | some d => !d.came | none => false
/-- what the law keeps in its two maps: which moves are open, and what went -/
structure Once (ds : List Way) (mo mw : List (Int × Value)) : Prop where
  op : ∀ k, (mGet mo k).getD (.bool false) = .bool (openW ds k)
  wt : ∀ k d, findW ds k = some d → d.came = false → (mGet mw k).getD (.int .i64 0) = .int .i64 (ofSum sa d.l)
theorem Once.nil : Once [] [] [] := ⟨fun k => rfl, fun k d h => by cases h⟩
theorem Once.is_int {ds : List Way} {mo mw : List (Int × Value)} (h : Once ds mo mw) (k : Int) : (mGet mo k).getD (.bool false) = .bool (openW ds k) := h.op k
theorem go_code {ds : List Way} {mv fr to_ : Int} {l : List It.Item} (h : (goOf ds mv fr to_ l).2 = 0) : goOf ds mv fr to_ l = (putW ds ⟨mv, fr, to_, l, false⟩, 0) ∧ findW ds mv = none := by
  unfold goOf at h ⊢
  split at h
  · simp at h
  · rename_i h1
    split at h
    · simp at h
    · rename_i h2
      split at h
      · simp at h
      · rename_i h3
        split at h
        · simp at h
        · rename_i h4
          rw [if_neg h1, if_neg h2, if_neg h3, if_neg h4]
          exact ⟨rfl, by simpa using h3⟩
theorem go_same {ds : List Way} {mv fr to_ : Int} {l : List It.Item} (h : (goOf ds mv fr to_ l).2 ≠ 0) : (goOf ds mv fr to_ l).1 = ds := by
  unfold goOf at h ⊢
  split
  · rfl
  · rename_i h1
    rw [if_neg h1] at h
    split
    · rfl
    · rename_i h2
      rw [if_neg h2] at h
      split
      · rfl
      · rename_i h3
        rw [if_neg h3] at h
        split
        · rfl
        · rename_i h4
          rw [if_neg h4] at h
          exact (h rfl).elim
theorem Once.go {ds : List Way} {mo mw : List (Int × Value)} (h : Once ds mo mw) {mv fr to_ : Int} {l : List It.Item} : Once (putW ds ⟨mv, fr, to_, l, false⟩) (mPut intK mo mv (.bool true)) (mPut intK mw mv (.int .i64 (ofSum sa l))) := by
  refine ⟨fun k => ?_, fun k d hf hc => ?_⟩
  · unfold openW
    rw [findW_put]
    by_cases e : mv = k
    · subst e
      rw [if_pos rfl, mGet_put_same]
      rfl
    · rw [if_neg e, mGet_put_other _ _ _ _ (fun h => e h.symm)]
      exact h.op k
  · rw [findW_put] at hf
    by_cases e : mv = k
    · subst e
      rw [if_pos rfl] at hf
      cases hf
      rw [mGet_put_same]
      rfl
    · rw [if_neg e] at hf
      rw [mGet_put_other _ _ _ _ (fun h => e h.symm)]
      exact h.wt k d hf hc
theorem go_open {ds : List Way} {mv : Int} (h : findW ds mv = none) : openW ds mv = false := by unfold openW; rw [h]
/-- Come: it comes where it is open, with what went -/
theorem come_open (ds : List Way) (k : Int) : ((comeOf ds k).2.2 == 0) = openW ds k := by
  unfold comeOf openW
  cases findW ds k with
  | none => rfl
  | some d =>
    dsimp only
    cases d.came <;> rfl
theorem come_list {ds : List Way} {k : Int} {mo mw : List (Int × Value)} (h : Once ds mo mw) (ho : openW ds k = true) : (mGet mw k).getD (.int .i64 0) = .int .i64 (ofSum sa (comeOf ds k).2.1) := by
  unfold openW at ho
  unfold comeOf
  cases hf : findW ds k with
  | none => rw [hf] at ho; cases ho
  | some d =>
    rw [hf] at ho
    have hc : d.came = false := by simpa using ho
    dsimp only
    rw [hc]
    exact h.wt k d hf hc
theorem Once.come {ds : List Way} {mo mw : List (Int × Value)} (h : Once ds mo mw) (k : Int) : Once (comeOf ds k).1 (mPut intK mo k (.bool false)) mw := by
  unfold comeOf
  have hno : openW ds k = false → Once ds (mPut intK mo k (.bool false)) mw := fun ho => by
    refine ⟨fun j => ?_, h.wt⟩
    by_cases e : j = k
    · subst e; rw [mGet_put_same, ho]; rfl
    · rw [mGet_put_other _ _ _ _ e]; exact h.op j
  cases hf : findW ds k with
  | none => exact hno (go_open hf)
  | some d =>
    have hmv := (findW_mem hf).2
    dsimp only
    cases hc : d.came with
    | true => exact hno (by unfold openW; rw [hf]; show (!d.came) = false; rw [hc]; rfl)
    | false =>
      refine ⟨fun j => ?_, fun j c hj hcc => ?_⟩
      · unfold openW
        rw [show (if false = true then (ds, ([] : List It.Item), (5 : Int)) else (putW ds { d with came := true }, d.l, 0)).1 = putW ds { d with came := true } from rfl, findW_put]
        by_cases e : j = k
        · subst e
          rw [if_pos hmv, mGet_put_same]
          rfl
        · rw [if_neg (by show ¬ d.mv = j; rw [hmv]; exact fun h => e h.symm), mGet_put_other _ _ _ _ e]
          exact h.op j
      · rw [show (if false = true then (ds, ([] : List It.Item), (5 : Int)) else (putW ds { d with came := true }, d.l, 0)).1 = putW ds { d with came := true } from rfl, findW_put] at hj
        by_cases e : j = k
        · subst e
          rw [if_pos hmv] at hj
          cases hj
          cases hcc
        · rw [if_neg (by show ¬ d.mv = j; rw [hmv]; exact fun h => e h.symm)] at hj
          exact h.wt j c hj hcc
theorem forget_code {ds : List Way} {k : Int} (h : (forgetOf ds k).2 = 0) : openW ds k = false ∧ (forgetOf ds k).1 = delW ds k := by
  unfold forgetOf at h ⊢
  unfold openW
  cases hf : findW ds k with
  | none => rw [hf] at h; simp at h
  | some d =>
    rw [hf] at h
    dsimp only at h ⊢
    cases hc : d.came with
    | true => exact ⟨rfl, rfl⟩
    | false => rw [hc] at h; simp at h
theorem forget_same {ds : List Way} {k : Int} (h : (forgetOf ds k).2 ≠ 0) : (forgetOf ds k).1 = ds := by
  unfold forgetOf at h ⊢
  cases hf : findW ds k with
  | none => rfl
  | some d =>
    rw [hf] at h
    dsimp only at h ⊢
    cases hc : d.came with
    | true => rw [hc] at h; simp at h
    | false => rfl
theorem Once.forget {ds : List Way} {mo mw : List (Int × Value)} (h : Once ds mo mw) (k : Int) : Once (forgetOf ds k).1 mo mw := by
  by_cases hc : (forgetOf ds k).2 = 0
  · obtain ⟨h1, h2⟩ := forget_code hc
    rw [h2]
    refine ⟨fun j => ?_, fun j d hj hcc => ?_⟩
    · rw [h.op j]
      by_cases e : j = k
      · subst e
        rw [h1]
        unfold openW
        rw [findW_del_same]
      · unfold openW
        rw [findW_del_other e]
    · by_cases e : j = k
      · subst e
        rw [findW_del_same] at hj
        cases hj
      · rw [findW_del_other e] at hj
        exact h.wt j d hj hcc
  · rw [forget_same hc]; exact h
end Mv
end Go.Proofs.Ytdbkkldgobkjcaa
