/-
  sector: the document's device in plain words; that it goes along with the program's.
-/
import Derived.Test.YteiniahikhiadaaSeB
namespace Go.Proofs.Yteiniahikhiadaa
open Go.RowKit Go.Maps
namespace Se
open Ce
structure Rv where
  sure : List Blk
  last : List Blk
  dirty : List Bool
  stops : Bool
  left : Int
  wr : Int
  fl : Int
structure OkR (R : Rv) : Prop where
  sure : ∀ b ∈ R.sure, b.length = 64
  last : ∀ b ∈ R.last, b.length = 64
  ll : R.last.length = R.sure.length
  dl : R.dirty.length = R.sure.length
  left : -9223372036854775808 ≤ R.left ∧ R.left ≤ 9223372036854775807
  wr : -9223372036854775808 ≤ R.wr ∧ R.wr ≤ 9223372036854775807
  fl : -9223372036854775808 ≤ R.fl ∧ R.fl ≤ 9223372036854775807
def newR (n : Nat) : Rv := ⟨List.replicate n (List.replicate 64 0), List.replicate n (List.replicate 64 0), List.replicate n false, false, 0, 0, 0⟩
theorem OkR.new (n : Nat) : OkR (newR n) := by
  refine ⟨fun b hb => ?_, fun b hb => ?_, by simp [newR], by simp [newR], by simp [newR], by simp [newR], by simp [newR]⟩ <;>
  · rw [(List.mem_replicate.1 hb).2]
    simp
def offR (R : Rv) : Bool := R.stops && decide (R.left ≤ 0)
def writeR (R : Rv) (i : Int) (b : Blk) : Rv × Int :=
  if i < 0 ∨ (R.sure.length : Int) ≤ i ∨ b.length ≠ 64 then (R, 1) else if offR R then (R, 30) else
    ({ R with left := wrap64 (R.left - 1), last := R.last.set i.toNat b, dirty := R.dirty.set i.toNat true, wr := wrap64 (R.wr + 1) }, 0)
def flushR (R : Rv) : Rv × Int := if offR R then (R, 30) else
  ({ R with left := wrap64 (R.left - 1), sure := R.last, dirty := List.replicate R.sure.length false, fl := wrap64 (R.fl + 1) }, 0)
def stopR (R : Rv) (n : Int) : Rv := { R with stops := decide (0 ≤ n), left := n }
def crashRB (R : Rv) (keep : List Int) (torn : Int) (n : Nat) (i : Nat) : Blk :=
  if R.dirty.getD i false then (if (i : Int) ∈ keep then R.last.getD i [] else if (i : Int) = torn then (R.last.getD i []).take n ++ (R.sure.getD i []).drop n else R.sure.getD i []) else R.sure.getD i []
def crashR (R : Rv) (keep : List Int) (torn bytes : Int) : Rv × Int :=
  if bytes < 0 ∨ 64 < bytes then (R, 1) else
    ({ R with sure := (List.range R.sure.length).map (crashRB R keep torn bytes.toNat), last := (List.range R.sure.length).map (crashRB R keep torn bytes.toNat), dirty := List.replicate R.sure.length false, stops := false }, 0)
/-- they go along -/
structure Along (D : Dv) (R : Rv) : Prop where
  sure : R.sure = D.sure
  last : R.last = (List.range D.sure.length).map (lastD D)
  dirty : R.dirty = (List.range D.sure.length).map fun (i : Nat) => (bGet D.dm (i : Int)).isSome
  stops : R.stops = D.stops
  left : D.stops = true → R.left = D.left
  wr : R.wr = D.wr
  fl : R.fl = D.fl
theorem rep_map {α : Type} (x : α) (n : Nat) : List.replicate n x = (List.range n).map fun _ => x := by
  apply List.ext_getElem <;> simp
theorem getD_range {α : Type} (f : Nat → α) (n i : Nat) (hi : i < n) (z : α) : ((List.range n).map f).getD i z = f i := by
  rw [List.getD_eq_getElem?_getD, List.getElem?_map, List.getElem?_range hi]
  rfl
theorem Along.new (n : Nat) : Along (newD n) (newR n) := by
  refine ⟨rfl, ?_, ?_, rfl, (fun h => by cases h), rfl, rfl⟩
  · apply List.ext_getElem
    · simp [newR, newD]
    · intro i h1 h2
      simp only [newR, newD, List.length_replicate, List.getElem_replicate, List.getElem_map, List.getElem_range] at h1 h2 ⊢
      simp only [lastD, bGet, List.find?_nil, Option.map_none, Option.getD_none]
      rw [List.getD_eq_getElem?_getD, List.getElem?_replicate, if_pos h1]
      rfl
  · apply List.ext_getElem <;> simp [newR, newD, bGet]
theorem Along.off {D : Dv} {R : Rv} (h : Along D R) : offR R = offD D := by
  unfold offR offD
  rw [h.stops]
  cases hs : D.stops with
  | false => rfl
  | true => rw [h.left hs]
theorem set_map {α : Type} (f g : Nat → α) (n k : Nat) (x : α) (h : ∀ i, i < n → g i = if i = k then x else f i) : ((List.range n).map f).set k x = (List.range n).map g := by
  apply List.ext_getElem
  · simp
  · intro i h1 h2
    have hi : i < n := by simpa using h2
    rw [List.getElem_set]
    simp only [List.getElem_map, List.getElem_range, h i hi]
    by_cases e : k = i
    · simp [e]
    · rw [if_neg e, if_neg (Ne.symm e)]
theorem spend_left {D : Dv} {R : Rv} (h : Along D R) (hok : OkD D) (ho : offD D = false) : D.stops = true → wrap64 (R.left - 1) = (spendD D).left := by
  intro hs
  have hl := hok.left
  have hp : 0 < D.left := by unfold offD at ho; rw [hs] at ho; simpa using ho
  rw [h.left hs]
  unfold spendD
  rw [hs]
  simp only [if_true]
  unfold wrap64
  omega
theorem Along.write {D : Dv} {R : Rv} (h : Along D R) (hok : OkD D) (i : Int) (b : Blk) : (writeR R i b).2 = (writeD D i b).2 ∧ Along (writeD D i b).1 (writeR R i b).1 := by
  have hs : R.sure.length = D.sure.length := by rw [h.sure]
  unfold writeR writeD
  rw [hs, h.off]
  by_cases hc : i < 0 ∨ (D.sure.length : Int) ≤ i ∨ b.length ≠ 64
  · rw [if_pos hc, if_pos hc]
    exact ⟨rfl, h⟩
  · rw [if_neg hc, if_neg hc]
    cases ho : offD D with
    | true => exact ⟨rfl, h⟩
    | false =>
      simp only [Bool.false_eq_true, if_false]
      refine ⟨trivial, ?_⟩
      obtain ⟨k, rfl⟩ := Int.eq_ofNat_of_zero_le (show 0 ≤ i by omega)
      have hk : ∀ j : Nat, ((j : Int) = (k : Int)) = (j = k) := fun j => by apply propext; omega
      refine ⟨?_, ?_, ?_, ?_, ?_, ?_, ?_⟩
      · dsimp only; rw [spendD_sure]; exact h.sure
      · dsimp only
        rw [spendD_sure, h.last]
        refine set_map _ _ _ _ _ fun j hj => ?_
        unfold lastD
        dsimp only
        rw [bGet_put]
        try rw [spendD_sure]
        simp only [hk, Int.toNat_natCast]
        by_cases e : j = k <;> simp [e]
      · dsimp only
        rw [spendD_sure, h.dirty]
        refine set_map _ _ _ _ _ fun j hj => ?_
        rw [bGet_put]
        simp only [hk, Int.toNat_natCast]
        by_cases e : j = k <;> simp [e]
      · dsimp only; rw [spendD_stops]; exact h.stops
      · dsimp only
        rw [spendD_stops]
        exact spend_left h hok ho
      · dsimp only; rw [h.wr]
      · dsimp only; rw [spendD_fl]; exact h.fl
theorem Along.flush {D : Dv} {R : Rv} (h : Along D R) (hok : OkD D) : (flushR R).2 = (flushD D).2 ∧ Along (flushD D).1 (flushR R).1 := by
  unfold flushR flushD
  rw [h.off]
  cases ho : offD D with
  | true => exact ⟨rfl, h⟩
  | false =>
    simp only [Bool.false_eq_true, if_false]
    refine ⟨trivial, ?_⟩
    refine ⟨h.last, ?_, ?_, ?_, ?_, ?_, ?_⟩
    · dsimp only
      rw [h.last, List.length_map, List.length_range]
      apply List.map_congr_left
      intro i hi
      have hi := List.mem_range.1 hi
      show _ = (((bGet [] (i : Int)).getD _) : Blk)
      simp only [bGet, List.find?_nil, Option.map_none, Option.getD_none]
      exact (getD_range _ _ _ hi _).symm
    · dsimp only
      rw [h.sure, rep_map, List.length_map, List.length_range]
      rfl
    · dsimp only; rw [spendD_stops]; exact h.stops
    · dsimp only
      rw [spendD_stops]
      exact spend_left h hok ho
    · dsimp only; rw [spendD_wr]; exact h.wr
    · dsimp only; rw [h.fl]
theorem Along.stop {D : Dv} {R : Rv} (h : Along D R) (n : Int) : Along (stopD D n) (stopR R n) := ⟨h.sure, h.last, h.dirty, rfl, fun _ => rfl, h.wr, h.fl⟩
theorem Along.crash {D : Dv} {R : Rv} (h : Along D R) (keep : List Int) (torn n : Int) : (crashR R keep torn n).2 = (crashD D keep torn n).2 ∧ Along (crashD D keep torn n).1 (crashR R keep torn n).1 := by
  unfold crashR crashD
  by_cases hc : n < 0 ∨ 64 < n
  · rw [if_pos hc, if_pos hc]
    exact ⟨rfl, h⟩
  · rw [if_neg hc, if_neg hc]
    refine ⟨rfl, ?_⟩
    have e : ∀ i, i < D.sure.length → crashRB R keep torn n.toNat i = crashB D keep torn n.toNat i := fun i hi => by
      unfold crashRB crashB
      rw [h.dirty, h.last, h.sure, getD_range _ _ _ hi, getD_range _ _ _ hi]
      unfold lastD
      cases hg : bGet D.dm (i : Int) with
      | none => simp
      | some b => simp
    have em : (List.range R.sure.length).map (crashRB R keep torn n.toNat) = (List.range D.sure.length).map (crashB D keep torn n.toNat) := by
      rw [h.sure]
      exact List.map_congr_left fun i hi => e i (List.mem_range.1 hi)
    refine ⟨em, ?_, ?_, rfl, (fun h => by cases h), h.wr, h.fl⟩
    · dsimp only
      rw [em, List.length_map, List.length_range]
      apply List.map_congr_left
      intro i hi
      have hi := List.mem_range.1 hi
      show _ = (((bGet [] (i : Int)).getD _) : Blk)
      simp only [bGet, List.find?_nil, Option.map_none, Option.getD_none]
      exact (getD_range _ _ _ hi _).symm
    · dsimp only
      rw [h.sure, rep_map, List.length_map, List.length_range]
      rfl
theorem set_mem {bs : List Blk} (h : ∀ b ∈ bs, b.length = 64) {c : Blk} (hc : c.length = 64) (i : Nat) : ∀ b ∈ bs.set i c, b.length = 64 := fun b hb => by
  rcases List.mem_or_eq_of_mem_set hb with h1 | h1
  · exact h b h1
  · rw [h1]; exact hc
theorem last_len {R : Rv} (h : OkR R) {i : Nat} (hi : i < R.sure.length) : (R.last.getD i []).length = 64 := by
  rw [List.getD_eq_getElem?_getD, List.getElem?_eq_getElem (by rw [h.ll]; exact hi)]
  exact h.last _ (List.getElem_mem _)
theorem surer_len {R : Rv} (h : OkR R) {i : Nat} (hi : i < R.sure.length) : (R.sure.getD i []).length = 64 := by
  rw [List.getD_eq_getElem?_getD, List.getElem?_eq_getElem hi]
  exact h.sure _ (List.getElem_mem _)
theorem crashRB_len {R : Rv} (h : OkR R) (keep : List Int) (torn : Int) {n : Nat} (hn : n ≤ 64) {i : Nat} (hi : i < R.sure.length) : (crashRB R keep torn n i).length = 64 := by
  have h1 := last_len h hi
  have h2 := surer_len h hi
  unfold crashRB
  split
  · split
    · exact h1
    · split
      · rw [List.length_append, List.length_take, List.length_drop]
        omega
      · exact h2
  · exact h2
end Se
end Go.Proofs.Yteiniahikhiadaa
