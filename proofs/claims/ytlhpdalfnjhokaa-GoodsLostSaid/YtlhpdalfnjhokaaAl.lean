/-
  maps as lists of keys and of whatever stands at them: what the program's map holds of them.
-/
import Derived.Test.YtlhpdalfnjhokaaMaps
namespace Go.Proofs.Ytlhpdalfnjhokaa
open Go.RowKit Go.Maps
namespace Al
section
variable {κ α : Type}
/-- as the program's map holds it -/
def gm (f : α → Value) (m : List (κ × α)) : List (κ × Value) := m.map fun p => (p.1, f p.2)
theorem gm_length (f : α → Value) (m : List (κ × α)) : (gm f m).length = m.length := by simp [gm]
theorem gm_keys (f : α → Value) (m : List (κ × α)) : (gm f m).map (·.1) = m.map (·.1) := by simp [gm]
end
section
variable {κ α : Type} [DecidableEq κ]
def aGet (m : List (κ × α)) (k : κ) : Option α := (m.find? fun p => decide (p.1 = k)).map (·.2)
def aDel (m : List (κ × α)) (k : κ) : List (κ × α) := m.filter fun p => !decide (p.1 = k)
def aIns (K : KeyK κ) (k : κ) (a : α) : List (κ × α) → List (κ × α)
  | [] => [(k, a)]
  | p :: r => if K.lt k p.1 then (k, a) :: p :: r else p :: aIns K k a r
def aPut (K : KeyK κ) (m : List (κ × α)) (k : κ) (a : α) : List (κ × α) := aIns K k a (aDel m k)
variable {K : KeyK κ} {f : α → Value}
theorem aGet_cons (p : κ × α) (m : List (κ × α)) (k : κ) : aGet (p :: m) k = if p.1 = k then some p.2 else aGet m k := by
  unfold aGet
  rw [List.find?_cons]
  by_cases h : p.1 = k <;> simp [h]
theorem gm_get (m : List (κ × α)) (k : κ) : mGet (gm f m) k = (aGet m k).map f := by
  induction m with
  | nil => rfl
  | cons p r ih =>
    rw [aGet_cons]
    show mGet ((p.1, f p.2) :: gm f r) k = _
    rw [mGet_cons, ih]
    by_cases h : p.1 = k <;> simp [h]
theorem gm_put (m : List (κ × α)) (k : κ) (a : α) : mPut K (gm f m) k (f a) = gm f (aPut K m k a) := by
  have h1 : mDel (gm f m) k = gm f (aDel m k) := by
    simp only [mDel, gm, aDel, List.filter_map]
    rfl
  unfold mPut aPut
  rw [h1]
  generalize aDel m k = d
  induction d with
  | nil => rfl
  | cons p r ih =>
    simp only [gm, List.map_cons, mIns, aIns] at ih ⊢
    by_cases h : K.lt k p.1
    · simp [h]
    · simp only [h, if_false, Bool.false_eq_true, List.map_cons]
      rw [ih]
theorem aGet_mem {m : List (κ × α)} {k : κ} {a : α} (h : aGet m k = some a) : (k, a) ∈ m := by
  unfold aGet at h
  obtain ⟨p, hp, rfl⟩ := Option.map_eq_some_iff.1 h
  have h1 := List.find?_some hp
  have h2 := List.mem_of_find?_eq_some hp
  simp only [decide_eq_true_eq] at h1
  subst h1
  exact h2
theorem aGet_none {m : List (κ × α)} {k : κ} (h : aGet m k = none) : k ∉ m.map (·.1) := by
  intro hk
  obtain ⟨p, hp, rfl⟩ := List.mem_map.1 hk
  unfold aGet at h
  rw [Option.map_eq_none_iff, List.find?_eq_none] at h
  exact h p hp (by simp)
theorem aGet_some {m : List (κ × α)} {k : κ} (h : k ∈ m.map (·.1)) : ∃ a, aGet m k = some a := by
  cases hg : aGet m k with
  | none => exact (aGet_none hg h).elim
  | some a => exact ⟨a, rfl⟩
theorem aIns_mem {m : List (κ × α)} {k : κ} {a : α} {p : κ × α} : p ∈ aIns K k a m ↔ p = (k, a) ∨ p ∈ m := by
  induction m with
  | nil => simp [aIns]
  | cons q r ih =>
    unfold aIns
    split
    · simp
    · simp only [List.mem_cons, ih]
      constructor
      · rintro (h | h | h)
        · exact .inr (.inl h)
        · exact .inl h
        · exact .inr (.inr h)
      · rintro (h | h | h)
        · exact .inr (.inl h)
        · exact .inl h
        · exact .inr (.inr h)
theorem aPut_mem {m : List (κ × α)} {k : κ} {a : α} {p : κ × α} : p ∈ aPut K m k a ↔ p = (k, a) ∨ (p ∈ m ∧ p.1 ≠ k) := by
  unfold aPut
  rw [aIns_mem]
  unfold aDel
  rw [List.mem_filter]
  simp
theorem aGet_put (m : List (κ × α)) (k j : κ) (a : α) : aGet (aPut K m k a) j = if j = k then some a else aGet m j := by
  have h0 : ∀ d : List (κ × α), (∀ p ∈ d, p.1 ≠ k) → aGet (aIns K k a d) j = if j = k then some a else aGet d j := fun d hd => by
    induction d with
    | nil => by_cases h : j = k <;> simp [aGet, aIns, h, eq_comm]
    | cons p r ih =>
      have ih := ih fun q hq => hd q (List.mem_cons_of_mem _ hq)
      have hp := hd p (by simp)
      unfold aIns
      split
      · rw [aGet_cons]
        by_cases e : j = k
        · simp [e]
        · simp [e, Ne.symm e]
      · rw [aGet_cons, aGet_cons, ih]
        by_cases e : p.1 = j
        · have : j ≠ k := fun e2 => hp (e.trans e2)
          simp [e, this]
        · simp [e]
  unfold aPut
  rw [h0 _ (fun p hp => by unfold aDel at hp; rw [List.mem_filter] at hp; simpa using hp.2)]
  by_cases e : j = k
  · simp [e]
  · simp only [e, if_false]
    unfold aGet aDel
    rw [List.find?_filter]
    congr 2
    funext p
    by_cases h : p.1 = j
    · simp [h, e]
    · simp [h]
theorem aIns_length (m : List (κ × α)) (k : κ) (a : α) : (aIns K k a m).length = m.length + 1 := by
  induction m with
  | nil => rfl
  | cons p r ih => unfold aIns; split <;> simp [ih]
theorem aPut_length_le (m : List (κ × α)) (k : κ) (a : α) : (aPut K m k a).length ≤ m.length + 1 := by
  unfold aPut
  rw [aIns_length]
  have : (aDel m k).length ≤ m.length := List.length_filter_le _ _
  omega
end
end Al
end Go.Proofs.Ytlhpdalfnjhokaa
