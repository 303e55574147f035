/-
  items: what sums makes of a list, in plain words.
-/
import Derived.Test.YtlhpdalfnjhokaaItH
import Derived.Test.YtlhpdalfnjhokaaMaps
namespace Go.Proofs.Ytlhpdalfnjhokaa
open Go.RowKit Go.Maps
namespace It

def key (x : Item) : List UInt8 := x.1.data.toList
def okC (x : Item) : Bool := good x.1 && countOk x.2
/-- how many of a good a list has in all -/
def tot (k : List UInt8) : List Item → Int
  | [] => 0
  | x :: l => (if key x = k then x.2 else 0) + tot k l
def over (l : List Item) : Bool := l.any fun x => decide (1099511627776 < tot (key x) l)
def sumsCode (l : List Item) : Int := if l.all okC then (if over l then 50 else 0) else 60

theorem tot_snoc (k : List UInt8) (l : List Item) (x : Item) : tot k (l ++ [x]) = tot k l + (if key x = k then x.2 else 0) := by
  induction l with
  | nil => simp [tot]
  | cons y l ih => simp only [List.cons_append, tot, ih]; omega
theorem tot_append (k : List UInt8) (l r : List Item) : tot k (l ++ r) = tot k l + tot k r := by
  induction l with
  | nil => simp [tot]
  | cons y l ih => simp only [List.cons_append, tot, ih]; omega
theorem okC_le {x : Item} (h : okC x = true) : 0 ≤ x.2 ∧ x.2 ≤ 1099511627776 := by
  unfold okC at h
  rw [Bool.and_eq_true] at h
  exact (countOk_iff _).1 h.2
theorem tot_nonneg (k : List UInt8) : ∀ (l : List Item), l.all okC = true → 0 ≤ tot k l
  | [], _ => by simp [tot]
  | x :: l, h => by
    rw [List.all_cons, Bool.and_eq_true] at h
    have h1 := tot_nonneg k l h.2
    have h2 := okC_le h.1
    simp only [tot]
    split <;> omega
theorem all_snoc (l : List Item) (x : Item) : (l ++ [x]).all okC = (l.all okC && okC x) := by simp
theorem all_prefix {p l : List Item} (h : p <+: l) (hl : l.all okC = true) : p.all okC = true := by
  obtain ⟨r, rfl⟩ := h
  rw [List.all_append, Bool.and_eq_true] at hl
  exact hl.1
theorem over_prefix {p l : List Item} (h : p <+: l) (hl : l.all okC = true) (hp : over p = true) : over l = true := by
  obtain ⟨r, rfl⟩ := h
  rw [List.all_append, Bool.and_eq_true] at hl
  obtain ⟨x, hx, hd⟩ := List.any_eq_true.1 hp
  refine List.any_eq_true.2 ⟨x, by simp [hx], ?_⟩
  rw [decide_eq_true_iff] at hd ⊢
  rw [tot_append]
  have := tot_nonneg (key x) r hl.2
  omega
theorem over_not {l : List Item} (h : over l = false) {x : Item} (hx : x ∈ l) : tot (key x) l ≤ 1099511627776 := by
  have := List.any_eq_false.1 h x hx
  simpa using this
theorem tot_out {k : List UInt8} : ∀ {l : List Item}, k ∉ l.map key → tot k l = 0
  | [], _ => rfl
  | x :: l, h => by
    rw [List.map_cons, List.mem_cons, not_or] at h
    simp only [tot]
    rw [if_neg (fun e => h.1 e.symm), tot_out h.2]
    rfl
theorem over_snoc {l : List Item} {x : Item} (h : over l = false) (hx : 0 ≤ x.2) : over (l ++ [x]) = decide (1099511627776 < tot (key x) l + x.2) := by
  rw [Bool.eq_iff_iff, decide_eq_true_iff]
  unfold over
  rw [List.any_eq_true]
  constructor
  · rintro ⟨y, hy, hd⟩
    rw [decide_eq_true_iff, tot_snoc] at hd
    by_cases e : key x = key y
    · rw [if_pos e] at hd; rw [e]; exact hd
    · rw [if_neg e] at hd
      rw [List.mem_append, List.mem_singleton] at hy
      rcases hy with hy | rfl
      · have := over_not h hy; omega
      · exact absurd rfl e
  · intro hd
    refine ⟨x, by simp, ?_⟩
    rw [decide_eq_true_iff, tot_snoc, if_pos rfl]
    exact hd
theorem tot_le {l : List Item} (h : over l = false) (k : List UInt8) : tot k l ≤ 1099511627776 := by
  by_cases hk : k ∈ l.map key
  · obtain ⟨x, hx, rfl⟩ := List.mem_map.1 hk
    exact over_not h hx
  · rw [tot_out hk]; omega

/-- the map says of each good how many there are -/
def Tells (m : List (List UInt8 × Value)) (l : List Item) : Prop := ∀ k, mGet m k = if k ∈ l.map key then some (.int .i64 (tot k l)) else none
theorem Tells.nil : Tells [] [] := fun _ => rfl
theorem Tells.put {m : List (List UInt8 × Value)} {l : List Item} (h : Tells m l) (x : Item) : Tells (mPut strK m (key x) (.int .i64 (tot (key x) l + x.2))) (l ++ [x]) := by
  intro k
  rw [tot_snoc]
  by_cases e : k = key x
  · subst e
    rw [mGet_put_same, if_pos (by simp), if_pos rfl]
  · rw [mGet_put_other _ _ _ _ e, h k, if_neg (Ne.symm e), Int.add_zero]
    have : k ∈ (l ++ [x]).map key ↔ k ∈ l.map key := by simp [e]
    by_cases hk : k ∈ l.map key
    · rw [if_pos hk, if_pos (this.2 hk)]
    · rw [if_neg hk, if_neg (fun h => hk (this.1 h))]
theorem Tells.have_ {m : List (List UInt8 × Value)} {l : List Item} (h : Tells m l) (k : List UInt8) : (mGet m k).getD (.int .i64 0) = .int .i64 (tot k l) := by
  rw [h k]
  by_cases hk : k ∈ l.map key
  · rw [if_pos hk]; rfl
  · rw [if_neg hk, tot_out hk]; rfl
end It
end Go.Proofs.Ytlhpdalfnjhokaa
