/-
  the device of sectors in plain words.
-/
import Derived.Test.YteiniahikhiadaaMaps
import Derived.Test.YteiniahikhiadaaCeC
namespace Go.Proofs.Yteiniahikhiadaa
open Go.RowKit Go.Maps
namespace Se
open Ce

/-- a sector's bytes -/
abbrev Blk := List UInt8
def blkV (b : Blk) : Value := .agg (bytesV b).toArray
def bGet (m : List (Int × Blk)) (k : Int) : Option Blk := (m.find? fun p => decide (p.1 = k)).map (·.2)
def bIns (k : Int) (b : Blk) : List (Int × Blk) → List (Int × Blk)
  | [] => [(k, b)]
  | p :: r => if k < p.1 then (k, b) :: p :: r else p :: bIns k b r
def bDel (m : List (Int × Blk)) (k : Int) : List (Int × Blk) := m.filter fun p => !decide (p.1 = k)
def bPut (m : List (Int × Blk)) (k : Int) (b : Blk) : List (Int × Blk) := bIns k b (bDel m k)
/-- as the program's map holds it -/
def bm (m : List (Int × Blk)) : List (Int × Value) := m.map fun p => (p.1, blkV p.2)
theorem bm_nil : bm [] = [] := rfl
theorem bm_get (m : List (Int × Blk)) (k : Int) : mGet (bm m) k = (bGet m k).map blkV := by
  induction m with
  | nil => rfl
  | cons p r ih =>
    simp only [mGet, bm, List.map_cons, List.find?_cons, bGet] at ih ⊢
    by_cases h : p.1 = k
    · simp [h]
    · simp only [h, decide_false]; exact ih
theorem bm_put (m : List (Int × Blk)) (k : Int) (b : Blk) : mPut intK (bm m) k (blkV b) = bm (bPut m k b) := by
  have h1 : mDel (bm m) k = bm (bDel m k) := by
    simp only [mDel, bm, bDel, List.filter_map]
    rfl
  unfold mPut bPut
  rw [h1]
  generalize bDel m k = d
  induction d with
  | nil => rfl
  | cons p r ih =>
    simp only [bm, List.map_cons, mIns, bIns] at ih ⊢
    have e : intK.lt k p.1 = decide (k < p.1) := rfl
    rw [e]
    by_cases h : k < p.1
    · simp [h]
    · simp only [h, decide_false, if_false, Bool.false_eq_true, List.map_cons]
      rw [ih]
theorem bGet_put (m : List (Int × Blk)) (k j : Int) (b : Blk) : bGet (bPut m k b) j = if j = k then some b else bGet m j := by
  unfold bPut
  have h0 : ∀ d : List (Int × Blk), (∀ p ∈ d, p.1 ≠ k) → bGet (bIns k b d) j = if j = k then some b else bGet d j := fun d hd => by
    induction d with
    | nil => by_cases h : j = k <;> simp [bGet, bIns, h, eq_comm]
    | cons p r ih =>
      have ih := ih fun q hq => hd q (List.mem_cons_of_mem _ hq)
      have hp := hd p (by simp)
      simp only [bIns]
      by_cases h : k < p.1
      · simp only [h, if_true, bGet, List.find?_cons]
        by_cases e : j = k
        · simp [e]
        · simp [e, Ne.symm e]
      · simp only [h, if_false, bGet, List.find?_cons] at ih ⊢
        by_cases e : p.1 = j
        · have : j ≠ k := fun e2 => hp (e.trans e2)
          simp [e, this]
        · simp only [e, decide_false]; exact ih
  rw [h0 _ (fun p hp => by unfold bDel at hp; rw [List.mem_filter] at hp; simpa using hp.2)]
  by_cases e : j = k
  · simp [e]
  · simp only [e, if_false]
    unfold bGet bDel
    rw [List.find?_filter]
    congr 2
    funext p
    by_cases h : p.1 = j
    · simp [h, e]
    · simp [h]
theorem bPut_mem {m : List (Int × Blk)} {k : Int} {b : Blk} {p : Int × Blk} (h : p ∈ bPut m k b) : p = (k, b) ∨ p ∈ m := by
  unfold bPut at h
  have h0 : ∀ d : List (Int × Blk), p ∈ bIns k b d → p = (k, b) ∨ p ∈ d := fun d => by
    induction d with
    | nil => simp [bIns]
    | cons q r ih =>
      simp only [bIns]
      split
      · simp
      · intro h
        rcases List.mem_cons.1 h with rfl | h
        · exact .inr (by simp)
        · rcases ih h with h | h
          · exact .inl h
          · exact .inr (List.mem_cons_of_mem _ h)
  rcases h0 _ h with h | h
  · exact .inl h
  · unfold bDel at h
    exact .inr (List.mem_filter.1 h).1
/-- a device -/
structure Dv where
  sure : List Blk
  dm : List (Int × Blk)
  stops : Bool
  left : Int
  wr : Int
  fl : Int
structure OkD (D : Dv) : Prop where
  sure : ∀ b ∈ D.sure, b.length = 64
  dm : ∀ p ∈ D.dm, 0 ≤ p.1 ∧ p.1 < D.sure.length ∧ p.2.length = 64
  left : -9223372036854775808 ≤ D.left ∧ D.left ≤ 9223372036854775807
  wr : -9223372036854775808 ≤ D.wr ∧ D.wr ≤ 9223372036854775807
  fl : -9223372036854775808 ≤ D.fl ∧ D.fl ≤ 9223372036854775807
def offD (D : Dv) : Bool := D.stops && decide (D.left ≤ 0)
def spendD (D : Dv) : Dv := if D.stops then { D with left := D.left - 1 } else D
def writeD (D : Dv) (i : Int) (b : Blk) : Dv × Int :=
  if i < 0 ∨ (D.sure.length : Int) ≤ i ∨ b.length ≠ 64 then (D, 1) else if offD D then (D, 30) else ({ spendD D with dm := bPut D.dm i b, wr := wrap64 (D.wr + 1) }, 0)
/-- what a sector reads as -/
def lastD (D : Dv) (i : Nat) : Blk := (bGet D.dm i).getD (D.sure.getD i [])
def flushD (D : Dv) : Dv × Int := if offD D then (D, 30) else ({ spendD D with sure := (List.range D.sure.length).map (lastD D), dm := [], fl := wrap64 (D.fl + 1) }, 0)
def stopD (D : Dv) (n : Int) : Dv := { D with stops := decide (0 ≤ n), left := n }
/-- a sector behind a crash -/
def crashB (D : Dv) (keep : List Int) (torn : Int) (n : Nat) (i : Nat) : Blk := match bGet D.dm i with
  | none => D.sure.getD i []
  | some b => if (i : Int) ∈ keep then b else if (i : Int) = torn then b.take n ++ (D.sure.getD i []).drop n else D.sure.getD i []
def crashD (D : Dv) (keep : List Int) (torn bytes : Int) : Dv × Int :=
  if bytes < 0 ∨ 64 < bytes then (D, 1) else ({ D with sure := (List.range D.sure.length).map (crashB D keep torn bytes.toNat), dm := [], stops := false }, 0)
end Se
end Go.Proofs.Yteiniahikhiadaa
