/-
  parcels: what the law Once keeps; a map whose keys are two numbers.
-/
import Derived.Test.YtdbkkldgobkjcaaPcM
import Derived.Test.YtdbkkldgobkjcaaPcF
import Derived.Test.YtdbkkldgobkjcaaLaw
import Derived.ChangeKeys
import Derived.DeepKeys4
namespace Go.Proofs.Ytdbkkldgobkjcaa
open Go.RowKit Go.Maps
namespace Pc
open It Mv

/-- the key of two numbers -/
def enc2 (a b : Int) : List UInt8 := bytesBE 8 (a % 2 ^ 64).toNat ++ bytesBE 8 (b % 2 ^ 64).toNat
theorem enc2_inj {a b c d : Int} (ha : -9223372036854775808 ≤ a ∧ a ≤ 9223372036854775807) (hb : -9223372036854775808 ≤ b ∧ b ≤ 9223372036854775807) (hc : -9223372036854775808 ≤ c ∧ c ≤ 9223372036854775807) (hd : -9223372036854775808 ≤ d ∧ d ≤ 9223372036854775807) (h : enc2 a b = enc2 c d) : a = c ∧ b = d := by
  unfold enc2 at h
  obtain ⟨h1, h2⟩ := List.append_inj h (by rw [Go.length_bytesBE, Go.length_bytesBE])
  have g1 := Go.bytesBE_inj (w := 8) (by omega) (by omega) h1
  have g2 := Go.bytesBE_inj (w := 8) (by omega) (by omega) h2
  omega

def inR (ds : List Row) (od r : Int) : Bool := match findR ds od with | some d => isIn d r | none => false
structure Done (ds : List Row) (md : List (List UInt8 × Value)) : Prop where
  op : ∀ od r, (-9223372036854775808 ≤ od ∧ od ≤ 9223372036854775807) → (-9223372036854775808 ≤ r ∧ r ≤ 9223372036854775807) → (mGet md (enc2 od r)).getD (.bool false) = .bool (inR ds od r)
theorem Done.nil : Done [] [] := ⟨fun _ _ _ _ => rfl⟩
theorem inR_put (ds : List Row) (d : Row) (k r : Int) : inR (putR ds d) k r = if d.od = k then isIn d r else inR ds k r := by
  unfold inR
  rw [findR_put]
  by_cases e : d.od = k
  · rw [if_pos e, if_pos e]
  · rw [if_neg e, if_neg e]
theorem Done.open_ {ds : List Row} {md : List (List UInt8 × Value)} (h : Done ds md) (od : Int) (l : List It.Item) (fb : Nat) : Done (openOf ds od l fb).1 md := by
  by_cases hc : (openOf ds od l fb).2 = 0
  · obtain ⟨h1, h2⟩ := open_code hc
    rw [h1]
    refine ⟨fun k r hk hr => ?_⟩
    rw [inR_put, h.op k r hk hr]
    by_cases e : od = k
    · subst e
      rw [if_pos rfl]
      unfold inR
      rw [h2]
      rfl
    · rw [if_neg e]
  · rw [open_same hc]; exact h
theorem mGet_put_some {m : List (Int × Value)} {k r : Int} {v : Value} : (mGet (mPut intK m k v) r).isSome = (decide (r = k) || (mGet m r).isSome) := by
  by_cases e : r = k
  · subst e; rw [mGet_put_same]; simp
  · rw [mGet_put_other _ _ _ _ e]; simp [e]
theorem ship_not_in {ds : List Row} {od r : Int} {l : List It.Item} (h : (shipOf ds od r l).2 = 0) : inR ds od r = false := by
  obtain ⟨d, hf, -, h1, -⟩ := ship_code h
  unfold inR
  rw [hf]
  exact h1
theorem Done.ship {ds : List Row} {md : List (List UInt8 × Value)} (h : Done ds md) {od r : Int} {l : List It.Item} (hod : -9223372036854775808 ≤ od ∧ od ≤ 9223372036854775807) (hr : -9223372036854775808 ≤ r ∧ r ≤ 9223372036854775807) (hc : (shipOf ds od r l).2 = 0) :
    Done (shipOf ds od r l).1 (mPut strK md (enc2 od r) (.bool true)) := by
  obtain ⟨d, hf, -, h1, -, -, hs⟩ := ship_code hc
  rw [hs]
  have hdod := (findR_mem hf).2
  refine ⟨fun k q hk hq => ?_⟩
  rw [inR_put]
  by_cases e : d.od = k
  · have e2 : od = k := hdod.symm.trans e
    subst e2
    rw [if_pos e]
    unfold isIn
    dsimp only
    rw [mGet_put_some]
    by_cases eq : q = r
    · subst eq
      rw [mGet_put_same]
      simp
    · rw [mGet_put_other _ _ _ _ (fun hh => eq (enc2_inj hk hq hk hr hh).2), h.op od q hk hq]
      unfold inR isIn
      rw [hf]
      simp [eq]
  · rw [if_neg e, mGet_put_other _ _ _ _ (fun hh => e (hdod.trans (enc2_inj hk hq hod hr hh).1.symm))]
    exact h.op k q hk hq

theorem keyed2 : Keyed Try.prog 67 := Keyed.of_law (Go.deep_law_laid laidOut (m := 5) (by omega) (of_decide_eq_true (by kernel_rfl)) (by kernel_rfl) (by kernel_rfl))
theorem key2 {a b : Int} (ha : -9223372036854775808 ≤ a ∧ a ≤ 9223372036854775807) (hb : -9223372036854775808 ≤ b ∧ b ≤ 9223372036854775807) : keyOf Try.prog 67 (.agg #[.int .i64 a, .int .i64 b]) = some (strK.lit (enc2 a b)) := by
  have h1 : (Lit.int .i64 a).wf = true := WalkArith.wf_i64 (by omega)
  have h2 : (Lit.int .i64 b).wf = true := WalkArith.wf_i64 (by omega)
  obtain ⟨n, hn⟩ : ∃ n, Try.prog.types.size + 1 = n + 2 := ⟨Try.prog.types.size - 1, by have : 1 ≤ Try.prog.types.size := of_decide_eq_true (by kernel_rfl); omega⟩
  have hkt : Try.prog.keyType 67 = true := by kernel_rfl
  have hca : Try.prog.cellsOf 67 = 2 := by kernel_rfl
  have hci : Try.prog.cellsOf 3 = 1 := by kernel_rfl
  have hx : ∀ a : Int, (Lit.int .i64 a).wf = true → Try.prog.keyLits (n + 1) 3 [.int .i64 a] = some [.int .i64 a] := fun a h => by
    simp only [Program.keyLits, Try.underlying3, h, and_self, if_true]
  have hk : Try.prog.keyLits (n + 2) 67 [.int .i64 a, .int .i64 b] = some [.int .i64 a, .int .i64 b] := by
    unfold Program.keyLits
    simp only [Try.underlying67, hca, hci, List.length_cons, List.length_nil, if_true]
    simp [List.range_succ, hx a h1, hx b h2]
  unfold keyOf
  simp only [Try.underlying67, hkt, Value.formed, hca, List.size_toArray, List.length_cons, List.length_nil, hn, Value.cells, hk, Option.map_some]
  rfl
end Pc
end Go.Proofs.Ytdbkkldgobkjcaa
