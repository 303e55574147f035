/-
  'for k, v := range m' over a map with int keys that the program keeps, in whatever order.
-/
import Derived.Test.YteiniahikhiadaaMaps
import Derived.Maps.RangeWalk
namespace Go.Proofs.Yteiniahikhiadaa
open Go.RowKit Go.Maps
namespace Se

theorem keyedI : Keyed Try.prog 3 := int_keyed Try.underlying3
theorem keyI {k : Int} (h0 : -9223372036854775808 ≤ k) (h1 : k ≤ 9223372036854775807) : keyOf Try.prog 3 (.int .i64 k) = some (intK.lit k) :=
  keyOf_int_mk Try.underlying3 (WalkArith.wf_i64 (by omega))
theorem wpList_look_ok_i {κ : Type} [DecidableEq κ] {K : KeyK κ} {P : Program} {w : World} {b : Nat} {m : List (κ × Value)} {ops : Array Oper} {rest : List Oper} {o : Oper} {a : Act} {Q : Exit → Act → World → Prop} (hg : o.guard = none) (x y : Operand) (tm : TypeId) (hop : o.op = Op.lookup tm x y true) (t e : TypeId) (KK : Keyed P t) (ht : P.underlying tm = some (.map t e))
    (hm : a.eval x = .map (some b)) (h : GMap K w P t b m) {z : Value} (hz : (zeroValue e).run P w = .ok z w) (key : Value) (k : κ) (hx : a.eval y = key) (hkey : keyOf P t key = some (K.lit k))
    (r : Value) (c : Bool) (hr : (mGet m k).getD z = r) (hc : (mGet m k).isSome = c) (hK : wpList P ops Q rest (a.put o.dst (.tuple #[r, .bool c])) w) :
    wpList P ops Q (o :: rest) a w := by
  refine wpList_plain hg fun K' hK' => ?_
  have hrun := h.look_ok KK ht hz hkey
  rw [hr, hc] at hrun
  unfold Oper.wp
  simp [execOp, hop, hm, hx, hrun, Result.andThen]
  exact hK' _ _ hK
/-- the keys that came are S -/
def leftI (m : List (Int × Value)) (S : List Int) (z : Lit) : Bool := Maps.has (DataW.map (mEs intK m)) z && S.all fun k => !z.sameKey (intK.lit k)
theorem leftI_nil (m : List (Int × Value)) : leftI m [] = Maps.has (DataW.map (mEs intK m)) := by
  funext z
  simp [leftI]
theorem leftI_snoc (m : List (Int × Value)) (S : List Int) (k : Int) : (fun z => leftI m S z && !z.sameKey (intK.lit k)) = leftI m (S ++ [k]) := by
  funext z
  simp only [leftI, List.all_append, List.all_cons, List.all_nil, Bool.and_true, Bool.and_assoc]
theorem leftI_lit (m : List (Int × Value)) (S : List Int) (k : Int) : leftI m S (intK.lit k) = ((mGet m k).isSome && !S.contains k) := by
  unfold leftI
  rw [mEs_has]
  congr 1
  rw [Bool.eq_iff_iff]
  simp only [List.all_eq_true, Bool.not_eq_true', intK.same, decide_eq_false_iff_not, List.contains_eq_mem]
  constructor
  · intro h hk
    exact h k hk rfl
  · intro h x hx e
    subst e
    exact h hx
/-- the range under way: the iterator's block r; S: what came -/
def Rng (P : Program) (t : TypeId) (w : World) (b r : Nat) (m : List (Int × Value)) (S : List Int) (cnt : Nat) : Prop := w.ranges (H := Value) P t hold b r m.length (.map (mEs intK m)) (leftI m S) cnt
section
variable {P : Program} {t : TypeId} {w w' : World} {b r : Nat} {m : List (Int × Value)} {S : List Int} {cnt : Nat} {ops : Array Oper} {rest : List Oper} {o : Oper} {a : Act} {Q : Exit → Act → World → Prop}
theorem Rng.kept {row : Option Nat} (h : Rng P t w b r m S cnt) (hg : w.grownBy w' row) (hb : some b ≠ row) (hr : some r ≠ row) : Rng P t w' b r m S cnt := World.ranges.kept h hg hb hr
theorem Rng.map (h : Rng P t w b r m S cnt) : GMap intK w P t b m := World.ranges.owns h
theorem Rng.ne (h : Rng P t w b r m S cnt) : r ≠ b := World.ranges.ne h
theorem Rng.lt (h : Rng P t w b r m S cnt) : r < w.heap.size := World.ranges.lt h
theorem wpList_range_g (hg : o.guard = none) (x : Operand) (tm : TypeId) (hop : o.op = Op.range tm x) (e : TypeId) (KK : Keyed P t) (ht : P.underlying tm = some (.map t e)) (hm : a.eval x = .map (some b)) (h : GMap intK w P t b m)
    (hK : ∀ w', Rng P t w' b w.heap.size m [] (Maps.size (DataW.map (mEs intK m))) → w.grownBy w' none → w'.heap.size = w.heap.size + 1 → wpList P ops Q rest (a.put o.dst (.pointer (some ⟨w.heap.size, 0, none⟩))) w') :
    wpList P ops Q (o :: rest) a w :=
  wpList_range_own (H := Value) w hg x tm hop t e KK ht hold b m.length (.map (mEs intK m)) hm h fun w' h1 h2 h3 => hK w' (by unfold Rng; rw [leftI_nil]; exact h1) h2 h3
theorem wpList_next_g (hg : o.guard = none) (it : Operand) (hop : o.op = Op.next it false) (KK : Keyed P t) (hk : P.underlying t = some (.int .i64)) (hit : a.eval it = .pointer (some ⟨r, 0, none⟩)) (h : Rng P t w b r m S cnt)
    (hDone : (∀ k, (mGet m k).isSome = true → k ∈ S) → wpList P ops Q rest (a.put o.dst (.tuple #[.bool false])) w)
    (hMore : ∀ (k : Int) (v : Value) (w' : World) (cnt' : Nat), mGet m k = some v → k ∉ S → Rng P t w' b r m (S ++ [k]) cnt' → cnt' < cnt → w.grownBy w' (some r) → w'.heap.size = w.heap.size →
      (Instr.entry (.pointer (some ⟨r, 0, none⟩))).run P w' = .ok (.tuple #[.int .i64 k, v]) w' → wpList P ops Q rest (a.put o.dst (.tuple #[.bool true, .int .i64 k, v])) w') :
    wpList P ops Q (o :: rest) a w := by
  refine wpList_next_ranges (H := Value) (α := Int) (β := Value) w hg it hop t KK hold (Value.int .i64) id (fun key kl hkey => by obtain ⟨x, rfl, _⟩ := Maps.keyOf_int_inv hk hkey; exact ⟨x, rfl⟩) (fun v y _ => ⟨v, rfl⟩) b r m.length _ (leftI m S) cnt hit h (fun _ hl => hDone fun k hs => ?_) (fun x c kl y w' cnt' hkey hlk hv hat hrg hlt hgr hsz hen => ?_)
  · have h1 := hl (intK.lit k)
    rw [leftI_lit, hs] at h1
    simpa using h1
  · obtain ⟨x', ex, rfl, -⟩ := Maps.keyOf_int_inv hk hkey
    cases ex
    change leftI m S (intK.lit x) = true at hlk
    rw [leftI_lit] at hlk
    simp only [Bool.and_eq_true, Bool.not_eq_true', List.contains_eq_mem, decide_eq_false_iff_not] at hlk
    obtain ⟨v0, hv0⟩ := Option.isSome_iff_exists.1 hlk.1
    have e : v0 = c := by
      have h1 := hat (.held undef)
      change (DataW.map (mEs intK m)).atKey (intK.lit x) (.held undef) = y.1 at h1
      rw [mEs_get, hv0] at h1
      simp only [hold, id, Option.some.injEq] at hv
      rw [← hv] at h1
      simpa using h1
    subst e
    refine hMore x v0 w' cnt' hv0 hlk.2 ?_ hlt hgr hsz hen
    unfold Rng
    rw [← leftI_snoc]
    exact hrg
end
end Se
end Go.Proofs.Yteiniahikhiadaa
