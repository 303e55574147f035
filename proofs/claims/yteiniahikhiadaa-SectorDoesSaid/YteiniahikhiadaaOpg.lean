/-
  arguments opened: a slice of bytes, a slice of ints, wherever they stand.
-/
import Derived.Test.YteiniahikhiadaaCeC
import Derived.Test.YteiniahikhiadaaLaw
import Derived.SizedLaws
import Derived.Deep.Slices
import Derived.Deep.Fields
import Derived.ChangeSame
namespace Go.Proofs.Yteiniahikhiadaa
open Go.ChangeShapes Go.WideShapes Go.Deep Go.RowKit Go.ChangeAt
namespace Og
theorem cell_addr {w : World} {a : Addr} {v : Value} (h : w.cell? a = some v) : a.spot = none ∧ a.block < w.heap.size := by
  unfold World.cell? at h
  split at h
  · rename_i c _ _ hc
    refine ⟨?_, (Array.getElem?_eq_some_iff.1 hc).1⟩
    cases hs : a.spot with
    | none => rfl
    | some x => rw [hs] at h; simp at h
  · cases h
theorem addr_add (b o j : Nat) : (⟨b, o, none⟩ : Addr).add j = ⟨b, o + j, none⟩ := by unfold Addr.add; split <;> simp_all
/-- a list out of its elements' readings -/
theorem list_of {α : Type} (n : Nat) (p : Nat → α → Prop) (h : ∀ i, i < n → ∃ x, p i x) : ∃ l : List α, l.length = n ∧ ∀ i (hi : i < l.length), p i l[i] := by
  induction n with
  | zero => exact ⟨[], rfl, fun i hi => by simp at hi⟩
  | succ n ih =>
    obtain ⟨l, hl, hp⟩ := ih fun i hi => h i (by omega)
    obtain ⟨x, hx⟩ := h n (by omega)
    refine ⟨l ++ [x], by simp [hl], fun i hi => ?_⟩
    simp only [List.length_append, List.length_cons, List.length_nil] at hi
    by_cases e : i < l.length
    · rw [List.getElem_append_left e]; exact hp i e
    · obtain rfl : i = l.length := by omega
      simpa [hl] using hx
theorem spot_none {W : World} {a : Addr} {v : Value} (h : W.cell? a = some v) : ∃ b o, a = ⟨b, o, none⟩ ∧ b < W.heap.size := by
  have h1 := cell_addr h
  obtain ⟨b, o, sp⟩ := a
  obtain ⟨h1, h2⟩ := h1
  simp only at h1 h2
  subst h1
  exact ⟨b, o, rfl, h2⟩
theorem add_zero (a : Addr) : a.add 0 = a := by unfold Addr.add; simp
set_option maxRecDepth 100000 in
theorem bytes_of_trod {H : Type} {enc : TypeId × Value → H} {W : World} {v : Value} {x : DataW H × List MemPlace} {held : Bool} {fuel : Nat} (hf : DataW.trod enc Try.prog W 0 (fun _ => true) held fuel 34 [v] = some x) :
    ∃ L : List UInt8, Ce.BytesAt W 0 W.heap.size v L ∧ ((x.1 = .nil ∧ L = []) ∨ ∃ es sp, x.1 = .slice es sp ∧ es.length = L.length) := by
  rcases open_slice1 Try.underlying34 (show Try.prog.cellsOf 5 = 1 by kernel_rfl) hf with ⟨h1, h2⟩ | ⟨a, n, c, m, n', V, D, Pl, hcs, hb, hl, hm, hmm, hx, hi⟩
  · simp only [List.cons.injEq, and_true] at h1
    cases h1
    exact ⟨[], Ce.BytesAt.nil _ _ _, .inl ⟨by rw [h2], rfl⟩⟩
  · simp only [List.cons.injEq, and_true] at hcs
    cases hcs
    simp only [if_true] at hmm
    subst hmm
    have hel : ∀ i, i < n → ∃ x : UInt8, W.cell? (a.add i) = some (.int .u8 (x.toNat : Int)) := by
      intro i hin
      obtain ⟨hc, ht'⟩ := hi i (by omega)
      obtain ⟨k, e1, _, hk⟩ := DataW.trod_int Try.underlying5 ht'
      have hkb : 0 ≤ k ∧ k ≤ 255 := by simpa [Lit.wf, IntKind.min, IntKind.max, IntKind.signed, IntKind.bits] using hk
      simp only [List.cons.injEq, and_true] at e1
      refine ⟨UInt8.ofNat k.toNat, ?_⟩
      rw [Ce.toNat_ofNat (by omega), show ((k.toNat : Nat) : Int) = k by omega, hc, e1]
    obtain ⟨L, hLn, hL⟩ := list_of n _ hel
    refine ⟨L, ?_, .inr ⟨_, _, by rw [hx], by simp [hLn]⟩⟩
    rcases Nat.eq_zero_or_pos n with h0 | h0
    · subst h0
      obtain rfl : L = [] := List.eq_nil_of_length_eq_zero hLn
      exact ⟨rfl, _, _, rfl, hl, hm, fun h => by omega⟩
    · have h00 := hL 0 (by omega)
      rw [add_zero] at h00
      obtain ⟨b, o, rfl, hbW⟩ := spot_none h00
      subst hLn
      refine ⟨by rw [Ce.bytesV_length]; simp, _, _, rfl, hl, hm, fun _ => ⟨b, o, rfl, Nat.zero_le _, hbW, fun j hj => ?_⟩⟩
      have hj' : j < L.length := by simpa using hj
      have := hL j hj'
      rw [addr_add] at this
      rw [this]
      unfold Ce.bytesV
      rw [List.getElem?_map, List.getElem?_eq_getElem hj']
      rfl
set_option maxRecDepth 100000 in
theorem ints_of_trod {H : Type} {enc : TypeId × Value → H} {W : World} {v : Value} {x : DataW H × List MemPlace} {held : Bool} {fuel : Nat} (hf : DataW.trod enc Try.prog W 0 (fun _ => true) held fuel 41 [v] = some x) :
    ∃ L : List Int, IntsAt W 0 W.heap.size v L ∧ (∀ k ∈ L, -9223372036854775808 ≤ k ∧ k ≤ 9223372036854775807) ∧ ((x.1 = .nil ∧ L = []) ∨ ∃ es sp, x.1 = .slice es sp ∧ es.length = L.length) := by
  rcases open_slice1 Try.underlying41 (show Try.prog.cellsOf 3 = 1 by kernel_rfl) hf with ⟨h1, h2⟩ | ⟨a, n, c, m, n', V, D, Pl, hcs, hb, hl, hm, hmm, hx, hi⟩
  · simp only [List.cons.injEq, and_true] at h1
    cases h1
    exact ⟨[], IntsAt.nil _ _ _, (fun k hk => by cases hk), .inl ⟨by rw [h2], rfl⟩⟩
  · simp only [List.cons.injEq, and_true] at hcs
    cases hcs
    simp only [if_true] at hmm
    subst hmm
    have hel : ∀ i, i < n → ∃ k : Int, W.cell? (a.add i) = some (.int .i64 k) ∧ -9223372036854775808 ≤ k ∧ k ≤ 9223372036854775807 := by
      intro i hin
      obtain ⟨hc, ht'⟩ := hi i (by omega)
      obtain ⟨k, e1, _, hk⟩ := DataW.trod_int Try.underlying3 ht'
      simp only [List.cons.injEq, and_true] at e1
      exact ⟨k, by rw [hc, e1], by simpa [Lit.wf, IntKind.min, IntKind.max, IntKind.signed, IntKind.bits] using hk⟩
    obtain ⟨L, hLn, hL⟩ := list_of n _ hel
    refine ⟨L, ?_, (fun k hk => by obtain ⟨i, hi, rfl⟩ := List.getElem_of_mem hk; exact (hL i hi).2), .inr ⟨_, _, by rw [hx], by simp [hLn]⟩⟩
    rcases Nat.eq_zero_or_pos n with h0 | h0
    · subst h0
      obtain rfl : L = [] := List.eq_nil_of_length_eq_zero hLn
      exact ⟨rfl, _, _, rfl, hl, hm, fun h => by omega⟩
    · have h00 := (hL 0 (by omega)).1
      rw [add_zero] at h00
      obtain ⟨b, o, rfl, hbW⟩ := spot_none h00
      subst hLn
      refine ⟨by unfold ints; simp, _, _, rfl, hl, hm, fun _ => ⟨b, o, rfl, Nat.zero_le _, hbW, fun j hj => ?_⟩⟩
      have hj' : j < L.length := by simpa using hj
      have := (hL j hj').1
      rw [addr_add] at this
      rw [this]
      unfold ints
      rw [List.getElem?_map, List.getElem?_eq_getElem hj']
      rfl
end Og
end Go.Proofs.Yteiniahikhiadaa
