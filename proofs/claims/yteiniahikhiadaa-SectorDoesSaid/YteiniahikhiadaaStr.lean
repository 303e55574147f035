/-
  string(b) of bytes in memory.
-/
import Derived.Test.YteiniahikhiadaaCeC
import Derived.Laws.IdiomStrings
import Derived.Laws.OwnMore
import Derived.Laws.MakeOwn
namespace Go.Proofs.Yteiniahikhiadaa
open Go.RowKit
namespace Se
open Ce
theorem string_at {P : Program} {w : World} {src dst e : TypeId} (hs : P.underlying src = some (.slice e)) (he : P.underlying e = some (.int .u8)) (hd : P.underlying dst = some .string) {lo B n c : Nat} {A : Option Addr} {l : List UInt8}
    (h : BytesAt w lo B (.slice A n c) l) : (convert src dst (.slice A n c)).run P w = .ok (.string ⟨l.toArray⟩) w := by
  obtain ⟨A', c', e', h1, h2, h3⟩ := h.at_
  have hl : n = l.length := by cases e'; rfl
  cases e'
  match l, hl with
  | [], _ =>
    rw [run_convert_bytes_string w src dst e A _ c hs he hd]
    cases A <;> simp [Conv.bytesToString] <;> rfl
  | x :: r, _ =>
    obtain ⟨b, o, rfl, _, _, hc⟩ := h3 (by simp)
    refine run_convert_bytes_back w src dst e ⟨b, o, none⟩ c (x :: r) hs he hd fun j hj => ?_
    have e1 : (⟨b, o, none⟩ : Addr).add j = ⟨b, o + j, none⟩ := by unfold Addr.add; split <;> simp_all
    rw [e1, hc j (by omega)]
    unfold bytesV
    rw [List.getElem?_map, List.getElem?_eq_getElem hj]
    rfl
theorem string_of (w : World) {lo B n c : Nat} {A : Option Addr} {l : List UInt8} (h : BytesAt w lo B (.slice A n c) l) : (convert 34 9 (.slice A n c)).run Try.prog w = .ok (.string ⟨l.toArray⟩) w :=
  string_at Try.underlying34 Try.underlying5 Try.underlying9 h
theorem madeBytes (n : Nat) : (madeCells (Value.int .u8 0).cells (n * 1)).toList = bytesV (List.replicate n 0) := by
  have hz : (Value.int .u8 0).cells = #[.int .u8 0] := rfl
  unfold madeCells bytesV
  rw [hz]
  apply List.ext_getElem
  · simp
  · intro i h1 h2
    simp [Nat.mod_one]
theorem byteInfo : (Try.prog.info? 5).map (fun i => (i.zero, i.size, i.bytes)) = some (some (.int .u8 0), 1, 1) := by kernel_rfl
/-- make([]byte, n) -/
theorem make_bytes (n : Nat) (w : World) (hn : n ≤ 281474976710656) : ∃ w', (Instr.makeSlice 34 (.int .i64 (n : Int)) (.int .i64 (n : Int))).run Try.prog w = .ok (.slice (some ⟨w.heap.size, 0, none⟩) n n) w' ∧
    w'.ownsRow w.heap.size 5 1 (.slice (some ⟨w.heap.size, 0, none⟩) n n) n (bytesV (List.replicate n 0)) ∧ w.grownBy w' none := by
  obtain ⟨i0, hi0, hz0⟩ := Option.map_eq_some_iff.1 byteInfo
  simp only [Prod.mk.injEq] at hz0
  obtain ⟨hz0, hz1, hz2⟩ := hz0
  obtain ⟨w1, h1, h2, h3⟩ := run_make_full (P := Try.prog) w w.heap.size 34 5 i0 _ 1 Try.underlying34 hi0 hz0 hz1 .i64 .i64 n (by rw [hz2]; omega) (by unfold maxLen; omega) (Nat.le_refl _)
  rw [madeBytes] at h2
  exact ⟨w1, h1, h2, h3⟩
end Se
end Go.Proofs.Yteiniahikhiadaa
