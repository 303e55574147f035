/-
  arguments opened: a slice of bytes.
-/
import Derived.Test.YtloabanhoeaidaaOpen
import Derived.Test.YtloabanhoeaidaaCeC
namespace Go.Proofs.Ytloabanhoeaidaa
open Go.ChangeShapes Go.WideShapes Go.Deep Go.RowKit Go.ChangeAt
namespace Ce
set_option maxRecDepth 100000 in
/-- an argument that is a slice of bytes -/
theorem open_bytes {H : Type} {enc : TypeId × Value → H} {W : World} {base : Nat} {v : Value} {d : DataW H} {p : List MemPlace} {held : Bool} (hval : Value.okWide Try.prog W .any base 41 v)
    (h : DataW.Trod enc Try.prog W 0 (fun _ => true) held 41 v d p) :
    ∃ L : List UInt8, BytesAt W 0 W.heap.size v L ∧ ((d = .nil ∧ L = []) ∨ ∃ es sp, d = .slice es sp ∧ es.length = L.length) := by
  obtain ⟨A, n, c, rfl⟩ := okWide_slice Try.underlying41 hval
  obtain ⟨fuel, hf⟩ := h
  rcases open_slice1 Try.underlying41 (show Try.prog.cellsOf 5 = 1 by kernel_rfl) hf with ⟨h1, h2⟩ | ⟨a, len, cap, m, n', V, D, Pl, hcs, hb, hl, hm, hmm, hx, hi⟩
  · simp only [Value.cells, List.cons.injEq, and_true] at h1
    cases h1
    simp only [Prod.mk.injEq] at h2
    exact ⟨[], BytesAt.nil _ _ _, .inl ⟨h2.1, rfl⟩⟩
  · simp only [Value.cells, List.cons.injEq, and_true] at hcs
    cases hcs
    simp only [if_true] at hmm
    subst hmm
    simp only [Prod.mk.injEq] at hx
    have hel : ∀ i, i < n → ∃ x : UInt8, W.cell? (a.add i) = some (.int .u8 (x.toNat : Int)) := by
      intro i hin
      obtain ⟨hc, ht'⟩ := hi i (by omega)
      obtain ⟨k, e1, _, hk⟩ := DataW.trod_int Try.underlying5 ht'
      have hkb : 0 ≤ k ∧ k ≤ 255 := by simpa [Lit.wf, IntKind.min, IntKind.max, IntKind.signed, IntKind.bits] using hk
      simp only [List.cons.injEq, and_true] at e1
      refine ⟨UInt8.ofNat k.toNat, ?_⟩
      rw [toNat_ofNat (by omega), show ((k.toNat : Nat) : Int) = k by omega, hc, e1]
    obtain ⟨L, hLn, hL⟩ := list_of n _ hel
    refine ⟨L, ?_, .inr ⟨_, _, hx.1, by simp [hLn]⟩⟩
    rcases Nat.eq_zero_or_pos n with h0 | h0
    · subst h0
      obtain rfl : L = [] := List.eq_nil_of_length_eq_zero hLn
      exact ⟨rfl, _, _, rfl, hl, hm, fun h => by omega⟩
    · have h1 := cell_addr (hL 0 (by omega))
      obtain ⟨b, o, sp⟩ := a
      have hsp : sp = none := by
        have := h1.1
        unfold Addr.add at this
        simpa using this
      subst hsp
      have hb : b < W.heap.size := by
        have := h1.2
        rw [addr_add] at this
        exact this
      subst hLn
      refine ⟨by rw [bytesV_length]; simp, _, _, rfl, hl, hm, fun _ => ⟨b, o, rfl, Nat.zero_le _, hb, fun j hj => ?_⟩⟩
      have hj' : j < L.length := by simpa using hj
      have := hL j hj'
      rw [addr_add] at this
      rw [this]
      unfold bytesV
      rw [List.getElem?_map, List.getElem?_eq_getElem hj']
      rfl
theorem bytes_bytes : Try.prog.bytesOf 5 = 1 := by kernel_rfl
theorem bytes_reach {H : Type} {ts : List TypeId} {ds : List (DataW H)} {j : Nat} {d : DataW H} {L : List UInt8} (h : (DataW.weightsEach Try.prog ts ds).all (· ≤ reachBytes) = true) (ht : ts[j]? = some 41) (hd : ds[j]? = some d)
    (hx : (d = .nil ∧ L = []) ∨ ∃ es sp, d = .slice es sp ∧ es.length = L.length) : L.length ≤ 140737488351232 := by
  rcases hx with ⟨_, rfl⟩ | ⟨es, sp, rfl, hl⟩
  · simp
  · have := sized_slice h ht hd Try.underlying41
    rw [bytes_bytes] at this
    unfold reachBytes at this
    omega
end Ce
end Go.Proofs.Ytloabanhoeaidaa
